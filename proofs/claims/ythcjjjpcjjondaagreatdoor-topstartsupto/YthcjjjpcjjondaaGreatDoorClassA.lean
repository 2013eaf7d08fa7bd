/- Classes by themselves: Args, Handlers. -/
import Derived.Test.YthcjjjpcjjondaaGreatDoorFlow
import Derived.Test.YthcjjjpcjjondaaGreatDoorCRep
namespace Go.Proofs.YthcjjjpcjjondaaGreatDoor
open Go.RowKit
set_option linter.unusedVariables false
set_option linter.unusedSimpArgs false
set_option linter.unnecessarySimpa false

def IntPost (c : Int) (w : World) (e : Ending) (w' : World) : Prop := e = .returned (.int .i64 c) ∧ Below w.heap.size w w'
def methV (m : Meth) (cv hv : Value) : Value := .agg (methA m cv hv)

set_option maxHeartbeats 1000000 in
theorem args_any (m : Meth) (cv hv : Value) (w : World) (hs : m.ty.size ≤ 1099511627775) : Calls Tryz.prog 196 #[methV m cv hv] w (IntPost (argsN m) w) := by
  obtain ⟨nm, ty, static, abstract, priv, locals, code, hs0⟩ := m
  unfold methV methA
  simp only [] at hs ⊢
  have H : Hid (argsN ⟨nm, ty, static, abstract, priv, locals, code, hs0⟩ = match methodOf ty with
    | none => 0
    | some (args, _) => if static then args.length else args.length + 1) := Lib.hid rfl
  generalize argsN ⟨nm, ty, static, abstract, priv, locals, code, hs0⟩ = r at *
  clear hs0 code
  go_enter Tryz.func196, Tryz.ntmps196
  go_wp2_with fail
  refine (method_any _ _ (by omega)).mono ?_
  rintro e w1 ⟨he, hb1⟩
  have hz1 := box_lt hb1
  have b2 := box_at hb1 2
  simp only [List.getElem?_toArray, List.getElem?_cons_zero, List.getElem?_cons_succ] at b2
  have HT := bel_then ((Below.refl w.heap.size w).alloc (Nat.le_refl _) _) hb1
  cases hm : methodOf ty with
  | none =>
    rw [hm] at he
    have H2 := H.out
    rw [hm] at H2
    replace H2 := Lib.hid H2
    simp only [] at he
    subst he
    rw [errV_ne (by decide)]
    clear hm H
    go_wp2
    go_ret
    exact ⟨by rw [H2.out]; rfl, HT⟩
  | some p =>
    obtain ⟨args, gives⟩ := p
    rw [hm] at he
    have H2 := H.out
    rw [hm] at H2
    replace H2 := Lib.hid H2
    simp only [] at he
    obtain ⟨v, rfl, hv⟩ := he
    obtain ⟨A, cap, he, h1, h2⟩ := (own_strs hv).form
    have hlen : args.length ≤ 9223372036854775806 := by
      have h5 : args.length ≤ 5 := by
        unfold methodOf methodL at hm
        split at hm
        · split at hm
          · cases hm
          · split at hm
            · rename_i hx
              simp only [Option.map_some, Option.some.injEq, Prod.mk.injEq] at hm
              rw [← hm.1]; exact hx.1
            · cases hm
        · cases hm
      omega
    rw [errV_0, he]
    clear hm H he hv
    cases static
    · go_wp2
      go_ret
      exact ⟨by rw [H2.out]; rfl, HT⟩
    · go_wp2
      go_ret
      exact ⟨by rw [H2.out]; rfl, HT⟩

set_option maxRecDepth 100000 in
set_option maxHeartbeats 2000000 in
theorem handlers_any (m : Meth) (cv hv : Value) (w : World) (hp : MethP w m cv hv) : Calls Tryz.prog 33 #[methV m cv hv] w (ErrPost (handlersErr m) w) := by
  obtain ⟨nm, ty, static, abstract, priv, locals, code, hs⟩ := m
  obtain ⟨hcode, hhs, _, _⟩ := hp
  simp only [] at hcode hhs
  obtain ⟨Ac, capc, rfl, hc1, hc2⟩ := hcode.form
  have HF : Hid (handlersErr ⟨nm, ty, static, abstract, priv, locals, code, hs⟩ = if hansErr code.length hs ≠ 0 then hansErr code.length hs else if 8 < hs.length then 4 else 0) := Lib.hid rfl
  generalize handlersErr ⟨nm, ty, static, abstract, priv, locals, code, hs⟩ = r at *
  clear hcode
  unfold methV methA
  cases hlc : hs with
  | nil =>
    subst hlc
    obtain ⟨A, cap, rfl, h3⟩ := hhs.empty
    have H := HF.out
    simp only [hansErr, ne_eq, not_true_eq_false, if_false, List.length_nil, Nat.not_lt_zero] at H
    replace H := Lib.hid H
    clear hhs HF
    go_enter Tryz.func33, Tryz.ntmps33
    go_wp2
    go_loop [8] (fun i => i = .int .i64 0) (fun _ => 0)
    case atStart => rfl
    case round =>
      subst hrel
      go_wp2
      go_ret
      exact ep_ok H.out rfl ((Below.refl w.heap.size w).alloc (Nat.le_refl _) _)
  | cons x0 l0 =>
  have hne : hs ≠ [] := by rw [hlc]; simp
  rw [← hlc]
  clear hlc x0 l0
  obtain ⟨b, off, cap, rfl, h2, h3, hcell⟩ := HanSl.some hhs hne
  unfold maxLen at h3 hc2
  have hn0 : 0 < hs.length := List.length_pos_iff.2 hne
  have HC := Lib.hid hcell
  clear hhs hcell hne
  go_enter Tryz.func33, Tryz.ntmps33
  go_wp2
  have HB0 := (Below.refl w.heap.size w).alloc (Nat.le_refl _) (.cells #[Value.string nm, Value.string ty, Value.bool static, Value.bool abstract, Value.bool priv, Value.int .i64 locals, Value.slice Ac code.length capc, Value.slice (some ⟨b, off, none⟩) hs.length cap] 44)
  have c6 := World.cell?_alloc_new w #[Value.string nm, Value.string ty, Value.bool static, Value.bool abstract, Value.bool priv, Value.int .i64 locals, Value.slice Ac code.length capc, Value.slice (some ⟨b, off, none⟩) hs.length cap] 44 6
  have c7 := World.cell?_alloc_new w #[Value.string nm, Value.string ty, Value.bool static, Value.bool abstract, Value.bool priv, Value.int .i64 locals, Value.slice Ac code.length capc, Value.slice (some ⟨b, off, none⟩) hs.length cap] 44 7
  simp only [List.getElem?_toArray, List.getElem?_cons_zero, List.getElem?_cons_succ] at c6 c7
  have hz0 : w.heap.size < (w.alloc (.cells #[Value.string nm, Value.string ty, Value.bool static, Value.bool abstract, Value.bool priv, Value.int .i64 locals, Value.slice Ac code.length capc, Value.slice (some ⟨b, off, none⟩) hs.length cap] 44)).heap.size := by simp
  generalize w.alloc (.cells #[Value.string nm, Value.string ty, Value.bool static, Value.bool abstract, Value.bool priv, Value.int .i64 locals, Value.slice Ac code.length capc, Value.slice (some ⟨b, off, none⟩) hs.length cap] 44) = W0 at *
  go_loopw [8] (fun i wr => ∃ k : Nat, i = .int .i64 k ∧ k ≤ hs.length ∧ Below W0.heap.size W0 wr ∧ Hid (hansErr code.length hs = hansErr code.length (hs.drop k))) (fun i _ => hs.length - (intOf i).toNat)
  case atStart => exact ⟨0, rfl, Nat.zero_le _, Below.refl _ _, rfl⟩
  case round =>
    obtain ⟨k, rfl, hk, hb, HE⟩ := hrel
    have c6' := cell_below hb c6
    have c7' := cell_below hb c7
    have hz1 : w.heap.size < wr.heap.size := Nat.lt_of_lt_of_le hz0 hb.size
    have HT : Below w.heap.size w wr := HB0.trans (hb.mono (Nat.le_of_lt hz0))
    by_cases hkn : k < hs.length
    · obtain ⟨h4, hsm⟩ := HC.out k hkn
      obtain ⟨d0, d1, d2, d3⟩ := (h4.below HB0).below hb
      have HST : Hid (hansErr code.length (hs.drop k) = if hanBad code.length hs[k] then 2 else if isName hs[k].cls then hansErr code.length (hs.drop (k + 1)) else 1) := by
        apply Lib.hid; rw [List.drop_eq_getElem_cons hkn]; rfl
      clear h4
      generalize hs[k] = h at *
      have HB1 := HT.alloc HT.size (.cells #[.int .i64 h.from_, .int .i64 h.to_, .int .i64 h.at_, .string h.cls] 94)
      by_cases hbad : h.from_ < 0 ∨ h.to_ ≤ h.from_ ∨ (code.length : Int) < h.to_ ∨ h.at_ < 0 ∨ (code.length : Int) ≤ h.at_
      · have HH : Hid (r = 2) := by
          have e : hanBad code.length h = true := by unfold hanBad; simpa [or_assoc] using hbad
          apply Lib.hid; rw [HF.out, HE.out, HST.out, if_pos e]; rfl
        have HBAD := Lib.hid hbad
        clear HE HST hbad
        go_wp2
        all_goals first
          | (go_ret; exact ep_mk HH.out (by decide) rfl HB1)
          | (exfalso; have := HBAD.out; omega)
      · have e : hanBad code.length h = false := by
          unfold hanBad
          simpa [and_assoc] using hbad
        have HST2 : Hid (hansErr code.length (hs.drop k) = if isName h.cls then hansErr code.length (hs.drop (k + 1)) else 1) := by
          apply Lib.hid; rw [HST.out, e]; rfl
        have g1 : ¬ h.from_ < 0 := fun x => hbad (.inl x)
        have g2 : ¬ h.to_ ≤ h.from_ := fun x => hbad (.inr (.inl x))
        have g3 : ¬ (code.length : Int) < h.to_ := fun x => hbad (.inr (.inr (.inl x)))
        have g4 : ¬ h.at_ < 0 := fun x => hbad (.inr (.inr (.inr (.inl x))))
        have g5 : ¬ (code.length : Int) ≤ h.at_ := fun x => hbad (.inr (.inr (.inr (.inr x))))
        clear HST hbad e
        go_wp2_with fail
        refine (nameCheck _ _ (by omega)).mono ?_
        rintro e w3 ⟨rfl, hb3⟩
        have HB3 : Below W0.heap.size W0 w3 := hb.trans ((bel_then ((Below.refl wr.heap.size wr).alloc (Nat.le_refl _) _) hb3).mono hb.size)
        have HT3 : Below w.heap.size w w3 := HB0.trans (HB3.mono (Nat.le_of_lt hz0))
        cases hn : isName h.cls
        · rw [show nameErr h.cls = 1 by unfold nameErr; rw [hn]; rfl, errV_ne (by decide)]
          have HH : Hid (r = 1) := by
            apply Lib.hid; rw [HF.out, HE.out, HST2.out, hn]; rfl
          clear HE HST2 hn
          go_wp2
          go_ret
          exact ep_mk HH.out (by decide) rfl HT3
        · rw [show nameErr h.cls = 0 by unfold nameErr; rw [hn]; rfl, errV_0]
          have HE' : Hid (hansErr code.length hs = hansErr code.length (hs.drop (k + 1))) := by
            apply Lib.hid; rw [HE.out, HST2.out, hn]; rfl
          clear HE HST2 hn
          go_wp2
          go_roundw
          case rel => exact ⟨k + 1, by go_num, by omega, HB3, HE'⟩
          case measure => simp [intOf]; omega
    · have hke : k = hs.length := by omega
      have HF2 : Hid (r = if 8 < hs.length then 4 else 0) := by
        apply Lib.hid; rw [HF.out, HE.out, hke, List.drop_length]; rfl
      clear HE HF hke
      by_cases h8 : 8 < hs.length
      · have h8' : (8 : Int) < (hs.length : Int) := by omega
        have H := HF2.out
        rw [if_pos h8] at H
        replace H := Lib.hid H
        clear HF2 h8
        go_wp2
        go_ret
        exact ep_mk H.out (by decide) rfl HT
      · have h8' : ¬ (8 : Int) < (hs.length : Int) := by omega
        have H := HF2.out
        rw [if_neg h8] at H
        replace H := Lib.hid H
        clear HF2 h8
        go_wp2
        go_ret
        exact ep_ok H.out rfl HT
end Go.Proofs.YthcjjjpcjjondaaGreatDoor
