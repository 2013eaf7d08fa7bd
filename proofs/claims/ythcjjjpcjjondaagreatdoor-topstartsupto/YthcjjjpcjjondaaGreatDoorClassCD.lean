/- Classes by themselves: is a method among those ahead? -/
import Derived.Test.YthcjjjpcjjondaaGreatDoorClassB
namespace Go.Proofs.YthcjjjpcjjondaaGreatDoor
open Go.RowKit
set_option linter.unusedVariables false
set_option linter.unusedSimpArgs false
set_option linter.unnecessarySimpa false

/-- The first place at which p holds; -1: none. -/
def findAt {α : Type} (p : α → Bool) : List α → Nat → Int
  | [], _ => -1
  | x :: l, i => if p x then (i : Int) else findAt p l (i + 1)
theorem findAt_drop {α : Type} (p : α → Bool) {l : List α} {k : Nat} (hk : k < l.length) : findAt p (l.drop k) k = if p l[k] then (k : Int) else findAt p (l.drop (k + 1)) (k + 1) := by
  rw [List.drop_eq_getElem_cons hk]; rfl
theorem findAt_any {α : Type} (p : α → Bool) (l : List α) : ∀ i : Nat, decide (0 ≤ findAt p l i) = l.any p := by
  induction l with
  | nil => intro i; rfl
  | cons x l ih =>
    intro i
    rw [findAt, List.any_cons]
    cases h : p x
    · rw [if_neg (by simp)]; simpa using ih (i + 1)
    · rw [if_pos rfl]; simp
theorem toList_beq (s t : Str) : (s.toList == t.toList) = decide (s = t) := by
  by_cases h : s = t
  · subst h; simp
  · have : ¬ s.toList = t.toList := by
      intro e; rw [Lib.toList_data, Lib.toList_data] at e; exact h (bytes_inj e)
    rw [decide_eq_false h]; simpa using this

def sameMeth (m x : Meth) : Bool := decide (x.nm = m.nm) && decide (x.ty = m.ty)
set_option maxHeartbeats 1000000 in
theorem sameMeth_any (m x : Meth) (cv hv : Value) (b : Nat) (w : World) (h0 : w.cell? ⟨b, 0, none⟩ = some (.string m.nm)) (h1 : w.cell? ⟨b, 1, none⟩ = some (.string m.ty)) :
    Calls Tryz.prog 150 #[methV x cv hv, .pointer (some ⟨b, 0, none⟩)] w (BoolPost (sameMeth m x) w) := by
  have H : Hid (sameMeth m x = ((x.nm.toList == m.nm.toList) && (x.ty.toList == m.ty.toList))) := by
    apply Lib.hid; unfold sameMeth; rw [toList_beq, toList_beq]
  obtain ⟨nm, ty, static, abstract, priv, locals, code, hs⟩ := x
  unfold methV methA
  simp only [] at H ⊢
  generalize sameMeth m ⟨nm, ty, static, abstract, priv, locals, code, hs⟩ = r at *
  have hlt := World.block_lt_of_cell? w _ h0
  simp only [] at hlt
  have hb := Below.refl w.heap.size w
  have e0 : ∀ o, (w.alloc o).cell? ⟨b, 0, none⟩ = some (.string m.nm) := fun o => cell_below (hb.alloc (Nat.le_refl _) o) h0
  have e1 : ∀ o, (w.alloc o).cell? ⟨b, 1, none⟩ = some (.string m.ty) := fun o => cell_below (hb.alloc (Nat.le_refl _) o) h1
  generalize m.nm = mn at *
  generalize m.ty = mt at *
  go_enter Tryz.func150, Tryz.ntmps150
  go_wp2
  all_goals
    go_ret
    exact bp_alloc _ (by rw [H.out]; simp [*])

set_option maxHeartbeats 2000000 in
theorem indexMeth_any (m : Meth) (v : Value) (l : List Meth) (b : Nat) (w : World) (hl : MethSl w v l) (h0 : w.cell? ⟨b, 0, none⟩ = some (.string m.nm)) (h1 : w.cell? ⟨b, 1, none⟩ = some (.string m.ty)) :
    Calls Tryz.prog 25 #[v, .func (.func 150) #[] #[.pointer (some ⟨b, 0, none⟩)]] w (IntPost (findAt (sameMeth m) l 0) w) := by
  cases hlc : l with
  | nil =>
    subst hlc
    obtain ⟨A, cap, rfl, h3⟩ := hl.empty
    have H : Hid (findAt (sameMeth m) [] 0 = -1) := Lib.hid rfl
    clear hl h0 h1
    go_enter Tryz.func25, Tryz.ntmps25
    go_wp2
    go_loop [8] (fun i => i = .int .i64 0) (fun _ => 0)
    case atStart => rfl
    case round =>
      subst hrel
      go_wp2
      go_ret
      exact ⟨by rw [H.out]; rfl, Below.refl _ _⟩
  | cons x0 l0 =>
  have hne : l ≠ [] := by rw [hlc]; simp
  rw [← hlc]
  clear hlc x0 l0
  obtain ⟨bs, off, cap, rfl, h2, h3, hcell⟩ := MethSl.some hl hne
  unfold maxLen at h3
  have HC := Lib.hid hcell
  have HS := Lib.hid (fun x cv hv w1 hc0 hc1 => sameMeth_any m x cv hv b w1 hc0 hc1)
  have HFD := Lib.hid (fun k (hk : k < l.length) => findAt_drop (sameMeth m) hk)
  have H0 := Lib.hid h0
  have H1 := Lib.hid h1
  generalize sameMeth m = p at *
  clear hl hcell hne h0 h1
  go_enter Tryz.func25, Tryz.ntmps25
  go_wp2
  go_loopw [8] (fun i wr => ∃ k : Nat, i = .int .i64 k ∧ k ≤ l.length ∧ Below w.heap.size w wr ∧ Hid (findAt p l 0 = findAt p (l.drop k) k)) (fun i _ => l.length - (intOf i).toNat)
  case atStart => exact ⟨0, rfl, Nat.zero_le _, Below.refl _ _, rfl⟩
  case round =>
    obtain ⟨k, rfl, hk, hb, HE⟩ := hrel
    by_cases hkn : k < l.length
    · obtain ⟨cv, hv, h8, _⟩ := HC.out k hkn
      obtain ⟨d0, d1, d2, d3, d4, d5, d6, d7⟩ := h8.below hb
      have HST := Lib.hid (HFD.out k hkn)
      clear h8
      generalize l[k] = x at *
      go_wp2_with fail
      refine (HS.out x cv hv _ (cell_below hb H0.out) (cell_below hb H1.out)).mono ?_
      rintro e w3 ⟨rfl, hb3⟩
      have HB3 : Below w.heap.size w w3 := bel_then hb hb3
      cases hn : p x
      · have HE' : Hid (findAt p l 0 = findAt p (l.drop (k + 1)) (k + 1)) := by
          apply Lib.hid; rw [HE.out, HST.out, hn]; rfl
        clear HE HST hn
        go_wp2
        go_roundw
        case rel => exact ⟨k + 1, by go_num, by omega, HB3, HE'⟩
        case measure => simp [intOf]; omega
      · have HE' : Hid (findAt p l 0 = (k : Int)) := by
          apply Lib.hid; rw [HE.out, HST.out, hn]; rfl
        clear HE HST hn
        go_wp2
        go_ret
        exact ⟨by rw [HE'.out]; rfl, HB3⟩
    · have hke : k = l.length := by omega
      have H : Hid (findAt p l 0 = -1) := by
        apply Lib.hid; rw [HE.out, hke, List.drop_length]; rfl
      clear HE hke
      go_wp2
      go_ret
      exact ⟨by rw [H.out]; rfl, hb⟩

theorem containsMeth_any (m : Meth) (v : Value) (l : List Meth) (b : Nat) (w : World) (hl : MethSl w v l) (h0 : w.cell? ⟨b, 0, none⟩ = some (.string m.nm)) (h1 : w.cell? ⟨b, 1, none⟩ = some (.string m.ty)) :
    Calls Tryz.prog 149 #[v, .func (.func 150) #[] #[.pointer (some ⟨b, 0, none⟩)]] w (BoolPost (l.any (sameMeth m)) w) := by
  have H := Lib.hid (findAt_any (sameMeth m) l 0)
  have HC := Lib.hid (indexMeth_any m v l b w hl h0 h1)
  clear hl h0 h1
  generalize findAt (sameMeth m) l 0 = i at *
  go_enter Tryz.func149, Tryz.ntmps149
  go_wp2_with fail
  refine HC.out.mono ?_
  rintro e w1 ⟨rfl, hb1⟩
  go_wp2
  go_ret
  exact ⟨by rw [← H.out]; rfl, hb1⟩
end Go.Proofs.YthcjjjpcjjondaaGreatDoor

/- Classes by themselves: a method. -/
namespace Go.Proofs.YthcjjjpcjjondaaGreatDoor
open Go.RowKit

theorem body_any (m : Meth) (cv hv : Value) (w : World) (hG : FormsLaid w) (hp : MethP w m cv hv) : Calls Tryz.prog 151 #[methV m cv hv] w (ErrPost (bodyErr m) w) := by
  cases h : m.abstract
  · exact body_con m cv hv w hG hp h
  · exact body_abs m cv hv w hp h
theorem Meth8.zero {w : World} {b : Nat} {m : Meth} {cv hv : Value} (k : Meth8 w b 0 m cv hv) :
  w.cell? ⟨b, 0, none⟩ = some (.string m.nm) ∧ w.cell? ⟨b, 1, none⟩ = some (.string m.ty) ∧ w.cell? ⟨b, 2, none⟩ = some (.bool m.static) ∧ w.cell? ⟨b, 3, none⟩ = some (.bool m.abstract) ∧ w.cell? ⟨b, 4, none⟩ = some (.bool m.priv) ∧ w.cell? ⟨b, 5, none⟩ = some (.int .i64 m.locals) ∧ w.cell? ⟨b, 6, none⟩ = some cv ∧ w.cell? ⟨b, 7, none⟩ = some hv := by
  obtain ⟨e0, e1, e2, e3, e4, e5, e6, e7⟩ := k
  simp only [Nat.zero_add] at e0 e1 e2 e3 e4 e5 e6 e7
  exact ⟨e0, e1, e2, e3, e4, e5, e6, e7⟩

set_option maxRecDepth 100000 in
set_option maxHeartbeats 2000000 in
theorem method_check (m : Meth) (cv hv av : Value) (ahead : List Meth) (w : World) (hG : FormsLaid w) (hp : MethP w m cv hv) (ha : MethSl w av ahead) :
    Calls Tryz.prog 84 #[methV m cv hv, av] w (ErrPost (methErr m ahead) w) := by
  have HF : Hid (methErr m ahead = if isName m.nm = false then 1
    else if (methodOf m.ty).isNone then 1
    else if ahead.any (sameMeth m) then 5
    else if m.locals < 0 ∨ 8 < m.locals then 2
    else bodyErr m) := Lib.hid rfl
  have HB0 := (Below.refl w.heap.size w).alloc (Nat.le_refl _) (.cells (methA m cv hv) 44)
  have hbox := mbox_new w m cv hv
  have hz0 : w.heap.size < (w.alloc (.cells (methA m cv hv) 44)).heap.size := by simp
  have hp0 := hp.below HB0
  have hG0 := hG.below HB0
  have ha0 := ha.below mono_meth HB0
  have hnm := hp.2.2.1
  have hty := hp.2.2.2
  have HC := Lib.hid (fun b w1 (h : MethSl w1 av ahead) h0 h1 => containsMeth_any m av ahead b w1 h h0 h1)
  have HH := Lib.hid (fun w1 (hg : FormsLaid w1) (h : MethP w1 m cv hv) => body_any m cv hv w1 hg h)
  clear hp hG ha
  generalize ahead.any (sameMeth m) = inA at *
  generalize hmo : methodOf m.ty = mo at *
  have HMO := Lib.hid hmo
  clear hmo
  obtain ⟨nm, ty, static, abstract, priv, locals, code, hs⟩ := m
  generalize methErr ⟨nm, ty, static, abstract, priv, locals, code, hs⟩ ahead = r at *
  generalize bodyErr ⟨nm, ty, static, abstract, priv, locals, code, hs⟩ = br at *
  unfold methV at HH ⊢
  unfold methA at *
  simp only [] at *
  go_enter Tryz.func84, Tryz.ntmps84
  go_upto_region 1 with (fail)
  generalize w.alloc (.cells #[Value.string nm, Value.string ty, Value.bool static, Value.bool abstract, Value.bool priv, Value.int .i64 locals, cv, hv] 44) = W0 at *
  have HBX := Lib.hid hbox
  obtain ⟨e0, e1, e2, e3, e4, e5, e6, e7⟩ := hbox.zero
  simp only [] at e0 e1 e2 e3 e4 e5
  have HP0 := Lib.hid hp0
  have HG0 := Lib.hid hG0
  have HA0 := Lib.hid ha0
  clear hp0 hG0 ha0 hbox
  go_wp2_with fail
  refine (nameCheck nm _ (by omega)).mono ?_
  rintro e w1 ⟨rfl, hb1⟩
  have HT1 : Below w.heap.size w w1 := HB0.trans (hb1.mono (Nat.le_of_lt hz0))
  cases hn : isName nm
  case false =>
    rw [show nameErr nm = 1 by unfold nameErr; rw [hn]; rfl, errV_ne (by decide)]
    have H : Hid (r = 1) := by apply Lib.hid; rw [HF.out, if_pos hn]
    clear HF hn
    go_wp2
    go_ret
    exact ep_mk H.out (by decide) rfl HT1
  rw [show nameErr nm = 0 by unfold nameErr; rw [hn]; rfl, errV_0]
  have HF2 := HF.out
  rw [hn] at HF2
  simp only [Bool.true_eq_false, if_false] at HF2
  replace HF2 := Lib.hid HF2
  clear HF hn
  obtain ⟨d0, d1, d2, d3, d4, d5, d6, d7⟩ := (HBX.out.below hb1).zero
  simp only [] at d0 d1 d2 d3 d4 d5
  clear e0 e1 e2 e3 e4 e5 e6 e7
  go_wp2_with fail
  refine (method_any ty _ (by omega)).mono ?_
  rintro e w2 ⟨he, hb2⟩
  rw [HMO.out] at he
  have hb12 := bel_then hb1 hb2
  have HT2 : Below w.heap.size w w2 := HB0.trans (hb12.mono (Nat.le_of_lt hz0))
  obtain ⟨e0, e1, e2, e3, e4, e5, e6, e7⟩ := (HBX.out.below hb12).zero
  simp only [] at e0 e1 e2 e3 e4 e5
  clear d0 d1 d2 d3 d4 d5 d6 d7
  cases mo with
  | none =>
    simp only [] at he
    subst he
    rw [errV_ne (by decide)]
    have H := HF2.out
    simp only [Option.isNone_none, if_true] at H
    replace H := Lib.hid H
    clear HF2
    go_wp2
    go_ret
    exact ep_mk H.out (by decide) rfl HT2
  | some p =>
  obtain ⟨args, gives⟩ := p
  simp only [] at he
  obtain ⟨v, rfl, _⟩ := he
  rw [errV_0]
  have HF3 := HF2.out
  simp only [Option.isNone_some, Bool.false_eq_true, if_false] at HF3
  replace HF3 := Lib.hid HF3
  clear HF2
  go_wp2_with fail
  refine (HC.out _ _ (HA0.out.below mono_meth hb12) e0 e1).mono ?_
  rintro e w3 ⟨rfl, hb3⟩
  have hb13 := bel_then hb12 hb3
  have HT3 : Below w.heap.size w w3 := HB0.trans (hb13.mono (Nat.le_of_lt hz0))
  obtain ⟨d0, d1, d2, d3, d4, d5, d6, d7⟩ := (HBX.out.below hb13).zero
  simp only [] at d0 d1 d2 d3 d4 d5
  clear e0 e1 e2 e3 e4 e5 e6 e7
  cases inA
  case true =>
    have H := HF3.out
    simp only [if_true] at H
    replace H := Lib.hid H
    clear HF3
    go_wp2
    go_ret
    exact ep_mk H.out (by decide) rfl HT3
  have HF4 := HF3.out
  simp only [Bool.false_eq_true, if_false] at HF4
  replace HF4 := Lib.hid HF4
  clear HF3
  by_cases hl : locals < 0 ∨ 8 < locals
  · have H := HF4.out
    rw [if_pos hl] at H
    replace H := Lib.hid H
    have HL := Lib.hid hl
    clear HF4 hl
    go_wp2
    all_goals first
      | (go_ret; exact ep_mk H.out (by decide) rfl HT3)
      | (exfalso; have := HL.out; omega)
  · have H := HF4.out
    rw [if_neg hl] at H
    replace H := Lib.hid H
    have g1 : ¬ locals < 0 := fun x => hl (.inl x)
    have g2 : ¬ 8 < locals := fun x => hl (.inr x)
    clear HF4 hl
    go_wp2_with fail
    refine (HH.out _ (HG0.out.below hb13) (HP0.out.below hb13)).mono ?_
    rintro e w9 ⟨rfl, hb9⟩
    go_wp2
    go_ret
    exact ⟨by rw [H.out]; rfl, bel_then HT3 hb9⟩
end Go.Proofs.YthcjjjpcjjondaaGreatDoor
