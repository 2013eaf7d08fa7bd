/- Classes by themselves: a method's body. -/
import Derived.Test.YthcjjjpcjjondaaGreatDoorClassA
import Derived.Deep.RegionHeld3
namespace Go.Proofs.YthcjjjpcjjondaaGreatDoor
open Go.RowKit
set_option linter.unusedVariables false
set_option linter.unusedSimpArgs false
set_option linter.unnecessarySimpa false

theorem localsOut_drop {l : List Ins} {n : Int} {k : Nat} (hk : k < l.length) : localsOut n (l.drop k) = (((l[k].op == 4 || l[k].op == 5) && decide (n ≤ l[k].a)) || localsOut n (l.drop (k + 1))) := by
  rw [List.drop_eq_getElem_cons hk]; rfl
/-- A method's box, behind what only lays more. -/
def MBox (w : World) (b : Nat) (m : Meth) (cv hv : Value) : Prop := Meth8 w b 0 m cv hv
theorem mbox_new (w : World) (m : Meth) (cv hv : Value) : Meth8 (w.alloc (.cells (methA m cv hv) 44)) w.heap.size 0 m cv hv := by
  refine ⟨?_, ?_, ?_, ?_, ?_, ?_, ?_, ?_⟩ <;> exact World.cell?_alloc_new w (methA m cv hv) 44 _

set_option maxRecDepth 100000 in
set_option maxHeartbeats 2000000 in
theorem body_abs (m : Meth) (cv hv : Value) (w : World) (hp : MethP w m cv hv) (ha : m.abstract = true) : Calls Tryz.prog 151 #[methV m cv hv] w (ErrPost (bodyErr m) w) := by
  obtain ⟨nm, ty, static, abstract, priv, locals, code, hs⟩ := m
  obtain ⟨hcode, hhs, _, _⟩ := hp
  simp only [] at hcode hhs ha
  subst ha
  obtain ⟨Ac, capc, rfl, hc1, hc2⟩ := hcode.form
  obtain ⟨Ah, caph, rfl, hh1, hh2⟩ := hhs.form
  have HF : Hid (bodyErr ⟨nm, ty, static, true, priv, locals, code, hs⟩ = (if static || priv || decide (0 < code.length) || decide (0 < hs.length) then 8 else 0)) := Lib.hid rfl
  generalize bodyErr ⟨nm, ty, static, true, priv, locals, code, hs⟩ = r at *
  clear hcode hhs
  unfold methV methA
  simp only []
  have hcx : code = [] ∨ 0 < code.length := by cases code <;> simp
  have hhx : hs = [] ∨ 0 < hs.length := by cases hs <;> simp
  rcases hcx with rfl | hcx
  case inr =>
    have H : Hid (r = 8) := by
      apply Lib.hid; rw [HF.out, decide_eq_true hcx]; simp
    have t1 : ∀ n : Nat, n = code.length → (0 : Int) < (n : Int) := by omega
    obtain ⟨n, hn⟩ : ∃ n, n = code.length := ⟨_, rfl⟩
    have t2 := t1 n hn
    rw [← hn] at hc1 ⊢
    clear HF t1 hn hcx hhx
    cases static <;> cases priv
    all_goals
      go_enter Tryz.func151, Tryz.ntmps151
      go_wp2
      all_goals go_ret
      all_goals exact ep_mk H.out (by decide) rfl ((Below.refl w.heap.size w).alloc (Nat.le_refl _) _)
  rcases hhx with rfl | hhx
  case inr =>
    have H : Hid (r = 8) := by
      apply Lib.hid; rw [HF.out, decide_eq_true hhx]; simp
    have t1 : ∀ n : Nat, n = hs.length → (0 : Int) < (n : Int) := by omega
    obtain ⟨n, hn⟩ : ∃ n, n = hs.length := ⟨_, rfl⟩
    have t2 := t1 n hn
    rw [← hn] at hh1 ⊢
    clear HF t1 hn hhx
    cases static <;> cases priv
    all_goals
      go_enter Tryz.func151, Tryz.ntmps151
      go_wp2
      all_goals go_ret
      all_goals exact ep_mk H.out (by decide) rfl ((Below.refl w.heap.size w).alloc (Nat.le_refl _) _)
  have H := HF.out
  clear HF
  cases static <;> cases priv
  all_goals
    simp at H
    replace H := Lib.hid H
    go_enter Tryz.func151, Tryz.ntmps151
    go_wp2
    go_ret
    first
      | exact ep_mk H.out (by decide) rfl ((Below.refl w.heap.size w).alloc (Nat.le_refl _) _)
      | exact ep_ok H.out rfl ((Below.refl w.heap.size w).alloc (Nat.le_refl _) _)

set_option maxRecDepth 100000 in
set_option maxHeartbeats 2000000 in
theorem body_con (m : Meth) (cv hv : Value) (w : World) (hG : FormsLaid w) (hp : MethP w m cv hv) (ha : m.abstract = false) : Calls Tryz.prog 151 #[methV m cv hv] w (ErrPost (bodyErr m) w) := by
  have HF : Hid (bodyErr m = if flowErr m.code ≠ 0 then flowErr m.code else if m.locals < argsN m then 2 else if localsOut m.locals m.code then 2 else handlersErr m) := by
    apply Lib.hid; unfold bodyErr; rw [ha]; rfl
  have HB0 := (Below.refl w.heap.size w).alloc (Nat.le_refl _) (.cells (methA m cv hv) 44)
  have hbox := mbox_new w m cv hv
  have hz0 : w.heap.size < (w.alloc (.cells (methA m cv hv) 44)).heap.size := by simp
  have hp0 := hp.below HB0
  have hG0 := hG.below HB0
  have HP := Lib.hid hp
  have HA := Lib.hid (fun w1 => args_any m cv hv w1 hp.2.2.2)
  have HH := Lib.hid (fun w1 (h : MethP w1 m cv hv) => handlers_any m cv hv w1 h)
  clear hp hG
  obtain ⟨nm, ty, static, abstract, priv, locals, code, hs⟩ := m
  simp only [] at ha
  subst ha
  generalize bodyErr ⟨nm, ty, static, false, priv, locals, code, hs⟩ = r at *
  generalize handlersErr ⟨nm, ty, static, false, priv, locals, code, hs⟩ = hr at *
  generalize argsN ⟨nm, ty, static, false, priv, locals, code, hs⟩ = an at *
  unfold methV at HA HH ⊢
  unfold methA at *
  simp only [] at *
  obtain ⟨e0, e1, e2, e3, e4, e5, e6, e7⟩ := hbox
  simp only [Nat.zero_add] at e0 e1 e2 e3 e4 e5 e6 e7
  go_enter Tryz.func151, Tryz.ntmps151
  go_upto_region 1 with (fail)
  generalize w.alloc (.cells #[Value.string nm, Value.string ty, Value.bool static, Value.bool false, Value.bool priv, Value.int .i64 locals, cv, hv] 44) = W0 at *
  have HP0 := Lib.hid hp0
  have HG0 := Lib.hid hG0
  clear hp0 hG0
  go_wp2_with fail
  refine (flowCheck_any cv code _ HG0.out HP0.out.1).mono ?_
  rintro e w1 ⟨rfl, hb1⟩
  have HT1 : Below w.heap.size w w1 := HB0.trans (hb1.mono (Nat.le_of_lt hz0))
  by_cases hfz : flowErr code = 0
  case neg =>
    rw [errV_ne hfz]
    have H := HF.out
    rw [if_pos hfz] at H
    replace H := Lib.hid H
    have HZ := Lib.hid hfz
    generalize flowErr code = fe at *
    clear HF hfz
    go_wp2
    go_ret
    exact ep_mk H.out HZ.out rfl HT1
  rw [hfz, errV_0]
  have HF2 : Hid (r = if locals < an then 2 else if localsOut locals code then 2 else hr) := by
    apply Lib.hid; rw [HF.out, hfz]; rfl
  clear HF hfz
  have d0 := cell_below hb1 e0
  have d1 := cell_below hb1 e1
  have d2 := cell_below hb1 e2
  have d3 := cell_below hb1 e3
  have d4 := cell_below hb1 e4
  have d5 := cell_below hb1 e5
  have d6 := cell_below hb1 e6
  have d7 := cell_below hb1 e7
  have hz1 : w.heap.size < w1.heap.size := Nat.lt_of_lt_of_le hz0 hb1.size
  go_upto_region 8 with (fail)
  go_cut [37] (fun s37 wx => s37 = .bool (decide (locals < an)) ∧ Below W0.heap.size W0 wx)
  case first =>
    go_region_with (go_at_call 196; refine (HA.out _).mono ?_; rintro e w2 ⟨rfl, hb2⟩; have q0 := cell_below hb2 d0; have q1 := cell_below hb2 d1; have q2 := cell_below hb2 d2; have q3 := cell_below hb2 d3; have q4 := cell_below hb2 d4; have q5 := cell_below hb2 d5; have q6 := cell_below hb2 d6; have q7 := cell_below hb2 d7)
    all_goals (go_wp2_with fail; go_meet; exact ⟨rfl, by first | exact hb1.trans (hb2.mono hb1.size) | exact (hb1.drew).trans (hb2.mono hb1.size)⟩)
  case rest =>
    obtain ⟨rfl, hcb⟩ := hcut
    have HTc : Below w.heap.size w wc := HB0.trans (hcb.mono (Nat.le_of_lt hz0))
    have hzc : w.heap.size < wc.heap.size := Nat.lt_of_lt_of_le hz0 hcb.size
    have f5 := cell_below hcb e5
    have f6 := cell_below hcb e6
    clear d0 d1 d2 d3 d4 d5 d6 d7 hb1 HT1 hz1
    by_cases hla : locals < an
    · have H := HF2.out
      rw [if_pos hla] at H
      replace H := Lib.hid H
      clear HF2
      go_wp2
      go_ret
      exact ep_mk H.out (by decide) rfl HTc
    have HF3 := HF2.out
    rw [if_neg hla] at HF3
    replace HF3 := Lib.hid HF3
    clear HF2
    have hcsl := HP0.out.1
    obtain ⟨Ac, capc, hcv, hc1, hc2⟩ := hcsl.form
    unfold maxLen at hc2
    rw [hcv] at f6
    have HCV := Lib.hid hcv
    have HLO : Hid (∀ (k : Nat) (hk : k < code.length), ∃ b off, Ac = some ⟨b, off, none⟩ ∧ Ins6 W0 b (off + k * 6) code[k]) := by
      apply Lib.hid
      intro k hk
      have hne : code ≠ [] := by intro e; rw [e] at hk; simp at hk
      obtain ⟨b, off, cap', he, _, _, hc⟩ := InsSl.some hcsl hne
      rw [hcv] at he
      injection he with e1 _ _
      exact ⟨b, off, e1, (hc k hk).1⟩
    clear hcsl hcv
    go_wp2
    go_loopw [42] (fun i wr => ∃ k : Nat, i = .int .i64 k ∧ k ≤ code.length ∧ Below W0.heap.size W0 wr ∧ Hid (localsOut locals code = localsOut locals (code.drop k))) (fun i _ => code.length - (intOf i).toNat)
    case atStart => exact ⟨0, rfl, Nat.zero_le _, hcb, rfl⟩
    case round =>
      obtain ⟨k, rfl, hk, hb, HE⟩ := hrel
      have HT : Below w.heap.size w wr := HB0.trans (hb.mono (Nat.le_of_lt hz0))
      have hzr : w.heap.size < wr.heap.size := Nat.lt_of_lt_of_le hz0 hb.size
      have g0 := cell_below hb e0
      have g1 := cell_below hb e1
      have g2 := cell_below hb e2
      have g3 := cell_below hb e3
      have g4 := cell_below hb e4
      have g5 := cell_below hb e5
      have g6 := cell_below hb e6
      have g7 := cell_below hb e7
      clear hcb HTc hzc f5 f6
      by_cases hkn : k < code.length
      · obtain ⟨b, off, rfl, h6⟩ := HLO.out k hkn
        obtain ⟨c0, c1, c2, c3, c4, c5⟩ := h6.below hb
        have HST := Lib.hid (localsOut_drop (n := locals) hkn)
        clear h6
        generalize code[k] = x at *
        have HB1 : ∀ o, Below W0.heap.size W0 (wr.alloc o) := fun o => hb.alloc hb.size o
        have HT1 : ∀ o, Below w.heap.size w (wr.alloc o) := fun o => HT.alloc HT.size o
        by_cases hop : (x.op = 4 ∨ x.op = 5) ∧ locals ≤ x.a
        · have H : Hid (r = 2) := by
            apply Lib.hid
            have e : ((x.op == 4 || x.op == 5) && decide (locals ≤ x.a)) = true := by
              rw [decide_eq_true hop.2]; rcases hop.1 with h | h <;> rw [h] <;> rfl
            rw [HF3.out, HE.out, HST.out, e]; rfl
          obtain ⟨ho, hx⟩ := hop
          clear HF3 HE HST
          rcases ho with ho | ho
          all_goals
            go_wp2
            go_ret
            exact ep_mk H.out (by decide) rfl (HT1 _)
        · have HE' : Hid (localsOut locals code = localsOut locals (code.drop (k + 1))) := by
            apply Lib.hid
            have e : ((x.op == 4 || x.op == 5) && decide (locals ≤ x.a)) = false := by
              simp only [Bool.and_eq_false_iff, Bool.or_eq_false_iff, beq_eq_false_iff_ne, decide_eq_false_iff_not]
              omega
            rw [HE.out, HST.out, e]; rfl
          have HOP := Lib.hid hop
          clear HE HST hop
          go_wp2
          all_goals try (exfalso; have := HOP.out; omega)
          all_goals
            go_roundw
            case rel => exact ⟨k + 1, by go_num, by omega, HB1 _, HE'⟩
            case measure => simp [intOf]; omega
      · have hke : k = code.length := by omega
        have H : Hid (r = hr) := by
          apply Lib.hid
          rw [HF3.out, HE.out, hke, List.drop_length]; rfl
        clear HF3 HE hke
        go_wp2_with fail
        refine (HH.out _ (HP0.out.below hb)).mono ?_
        rintro e w9 ⟨rfl, hb9⟩
        go_wp2
        go_ret
        exact ⟨by rw [H.out]; rfl, bel_then HT hb9⟩
end Go.Proofs.YthcjjjpcjjondaaGreatDoor
