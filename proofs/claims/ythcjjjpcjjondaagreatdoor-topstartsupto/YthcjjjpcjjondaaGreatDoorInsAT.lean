/- Instructions: what the program's package ins checks. -/
import Derived.Test.YthcjjjpcjjondaaGreatDoorTypes
import Derived.Test.YthcjjjpcjjondaaGreatDoorOwnRow
namespace Go.Proofs.YthcjjjpcjjondaaGreatDoor
open Go.RowKit
set_option linter.unusedVariables false
set_option linter.unusedSimpArgs false
set_option linter.unnecessarySimpa false

/-- The table of forms lies where the program laid it. -/
def FormsLaid (w : World) : Prop := ∀ i, i < 29 → w.cell? ⟨0, i * 2, none⟩ = some (.string (formW i)) ∧ w.cell? ⟨0, i * 2 + 1, none⟩ = some (.string (formN i))
theorem FormsLaid.below {w w1 : World} (h : FormsLaid w) (hb : Below w.heap.size w w1) : FormsLaid w1 := fun i hi =>
  ⟨(hb.cell (World.block_lt_of_cell? w _ (h i hi).1)).trans (h i hi).1, (hb.cell (World.block_lt_of_cell? w _ (h i hi).2)).trans (h i hi).2⟩

theorem jumps_any (op : Int) (w : World) : Calls Tryz.prog 61 #[.int .i64 op] w fun e w' => e = .returned (.bool (jumps op)) ∧ w = w' := by
  have H : Hid (jumps op = (op == 12 || op == 13 || op == 14)) := Lib.hid rfl
  go_enter Tryz.func61, Tryz.ntmps61
  go_wp2
  all_goals
    go_ret
    exact ⟨by rw [H.out]; simp [*], rfl⟩
theorem ends_any (op : Int) (w : World) : Calls Tryz.prog 62 #[.int .i64 op] w fun e w' => e = .returned (.bool (ends op)) ∧ w = w' := by
  have H : Hid (ends op = (op == 14 || op == 26 || op == 27 || op == 28)) := Lib.hid rfl
  go_enter Tryz.func62, Tryz.ntmps62
  go_wp2
  all_goals
    go_ret
    exact ⟨by rw [H.out]; simp [*], rfl⟩
theorem needs_any (s : Str) (c : UInt8) (b : Nat) (w : World) (hc : w.cell? ⟨b, 1, none⟩ = some (.string s)) :
    Calls Tryz.prog 112 #[.string ⟨#[c]⟩, .pointer (some ⟨b, 0, none⟩)] w fun e w' => e = .returned (.bool (hasC s c)) ∧ w = w' := by
  have H := Lib.hid (hasC_eq s c)
  go_enter Tryz.func112, Tryz.ntmps112
  go_wp2_with fail
  refine (Tryz.strings_Contains_one s c _).mono ?_
  rintro e w1 ⟨rfl, rfl⟩
  go_wp2
  go_ret
  exact ⟨by rw [H.out]; rfl, rfl⟩
set_option maxHeartbeats 400000 in
theorem of_bad (op : Int) (w : World) (h : op < 1 ∨ 28 < op) : Calls Tryz.prog 111 #[.int .i64 op] w fun e w' => e = .returned (.tuple #[.agg #[.string ⟨#[]⟩, .string ⟨#[]⟩], .bool false]) ∧ Below w.heap.size w w' := by
  rcases h with h | h
  · go_enter Tryz.func111, Tryz.ntmps111
    go_wp2
    exact bodyPost_ret (v := .tuple #[.agg #[.string ⟨#[]⟩, .string ⟨#[]⟩], .bool false]) (by simp [results, Tryz.results111, go_sem]) rfl ⟨rfl, (Below.refl _ _).alloc (Nat.le_refl _) _⟩
  · have h' : ¬ op < 1 := by omega
    go_enter Tryz.func111, Tryz.ntmps111
    go_wp2
    exact bodyPost_ret (v := .tuple #[.agg #[.string ⟨#[]⟩, .string ⟨#[]⟩], .bool false]) (by simp [results, Tryz.results111, go_sem]) rfl ⟨rfl, (Below.refl _ _).alloc (Nat.le_refl _) _⟩
set_option maxHeartbeats 400000 in
theorem of_good (i : Nat) (w : World) (h0 : 1 ≤ i) (h1 : i ≤ 28) (hG : FormsLaid w) : Calls Tryz.prog 111 #[.int .i64 i] w fun e w' => e = .returned (.tuple #[.agg #[.string (formW i), .string (formN i)], .bool true]) ∧ Below w.heap.size w w' := by
  obtain ⟨c1, c2⟩ := hG i (by omega)
  have k1 : ∀ o, (w.alloc o).cell? ⟨0, i * 2, none⟩ = some (.string (formW i)) := fun o => (((Below.refl w.heap.size w).alloc (Nat.le_refl _) o).cell (World.block_lt_of_cell? w _ c1)).trans c1
  have k2 : ∀ o, (w.alloc o).cell? ⟨0, i * 2 + 1, none⟩ = some (.string (formN i)) := fun o => (((Below.refl w.heap.size w).alloc (Nat.le_refl _) o).cell (World.block_lt_of_cell? w _ c2)).trans c2
  clear c1 c2 hG
  generalize formW i = W at *
  generalize formN i = N at *
  have h0' : ¬ (i : Int) < 1 := by omega
  have h1' : ¬ (28 : Int) < (i : Int) := by omega
  go_enter Tryz.func111, Tryz.ntmps111
  go_wp2
  exact bodyPost_ret (v := .tuple #[.agg #[.string W, .string N], .bool true]) (by simp [results, Tryz.results111, go_sem]) rfl ⟨rfl, by first | exact (Below.refl _ _).alloc (Nat.le_refl _) _ | exact ((Below.refl _ _).alloc (Nat.le_refl _) _).setCell (by simp) _ | exact (((Below.refl _ _).alloc (Nat.le_refl _) _).setCell (by simp) _).setCell (by simp) _⟩

def BoolPost (c : Bool) (w : World) (e : Ending) (w' : World) : Prop := e = .returned (.bool c) ∧ Below w.heap.size w w'
theorem bp_alloc {c : Bool} {w : World} (o : Obj) {v : Value} (h : v = .bool c) : BoolPost c w (.returned v) (w.alloc o) := ⟨by rw [h], (Below.refl _ _).alloc (Nat.le_refl _) _⟩
theorem bp_bel {c : Bool} {w w1 : World} (o : Obj) {v : Value} (h : v = .bool c) (hb : Below (w.alloc o).heap.size (w.alloc o) w1) : BoolPost c w (.returned v) w1 := ⟨by rw [h], bel_then ((Below.refl _ _).alloc (Nat.le_refl _) o) hb⟩
theorem ne_b {a b : Int} (h : ¬ a = b) : (a == b) = false := by simpa using h

theorem wrap_w32 (a : Int) : wrap64 (wrap32 a) = w32 a := by unfold w32 wrap64 wrap32; omega
set_option maxHeartbeats 1000000 in
theorem ranged_any (x : Ins) (w : World) : Calls Tryz.prog 114 #[insV x] w (BoolPost (rangedB x) w) := by
  obtain ⟨op, a, b, ty, cls, nm⟩ := x
  unfold insV insA
  by_cases h2 : op = 2
  · have H : Hid (rangedB ⟨op, a, b, ty, cls, nm⟩ = (!(bytes ty == [73]) || a == w32 a)) := by apply Lib.hid; unfold rangedB; rw [if_pos h2]
    by_cases ht : ty.toList = [73]
    · have H' : Hid (rangedB ⟨op, a, b, ty, cls, nm⟩ = (a == w32 a)) := by apply Lib.hid; rw [H.out]; rw [Lib.toList_data] at ht; simp [bytes, ht]
      clear H
      subst h2
      go_enter Tryz.func114, Tryz.ntmps114
      go_wp2
      go_ret
      exact bp_alloc _ (by rw [H'.out]; simp [wrap_w32])
    · have ht' : (ty.toList == [73]) = false := by simpa using ht
      have H' : Hid (rangedB ⟨op, a, b, ty, cls, nm⟩ = true) := by apply Lib.hid; rw [H.out]; rw [Lib.toList_data] at ht; simp [bytes, ht]
      clear H
      subst h2
      go_enter Tryz.func114, Tryz.ntmps114
      go_wp2
      go_ret
      exact bp_alloc _ (by rw [H'.out]; simp)
  have h2' := ne_b h2
  by_cases h4 : op = 4 ∨ op = 5
  · have H : Hid (rangedB ⟨op, a, b, ty, cls, nm⟩ = (decide (0 ≤ a) && decide (a < 8))) := by apply Lib.hid; unfold rangedB; rw [if_neg h2, if_pos h4]
    by_cases ha : 0 ≤ a
    · have H' : Hid (rangedB ⟨op, a, b, ty, cls, nm⟩ = decide (a < 8)) := by apply Lib.hid; rw [H.out, decide_eq_true ha]; rfl
      clear H h2
      rcases h4 with rfl | rfl
      all_goals
        go_enter Tryz.func114, Tryz.ntmps114
        go_wp2
        go_ret
        exact bp_alloc _ (by rw [H'.out]; rfl)
    · have H' : Hid (rangedB ⟨op, a, b, ty, cls, nm⟩ = false) := by apply Lib.hid; rw [H.out, decide_eq_false ha]; rfl
      clear H h2
      rcases h4 with rfl | rfl
      all_goals
        go_enter Tryz.func114, Tryz.ntmps114
        go_wp2
        go_ret
        exact bp_alloc _ (by rw [H'.out]; simp [ha])
  have h4' := ne_b (fun e => h4 (.inl e))
  have h5' := ne_b (fun e => h4 (.inr e))
  by_cases h9 : op = 9
  · have H : Hid (rangedB ⟨op, a, b, ty, cls, nm⟩ = (decide (1 ≤ a) && decide (a ≤ 12))) := by apply Lib.hid; unfold rangedB; rw [if_neg h2, if_neg h4, if_pos h9]
    subst h9
    by_cases ha : 1 ≤ a
    · have H' : Hid (rangedB ⟨9, a, b, ty, cls, nm⟩ = decide (a ≤ 12)) := by apply Lib.hid; rw [H.out, decide_eq_true ha]; rfl
      clear H h2 h4 h2' h4' h5'
      go_enter Tryz.func114, Tryz.ntmps114
      go_wp2
      go_ret
      exact bp_alloc _ (by rw [H'.out]; rfl)
    · have H' : Hid (rangedB ⟨9, a, b, ty, cls, nm⟩ = false) := by apply Lib.hid; rw [H.out, decide_eq_false ha]; rfl
      clear H h2 h4 h2' h4' h5'
      go_enter Tryz.func114, Tryz.ntmps114
      go_wp2
      go_ret
      exact bp_alloc _ (by rw [H'.out]; simp [ha])
  have h9' := ne_b h9
  have H : Hid (rangedB ⟨op, a, b, ty, cls, nm⟩ = (!jumps op || (decide (0 ≤ a) && decide (a ≤ 40) && decide (0 ≤ b) && decide (b ≤ 5)))) := by apply Lib.hid; unfold rangedB; rw [if_neg h2, if_neg h4, if_neg h9]
  clear h2 h4 h9
  cases hj : jumps op
  · have H' : Hid (rangedB ⟨op, a, b, ty, cls, nm⟩ = true) := by apply Lib.hid; rw [H.out, hj]; rfl
    have HJ := Lib.hid hj
    clear H hj
    go_enter Tryz.func114, Tryz.ntmps114
    go_wp2_with fail
    refine (jumps_any _ _).mono ?_
    rintro e w1 ⟨rfl, rfl⟩
    rw [HJ.out]
    go_wp2
    go_ret
    exact bp_alloc _ (by rw [H'.out]; simp)
  · have H' : Hid (rangedB ⟨op, a, b, ty, cls, nm⟩ = (decide (0 ≤ a) && decide (a ≤ 40) && decide (0 ≤ b) && decide (b ≤ 5))) := by apply Lib.hid; rw [H.out, hj]; rfl
    have HJ := Lib.hid hj
    clear H hj
    go_enter Tryz.func114, Tryz.ntmps114
    go_wp2_with fail
    refine (jumps_any _ _).mono ?_
    rintro e w1 ⟨rfl, rfl⟩
    rw [HJ.out]
    go_wp2
    all_goals
      go_ret
      exact bp_alloc _ (by rw [H'.out]; first | (simp [*]; done) | (simp [*]; omega))

end Go.Proofs.YthcjjjpcjjondaaGreatDoor

/- Instructions: whether the type fits, and the whole check. -/
namespace Go.Proofs.YthcjjjpcjjondaaGreatDoor
open Go.RowKit

set_option maxHeartbeats 1000000 in
theorem typed_any (x : Ins) (w : World) (hs : x.ty.size ≤ 1099511627775) : Calls Tryz.prog 115 #[insV x] w (BoolPost (typedB x) w) := by
  obtain ⟨op, a, b, ty, cls, nm⟩ := x
  simp only [] at hs
  unfold insV insA
  by_cases h1 : op = 2 ∨ op = 9 ∨ op = 10
  · have H : Hid (typedB ⟨op, a, b, ty, cls, nm⟩ = isNum ty) := by apply Lib.hid; unfold typedB; rw [if_pos h1]
    rcases h1 with rfl | rfl | rfl
    all_goals
      go_enter Tryz.func115, Tryz.ntmps115
      go_wp2_with fail
      refine (number_any _ _).mono ?_
      rintro e w1 ⟨rfl, rfl⟩
      go_wp2
      go_ret
      exact bp_alloc _ (by rw [H.out]; rfl)
  have n2 := ne_b (fun e => h1 (.inl e)); have n9 := ne_b (fun e => h1 (.inr (.inl e))); have n10 := ne_b (fun e => h1 (.inr (.inr e)))
  by_cases h2 : op = 18 ∨ op = 20 ∨ op = 21
  · have H : Hid (typedB ⟨op, a, b, ty, cls, nm⟩ = (isType ty && isType (⟨#[91]⟩ ++ ty))) := by apply Lib.hid; unfold typedB; rw [if_neg h1, if_pos h2]
    have hsz : ((⟨#[91]⟩ : Str) ++ ty).size ≤ 4611686018427387904 := by rw [ByteArray.size_append]; have : (⟨#[91]⟩ : Str).size = 1 := rfl; omega
    cases ht : isType ty
    · have H' : Hid (typedB ⟨op, a, b, ty, cls, nm⟩ = false) := by apply Lib.hid; rw [H.out, ht]; rfl
      have HT : Hid (descErr ty = 1) := by apply Lib.hid; unfold descErr; rw [ht]; rfl
      clear H ht h1 hsz
      rcases h2 with rfl | rfl | rfl
      all_goals
        go_enter Tryz.func115, Tryz.ntmps115
        go_wp2_with fail
        refine (descCheck _ _ (by omega)).mono ?_
        rintro e w1 ⟨rfl, hb1⟩
        rw [HT.out, errV_ne (by decide)]
        go_wp2
        go_ret
        exact bp_bel _ (by rw [H'.out]; rfl) hb1
    · have H' : Hid (typedB ⟨op, a, b, ty, cls, nm⟩ = isType (⟨#[91]⟩ ++ ty)) := by apply Lib.hid; rw [H.out, ht]; rfl
      have HT : Hid (descErr ty = 0) := by apply Lib.hid; unfold descErr; rw [ht]; rfl
      clear H ht h1
      have HZ := Lib.hid hsz
      rcases h2 with rfl | rfl | rfl
      all_goals
        go_enter Tryz.func115, Tryz.ntmps115
        go_wp2_with fail
        refine (descCheck _ _ (by omega)).mono ?_
        rintro e w1 ⟨rfl, hb1⟩
        rw [HT.out, errV_0]
        obtain ⟨hc1, hf1⟩ := bcell hb1
        go_wp2_with fail
        refine (descCheck _ _ HZ.out).mono ?_
        rintro e w2 ⟨rfl, hb2⟩
        have hb12 := bel_then hb1 hb2
        cases ht2 : isType (⟨#[91]⟩ ++ ty)
        · rw [show descErr (⟨#[91]⟩ ++ ty) = 1 by unfold descErr; rw [ht2]; rfl, errV_ne (by decide)]
          have H2 : Hid (typedB _ = false) := H'.out.trans ht2
          clear ht2 H'
          go_wp2
          go_ret
          exact bp_bel _ (by rw [H2.out]; rfl) hb12
        · rw [show descErr (⟨#[91]⟩ ++ ty) = 0 by unfold descErr; rw [ht2]; rfl, errV_0]
          have H2 : Hid (typedB _ = true) := H'.out.trans ht2
          clear ht2 H'
          go_wp2
          go_ret
          exact bp_bel _ (by rw [H2.out]; rfl) hb12
  have n18 := ne_b (fun e => h2 (.inl e)); have n20 := ne_b (fun e => h2 (.inr (.inl e))); have n21 := ne_b (fun e => h2 (.inr (.inr e)))
  by_cases h3 : op = 22 ∨ op = 23
  · have H : Hid (typedB ⟨op, a, b, ty, cls, nm⟩ = (isType ty && !isNum ty)) := by apply Lib.hid; unfold typedB; rw [if_neg h1, if_neg h2, if_pos h3]
    cases ht : isType ty
    · have H' : Hid (typedB ⟨op, a, b, ty, cls, nm⟩ = false) := by apply Lib.hid; rw [H.out, ht]; rfl
      have HT : Hid (descErr ty = 1) := by apply Lib.hid; unfold descErr; rw [ht]; rfl
      clear H ht h1 h2
      rcases h3 with rfl | rfl
      all_goals
        go_enter Tryz.func115, Tryz.ntmps115
        go_wp2_with fail
        refine (descCheck _ _ (by omega)).mono ?_
        rintro e w1 ⟨rfl, hb1⟩
        rw [HT.out, errV_ne (by decide)]
        go_wp2
        go_ret
        exact bp_bel _ (by rw [H'.out]; rfl) hb1
    · have H' : Hid (typedB ⟨op, a, b, ty, cls, nm⟩ = !isNum ty) := by apply Lib.hid; rw [H.out, ht]; rfl
      have HT : Hid (descErr ty = 0) := by apply Lib.hid; unfold descErr; rw [ht]; rfl
      clear H ht h1 h2
      rcases h3 with rfl | rfl
      all_goals
        go_enter Tryz.func115, Tryz.ntmps115
        go_wp2_with fail
        refine (descCheck _ _ (by omega)).mono ?_
        rintro e w1 ⟨rfl, hb1⟩
        rw [HT.out, errV_0]
        obtain ⟨hc1, hf1⟩ := bcell hb1
        go_wp2_with fail
        refine (number_any _ _).mono ?_
        rintro e w2 ⟨rfl, rfl⟩
        go_wp2
        go_ret
        exact bp_bel _ (by rw [H'.out]; simp) hb1
  have n22 := ne_b (fun e => h3 (.inl e)); have n23 := ne_b (fun e => h3 (.inr e))
  by_cases h4 : op = 24 ∨ op = 25
  · have H : Hid (typedB ⟨op, a, b, ty, cls, nm⟩ = (methodOf ty).isSome) := by apply Lib.hid; unfold typedB; rw [if_neg h1, if_neg h2, if_neg h3, if_pos h4]
    clear h1 h2 h3
    rcases h4 with rfl | rfl
    all_goals
      go_enter Tryz.func115, Tryz.ntmps115
      go_wp2_with fail
      refine (method_any _ _ (by omega)).mono ?_
      rintro e w1 ⟨he, hb1⟩
      cases hm : methodOf ty with
      | none =>
        rw [hm] at he
        have H2 := H.out
        rw [hm] at H2
        replace H2 := Lib.hid H2
        simp only [] at he
        subst he
        rw [errV_ne (by decide)]
        clear hm H
        go_wp2
        go_ret
        exact bp_bel _ (by rw [H2.out]; rfl) hb1
      | some p =>
        obtain ⟨args, gives⟩ := p
        rw [hm] at he
        have H2 := H.out
        rw [hm] at H2
        replace H2 := Lib.hid H2
        simp only [] at he
        obtain ⟨v, rfl, _⟩ := he
        rw [errV_0]
        clear hm H
        go_wp2
        go_ret
        exact bp_bel _ (by rw [H2.out]; rfl) hb1
  have n24 := ne_b (fun e => h4 (.inl e)); have n25 := ne_b (fun e => h4 (.inr e))
  have H : Hid (typedB ⟨op, a, b, ty, cls, nm⟩ = true) := by apply Lib.hid; unfold typedB; rw [if_neg h1, if_neg h2, if_neg h3, if_neg h4]
  clear h1 h2 h3 h4
  go_enter Tryz.func115, Tryz.ntmps115
  go_wp2
  go_ret
  exact bp_alloc _ (by rw [H.out]; rfl)
end Go.Proofs.YthcjjjpcjjondaaGreatDoor
