/- What run.Call asks of the adder: its method found, its arguments right. -/
import Derived.Test.YthcjjjpcjjondaaGreatDoorMachF
namespace Go.Proofs.YthcjjjpcjjondaaGreatDoor
open Go.RowKit
set_option linter.unusedVariables false
set_option linter.unusedSimpArgs false
set_option linter.unnecessarySimpa false

theorem word_small (n : Int) (w : World) (h : n = 2 ∨ n = 3) : Calls Tryz.prog 55 #[.int .i64 n] w fun e w' => e = .returned (.int .i64 n) ∧ w = w' := by
  rcases h with rfl | rfl
  all_goals
    go_enter Tryz.func55, Tryz.ntmps55
    go_wp2
    go_ret
    exact ⟨rfl, rfl⟩
set_option maxRecDepth 100000 in
set_option maxHeartbeats 2000000 in
theorem does_int (wv : Value) (n : Int) (w : World) (h : n = 2 ∨ n = 3) : Calls Tryz.prog 28 #[wv, .agg #[.slice none 0 0], .agg #[.int .i64 1, .int .i64 n], .string ⟨#[73]⟩] w fun e w' => e = .returned (.bool true) ∧ Below w.heap.size w w' := by
  obtain ⟨hX, hO, hzz, hb⟩ := two_new w (.cells #[.slice none 0 0] 77) (.cells #[.int .i64 1, .int .i64 n] 36)
  have HO := Lib.hid hO
  have HB := Lib.hid hb
  have hnn : (n == n) = true := by simp
  clear hX hO hzz hb
  go_enter Tryz.func28, Tryz.ntmps28
  go_upto_region 1 with (fail)
  generalize (w.alloc _).alloc _ = W1 at *
  have o0 : W1.cell? ⟨w.heap.size + 1, 0, none⟩ = some (.int .i64 1) := cell_of HO.out
  have o1 : W1.cell? ⟨w.heap.size + 1, 1, none⟩ = some (.int .i64 n) := cell_of HO.out
  go_wp2_with fail
  go_quiet ((go_at_call 55; exact Calls.quiet_of_same ((word_small n _ h).mono fun _ _ h => ⟨h.1, h.2.symm⟩)))
  go_wp2
  go_ret
  exact ⟨rfl, bel_drewN HB.out nq⟩
set_option maxHeartbeats 1000000 in
theorem same_meth (m : Meth) (cv hv : Value) (p q : Nat) (w : World) (hp : w.cell? ⟨p, 0, none⟩ = some (.string m.nm)) (hq : w.cell? ⟨q, 0, none⟩ = some (.string m.ty)) (hcv : ∃ A n c, cv = .slice A n c) (hhv : ∃ A n c, hv = .slice A n c) :
    Calls Tryz.prog 26 #[methV m cv hv, .pointer (some ⟨p, 0, none⟩), .pointer (some ⟨q, 0, none⟩)] w fun e w' => e = .returned (.bool true) ∧ Below w.heap.size w w' := by
  obtain ⟨cA, cn, cc, rfl⟩ := hcv
  obtain ⟨hA, hn, hc, rfl⟩ := hhv
  unfold methV methA
  have h1 : (m.nm.toList == m.nm.toList) = true := by simp
  have h2 : (m.ty.toList == m.ty.toList) = true := by simp
  have hp1 := World.block_lt_of_cell? w _ hp
  have hq1 := World.block_lt_of_cell? w _ hq
  simp only [] at hp1 hq1
  have hp2 : p ≠ w.heap.size := by omega
  have hq2 : q ≠ w.heap.size := by omega
  go_enter Tryz.func26, Tryz.ntmps26
  go_wp2
  go_ret
  exact ⟨rfl, (Below.refl _ _).alloc (Nat.le_refl _) _⟩
set_option maxRecDepth 100000 in
set_option maxHeartbeats 2000000 in
/-- The first method is the one that is looked for. -/
theorem index_first (m : Meth) (ms : List Meth) (v : Value) (p q : Nat) (w : World) (hl : MethSl w v (m :: ms)) (hp : w.cell? ⟨p, 0, none⟩ = some (.string m.nm)) (hq : w.cell? ⟨q, 0, none⟩ = some (.string m.ty)) :
    Calls Tryz.prog 25 #[v, .func (.func 26) #[] #[.pointer (some ⟨p, 0, none⟩), .pointer (some ⟨q, 0, none⟩)]] w fun e w' => e = .returned (.int .i64 0) ∧ Below w.heap.size w w' := by
  obtain ⟨b, off, cap, rfl, h1, h2, hc⟩ := MethSl.some hl (by simp)
  unfold maxLen at h2
  obtain ⟨cv, hv, h8, hmp⟩ := hc 0 (by simp)
  simp only [List.getElem_cons_zero, Nat.zero_mul, Nat.add_zero] at h8 hmp
  obtain ⟨d0, d1, d2, d3, d4, d5, d6, d7⟩ := h8
  obtain ⟨cA, cc, rfl, _, _⟩ := hmp.1.form
  obtain ⟨hA, hhc, rfl, _, _⟩ := hmp.2.1.form
  have HM := Lib.hid (fun w1 (hb : Below w.heap.size w w1) => same_meth m (.slice cA m.code.length cc) (.slice hA m.hs.length hhc) p q w1 (cell_below hb hp) (cell_below hb hq) ⟨_, _, _, rfl⟩ ⟨_, _, _, rfl⟩)
  unfold methV methA at HM
  have hlen : (0 : Int) < (((m :: ms).length : Nat) : Int) := by rw [List.length_cons]; omega
  clear hl hc hmp hp hq
  generalize (m :: ms).length = n at *
  go_enter Tryz.func25, Tryz.ntmps25
  go_wp2_with fail
  go_loopw [8] (fun i wr => i = .int .i64 0 ∧ wr = w) (fun _ _ => 0)
  case atStart => exact ⟨rfl, rfl⟩
  case round =>
    obtain ⟨rfl, rfl⟩ := hrel
    go_wp2_with fail
    refine (HM.out _ (Below.refl _ _)).mono ?_
    rintro e w2 ⟨rfl, hb⟩
    go_wp2
    go_ret
    exact ⟨rfl, hb⟩
end Go.Proofs.YthcjjjpcjjondaaGreatDoor
