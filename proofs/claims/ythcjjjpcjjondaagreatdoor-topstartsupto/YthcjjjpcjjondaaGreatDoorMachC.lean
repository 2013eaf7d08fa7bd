/- run.machine: a step of the stack and the locals alone. -/
import Derived.Test.YthcjjjpcjjondaaGreatDoorMachB
import Derived.Defers
import Derived.Recover
import Derived.BigRegion
namespace Go.Proofs.YthcjjjpcjjondaaGreatDoor
open Go.RowKit
set_option linter.unusedVariables false
set_option linter.unusedSimpArgs false
set_option linter.unnecessarySimpa false

set_option maxRecDepth 100000 in
set_option maxHeartbeats 2000000 in
theorem mheap (kb cb : Nat) (op a bb : Int) (ty cl nm : Str) (w : World) (hop : op = 4 ∨ op = 9) :
    Calls Tryz.prog 110 #[.pointer (some ⟨kb, 0, none⟩), .pointer (some ⟨cb, 0, none⟩), .agg #[.int .i64 op, .int .i64 a, .int .i64 bb, .string ty, .string cl, .string nm]] w fun e w' => e = .returned (.tuple #[]) ∧ Below w.heap.size w w' := by
  rcases hop with rfl | rfl
  all_goals
    go_enter Tryz.func110, Tryz.ntmps110
    go_wp2
    go_end0
    exact ⟨rfl, (Below.refl _ _).alloc (Nat.le_refl _) _⟩
theorem step_idle (p : Addr) (w : World) :
    CallsD Tryz.prog 101 #[.pointer (some p)] .returning w fun e u' w' => e = .returned (.tuple #[]) ∧ u' = .returning ∧ w' = w := by
  refine callsD_of_wpS Tryz.func101 rfl fun c₀ cs hu => ?_
  apply wpS_seq
  apply wpS_region
  simp [wpOpsS, go_sem, recoverD, hu, Tryz.ntmps101, Exit.thenS]
  apply wpS_seq
  apply wpS_region
  simp [wpOpsS, go_sem, recoverD, hu, Tryz.ntmps101, Exit.thenS]
  refine wpS_cond (t := false) (by simp [Act.eval, Array.replicate]) ?_
  simp only [Bool.false_eq_true, if_false]
  refine wpS_of_wp (wp_skip ?_)
  cases c₀
  simp_all [bodyPostS, results, Tryz.results101]
theorem run_idle (p : Addr) (w : World) :
    CallsD Tryz.prog 58 #[.pointer (some p)] .returning w fun e u' w' => e = .returned (.tuple #[]) ∧ u' = .returning ∧ w' = w := by
  refine callsD_of_wpS Tryz.func58 rfl fun c₀ cs hu => ?_
  apply wpS_seq
  apply wpS_region
  simp [wpOpsS, go_sem, recoverD, hu, Tryz.ntmps58, Exit.thenS]
  apply wpS_seq
  apply wpS_region
  simp [wpOpsS, go_sem, recoverD, hu, Tryz.ntmps58, Exit.thenS]
  refine wpS_cond (t := false) (by simp [Act.eval, Array.replicate]) ?_
  simp only [Bool.false_eq_true, if_false]
  refine wpS_of_wp (wp_skip ?_)
  cases c₀
  simp_all [bodyPostS, results, Tryz.results58]
theorem CS.drewN {w0 wk w : World} {cb : Nat} {cls : Str} {m : Meth} {cv hv : Value} {at_ : Int} {ls ss : List VL} (n : Nat) (h : CS w0 wk w cb cls m cv hv at_ ls ss) : CS w0 wk (w.drewN n) cb cls m cv hv at_ ls ss := by
  obtain ⟨h0, h1, h2, lv, sv, h3, h4, h5, h6⟩ := h
  exact ⟨h0, ⟨h1.os, h1.tape, h1.output, h1.size, h1.block⟩, h2, lv, sv, h3, h4, h5, h6⟩
theorem csx_at {w0 wk w : World} {cb : Nat} {cls : Str} {m : Meth} {cv hv : Value} {at_ : Int} {ls ss : List VL} (h : CS w0 wk w cb cls m cv hv at_ ls ss) (k : Int) : CS w0 wk (w.setCell ⟨cb, 9, none⟩ (.int .i64 k)) cb cls m cv hv k ls ss := by
  obtain ⟨h0, hb, hc0, lv, sv, hC, hL, hS, hN⟩ := h
  exact ⟨h0.grown (grown_set w ⟨cb, 9, none⟩ _) (tag_cells (hC : w.heap[cb]? = _) (by simp)), hb.setCell hc0 _, hc0, lv, sv, call_setAt hC k, ownsRow_setCell_other hL (a := ⟨cb, 9, none⟩) (own_ne_tag hL (hC : w.heap[cb]? = _) (by decide)) _, ownsRow_setCell_other hS (a := ⟨cb, 9, none⟩) (own_ne_tag hS (hC : w.heap[cb]? = _) (by decide)) _, hN⟩
/-- A machine's block. -/
def MachAt (w : World) (kb : Nat) (mw hp callsv : Value) (k n : Int) (thr : Str) (steps : Int) (over : Bool) : Prop :=
  w.heap[kb]? = some (.cells #[mw, hp, callsv, .int .i64 k, .int .i64 n, .string thr, .int .i64 steps, .bool over] 81 (0, 0))
set_option maxRecDepth 100000 in
set_option maxHeartbeats 4000000 in
theorem step_plain (w0 wk : World) (kb cb cg ccap : Nat) (cur : Array Value) (mw hp : Value) (k n : Int) (thr : Str) (steps : Int) (over : Bool) (cls : Str) (m : Meth) (cv hv : Value) (at_ : Nat) (ls ss ss' : List VL) (x : Ins) (w : World)
    (h : CS w0 wk w cb cls m cv hv at_ ls ss) (hM : MachAt w kb mw hp (.slice (some ⟨cg, 0, none⟩) 1 ccap) k n thr steps over) (hG : w.heap[cg]? = some (.cells cur 123 (0, 0))) (hcur : cur[0]? = some (.pointer (some ⟨cb, 0, none⟩)))
    (hcode : InsSl w0 cv m.code) (hat : m.code[at_]? = some x) (hop : x.op = 4 ∨ x.op = 9)
    (hP : ∀ (wk w1 : World), CS w0 wk w1 cb cls m cv hv at_ ls ss → Calls Tryz.prog 109 #[.pointer (some ⟨cb, 0, none⟩), insV x] w1 (CSPost w0 wk cb cls m cv hv at_ ls ss' (.int .i64 ((at_ : Int) + 1)))) :
    Calls Tryz.prog 59 #[.pointer (some ⟨kb, 0, none⟩)] w (CSPost w0 wk cb cls m cv hv ((at_ : Int) + 1) ls ss' (.tuple #[])) := by
  have hmf : ∀ (fn : Fn) (first cap : Array Value) (w : World), (Instr.makeFunc fn first cap).run Tryz.prog w = .ok (.func fn first cap) w := fun _ _ _ _ => rfl
  have hb1 := (Below.refl w.heap.size w).alloc (Nat.le_refl _) (.cells #[.pointer (some ⟨kb, 0, none⟩)] 78)
  have hC1 := h.below hb1
  have hX : (w.alloc (.cells #[.pointer (some ⟨kb, 0, none⟩)] 78)).heap[w.heap.size]? = some (.cells #[.pointer (some ⟨kb, 0, none⟩)] 78 (0, 0)) := by
    show (w.heap.push _)[w.heap.size]? = _
    simp
  have hM1 := (hb1.block kb (Array.getElem?_eq_some_iff.1 (hM : w.heap[kb]? = _)).1).trans hM
  have hG1 := (hb1.block cg (Array.getElem?_eq_some_iff.1 hG).1).trans hG
  have HX := Lib.hid hX
  have HM := Lib.hid hM1
  have HG := Lib.hid hG1
  have HC := Lib.hid hC1
  have HP := Lib.hid hP
  obtain ⟨hatl, hate⟩ := List.getElem?_eq_some_iff.1 hat
  obtain ⟨xb, xoff, xcap, rfl, hx1, hx2, hxc⟩ := hcode.some (by intro e; rw [e] at hatl; simp at hatl)
  unfold maxLen at hx2
  obtain ⟨hx6, _⟩ := hxc at_ hatl
  rw [hate] at hx6
  have HX6 := Lib.hid hx6
  clear hb1 hC1 hX hM1 hG1 h hM hG hP hxc hx6 hate hat hcode
  unfold insV insA at HP
  go_enter_defers Tryz.func59, Tryz.ntmps59
  go_upto_region 1 with (fail)
  generalize w.alloc _ = W1 at *
  have m2 : W1.cell? ⟨kb, 2, none⟩ = some (.slice (some ⟨cg, 0, none⟩) 1 ccap) := cell_of HM.out
  have p0 : W1.cell? ⟨w.heap.size, 0, none⟩ = some (.pointer (some ⟨kb, 0, none⟩)) := cell_of HX.out
  have g0 : W1.cell? ⟨cg, 0, none⟩ = some (.pointer (some ⟨cb, 0, none⟩)) := (cell_of HG.out).trans hcur
  go_wp2_with fail
  go_quiet (fail)
  have hC2 : CS w0 wk (W1.drewN nq) cb cls m (.slice (some ⟨xb, xoff, none⟩) m.code.length xcap) hv at_ ls ss := CS.drewN nq HC.out
  have HC2 := Lib.hid hC2
  have HX2 : Hid ((W1.drewN nq).heap[w.heap.size]? = some (.cells #[.pointer (some ⟨kb, 0, none⟩)] 78 (0, 0))) := HX
  clear hC2 m2 p0 g0
  go_wp2_with fail
  generalize W1.drewN nq = W2 at *
  have hC3 := HC2.out
  obtain ⟨hT, hB, hcb0, lv, sv, hC, _⟩ := hC3
  have c7 : W2.cell? ⟨cb, 7, none⟩ = some (.slice (some ⟨xb, xoff, none⟩) m.code.length xcap) := cell_of hC
  have c9 : W2.cell? ⟨cb, 9, none⟩ = some (.int .i64 at_) := cell_of hC
  obtain ⟨i0, i1, i2, i3, i4, i5⟩ := HX6.out.below hB
  have hai : (at_ : Int) < (m.code.length : Int) := by omega
  have ha0 : 0 ≤ (at_ : Int) := by omega
  have n1 := World.new_ne W2 _ c7
  have n2 := World.new_ne W2 _ i0
  simp only [] at n1 n2
  have n1' : cb < W2.heap.size := call_lt hC
  have n2' : xb < W2.heap.size := World.block_lt_of_cell? W2 _ i0
  clear hT hB hC
  go_region
  have hC4 := (HC2.out.alloc (insBox x.op x.a x.b x.ty x.cls x.nm)).drew
  have hY4 := insBox_at W2 x.op x.a x.b x.ty x.cls x.nm
  have hX4 := (((Below.refl W2.heap.size W2).alloc (Nat.le_refl _) (insBox x.op x.a x.b x.ty x.cls x.nm)).block w.heap.size (Array.getElem?_eq_some_iff.1 HX2.out).1).trans HX2.out
  have HZ4 : Hid ((W2.alloc (insBox x.op x.a x.b x.ty x.cls x.nm)).drew.heap.size = W2.heap.size + 1) := by apply Lib.hid; simp
  unfold insBox at hC4 hX4 HZ4
  unfold insBox at hY4
  have HC4 := Lib.hid hC4
  have HX4 : Hid ((W2.alloc (.cells #[.int .i64 x.op, .int .i64 x.a, .int .i64 x.b, .string x.ty, .string x.cls, .string x.nm] 56)).drew.heap[w.heap.size]? = some (.cells #[.pointer (some ⟨kb, 0, none⟩)] 78 (0, 0))) := Lib.hid hX4
  have HY4 : Hid ((W2.alloc (.cells #[.int .i64 x.op, .int .i64 x.a, .int .i64 x.b, .string x.ty, .string x.cls, .string x.nm] 56)).drew.heap[W2.heap.size]? = some (.cells #[.int .i64 x.op, .int .i64 x.a, .int .i64 x.b, .string x.ty, .string x.cls, .string x.nm] 56 (0, 0))) := Lib.hid hY4
  clear hC4 hY4 hX4 c7 c9 i0 i1 i2 i3 i4 i5 n1 n2 n1' n2'
  generalize (W2.alloc _).drew = W3 at *
  generalize W2.heap.size = qb at *
  obtain ⟨x0, x1, x2, x3, x4, x5⟩ : W3.cell? ⟨qb, 0, none⟩ = some (.int .i64 x.op) ∧ W3.cell? ⟨qb, 1, none⟩ = some (.int .i64 x.a) ∧ W3.cell? ⟨qb, 2, none⟩ = some (.int .i64 x.b) ∧ W3.cell? ⟨qb, 3, none⟩ = some (.string x.ty) ∧ W3.cell? ⟨qb, 4, none⟩ = some (.string x.cls) ∧ W3.cell? ⟨qb, 5, none⟩ = some (.string x.nm) :=
    ⟨cell_of HY4.out, cell_of HY4.out, cell_of HY4.out, cell_of HY4.out, cell_of HY4.out, cell_of HY4.out⟩
  have h24 : (x.op == (24 : Int)) = false := by rcases hop with h | h <;> rw [h] <;> rfl
  have h25 : (x.op == (25 : Int)) = false := by rcases hop with h | h <;> rw [h] <;> rfl
  have h26 : (x.op == (26 : Int)) = false := by rcases hop with h | h <;> rw [h] <;> rfl
  have h27 : (x.op == (27 : Int)) = false := by rcases hop with h | h <;> rw [h] <;> rfl
  have h28 : (x.op == (28 : Int)) = false := by rcases hop with h | h <;> rw [h] <;> rfl
  have HOP := Lib.hid hop
  clear hop
  go_wp2_with fail
  refine (HP.out W3 W3 HC4.out.re).mono ?_
  rintro e w5 ⟨rfl, hC5⟩
  have hX5 := hC5.1 _ _ _ _ HX4.out (by decide)
  have hY5 := hC5.1 _ _ _ _ HY4.out (by decide)
  have HC5 := Lib.hid hC5
  have HX5 := Lib.hid hX5
  clear x0 x1 x2 x3 x4 x5
  obtain ⟨x0, x1, x2, x3, x4, x5⟩ : w5.cell? ⟨qb, 0, none⟩ = some (.int .i64 x.op) ∧ w5.cell? ⟨qb, 1, none⟩ = some (.int .i64 x.a) ∧ w5.cell? ⟨qb, 2, none⟩ = some (.int .i64 x.b) ∧ w5.cell? ⟨qb, 3, none⟩ = some (.string x.ty) ∧ w5.cell? ⟨qb, 4, none⟩ = some (.string x.cls) ∧ w5.cell? ⟨qb, 5, none⟩ = some (.string x.nm) :=
    ⟨cell_of hY5, cell_of hY5, cell_of hY5, cell_of hY5, cell_of hY5, cell_of hY5⟩
  have p0 : w5.cell? ⟨w.heap.size, 0, none⟩ = some (.pointer (some ⟨kb, 0, none⟩)) := cell_of hX5
  clear hC5 hX5 hY5
  go_wp2_with fail
  refine (mheap kb cb x.op x.a x.b x.ty x.cls x.nm _ HOP.out).mono ?_
  rintro e w6 ⟨rfl, hb6⟩
  have hC6 := HC5.out.below hb6
  have hC6' := hC6
  obtain ⟨_, _, _, lv6, sv6, hCa, _⟩ := hC6'
  have d9 : w6.cell? ⟨cb, 9, none⟩ = some (.int .i64 at_) := cell_of hCa
  have z9 : w6.frozen? ⟨cb, 9, none⟩ = false := frozen_of hCa
  have HC6 := Lib.hid hC6
  clear hC6 hCa hb6 x0 x1 x2 x3 x4 x5 p0
  go_wp2_with fail
  have HF := Lib.hid (HC4.out.back (csx_at HC6.out ((at_ : Int) + 1)))
  refine leaves_cons (f := 101) (args := #[.pointer (some ⟨w.heap.size, 0, none⟩)]) (by simp) (by simp [go_sem]) ?_
  refine (step_idle _ _).mono ?_
  rintro e u' w'' ⟨rfl, rfl, rfl⟩
  exact ⟨_, by simp [settle, results, Tryz.results59, go_sem], rfl, HF.out⟩
end Go.Proofs.YthcjjjpcjjondaaGreatDoor
