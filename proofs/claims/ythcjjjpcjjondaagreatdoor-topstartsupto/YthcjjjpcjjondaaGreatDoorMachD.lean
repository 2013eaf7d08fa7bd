/- run.machine: the last call is left. -/
import Derived.Test.YthcjjjpcjjondaaGreatDoorMachC
namespace Go.Proofs.YthcjjjpcjjondaaGreatDoor
open Go.RowKit
set_option linter.unusedVariables false
set_option linter.unusedSimpArgs false
set_option linter.unnecessarySimpa false

abbrev leaveS : List TypeId := [81, 36, 125]
theorem TagG.mono {S T : List TypeId} {a b : World} (h : TagG S a b) (hs : ∀ t, t ∈ S → t ∈ T) : TagG T a b := fun q c t fz hq ht => h q c t fz hq (fun e => ht (hs t e))
theorem TagG.setc {S : List TypeId} {wk w : World} {b : Nat} {c : Array Value} {t : TypeId} {fz : Nat × Nat} (h : TagG S wk w) (hb : w.heap[b]? = some (.cells c t fz)) (ht : t ∈ S) (i : Nat) (u : Value) : TagG S wk (w.setCell ⟨b, i, none⟩ u) := h.grown (grown_set w ⟨b, i, none⟩ u) (tag_cells hb ht)
def LeavePost (w0 wk : World) (kb : Nat) (mw hp callsv : Value) (k n : Int) (thr : Str) (steps : Int) (over : Bool) (e : Ending) (w' : World) : Prop := e = .returned (.tuple #[]) ∧ MachAt w' kb mw hp callsv k n thr steps over ∧ Below w0.heap.size w0 w' ∧ TagG leaveS wk w'
set_option maxRecDepth 100000 in
set_option maxHeartbeats 4000000 in
theorem leave_last (w0 : World) (kb cg ccap : Nat) (mw hp : Value) (k n vk vn : Int) (thr : Str) (steps : Int) (over : Bool) (w : World) (hM : MachAt w kb mw hp (.slice (some ⟨cg, 0, none⟩) 1 ccap) k n thr steps over) (hB : Below w0.heap.size w0 w) (hkb : w0.heap.size ≤ kb) (hc1 : 1 ≤ ccap) (hc2 : ccap ≤ 9223372036854775807) :
    Calls Tryz.prog 106 #[.pointer (some ⟨kb, 0, none⟩), .agg #[.int .i64 vk, .int .i64 vn]] w (LeavePost w0 w kb mw hp (.slice (some ⟨cg, 0, none⟩) 0 ccap) vk vn thr steps true) := by
  have hb1 := (Below.refl w.heap.size w).alloc (Nat.le_refl _) (.cells #[.int .i64 vk, .int .i64 vn] 36)
  have hX : (w.alloc (.cells #[.int .i64 vk, .int .i64 vn] 36)).heap[w.heap.size]? = some (.cells #[.int .i64 vk, .int .i64 vn] 36 (0, 0)) := by
    show (w.heap.push _)[w.heap.size]? = _
    simp
  have hkl := (Array.getElem?_eq_some_iff.1 (hM : w.heap[kb]? = _)).1
  have hM1 : MachAt (w.alloc (.cells #[.int .i64 vk, .int .i64 vn] 36)) kb mw hp (.slice (some ⟨cg, 0, none⟩) 1 ccap) k n thr steps over := (hb1.block kb hkl).trans hM
  have HX := Lib.hid hX
  have HM := Lib.hid hM1
  have HB := Lib.hid (bel_then hB hb1)
  have HT := Lib.hid ((TagG.refl leaveS w).below hb1)
  clear hb1 hX hM1 hM hB
  go_enter Tryz.func106, Tryz.ntmps106
  go_upto_region 1 with (fail)
  generalize w.alloc _ = W1 at *
  have m2 : W1.cell? ⟨kb, 2, none⟩ = some (.slice (some ⟨cg, 0, none⟩) 1 ccap) := cell_of HM.out
  have m3 : W1.cell? ⟨kb, 3, none⟩ = some (.int .i64 k) := cell_of HM.out
  have m4 : W1.cell? ⟨kb, 4, none⟩ = some (.int .i64 n) := cell_of HM.out
  have m7 : W1.cell? ⟨kb, 7, none⟩ = some (.bool over) := cell_of HM.out
  have z2 : W1.frozen? ⟨kb, 2, none⟩ = false := frozen_of HM.out
  have z3 : W1.frozen? ⟨kb, 3, none⟩ = false := frozen_of HM.out
  have z4 : W1.frozen? ⟨kb, 4, none⟩ = false := frozen_of HM.out
  have z7 : W1.frozen? ⟨kb, 7, none⟩ = false := frozen_of HM.out
  have b0 : W1.cell? ⟨w.heap.size, 0, none⟩ = some (.int .i64 vk) := cell_of HX.out
  have b1 : W1.cell? ⟨w.heap.size, 1, none⟩ = some (.int .i64 vn) := cell_of HX.out
  have hkn : kb ≠ w.heap.size := by omega
  go_region
  go_wp2_with fail
  refine bodyPost_ret (results_none rfl _ _ _) rfl ?_
  refine ⟨rfl, ?_, ((((HB.out.setCell (p := ⟨kb, 2, none⟩) hkb _).setCell (p := ⟨kb, 3, none⟩) hkb _).setCell (p := ⟨kb, 4, none⟩) hkb _).setCell (p := ⟨kb, 7, none⟩) hkb _).drew, ?_⟩
  case refine_2 =>
    have h0 := heap_set2 (HM.out : W1.heap[kb]? = _) 2 (.slice (some ⟨cg, 0, none⟩) 0 ccap)
    have h1 := heap_set2 h0 3 (.int .i64 vk)
    have h2 := heap_set2 h1 4 (.int .i64 vn)
    exact (((HT.out.setc (HM.out : W1.heap[kb]? = _) (by simp) 2 _).setc h0 (by simp) 3 _).setc h1 (by simp) 4 _).setc h2 (by simp) 7 _
  have h0 : W1.heap[kb]? = _ := HM.out
  show ((((W1.setCell _ _).setCell _ _).setCell _ _).setCell _ _).heap[kb]? = _
  simp [World.setCell, Array.getElem?_modify, h0]
set_option maxRecDepth 100000 in
set_option maxHeartbeats 4000000 in
theorem step_give (w0 wk : World) (kb cb cg ccap : Nat) (cur : Array Value) (mw hp : Value) (k n : Int) (thr : Str) (steps : Int) (over : Bool) (cls : Str) (m : Meth) (cv hv : Value) (at_ : Nat) (ls : List VL) (v : VL) (x : Ins) (w : World)
    (h : CS w0 wk w cb cls m cv hv at_ ls [v]) (hM : MachAt w kb mw hp (.slice (some ⟨cg, 0, none⟩) 1 ccap) k n thr steps over) (hG : w.heap[cg]? = some (.cells cur 123 (0, 0))) (hcur : cur[0]? = some (.pointer (some ⟨cb, 0, none⟩))) (hkb : w0.heap.size ≤ kb) (hc1 : 1 ≤ ccap) (hc2 : ccap ≤ 9223372036854775807)
    (hcode : InsSl w0 cv m.code) (hat : m.code[at_]? = some x) (hop : x.op = 27) :
    Calls Tryz.prog 59 #[.pointer (some ⟨kb, 0, none⟩)] w (LeavePost w0 w kb mw hp (.slice (some ⟨cg, 0, none⟩) 0 ccap) v.kind v.n thr steps true) := by
  have hmf : ∀ (fn : Fn) (first cap : Array Value) (w : World), (Instr.makeFunc fn first cap).run Tryz.prog w = .ok (.func fn first cap) w := fun _ _ _ _ => rfl
  have hb1 := (Below.refl w.heap.size w).alloc (Nat.le_refl _) (.cells #[.pointer (some ⟨kb, 0, none⟩)] 78)
  have hC1 := h.below hb1
  have hX : (w.alloc (.cells #[.pointer (some ⟨kb, 0, none⟩)] 78)).heap[w.heap.size]? = some (.cells #[.pointer (some ⟨kb, 0, none⟩)] 78 (0, 0)) := by
    show (w.heap.push _)[w.heap.size]? = _
    simp
  have hM1 := (hb1.block kb (Array.getElem?_eq_some_iff.1 (hM : w.heap[kb]? = _)).1).trans hM
  have hG1 := (hb1.block cg (Array.getElem?_eq_some_iff.1 hG).1).trans hG
  have HX := Lib.hid hX
  have HM := Lib.hid hM1
  have HG := Lib.hid hG1
  have HC := Lib.hid hC1
  have HBW := Lib.hid hb1
  obtain ⟨hatl, hate⟩ := List.getElem?_eq_some_iff.1 hat
  obtain ⟨xb, xoff, xcap, rfl, hx1, hx2, hxc⟩ := hcode.some (by intro e; rw [e] at hatl; simp at hatl)
  unfold maxLen at hx2
  obtain ⟨hx6, _⟩ := hxc at_ hatl
  rw [hate] at hx6
  obtain ⟨xo, xa, xbb, xty, xcl, xnm⟩ := x
  simp only [] at hop
  subst hop
  have HX6 := Lib.hid hx6
  clear hb1 hC1 hX hM1 hG1 h hM hG hxc hx6 hate hat hcode
  go_enter_defers Tryz.func59, Tryz.ntmps59
  go_upto_region 1 with (fail)
  generalize w.alloc _ = W1 at *
  have m2 : W1.cell? ⟨kb, 2, none⟩ = some (.slice (some ⟨cg, 0, none⟩) 1 ccap) := cell_of HM.out
  have p0 : W1.cell? ⟨w.heap.size, 0, none⟩ = some (.pointer (some ⟨kb, 0, none⟩)) := cell_of HX.out
  have g0 : W1.cell? ⟨cg, 0, none⟩ = some (.pointer (some ⟨cb, 0, none⟩)) := (cell_of HG.out).trans hcur
  go_wp2_with fail
  go_quiet (fail)
  have hC2 : CS w0 wk (W1.drewN nq) cb cls m (.slice (some ⟨xb, xoff, none⟩) m.code.length xcap) hv at_ ls [v] := CS.drewN nq HC.out
  have HC2 := Lib.hid hC2
  have HX2 : Hid ((W1.drewN nq).heap[w.heap.size]? = some (.cells #[.pointer (some ⟨kb, 0, none⟩)] 78 (0, 0))) := HX
  have HBW2 : Hid (Below w.heap.size w (W1.drewN nq)) := Lib.hid (bel_drewN HBW.out nq)
  have HM2 : Hid (MachAt (W1.drewN nq) kb mw hp (.slice (some ⟨cg, 0, none⟩) 1 ccap) k n thr steps over) := HM
  clear hC2 m2 p0 g0
  go_wp2_with fail
  generalize W1.drewN nq = W2 at *
  have hC3 := HC2.out
  obtain ⟨hT, hB, hcb0, lv, sv, hC, _⟩ := hC3
  have c7 : W2.cell? ⟨cb, 7, none⟩ = some (.slice (some ⟨xb, xoff, none⟩) m.code.length xcap) := cell_of hC
  have c9 : W2.cell? ⟨cb, 9, none⟩ = some (.int .i64 at_) := cell_of hC
  obtain ⟨i0, i1, i2, i3, i4, i5⟩ := HX6.out.below hB
  have hai : (at_ : Int) < (m.code.length : Int) := by omega
  have ha0 : 0 ≤ (at_ : Int) := by omega
  have n1 := World.new_ne W2 _ c7
  have n2 := World.new_ne W2 _ i0
  simp only [] at n1 n2
  have n1' : cb < W2.heap.size := call_lt hC
  have n2' : xb < W2.heap.size := World.block_lt_of_cell? W2 _ i0
  clear hT hB hC
  go_region
  have hbn := (Below.refl W2.heap.size W2).alloc (Nat.le_refl _) (insBox 27 xa xbb xty xcl xnm)
  have hC4 := (HC2.out.alloc (insBox 27 xa xbb xty xcl xnm)).drew
  have hX4 := (hbn.block w.heap.size (Array.getElem?_eq_some_iff.1 HX2.out).1).trans HX2.out
  have hM4 := (hbn.block kb (Array.getElem?_eq_some_iff.1 (HM2.out : W2.heap[kb]? = _)).1).trans (HM2.out : W2.heap[kb]? = _)
  have hY4 : (W2.alloc (insBox 27 xa xbb xty xcl xnm)).drew.cell? ⟨W2.heap.size, 0, none⟩ = some (.int .i64 27) := cell_of (insBox_at W2 27 xa xbb xty xcl xnm)
  have hbw4 := (bel_then HBW2.out hbn).drew
  unfold insBox at hC4 hX4 hM4 hY4 hbw4
  have HBW4 := Lib.hid hbw4
  have HC4 := Lib.hid hC4
  have HX4 : Hid ((W2.alloc (.cells #[.int .i64 27, .int .i64 xa, .int .i64 xbb, .string xty, .string xcl, .string xnm] 56)).drew.heap[w.heap.size]? = some (.cells #[.pointer (some ⟨kb, 0, none⟩)] 78 (0, 0))) := Lib.hid hX4
  have HM4 : Hid (MachAt (W2.alloc (.cells #[.int .i64 27, .int .i64 xa, .int .i64 xbb, .string xty, .string xcl, .string xnm] 56)).drew kb mw hp (.slice (some ⟨cg, 0, none⟩) 1 ccap) k n thr steps over) := Lib.hid hM4
  clear hC4 hX4 hM4 hbw4 c7 c9 i0 i1 i2 i3 i4 i5 n1 n2 n1' n2' hbn
  generalize (W2.alloc _).drew = W3 at *
  generalize W2.heap.size = qb at *
  have p0 : W3.cell? ⟨w.heap.size, 0, none⟩ = some (.pointer (some ⟨kb, 0, none⟩)) := cell_of HX4.out
  obtain ⟨lv3, sv3, hx3⟩ := HC4.out.x
  have HX3 := Lib.hid hx3.re
  clear hx3
  go_wp2_with fail
  refine wp_region_noPanic ?_
  go_region_with (first
    | (go_at_call 107; refine (cpop w0 W3 cb cls m _ hv lv3 sv3 at_ ls [] v W3.drew HX3.out.drew (by simp)).mono ?_; rintro e w5 ⟨rfl, ⟨sv5, hx5, _⟩, hg5⟩; unfold vlV; have hM5 := hx5.1 _ _ _ _ (HM4.out : W3.heap[kb]? = _) (by decide); have hT5 := ((TagG.refl leaveS w).below HBW4.out).trans (hx5.1.mono (fun t ht => List.mem_cons_of_mem _ ht)); have hp5 : w5.cell? ⟨w.heap.size, 0, none⟩ = some (.pointer (some ⟨kb, 0, none⟩)) := hx5.1.cell HX4.out (by decide))
    | (go_at_call 106; refine (leave_last w0 kb cg ccap mw hp k n v.kind v.n thr steps over w5 hM5 hx5.2.1 hkb hc1 hc2).mono ?_; rintro e w6 ⟨rfl, hM6, hB6, hT6⟩))
  all_goals
    refine NoPanic.normal ?_
    go_wp2_with fail
    refine leaves_cons (f := 101) (args := #[.pointer (some ⟨w.heap.size, 0, none⟩)]) (by simp) (by simp [go_sem]) ?_
    refine (step_idle _ _).mono ?_
    rintro e u' w'' ⟨rfl, rfl, rfl⟩
    exact ⟨_, by simp [settle, results, Tryz.results59, go_sem], rfl, hM6, hB6, hT5.trans hT6⟩
end Go.Proofs.YthcjjjpcjjondaaGreatDoor
