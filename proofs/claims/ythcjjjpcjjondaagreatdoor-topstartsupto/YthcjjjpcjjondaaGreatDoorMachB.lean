/- run.call: math of 2 and 3; plain at the operations of the adder. -/
import Derived.Test.YthcjjjpcjjondaaGreatDoorMachA
namespace Go.Proofs.YthcjjjpcjjondaaGreatDoor
open Go.RowKit
set_option linter.unusedVariables false
set_option linter.unusedSimpArgs false
set_option linter.unnecessarySimpa false

theorem CSx.re {w0 wk w : World} {cb : Nat} {cls : Str} {m : Meth} {cv hv lv sv : Value} {at_ : Int} {ls ss : List VL} (h : CSx w0 wk w cb cls m cv hv at_ lv sv ls ss) : CSx w0 w w cb cls m cv hv at_ lv sv ls ss := ⟨TagG.refl _ _, h.2⟩
theorem CSx.lt {w0 wk w : World} {cb : Nat} {cls : Str} {m : Meth} {cv hv lv sv : Value} {at_ : Int} {ls ss : List VL} (h : CSx w0 wk w cb cls m cv hv at_ lv sv ls ss) : cb < w.heap.size ∧ w0.heap.size ≤ w.heap.size ∧ (∀ k, lv.ownBlock = some k → k < w.heap.size) ∧ (∀ k, sv.ownBlock = some k → k < w.heap.size) := by
  obtain ⟨h0, h1, h2, h3, h4, h5, h6⟩ := h
  exact ⟨call_lt h3, h1.size, fun k hk => own_lt h4 k hk, fun k hk => own_lt h5 k hk⟩
theorem heap_grown {w w1 : World} {row : Option Nat} (hg : w.grownBy w1 row) {b : Nat} {o : Obj} (hne : some b ≠ row) (h : w.heap[b]? = some o) : w1.heap[b]? = some o := (hg.block b (Array.getElem?_eq_some_iff.1 h).1 hne).trans h
theorem heap_set2 {w : World} {b : Nat} {c : Array Value} {t : TypeId} (h : w.heap[b]? = some (.cells c t (0, 0))) (i : Nat) (u : Value) : (w.setCell ⟨b, i, none⟩ u).heap[b]? = some (.cells (c.setIfInBounds i u) t (0, 0)) := by
  simp [World.setCell, Array.getElem?_modify, h]
theorem field_n (a b : Int) (w : World) : (Instr.field 36 (.agg #[.int .i64 a, .int .i64 b]) 1).run Tryz.prog w = .ok (.int .i64 b) w := by kernel_rfl
set_option maxRecDepth 100000 in
set_option maxHeartbeats 4000000 in
theorem cmath5 (w0 wk : World) (cb : Nat) (cls : Str) (m : Meth) (cv hv : Value) (at_ : Int) (ls ss : List VL) (bb : Int) (cl nm : Str) (w : World) (h : CS w0 wk w cb cls m cv hv at_ ls (ss ++ [⟨1, 2⟩] ++ [⟨1, 3⟩])) (hlen : ss.length ≤ 1048575) :
    Calls Tryz.prog 174 #[.pointer (some ⟨cb, 0, none⟩), .agg #[.int .i64 9, .int .i64 1, .int .i64 bb, .string ⟨#[73]⟩, .string cl, .string nm]] w (CSPost w0 wk cb cls m cv hv at_ ls (ss ++ [⟨1, 5⟩]) (.tuple #[])) := by
  have hfl := field_n
  obtain ⟨lv, sv, hx⟩ := h.x
  obtain ⟨hX, hO, hzz, hb⟩ := two_new w (.cells #[.int .i64 9, .int .i64 1, .int .i64 bb, .string ⟨#[73]⟩, .string cl, .string nm] 56) (.cells #[.int .i64 0, .int .i64 0] 36)
  have hx1 := hx.below hb
  obtain ⟨hcl, hw0, hlb, hsb⟩ := hx.lt
  have HX := Lib.hid hX
  have HO := Lib.hid hO
  have HZ := Lib.hid hzz
  have HC := Lib.hid hx1
  have HLB := Lib.hid hlb
  have HSB := Lib.hid hsb
  clear hX hO hzz hb hx1 hx h hlb hsb
  go_enter Tryz.func174, Tryz.ntmps174
  go_upto_region 2 with (fail)
  generalize (w.alloc _).alloc _ = W1 at *
  have x1 := cell_of (j := 1) HX.out
  simp only [List.getElem?_toArray, List.getElem?_cons_zero, List.getElem?_cons_succ] at x1
  go_wp2_with fail
  refine (cpop w0 W1 cb cls m cv hv lv sv at_ ls _ ⟨1, 3⟩ W1 HC.out.re (by simp; omega)).mono ?_
  rintro e w2 ⟨rfl, ⟨sv2, hx2, hs2⟩, hg2⟩
  have hO2 := heap_grown hg2 (fun e => by injection e with e; omega) HO.out
  have hX2 := heap_grown hg2 (fun e => by injection e with e; omega) HX.out
  have o0 := cell_of (j := 0) hO2
  have o1 := cell_of (j := 1) hO2
  have y0 := frozen_of (j := 0) hO2
  have y1 := frozen_of (j := 1) hO2
  simp only [List.getElem?_toArray, List.getElem?_cons_zero, List.getElem?_cons_succ] at o0 o1
  unfold vlV
  have HX2 := Lib.hid hX2
  have HO2 := Lib.hid hO2
  have H2 := Lib.hid hx2
  have HS2 := Lib.hid hs2
  clear hX2 hO2 hx2 hs2 hg2 x1
  go_upto_region 4 with (fail)
  have hn1 : w.heap.size + 1 ≠ cb := by omega
  have hq1 : lv.ownBlock ≠ some (w.heap.size + 1) := fun e => by have := HLB.out _ e; omega
  have hq2 : sv2.ownBlock ≠ some (w.heap.size + 1) := fun e => by rw [HS2.out] at e; have := HSB.out _ e; omega
  have hO3 := heap_set2 (heap_set2 HO2.out 0 (.int .i64 1)) 1 (.int .i64 3)
  have hx3 := (H2.out.set (o := 0) HO2.out (by simp) (by omega) hn1 hq1 hq2 (.int .i64 1)).set (o := 1) (heap_set2 HO2.out 0 (.int .i64 1)) (by simp) (by omega) hn1 hq1 hq2 (.int .i64 3)
  have hX3 : ((w2.setCell ⟨w.heap.size + 1, 0, none⟩ (.int .i64 1)).setCell ⟨w.heap.size + 1, 1, none⟩ (.int .i64 3)).heap[w.heap.size]? = some (.cells #[.int .i64 9, .int .i64 1, .int .i64 bb, .string ⟨#[73]⟩, .string cl, .string nm] 56 (0, 0)) :=
    heap_grown (grown_set _ ⟨w.heap.size + 1, 1, none⟩ _) (fun e => by injection e with e; simp at e) (heap_grown (grown_set _ ⟨w.heap.size + 1, 0, none⟩ _) (fun e => by injection e with e; simp at e) HX2.out)
  clear o0 o1 y0 y1
  have HX3 := Lib.hid hX3
  have HO3 := Lib.hid hO3
  have H3 := Lib.hid hx3
  clear hX3 hO3 hx3
  generalize (w2.setCell _ _).setCell _ _ = W3 at *
  have x1 := cell_of (j := 1) HX3.out
  have x3 := cell_of (j := 3) HX3.out
  have o1 := cell_of (j := 1) HO3.out
  simp at x1 x3 o1
  go_region_held3 (fun w' => w'.cell? ⟨w.heap.size, 1, none⟩ = some (.int .i64 1) ∧ w'.cell? ⟨w.heap.size, 3, none⟩ = some (.string ⟨#[73]⟩) ∧ w'.cell? ⟨w.heap.size + 1, 1, none⟩ = some (.int .i64 3))
    (first
      | go_keep
      | ((repeat' apply And.intro) <;> assumption))
    (first
      | (go_at_call 107; refine (cpop w0 W1 cb cls m cv hv lv sv2 at_ ls _ ⟨1, 2⟩ W3.drew H3.out.drew (by omega)).mono ?_; rintro e w4 ⟨rfl, ⟨sv4, hx4, hs4⟩, hg4⟩; unfold vlV; have hX4 := heap_grown hg4 (fun e => by injection e with e; omega) HX3.out; have hO4 := heap_grown hg4 (fun e => by injection e with e; omega) HO3.out; have p1 := cell_of (j := 1) hX4; have p3 := cell_of (j := 3) hX4; have q1 := cell_of (j := 1) hO4; simp at p1 p3 q1)
      | (go_at_call 117; refine (of_five _).mono ?_; rintro e w5 ⟨rfl, rfl⟩))
  have H4 := Lib.hid hx4.cs
  clear hX4 hO4 q1 hg4 hx4 hs4 x1 x3 o1
  go_wp2_with fail
  refine (rneed_true _).mono ?_
  rintro e w5 ⟨rfl, rfl⟩
  go_wp2_with fail
  refine (kind_I _).mono ?_
  rintro e w5 ⟨rfl, rfl⟩
  go_wp2_with fail
  refine (cput w0 W1 cb cls m cv hv at_ ls ss 1 5 _ H4.out (by omega)).mono ?_
  rintro e w6 ⟨rfl, hS6⟩
  have H6 := Lib.hid (HC.out.cs.back hS6)
  clear hS6
  go_wp2
  go_end0
  exact ⟨rfl, H6.out⟩
set_option maxRecDepth 100000 in
set_option maxHeartbeats 4000000 in
theorem cload (w0 wk : World) (cb : Nat) (cls : Str) (m : Meth) (cv hv : Value) (at_ : Int) (ls ss : List VL) (i : Nat) (v : VL) (bb : Int) (ty cl nm : Str) (w : World) (h : CS w0 wk w cb cls m cv hv at_ ls ss) (hi : ls[i]? = some v) (hlen : ss.length ≤ 1048575) (ha0 : 0 ≤ at_) (ha1 : at_ ≤ 1048576) :
    Calls Tryz.prog 109 #[.pointer (some ⟨cb, 0, none⟩), .agg #[.int .i64 4, .int .i64 i, .int .i64 bb, .string ty, .string cl, .string nm]] w (CSPost w0 wk cb cls m cv hv at_ ls (ss ++ [v]) (.int .i64 (at_ + 1))) := by
  obtain ⟨lv, sv, hx⟩ := h.x
  have hb := (Below.refl w.heap.size w).alloc (Nat.le_refl _) (insBox 4 i bb ty cl nm)
  have hX := insBox_at w 4 i bb ty cl nm
  have hx1 := hx.below hb
  have HZ : Hid ((w.alloc (insBox 4 i bb ty cl nm)).heap.size = w.heap.size + 1) := by apply Lib.hid; simp
  unfold insBox at hb hX hx1 HZ
  obtain ⟨hcl, hw0, hlb, hsb⟩ := hx.lt
  obtain ⟨hil, hik⟩ := List.getElem?_eq_some_iff.1 hi
  have HX := Lib.hid hX
  have HC := Lib.hid hx1
  clear hX hb hx1 hx h hlb hsb hi
  go_enter Tryz.func109, Tryz.ntmps109
  go_upto_region 1 with (fail)
  generalize w.alloc _ = W1 at *
  obtain ⟨hT, hB, hcb0, hC, hL, hS, hN⟩ := HC.out
  obtain ⟨lg, lc, rfl⟩ := own_form hL (by omega)
  have hlc : ls.length ≤ lc ∧ lc ≤ 9223372036854775807 := by
    rcases hL.2 with ⟨e, _⟩ | ⟨g, cap, cur, e, _, _, a1, a2, _⟩
    · cases e
    · injection e with _ _ e3
      subst e3
      exact ⟨a1, a2⟩
  have hv := vlCells_at ls i hil
  rw [hik] at hv
  have d0 := own_cell hL hv.1
  have d1 := own_cell hL hv.2
  have c9 : W1.cell? ⟨cb, 9, none⟩ = some (.int .i64 at_) := cell_of hC
  have c10 : W1.cell? ⟨cb, 10, none⟩ = some (.slice (some ⟨lg, 0, none⟩) ls.length lc) := cell_of hC
  have x0 := cell_of (j := 0) HX.out
  have x1 := cell_of (j := 1) HX.out
  simp only [List.getElem?_toArray, List.getElem?_cons_zero, List.getElem?_cons_succ] at x0 x1
  clear hT hB hcb0 hC hL hS hN hv hik
  go_wp2_with fail
  go_still_tail 9, (by kernel_rfl)
  change wpList _ _ _ _ _ W1.drew
  go_wp2_with fail
  refine (cput w0 wk cb cls m cv hv at_ ls ss v.kind v.n _ HC.out.drew.cs (by omega)).mono ?_
  rintro e w3 ⟨rfl, hS3⟩
  have H3 := Lib.hid hS3
  clear hS3
  go_wp2
  go_ret
  exact ⟨rfl, H3.out⟩
set_option maxRecDepth 100000 in
set_option maxHeartbeats 4000000 in
theorem cmathP (w0 wk : World) (cb : Nat) (cls : Str) (m : Meth) (cv hv : Value) (at_ : Int) (ls ss : List VL) (bb : Int) (cl nm : Str) (w : World) (h : CS w0 wk w cb cls m cv hv at_ ls (ss ++ [⟨1, 2⟩] ++ [⟨1, 3⟩])) (hlen : ss.length ≤ 1048575) (ha0 : 0 ≤ at_) (ha1 : at_ ≤ 1048576) :
    Calls Tryz.prog 109 #[.pointer (some ⟨cb, 0, none⟩), .agg #[.int .i64 9, .int .i64 1, .int .i64 bb, .string ⟨#[73]⟩, .string cl, .string nm]] w (CSPost w0 wk cb cls m cv hv at_ ls (ss ++ [⟨1, 5⟩]) (.int .i64 (at_ + 1))) := by
  obtain ⟨lv, sv, hx⟩ := h.x
  have hb := (Below.refl w.heap.size w).alloc (Nat.le_refl _) (insBox 9 1 bb ⟨#[73]⟩ cl nm)
  have hX := insBox_at w 9 1 bb ⟨#[73]⟩ cl nm
  have hx1 := hx.below hb
  unfold insBox at hb hX hx1
  have HX := Lib.hid hX
  have HC := Lib.hid hx1
  clear hX hb hx1 hx h
  go_enter Tryz.func109, Tryz.ntmps109
  go_upto_region 1 with (fail)
  generalize w.alloc _ = W1 at *
  have c9 : W1.cell? ⟨cb, 9, none⟩ = some (.int .i64 at_) := cell_of HC.out.2.2.2.1
  obtain ⟨x0, x1, x2, x3, x4, x5⟩ : W1.cell? ⟨w.heap.size, 0, none⟩ = some (.int .i64 9) ∧ W1.cell? ⟨w.heap.size, 1, none⟩ = some (.int .i64 1) ∧ W1.cell? ⟨w.heap.size, 2, none⟩ = some (.int .i64 bb) ∧ W1.cell? ⟨w.heap.size, 3, none⟩ = some (.string ⟨#[73]⟩) ∧ W1.cell? ⟨w.heap.size, 4, none⟩ = some (.string cl) ∧ W1.cell? ⟨w.heap.size, 5, none⟩ = some (.string nm) :=
    ⟨cell_of HX.out, cell_of HX.out, cell_of HX.out, cell_of HX.out, cell_of HX.out, cell_of HX.out⟩
  go_wp2_with fail
  refine (cmath5 w0 wk cb cls m cv hv at_ ls ss bb cl nm _ HC.out.cs hlen).mono ?_
  rintro e w3 ⟨rfl, hS3⟩
  have H3 := Lib.hid hS3
  clear hS3
  go_wp2
  go_ret
  exact ⟨rfl, H3.out⟩
end Go.Proofs.YthcjjjpcjjondaaGreatDoor
