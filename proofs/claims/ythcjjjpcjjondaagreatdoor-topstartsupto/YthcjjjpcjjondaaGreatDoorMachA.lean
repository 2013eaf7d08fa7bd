/- run.call: put and pop. -/
import Derived.Test.YthcjjjpcjjondaaGreatDoorChkR
import Derived.Deep.AppendLies
namespace Go.Proofs.YthcjjjpcjjondaaGreatDoor
open Go.RowKit
set_option linter.unusedVariables false
set_option linter.unusedSimpArgs false
set_option linter.unnecessarySimpa false

structure VL where
  kind : Int
  n : Int
  deriving DecidableEq
def vlV (v : VL) : Value := .agg #[.int .i64 v.kind, .int .i64 v.n]
def vlCells (vs : List VL) : List Value := vs.flatMap fun v => [.int .i64 v.kind, .int .i64 v.n]
theorem vlCells_len (vs : List VL) : (vlCells vs).length = vs.length * 2 := by
  induction vs with
  | nil => rfl
  | cons v vs ih => unfold vlCells at ih ⊢; rw [List.flatMap_cons, List.length_append, ih]; simp; omega
theorem vlCells_app (xs ys : List VL) : vlCells (xs ++ ys) = vlCells xs ++ vlCells ys := by simp [vlCells]
theorem vlCells_at (vs : List VL) (j : Nat) (hj : j < vs.length) : (vlCells vs)[j * 2]? = some (.int .i64 (vs[j]'hj).kind) ∧ (vlCells vs)[j * 2 + 1]? = some (.int .i64 (vs[j]'hj).n) := by
  induction vs generalizing j with
  | nil => simp at hj
  | cons v vs ih =>
    cases j with
    | zero => exact ⟨rfl, rfl⟩
    | succ j =>
      have h := ih j (by simpa using hj)
      have e : vlCells (v :: vs) = [.int .i64 v.kind, .int .i64 v.n] ++ vlCells vs := rfl
      constructor
      · rw [e, List.getElem?_append_right (by simp; omega), show (j + 1) * 2 - [Value.int .i64 v.kind, Value.int .i64 v.n].length = j * 2 by simp; omega]
        exact h.1
      · rw [e, List.getElem?_append_right (by simp; omega), show (j + 1) * 2 + 1 - [Value.int .i64 v.kind, Value.int .i64 v.n].length = j * 2 + 1 by simp; omega]
        exact h.2
theorem info_value : (Tryz.prog.info? 36).map (fun i => (i.zero, i.size, i.bytes)) = some (some (.agg #[.int .i64 0, .int .i64 0]), 2, 16) := by kernel_rfl
abbrev callS : List TypeId := [36, 125]
def CallAt (w : World) (cb : Nat) (cls : Str) (m : Meth) (cv hv : Value) (at_ : Int) (lv sv : Value) : Prop :=
  w.heap[cb]? = some (.cells #[.string cls, .string m.nm, .string m.ty, .bool m.static, .bool m.abstract, .bool m.priv, .int .i64 m.locals, cv, hv, .int .i64 at_, lv, sv] 125 (0, 0))
/-- A call that is not over: what it holds, and where. -/
def CSx (w0 wk w : World) (cb : Nat) (cls : Str) (m : Meth) (cv hv : Value) (at_ : Int) (lv sv : Value) (ls ss : List VL) : Prop :=
  TagG callS wk w ∧ Below w0.heap.size w0 w ∧ w0.heap.size ≤ cb ∧ CallAt w cb cls m cv hv at_ lv sv ∧ w.ownsRow w0.heap.size 36 2 lv ls.length (vlCells ls) ∧ w.ownsRow w0.heap.size 36 2 sv ss.length (vlCells ss) ∧ (lv.ownBlock = none ∨ lv.ownBlock ≠ sv.ownBlock)
def CS (w0 wk w : World) (cb : Nat) (cls : Str) (m : Meth) (cv hv : Value) (at_ : Int) (ls ss : List VL) : Prop :=
  TagG callS wk w ∧ Below w0.heap.size w0 w ∧ w0.heap.size ≤ cb ∧ ∃ lv sv, CallAt w cb cls m cv hv at_ lv sv ∧ w.ownsRow w0.heap.size 36 2 lv ls.length (vlCells ls) ∧ w.ownsRow w0.heap.size 36 2 sv ss.length (vlCells ss) ∧ (lv.ownBlock = none ∨ lv.ownBlock ≠ sv.ownBlock)
theorem call_lt {w : World} {cb : Nat} {cls : Str} {m : Meth} {cv hv lv sv : Value} {at_ : Int} (h : CallAt w cb cls m cv hv at_ lv sv) : cb < w.heap.size := (Array.getElem?_eq_some_iff.1 h).1
theorem CSx.cs {w0 wk w : World} {cb : Nat} {cls : Str} {m : Meth} {cv hv lv sv : Value} {at_ : Int} {ls ss : List VL} (h : CSx w0 wk w cb cls m cv hv at_ lv sv ls ss) : CS w0 wk w cb cls m cv hv at_ ls ss := ⟨h.1, h.2.1, h.2.2.1, lv, sv, h.2.2.2⟩
theorem CS.x {w0 wk w : World} {cb : Nat} {cls : Str} {m : Meth} {cv hv : Value} {at_ : Int} {ls ss : List VL} (h : CS w0 wk w cb cls m cv hv at_ ls ss) : ∃ lv sv, CSx w0 wk w cb cls m cv hv at_ lv sv ls ss := by
  obtain ⟨h0, h1, h2, lv, sv, h3⟩ := h
  exact ⟨lv, sv, h0, h1, h2, h3⟩
theorem CSx.below {w0 wk w w1 : World} {cb : Nat} {cls : Str} {m : Meth} {cv hv lv sv : Value} {at_ : Int} {ls ss : List VL} (h : CSx w0 wk w cb cls m cv hv at_ lv sv ls ss) (hb : Below w.heap.size w w1) : CSx w0 wk w1 cb cls m cv hv at_ lv sv ls ss := by
  obtain ⟨h0, h1, h2, h3, h4, h5, h6⟩ := h
  exact ⟨h0.below hb, bel_then h1 hb, h2, (hb.block cb (call_lt h3)).trans h3, own_below h4 hb, own_below h5 hb, h6⟩
theorem CSx.alloc {w0 wk w : World} {cb : Nat} {cls : Str} {m : Meth} {cv hv lv sv : Value} {at_ : Int} {ls ss : List VL} (h : CSx w0 wk w cb cls m cv hv at_ lv sv ls ss) (o : Obj) : CSx w0 wk (w.alloc o) cb cls m cv hv at_ lv sv ls ss := h.below ((Below.refl w.heap.size w).alloc (Nat.le_refl _) o)
theorem CSx.drew {w0 wk w : World} {cb : Nat} {cls : Str} {m : Meth} {cv hv lv sv : Value} {at_ : Int} {ls ss : List VL} (h : CSx w0 wk w cb cls m cv hv at_ lv sv ls ss) : CSx w0 wk w.drew cb cls m cv hv at_ lv sv ls ss := by
  obtain ⟨h0, h1, h2, h3⟩ := h
  exact ⟨h0, h1.drew, h2, h3⟩
/-- A cell of another block written. -/
theorem CSx.set {w0 wk w : World} {cb : Nat} {cls : Str} {m : Meth} {cv hv lv sv : Value} {at_ : Int} {ls ss : List VL} (h : CSx w0 wk w cb cls m cv hv at_ lv sv ls ss) {q o : Nat} {c : Array Value} {t : TypeId} {fz : Nat × Nat} (hq : w.heap[q]? = some (.cells c t fz)) (ht : t ∈ callS) (hq0 : w0.heap.size ≤ q) (h1 : q ≠ cb) (h2 : lv.ownBlock ≠ some q) (h3 : sv.ownBlock ≠ some q) (u : Value) :
    CSx w0 wk (w.setCell ⟨q, o, none⟩ u) cb cls m cv hv at_ lv sv ls ss := by
  obtain ⟨h0, hb, hc0, hC, hL, hS, hN⟩ := h
  refine ⟨h0.grown (grown_set w ⟨q, o, none⟩ u) (tag_cells hq ht), hb.setCell hq0 _, hc0, ?_, ownsRow_setCell_other hL (a := ⟨q, o, none⟩) h2 _, ownsRow_setCell_other hS (a := ⟨q, o, none⟩) h3 _, hN⟩
  exact ((grown_set w ⟨q, o, none⟩ u).block cb (call_lt hC) (fun e => by injection e with e; exact h1 e.symm)).trans hC
theorem CS.below {w0 wk w w1 : World} {cb : Nat} {cls : Str} {m : Meth} {cv hv : Value} {at_ : Int} {ls ss : List VL} (h : CS w0 wk w cb cls m cv hv at_ ls ss) (hb : Below w.heap.size w w1) : CS w0 wk w1 cb cls m cv hv at_ ls ss := by
  obtain ⟨h0, h1, h2, lv, sv, h3, h4, h5, h6⟩ := h
  exact ⟨h0.below hb, bel_then h1 hb, h2, lv, sv, (hb.block cb (call_lt h3)).trans h3, own_below h4 hb, own_below h5 hb, h6⟩
theorem CS.re {w0 wk w : World} {cb : Nat} {cls : Str} {m : Meth} {cv hv : Value} {at_ : Int} {ls ss : List VL} (h : CS w0 wk w cb cls m cv hv at_ ls ss) : CS w0 w w cb cls m cv hv at_ ls ss := ⟨TagG.refl _ _, h.2⟩
theorem CS.back {w0 wk w w1 : World} {cb : Nat} {cls : Str} {m : Meth} {cv hv : Value} {at_ at1 : Int} {ls ss ls1 ss1 : List VL} (h : CS w0 wk w cb cls m cv hv at_ ls ss) (k : CS w0 w w1 cb cls m cv hv at1 ls1 ss1) : CS w0 wk w1 cb cls m cv hv at1 ls1 ss1 := ⟨h.1.trans k.1, k.2⟩
theorem CS.drew {w0 wk w : World} {cb : Nat} {cls : Str} {m : Meth} {cv hv : Value} {at_ : Int} {ls ss : List VL} (h : CS w0 wk w cb cls m cv hv at_ ls ss) : CS w0 wk w.drew cb cls m cv hv at_ ls ss := by
  obtain ⟨h0, h1, h2, lv, sv, h3, h4, h5, h6⟩ := h
  exact ⟨h0, h1.drew, h2, lv, sv, h3, h4, h5, h6⟩
theorem CS.alloc {w0 wk w : World} {cb : Nat} {cls : Str} {m : Meth} {cv hv : Value} {at_ : Int} {ls ss : List VL} (h : CS w0 wk w cb cls m cv hv at_ ls ss) (o : Obj) : CS w0 wk (w.alloc o) cb cls m cv hv at_ ls ss := h.below ((Below.refl w.heap.size w).alloc (Nat.le_refl _) o)
theorem call_set {w : World} {cb : Nat} {cls : Str} {m : Meth} {cv hv lv sv : Value} {at_ : Int} (h : CallAt w cb cls m cv hv at_ lv sv) (v : Value) : CallAt (w.setCell ⟨cb, 11, none⟩ v) cb cls m cv hv at_ lv v := by
  unfold CallAt at h ⊢
  simp [World.setCell, Array.getElem?_modify, h]
theorem call_setAt {w : World} {cb : Nat} {cls : Str} {m : Meth} {cv hv lv sv : Value} {at_ : Int} (h : CallAt w cb cls m cv hv at_ lv sv) (k : Int) : CallAt (w.setCell ⟨cb, 9, none⟩ (.int .i64 k)) cb cls m cv hv k lv sv := by
  unfold CallAt at h ⊢
  simp [World.setCell, Array.getElem?_modify, h]
def CSPost (w0 wk : World) (cb : Nat) (cls : Str) (m : Meth) (cv hv : Value) (at_ : Int) (ls ss : List VL) (v : Value) (e : Ending) (w' : World) : Prop := e = .returned v ∧ CS w0 wk w' cb cls m cv hv at_ ls ss
theorem tag_own {S : List TypeId} {w : World} {base : Nat} {e : TypeId} {size n : Nat} {v : Value} {xs : List Value} (h : w.ownsRow base e size v n xs) (he : e ∈ S) : ∀ b, v.ownBlock = some b → ∀ (c : Array Value) (t : TypeId) (fz : Nat × Nat), w.heap[b]? = some (.cells c t fz) → t ∈ S := by
  intro b hb c t fz h'
  rcases h.2 with ⟨rfl, _⟩ | ⟨g, cap, cur, rfl, _, hh, _⟩
  · simp [Value.ownBlock] at hb
  · have : g = b := by simpa [Value.ownBlock] using hb
    subst this
    rw [hh] at h'
    injection h' with h'
    injection h' with _ h' _
    rw [← h']; exact he
theorem csx_store {w0 wk W1 w2 : World} {cb : Nat} {cls : Str} {m : Meth} {cv hv lv sv : Value} {at_ : Int} {ls ss ss2 : List VL} {gg : Nat} {k2 cap : Nat} (hT : TagG callS wk W1) (hB : Below w0.heap.size w0 W1) (hcb : w0.heap.size ≤ cb) (hC : CallAt W1 cb cls m cv hv at_ lv sv)
    (hL : W1.ownsRow w0.heap.size 36 2 lv ls.length (vlCells ls)) (hS : W1.ownsRow w0.heap.size 36 2 sv ss.length (vlCells ss)) (hN : lv.ownBlock = none ∨ lv.ownBlock ≠ sv.ownBlock) (hg : W1.grownBy w2 sv.ownBlock)
    (hown : w2.ownsRow w0.heap.size 36 2 (.slice (some ⟨gg, 0, none⟩) k2 cap) ss2.length (vlCells ss2)) (hat : sv.ownBlock = some gg ∨ W1.heap.size ≤ gg) :
    CSx w0 wk (w2.setCell ⟨cb, 11, none⟩ (.slice (some ⟨gg, 0, none⟩) k2 cap)) cb cls m cv hv at_ lv (.slice (some ⟨gg, 0, none⟩) k2 cap) ls ss2 := by
  have hne : some cb ≠ sv.ownBlock := fun e => own_ne_tag hS (hC : W1.heap[cb]? = _) (by decide) e.symm
  have hC2 : CallAt w2 cb cls m cv hv at_ lv sv := (hg.block cb (call_lt hC) hne).trans hC
  have hL2 := own_kept hL hg hN
  refine ⟨(hT.grown hg (tag_own hS (by simp))).grown (grown_set w2 ⟨cb, 11, none⟩ _) (tag_cells (hC2 : w2.heap[cb]? = _) (by simp)), (hB.grown hg hB.size (own_base hS)).setCell hcb _, hcb, call_set hC2 _,
    ownsRow_setCell_other hL2 (a := ⟨cb, 11, none⟩) (own_ne_tag hL2 (hC2 : w2.heap[cb]? = _) (by decide)) _, ownsRow_setCell_other hown (a := ⟨cb, 11, none⟩) (own_ne_tag hown (hC2 : w2.heap[cb]? = _) (by decide)) _, ?_⟩
  by_cases hz : lv.ownBlock = none
  · exact .inl hz
  · right
    intro e
    rcases hat with hat | hat
    · rcases hN with hN | hN
      · exact hz hN
      · exact hN (by rw [hat, e]; rfl)
    · have := own_lt hL gg (by rw [e]; rfl)
      omega
theorem boxed {W w2 : World} {o : Obj} {row : Option Nat} (hg : (W.alloc o).drew.grownBy w2 row) : W.grownBy w2 row := World.grownBy.trans (World.grownBy_alloc W _ _) (⟨hg.1, hg.2, hg.3, hg.4, hg.5⟩ : (W.alloc o).grownBy w2 row)
theorem frozen_grown {w w1 : World} {row : Option Nat} (hg : w.grownBy w1 row) {b o : Nat} (hne : some b ≠ row) (hlt : b < w.heap.size) (h : w.frozen? ⟨b, o, none⟩ = false) : w1.frozen? ⟨b, o, none⟩ = false := (World.frozen?_of_block (hg.block b hlt hne)).trans h
set_option maxRecDepth 100000 in
set_option maxHeartbeats 4000000 in
theorem cput (w0 wk : World) (cb : Nat) (cls : Str) (m : Meth) (cv hv : Value) (at_ : Int) (ls ss : List VL) (k n : Int) (w : World) (h : CS w0 wk w cb cls m cv hv at_ ls ss) (hlen : ss.length ≤ 1048576) :
    Calls Tryz.prog 172 #[.pointer (some ⟨cb, 0, none⟩), .agg #[.int .i64 k, .int .i64 n]] w (CSPost w0 wk cb cls m cv hv at_ ls (ss ++ [⟨k, n⟩]) (.tuple #[])) := by
  obtain ⟨i0, hi0, hz0, hz1, hz2⟩ := info_parts info_value
  have hb1 := (Below.refl w.heap.size w).alloc (Nat.le_refl _) (.cells #[.int .i64 k, .int .i64 n] 36)
  have hX : (w.alloc (.cells #[.int .i64 k, .int .i64 n] 36)).heap[w.heap.size]? = some (.cells #[.int .i64 k, .int .i64 n] 36 (0, 0)) := by
    show (w.heap.push _)[w.heap.size]? = _
    simp
  obtain ⟨hT, hB, hcb0, lv, sv, hC, hL, hS, hN⟩ := h
  have hnb : some w.heap.size ≠ sv.ownBlock := fun e => by have := own_lt hS _ e.symm; omega
  have hne : some cb ≠ sv.ownBlock := fun e => own_ne_tag hS (hC : w.heap[cb]? = _) (by decide) e.symm
  have hcb : cb < w.heap.size := call_lt hC
  have hT1 := hT.below hb1
  have hB1 := bel_then hB hb1
  have hC1 : CallAt (w.alloc (.cells #[.int .i64 k, .int .i64 n] 36)) cb cls m cv hv at_ lv sv := (hb1.block cb hcb).trans hC
  have hL1 := own_below hL hb1
  have hS1 := own_below hS hb1
  obtain ⟨sA, sc, rfl⟩ : ∃ A c, sv = .slice A ss.length c := by
    rcases hS.2 with ⟨e, h0⟩ | ⟨g, cap, cur, e, _⟩
    · exact ⟨none, 0, by rw [e, h0]⟩
    · exact ⟨_, _, e⟩
  have HX := Lib.hid hX
  have HT := Lib.hid hT1
  have HB := Lib.hid hB1
  have HC := Lib.hid hC1
  have HL := Lib.hid hL1
  have HS := Lib.hid hS1
  have HN := Lib.hid hN
  have HCB := Lib.hid hcb0
  clear hX hb1 hT hB hC hL hS hT1 hB1 hC1 hL1 hS1 hN
  go_enter Tryz.func172, Tryz.ntmps172
  go_upto_region 1 with (fail)
  generalize w.alloc _ = W1 at *
  have c11 : W1.cell? ⟨cb, 11, none⟩ = some (.slice sA ss.length sc) := cell_of HC.out
  have z11 : W1.frozen? ⟨cb, 11, none⟩ = false := frozen_of HC.out
  have b0 := cell_of (j := 0) HX.out
  have b1 := cell_of (j := 1) HX.out
  simp only [List.getElem?_toArray, List.getElem?_cons_zero, List.getElem?_cons_succ] at b0 b1
  have n0 := World.new_ne W1 _ c11
  have nb := World.new_ne W1 _ b0
  simp only [] at n0 nb
  have hcb1 : cb < W1.heap.size := call_lt HC.out
  have hb0 := HB.out.size
  go_region_law (first
    | (refine step_append_lies _ (by rfl) _ _ _ (by rfl) w0.heap.size 36 i0 _ 2 16 Tryz.underlying34 hi0 hz0 hz1 hz2 rfl (by omega) (.slice sA ss.length sc) ss.length (vlCells ss) (by rfl) ((HS.out.alloc _).drew)
        ⟨W1.heap.size, 0, none⟩ 1 1 [.int .i64 k, .int .i64 n] (by rfl) (by rfl) (World.news_of_block (cs := #[.int .i64 k, .int .i64 n]) (t := 36) (fr := (0, 0)) (heap_alloc_new W1 _)) (by simp [Value.oneCell'])
        (by omega) (by simp only [maxLen]; omega) (by omega) (by simp; omega) (W1.heap.size + 1) (by simp) ?_; intro gg cap w2 hown2 hgrow hat hlt; have hg1 := boxed hgrow; have g11 := cell_grownQ hg1 hne c11; have y11 := frozen_grown hg1 hne hcb1 z11))
  all_goals
    go_end0
    have e1 : vlCells (ss ++ [⟨k, n⟩]) = vlCells ss ++ [.int .i64 k, .int .i64 n] := by rw [vlCells_app]; rfl
    have e2 : (ss ++ [(⟨k, n⟩ : VL)]).length = ss.length + 1 := by simp
    refine ⟨rfl, (csx_store HT.out HB.out HCB.out HC.out HL.out HS.out HN.out hg1 (by rw [e1, e2]; exact hown2) ?_).cs⟩
    rcases hat with hat | hat
    · exact .inl hat
    · exact .inr (by omega)
def PopPost (w0 wk w : World) (cb : Nat) (cls : Str) (m : Meth) (cv hv : Value) (at_ : Int) (lv sv : Value) (ls ss : List VL) (v : Value) (e : Ending) (w' : World) : Prop := e = .returned v ∧ (∃ sv', CSx w0 wk w' cb cls m cv hv at_ lv sv' ls ss ∧ sv'.ownBlock = sv.ownBlock) ∧ w.grownBy w' (some cb)
theorem own_cell {w : World} {base e size g cap n : Nat} {xs : List Value} (h : w.ownsRow base e size (.slice (some ⟨g, 0, none⟩) n cap) n xs) {j : Nat} {u : Value} (hj : xs[j]? = some u) : w.cell? ⟨g, j, none⟩ = some u := by
  have := h.cells (g := g) rfl j u hj
  have hadd : (⟨g, 0, none⟩ : Addr).add j = ⟨g, j, none⟩ := by unfold Addr.add; split <;> simp_all
  rw [hadd] at this
  exact this
theorem own_drop {w : World} {base e size g cap n k : Nat} {xs ys : List Value} (h : w.ownsRow base e size (.slice (some ⟨g, 0, none⟩) n cap) n (xs ++ ys)) (hx : xs.length = k * size) (hk : k ≤ n) : w.ownsRow base e size (.slice (some ⟨g, 0, none⟩) k cap) k xs := by
  rcases h.2 with ⟨e, h0⟩ | ⟨g', cap', cur, e, hb, hh, h1, h2, h3, h4⟩
  · cases e
  · injection e with e1 _ e3
    injection e1 with e1
    injection e1 with e1 _ _
    subst e1 e3
    refine ⟨hx, .inr ⟨g, cap, cur, rfl, hb, hh, by omega, h2, h3, ?_⟩⟩
    have h5 := congrArg (List.take xs.length) h4
    rw [List.take_take, List.take_left, hx, Nat.min_eq_left (Nat.mul_le_mul_right _ hk)] at h5
    exact h5
set_option maxRecDepth 100000 in
set_option maxHeartbeats 4000000 in
theorem cpop (w0 wk : World) (cb : Nat) (cls : Str) (m : Meth) (cv hv lv sv : Value) (at_ : Int) (ls ss : List VL) (v : VL) (w : World) (h : CSx w0 wk w cb cls m cv hv at_ lv sv ls (ss ++ [v])) (hlen : ss.length ≤ 1048576) :
    Calls Tryz.prog 107 #[.pointer (some ⟨cb, 0, none⟩)] w (PopPost w0 wk w cb cls m cv hv at_ lv sv ls ss (vlV v)) := by
  obtain ⟨hT, hB, hcb0, hC, hL, hS, hN⟩ := h
  have e2 : (ss ++ [v]).length = ss.length + 1 := by simp
  have e1 : vlCells (ss ++ [v]) = vlCells ss ++ [.int .i64 v.kind, .int .i64 v.n] := by rw [vlCells_app]; rfl
  rw [e2] at hS
  obtain ⟨sg, sc, rfl⟩ := own_form hS (by omega)
  have hx := vlCells_at (ss ++ [v]) ss.length (by simp)
  have hv : (ss ++ [v])[ss.length]'(by simp) = v := by simp
  rw [hv] at hx
  have d0 := own_cell hS hx.1
  have d1 := own_cell hS hx.2
  have hcb : cb < w.heap.size := call_lt hC
  have hsg : sg < w.heap.size := own_lt hS sg rfl
  have hcap : ss.length + 1 ≤ sc ∧ sc ≤ 9223372036854775807 := by
    rcases hS.2 with ⟨e, _⟩ | ⟨g, cap, cur, e, _, _, a1, a2, _⟩
    · cases e
    · injection e with _ _ e3
      subst e3
      exact ⟨a1, a2⟩
  have c11 : w.cell? ⟨cb, 11, none⟩ = some (.slice (some ⟨sg, 0, none⟩) (ss.length + 1) sc) := cell_of hC
  have z11 : w.frozen? ⟨cb, 11, none⟩ = false := frozen_of hC
  have hne : sg ≠ cb := by
    rintro rfl
    exact own_ne_tag hS (hC : w.heap[sg]? = _) (by decide) rfl
  rw [e1] at hS
  have HS0 := Lib.hid hS
  have hS' := own_drop (k := ss.length) hS (vlCells_len ss) (by omega)
  have HS := Lib.hid hS'
  have HC := Lib.hid hC
  have HT := Lib.hid hT
  have HB := Lib.hid hB
  have HL := Lib.hid hL
  have HN := Lib.hid hN
  have HCB := Lib.hid hcb0
  replace e1 := Lib.hid e1
  replace e2 := Lib.hid e2
  clear hT hB hcb0 hC hL hS hN hx hv hS'
  go_enter Tryz.func107, Tryz.ntmps107
  go_wp2_with fail
  have HF := csx_store HT.out HB.out HCB.out HC.out HL.out (ss := ss ++ [v]) (by rw [e2.out, e1.out]; exact HS0.out) HN.out (World.grownBy.refl w _) HS.out (.inl rfl)
  exact bodyPost_ret (v := .agg #[.int .i64 v.kind, .int .i64 v.n]) (by simp [results, Tryz.results107, go_sem]) rfl ⟨rfl, ⟨_, (HF.alloc _).alloc _, rfl⟩, World.grownBy.trans (World.grownBy.trans (grown_set w ⟨cb, 11, none⟩ _) (World.grownBy_alloc _ _ _)) (World.grownBy_alloc _ _ _)⟩
set_option maxHeartbeats 1000000 in
theorem of_five (w : World) : Calls Tryz.prog 117 #[.string ⟨#[73]⟩, .int .i64 1, .int .i64 2, .int .i64 3] w fun e w' => e = .returned (.tuple #[.int .i64 5, .bool true]) ∧ w = w' := by
  go_enter Tryz.func117, Tryz.ntmps117
  go_wp2
  go_ret2
  exact ⟨rfl, rfl⟩
theorem kind_I (w : World) : Calls Tryz.prog 173 #[.string ⟨#[73]⟩] w fun e w' => e = .returned (.int .i64 1) ∧ w = w' := by
  go_enter Tryz.func173, Tryz.ntmps173
  go_wp2
  go_ret
  exact ⟨rfl, rfl⟩
theorem rneed_true (w : World) : Calls Tryz.prog 108 #[.bool true] w fun e w' => e = .returned (.tuple #[]) ∧ w = w' := by
  go_enter Tryz.func108, Tryz.ntmps108
  go_wp2
  go_end0
  exact ⟨rfl, rfl⟩
end Go.Proofs.YthcjjjpcjjondaaGreatDoor
