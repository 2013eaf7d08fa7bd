/- Worlds: Line. -/
import Derived.Test.YthcjjjpcjjondaaGreatDoorMapA
import Derived.Sort.OwnSorted
namespace Go.Proofs.YthcjjjpcjjondaaGreatDoor
open Go.RowKit
set_option linter.unusedVariables false
set_option linter.unusedSimpArgs false
set_option linter.unnecessarySimpa false

theorem lineFrom_step {k : Nat} {L : PW} {c : Cls} {ls : List Str} (h : lineFrom k L c = some ls) (hs : ¬ c.super.size = 0) : ∃ k' ls', k = k' + 1 ∧ lineFrom k' L (getC L c.super) = some ls' ∧ ls = c.super :: ls' := by
  cases k with
  | zero => cases h
  | succ k =>
    rw [lineFrom, if_neg hs, Option.map_eq_some_iff] at h
    obtain ⟨ls', h1, h2⟩ := h
    exact ⟨k, ls', rfl, h1, h2.symm⟩
theorem lineFrom_end {k : Nat} {L : PW} {c : Cls} {ls : List Str} (h : lineFrom k L c = some ls) (hs : c.super.size = 0) : ls = [] := by
  cases k with
  | zero => cases h
  | succ k => rw [lineFrom, if_pos hs] at h; injection h with h; exact h.symm
theorem lineFrom_len : ∀ (k : Nat) {L : PW} {c : Cls} {ls : List Str}, lineFrom k L c = some ls → ls.length ≤ k := by
  intro k
  induction k with
  | zero => intro L c ls h; cases h
  | succ k ih =>
    intro L c ls h
    by_cases hs : c.super.size = 0
    · rw [lineFrom_end h hs]; exact Nat.zero_le _
    · obtain ⟨k', ls', e, h1, rfl⟩ := lineFrom_step h hs
      injection e with e
      subst e
      have := ih h1
      simp; omega
theorem cell_grown {w w1 : World} {row : Option Nat} (hg : w.grownBy w1 row) {b o : Nat} {u : Value} (hne : some b ≠ row) (h : w.cell? ⟨b, o, none⟩ = some u) : w1.cell? ⟨b, o, none⟩ = some u := by
  have hlt := World.block_lt_of_cell? w _ h
  exact (World.cell?_of_block (w := w) (hg.block b hlt hne)).trans h
theorem Cls6.grown {w w1 : World} {row : Option Nat} {b o : Nat} {k : Cls} {fv gv mv : Value} (h : Cls6 w b o k fv gv mv) (hg : w.grownBy w1 row) (hne : some b ≠ row) : Cls6 w1 b o k fv gv mv :=
  ⟨cell_grown hg hne h.1, cell_grown hg hne h.2.1, cell_grown hg hne h.2.2.1, cell_grown hg hne h.2.2.2.1, cell_grown hg hne h.2.2.2.2.1, cell_grown hg hne h.2.2.2.2.2⟩
theorem own_lt {w : World} {base : Nat} {e : TypeId} {size n : Nat} {v : Value} {xs : List Value} (h : w.ownsRow base e size v n xs) (k : Nat) (hk : v.ownBlock = some k) : k < w.heap.size := by
  rcases h.2 with ⟨rfl, _⟩ | ⟨g, cap, cur, rfl, hb, hh, _⟩
  · simp [Value.ownBlock] at hk
  · have : g = k := by simpa [Value.ownBlock] using hk
    subst this
    exact (Array.getElem?_eq_some_iff.1 hh).1
def clsBox (c : Cls) (fv gv mv : Value) : Obj := .cells (clsA c fv gv mv) 28

set_option maxRecDepth 100000 in
set_option maxHeartbeats 2000000 in
theorem line_any (v : Value) (L : PW) (n : Str) (k : Nat) (ls : List Str) (w : World) (h : WMap w v L) (hl : lineFrom k L (getC L n) = some ls) (hk : k ≤ 1048576) :
    Calls Tryz.prog 21 #[v, .string n] w (StrsPost (n :: ls) w) := by
  have hb1 := (Below.refl w.heap.size w).alloc (Nat.le_refl _) (.cells #[.string n] 9)
  have HO1 := own_lit (base := w.heap.size) w n (Nat.le_refl _)
  have hM1 := h.below hb1
  obtain ⟨fv, gv, mv, hP, hrun, _⟩ := lookupW hM1 n
  obtain ⟨r, rfl⟩ := h.form
  have HM := Lib.hid h
  have HL := Lib.hid hl
  have HK := Lib.hid (lineFrom_len k hl)
  have hz1 : w.heap.size < (w.alloc (.cells #[.string n] 9)).heap.size := by simp
  clear h hM1 hl
  generalize getC L n = c at *
  obtain ⟨fA, fc, gA, gc, mA, mc, rfl, rfl, rfl⟩ := hP.forms
  have HP := Lib.hid hP
  clear hP
  unfold clsA at hrun
  go_enter Tryz.func21, Tryz.ntmps21
  go_upto_region 2 with (fail)
  generalize w.alloc (.cells #[.string n] 9) = W1 at *
  have HO1' := Lib.hid HO1
  clear HO1
  go_wp2
  go_loopg [5, 6] k (fun kq v p wr => ∃ (done : List Str) (rest : List Str) (c' : Cls) (b : Nat) (fA : Option Addr) (fc : Nat) (gA : Option Addr) (gc : Nat) (mA : Option Addr) (mc : Nat),
    p = .pointer (some ⟨b, 0, none⟩) ∧ some b ≠ v.ownBlock ∧ Cls6 wr b 0 c' (.slice fA c'.faces.length fc) (.slice gA c'.fields.length gc) (.slice mA c'.meths.length mc) ∧
    wr.ownsRow w.heap.size 9 1 v done.length (strCells done) ∧ Below w.heap.size w wr ∧ Hid (lineFrom kq L c' = some rest) ∧ Hid (n :: ls = done ++ rest) ∧ done.length + kq ≤ 1048577)
  case atStart =>
    exact ⟨[n], ls, c, W1.heap.size, fA, fc, gA, gc, mA, mc, rfl, by simp [Value.ownBlock]; omega, cbox_new W1 c _ _ _, own_below HO1'.out ((Below.refl _ _).alloc (Nat.le_refl _) _), hb1.alloc hb1.size _, HL, rfl, by simp; omega⟩
  case round =>
    clear hrun HO1' HP HL HK hb1 hz1
    obtain ⟨done, rest, c', b, fA, fc, gA, gc, mA, mc, rfl, hne, hbox, hown, hb, HR, HE, hlen⟩ := hrel
    obtain ⟨e0, e1, e2, e3, e4, e5⟩ := hbox.zero
    have HBX := Lib.hid hbox
    have HNE := Lib.hid hne
    clear hbox hne
    by_cases hs : c'.super.size = 0
    · have H : Hid (n :: ls = done) := by apply Lib.hid; rw [HE.out, lineFrom_end HR.out hs, List.append_nil]
      have he := empty_list hs
      clear HE HR hs
      go_wp2
      go_ret
      exact ⟨_, rfl, by rw [H.out]; exact hown, hb⟩
    · obtain ⟨k', ls', hk', hl', hr'⟩ := lineFrom_step HR.out hs
      have HE' : Hid (n :: ls = (done ++ [c'.super]) ++ ls') := by apply Lib.hid; rw [HE.out, hr']; simp
      have HL' := Lib.hid hl'
      have he := empty_not hs
      have hlen' : (done ++ [c'.super]).length + k' ≤ 1048577 := by rw [List.length_append, List.length_singleton]; omega
      have HK' := Lib.hid hk'
      have HLEN := Lib.hid hlen'
      clear HE HR hs hl' hr' hk' hlen'
      go_wp2_with (at_builtin; go_loud (refine append_str w.heap.size rfl _ _ rfl u5 done _ rfl rfl hown hb hb.size (by omega) ?_))
      intro v1 w4 hown4 hb4 hg4 hat4
      have hbx4 := HBX.out.grown hg4 HNE.out
      obtain ⟨d0, d1, d2, d3, d4, d5⟩ := hbx4.zero
      have hbb := hb4.alloc hb4.size (.cells #[Value.string c'.nm, Value.string c'.super, .slice fA c'.faces.length fc, .bool c'.face, .slice gA c'.fields.length gc, .slice mA c'.meths.length mc] 28)
      obtain ⟨fv2, gv2, mv2, hP2, hrun2, _⟩ := lookupW (HM.out.below hbb) c'.super
      obtain ⟨fA2, fc2, gA2, gc2, mA2, mc2, rfl, rfl, rfl⟩ := hP2.forms
      unfold clsA at hrun2
      clear e0 e1 e2 e3 e4 e5 hbx4 hP2
      go_wp2
      go_roundg k'
      case measure => have := HK'.out; omega
      case rel =>
        refine ⟨done ++ [c'.super], ls', getC L c'.super, w4.heap.size, fA2, fc2, gA2, gc2, mA2, mc2, rfl, ?_, cbox_new w4 _ _ _ _, ?_, hb4.alloc hb4.size _, HL', HE', HLEN.out⟩
        · intro e
          have := own_lt hown4 w4.heap.size e.symm
          omega
        · have h1 := own_below hown4 ((Below.refl w4.heap.size w4).alloc (Nat.le_refl _) (.cells (clsA (getC L c'.super) (.slice fA2 (getC L c'.super).faces.length fc2) (.slice gA2 (getC L c'.super).fields.length gc2) (.slice mA2 (getC L c'.super).meths.length mc2)) 28))
          rw [List.length_append]
          exact h1
end Go.Proofs.YthcjjjpcjjondaaGreatDoor

/- The library's Sort and Reverse over a row of texts of the call's own. -/
namespace Go.Proofs.YthcjjjpcjjondaaGreatDoor
open Go.RowKit Go.Sort

theorem sortS_length (xs : List Str) : (sortS xs).length = xs.length := by simp [sortS]
theorem strCells_enc (xs : List Str) : strCells xs = (xs.map bytes).map encStr := by
  unfold strCells
  rw [List.map_map]
  apply List.map_congr_left
  intro x _
  rfl
theorem strCells_back (l : List (List UInt8)) : l.map encStr = strCells (l.map mkS) := by
  unfold strCells
  rw [List.map_map]
  rfl

def SortPost (xs ys : List Str) (base : Nat) (v : Value) (w : World) (e : Ending) (w' : World) : Prop :=
  e = .returned (.tuple #[]) ∧ w'.ownsRow base 9 1 v xs.length (strCells ys) ∧ w.grownBy w' v.ownBlock
theorem sort_any (v : Value) (xs : List Str) (base : Nat) (w : World) (h : w.ownsRow base 9 1 v xs.length (strCells xs)) (hp : xs ≠ []) (hl : xs.length ≤ 1099511627776) :
    Calls Tryz.prog 153 #[v] w (SortPost xs (sortS xs) base v w) := by
  rcases h.2 with ⟨_, h0⟩ | ⟨g, cap, cur, rfl, hb, hh, h1, h2, h3, h4⟩
  · exact absurd (List.eq_nil_of_length_eq_zero h0) hp
  · rw [strCells_enc] at h4
    have hlm : (xs.map bytes).length = xs.length := List.length_map _
    have hH : Holds encStr w g 0 (xs.map bytes).toArray := holds_of_block hh (by rw [hlm, ← h4, Nat.mul_one])
    have hc := Tryz.slices_Sort_string g 0 cap (xs.map bytes) w hH (Array.getElem?_eq_some_iff.1 hh).1 (by rw [hlm]; omega)
    rw [hlm] at hc
    refine hc.mono ?_
    rintro e w' ⟨rfl, n, os, rfl⟩
    refine ⟨rfl, ?_, grownBy_sorted _⟩
    have ho := ownsRow_sorted (n := n) (os := os) (ss := xs.map bytes) (ts := (xs.map bytes).mergeSort fun x y => decide (x ≤ y)) (by simp) hb hh (by rw [hlm]; exact h1) h2 h3
    rw [hlm, strCells_back] at ho
    exact ho
theorem rev_any (v : Value) (xs : List Str) (base : Nat) (w : World) (h : w.ownsRow base 9 1 v xs.length (strCells xs)) (hl : xs.length ≤ 1099511627776) :
    Calls Tryz.prog 22 #[v] w (SortPost xs xs.reverse base v w) := by
  rcases h.2 with ⟨rfl, h0⟩ | ⟨g, cap, cur, rfl, hb, hh, h1, h2, h3, h4⟩
  · have := List.eq_nil_of_length_eq_zero h0
    subst this
    refine (Tryz.slices_Reverse_string_empty none 0 w).mono ?_
    rintro e w' ⟨rfl, rfl⟩
    exact ⟨rfl, h, World.grownBy.refl _ _⟩
  · rw [strCells_enc] at h4
    have hlm : (xs.map bytes).length = xs.length := List.length_map _
    have hH : Holds encStr w g 0 (xs.map bytes).toArray := holds_of_block hh (by rw [hlm, ← h4, Nat.mul_one])
    have hc := Tryz.slices_Reverse_string g 0 cap (xs.map bytes) w hH (by rw [hlm]; omega)
    rw [hlm] at hc
    refine hc.mono ?_
    rintro e w' ⟨rfl, n, rfl⟩
    have hg : w.grownBy (putRow encStr (Sort.ahead w n) g 0 (xs.map bytes).reverse.toArray) (some g) := by
      have := grownBy_sorted (w := w) (g := g) (n := n) (os := #[]) (xs.map bytes).reverse.toArray
      rwa [grow_empty] at this
    have ho := ownsRow_sorted (n := n) (os := #[]) (ss := xs.map bytes) (ts := (xs.map bytes).reverse) (by simp) hb hh (by rw [hlm]; exact h1) h2 h3
    rw [grow_empty, hlm, strCells_back, ← List.map_reverse, List.map_map] at ho
    refine ⟨rfl, ?_, hg⟩
    have e : (xs.reverse.map (mkS ∘ bytes)) = xs.reverse := by
      have : (mkS ∘ bytes) = id := by funext x; rfl
      rw [this, List.map_id]
    rw [e] at ho
    rw [← List.map_reverse]
    exact ho
end Go.Proofs.YthcjjjpcjjondaaGreatDoor
