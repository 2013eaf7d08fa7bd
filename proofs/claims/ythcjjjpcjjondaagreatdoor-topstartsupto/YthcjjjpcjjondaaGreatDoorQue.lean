/- A queue: a row of the call's own that is cut from the front. -/
import Derived.Test.YthcjjjpcjjondaaGreatDoorOwnRow
import Derived.ArgAppend
namespace Go.Proofs.YthcjjjpcjjondaaGreatDoor
open Go.RowKit
set_option linter.unusedVariables false
set_option linter.unusedSimpArgs false
set_option linter.unnecessarySimpa false

def QRow (w : World) (base : Nat) (e : TypeId) (v : Value) (xs : List Value) : Prop :=
  (v = .slice none 0 0 ∧ xs = []) ∨ ∃ g off cap cur, v = .slice (some ⟨g, off, none⟩) xs.length cap ∧ base ≤ g ∧ w.heap[g]? = some (.cells cur e (0, 0)) ∧ xs.length ≤ cap ∧ cap ≤ maxLen ∧ off + cap ≤ cur.size ∧ (cur.toList.drop off).take xs.length = xs
theorem q_nil (w : World) (base : Nat) (e : TypeId) : QRow w base e (.slice none 0 0) [] := .inl ⟨rfl, rfl⟩
theorem q_own {w : World} {b1 base : Nat} {e : TypeId} {v : Value} {xs : List Value} (h : w.ownsRow b1 e 1 v xs.length xs) (hb : base ≤ b1) : QRow w base e v xs := by
  rcases h.2 with ⟨rfl, h0⟩ | ⟨g, cap, cur, rfl, hg, hh, h1, h2, h3, h4⟩
  · exact .inl ⟨rfl, List.eq_nil_of_length_eq_zero h0⟩
  · exact .inr ⟨g, 0, cap, cur, rfl, Nat.le_trans hb hg, hh, h1, h2, by rw [h3]; omega, by simpa using h4⟩
theorem q_cell {w : World} {base : Nat} {e : TypeId} {v : Value} {xs : List Value} (h : QRow w base e v xs) {j : Nat} (hj : j < xs.length) : ∃ g off cap, v = .slice (some ⟨g, off, none⟩) xs.length cap ∧ w.cell? ⟨g, off + j, none⟩ = some (xs[j]'hj) := by
  rcases h with ⟨rfl, rfl⟩ | ⟨g, off, cap, cur, rfl, hg, hh, h1, h2, h3, h4⟩
  · exact absurd hj (by simp)
  · refine ⟨g, off, cap, rfl, ?_⟩
    unfold World.cell?
    simp only [hh, Option.isSome_none, Bool.false_eq_true, if_false]
    have hx : xs[j]? = some (xs[j]'hj) := List.getElem?_eq_getElem hj
    conv at hx => lhs; rw [← h4]
    rw [List.getElem?_take, if_pos hj, List.getElem?_drop] at hx
    simpa using hx
theorem q_form {w : World} {base : Nat} {e : TypeId} {v : Value} {xs : List Value} (h : QRow w base e v xs) : ∃ A cap, v = .slice A xs.length cap ∧ xs.length ≤ cap ∧ cap ≤ maxLen := by
  rcases h with ⟨rfl, rfl⟩ | ⟨g, off, cap, cur, rfl, hg, hh, h1, h2, h3, h4⟩
  · exact ⟨_, _, rfl, Nat.le_refl _, Nat.zero_le _⟩
  · exact ⟨_, _, rfl, h1, h2⟩
theorem q_base {w : World} {base : Nat} {e : TypeId} {v : Value} {xs : List Value} (h : QRow w base e v xs) (k : Nat) (hk : v.ownBlock = some k) : base ≤ k ∧ k < w.heap.size := by
  rcases h with ⟨rfl, _⟩ | ⟨g, off, cap, cur, rfl, hg, hh, _⟩
  · simp [Value.ownBlock] at hk
  · have : g = k := by simpa [Value.ownBlock] using hk
    subst this
    exact ⟨hg, (Array.getElem?_eq_some_iff.1 hh).1⟩
theorem q_kept {w w1 : World} {base : Nat} {e : TypeId} {v : Value} {xs : List Value} {row : Option Nat} (h : QRow w base e v xs) (hg : w.grownBy w1 row) (hne : v.ownBlock = none ∨ v.ownBlock ≠ row) : QRow w1 base e v xs := by
  rcases h with ⟨rfl, rfl⟩ | ⟨g, off, cap, cur, rfl, hg1, hh, h1⟩
  · exact .inl ⟨rfl, rfl⟩
  · have hlt := (Array.getElem?_eq_some_iff.1 hh).1
    refine .inr ⟨g, off, cap, cur, rfl, hg1, (hg.block g hlt ?_).trans hh, h1⟩
    rcases hne with h | h
    · simp [Value.ownBlock] at h
    · simpa [Value.ownBlock] using h
theorem q_below {w w1 : World} {base : Nat} {e : TypeId} {v : Value} {xs : List Value} (h : QRow w base e v xs) (hb : Below w.heap.size w w1) : QRow w1 base e v xs :=
  q_kept (row := none) h ⟨hb.os, hb.tape, hb.output, hb.size, fun i hi _ => hb.block i hi⟩ (by cases v.ownBlock <;> simp)
theorem q_setCell {w : World} {base : Nat} {e : TypeId} {v : Value} {xs : List Value} (h : QRow w base e v xs) {a : Addr} (hne : v.ownBlock ≠ some a.block) (u : Value) : QRow (w.setCell a u) base e v xs := by
  refine q_kept (row := some a.block) h ⟨rfl, rfl, rfl, by simp, fun k _ hk => ?_⟩ (.inr hne)
  have : k ≠ a.block := fun e => hk (by rw [e])
  simp [World.setCell, Array.getElem?_modify, Ne.symm this]
theorem q_drew {w : World} {base : Nat} {e : TypeId} {v : Value} {xs : List Value} (h : QRow w base e v xs) : QRow w.drew base e v xs := h
/-- The front cut off. -/
theorem q_tail {w : World} {base : Nat} {e : TypeId} {g off cap : Nat} {x : Value} {xs : List Value} (h : QRow w base e (.slice (some ⟨g, off, none⟩) (x :: xs).length cap) (x :: xs)) : 0 < cap ∧
    (cap = 1 → xs = [] ∧ QRow w base e (.slice (some ⟨g, off, none⟩) 0 0) xs) ∧ QRow w base e (.slice (some ⟨g, off + 1, none⟩) xs.length (cap - 1)) xs := by
  rcases h with ⟨h, _⟩ | ⟨g', off', cap', cur, he, hg1, hh, h1, h2, h3, h4⟩
  · simp at h
  · injection he with e1 _ e3
    injection e1 with e1
    injection e1 with e1 e2 _
    subst e1 e2 e3
    simp only [List.length_cons] at h1 h4
    refine ⟨by omega, ?_, ?_⟩
    · intro hc
      have hx : xs = [] := List.eq_nil_of_length_eq_zero (by omega)
      subst hx
      exact ⟨rfl, .inr ⟨g, off, 0, cur, rfl, hg1, hh, Nat.zero_le _, Nat.zero_le _, by omega, by simp⟩⟩
    · refine .inr ⟨g, off + 1, cap - 1, cur, rfl, hg1, hh, by omega, by unfold maxLen at *; omega, by omega, ?_⟩
      have hd : (cur.toList.drop off).drop 1 = cur.toList.drop (off + 1) := by rw [List.drop_drop]
      have := congrArg (List.drop 1) h4
      rw [List.drop_take] at this
      rw [← hd]
      simpa using this
section
variable {P : Program} {ops : Array Oper} {rest : List Oper} {o : Oper} {a : Act} {Q : Exit → Act → World → Prop}
/-- append(v, x) of one cell onto a queue, behind 'at_builtin'; the goal's world is 'W.alloc' of the cell's box. -/
theorem append_q {w0 W : World} (base : Nat) (hgd : o.guard = none) (s x : Operand) (t e : TypeId) (z : Value) (by_ : Nat)
    (ho : o.op = .call { callee := .builtin .append, args := #[s, x], argTypes := #[t, t] })
    (ht : P.underlying t = some (.slice e)) (hinfo : (P.info? e).map (fun i => (i.zero, i.size, i.bytes)) = some (some z, 1, by_)) (hz : z.cells.size = 1) (hb0 : 0 < by_)
    (v : Value) (xs : List Value) (u : Value) (hs : a.eval s = v) (hx : a.eval x = .slice (some ⟨W.heap.size, 0, none⟩) 1 1) (h1 : u.oneCell' = true)
    (HO : QRow W base e v xs) (HB : Below base w0 W) (hbase : base ≤ W.heap.size) (hl : (xs.length + 1) * by_ ≤ 140737488355328)
    (h : ∀ v1 w1, QRow w1 base e v1 (xs ++ [u]) → Below base w0 w1 → W.grownBy w1 v.ownBlock → (v1.ownBlock = v.ownBlock ∨ ∃ b, v1.ownBlock = some b ∧ W.heap.size ≤ b) → wpList P ops Q rest (a.put o.dst v1) w1) :
    wpList P ops Q (o :: rest) a (W.alloc (.cells #[u] e)) := by
  obtain ⟨i0, hi, hzz⟩ := Option.map_eq_some_iff.1 hinfo
  simp only [Prod.mk.injEq] at hzz
  obtain ⟨hz0, hz1, hz2⟩ := hzz
  have hlen : xs.length + 1 ≤ 140737488355328 := Nat.le_trans (Nat.le_mul_of_pos_right _ hb0) hl
  have hne : (W.alloc (.cells #[u] e)).cell? ⟨W.heap.size, 0, none⟩ = some u := by
    have := World.cell?_alloc_new W #[u] e 0
    simpa using this
  have hnews : ∀ j y, [u][j]? = some y → (W.alloc (.cells #[u] e)).cell? ((⟨W.heap.size, 0, none⟩ : Addr).add j) = some y := by
    intro j y hj
    cases j with
    | zero =>
      have hadd : (⟨W.heap.size, 0, none⟩ : Addr).add 0 = ⟨W.heap.size, 0, none⟩ := by unfold Addr.add; split <;> simp_all
      rw [hadd, hne]
      simpa using hj
    | succ j => simp at hj
  have h1' : ∀ y ∈ [u], y.oneCell' = true := by simpa using h1
  have hHB : Below base w0 (W.alloc (.cells #[u] e)) := HB.alloc hbase _
  have hsz : W.heap.size ≤ (W.alloc (.cells #[u] e)).heap.size := by simp
  rcases HO with ⟨rfl, rfl⟩ | ⟨g, off, cap, cur, rfl, hg1, hh, hc1, hc2, hc3, hc4⟩
  · refine wpList_append_own_at (W.alloc (.cells #[u] e)) hgd s x t ho base e i0 z 1 by_ ht hi hz0 hz1 hz2 hz (by decide) (.slice none 0 0) 0 [] hs (own_nil _ _ _ _) ⟨W.heap.size, 0, none⟩ 1 1 [u] hx (by simp)
      hnews h1' (by simp only [maxLen]; omega) (by simpa using hl) (by simp; omega) ?_
    intro v1 w1 hown hg _ hat
    refine h v1 w1 (q_own (by simpa using hown) (Nat.le_refl _)) (hHB.grown hg (by simp; omega) (fun k hk => by simp [Value.ownBlock] at hk)) (World.grownBy.trans (World.grownBy_alloc W _ _) hg) ?_
    rcases hat with hat | hat
    · exact .inl hat
    · exact .inr ⟨_, hat, by simp⟩
  · have hglt := (Array.getElem?_eq_some_iff.1 hh).1
    have hhA : (W.alloc (.cells #[u] e)).heap[g]? = some (.cells cur e (0, 0)) := by
      show (W.heap.push _)[g]? = _
      rw [Array.getElem?_push, if_neg (by omega)]
      exact hh
    have hcl : ∀ k, k < cur.size → ∃ y, (W.alloc (.cells #[u] e)).cell? ⟨g, k, none⟩ = some y := by
      intro k hk
      refine ⟨cur[k], ?_⟩
      unfold World.cell?
      simp [hhA, hk]
    have hfz : ∀ k, (W.alloc (.cells #[u] e)).frozen? ⟨g, k, none⟩ = false := by
      intro k
      unfold World.frozen?
      simp [hhA]
    refine wpList_append_arg (W.alloc (.cells #[u] e)) hgd s x t ho e i0 z 1 by_ ht hi hz0 hz1 hz2 hz (by decide) g off xs.length cap xs hs (by simp) ?_ ⟨W.heap.size, 0, none⟩ 1 1 [u] hx (by simp)
      hnews h1' ?_ (by simp only [maxLen]; omega) hl ?_ ?_
    · intro j y hj
      have hjl := (List.getElem?_eq_some_iff.1 hj).1
      obtain ⟨g2, off2, cap2, he, hc⟩ := q_cell (w := W.alloc (.cells #[u] e)) (base := base) (e := e) (v := .slice (some ⟨g, off, none⟩) xs.length cap) (xs := xs) (.inr ⟨g, off, cap, cur, rfl, hg1, hhA, hc1, hc2, hc3, hc4⟩) hjl
      injection he with e1 _ _
      injection e1 with e1
      injection e1 with e1 e2 _
      subst e1 e2
      rw [hc]
      rw [List.getElem?_eq_getElem hjl] at hj
      exact hj
    · intro hr j hj
      have hj0 : j = 0 := by simpa using hj
      subst hj0
      obtain ⟨y, hy⟩ := hcl (off + xs.length * 1 + 0) (by omega)
      exact ⟨by rw [hy]; rfl, hfz _⟩
    · intro hr
      have hw : (W.alloc (.cells #[u] e)).setCells g (off + xs.length * 1) [u] = (W.alloc (.cells #[u] e)).setCell ⟨g, off + xs.length, none⟩ u := by
        rw [Nat.mul_one]; rfl
      rw [hw]
      have hg : (W.alloc (.cells #[u] e)).grownBy ((W.alloc (.cells #[u] e)).setCell ⟨g, off + xs.length, none⟩ u) (some g) := by
        refine ⟨rfl, rfl, rfl, by simp, fun k _ hk => ?_⟩
        have : g ≠ k := fun e => hk (by rw [e])
        simp [World.setCell, Array.getElem?_modify, this]
      have hh2 : ((W.alloc (.cells #[u] e)).setCell ⟨g, off + xs.length, none⟩ u).heap[g]? = some (.cells (cur.setIfInBounds (off + xs.length) u) e (0, 0)) := by
        simp [World.setCell, Array.getElem?_modify, hhA]
      refine h _ _ (.inr ⟨g, off, cap, _, by simp, hg1, hh2, by simpa using hr, hc2, by simpa using hc3, ?_⟩) (hHB.grown hg (by simp; omega) (fun k hk => by injection hk with hk; omega)) (World.grownBy.trans (World.grownBy_alloc W _ _) hg) (.inl rfl)
      rw [Array.toList_setIfInBounds]
      rw [List.length_append, List.length_singleton]
      apply List.ext_getElem?
      intro j
      rw [List.getElem?_take, List.getElem?_drop, List.getElem?_set]
      have hcl2 : cur.toList.length = cur.size := by simp
      by_cases hj : j < xs.length
      · rw [if_pos (by omega), if_neg (by omega), List.getElem?_append_left hj]
        have hx : xs[j]? = xs[j]? := rfl
        conv at hx => lhs; rw [← hc4]
        rw [List.getElem?_take, if_pos hj, List.getElem?_drop] at hx
        exact hx
      · by_cases hj2 : j = xs.length
        · subst hj2
          rw [if_pos (by omega), if_pos rfl, if_pos (by omega)]
          simp
        · rw [if_neg (by omega), List.getElem?_eq_none (by simp; omega)]
    · intro hr v1 w1 hown hg
      have hg' : (W.alloc (.cells #[u] e)).grownBy w1 (Value.ownBlock (.slice (some ⟨g, off, none⟩) xs.length cap)) := ⟨hg.1, hg.2, hg.3, hg.4, fun k hk _ => hg.block k hk (by simp)⟩
      refine h v1 w1 (q_own (b1 := (W.alloc (.cells #[u] e)).heap.size) (by simpa using hown) (Nat.le_trans hbase hsz)) (hHB.grown hg (by simp; omega) (fun k hk => by cases hk)) (World.grownBy.trans (World.grownBy_alloc W _ _) hg') ?_
      rcases hown.2 with ⟨_, h0⟩ | ⟨g2, _, _, rfl, hb2, _⟩
      · omega
      · exact .inr ⟨g2, rfl, Nat.le_trans hsz hb2⟩
end
end Go.Proofs.YthcjjjpcjjondaaGreatDoor
