/- Rows of a call's own, and slices that are read. -/
import Derived.Test.YthcjjjpcjjondaaGreatDoorBase
import Derived.Maps.AppendAt
import Derived.OwnWalk
import Derived.Test.YthcjjjpcjjondaaGreatDoorPure
namespace Go.Proofs.YthcjjjpcjjondaaGreatDoor
open Go.RowKit
set_option linter.unusedVariables false
set_option linter.unusedSimpArgs false
set_option linter.unnecessarySimpa false

section
variable {P : Program} {ops : Array Oper} {rest : List Oper} {o : Oper} {a : Act} {Q : Exit → Act → World → Prop}
/-- append(v, x) of one element onto a row of the call's own, behind 'at_builtin'; the goal's world is 'W.alloc' of the element's box. -/
theorem append_elem {w0 W : World} (base : Nat) (hgd : o.guard = none) (s x : Operand) (t e : TypeId) (z : Value) (sz by_ : Nat)
    (ho : o.op = .call { callee := .builtin .append, args := #[s, x], argTypes := #[t, t] })
    (ht : P.underlying t = some (.slice e)) (hinfo : (P.info? e).map (fun i => (i.zero, i.size, i.bytes)) = some (some z, sz, by_)) (hz : z.cells.size = sz) (hsz : 0 < sz) (hb0 : 0 < by_)
    (v : Value) (n : Nat) (xs : List Value) (c : Array Value) (hc : c.size = sz) (hs : a.eval s = v) (hx : a.eval x = .slice (some ⟨W.heap.size, 0, none⟩) 1 1) (h1 : ∀ u ∈ c.toList, u.oneCell' = true)
    (HO : W.ownsRow base e sz v n xs) (HB : Below base w0 W) (hbase : base ≤ W.heap.size) (hl : (n + 1) * by_ ≤ 140737488355328)
    (h : ∀ v1 w1, w1.ownsRow base e sz v1 (n + 1) (xs ++ c.toList) → Below base w0 w1 → W.grownBy w1 v.ownBlock → (v1.ownBlock = v.ownBlock ∨ ∃ b, v1.ownBlock = some b ∧ W.heap.size ≤ b) → wpList P ops Q rest (a.put o.dst v1) w1) :
    wpList P ops Q (o :: rest) a (W.alloc (.cells c e)) := by
  obtain ⟨i0, hi, hzz⟩ := Option.map_eq_some_iff.1 hinfo
  simp only [Prod.mk.injEq] at hzz
  obtain ⟨hz0, hz1, hz2⟩ := hzz
  have hlen : n + 1 ≤ 140737488355328 := Nat.le_trans (Nat.le_mul_of_pos_right _ hb0) hl
  have hnews : ∀ j u, c.toList[j]? = some u → (W.alloc (.cells c e)).cell? ((⟨W.heap.size, 0, none⟩ : Addr).add j) = some u := by
    intro j u hj
    have hadd : (⟨W.heap.size, 0, none⟩ : Addr).add j = ⟨W.heap.size, j, none⟩ := by unfold Addr.add; split <;> simp_all
    rw [hadd]
    unfold World.cell?
    have hh : (W.alloc (.cells c e)).heap[W.heap.size]? = some (.cells c e) := by
      show (W.heap.push _)[W.heap.size]? = _
      simp
    rw [hh]
    simpa using hj
  have hown_base : ∀ k, v.ownBlock = some k → base ≤ k := by
    intro k hk
    rcases HO.2 with ⟨rfl, _⟩ | ⟨g, cap, cur, rfl, hb, _⟩
    · simp [Value.ownBlock] at hk
    · have : g = k := by simpa [Value.ownBlock] using hk
      omega
  refine wpList_append_own_at (W.alloc (.cells c e)) hgd s x t ho base e i0 z sz by_ ht hi hz0 hz1 hz2 hz hsz v n xs hs (HO.alloc _) ⟨W.heap.size, 0, none⟩ 1 1 c.toList hx (by simpa using hc)
    hnews h1 (by simp only [maxLen]; omega) hl (by simp; omega) ?_
  intro v1 w1 hown hg _ hat
  refine h v1 w1 hown ((HB.alloc hbase _).grown hg (by simp; omega) hown_base) (World.grownBy.trans (World.grownBy_alloc W _ _) hg) ?_
  rcases hat with hat | hat
  · exact .inl hat
  · exact .inr ⟨_, hat, by simp⟩
end

/-! Slices of texts that are read. -/
def StrSl (w : World) (v : Value) (xs : List Str) : Prop :=
  ∃ A cap, v = .slice A xs.length cap ∧ xs.length ≤ cap ∧ cap ≤ maxLen ∧ ∀ j x, xs[j]? = some x → ∃ b off, A = some ⟨b, off, none⟩ ∧ w.cell? ⟨b, off + j, none⟩ = some (.string x)
theorem StrSl.below {w w1 : World} {v : Value} {xs : List Str} (h : StrSl w v xs) (hb : Below w.heap.size w w1) : StrSl w1 v xs := by
  obtain ⟨A, cap, h1, h2, h3, h4⟩ := h
  refine ⟨A, cap, h1, h2, h3, fun j x hj => ?_⟩
  obtain ⟨b, off, ha, hc⟩ := h4 j x hj
  exact ⟨b, off, ha, (hb.cell (World.block_lt_of_cell? w _ hc)).trans hc⟩
theorem StrSl.nil (w : World) (A : Option Addr) (cap : Nat) (h : cap ≤ maxLen) : StrSl w (.slice A 0 cap) [] := ⟨A, cap, rfl, Nat.zero_le _, h, fun j x hj => by simp at hj⟩
def strCells (xs : List Str) : List Value := xs.map .string
theorem own_strs {w : World} {base e : Nat} {v : Value} {xs : List Str} (h : w.ownsRow base e 1 v xs.length (strCells xs)) : StrSl w v xs := by
  rcases h.2 with ⟨rfl, h0⟩ | ⟨g, cap, cur, rfl, _, hh, h1, h2, h3, h4⟩
  · have : xs = [] := List.eq_nil_of_length_eq_zero h0
    subst this
    exact StrSl.nil _ _ _ (Nat.zero_le _)
  · refine ⟨_, cap, rfl, h1, h2, fun j x hj => ⟨g, 0, rfl, ?_⟩⟩
    unfold World.cell?
    simp only [hh, Option.isSome_none, Bool.false_eq_true, if_false, Nat.zero_add]
    have hx : (strCells xs)[j]? = some (.string x) := by simp [strCells, hj]
    rw [← h4, List.getElem?_take] at hx
    split at hx
    · simpa using hx
    · cases hx
/-- A slice of texts over a row of cells: what the shelf's contracts ask. -/
theorem StrSl.cells {w : World} {v : Value} {xs : List Str} (h : StrSl w v xs) (hp : xs ≠ []) : ∃ b off cap, v = .slice (some ⟨b, off, none⟩) xs.length cap ∧ xs.length ≤ cap ∧ cap ≤ maxLen ∧ ∀ j, j < xs.length → w.cell? ⟨b, off + j, none⟩ = some (.string (xs.getD j ByteArray.empty)) := by
  obtain ⟨A, cap, rfl, h2, h3, h4⟩ := h
  cases xs with
  | nil => exact absurd rfl hp
  | cons x xs =>
    obtain ⟨b, off, rfl, _⟩ := h4 0 x rfl
    refine ⟨b, off, cap, rfl, h2, h3, fun j hj => ?_⟩
    obtain ⟨b', off', he, hc⟩ := h4 j ((x :: xs)[j]'hj) (List.getElem?_eq_getElem hj)
    injection he with he
    injection he with e1 e2 _
    subst e1 e2
    rw [List.getD_eq_getElem?_getD, List.getElem?_eq_getElem hj]
    exact hc
theorem StrSl.empty {w : World} {v : Value} (h : StrSl w v []) : ∃ A cap, v = .slice A 0 cap ∧ cap ≤ maxLen := by
  obtain ⟨A, cap, rfl, _, h3, _⟩ := h
  exact ⟨A, cap, rfl, h3⟩
theorem StrSl.form {w : World} {v : Value} {xs : List Str} (h : StrSl w v xs) : ∃ A cap, v = .slice A xs.length cap ∧ xs.length ≤ cap ∧ cap ≤ maxLen := by
  obtain ⟨A, cap, h1, h2, h3, _⟩ := h
  exact ⟨A, cap, h1, h2, h3⟩
theorem StrSl.at {w : World} {A : Option Addr} {n cap : Nat} {xs : List Str} (h : StrSl w (.slice A n cap) xs) {j : Nat} (hj : j < xs.length) : ∃ b off, A = some ⟨b, off, none⟩ ∧ w.cell? ⟨b, off + j, none⟩ = some (.string (xs[j]'hj)) := by
  obtain ⟨A', cap', he, _, _, h4⟩ := h
  injection he with e1 _ _
  subst e1
  exact h4 j _ (List.getElem?_eq_getElem hj)
theorem own_base {w : World} {base : Nat} {e : TypeId} {size n : Nat} {v : Value} {xs : List Value} (h : w.ownsRow base e size v n xs) (k : Nat) (hk : v.ownBlock = some k) : base ≤ k := by
  rcases h.2 with ⟨rfl, _⟩ | ⟨g, cap, cur, rfl, hb, _⟩
  · simp [Value.ownBlock] at hk
  · have : g = k := by simpa [Value.ownBlock] using hk
    omega
theorem own_nil (W : World) (base : Nat) (e : TypeId) (size : Nat) : W.ownsRow base e size (.slice none 0 0) 0 [] := ⟨by simp, .inl ⟨rfl, rfl⟩⟩
theorem own_below {w w1 : World} {base : Nat} {e : TypeId} {size n : Nat} {v : Value} {xs : List Value} (h : w.ownsRow base e size v n xs) (hb : Below w.heap.size w w1) : w1.ownsRow base e size v n xs := by
  refine h.kept (row := none) ⟨hb.os, hb.tape, hb.output, hb.size, fun i hi _ => hb.block i hi⟩ (by cases v.ownBlock <;> simp)
end Go.Proofs.YthcjjjpcjjondaaGreatDoor

/- Slices of structs that are read. -/
namespace Go.Proofs.YthcjjjpcjjondaaGreatDoor
open Go.RowKit

def RowR {α : Type} (R : World → α → List Value → Prop) (sz : Nat) (w : World) (v : Value) (xs : List α) : Prop :=
  ∃ A cap, v = .slice A xs.length cap ∧ xs.length ≤ cap ∧ cap ≤ maxLen ∧ ∀ j x, xs[j]? = some x → ∃ b off c, A = some ⟨b, off, none⟩ ∧ R w x c ∧ ∀ i u, c[i]? = some u → w.cell? ⟨b, off + j * sz + i, none⟩ = some u
def Mono {α : Type} (R : World → α → List Value → Prop) : Prop := ∀ w w1 x c, Below w.heap.size w w1 → R w x c → R w1 x c
theorem cell_below {w w1 : World} (hb : Below w.heap.size w w1) {a : Addr} {u : Value} (h : w.cell? a = some u) : w1.cell? a = some u := (hb.cell (World.block_lt_of_cell? w _ h)).trans h
theorem RowR.below {α : Type} {R : World → α → List Value → Prop} (hR : Mono R) {sz : Nat} {w w1 : World} {v : Value} {xs : List α} (h : RowR R sz w v xs) (hb : Below w.heap.size w w1) : RowR R sz w1 v xs := by
  obtain ⟨A, cap, h1, h2, h3, h4⟩ := h
  refine ⟨A, cap, h1, h2, h3, fun j x hj => ?_⟩
  obtain ⟨b, off, c, ha, hc, hh⟩ := h4 j x hj
  exact ⟨b, off, c, ha, hR _ _ _ _ hb hc, fun i u hi => cell_below hb (hh i u hi)⟩
theorem mono_row {α : Type} {R : World → α → List Value → Prop} (hR : Mono R) (sz : Nat) : ∀ w w1 v (xs : List α), Below w.heap.size w w1 → RowR R sz w v xs → RowR R sz w1 v xs := fun _ _ _ _ hb h => h.below hR hb
theorem RowR.nil {α : Type} (R : World → α → List Value → Prop) (sz : Nat) (w : World) (A : Option Addr) (cap : Nat) (h : cap ≤ maxLen) : RowR R sz w (.slice A 0 cap) [] := ⟨A, cap, rfl, Nat.zero_le _, h, fun j x hj => by simp at hj⟩
theorem RowR.empty {α : Type} {R : World → α → List Value → Prop} {sz : Nat} {w : World} {v : Value} (h : RowR R sz w v []) : ∃ A cap, v = .slice A 0 cap ∧ cap ≤ maxLen := by
  obtain ⟨A, cap, h1, _, h3, _⟩ := h
  exact ⟨A, cap, h1, h3⟩
theorem RowR.form {α : Type} {R : World → α → List Value → Prop} {sz : Nat} {w : World} {v : Value} {xs : List α} (h : RowR R sz w v xs) : ∃ A cap, v = .slice A xs.length cap ∧ xs.length ≤ cap ∧ cap ≤ maxLen := by
  obtain ⟨A, cap, h1, h2, h3, _⟩ := h
  exact ⟨A, cap, h1, h2, h3⟩
/-- A row with an element in it: where it lies. -/
theorem RowR.some {α : Type} {R : World → α → List Value → Prop} {sz : Nat} {w : World} {v : Value} {xs : List α} (h : RowR R sz w v xs) (hp : xs ≠ []) :
    ∃ b off cap, v = .slice (some ⟨b, off, none⟩) xs.length cap ∧ xs.length ≤ cap ∧ cap ≤ maxLen ∧ ∀ j (hj : j < xs.length), ∃ c, R w (xs[j]'hj) c ∧ ∀ i u, c[i]? = .some u → w.cell? ⟨b, off + j * sz + i, none⟩ = .some u := by
  obtain ⟨A, cap, rfl, h2, h3, h4⟩ := h
  cases xs with
  | nil => exact absurd rfl hp
  | cons x xs =>
    obtain ⟨b, off, _, rfl, _, _⟩ := h4 0 x rfl
    refine ⟨b, off, cap, rfl, h2, h3, fun j hj => ?_⟩
    obtain ⟨b', off', c, he, hR, hc⟩ := h4 j ((x :: xs)[j]'hj) (List.getElem?_eq_getElem hj)
    injection he with he
    injection he with e1 e2 _
    subst e1 e2
    exact ⟨c, hR, hc⟩

/-! Instructions. -/
def insA (x : Ins) : Array Value := #[.int .i64 x.op, .int .i64 x.a, .int .i64 x.b, .string x.ty, .string x.cls, .string x.nm]
def insV (x : Ins) : Value := .agg (insA x)
def InsSmall (x : Ins) : Prop := x.ty.size ≤ 1099511627775 ∧ x.cls.size ≤ 1099511627775 ∧ x.nm.size ≤ 1099511627775
def InsR (_ : World) (x : Ins) (c : List Value) : Prop := c = (insA x).toList ∧ InsSmall x
theorem mono_ins : Mono InsR := fun _ _ _ _ _ h => h
abbrev InsSl := RowR InsR 6
/-- An instruction's six cells. -/
def Ins6 (w : World) (b o : Nat) (x : Ins) : Prop :=
  w.cell? ⟨b, o, none⟩ = some (.int .i64 x.op) ∧ w.cell? ⟨b, o + 1, none⟩ = some (.int .i64 x.a) ∧ w.cell? ⟨b, o + 2, none⟩ = some (.int .i64 x.b) ∧ w.cell? ⟨b, o + 3, none⟩ = some (.string x.ty) ∧ w.cell? ⟨b, o + 4, none⟩ = some (.string x.cls) ∧ w.cell? ⟨b, o + 5, none⟩ = some (.string x.nm)
theorem Ins6.below {w w1 : World} {b o : Nat} {x : Ins} (h : Ins6 w b o x) (hb : Below w.heap.size w w1) : Ins6 w1 b o x :=
  ⟨cell_below hb h.1, cell_below hb h.2.1, cell_below hb h.2.2.1, cell_below hb h.2.2.2.1, cell_below hb h.2.2.2.2.1, cell_below hb h.2.2.2.2.2⟩
theorem InsSl.some {w : World} {v : Value} {l : List Ins} (h : InsSl w v l) (hp : l ≠ []) :
    ∃ b off cap, v = .slice (some ⟨b, off, none⟩) l.length cap ∧ l.length ≤ cap ∧ cap ≤ maxLen ∧ ∀ j (hj : j < l.length), Ins6 w b (off + j * 6) (l[j]'hj) ∧ InsSmall (l[j]'hj) := by
  obtain ⟨b, off, cap, h1, h2, h3, h4⟩ := RowR.some h hp
  refine ⟨b, off, cap, h1, h2, h3, fun j hj => ?_⟩
  obtain ⟨c, ⟨rfl, hs⟩, hc⟩ := h4 j hj
  exact ⟨⟨hc 0 _ rfl, hc 1 _ rfl, hc 2 _ rfl, hc 3 _ rfl, hc 4 _ rfl, hc 5 _ rfl⟩, hs⟩

end Go.Proofs.YthcjjjpcjjondaaGreatDoor
