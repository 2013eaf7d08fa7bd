/- Class lists among a row's arguments: opened into rows of memory. -/
import Derived.Test.YthcjjjpcjjondaaGreatDoorTopW
import Derived.Test.YthcjjjpcjjondaaGreatDoorRows
import Derived.Deep.Slices
import Derived.Deep.Fields
import Derived.ChangeSame
import Derived.Test.YthcjjjpcjjondaaGreatDoorCards
import Derived.Test.YthcjjjpcjjondaaGreatDoorTie
import Derived.WalkKit
import Derived.ProofKit
import Derived.OpenShut
import Derived.Carry
import Derived.Deep.DeepHandedRow
import Derived.Lib.LaidTab
import Derived.Stop.LaidErr
namespace Go.Proofs.YthcjjjpcjjondaaGreatDoor
open Go.RowKit Go.ChangeShapes Go.WideShapes Go.Deep
set_option linter.unusedVariables false
set_option linter.unusedSimpArgs false
set_option linter.unnecessarySimpa false

theorem bulk_part {H : Type} {d : DataW H} {l : List (DataW H)} (h : d ∈ l) : Rows.uptoBulk d ≤ Rows.uptoBulkAll l := by
  induction l with
  | nil => cases h
  | cons x r ih =>
    simp only [Rows.uptoBulkAll]
    cases List.mem_cons.1 h with
    | inl e => subst e; omega
    | inr e => have := ih e; omega
theorem bulk_one {H : Type} (d : DataW H) : 1 ≤ Rows.uptoBulk d := by
  cases d with
  | lit l => cases l <;> simp [Rows.uptoBulk]
  | nil => simp [Rows.uptoBulk]
  | ptr d => simp [Rows.uptoBulk]
  | slice elems spare => simp [Rows.uptoBulk]
  | agg parts => simp [Rows.uptoBulk]
  | iface t d => simp [Rows.uptoBulk]
  | map entries => simp [Rows.uptoBulk]
  | held h => simp [Rows.uptoBulk]
theorem bulk_length {H : Type} (l : List (DataW H)) : l.length ≤ Rows.uptoBulkAll l := by
  induction l with
  | nil => simp [Rows.uptoBulkAll]
  | cons x r ih => have := bulk_one x; simp only [Rows.uptoBulkAll, List.length_cons]; omega
theorem add_at {a : Addr} {b o : Nat} (h : a = ⟨b, o, none⟩) (n m : Nat) : (a.add n).add m = ⟨b, o + n + m, none⟩ := by
  subst h
  unfold Addr.add
  split <;> split <;> simp_all
theorem build_list {α : Type} {p : Nat → α → Prop} : ∀ n, (∀ i, i < n → ∃ x, p i x) → ∃ l : List α, l.length = n ∧ ∀ j x, l[j]? = some x → p j x := by
  intro n
  induction n with
  | zero => intro _; exact ⟨[], rfl, fun j x h => by simp at h⟩
  | succ n ih =>
    intro h
    obtain ⟨l, hl, hp⟩ := ih (fun i hi => h i (by omega))
    obtain ⟨x, hx⟩ := h n (by omega)
    refine ⟨l ++ [x], by simp [hl], ?_⟩
    intro j y hy
    by_cases hj : j < l.length
    · rw [List.getElem?_append_left hj] at hy
      exact hp j y hy
    · rw [List.getElem?_append_right (by omega)] at hy
      have hj0 : j - l.length = 0 := by
        have := (List.getElem?_eq_some_iff.1 hy).1
        simp at this; omega
      rw [hj0] at hy
      simp at hy
      rw [← hy, show j = n by omega]
      exact hx

section
variable {H : Type} {enc : TypeId × Value → H} {P : Program} {w : World} {base : Nat} {spare : Nat → Bool} {held : Bool}
theorem open_row {α : Type} {R : World → α → List Value → Prop} {t e : TypeId} {sz B : Nat} (ht : P.underlying t = some (.slice e)) (hC : P.cellsOf e = sz) (hsz : 0 < sz)
    (ho : ∀ fuel cs x, DataW.trod enc P w base spare held fuel e cs = some x → Rows.uptoBulk x.1 ≤ B → ∃ a, R w a cs)
    {fuel : Nat} {cs : List Value} {x : DataW H × List MemPlace} (h : DataW.trod enc P w base spare held fuel t cs = some x) (hb : Rows.uptoBulk x.1 ≤ B) : ∃ v l, cs = [v] ∧ RowR R sz w v l ∧ l.length ≤ B := by
  rcases open_slice ht h with ⟨rfl, rfl⟩ | ⟨a, len, cap, m, n, D, Pl, rfl, hba, hl, hm, hmm, rfl, hi⟩
  · exact ⟨_, [], rfl, RowR.nil _ _ _ _ _ (Nat.zero_le _), Nat.zero_le _⟩
  · simp only [Rows.uptoBulk] at hb
    have hlm : len ≤ m := by rw [hmm]; split <;> omega
    have hlB : len ≤ B := by
      have := bulk_length ((List.range len).map D)
      rw [List.length_map, List.length_range] at this
      omega
    have hD : ∀ i, i < len → Rows.uptoBulk (D i) ≤ B := by
      intro i hil
      have := bulk_part (d := D i) (l := (List.range len).map D) (List.mem_map.2 ⟨i, List.mem_range.2 hil, rfl⟩)
      omega
    obtain ⟨l, hll, hp⟩ := build_list (p := fun i x => ∃ c, R w x c ∧ w.cells? base (a.add (i * sz)) sz = some c) len (by
      intro i hil
      obtain ⟨c, hc, htr⟩ := hi i (by omega)
      rw [hC] at hc
      obtain ⟨x, hx⟩ := ho _ _ _ htr (hD i hil)
      exact ⟨x, c, hx, hc⟩)
    refine ⟨_, l, by rw [← hll], ⟨some a, cap, by rw [hll], by omega, hm, ?_⟩, by omega⟩
    intro j x hj
    have hjl : j < l.length := (List.getElem?_eq_some_iff.1 hj).1
    obtain ⟨c, hR, hc⟩ := hp j x hj
    obtain ⟨c0, _, hc0⟩ := hp 0 (l[0]'(by omega)) (List.getElem?_eq_getElem (by omega))
    obtain ⟨b, off, spot⟩ := a
    obtain ⟨_, h01, h02⟩ := World.cells?_some hc0
    have hspot : spot = none := by
      have h3 := h02 0 hsz
      rw [List.getElem?_eq_getElem (by omega)] at h3
      have := World.cell?_spot h3
      simpa [Addr.add] using this
    subst hspot
    refine ⟨b, off, c, rfl, hR, ?_⟩
    intro i u hu
    obtain ⟨_, h11, h12⟩ := World.cells?_some hc
    have hic : i < c.length := (List.getElem?_eq_some_iff.1 hu).1
    have h4 := h12 i (by omega)
    rw [add_at rfl, hu] at h4
    exact h4
theorem open_fields {t : TypeId} {fs : Array Field} {B fuel : Nat} {cs : List Value} {x : DataW H × List MemPlace} (he : P.underlying t = some (.struct fs)) (hone : oneCellFields P fs = true) (hC : P.cellsOf t = fs.size)
    (h : DataW.trod enc P w base spare held fuel t cs = some x) (hb : Rows.uptoBulk x.1 ≤ B) :
    cs.length = fs.size ∧ ∀ (j : Nat) (f : Field), fs[j]? = some f → ∃ (v : Value) (y : DataW H × List MemPlace) (n : Nat), cs[j]? = some v ∧ DataW.trod enc P w base spare held n f.type [v] = some y ∧ Rows.uptoBulk y.1 ≤ B := by
  obtain ⟨ys, n', hn', rfl, hlen, hyl, hf⟩ := DataW.trod_struct he h
  simp only [Rows.uptoBulk] at hb
  refine ⟨hlen.trans hC, fun j f hj => ?_⟩
  obtain ⟨ho, hk⟩ := hone_of hone j f hj
  have hjl : j < fs.size := (Array.getElem?_eq_some_iff.1 hj).1
  have hv : cs[j]? = some (cs[j]'(by omega)) := List.getElem?_eq_getElem (by omega)
  have h1 := hf j f hj
  rw [ho, hk] at h1
  have hone' : (cs.drop j).take 1 = [cs[j]'(by omega)] := by
    rw [List.drop_eq_getElem_cons (by omega)]
    rfl
  rw [hone'] at h1
  have hys : ys[j]? = some (ys[j]'(by omega)) := List.getElem?_eq_getElem (by omega)
  refine ⟨_, _, n', hv, h1.trans hys, ?_⟩
  have := bulk_part (d := (ys[j]'(by omega)).1) (l := ys.map (·.1)) (List.mem_map.2 ⟨_, List.getElem_mem _, rfl⟩)
  omega
theorem open_str {t : TypeId} {B fuel : Nat} {v : Value} {x : DataW H × List MemPlace} (ht : P.underlying t = some .string) (h : DataW.trod enc P w base spare held fuel t [v] = some x) (hb : Rows.uptoBulk x.1 ≤ B) : ∃ s : Str, v = .string s ∧ s.size ≤ B := by
  obtain ⟨s, hs, rfl, _⟩ := DataW.trod_string ht h
  injection hs with hs _
  refine ⟨s, hs, ?_⟩
  simp only [Rows.uptoBulk] at hb
  have : s.data.toList.length = s.size := rfl
  omega
theorem open_i {t : TypeId} {fuel : Nat} {v : Value} {x : DataW H × List MemPlace} (ht : P.underlying t = some (.int .i64)) (h : DataW.trod enc P w base spare held fuel t [v] = some x) : ∃ n : Int, v = .int .i64 n := by
  obtain ⟨n, hs, rfl, _⟩ := DataW.trod_int ht h
  injection hs with hs _
  exact ⟨n, hs⟩
theorem open_b {t : TypeId} {fuel : Nat} {v : Value} {x : DataW H × List MemPlace} (ht : P.underlying t = some .bool) (h : DataW.trod enc P w base spare held fuel t [v] = some x) : ∃ n : Bool, v = .bool n := by
  obtain ⟨n, hs, rfl⟩ := DataW.trod_bool ht h
  injection hs with hs _
  exact ⟨n, hs⟩
end

section
variable {H : Type} {enc : TypeId × Value → H} {w : World} {base : Nat} {spare : Nat → Bool} {held : Bool}
def StrR (_ : World) (s : Str) (c : List Value) : Prop := c = [.string s] ∧ s.size ≤ 1048576
theorem open_strs {fuel : Nat} {v : Value} {x : DataW H × List MemPlace} (h : DataW.trod enc Tryz.prog w base spare held fuel 24 [v] = some x) (hb : Rows.uptoBulk x.1 ≤ 1048576) :
    ∃ l : List Str, StrSl w v l ∧ (∀ f ∈ l, f.size ≤ 1048576) ∧ l.length ≤ 1048576 := by
  obtain ⟨v', l, hv, ⟨A, cap, h1, h2, h3, h4⟩, hl⟩ := open_row (R := StrR) (sz := 1) (B := 1048576) Tryz.underlying24 (by kernel_rfl) (by decide) (by
    intro fuel cs x h hb
    obtain ⟨s, rfl, rfl, _⟩ := DataW.trod_string Tryz.underlying9 h
    refine ⟨s, rfl, ?_⟩
    simp only [Rows.uptoBulk] at hb
    have : s.data.toList.length = s.size := rfl
    omega) h hb
  injection hv with hv _
  subst hv
  refine ⟨l, ⟨A, cap, h1, h2, h3, ?_⟩, ?_, hl⟩
  · intro j s hs
    obtain ⟨b, off, c, hA, ⟨rfl, _⟩, hc⟩ := h4 j s hs
    refine ⟨b, off, hA, ?_⟩
    have := hc 0 _ rfl
    simpa using this
  · intro f hf
    obtain ⟨j, hj, e⟩ := List.getElem_of_mem hf
    obtain ⟨b, off, c, hA, ⟨_, hs⟩, _⟩ := h4 j f (by rw [List.getElem?_eq_getElem hj, e])
    exact hs
theorem open_ins {fuel : Nat} {cs : List Value} {x : DataW H × List MemPlace} (h : DataW.trod enc Tryz.prog w base spare held fuel 56 cs = some x) (hb : Rows.uptoBulk x.1 ≤ 1048576) : ∃ a, InsR w a cs := by
  obtain ⟨hlen, hf⟩ := open_fields Tryz.underlying56 (by kernel_rfl) (by kernel_rfl) h hb
  obtain ⟨v0, y0, n0, c0, t0, b0⟩ := hf 0 _ rfl
  obtain ⟨v1, y1, n1, c1, t1, b1⟩ := hf 1 _ rfl
  obtain ⟨v2, y2, n2, c2, t2, b2⟩ := hf 2 _ rfl
  obtain ⟨v3, y3, n3, c3, t3, b3⟩ := hf 3 _ rfl
  obtain ⟨v4, y4, n4, c4, t4, b4⟩ := hf 4 _ rfl
  obtain ⟨v5, y5, n5, c5, t5, b5⟩ := hf 5 _ rfl
  obtain ⟨i0, rfl⟩ := open_i Tryz.underlying3 t0
  obtain ⟨i1, rfl⟩ := open_i Tryz.underlying3 t1
  obtain ⟨i2, rfl⟩ := open_i Tryz.underlying3 t2
  obtain ⟨s3, rfl, k3⟩ := open_str Tryz.underlying9 t3 b3
  obtain ⟨s4, rfl, k4⟩ := open_str Tryz.underlying9 t4 b4
  obtain ⟨s5, rfl, k5⟩ := open_str Tryz.underlying9 t5 b5
  refine ⟨⟨i0, i1, i2, s3, s4, s5⟩, ?_, ⟨by show s3.size ≤ _; omega, by show s4.size ≤ _; omega, by show s5.size ≤ _; omega⟩⟩
  match cs, hlen with
  | [u0, u1, u2, u3, u4, u5], _ =>
    simp at c0 c1 c2 c3 c4 c5
    subst c0 c1 c2 c3 c4 c5
    rfl
theorem open_han {fuel : Nat} {cs : List Value} {x : DataW H × List MemPlace} (h : DataW.trod enc Tryz.prog w base spare held fuel 94 cs = some x) (hb : Rows.uptoBulk x.1 ≤ 1048576) : ∃ a, HanR w a cs := by
  obtain ⟨hlen, hf⟩ := open_fields Tryz.underlying94 (by kernel_rfl) (by kernel_rfl) h hb
  obtain ⟨v0, y0, n0, c0, t0, b0⟩ := hf 0 _ rfl
  obtain ⟨v1, y1, n1, c1, t1, b1⟩ := hf 1 _ rfl
  obtain ⟨v2, y2, n2, c2, t2, b2⟩ := hf 2 _ rfl
  obtain ⟨v3, y3, n3, c3, t3, b3⟩ := hf 3 _ rfl
  obtain ⟨i0, rfl⟩ := open_i Tryz.underlying3 t0
  obtain ⟨i1, rfl⟩ := open_i Tryz.underlying3 t1
  obtain ⟨i2, rfl⟩ := open_i Tryz.underlying3 t2
  obtain ⟨s3, rfl, k3⟩ := open_str Tryz.underlying9 t3 b3
  refine ⟨⟨i0, i1, i2, s3⟩, ?_, by show s3.size ≤ _; omega⟩
  match cs, hlen with
  | [u0, u1, u2, u3], _ =>
    simp at c0 c1 c2 c3
    subst c0 c1 c2 c3
    rfl
theorem open_fld {fuel : Nat} {cs : List Value} {x : DataW H × List MemPlace} (h : DataW.trod enc Tryz.prog w base spare held fuel 153 cs = some x) (hb : Rows.uptoBulk x.1 ≤ 1048576) : ∃ a, FldR w a cs := by
  obtain ⟨hlen, hf⟩ := open_fields Tryz.underlying153 (by kernel_rfl) (by kernel_rfl) h hb
  obtain ⟨v0, y0, n0, c0, t0, b0⟩ := hf 0 _ rfl
  obtain ⟨v1, y1, n1, c1, t1, b1⟩ := hf 1 _ rfl
  obtain ⟨s0, rfl, k0⟩ := open_str Tryz.underlying9 t0 b0
  obtain ⟨s1, rfl, k1⟩ := open_str Tryz.underlying9 t1 b1
  refine ⟨⟨s0, s1⟩, ?_, by show s0.size ≤ _; omega, by show s1.size ≤ _; omega⟩
  match cs, hlen with
  | [u0, u1], _ =>
    simp at c0 c1
    subst c0 c1
    rfl
theorem open_meth {fuel : Nat} {cs : List Value} {x : DataW H × List MemPlace} (h : DataW.trod enc Tryz.prog w base spare held fuel 44 cs = some x) (hb : Rows.uptoBulk x.1 ≤ 1048576) : ∃ a, MethR w a cs := by
  obtain ⟨hlen, hf⟩ := open_fields Tryz.underlying44 (by kernel_rfl) (by kernel_rfl) h hb
  obtain ⟨v0, y0, n0, c0, t0, b0⟩ := hf 0 _ rfl
  obtain ⟨v1, y1, n1, c1, t1, b1⟩ := hf 1 _ rfl
  obtain ⟨v2, y2, n2, c2, t2, b2⟩ := hf 2 _ rfl
  obtain ⟨v3, y3, n3, c3, t3, b3⟩ := hf 3 _ rfl
  obtain ⟨v4, y4, n4, c4, t4, b4⟩ := hf 4 _ rfl
  obtain ⟨v5, y5, n5, c5, t5, b5⟩ := hf 5 _ rfl
  obtain ⟨v6, y6, n6, c6, t6, b6⟩ := hf 6 _ rfl
  obtain ⟨v7, y7, n7, c7, t7, b7⟩ := hf 7 _ rfl
  obtain ⟨s0, rfl, k0⟩ := open_str Tryz.underlying9 t0 b0
  obtain ⟨s1, rfl, k1⟩ := open_str Tryz.underlying9 t1 b1
  obtain ⟨d2, rfl⟩ := open_b Tryz.underlying4 t2
  obtain ⟨d3, rfl⟩ := open_b Tryz.underlying4 t3
  obtain ⟨d4, rfl⟩ := open_b Tryz.underlying4 t4
  obtain ⟨i5, rfl⟩ := open_i Tryz.underlying3 t5
  obtain ⟨v6', code, e6, hcode, _⟩ := open_row (R := InsR) (sz := 6) (B := 1048576) Tryz.underlying41 (by kernel_rfl) (by decide) (fun _ _ _ h hb => open_ins h hb) t6 b6
  injection e6 with e6 _
  subst e6
  obtain ⟨v7', hs, e7, hhs, _⟩ := open_row (R := HanR) (sz := 4) (B := 1048576) Tryz.underlying42 (by kernel_rfl) (by decide) (fun _ _ _ h hb => open_han h hb) t7 b7
  injection e7 with e7 _
  subst e7
  refine ⟨⟨s0, s1, d2, d3, d4, i5, code, hs⟩, v6, v7, ?_, hcode, hhs, by show s0.size ≤ _; omega, by show s1.size ≤ _; omega⟩
  match cs, hlen with
  | [u0, u1, u2, u3, u4, u5, u6, u7], _ =>
    simp at c0 c1 c2 c3 c4 c5 c6 c7
    subst c0 c1 c2 c3 c4 c5 c6 c7
    rfl
theorem open_cls {fuel : Nat} {cs : List Value} {x : DataW H × List MemPlace} (h : DataW.trod enc Tryz.prog w base spare held fuel 28 cs = some x) (hb : Rows.uptoBulk x.1 ≤ 1048576) : ∃ a, ClsR w a cs := by
  obtain ⟨hlen, hf⟩ := open_fields Tryz.underlying28 (by kernel_rfl) (by kernel_rfl) h hb
  obtain ⟨v0, y0, n0, c0, t0, b0⟩ := hf 0 _ rfl
  obtain ⟨v1, y1, n1, c1, t1, b1⟩ := hf 1 _ rfl
  obtain ⟨v2, y2, n2, c2, t2, b2⟩ := hf 2 _ rfl
  obtain ⟨v3, y3, n3, c3, t3, b3⟩ := hf 3 _ rfl
  obtain ⟨v4, y4, n4, c4, t4, b4⟩ := hf 4 _ rfl
  obtain ⟨v5, y5, n5, c5, t5, b5⟩ := hf 5 _ rfl
  obtain ⟨s0, rfl, k0⟩ := open_str Tryz.underlying9 t0 b0
  obtain ⟨s1, rfl, k1⟩ := open_str Tryz.underlying9 t1 b1
  obtain ⟨faces, hfa, hfs, hfl⟩ := open_strs t2 b2
  obtain ⟨d3, rfl⟩ := open_b Tryz.underlying4 t3
  obtain ⟨v4', flds, e4, hfld, _⟩ := open_row (R := FldR) (sz := 2) (B := 1048576) Tryz.underlying25 (by kernel_rfl) (by decide) (fun _ _ _ h hb => open_fld h hb) t4 b4
  injection e4 with e4 _
  subst e4
  obtain ⟨v5', ms, e5, hms, _⟩ := open_row (R := MethR) (sz := 8) (B := 1048576) Tryz.underlying26 (by kernel_rfl) (by decide) (fun _ _ _ h hb => open_meth h hb) t5 b5
  injection e5 with e5 _
  subst e5
  refine ⟨⟨s0, s1, faces, d3, flds, ms⟩, v2, v4, v5, ?_, hfa, hfld, hms, by show s0.size ≤ _; omega, by show s1.size ≤ _; omega, fun f hf' => by have := hfs f hf'; omega, hfl⟩
  match cs, hlen with
  | [u0, u1, u2, u3, u4, u5], _ =>
    simp at c0 c1 c2 c3 c4 c5
    subst c0 c1 c2 c3 c4 c5
    rfl
/-- A slice of classes, as a row's reading gives it. -/
theorem open_classes {v : Value} {d : DataW H} {p : List MemPlace} (hs : ∃ a n c, v = .slice a n c) (h : DataW.Trod enc Tryz.prog w base spare held 22 v d p) (hb : Rows.uptoBulk d ≤ 1048576) : ∃ l : List Cls, ClsSl w v l ∧ l.length ≤ 1048576 := by
  obtain ⟨fuel, hf⟩ := h
  obtain ⟨v', l, e, hl, hn⟩ := open_row (R := ClsR) (sz := 6) (B := 1048576) Tryz.underlying22 (by kernel_rfl) (by decide) (fun _ _ _ h hb => open_cls h hb) hf hb
  obtain ⟨a, n, c, rfl⟩ := hs
  have e' : v' = .slice a n c := by
    injection e with e _
    exact e.symm
  subst e'
  exact ⟨l, hl, hn⟩
end
end Go.Proofs.YthcjjjpcjjondaaGreatDoor

/- The statement TopStarts, second form, and its card. -/
namespace Go.Proofs.YthcjjjpcjjondaaGreatDoor.topStarts
open Go.ChangeShapes Go.WideShapes Go.ChangeAt Go.RowKit Go.Deep
set_option linter.unusedVariables false
set_option linter.unusedSimpArgs false
set_option linter.unnecessarySimpa false

theorem own : ownKnob Tryz.prog.godebug = none := by kernel_rfl
theorem laidOut : laidOutB Tryz.prog = true := by kernel_rfl
theorem gForms : Tryz.prog.globalNamed "coffeehouse/ins.forms" = some 0 := by kernel_rfl
theorem formsType : (Tryz.prog.globals[0]?).map (·.type) = some 237 := by kernel_rfl
theorem cells180 : Tryz.prog.cellsOf 180 = 2 := by kernel_rfl
theorem cells9 : Tryz.prog.cellsOf 9 = 1 := by kernel_rfl
theorem noHandles : Rows.topStartsUptoRow.laid.filter (fun x => x.2.handleName?.isSome) = [] := by kernel_rfl
theorem formsData : Rows.laid_coffeehouse_ins_forms (H := Unit) = .agg ((List.range 29).map fun i => .agg [.lit (.string (formW i).data.toList), .lit (.string (formN i).data.toList)]) := by kernel_rfl
theorem str_of {s t : Str} (h : s.data.toList = t.data.toList) : s = t := bytes_inj h
/-- The row's list gives the table of forms. -/
theorem forms {W : World} (h : laidMetH Tryz.prog Rows.topStartsUptoRow.laid W) : FormsLaid W := by
  unfold laidMetH at h
  rw [noHandles] at h
  have h1 := laidMet.tail h
  obtain ⟨ps, ⟨g, t, cs, fuel, p, q, hg, ht, hvar, hd, _, _⟩, _⟩ := h1
  obtain rfl := Option.some.inj (gForms.symm.trans hg)
  obtain rfl := Option.some.inj (formsType.symm.trans ht)
  obtain ⟨xs, m, _, hx, hcl, hxl, hxs⟩ := DataW.trod_array Tryz.underlying237 hd
  have hds : xs.map (·.1) = (List.range 29).map fun i => DataW.agg [.lit (.string (formW i).data.toList), .lit (.string (formN i).data.toList)] := by
    have h2 := congrArg Prod.fst hx
    rw [formsData] at h2
    injection h2 with h2
    exact h2.symm
  intro i hi
  have h3 := hxs i hi
  rw [cells180] at h3
  have hxi : xs[i]? = some (xs[i]'(by omega)) := List.getElem?_eq_getElem (by omega)
  rw [hxi] at h3
  have h4 : (xs[i]'(by omega)).1 = DataW.agg [.lit (.string (formW i).data.toList), .lit (.string (formN i).data.toList)] := by
    have h5 : (xs.map (·.1))[i]? = some (xs[i]'(by omega)).1 := by rw [List.getElem?_map, hxi]; rfl
    rw [hds, List.getElem?_map, List.getElem?_range hi] at h5
    injection h5 with h5
    exact h5.symm
  obtain ⟨y0, y1, n, hy, hlen, t0, t1⟩ := trod_struct2 Tryz.underlying180 h3
  obtain ⟨s0, e0, hy0, _⟩ := DataW.trod_string Tryz.underlying9 t0
  obtain ⟨s1, e1, hy1, _⟩ := DataW.trod_string Tryz.underlying9 t1
  have h6 : (xs[i]'(by omega)).1 = DataW.agg [y0.1, y1.1] := by rw [hy]
  rw [h4, hy0, hy1] at h6
  simp only [DataW.agg.injEq, List.cons.injEq, DataW.lit.injEq, Lit.string.injEq, and_true] at h6
  obtain ⟨h7, h8⟩ := h6
  have h9 := str_of h7
  have h10 := str_of h8
  have hcell := World.var?_cell hg hvar
  have k0 : cs[i * 2]? = some (.string s0) := by
    rw [cells9] at e0
    have := congrArg (fun l => l[0]?) e0
    simpa using this
  have k1 : cs[i * 2 + 1]? = some (.string s1) := by
    rw [cells9] at e1
    have := congrArg (fun l => l[0]?) e1
    simpa using this
  exact ⟨(hcell (i * 2)).trans (by rw [k0, h9]), (hcell (i * 2 + 1)).trans (by rw [k1, h10])⟩
end Go.Proofs.YthcjjjpcjjondaaGreatDoor.topStarts
