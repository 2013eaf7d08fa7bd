/- Frames, and a map of frames by places. -/
import Derived.Test.YthcjjjpcjjondaaGreatDoorWorldG
namespace Go.Proofs.YthcjjjpcjjondaaGreatDoor
open Go.RowKit
set_option linter.unusedVariables false
set_option linter.unusedSimpArgs false
set_option linter.unnecessarySimpa false

structure Frm where
  locals : List Str
  stack : List Str
  deriving DecidableEq
def emptyFrm : Frm := ⟨[], []⟩
/-- A frame in rows of the call's own: each in a block of texts from block B on. -/
def FrmP (w : World) (B : Nat) (f : Frm) (lv sv : Value) : Prop := w.ownsRow B 9 1 lv f.locals.length (strCells f.locals) ∧ w.ownsRow B 9 1 sv f.stack.length (strCells f.stack)
/-- A block that holds no texts. -/
def NoStr (w : World) (row : Option Nat) : Prop := ∀ b, row = some b → ∀ (c : Array Value) (fz : Nat × Nat), w.heap[b]? ≠ some (.cells c 9 fz)
theorem noStr_none (w : World) : NoStr w none := fun b h => by cases h
theorem noStr_cells {w : World} {b : Nat} {c : Array Value} {t : TypeId} {fz : Nat × Nat} (h : w.heap[b]? = some (.cells c t fz)) (ht : t ≠ 9) : NoStr w (some b) := by
  intro b' e c' fz' h'
  injection e with e
  subst e
  rw [h] at h'
  injection h' with h'
  injection h' with _ h' _
  exact ht h'
theorem noStr_map {w : World} {b : Nat} {es : Array MapEntry} {k : Nat} (h : w.heap[b]? = some (.map es k)) : NoStr w (some b) := by
  intro b' e c' fz' h'
  injection e with e
  subst e
  rw [h] at h'
  injection h' with h'
  cases h'
theorem own_noStr {w w1 : World} {base size n : Nat} {v : Value} {xs : List Value} {row : Option Nat} (h : w.ownsRow base 9 size v n xs) (hg : w.grownBy w1 row) (hn : NoStr w row) : w1.ownsRow base 9 size v n xs := by
  refine h.kept hg ?_
  by_cases hv : v.ownBlock = none
  · exact .inl hv
  · right
    intro e
    obtain ⟨k, hk⟩ := Option.ne_none_iff_exists'.1 hv
    rcases h.2 with ⟨rfl, _⟩ | ⟨g, cap, cur, rfl, _, hh, _⟩
    · simp [Value.ownBlock] at hk
    · have hgk : g = k := by simpa [Value.ownBlock] using hk
      exact hn g (by rw [← e]; rfl) _ _ hh
theorem FrmP.below {w w1 : World} {B : Nat} {f : Frm} {lv sv : Value} (h : FrmP w B f lv sv) (hb : Below w.heap.size w w1) : FrmP w1 B f lv sv := ⟨own_below h.1 hb, own_below h.2 hb⟩
theorem FrmP.keep {w w1 : World} {B : Nat} {row : Option Nat} {f : Frm} {lv sv : Value} (h : FrmP w B f lv sv) (hg : w.grownBy w1 row) (hn : NoStr w row) : FrmP w1 B f lv sv := ⟨own_noStr h.1 hg hn, own_noStr h.2 hg hn⟩
theorem FrmP.forms {w : World} {B : Nat} {f : Frm} {lv sv : Value} (h : FrmP w B f lv sv) : ∃ lA lc sA sc, lv = .slice lA f.locals.length lc ∧ sv = .slice sA f.stack.length sc ∧ f.locals.length ≤ lc ∧ lc ≤ maxLen ∧ f.stack.length ≤ sc ∧ sc ≤ maxLen := by
  obtain ⟨lA, lc, h1, a1, a2⟩ := (own_strs h.1).form
  obtain ⟨sA, sc, h2, a3, a4⟩ := (own_strs h.2).form
  exact ⟨lA, lc, sA, sc, h1, h2, a1, a2, a3, a4⟩
theorem frmP_empty (w : World) (B : Nat) : FrmP w B emptyFrm nilSl nilSl := ⟨own_nil _ _ _ _, own_nil _ _ _ _⟩

abbrev FM := List (Int × Frm)
def getF : FM → Int → Option Frm
  | [], _ => none
  | p :: M, k => if p.1 = k then some p.2 else getF M k
def setF : FM → Int → Frm → FM
  | [], k, f => [(k, f)]
  | p :: M, k, f => if p.1 = k then (k, f) :: M else p :: setF M k f
theorem getF_setF_same (M : FM) (k : Int) (f : Frm) : getF (setF M k f) k = some f := by
  induction M with
  | nil => simp [setF, getF]
  | cons p M ih => unfold setF; split <;> simp_all [getF]
theorem getF_setF_other (M : FM) (k j : Int) (f : Frm) (h : j ≠ k) : getF (setF M k f) j = getF M j := by
  induction M with
  | nil => simp [setF, getF, Ne.symm h]
  | cons p M ih =>
    unfold setF
    split
    · rename_i hp
      have hpj : ¬ p.1 = j := by rw [hp]; exact fun e => h e.symm
      simp [getF, hpj, Ne.symm h]
    · by_cases hj : p.1 = j <;> simp [getF, ih, hj]
def FEnt (w : World) (B : Nat) (x : MapEntry) (p : Int × Frm) : Prop := x.key = .int .i64 p.1 ∧ ∃ lv sv, x.val = .agg #[lv, sv] ∧ FrmP w B p.2 lv sv
inductive FEnts (w : World) (B : Nat) : List MapEntry → FM → Prop where
  | nil : FEnts w B [] []
  | cons {x : MapEntry} {p : Int × Frm} {es : List MapEntry} {L : FM} : FEnt w B x p → FEnts w B es L → FEnts w B (x :: es) (p :: L)
theorem FEnts.kept {w w1 : World} {B : Nat} {es : List MapEntry} {L : FM} (h : FEnts w B es L) (hb : Below w.heap.size w w1) : FEnts w1 B es L := by
  induction h with
  | nil => exact .nil
  | cons hx _ ih =>
    obtain ⟨h1, lv, sv, h2, h3⟩ := hx
    exact .cons ⟨h1, lv, sv, h2, h3.below hb⟩ ih
theorem FEnts.keep {w w1 : World} {B : Nat} {row : Option Nat} {es : List MapEntry} {L : FM} (h : FEnts w B es L) (hg : w.grownBy w1 row) (hn : NoStr w row) : FEnts w1 B es L := by
  induction h with
  | nil => exact .nil
  | cons hx _ ih =>
    obtain ⟨h1, lv, sv, h2, h3⟩ := hx
    exact .cons ⟨h1, lv, sv, h2, h3.keep hg hn⟩ ih
theorem findNow_f {w : World} {B : Nat} {es : List MapEntry} {M : FM} (h : FEnts w B es M) (k : Int) : ∀ i : Nat,
    (getF M k = none ∧ Instr.findNow (.int .i64) (.int .i64 k) es i = some none ∧ ∀ f lv sv b, FrmP w B f lv sv → FEnts w B (es ++ [{ key := .int .i64 k, val := .agg #[lv, sv], born := b }]) (setF M k f)) ∨
    ∃ f lv sv j, getF M k = some f ∧ Instr.findNow (.int .i64) (.int .i64 k) es i = some (some (i + j, .agg #[lv, sv])) ∧ FrmP w B f lv sv ∧ (∃ e, es[j]? = some e ∧ e.key = .int .i64 k) ∧
      ∀ g lv' sv', FrmP w B g lv' sv' → FEnts w B (es.modify j fun e => { e with key := .int .i64 k, val := .agg #[lv', sv'] }) (setF M k g) := by
  induction h with
  | nil => intro i; exact .inl ⟨rfl, rfl, fun f lv sv b hf => .cons ⟨rfl, lv, sv, rfl, hf⟩ .nil⟩
  | @cons x p es M hx hes ih =>
    intro i
    obtain ⟨h1, lv, sv, h2, h3⟩ := hx
    by_cases he : p.1 = k
    · refine .inr ⟨p.2, lv, sv, 0, ?_, ?_, h3, ⟨x, rfl, by rw [h1, he]⟩, ?_⟩
      · unfold getF; rw [if_pos he]
      · rw [Instr.findNow, h1, Instr.sameNow, if_pos rfl, he, h2]; simp
      · intro g lv' sv' hg
        unfold setF
        rw [if_pos he]
        exact .cons ⟨rfl, lv', sv', rfl, hg⟩ hes
    · have hne : (k == p.1) = false := by simpa using fun e => he e.symm
      have hg : getF (p :: M) k = getF M k := by simp [getF, he]
      have hf : Instr.findNow (.int .i64) (.int .i64 k) (x :: es) i = Instr.findNow (.int .i64) (.int .i64 k) es (i + 1) := by
        rw [Instr.findNow, h1, Instr.sameNow, if_pos rfl, hne]
      rw [hg, hf]
      have hst : ∀ f, setF (p :: M) k f = p :: setF M k f := fun f => by simp [setF, he]
      rcases ih (i + 1) with ⟨a1, a2, a3⟩ | ⟨f, lv2, sv2, j, a1, a2, a3, a4, a5⟩
      · exact .inl ⟨a1, a2, fun f lv' sv' b hf => by rw [hst]; exact .cons ⟨h1, lv, sv, h2, h3⟩ (a3 f lv' sv' b hf)⟩
      · refine .inr ⟨f, lv2, sv2, j + 1, a1, by rw [a2]; congr 3; omega, a3, by simpa using a4, fun g lv' sv' hg => ?_⟩
        rw [hst, List.modify_succ_cons]
        exact .cons ⟨h1, lv, sv, h2, h3⟩ (a5 g lv' sv' hg)
/-- A map of frames at block r. -/
def FMapAt (w : World) (r : Nat) (B : Nat) (M : FM) : Prop := ∃ es clock, w.heap[r]? = some (.map es clock) ∧ FEnts w B es.toList M
theorem FMapAt.below {w w1 : World} {r : Nat} {B : Nat} {M : FM} (h : FMapAt w r B M) (hb : Below w.heap.size w w1) : FMapAt w1 r B M := by
  obtain ⟨es, clock, h1, h2⟩ := h
  exact ⟨es, clock, (hb.block r (Array.getElem?_eq_some_iff.1 h1).1).trans h1, h2.kept hb⟩
theorem FMapAt.keep {w w1 : World} {r : Nat} {B : Nat} {row : Option Nat} {M : FM} (h : FMapAt w r B M) (hg : w.grownBy w1 row) (hn : NoStr w row) (hr : some r ≠ row) : FMapAt w1 r B M := by
  obtain ⟨es, clock, h1, h2⟩ := h
  exact ⟨es, clock, (hg.block r (Array.getElem?_eq_some_iff.1 h1).1 hr).trans h1, h2.keep hg hn⟩
theorem FMapAt.lt {w : World} {r : Nat} {B : Nat} {M : FM} (h : FMapAt w r B M) : r < w.heap.size := by
  obtain ⟨es, clock, h1, h2⟩ := h
  exact (Array.getElem?_eq_some_iff.1 h1).1
theorem info_frame : (Tryz.prog.info? 163).map (·.zero) = some (some (.agg #[nilSl, nilSl])) := by kernel_rfl
theorem zero_frame (w : World) : (zeroValue 163).run Tryz.prog w = .ok (.agg #[nilSl, nilSl]) w := by
  obtain ⟨i, hi, hz⟩ := Option.map_eq_some_iff.1 info_frame
  simp [zeroValue, typeInfo, Sem.run_bind, hi, hz, Result.andThen, Sem.run, program, bind, Sem.bind, pure]
/-- A look into a map of frames. -/
theorem lookupF {w : World} {r : Nat} {B : Nat} {M : FM} (h : FMapAt w r B M) (k : Int) : ∃ lv sv, FrmP w B ((getF M k).getD emptyFrm) lv sv ∧
    (Instr.lookup 108 (.map (some r)) (.int .i64 k) false).run Tryz.prog w = .ok (.agg #[lv, sv]) w ∧
    (Instr.lookup 108 (.map (some r)) (.int .i64 k) true).run Tryz.prog w = .ok (.tuple #[.agg #[lv, sv], .bool (getF M k).isSome]) w := by
  obtain ⟨es, clock, h1, h2⟩ := h
  have hck : ∀ e, (Instr.checkKey e 10000 3 (.int .i64 k)).run Tryz.prog w = .ok () w := fun e => MapKept.run_checkKey (n := 9999) Tryz.underlying3 (by simp [MapKept.IsKey]) e
  rcases findNow_f h2 k 0 with ⟨h4, h5, _⟩ | ⟨f, lv, sv, j, h4, h5, h6, _⟩
  · have hf := MapKept.run_findKey (P := Tryz.prog) (w := w) Tryz.underlying3 h5
    rw [h4]
    refine ⟨nilSl, nilSl, frmP_empty w B, ?_, ?_⟩
    · simp [Instr.lookup, run_underlying Tryz.underlying108, MapKept.run_getObj_map h1, hck, hf, zero_frame, Result.andThen, nilSl]
    · simp [Instr.lookup, run_underlying Tryz.underlying108, MapKept.run_getObj_map h1, hck, hf, zero_frame, Result.andThen, nilSl]
  · have hf := MapKept.run_findKey (P := Tryz.prog) (w := w) Tryz.underlying3 h5
    rw [h4]
    refine ⟨lv, sv, h6, ?_, ?_⟩
    · simp [Instr.lookup, run_underlying Tryz.underlying108, MapKept.run_getObj_map h1, hck, hf, Result.andThen]
    · simp [Instr.lookup, run_underlying Tryz.underlying108, MapKept.run_getObj_map h1, hck, hf, Result.andThen]
/-- A frame put at a place. -/
theorem updateF {W : World} {r : Nat} {B : Nat} {M : FM} (h : FMapAt W r B M) (k : Int) (f : Frm) (lv sv : Value) (hp : FrmP W B f lv sv) :
    ∃ W', (Instr.mapUpdate 108 (.map (some r)) (.int .i64 k) (.agg #[lv, sv])).run Tryz.prog W = .ok () W' ∧ FMapAt W' r B (setF M k f) ∧ W.grownBy W' (some r) ∧ NoStr W (some r) ∧ W'.heap.size = W.heap.size := by
  obtain ⟨es, clock, h1, h2⟩ := h
  have hck : ∀ e, (Instr.checkKey e 10000 3 (.int .i64 k)).run Tryz.prog W = .ok () W := fun e => MapKept.run_checkKey (n := 9999) Tryz.underlying3 (by simp [MapKept.IsKey]) e
  have hlt := (Array.getElem?_eq_some_iff.1 h1).1
  have hns := noStr_map h1
  have hgg : ∀ o, W.grownBy { W with heap := W.heap.setIfInBounds r o } (some r) := by
    intro o
    refine ⟨rfl, rfl, rfl, by simp, fun k hk hne => ?_⟩
    have : r ≠ k := fun e => hne (by rw [e])
    simp only [Array.getElem?_setIfInBounds_ne this]
  rcases findNow_f h2 k 0 with ⟨h4, h5, h6⟩ | ⟨g, lv2, sv2, j, h4, h5, h6, ⟨e, he1, he2⟩, h7⟩
  · have hf := MapKept.run_findKey (P := Tryz.prog) (w := W) Tryz.underlying3 h5
    refine ⟨{ W with heap := W.heap.setIfInBounds r (.map (es.push { key := .int .i64 k, val := .agg #[lv, sv], born := clock }) (clock + 1)) }, ?_, ?_, hgg _, hns, by simp⟩
    · simp [Instr.mapUpdate, run_underlying Tryz.underlying108, MapKept.run_getObj_map h1, hck, hf, Result.andThen, setObj, Sem.run, h1]
    · refine ⟨_, _, by simp only [Array.getElem?_setIfInBounds_self_of_lt hlt]; rfl, ?_⟩
      rw [Array.toList_push]
      exact (h6 f lv sv clock hp).keep (hgg _) hns
  · have hf := MapKept.run_findKey (P := Tryz.prog) (w := W) Tryz.underlying3 h5
    have hej : es[j]? = some e := by rw [← he1]; simp
    have hst : (Instr.keyThatStays (.int .i64 k) (.int .i64 k)).run Tryz.prog W = .ok (.int .i64 k) W := by
      simp [Instr.keyThatStays, Instr.sameBits]
    refine ⟨{ W with heap := W.heap.setIfInBounds r (.map (es.modify j fun e => { e with key := .int .i64 k, val := .agg #[lv, sv] }) clock) }, ?_, ?_, hgg _, hns, by simp⟩
    · simp [Instr.mapUpdate, run_underlying Tryz.underlying108, MapKept.run_getObj_map h1, hck, hf, Result.andThen, setObj, Sem.run, h1, hej, he2, hst]
    · refine ⟨_, _, by simp only [Array.getElem?_setIfInBounds_self_of_lt hlt]; rfl, ?_⟩
      rw [Array.toList_modify]
      exact (h7 f lv sv hp).keep (hgg _) hns
end Go.Proofs.YthcjjjpcjjondaaGreatDoor
