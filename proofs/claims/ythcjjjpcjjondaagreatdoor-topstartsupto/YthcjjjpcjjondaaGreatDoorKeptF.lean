/- What is read stays as long as no cell turns; a map that gets an entry more. -/
import Derived.Test.YthcjjjpcjjondaaGreatDoorWorldE
namespace Go.Proofs.YthcjjjpcjjondaaGreatDoor
open Go.RowKit
set_option linter.unusedVariables false
set_option linter.unusedSimpArgs false
set_option linter.unnecessarySimpa false

/-- Every cell reads as it did. -/
def CK (w w1 : World) : Prop := ∀ a u, w.cell? a = some u → w1.cell? a = some u
theorem ck_below {w w1 : World} (hb : Below w.heap.size w w1) : CK w w1 := fun _ _ h => cell_below hb h
theorem CK.trans {a b c : World} (h : CK a b) (k : CK b c) : CK a c := fun _ _ e => k _ _ (h _ _ e)
def MonoC {α : Type} (R : World → α → List Value → Prop) : Prop := ∀ w w1 x c, CK w w1 → R w x c → R w1 x c
theorem RowR.ck {α : Type} {R : World → α → List Value → Prop} (hR : MonoC R) {sz : Nat} {w w1 : World} {v : Value} {xs : List α} (h : RowR R sz w v xs) (hb : CK w w1) : RowR R sz w1 v xs := by
  obtain ⟨A, cap, h1, h2, h3, h4⟩ := h
  refine ⟨A, cap, h1, h2, h3, fun j x hj => ?_⟩
  obtain ⟨b, off, c, ha, hc, hh⟩ := h4 j x hj
  exact ⟨b, off, c, ha, hR _ _ _ _ hb hc, fun i u hi => hb _ _ (hh i u hi)⟩
theorem StrSl.ck {w w1 : World} {v : Value} {xs : List Str} (h : StrSl w v xs) (hb : CK w w1) : StrSl w1 v xs := by
  obtain ⟨A, cap, h1, h2, h3, h4⟩ := h
  refine ⟨A, cap, h1, h2, h3, fun j x hj => ?_⟩
  obtain ⟨b, off, ha, hc⟩ := h4 j x hj
  exact ⟨b, off, ha, hb _ _ hc⟩
theorem monoC_ins : MonoC InsR := fun _ _ _ _ _ h => h
theorem monoC_han : MonoC HanR := fun _ _ _ _ _ h => h
theorem monoC_fld : MonoC FldR := fun _ _ _ _ _ h => h
theorem MethP.ck {w w1 : World} {m : Meth} {cv hv : Value} (h : MethP w m cv hv) (hb : CK w w1) : MethP w1 m cv hv := ⟨h.1.ck monoC_ins hb, h.2.1.ck monoC_han hb, h.2.2⟩
theorem monoC_meth : MonoC MethR := fun _ _ _ _ hb ⟨cv, hv, h, hp⟩ => ⟨cv, hv, h, hp.ck hb⟩
theorem ClsP.ck {w w1 : World} {k : Cls} {fv gv mv : Value} (h : ClsP w k fv gv mv) (hb : CK w w1) : ClsP w1 k fv gv mv := ⟨h.1.ck hb, h.2.1.ck monoC_fld hb, h.2.2.1.ck monoC_meth hb, h.2.2.2⟩
theorem monoC_cls : MonoC ClsR := fun _ _ _ _ hb ⟨fv, gv, mv, h, hp⟩ => ⟨fv, gv, mv, h, hp.ck hb⟩
theorem FormsLaid.ck {w w1 : World} (h : FormsLaid w) (hb : CK w w1) : FormsLaid w1 := fun i hi => ⟨hb _ _ (h i hi).1, hb _ _ (h i hi).2⟩
theorem EntsR.ck {w w1 : World} {es : List MapEntry} {L : PW} (h : EntsR w es L) (hb : CK w w1) : EntsR w1 es L := by
  induction h with
  | nil => exact .nil
  | cons hx _ ih =>
    obtain ⟨h1, fv, gv, mv, h2, h3⟩ := hx
    exact .cons ⟨h1, fv, gv, mv, h2, h3.ck hb⟩ ih
theorem EntsR.snoc {w : World} {es : List MapEntry} {L : PW} {x : MapEntry} {p : Str × Cls} (h : EntsR w es L) (hx : EntR w x p) : EntsR w (es ++ [x]) (L ++ [p]) := by
  induction h with
  | nil => exact .cons hx .nil
  | cons hy _ ih => exact .cons hy ih
/-- A map at block r: its entries. -/
def MapAt (w : World) (r : Nat) (L : PW) : Prop := ∃ es clock, w.heap[r]? = some (.map es clock) ∧ EntsR w es.toList L
theorem MapAt.wmap {w : World} {r : Nat} {L : PW} (h : MapAt w r L) : WMap w (.map (some r)) L := by
  obtain ⟨es, clock, h1, h2⟩ := h
  exact ⟨r, es, clock, rfl, h1, h2⟩
theorem MapAt.below {w w1 : World} {r : Nat} {L : PW} (h : MapAt w r L) (hb : Below w.heap.size w w1) : MapAt w1 r L := by
  obtain ⟨es, clock, h1, h2⟩ := h
  exact ⟨es, clock, (hb.block r (Array.getElem?_eq_some_iff.1 h1).1).trans h1, h2.keep hb⟩
/-- An entry more. -/
theorem update_new {W : World} {r : Nat} {L : PW} (h : MapAt W r L) (s : Str) (hno : hasK L s = false) (c : Cls) (fv gv mv : Value) (hp : ClsP W c fv gv mv) :
    ∃ W', (Instr.mapUpdate 64 (.map (some r)) (.string s) (.agg (clsA c fv gv mv))).run Tryz.prog W = .ok () W' ∧ MapAt W' r (L ++ [(s, c)]) ∧ W.grownBy W' (some r) ∧ CK W W' ∧ W'.heap.size = W.heap.size := by
  obtain ⟨es, clock, h1, h2⟩ := h
  have hck : ∀ e, (Instr.checkKey e 10000 9 (.string s)).run Tryz.prog W = .ok () W := fun e => MapKept.run_checkKey (n := 9999) Tryz.underlying9 (by simp [MapKept.IsKey]) e
  have hnone : getO L s = none := by
    unfold hasK at hno
    cases hg : getO L s with
    | none => rfl
    | some c => rw [hg] at hno; cases hno
  rcases findNow_ents h2 s 0 with ⟨_, h5⟩ | ⟨c', _, _, _, _, h4, _, _⟩
  · have hf := MapKept.run_findKey (P := Tryz.prog) (w := W) Tryz.underlying9 h5
    have hlt := (Array.getElem?_eq_some_iff.1 h1).1
    refine ⟨{ W with heap := W.heap.setIfInBounds r (.map (es.push { key := .string s, val := .agg (clsA c fv gv mv), born := clock }) (clock + 1)) }, ?_, ?_, ?_, ?_, by simp⟩
    · simp [Instr.mapUpdate, run_underlying Tryz.underlying64, MapKept.run_getObj_map h1, hck, hf, Result.andThen, setObj, Sem.run, h1]
    · have hcc : CK W { W with heap := W.heap.setIfInBounds r (.map (es.push { key := .string s, val := .agg (clsA c fv gv mv), born := clock }) (clock + 1)) } := by
        intro a u ha
        unfold World.cell? at ha ⊢
        by_cases hr : r = a.block
        · rw [← hr, h1] at ha; cases ha
        · simp only [Array.getElem?_setIfInBounds_ne hr]
          exact ha
      refine ⟨es.push { key := .string s, val := .agg (clsA c fv gv mv), born := clock }, clock + 1, ?_, ?_⟩
      · simp only [Array.getElem?_setIfInBounds_self_of_lt hlt]
      · rw [Array.toList_push]
        exact (h2.ck hcc).snoc ⟨rfl, fv, gv, mv, rfl, hp.ck hcc⟩
    · refine ⟨rfl, rfl, rfl, by simp, fun k hk hne => ?_⟩
      have : r ≠ k := fun e => hne (by rw [e])
      simp only [Array.getElem?_setIfInBounds_ne this]
    · intro a u ha
      unfold World.cell? at ha ⊢
      by_cases hr : r = a.block
      · rw [← hr, h1] at ha; cases ha
      · simp only [Array.getElem?_setIfInBounds_ne hr]
        exact ha
  · rw [hnone] at h4; cases h4
end Go.Proofs.YthcjjjpcjjondaaGreatDoor

/- Worlds: the classes that are always there. -/
namespace Go.Proofs.YthcjjjpcjjondaaGreatDoor
open Go.RowKit

def FirstPost (w : World) (e : Ending) (w' : World) : Prop := ∃ r, e = .returned (.map (some r)) ∧ MapAt w' r firstL ∧ w.heap.size ≤ r ∧ Below w.heap.size w w'
theorem clsP_obj (w : World) : ClsP w objectC nilSl nilSl nilSl :=
  ⟨StrSl.nil _ _ _ (Nat.zero_le _), RowR.nil _ _ _ _ _ (Nat.zero_le _), RowR.nil _ _ _ _ _ (Nat.zero_le _), by decide, by decide, (fun f hf => by cases hf), by decide⟩
theorem clsP_fault (w : World) : ClsP w faultC nilSl nilSl nilSl :=
  ⟨StrSl.nil _ _ _ (Nat.zero_le _), RowR.nil _ _ _ _ _ (Nat.zero_le _), RowR.nil _ _ _ _ _ (Nat.zero_le _), by decide, by decide, (fun f hf => by cases hf), by decide⟩
theorem hasK_obj_fault : hasK ([] ++ [(sObject, objectC)]) sFault = false := by decide
set_option maxHeartbeats 1000000 in
theorem first_any (w : World) : Calls Tryz.prog 44 #[] w (FirstPost w) := by
  have hmm := @run_makeMap Tryz.prog
  have h0 : MapAt (w.alloc (.map #[] 0)) w.heap.size [] := ⟨#[], 0, by show (w.heap.push _)[w.heap.size]? = _; simp, .nil⟩
  have hb0 := (Below.refl w.heap.size w).alloc (Nat.le_refl _) (.map #[] 0)
  obtain ⟨W1, hr1, hm1, hg1, _, hz1⟩ := update_new h0 sObject rfl objectC nilSl nilSl nilSl (clsP_obj _)
  obtain ⟨W2, hr2, hm2, hg2, _, hz2⟩ := update_new hm1 sFault hasK_obj_fault faultC nilSl nilSl nilSl (clsP_fault _)
  have hb1 := hb0.grown hg1 hb0.size (fun k e => by injection e with e; omega)
  have hb2 := hb1.grown hg2 hb1.size (fun k e => by injection e with e; omega)
  have HM := Lib.hid hm2
  clear h0 hm1 hm2 hg1 hg2 hz1 hz2
  simp only [clsA, objectC, faultC, nilSl, sObject, sFault] at hr1 hr2
  go_enter Tryz.func44, Tryz.ntmps44
  go_wp2
  go_ret
  exact ⟨_, rfl, HM.out, Nat.le_refl _, hb2⟩
end Go.Proofs.YthcjjjpcjjondaaGreatDoor
