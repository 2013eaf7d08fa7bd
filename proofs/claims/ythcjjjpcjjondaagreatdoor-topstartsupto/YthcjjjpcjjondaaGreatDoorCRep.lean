/- Methods and classes as they lie in memory. -/
import Derived.Test.YthcjjjpcjjondaaGreatDoorOwnRow
import Derived.Test.YthcjjjpcjjondaaGreatDoorPure
namespace Go.Proofs.YthcjjjpcjjondaaGreatDoor
open Go.RowKit
set_option linter.unusedVariables false
set_option linter.unusedSimpArgs false
set_option linter.unnecessarySimpa false

def hanA (h : Han) : Array Value := #[.int .i64 h.from_, .int .i64 h.to_, .int .i64 h.at_, .string h.cls]
def HanR (_ : World) (h : Han) (c : List Value) : Prop := c = (hanA h).toList ∧ h.cls.size ≤ 1099511627775
abbrev HanSl := RowR HanR 4
theorem mono_han : Mono HanR := fun _ _ _ _ _ h => h
def fldA (f : Fld) : Array Value := #[.string f.nm, .string f.ty]
def FldR (_ : World) (f : Fld) (c : List Value) : Prop := c = (fldA f).toList ∧ f.nm.size ≤ 1099511627775 ∧ f.ty.size ≤ 1099511627775
abbrev FldSl := RowR FldR 2
theorem mono_fld : Mono FldR := fun _ _ _ _ _ h => h
def methA (m : Meth) (cv hv : Value) : Array Value := #[.string m.nm, .string m.ty, .bool m.static, .bool m.abstract, .bool m.priv, .int .i64 m.locals, cv, hv]
/-- A method's parts in memory. -/
def MethP (w : World) (m : Meth) (cv hv : Value) : Prop := InsSl w cv m.code ∧ HanSl w hv m.hs ∧ m.nm.size ≤ 1099511627775 ∧ m.ty.size ≤ 1099511627775
theorem MethP.below {w w1 : World} {m : Meth} {cv hv : Value} (h : MethP w m cv hv) (hb : Below w.heap.size w w1) : MethP w1 m cv hv := ⟨h.1.below mono_ins hb, h.2.1.below mono_han hb, h.2.2⟩
def MethR (w : World) (m : Meth) (c : List Value) : Prop := ∃ cv hv, c = (methA m cv hv).toList ∧ MethP w m cv hv
theorem mono_meth : Mono MethR := fun _ _ _ _ hb ⟨cv, hv, h, hp⟩ => ⟨cv, hv, h, hp.below hb⟩
abbrev MethSl := RowR MethR 8
def clsA (k : Cls) (fv gv mv : Value) : Array Value := #[.string k.nm, .string k.super, fv, .bool k.face, gv, mv]
def ClsP (w : World) (k : Cls) (fv gv mv : Value) : Prop := StrSl w fv k.faces ∧ FldSl w gv k.fields ∧ MethSl w mv k.meths ∧ k.nm.size ≤ 1099511627775 ∧ k.super.size ≤ 1099511627775 ∧ (∀ f ∈ k.faces, f.size ≤ 1099511627775) ∧ k.faces.length ≤ 1048576
theorem ClsP.below {w w1 : World} {k : Cls} {fv gv mv : Value} (h : ClsP w k fv gv mv) (hb : Below w.heap.size w w1) : ClsP w1 k fv gv mv := ⟨h.1.below hb, h.2.1.below mono_fld hb, h.2.2.1.below mono_meth hb, h.2.2.2⟩
def ClsR (w : World) (k : Cls) (c : List Value) : Prop := ∃ fv gv mv, c = (clsA k fv gv mv).toList ∧ ClsP w k fv gv mv
theorem mono_cls : Mono ClsR := fun _ _ _ _ hb ⟨fv, gv, mv, h, hp⟩ => ⟨fv, gv, mv, h, hp.below hb⟩
abbrev ClsSl := RowR ClsR 6

/-! The cells of an element, spelled out. -/
def Han4 (w : World) (b o : Nat) (h : Han) : Prop :=
  w.cell? ⟨b, o, none⟩ = some (.int .i64 h.from_) ∧ w.cell? ⟨b, o + 1, none⟩ = some (.int .i64 h.to_) ∧ w.cell? ⟨b, o + 2, none⟩ = some (.int .i64 h.at_) ∧ w.cell? ⟨b, o + 3, none⟩ = some (.string h.cls)
theorem Han4.below {w w1 : World} {b o : Nat} {h : Han} (k : Han4 w b o h) (hb : Below w.heap.size w w1) : Han4 w1 b o h :=
  ⟨cell_below hb k.1, cell_below hb k.2.1, cell_below hb k.2.2.1, cell_below hb k.2.2.2⟩
theorem HanSl.some {w : World} {v : Value} {l : List Han} (h : HanSl w v l) (hp : l ≠ []) :
    ∃ b off cap, v = .slice (some ⟨b, off, none⟩) l.length cap ∧ l.length ≤ cap ∧ cap ≤ maxLen ∧ ∀ j (hj : j < l.length), Han4 w b (off + j * 4) (l[j]'hj) ∧ (l[j]'hj).cls.size ≤ 1099511627775 := by
  obtain ⟨b, off, cap, h1, h2, h3, h4⟩ := RowR.some h hp
  refine ⟨b, off, cap, h1, h2, h3, fun j hj => ?_⟩
  obtain ⟨c, ⟨rfl, hs⟩, hc⟩ := h4 j hj
  exact ⟨⟨hc 0 _ rfl, hc 1 _ rfl, hc 2 _ rfl, hc 3 _ rfl⟩, hs⟩
def Fld2 (w : World) (b o : Nat) (f : Fld) : Prop := w.cell? ⟨b, o, none⟩ = some (.string f.nm) ∧ w.cell? ⟨b, o + 1, none⟩ = some (.string f.ty)
theorem Fld2.below {w w1 : World} {b o : Nat} {f : Fld} (k : Fld2 w b o f) (hb : Below w.heap.size w w1) : Fld2 w1 b o f := ⟨cell_below hb k.1, cell_below hb k.2⟩
theorem FldSl.some {w : World} {v : Value} {l : List Fld} (h : FldSl w v l) (hp : l ≠ []) :
    ∃ b off cap, v = .slice (some ⟨b, off, none⟩) l.length cap ∧ l.length ≤ cap ∧ cap ≤ maxLen ∧ ∀ j (hj : j < l.length), Fld2 w b (off + j * 2) (l[j]'hj) ∧ (l[j]'hj).nm.size ≤ 1099511627775 ∧ (l[j]'hj).ty.size ≤ 1099511627775 := by
  obtain ⟨b, off, cap, h1, h2, h3, h4⟩ := RowR.some h hp
  refine ⟨b, off, cap, h1, h2, h3, fun j hj => ?_⟩
  obtain ⟨c, ⟨rfl, hs⟩, hc⟩ := h4 j hj
  exact ⟨⟨hc 0 _ rfl, hc 1 _ rfl⟩, hs⟩
/-- A method's eight cells. -/
def Meth8 (w : World) (b o : Nat) (m : Meth) (cv hv : Value) : Prop :=
  w.cell? ⟨b, o, none⟩ = some (.string m.nm) ∧ w.cell? ⟨b, o + 1, none⟩ = some (.string m.ty) ∧ w.cell? ⟨b, o + 2, none⟩ = some (.bool m.static) ∧ w.cell? ⟨b, o + 3, none⟩ = some (.bool m.abstract) ∧ w.cell? ⟨b, o + 4, none⟩ = some (.bool m.priv) ∧ w.cell? ⟨b, o + 5, none⟩ = some (.int .i64 m.locals) ∧ w.cell? ⟨b, o + 6, none⟩ = some cv ∧ w.cell? ⟨b, o + 7, none⟩ = some hv
theorem Meth8.below {w w1 : World} {b o : Nat} {m : Meth} {cv hv : Value} (k : Meth8 w b o m cv hv) (hb : Below w.heap.size w w1) : Meth8 w1 b o m cv hv :=
  ⟨cell_below hb k.1, cell_below hb k.2.1, cell_below hb k.2.2.1, cell_below hb k.2.2.2.1, cell_below hb k.2.2.2.2.1, cell_below hb k.2.2.2.2.2.1, cell_below hb k.2.2.2.2.2.2.1, cell_below hb k.2.2.2.2.2.2.2⟩
theorem MethSl.some {w : World} {v : Value} {l : List Meth} (h : MethSl w v l) (hp : l ≠ []) :
    ∃ b off cap, v = .slice (some ⟨b, off, none⟩) l.length cap ∧ l.length ≤ cap ∧ cap ≤ maxLen ∧ ∀ j (hj : j < l.length), ∃ cv hv, Meth8 w b (off + j * 8) (l[j]'hj) cv hv ∧ MethP w (l[j]'hj) cv hv := by
  obtain ⟨b, off, cap, h1, h2, h3, h4⟩ := RowR.some h hp
  refine ⟨b, off, cap, h1, h2, h3, fun j hj => ?_⟩
  obtain ⟨c, ⟨cv, hv, rfl, hs⟩, hc⟩ := h4 j hj
  exact ⟨cv, hv, ⟨hc 0 _ rfl, hc 1 _ rfl, hc 2 _ rfl, hc 3 _ rfl, hc 4 _ rfl, hc 5 _ rfl, hc 6 _ rfl, hc 7 _ rfl⟩, hs⟩
def Cls6 (w : World) (b o : Nat) (k : Cls) (fv gv mv : Value) : Prop :=
  w.cell? ⟨b, o, none⟩ = some (.string k.nm) ∧ w.cell? ⟨b, o + 1, none⟩ = some (.string k.super) ∧ w.cell? ⟨b, o + 2, none⟩ = some fv ∧ w.cell? ⟨b, o + 3, none⟩ = some (.bool k.face) ∧ w.cell? ⟨b, o + 4, none⟩ = some gv ∧ w.cell? ⟨b, o + 5, none⟩ = some mv
theorem Cls6.below {w w1 : World} {b o : Nat} {k : Cls} {fv gv mv : Value} (h : Cls6 w b o k fv gv mv) (hb : Below w.heap.size w w1) : Cls6 w1 b o k fv gv mv :=
  ⟨cell_below hb h.1, cell_below hb h.2.1, cell_below hb h.2.2.1, cell_below hb h.2.2.2.1, cell_below hb h.2.2.2.2.1, cell_below hb h.2.2.2.2.2⟩
theorem ClsSl.some {w : World} {v : Value} {l : List Cls} (h : ClsSl w v l) (hp : l ≠ []) :
    ∃ b off cap, v = .slice (some ⟨b, off, none⟩) l.length cap ∧ l.length ≤ cap ∧ cap ≤ maxLen ∧ ∀ j (hj : j < l.length), ∃ fv gv mv, Cls6 w b (off + j * 6) (l[j]'hj) fv gv mv ∧ ClsP w (l[j]'hj) fv gv mv := by
  obtain ⟨b, off, cap, h1, h2, h3, h4⟩ := RowR.some h hp
  refine ⟨b, off, cap, h1, h2, h3, fun j hj => ?_⟩
  obtain ⟨c, ⟨fv, gv, mv, rfl, hs⟩, hc⟩ := h4 j hj
  exact ⟨fv, gv, mv, ⟨hc 0 _ rfl, hc 1 _ rfl, hc 2 _ rfl, hc 3 _ rfl, hc 4 _ rfl, hc 5 _ rfl⟩, hs⟩
end Go.Proofs.YthcjjjpcjjondaaGreatDoor
