/- Plain definitions on texts: names and types. Nothing of the program. -/
import Derived.Lib.Strings
import Derived.Lib.Bytealg
import Derived.Lib.IndexLaws
import Derived.Lib.IndexAny
import Derived.Lib.TrimByte
import Derived.Lib.SlTrimSet
namespace Go.Proofs.YthcjjjpcjjondaaGreatDoor
set_option linter.unusedVariables false
set_option linter.unusedSimpArgs false
set_option linter.unnecessarySimpa false

abbrev Str := ByteArray
def mkS (l : List UInt8) : Str := ⟨l.toArray⟩
def bytes (s : Str) : List UInt8 := s.data.toList
theorem mkS_bytes (s : Str) : mkS (bytes s) = s := rfl
theorem bytes_mkS (l : List UInt8) : bytes (mkS l) = l := rfl
theorem bytes_length (s : Str) : (bytes s).length = s.size := rfl
theorem bytes_inj {s t : Str} (h : bytes s = bytes t) : s = t := by
  rw [← mkS_bytes s, ← mkS_bytes t, h]
theorem size_mkS (l : List UInt8) : (mkS l).size = l.length := rfl

def letters : List UInt8 := [97, 98, 99, 100, 101, 102, 103, 104, 105, 106, 107, 108, 109, 110, 111, 112, 113, 114, 115, 116, 117, 118, 119, 120, 121, 122, 65, 66, 67, 68, 69, 70, 71, 72, 73, 74, 75, 76, 77, 78, 79, 80, 81, 82, 83, 84, 85, 86, 87, 88, 89, 90, 95]
def digits : List UInt8 := [48, 49, 50, 51, 52, 53, 54, 55, 56, 57]
def nameChars : List UInt8 := letters ++ digits
/-- A name: 1 to 20 letters, digits and underlines, the first no digit. -/
def isNameL (l : List UInt8) : Bool := l.all (nameChars.contains ·) && !l.isEmpty && decide (l.length ≤ 20) && !(digits.contains (l.headD 0))
def isName (s : Str) : Bool := isNameL (bytes s)

theorem dropWhile_nil_iff {α : Type} (p : α → Bool) (l : List α) : l.dropWhile p = [] ↔ ∀ x ∈ l, p x = true := by
  induction l with
  | nil => simp
  | cons a l ih =>
    rw [List.dropWhile_cons]
    by_cases h : p a = true
    · simp [h, ih]
    · simp [h]
theorem trimS_nil_iff (l cs : List UInt8) : Lib.trimS l cs = [] ↔ ∀ x ∈ l, cs.contains x = true := by
  unfold Lib.trimS Lib.trimLeftS Lib.trimRightS
  rw [dropWhile_nil_iff]
  constructor
  · intro h x hx
    by_cases hall : ∀ y ∈ l, cs.contains y = true
    · exact hall x hx
    · -- some element is not in cs: then what is left begins (reversed) with one that is not
      exfalso
      have hne : (l.reverse.dropWhile (fun x => cs.contains x)) ≠ [] := by
        rw [Ne, dropWhile_nil_iff]
        intro h2
        exact hall fun y hy => h2 y (by simpa using hy)
      cases hd : l.reverse.dropWhile (fun x => cs.contains x) with
      | nil => exact hne hd
      | cons a r =>
        have h3 := h a (by rw [hd]; simp)
        have h4 : ∀ (m : List UInt8), m.dropWhile (fun x => cs.contains x) = a :: r → cs.contains a = false := by
          intro m
          induction m with
          | nil => simp
          | cons x m ih =>
            intro he
            rw [List.dropWhile_cons] at he
            by_cases hx' : cs.contains x = true
            · rw [if_pos hx'] at he; exact ih he
            · rw [if_neg hx'] at he; injection he with he _; subst he; simpa using hx'
        have h5 := h4 _ hd
        rw [h3] at h5; cases h5
  · intro h x hx
    have : x ∈ l.reverse.dropWhile (fun x => cs.contains x) := by simpa using hx
    have := (List.dropWhile_sublist (fun x => cs.contains x) (l := l.reverse)).subset this
    exact h x (by simpa using this)

/-! Types as texts. -/
def deepL (l : List UInt8) : Nat := (l.takeWhile (· == 91)).length
/-- How many bytes the first type of a text takes; none: it begins with none. -/
def cutLen (l : List UInt8) : Option Nat :=
  if 3 < deepL l then none else
  match l.drop (deepL l) with
  | [] => none
  | b :: t =>
    if b = 73 ∨ b = 74 then some (deepL l + 1)
    else if b = 76 then
      if Lib.indexByte (b :: t) 59 < 0 then none
      else if isNameL (((b :: t).take (Lib.indexByte (b :: t) 59).toNat).drop 1) then some (deepL l + (Lib.indexByte (b :: t) 59).toNat + 1) else none
    else none
theorem deepL_le (l : List UInt8) : deepL l ≤ l.length := by unfold deepL; exact (List.takeWhile_sublist _).length_le
theorem trimLeftB_len (l : List UInt8) : (Lib.trimLeftB l 91).length + deepL l = l.length := by
  unfold Lib.trimLeftB deepL
  have := congrArg List.length (List.takeWhile_append_dropWhile (p := (· == (91 : UInt8))) (l := l))
  rw [List.length_append] at this
  omega
theorem trimLeftB_drop (l : List UInt8) : Lib.trimLeftB l 91 = l.drop (deepL l) := by
  unfold Lib.trimLeftB deepL
  induction l with
  | nil => rfl
  | cons a l ih =>
    rw [List.dropWhile_cons, List.takeWhile_cons]
    by_cases h : (a == 91) = true
    · simp [h, ih]
    · simp [h]
theorem bytes_extract (s : Str) (a b : Nat) : bytes (s.extract a b) = ((bytes s).drop a).take (b - a) := Lib.extract_data s a b
theorem bytes_extract_end (s : Str) (a : Nat) : bytes (s.extract a s.size) = (bytes s).drop a := Lib.extract_to_end s a
theorem indexByte_lt (l : List UInt8) (c : UInt8) : Lib.indexByte l c < l.length ∨ (l = [] ∧ Lib.indexByte l c = -1) := by
  by_cases h : 0 ≤ Lib.indexByte l c
  · obtain ⟨o, ho⟩ := Int.eq_ofNat_of_zero_le h
    have := (Lib.indexByte_some ho).1
    have := (List.getElem?_eq_some_iff.1 this).1
    omega
  · cases l with
    | nil => exact .inr ⟨rfl, rfl⟩
    | cons a l => left; simp only [List.length_cons]; omega
theorem cutLen_le {l : List UInt8} {n : Nat} (h : cutLen l = some n) : 0 < n ∧ n ≤ l.length := by
  unfold cutLen at h
  split at h
  · cases h
  · split at h
    · cases h
    · rename_i b t hd
      have hl := congrArg List.length hd
      rw [List.length_drop, List.length_cons] at hl
      split at h
      · injection h with h; omega
      · split at h
        · split at h
          · cases h
          · rename_i hi
            split at h
            · injection h with h
              have hx := indexByte_lt (b :: t) 59
              rcases hx with hx | ⟨hx, _⟩
              · simp only [List.length_cons] at hx; omega
              · cases hx
            · cases h
        · cases h

def isType (s : Str) : Bool := cutLen (bytes s) == some s.size
def descErr (s : Str) : Int := if isType s then 0 else 1
/-- The class in a type. -/
def classOf (s : Str) : Str := (s.extract (deepL (bytes s)) s.size).extract 1 (s.size - deepL (bytes s) - 1)

/-- The types up to a closing bracket; what begins there. -/
def argsFrom : Nat → List UInt8 → Option (List Str × List UInt8)
  | 0, _ => none
  | k + 1, l =>
    if l.head? = some 41 then some ([], l) else
    match cutLen l with
    | none => none
    | some n => (argsFrom k (l.drop n)).map fun p => (mkS (l.take n) :: p.1, p.2)
/-- A method's type: its arguments' types, and what it gives. -/
def methodL (l : List UInt8) : Option (List Str × List UInt8) :=
  if l.head? = some 40 then
    match argsFrom (l.length + 1) (l.drop 1) with
    | none => none
    | some (args, r) => if args.length ≤ 5 ∧ (r.drop 1 = [86] ∨ isType (mkS (r.drop 1)) = true) then some (args, r.drop 1) else none
  else none
def methodOf (s : Str) : Option (List Str × Str) := (methodL (bytes s)).map fun p => (p.1, mkS p.2)
theorem argsFrom_mono (k : Nat) : ∀ (l : List UInt8) r, argsFrom k l = some r → argsFrom (k + 1) l = some r := by
  induction k with
  | zero => intro l r h; cases h
  | succ k ih =>
    intro l r h
    rw [argsFrom] at h ⊢
    by_cases h1 : l.head? = some 41
    · rw [if_pos h1] at h ⊢; exact h
    · rw [if_neg h1] at h ⊢
      cases hc : cutLen l with
      | none => rw [hc] at h; cases h
      | some n =>
        rw [hc] at h
        simp only [Option.map_eq_some_iff] at h ⊢
        obtain ⟨p, hp, rfl⟩ := h
        exact ⟨p, ih _ _ hp, rfl⟩

end Go.Proofs.YthcjjjpcjjondaaGreatDoor

/- Plain definitions on instructions and code. Nothing of the program. -/
namespace Go.Proofs.YthcjjjpcjjondaaGreatDoor

structure Ins where
  op : Int
  a : Int
  b : Int
  ty : Str
  cls : Str
  nm : Str
  deriving DecidableEq
/-- The words of the kinds of instructions, and what each needs. -/
def formsL : List (Str × Str) := [(⟨#[]⟩, ⟨#[]⟩), (⟨#[110, 111, 112]⟩, ⟨#[]⟩), (⟨#[112, 117, 115, 104]⟩, ⟨#[65, 84]⟩), (⟨#[110, 117, 108, 108]⟩, ⟨#[]⟩), (⟨#[108, 111, 97, 100]⟩, ⟨#[65]⟩), (⟨#[115, 116, 111, 114, 101]⟩, ⟨#[65]⟩), (⟨#[112, 111, 112]⟩, ⟨#[]⟩), (⟨#[100, 117, 112]⟩, ⟨#[]⟩), (⟨#[115, 119, 97, 112]⟩, ⟨#[]⟩), (⟨#[109, 97, 116, 104]⟩, ⟨#[65, 84]⟩), (⟨#[99, 111, 110, 118]⟩, ⟨#[84]⟩), (⟨#[111, 114, 100, 101, 114]⟩, ⟨#[]⟩), (⟨#[105, 102]⟩, ⟨#[65, 66]⟩), (⟨#[105, 102, 110, 117, 108, 108]⟩, ⟨#[65]⟩), (⟨#[103, 111, 116, 111]⟩, ⟨#[65]⟩), (⟨#[110, 101, 119]⟩, ⟨#[67]⟩), (⟨#[103, 101, 116]⟩, ⟨#[67, 78]⟩), (⟨#[112, 117, 116]⟩, ⟨#[67, 78]⟩), (⟨#[110, 101, 119, 97, 114, 114, 97, 121]⟩, ⟨#[84]⟩), (⟨#[108, 101, 110, 103, 116, 104]⟩, ⟨#[]⟩), (⟨#[97, 108, 111, 97, 100]⟩, ⟨#[84]⟩), (⟨#[97, 115, 116, 111, 114, 101]⟩, ⟨#[84]⟩), (⟨#[99, 97, 115, 116]⟩, ⟨#[84]⟩), (⟨#[105, 115]⟩, ⟨#[84]⟩), (⟨#[99, 97, 108, 108]⟩, ⟨#[84, 67, 78]⟩), (⟨#[99, 97, 108, 108, 115]⟩, ⟨#[84, 67, 78]⟩), (⟨#[114, 101, 116, 117, 114, 110]⟩, ⟨#[]⟩), (⟨#[103, 105, 118, 101]⟩, ⟨#[]⟩), (⟨#[116, 104, 114, 111, 119]⟩, ⟨#[]⟩)]
def formW (i : Nat) : Str := (formsL.getD i (⟨#[]⟩, ⟨#[]⟩)).1
def formN (i : Nat) : Str := (formsL.getD i (⟨#[]⟩, ⟨#[]⟩)).2
def hasC (s : Str) (c : UInt8) : Bool := (bytes s).contains c
theorem hasC_eq (s : Str) (c : UInt8) : hasC s c = decide (0 ≤ Lib.indexByte s.data.toList c) := Lib.contains_iff_indexByte _ _
def w32 (n : Int) : Int := (n + 2147483648) % 4294967296 - 2147483648
def jumps (op : Int) : Bool := op == 12 || op == 13 || op == 14
def ends (op : Int) : Bool := op == 14 || op == 26 || op == 27 || op == 28
def rangedB (x : Ins) : Bool :=
  if x.op = 2 then !(bytes x.ty == [73]) || x.a == w32 x.a
  else if x.op = 4 ∨ x.op = 5 then decide (0 ≤ x.a) && decide (x.a < 8)
  else if x.op = 9 then decide (1 ≤ x.a) && decide (x.a ≤ 12)
  else !jumps x.op || (decide (0 ≤ x.a) && decide (x.a ≤ 40) && decide (0 ≤ x.b) && decide (x.b ≤ 5))
def isNum (s : Str) : Bool := bytes s == [73] || bytes s == [74]
def typedB (x : Ins) : Bool :=
  if x.op = 2 ∨ x.op = 9 ∨ x.op = 10 then isNum x.ty
  else if x.op = 18 ∨ x.op = 20 ∨ x.op = 21 then isType x.ty && isType (⟨#[91]⟩ ++ x.ty)
  else if x.op = 22 ∨ x.op = 23 then isType x.ty && !isNum x.ty
  else if x.op = 24 ∨ x.op = 25 then (methodOf x.ty).isSome
  else true
def shapeB (n : Str) (x : Ins) : Bool :=
  (hasC n 65 || x.a == 0) && (hasC n 66 || x.b == 0) && (hasC n 84 || bytes x.ty == []) && (hasC n 67 || bytes x.cls == []) && (hasC n 78 || bytes x.nm == [])
/-- What is wrong with an instruction: 0: nothing. -/
def insErr (x : Ins) : Int :=
  if x.op < 1 ∨ 28 < x.op then 1
  else if shapeB (formN x.op.toNat) x = false then 1
  else if rangedB x = false then 2
  else if typedB x = false then 1
  else if hasC (formN x.op.toNat) 67 = true ∧ isName x.cls = false then 1
  else if hasC (formN x.op.toNat) 78 = true ∧ isName x.nm = false then 1
  else 0
theorem formN_cases (i : Nat) : formN i = ⟨#[]⟩ ∨ formN i = ⟨#[65]⟩ ∨ formN i = ⟨#[65, 66]⟩ ∨ formN i = ⟨#[65, 84]⟩ ∨ formN i = ⟨#[84]⟩ ∨ formN i = ⟨#[67]⟩ ∨ formN i = ⟨#[67, 78]⟩ ∨ formN i = ⟨#[84, 67, 78]⟩ := by
  by_cases h : i < 29
  · have : ∀ j : Fin 29, formN j.1 = ⟨#[]⟩ ∨ formN j.1 = ⟨#[65]⟩ ∨ formN j.1 = ⟨#[65, 66]⟩ ∨ formN j.1 = ⟨#[65, 84]⟩ ∨ formN j.1 = ⟨#[84]⟩ ∨ formN j.1 = ⟨#[67]⟩ ∨ formN j.1 = ⟨#[67, 78]⟩ ∨ formN j.1 = ⟨#[84, 67, 78]⟩ := by decide
    exact this ⟨i, h⟩
  · left
    unfold formN
    rw [List.getD_eq_getElem?_getD, List.getElem?_eq_none (by show 29 ≤ i; omega)]
    rfl

end Go.Proofs.YthcjjjpcjjondaaGreatDoor

/- Plain definitions on methods and classes. Nothing of the program. -/
namespace Go.Proofs.YthcjjjpcjjondaaGreatDoor

structure Han where
  from_ : Int
  to_ : Int
  at_ : Int
  cls : Str
  deriving DecidableEq
structure Meth where
  nm : Str
  ty : Str
  static : Bool
  abstract : Bool
  priv : Bool
  locals : Int
  code : List Ins
  hs : List Han
  deriving DecidableEq
structure Fld where
  nm : Str
  ty : Str
  deriving DecidableEq
structure Cls where
  nm : Str
  super : Str
  faces : List Str
  face : Bool
  fields : List Fld
  meths : List Meth
  deriving DecidableEq

def firstErr : List Ins → Int
  | [] => 0
  | x :: l => if insErr x = 0 then firstErr l else insErr x
def jumpsOut (n : Nat) (l : List Ins) : Bool := l.any fun x => jumps x.op && decide ((n : Int) ≤ x.a)
/-- What is wrong with code: 0: nothing. -/
def flowErr (l : List Ins) : Int :=
  if 40 < l.length then 4
  else if firstErr l ≠ 0 then firstErr l
  else if jumpsOut l.length l then 2
  else match l.getLast? with
    | none => 8
    | some x => if ends x.op then 0 else 8

/-- How many locals a method's arguments take. -/
def argsN (m : Meth) : Int := match methodOf m.ty with
  | none => 0
  | some (args, _) => if m.static then args.length else args.length + 1
def hanBad (n : Nat) (h : Han) : Bool := decide (h.from_ < 0) || decide (h.to_ ≤ h.from_) || decide ((n : Int) < h.to_) || decide (h.at_ < 0) || decide ((n : Int) ≤ h.at_)
def hansErr (n : Nat) : List Han → Int
  | [] => 0
  | h :: l => if hanBad n h then 2 else if isName h.cls then hansErr n l else 1
def handlersErr (m : Meth) : Int :=
  if hansErr m.code.length m.hs ≠ 0 then hansErr m.code.length m.hs else if 8 < m.hs.length then 4 else 0
def localsOut (n : Int) (l : List Ins) : Bool := l.any fun x => (x.op == 4 || x.op == 5) && decide (n ≤ x.a)
def bodyErr (m : Meth) : Int :=
  if m.abstract then (if m.static || m.priv || decide (0 < m.code.length) || decide (0 < m.hs.length) then 8 else 0)
  else if flowErr m.code ≠ 0 then flowErr m.code
  else if m.locals < argsN m then 2
  else if localsOut m.locals m.code then 2
  else handlersErr m
def methErr (m : Meth) (ahead : List Meth) : Int :=
  if isName m.nm = false then 1
  else if (methodOf m.ty).isNone then 1
  else if ahead.any (fun x => decide (x.nm = m.nm) && decide (x.ty = m.ty)) then 5
  else if m.locals < 0 ∨ 8 < m.locals then 2
  else bodyErr m
def hasStr (xs : List Str) (x : Str) : Bool := xs.any fun y => decide (y = x)
theorem hasStr_iff (xs : List Str) (x : Str) : hasStr xs x = true ↔ x ∈ xs := by simp [hasStr]
/-- What is wrong with the faces, with those ahead at hand. -/
def facesErr (ahead : List Str) : List Str → Int
  | [] => 0
  | f :: l => if isName f = false then 1 else if hasStr ahead f then 5 else facesErr (ahead ++ [f]) l
def fieldsErr (ahead : List Fld) : List Fld → Int
  | [] => 0
  | f :: l => if isName f.nm = false ∨ isType f.ty = false then 1 else if ahead.any (fun x => decide (x.nm = f.nm)) then 5 else fieldsErr (ahead ++ [f]) l
def methsErr (ahead : List Meth) : List Meth → Int
  | [] => 0
  | m :: l => if methErr m ahead ≠ 0 then methErr m ahead else methsErr (ahead ++ [m]) l
def classErr (c : Cls) : Int :=
  if isName c.nm = false ∨ (c.super.size ≠ 0 ∧ isName c.super = false) then 1
  else if facesErr [] c.faces ≠ 0 then facesErr [] c.faces
  else if 8 < c.faces.length ∨ 8 < c.fields.length ∨ 8 < c.meths.length then 4
  else if fieldsErr [] c.fields ≠ 0 then fieldsErr [] c.fields
  else if methsErr [] c.meths ≠ 0 then methsErr [] c.meths
  else if c.face && decide (0 < c.fields.length) then 8
  else 0
end Go.Proofs.YthcjjjpcjjondaaGreatDoor

/- Plain definitions on worlds. Nothing of the program. -/
namespace Go.Proofs.YthcjjjpcjjondaaGreatDoor

abbrev PW := List (Str × Cls)
def emptyCls : Cls := ⟨⟨#[]⟩, ⟨#[]⟩, [], false, [], []⟩
def getO (L : PW) (s : Str) : Option Cls := (L.find? fun p => decide (p.1 = s)).map (·.2)
def getC (L : PW) (s : Str) : Cls := (getO L s).getD emptyCls
def hasK (L : PW) (s : Str) : Bool := (getO L s).isSome
/-- What a class extends, and its faces. -/
def above (L : PW) (n : Str) : List Str := if (getC L n).super.size = 0 then (getC L n).faces else (getC L n).super :: (getC L n).faces
def lineFrom : Nat → PW → Cls → Option (List Str)
  | 0, _, _ => none
  | k + 1, L, c => if c.super.size = 0 then some [] else (lineFrom k L (getC L c.super)).map (c.super :: ·)
/-- A class's line: it, what it extends, and so on. -/
def lineOf (k : Nat) (L : PW) (n : Str) : Option (List Str) := (lineFrom k L (getC L n)).map (n :: ·)
def hasErr (L : PW) (n : Str) (face : Bool) : Int := if hasK L n = false then 3 else if (getC L n).face ≠ face then 7 else 0
def sortS (xs : List Str) : List Str := ((xs.map bytes).mergeSort fun x y => decide (x ≤ y)).map mkS
def addNew (out : List Str) (a : Str) : List Str := if hasStr out a then out else out ++ [a]
def everyFrom : Nat → PW → List Str → Nat → Option (List Str)
  | 0, _, _, _ => none
  | k + 1, L, out, i => match out[i]? with
    | some x => everyFrom k L ((above L x).foldl addNew out) (i + 1)
    | none => some out
/-- Every class and face that a class is, before they are sorted. -/
def everyOf (k : Nat) (L : PW) (n : Str) : Option (List Str) := everyFrom k L [n] 0
theorem addNew_len (out : List Str) (a : Str) : out.length ≤ (addNew out a).length := by unfold addNew; split <;> simp
theorem fold_len (l : List Str) : ∀ out : List Str, out.length ≤ (l.foldl addNew out).length := by
  induction l with
  | nil => intro out; exact Nat.le_refl _
  | cons a l ih => intro out; exact Nat.le_trans (addNew_len out a) (ih _)
theorem every_len : ∀ (k : Nat) {L : PW} {out r : List Str} {i : Nat}, everyFrom k L out i = some r → out.length ≤ r.length := by
  intro k
  induction k with
  | zero => intro L out r i h; cases h
  | succ k ih =>
    intro L out r i h
    rw [everyFrom] at h
    split at h
    · exact Nat.le_trans (fold_len _ _) (ih h)
    · injection h with h; rw [h]; exact Nat.le_refl _
def sObject : Str := ⟨#[79, 98, 106, 101, 99, 116]⟩
def sFault : Str := ⟨#[70, 97, 117, 108, 116]⟩
def facesHas (L : PW) : List Str → Int
  | [] => 0
  | f :: l => if hasErr L f true ≠ 0 then hasErr L f true else facesHas L l
def allK (L : PW) : List Str → Bool
  | [] => true
  | f :: l => hasK L f && allK L l
/-- Does a class stand where it may? -/
def joinedErr (L : PW) (c : Cls) : Int :=
  if c.super.size = 0 then 1
  else if hasK L c.super = false then 3
  else if allK L c.faces = false then 3
  else if hasErr L c.super false ≠ 0 then hasErr L c.super false
  else if facesHas L c.faces ≠ 0 then facesHas L c.faces
  else if c.face = true ∧ ¬ c.super = sObject then 7
  else 0
def objectC : Cls := ⟨sObject, ⟨#[]⟩, [], false, [], []⟩
def faultC : Cls := ⟨sFault, sObject, [], false, [], []⟩
def firstL : PW := [(sObject, objectC), (sFault, faultC)]
def pairOf (c : Cls) : Str × Cls := (c.nm, c)
def addErr : PW → List Cls → Int
  | _, [] => 0
  | L, c :: l => if classErr c ≠ 0 then classErr c else if hasK L c.nm then 5 else addErr (L ++ [pairOf c]) l
def joinErrs (L : PW) : List Cls → Int
  | [] => 0
  | c :: l => if joinedErr L c ≠ 0 then joinedErr L c else joinErrs L l
def roundB (L : PW) (evf : Str → List Str) (n : Str) : Bool := (above L n).any fun a => hasStr (sortS (evf a)) n
def roundAny (L : PW) (evf : Str → List Str) (l : List Cls) : Bool := l.any fun c => roundB L evf c.nm
/-- The world of classes. -/
def pw (l : List Cls) : PW := firstL ++ l.map pairOf
def readErr (evf : Str → List Str) (l : List Cls) : Int :=
  if 10 < l.length then 4
  else if addErr firstL l ≠ 0 then addErr firstL l
  else if joinErrs (pw l) l ≠ 0 then joinErrs (pw l) l
  else if roundAny (pw l) evf l then 6
  else 0
/-- The order of initialization: Object, and each line from above, new ones alone. -/
def orderFrom (lnf : Str → List Str) (out : List Str) (uses : List Str) : List Str := uses.foldl (fun out u => ((u :: lnf u).reverse).foldl addNew out) out
def orderErr (evf : Str → List Str) (l : List Cls) (uses : List Str) : Int :=
  if readErr evf l ≠ 0 then readErr evf l else if allK (pw l) uses = false then 3 else 0
theorem order_len (lnf : Str → List Str) (uses : List Str) : ∀ out : List Str, out.length ≤ (orderFrom lnf out uses).length := by
  induction uses with
  | nil => intro out; exact Nat.le_refl _
  | cons u uses ih => intro out; exact Nat.le_trans (fold_len _ _) (ih _)
end Go.Proofs.YthcjjjpcjjondaaGreatDoor

/- Plain law: the order of initialization. Nothing of the program. -/
namespace Go.Proofs.YthcjjjpcjjondaaGreatDoor

theorem nodup_le {α : Type} [DecidableEq α] : ∀ (xs ys : List α), xs.Nodup → (∀ x ∈ xs, x ∈ ys) → xs.length ≤ ys.length := by
  intro xs
  induction xs with
  | nil => intro ys _ _; exact Nat.zero_le _
  | cons x xs ih =>
    intro ys hn hs
    rw [List.nodup_cons] at hn
    have hx : x ∈ ys := hs x List.mem_cons_self
    have h1 := ih (ys.erase x) hn.2 (fun y hy => (List.mem_erase_of_ne (by rintro rfl; exact hn.1 hy)).2 (hs y (List.mem_cons_of_mem _ hy)))
    rw [List.length_erase_of_mem hx] at h1
    have : 0 < ys.length := List.length_pos_of_mem hx
    simp only [List.length_cons]; omega

/-! Lists that get new ones alone. -/
theorem addNew_nodup {out : List Str} (h : out.Nodup) (a : Str) : (addNew out a).Nodup := by
  unfold addNew
  split
  · exact h
  · rename_i hn
    rw [List.nodup_append]
    refine ⟨h, by simp, ?_⟩
    intro x hx y hy e
    simp only [List.mem_singleton] at hy
    subst hy; subst e
    exact hn ((hasStr_iff _ _).2 hx)
theorem mem_addNew (out : List Str) (a x : Str) : x ∈ addNew out a ↔ x ∈ out ∨ x = a := by
  unfold addNew
  split
  · rename_i h
    rw [hasStr_iff] at h
    constructor
    · exact .inl
    · rintro (h' | rfl)
      · exact h'
      · exact h
  · simp
theorem mem_foldNew (l : List Str) : ∀ (out : List Str) (x : Str), x ∈ l.foldl addNew out ↔ x ∈ out ∨ x ∈ l := by
  induction l with
  | nil => intro out x; simp
  | cons a l ih =>
    intro out x
    rw [List.foldl_cons, ih, mem_addNew, List.mem_cons, or_assoc]
theorem foldNew_nodup (l : List Str) : ∀ (out : List Str), out.Nodup → (l.foldl addNew out).Nodup := by
  induction l with
  | nil => intro out h; exact h
  | cons a l ih => intro out h; exact ih _ (addNew_nodup h a)
theorem addNew_pre (out : List Str) (a : Str) : out <+: addNew out a := by
  unfold addNew
  split
  · exact List.prefix_refl _
  · exact List.prefix_append _ _
theorem foldNew_pre (l : List Str) : ∀ (out : List Str), out <+: l.foldl addNew out := by
  induction l with
  | nil => intro out; exact List.prefix_refl _
  | cons a l ih => intro out; exact (addNew_pre out a).trans (ih _)

/-! What a class is: it ends, and is closed. -/
def uni (L : PW) : List Str := L.flatMap fun p => p.2.super :: p.2.faces
theorem above_uni (L : PW) (x a : Str) (h : a ∈ above L x) : a ∈ uni L := by
  have hc : getC L x = emptyCls ∨ ∃ p ∈ L, getC L x = p.2 := by
    unfold getC getO
    cases hf : L.find? fun p => decide (p.1 = x) with
    | none => exact .inl rfl
    | some p => exact .inr ⟨p, List.mem_of_find?_eq_some hf, rfl⟩
  unfold above at h
  rcases hc with hc | ⟨p, hp, hc⟩
  · rw [hc, if_pos (by decide)] at h; cases h
  · rw [hc] at h
    unfold uni
    rw [List.mem_flatMap]
    refine ⟨p, hp, ?_⟩
    split at h
    · exact List.mem_cons_of_mem _ h
    · exact h
theorem every_ends (L : PW) (U : List Str) (hU : ∀ a ∈ uni L, a ∈ U) : ∀ (k : Nat) (out : List Str) (i : Nat), out.Nodup → (∀ x ∈ out, x ∈ U) → i ≤ out.length → U.length + 1 ≤ k + i →
    ∃ r, everyFrom k L out i = some r ∧ r.Nodup ∧ (∀ x ∈ r, x ∈ U) := by
  intro k
  induction k with
  | zero =>
    intro out i hn hs hi hk
    have := nodup_le out U hn hs
    omega
  | succ k ih =>
    intro out i hn hs hi hk
    rw [everyFrom]
    cases ho : out[i]? with
    | none => exact ⟨out, rfl, hn, hs⟩
    | some x =>
      have hlt := (List.getElem?_eq_some_iff.1 ho).1
      refine ih _ _ (foldNew_nodup _ _ hn) ?_ ?_ (by omega)
      · intro y hy
        rw [mem_foldNew] at hy
        rcases hy with hy | hy
        · exact hs y hy
        · exact hU y (above_uni L x y hy)
      · have := fold_len (above L x) out
        omega
theorem every_pre : ∀ (k : Nat) (L : PW) (out r : List Str) (i : Nat), everyFrom k L out i = some r → out <+: r := by
  intro k
  induction k with
  | zero => intro L out r i h; cases h
  | succ k ih =>
    intro L out r i h
    rw [everyFrom] at h
    split at h
    · exact (foldNew_pre _ _).trans (ih _ _ _ _ h)
    · injection h with h; rw [h]; exact List.prefix_refl _
theorem every_closed : ∀ (k : Nat) (L : PW) (out r : List Str) (i : Nat), everyFrom k L out i = some r → (∀ m x, m < i → out[m]? = some x → ∀ a ∈ above L x, a ∈ out) → ∀ x ∈ r, ∀ a ∈ above L x, a ∈ r := by
  intro k
  induction k with
  | zero => intro L out r i h; cases h
  | succ k ih =>
    intro L out r i h hc
    rw [everyFrom] at h
    split at h
    · rename_i x hx
      refine ih _ _ _ _ h ?_
      intro m y hm hy a ha
      rw [mem_foldNew]
      have hlt : m < out.length := by
        have := (List.getElem?_eq_some_iff.1 hx).1
        omega
      have hy' : out[m]? = some y := by
        obtain ⟨t, ht⟩ := foldNew_pre (above L x) out
        rw [← ht, List.getElem?_append_left hlt] at hy
        exact hy
      by_cases hmi : m = i
      · subst hmi
        rw [hx] at hy'
        injection hy' with e
        subst e
        exact .inr ha
      · exact .inl (hc m y (by omega) hy' a ha)
    · rename_i hx
      injection h with h
      subst h
      intro x hxm a ha
      obtain ⟨m, hm, hg⟩ := List.getElem_of_mem hxm
      have hle := List.getElem?_eq_none_iff.1 hx
      exact hc m x (by omega) (by rw [List.getElem?_eq_getElem hm, hg]) a ha
theorem every_least : ∀ (k : Nat) (L : PW) (out r : List Str) (i : Nat) (T : List Str), everyFrom k L out i = some r → (∀ x ∈ T, ∀ a ∈ above L x, a ∈ T) → (∀ x ∈ out, x ∈ T) → ∀ x ∈ r, x ∈ T := by
  intro k
  induction k with
  | zero => intro L out r i T h; cases h
  | succ k ih =>
    intro L out r i T h hT ho
    rw [everyFrom] at h
    split at h
    · rename_i x hx
      refine ih _ _ _ _ T h hT ?_
      intro y hy
      rw [mem_foldNew] at hy
      rcases hy with hy | hy
      · exact ho y hy
      · exact hT x (ho x (List.mem_of_getElem? hx)) y hy
    · injection h with h; subst h; exact ho
/-- How many rounds Every may take. -/
def evK (L : PW) : Nat := (uni L).length + 2
def evF (L : PW) (a : Str) : List Str := (everyOf (evK L) L a).getD []
theorem evF_spec (L : PW) (a : Str) : everyOf (evK L) L a = some (evF L a) ∧ (evF L a).Nodup ∧ (evF L a).length ≤ (uni L).length + 1 ∧ a ∈ evF L a ∧ (∀ x ∈ evF L a, ∀ b ∈ above L x, b ∈ evF L a) ∧
    ∀ T : List Str, (∀ x ∈ T, ∀ b ∈ above L x, b ∈ T) → a ∈ T → ∀ x ∈ evF L a, x ∈ T := by
  obtain ⟨r, hr, hn, hs⟩ := every_ends L (a :: uni L) (fun x hx => List.mem_cons_of_mem _ hx) (evK L) [a] 0 (by simp) (by simp) (Nat.zero_le _) (by simp [evK])
  have e : evF L a = r := by unfold evF everyOf; rw [hr]; rfl
  have hr' : everyOf (evK L) L a = some r := hr
  rw [e]
  refine ⟨hr', hn, by simpa using nodup_le _ _ hn hs, ?_, ?_, ?_⟩
  · obtain ⟨t, ht⟩ := every_pre _ _ _ _ _ hr
    rw [← ht]; simp
  · exact every_closed _ _ _ _ _ hr (by omega)
  · intro T hT ha
    exact every_least _ _ _ _ _ T hr hT (by simpa using ha)
theorem uni_len (L : PW) (h : ∀ p ∈ L, p.2.faces.length ≤ 8) : (uni L).length ≤ 9 * L.length := by
  unfold uni
  induction L with
  | nil => simp
  | cons p L ih =>
    rw [List.flatMap_cons, List.length_append]
    have h1 := h p List.mem_cons_self
    have h2 := ih (fun q hq => h q (List.mem_cons_of_mem _ hq))
    simp only [List.length_cons]
    omega

/-! Worlds in which each class was taken. -/
theorem getO_app_none {L K : PW} {s : Str} (h : getO L s = none) : getO (L ++ K) s = getO K s := by
  unfold getO at h ⊢
  rw [List.find?_append]
  cases hf : L.find? fun p => decide (p.1 = s) with
  | none => rfl
  | some p => rw [hf] at h; cases h
theorem getO_app_some {L K : PW} {s : Str} {c : Cls} (h : getO L s = some c) : getO (L ++ K) s = some c := by
  unfold getO at h ⊢
  rw [List.find?_append]
  cases hf : L.find? fun p => decide (p.1 = s) with
  | none => rw [hf] at h; cases h
  | some p => rw [hf] at h; exact h
theorem add_get : ∀ (l : List Cls) (L : PW), addErr L l = 0 → ∀ c ∈ l, getO (L ++ l.map pairOf) c.nm = some c ∧ getO L c.nm = none := by
  intro l
  induction l with
  | nil => intro L _ c hc; cases hc
  | cons d l ih =>
    intro L h c hc
    rw [addErr] at h
    split at h
    · rename_i hz; exact absurd h hz
    · split at h
      · cases h
      · rename_i hk
        have hd : getO L d.nm = none := by
          unfold hasK at hk
          cases hg : getO L d.nm with
          | none => rfl
          | some x => rw [hg] at hk; exact absurd rfl hk
        have e : L ++ (d :: l).map pairOf = (L ++ [pairOf d]) ++ l.map pairOf := by simp
        rw [e]
        rcases List.mem_cons.1 hc with rfl | hc
        · refine ⟨?_, hd⟩
          apply getO_app_some
          rw [getO_app_none hd]
          unfold getO pairOf
          rw [List.find?_cons_of_pos (by simp)]; rfl
        · obtain ⟨h1, h2⟩ := ih _ h c hc
          refine ⟨h1, ?_⟩
          cases hg : getO L c.nm with
          | none => rfl
          | some x => rw [getO_app_some hg] at h2; cases h2
theorem add_nodup : ∀ (l : List Cls) (L : PW), addErr L l = 0 → (l.map Cls.nm).Nodup := by
  intro l
  induction l with
  | nil => intro L _; simp
  | cons d l ih =>
    intro L h
    rw [addErr] at h
    split at h
    · rename_i hz; exact absurd h hz
    · split at h
      · cases h
      · rw [List.map_cons, List.nodup_cons]
        refine ⟨?_, ih _ h⟩
        intro hm
        obtain ⟨c, hc, e⟩ := List.mem_map.1 hm
        have h2 := (add_get _ _ h c hc).2
        have hd : (getO (L ++ [pairOf d]) c.nm).isSome = true := by
          unfold getO
          rw [List.find?_append]
          cases hf : L.find? fun p => decide (p.1 = c.nm) with
          | none => unfold pairOf; simp [e]
          | some p => rfl
        rw [h2] at hd; cases hd
theorem add_ok : ∀ (l : List Cls) (L : PW), addErr L l = 0 → ∀ c ∈ l, classErr c = 0 := by
  intro l
  induction l with
  | nil => intro L _ c hc; cases hc
  | cons d l ih =>
    intro L h c hc
    rw [addErr] at h
    split at h
    · rename_i hz; exact absurd h hz
    · rename_i hz
      split at h
      · cases h
      · rcases List.mem_cons.1 hc with rfl | hc
        · exact Decidable.not_not.1 hz
        · exact ih _ h c hc
theorem join_ok : ∀ (l : List Cls) (L : PW), joinErrs L l = 0 → ∀ c ∈ l, joinedErr L c = 0 := by
  intro l
  induction l with
  | nil => intro L _ c hc; cases hc
  | cons d l ih =>
    intro L h c hc
    rw [joinErrs] at h
    split at h
    · rename_i hz; exact absurd h hz
    · rename_i hz
      rcases List.mem_cons.1 hc with rfl | hc
      · exact Decidable.not_not.1 hz
      · exact ih _ h c hc
theorem faces_len {c : Cls} (h : classErr c = 0) : c.faces.length ≤ 8 := by
  unfold classErr at h
  split at h
  · cases h
  · split at h
    · rename_i hz; exact absurd h hz
    · split at h
      · cases h
      · omega
theorem pw_uni {l : List Cls} (h10 : l.length ≤ 10) (ha : addErr firstL l = 0) : (uni (pw l)).length ≤ 108 := by
  have h1 := uni_len (pw l) (by
    intro p hp
    unfold pw at hp
    rcases List.mem_append.1 hp with hp | hp
    · unfold firstL at hp
      simp only [List.mem_cons, List.not_mem_nil, or_false] at hp
      rcases hp with rfl | rfl <;> decide
    · obtain ⟨c, hc, rfl⟩ := List.mem_map.1 hp
      exact faces_len (add_ok _ _ ha c hc))
  have h2 : (pw l).length = 2 + l.length := by unfold pw firstL; simp; omega
  omega
theorem evOk_all {l : List Cls} (h10 : l.length ≤ 10) (ha : addErr firstL l = 0) (a : Str) : ∃ k, everyOf k (pw l) a = some (evF (pw l) a) ∧ (evF (pw l) a).length ≤ 1048576 := by
  obtain ⟨h1, _, h3, _⟩ := evF_spec (pw l) a
  have := pw_uni h10 ha
  exact ⟨_, h1, by omega⟩
theorem read_parts {evf : Str → List Str} {l : List Cls} (h : readErr evf l = 0) : l.length ≤ 10 ∧ addErr firstL l = 0 ∧ joinErrs (pw l) l = 0 ∧ roundAny (pw l) evf l = false := by
  unfold readErr at h
  split at h
  · cases h
  · split at h
    · rename_i hz; exact absurd h hz
    · rename_i hz
      split at h
      · rename_i hz; exact absurd h hz
      · rename_i hz2
        split at h
        · cases h
        · rename_i hr
          exact ⟨by omega, Decidable.not_not.1 hz, Decidable.not_not.1 hz2, by simpa using hr⟩

/-! Lines. -/
theorem lineFrom_mono : ∀ (k : Nat) {L : PW} {c : Cls} {ls : List Str}, lineFrom k L c = some ls → lineFrom (k + 1) L c = some ls := by
  intro k
  induction k with
  | zero => intro L c ls h; cases h
  | succ k ih =>
    intro L c ls h
    rw [lineFrom] at h ⊢
    split at h
    · rename_i hz; rw [if_pos hz]; exact h
    · rename_i hz
      rw [if_neg hz]
      rw [Option.map_eq_some_iff] at h ⊢
      obtain ⟨m, hm, e⟩ := h
      exact ⟨m, ih hm, e⟩
theorem lineFrom_more {k : Nat} (j : Nat) {L : PW} {c : Cls} {ls : List Str} (h : lineFrom k L c = some ls) (hj : k ≤ j) : lineFrom j L c = some ls := by
  induction j with
  | zero => have : k = 0 := by omega
            subst this; exact h
  | succ j ih =>
    by_cases e : k = j + 1
    · subst e; exact h
    · exact lineFrom_mono _ (ih (by omega))
def lnF (L : PW) (u : Str) : List Str := (lineFrom 200 L (getC L u)).getD []
theorem mem_sortS (xs : List Str) (x : Str) : x ∈ sortS xs ↔ x ∈ xs := by
  unfold sortS
  simp only [List.mem_map]
  constructor
  · rintro ⟨b, hb, rfl⟩
    rw [List.mem_mergeSort, List.mem_map] at hb
    obtain ⟨y, hy, rfl⟩ := hb
    exact hy
  · intro h
    exact ⟨bytes x, List.mem_mergeSort.2 (List.mem_map.2 ⟨x, h, rfl⟩), rfl⟩
/-- A world that was read. -/
structure Good (l : List Cls) : Prop where
  len : l.length ≤ 10
  get : ∀ c ∈ l, getC (pw l) c.nm = c
  key : ∀ x, hasK (pw l) x = true → x = sObject ∨ x = sFault ∨ ∃ c ∈ l, x = c.nm
  sup : ∀ c ∈ l, ¬ c.super.size = 0 ∧ hasK (pw l) c.super = true
  obj : getC (pw l) sObject = objectC
  fau : getC (pw l) sFault = faultC
  out : ∀ c ∈ l, c.nm ∉ evF (pw l) c.super
  nam : ∀ c ∈ l, c.nm ≠ sObject
  nod : (l.map Cls.nm).Nodup
  small : (uni (pw l)).length ≤ 108
theorem good_of {l : List Cls} (h : readErr (evF (pw l)) l = 0) : Good l := by
  obtain ⟨h1, h2, h3, h4⟩ := read_parts h
  have hget := fun c hc => add_get l firstL h2 c hc
  have hcls : ∀ c ∈ l, getC (pw l) c.nm = c := fun c hc => by unfold getC pw; rw [(hget c hc).1]; rfl
  have hsup : ∀ c ∈ l, ¬ c.super.size = 0 ∧ hasK (pw l) c.super = true := by
    intro c hc
    have hj := join_ok l _ h3 c hc
    unfold joinedErr at hj
    split at hj
    · cases hj
    · rename_i hz
      refine ⟨hz, ?_⟩
      split at hj
      · cases hj
      · rename_i hk; simpa using hk
  refine ⟨h1, hcls, ?_, hsup, ?_, ?_, ?_, ?_, add_nodup l _ h2, pw_uni h1 h2⟩
  · intro x hx
    unfold hasK getO pw at hx
    rw [Option.isSome_map, List.find?_isSome] at hx
    obtain ⟨p, hp, e⟩ := hx
    rw [decide_eq_true_eq] at e
    rcases List.mem_append.1 hp with hp | hp
    · unfold firstL at hp
      simp only [List.mem_cons, List.not_mem_nil, or_false] at hp
      rcases hp with rfl | rfl
      · exact .inl e.symm
      · exact .inr (.inl e.symm)
    · obtain ⟨c, hc, rfl⟩ := List.mem_map.1 hp
      exact .inr (.inr ⟨c, hc, e.symm⟩)
  · unfold getC pw; rw [getO_app_some (c := objectC) (by decide)]; rfl
  · unfold getC pw; rw [getO_app_some (c := faultC) (by decide)]; rfl
  · intro c hc hm
    unfold roundAny at h4
    rw [List.any_eq_false] at h4
    apply h4 c hc
    unfold roundB
    rw [List.any_eq_true]
    refine ⟨c.super, ?_, ?_⟩
    · unfold above
      rw [hcls c hc, if_neg (hsup c hc).1]
      exact List.mem_cons_self
    · rw [hasStr_iff, mem_sortS]; exact hm
  · intro c hc e
    have := (hget c hc).2
    rw [e] at this
    exact absurd this (by decide)
theorem line_ends {l : List Cls} (g : Good l) : ∀ (m : Nat) (c : Cls), c ∈ l → (evF (pw l) c.nm).length ≤ m → ∃ ls, lineFrom (m + 2) (pw l) c = some ls := by
  intro m
  induction m with
  | zero =>
    intro c hc hm
    have := (evF_spec (pw l) c.nm).2.2.2.1
    have := List.length_pos_of_mem this
    omega
  | succ m ih =>
    intro c hc hm
    obtain ⟨hz, hk⟩ := g.sup c hc
    have hrest : ∃ ls, lineFrom (m + 2) (pw l) (getC (pw l) c.super) = some ls := by
      rcases g.key _ hk with e | e | ⟨d, hd, e⟩
      · rw [e, g.obj]; exact ⟨[], by rw [lineFrom, if_pos (by decide)]⟩
      · rw [e, g.fau]
        refine ⟨[sObject], ?_⟩
        rw [lineFrom, if_neg (by decide), lineFrom, show faultC.super = sObject from rfl, g.obj, if_pos (by decide)]; rfl
      · rw [e, g.get d hd]
        apply ih d hd
        obtain ⟨_, hn, _, hme, hcl, _⟩ := evF_spec (pw l) c.nm
        obtain ⟨_, hn2, _, _, _, hle⟩ := evF_spec (pw l) d.nm
        have hin : d.nm ∈ evF (pw l) c.nm := by
          apply hcl _ hme
          unfold above
          rw [g.get c hc, if_neg hz, ← e]
          exact List.mem_cons_self
        have hsub := hle _ hcl hin
        have hno : c.nm ∉ evF (pw l) d.nm := by rw [← e]; exact g.out c hc
        have h3 := nodup_le (c.nm :: evF (pw l) d.nm) (evF (pw l) c.nm) (List.nodup_cons.2 ⟨hno, hn2⟩) (by
          intro x hx
          rcases List.mem_cons.1 hx with rfl | hx
          · exact hme
          · exact hsub x hx)
        simp only [List.length_cons] at h3
        omega
    obtain ⟨ls, hls⟩ := hrest
    exact ⟨c.super :: ls, by rw [lineFrom, if_neg hz, hls]; rfl⟩
theorem lnF_spec {l : List Cls} (g : Good l) {c : Cls} (hc : c ∈ l) : lineFrom 200 (pw l) (getC (pw l) c.nm) = some (lnF (pw l) c.nm) := by
  obtain ⟨ls, hls⟩ := line_ends g _ c hc (Nat.le_refl _)
  have h3 := (evF_spec (pw l) c.nm).2.2.1
  have h4 := g.small
  have h := lineFrom_more 200 hls (by omega)
  unfold lnF
  rw [g.get c hc, h]; rfl

/-! The order. -/
/-- Each stands behind what it extends. -/
def Ordered (L : PW) (out : List Str) : Prop := ∀ (i : Nat) x, out[i]? = some x → ¬ (getC L x).super.size = 0 → ∃ j, j < i ∧ out[j]? = some (getC L x).super
theorem ordered_add {L : PW} {out : List Str} (h : Ordered L out) (x : Str) (hx : ¬ (getC L x).super.size = 0 → (getC L x).super ∈ out) : Ordered L (addNew out x) := by
  unfold addNew
  split
  · exact h
  · intro i y hy hz
    by_cases hi : i < out.length
    · rw [List.getElem?_append_left hi] at hy
      obtain ⟨j, hj, e⟩ := h i y hy hz
      exact ⟨j, hj, by rw [List.getElem?_append_left (by omega)]; exact e⟩
    · rw [List.getElem?_append_right (by omega)] at hy
      have hy' := List.mem_of_getElem? hy
      rw [List.mem_singleton] at hy'
      subst hy'
      obtain ⟨j, hj, e⟩ := List.getElem_of_mem (hx hz)
      exact ⟨j, by omega, by rw [List.getElem?_append_left hj, List.getElem?_eq_getElem hj, e]⟩
theorem ordered_line {L : PW} : ∀ (k : Nat) (n : Str) (ls out : List Str), lineFrom k L (getC L n) = some ls → Ordered L out → Ordered L ((n :: ls).reverse.foldl addNew out) := by
  intro k
  induction k with
  | zero => intro n ls out h; cases h
  | succ k ih =>
    intro n ls out h ho
    rw [lineFrom] at h
    rw [List.reverse_cons, List.foldl_append]
    split at h
    · rename_i hz
      injection h with h
      subst h
      exact ordered_add ho n (fun hn => absurd hz hn)
    · rw [Option.map_eq_some_iff] at h
      obtain ⟨m, hm, rfl⟩ := h
      refine ordered_add (ih _ _ _ hm ho) n (fun _ => ?_)
      rw [mem_foldNew]
      right
      simp
theorem ordered_all {L : PW} {lnf : Str → List Str} (uses : List Str) (hl : ∀ u ∈ uses, ∃ k, lineFrom k L (getC L u) = some (lnf u)) : ∀ out : List Str, Ordered L out → Ordered L (orderFrom lnf out uses) := by
  unfold orderFrom
  induction uses with
  | nil => intro out h; exact h
  | cons u uses ih =>
    intro out h
    rw [List.foldl_cons]
    obtain ⟨k, hk⟩ := hl u List.mem_cons_self
    exact ih (fun v hv => hl v (List.mem_cons_of_mem _ hv)) _ (ordered_line k u _ _ hk h)
theorem order_nodup (lnf : Str → List Str) (uses : List Str) : ∀ out : List Str, out.Nodup → (orderFrom lnf out uses).Nodup := by
  unfold orderFrom
  induction uses with
  | nil => intro out h; exact h
  | cons u uses ih => intro out h; exact ih _ (foldNew_nodup _ _ h)
theorem order_pre (lnf : Str → List Str) (uses : List Str) : ∀ out : List Str, out <+: orderFrom lnf out uses := by
  unfold orderFrom
  induction uses with
  | nil => intro out; exact List.prefix_refl _
  | cons u uses ih => intro out; exact (foldNew_pre _ _).trans (ih _)
theorem order_mem (lnf : Str → List Str) (uses : List Str) : ∀ (out : List Str) (x : Str), x ∈ orderFrom lnf out uses ↔ x ∈ out ∨ ∃ u ∈ uses, x = u ∨ x ∈ lnf u := by
  unfold orderFrom
  induction uses with
  | nil => intro out x; simp
  | cons u uses ih =>
    intro out x
    rw [List.foldl_cons, ih, mem_foldNew]
    simp only [List.mem_reverse, List.mem_cons]
    constructor
    · rintro ((h | h) | ⟨v, hv, h⟩)
      · exact .inl h
      · exact .inr ⟨u, .inl rfl, h⟩
      · exact .inr ⟨v, .inr hv, h⟩
    · rintro (h | ⟨v, rfl | hv, h⟩)
      · exact .inl (.inl h)
      · exact .inl (.inr h)
      · exact .inr ⟨v, hv, h⟩
theorem line_uni {L : PW} : ∀ (k : Nat) (c : Cls) (ls : List Str), lineFrom k L c = some ls → (∀ b, (¬ c.super.size = 0 → b = c.super → b ∈ uni L)) → ∀ x ∈ ls, x ∈ uni L := by
  intro k
  induction k with
  | zero => intro c ls h; cases h
  | succ k ih =>
    intro c ls h hc x hx
    rw [lineFrom] at h
    split at h
    · injection h with h; subst h; cases hx
    · rename_i hz
      rw [Option.map_eq_some_iff] at h
      obtain ⟨m, hm, rfl⟩ := h
      rcases List.mem_cons.1 hx with rfl | hx
      · exact hc _ hz rfl
      · refine ih _ _ hm ?_ x hx
        intro b hb e
        apply above_uni L c.super b
        unfold above
        rw [if_neg hb, e]
        exact List.mem_cons_self
theorem order_small {l : List Cls} (g : Good l) : (orderFrom (lnF (pw l)) [sObject] (l.map Cls.nm)).length ≤ 1048576 := by
  have h1 := nodup_le (orderFrom (lnF (pw l)) [sObject] (l.map Cls.nm)) (sObject :: (l.map Cls.nm ++ uni (pw l))) (order_nodup _ _ _ (by simp)) (by
    intro x hx
    rw [order_mem] at hx
    rcases hx with hx | ⟨u, hu, rfl | hx⟩
    · rw [List.mem_singleton] at hx; rw [hx]; exact List.mem_cons_self
    · exact List.mem_cons_of_mem _ (List.mem_append_left _ hu)
    · obtain ⟨c, hc, rfl⟩ := List.mem_map.1 hu
      have h2 := lnF_spec g hc
      rw [g.get c hc] at h2
      refine List.mem_cons_of_mem _ (List.mem_append_right _ (line_uni _ _ _ h2 ?_ x hx))
      intro b hb e
      apply above_uni (pw l) c.nm b
      unfold above
      rw [g.get c hc, if_neg hb, e]
      exact List.mem_cons_self)
  have h2 := g.small
  have h3 := g.len
  simp only [List.length_cons, List.length_append, List.length_map] at h1
  omega
theorem allK_names {l : List Cls} (g : Good l) : ∀ (m : List Cls), (∀ c ∈ m, c ∈ l) → allK (pw l) (m.map Cls.nm) = true := by
  intro m
  induction m with
  | nil => intro _; rfl
  | cons c m ih =>
    intro h
    rw [List.map_cons, allK, ih (fun d hd => h d (List.mem_cons_of_mem _ hd)), Bool.and_true]
    have hc := h c List.mem_cons_self
    have h1 := g.get c hc
    have h2 := (g.sup c hc).1
    unfold getC at h1
    unfold hasK
    cases hg : getO (pw l) c.nm with
    | none => rw [hg] at h1; rw [← h1] at h2; exact absurd (by decide) h2
    | some d => rfl
/-- What Order tells of the names of all classes. -/
structure Started (l : List Cls) (out : List Str) : Prop where
  head : out[0]? = some sObject
  many : l.length + 1 ≤ out.length
  small : out.length ≤ 1048576
  at_ : ∀ c ∈ l, ∃ i j, j < i ∧ i < out.length ∧ (∀ k (hk : k < out.length), out[k] = c.nm ↔ k = i) ∧ (∀ k (hk : k < out.length), out[k] = c.super ↔ k = j)
theorem started {l : List Cls} (g : Good l) : Started l (orderFrom (lnF (pw l)) [sObject] (l.map Cls.nm)) := by
  have hn := order_nodup (lnF (pw l)) (l.map Cls.nm) [sObject] (by simp)
  have ho := ordered_all (L := pw l) (lnf := lnF (pw l)) (l.map Cls.nm) (by
    intro u hu
    obtain ⟨c, hc, rfl⟩ := List.mem_map.1 hu
    exact ⟨_, lnF_spec g hc⟩) [sObject] (by
    intro i x hx hz
    have := List.mem_of_getElem? hx
    rw [List.mem_singleton] at this
    subst this
    rw [g.obj] at hz
    exact absurd (by decide) hz)
  have hs := order_small g
  have hp := order_pre (lnF (pw l)) (l.map Cls.nm) [sObject]
  have hm := order_mem (lnF (pw l)) (l.map Cls.nm) [sObject]
  generalize orderFrom (lnF (pw l)) [sObject] (l.map Cls.nm) = out at *
  refine ⟨?_, ?_, hs, ?_⟩
  · obtain ⟨t, ht⟩ := hp
    rw [← ht]; rfl
  · have := nodup_le (sObject :: l.map Cls.nm) out (List.nodup_cons.2 ⟨by
      intro h
      obtain ⟨c, hc, e⟩ := List.mem_map.1 h
      exact g.nam c hc e, g.nod⟩) (by
      intro x hx
      rw [hm]
      rcases List.mem_cons.1 hx with rfl | hx
      · left; simp
      · exact .inr ⟨x, hx, .inl rfl⟩)
    simpa using this
  · intro c hc
    have h1 : c.nm ∈ out := (hm _).2 (.inr ⟨c.nm, List.mem_map.2 ⟨c, hc, rfl⟩, .inl rfl⟩)
    obtain ⟨i, hi, e⟩ := List.getElem_of_mem h1
    obtain ⟨j, hj, e2⟩ := ho i c.nm (by rw [List.getElem?_eq_getElem hi, e]) (by rw [g.get c hc]; exact (g.sup c hc).1)
    rw [g.get c hc] at e2
    obtain ⟨hjl, e3⟩ := List.getElem?_eq_some_iff.1 e2
    have huniq : ∀ (a b : Nat) (ha : a < out.length) (hb : b < out.length), out[a] = out[b] → a = b := by
      intro a b ha hb h
      have hp := List.pairwise_iff_getElem.1 hn
      rcases Nat.lt_trichotomy a b with hlt | heq | hlt
      · exact absurd h (hp a b ha hb hlt)
      · exact heq
      · exact absurd h.symm (hp b a hb ha hlt)
    refine ⟨i, j, hj, hi, ?_, ?_⟩
    · intro k hk
      constructor
      · intro h; exact huniq _ _ hk hi (h.trans e.symm)
      · rintro rfl; exact e
    · intro k hk
      constructor
      · intro h; exact huniq _ _ hk hjl (h.trans e3.symm)
      · rintro rfl; exact e3
end Go.Proofs.YthcjjjpcjjondaaGreatDoor
