/- A world: a map of classes by their names. -/
import Derived.Test.YthcjjjpcjjondaaGreatDoorClassE
import Derived.MapKept
import Derived.Test.YthcjjjpcjjondaaGreatDoorPure
namespace Go.Proofs.YthcjjjpcjjondaaGreatDoor
open Go.RowKit
set_option linter.unusedVariables false
set_option linter.unusedSimpArgs false
set_option linter.unnecessarySimpa false

def nilSl : Value := .slice none 0 0
theorem clsP_empty (w : World) : ClsP w emptyCls nilSl nilSl nilSl :=
  ⟨StrSl.nil _ _ _ (Nat.zero_le _), RowR.nil _ _ _ _ _ (Nat.zero_le _), RowR.nil _ _ _ _ _ (Nat.zero_le _), by decide, by decide, (fun f hf => by cases hf), by decide⟩
def EntR (w : World) (x : MapEntry) (p : Str × Cls) : Prop := x.key = .string p.1 ∧ ∃ fv gv mv, x.val = .agg (clsA p.2 fv gv mv) ∧ ClsP w p.2 fv gv mv
inductive EntsR (w : World) : List MapEntry → PW → Prop where
  | nil : EntsR w [] []
  | cons {x : MapEntry} {p : Str × Cls} {es : List MapEntry} {L : PW} : EntR w x p → EntsR w es L → EntsR w (x :: es) (p :: L)
theorem EntsR.keep {w w1 : World} {es : List MapEntry} {L : PW} (h : EntsR w es L) (hb : Below w.heap.size w w1) : EntsR w1 es L := by
  induction h with
  | nil => exact .nil
  | cons hx _ ih =>
    obtain ⟨h1, fv, gv, mv, h2, h3⟩ := hx
    exact .cons ⟨h1, fv, gv, mv, h2, h3.below hb⟩ ih
def WMap (w : World) (v : Value) (L : PW) : Prop := ∃ r es clock, v = .map (some r) ∧ w.heap[r]? = some (.map es clock) ∧ EntsR w es.toList L
theorem WMap.below {w w1 : World} {v : Value} {L : PW} (h : WMap w v L) (hb : Below w.heap.size w w1) : WMap w1 v L := by
  obtain ⟨r, es, clock, h1, h2, h3⟩ := h
  exact ⟨r, es, clock, h1, (hb.block r (Array.getElem?_eq_some_iff.1 h2).1).trans h2, h3.keep hb⟩

theorem beq_str (a b : Str) : (a == b) = decide (a = b) := by rw [beq_toListBytes, toList_beq]
theorem findNow_ents {w : World} {es : List MapEntry} {L : PW} (h : EntsR w es L) (s : Str) : ∀ i : Nat,
    (getO L s = none ∧ Instr.findNow .string (.string s) es i = some none) ∨
    ∃ c fv gv mv j, getO L s = some c ∧ Instr.findNow .string (.string s) es i = some (some (j, .agg (clsA c fv gv mv))) ∧ ClsP w c fv gv mv := by
  induction h with
  | nil => intro i; exact .inl ⟨rfl, rfl⟩
  | @cons x p es L hx _ ih =>
    intro i
    obtain ⟨h1, fv, gv, mv, h2, h3⟩ := hx
    by_cases he : p.1 = s
    · refine .inr ⟨p.2, fv, gv, mv, i, ?_, ?_, h3⟩
      · unfold getO; rw [List.find?_cons_of_pos (by simp [he])]; rfl
      · rw [Instr.findNow, h1, Instr.sameNow, beq_str, decide_eq_true he.symm, h2]
    · have hs : decide (s = p.1) = false := decide_eq_false fun e => he e.symm
      have hg : getO (p :: L) s = getO L s := by unfold getO; rw [List.find?_cons_of_neg (by simp [he])]
      rw [hg, Instr.findNow, h1, Instr.sameNow, beq_str, hs]
      exact ih (i + 1)
theorem info_class : (Tryz.prog.info? 28).map (·.zero) = some (some (.agg (clsA emptyCls nilSl nilSl nilSl))) := by kernel_rfl
theorem zero_class (w : World) : (zeroValue 28).run Tryz.prog w = .ok (.agg (clsA emptyCls nilSl nilSl nilSl)) w := by
  obtain ⟨i, hi, hz⟩ := Option.map_eq_some_iff.1 info_class
  simp [zeroValue, typeInfo, Sem.run_bind, hi, hz, Result.andThen, Sem.run, program, bind, Sem.bind, pure]
/-- A look into a world. -/
theorem lookupW2 {w0 w : World} {v : Value} {L : PW} (h : WMap w0 v L) (hb : Below w0.heap.size w0 w) (s : Str) : ∃ fv gv mv, ClsP w0 (getC L s) fv gv mv ∧
    (Instr.lookup 64 v (.string s) false).run Tryz.prog w = .ok (.agg (clsA (getC L s) fv gv mv)) w ∧
    (Instr.lookup 64 v (.string s) true).run Tryz.prog w = .ok (.tuple #[.agg (clsA (getC L s) fv gv mv), .bool (hasK L s)]) w := by
  obtain ⟨r, es, clock, rfl, h20, h3⟩ := h
  have h2 := (hb.block r (Array.getElem?_eq_some_iff.1 h20).1).trans h20
  have hck : ∀ e, (Instr.checkKey e 10000 9 (.string s)).run Tryz.prog w = .ok () w := fun e => MapKept.run_checkKey (n := 9999) Tryz.underlying9 (by simp [MapKept.IsKey]) e
  rcases findNow_ents h3 s 0 with ⟨h4, h5⟩ | ⟨c, fv, gv, mv, j, h4, h5, h6⟩
  · have hg : getC L s = emptyCls := by unfold getC; rw [h4]; rfl
    have hh : hasK L s = false := by unfold hasK; rw [h4]; rfl
    have hf := MapKept.run_findKey (P := Tryz.prog) (w := w) Tryz.underlying9 h5
    rw [hg, hh]
    refine ⟨nilSl, nilSl, nilSl, clsP_empty w0, ?_, ?_⟩
    · simp [Instr.lookup, run_underlying Tryz.underlying64, MapKept.run_getObj_map h2, hck, hf, zero_class, Result.andThen]
      rfl
    · simp [Instr.lookup, run_underlying Tryz.underlying64, MapKept.run_getObj_map h2, hck, hf, zero_class, Result.andThen]
      rfl
  · have hg : getC L s = c := by unfold getC; rw [h4]; rfl
    have hh : hasK L s = true := by unfold hasK; rw [h4]; rfl
    have hf := MapKept.run_findKey (P := Tryz.prog) (w := w) Tryz.underlying9 h5
    rw [hg, hh]
    refine ⟨fv, gv, mv, h6, ?_, ?_⟩
    · simp [Instr.lookup, run_underlying Tryz.underlying64, MapKept.run_getObj_map h2, hck, hf, Result.andThen]
    · simp [Instr.lookup, run_underlying Tryz.underlying64, MapKept.run_getObj_map h2, hck, hf, Result.andThen]
theorem lookupW {w : World} {v : Value} {L : PW} (h : WMap w v L) (s : Str) : ∃ fv gv mv, ClsP w (getC L s) fv gv mv ∧
    (Instr.lookup 64 v (.string s) false).run Tryz.prog w = .ok (.agg (clsA (getC L s) fv gv mv)) w ∧
    (Instr.lookup 64 v (.string s) true).run Tryz.prog w = .ok (.tuple #[.agg (clsA (getC L s) fv gv mv), .bool (hasK L s)]) w := lookupW2 h (Below.refl _ _) s
end Go.Proofs.YthcjjjpcjjondaaGreatDoor

/- append(v, src...) at []string: the source nil, empty or not. -/
namespace Go.Proofs.YthcjjjpcjjondaaGreatDoor
open Go.RowKit

theorem run_append_of_nil {P : Program} (w : World) (base : Nat) (t ty e : TypeId) (i : TypeInfo) (size : Nat) (ht : P.underlying t = some (.slice e)) (hi : P.info? e = some i)
    (v : Value) (n : Nat) (xs : List Value) (hown : w.ownsRow base e size v n xs) (c : Nat) : (Builtin.append_ #[t, t] ty #[v, .slice none 0 c]).run P w = .ok v w := by
  rcases hown.2 with ⟨rfl, rfl⟩ | ⟨g, cap, cur, rfl, _, _, hnc, _⟩
  · simp [Builtin.append_, run_underlying ht, sizeOf, typeInfo, hi, Builtin.lenOf, Builtin.firstCells]
  · simp [Builtin.append_, run_underlying ht, sizeOf, typeInfo, hi, Builtin.lenOf, Builtin.firstCells, hnc, storeCells]

section
variable {ops : Array Oper} {rest : List Oper} {o : Oper} {a : Act} {Q : Exit → Act → World → Prop}
set_option maxRecDepth 100000 in
theorem append_strs {w0 W : World} (base : Nat) (hgd : o.guard = none) (s x : Operand)
    (ho : o.op = .call { callee := .builtin .append, args := #[s, x], argTypes := #[24, 24] })
    (v : Value) (xs : List Str) (src : Value) (ys : List Str) (hs : a.eval s = v) (hx : a.eval x = src) (HY : StrSl W src ys)
    (HO : W.ownsRow base 9 1 v xs.length (strCells xs)) (HB : Below base w0 W) (hbase : base ≤ W.heap.size) (hl : xs.length + ys.length ≤ 8796093022208)
    (h : ∀ v1 w1, w1.ownsRow base 9 1 v1 (xs ++ ys).length (strCells (xs ++ ys)) → Below base w0 w1 → W.grownBy w1 v.ownBlock → wpList Tryz.prog ops Q rest (a.put o.dst v1) w1) :
    wpList Tryz.prog ops Q (o :: rest) a W := by
  obtain ⟨i0, hi, hzz⟩ := Option.map_eq_some_iff.1 info_string
  simp only [Prod.mk.injEq] at hzz
  obtain ⟨hz0, hz1, hz2⟩ := hzz
  obtain ⟨A, cap, rfl, h2, h3, h4⟩ := HY
  have ec : strCells (xs ++ ys) = strCells xs ++ strCells ys := by simp [strCells]
  rcases A with _ | ad
  · have hy : ys = [] := by
      cases ys with
      | nil => rfl
      | cons y ys =>
        obtain ⟨b, off, he, _⟩ := h4 0 y rfl
        cases he
    subst hy
    refine wpList_plain hgd fun K hK => ?_
    have hrun := run_append_of_nil (P := Tryz.prog) W base 24 o.type 9 i0 1 Tryz.underlying24 hi v xs.length (strCells xs) HO cap
    unfold Oper.wp execOp
    simp only [ho, resolve, invoke, builtin, Sem.run_bind, Sem.run_pure, Result.andThen_ok, List.map_toArray, List.map_cons, List.map_nil, hs, hx, List.length_nil, hrun]
    exact hK _ _ (h v W (by rw [List.append_nil]; exact HO) HB (World.grownBy.refl W _))
  · have hnews : ∀ j u, (strCells ys)[j]? = some u → W.cell? (ad.add j) = some u := by
      intro j u hj
      have hlt : j < ys.length := by have := (List.getElem?_eq_some_iff.1 hj).1; simpa [strCells] using this
      obtain ⟨b, off, he, hc⟩ := h4 j _ (List.getElem?_eq_getElem hlt)
      injection he with he
      subst he
      have hadd : (⟨b, off, none⟩ : Addr).add j = ⟨b, off + j, none⟩ := by unfold Addr.add; split <;> simp_all
      rw [hadd, hc]
      have : (strCells ys)[j]? = some (.string ys[j]) := by simp [strCells, hlt]
      rw [this] at hj
      exact hj
    refine wpList_append_own_at W hgd s x 24 ho base 9 i0 (.string ⟨#[]⟩) 1 16 Tryz.underlying24 hi hz0 hz1 hz2 rfl (by decide) v xs.length (strCells xs) hs HO ad ys.length cap (strCells ys) hx (by simp [strCells]) hnews
      (by intro u hu; simp only [strCells, List.mem_map] at hu; obtain ⟨y, _, rfl⟩ := hu; rfl) (by simp only [maxLen]; omega) (by omega) hbase ?_
    intro v1 w1 hown hg _ _
    refine h v1 w1 (by rw [List.length_append, ec]; exact hown) (HB.grown hg hbase (own_base HO)) hg
end
end Go.Proofs.YthcjjjpcjjondaaGreatDoor

/- Worlds: Above, Line, has. -/
namespace Go.Proofs.YthcjjjpcjjondaaGreatDoor
open Go.RowKit

theorem empty_list {s : Str} (h : s.size = 0) : s.toList = [] := by rw [Lib.toList_data]; exact List.eq_nil_of_length_eq_zero (by rw [← Lib.size_eq]; exact h)
theorem empty_not {s : Str} (h : ¬ s.size = 0) : s.toList.isEmpty = false := by
  rw [Lib.toList_data]
  cases h' : s.data.toList with
  | nil => exact absurd (by rw [Lib.size_eq, h']; rfl) h
  | cons a l => rfl
/-- The forms of a class's three slices. -/
theorem ClsP.forms {w : World} {c : Cls} {fv gv mv : Value} (h : ClsP w c fv gv mv) : ∃ fA fc gA gc mA mc, fv = .slice fA c.faces.length fc ∧ gv = .slice gA c.fields.length gc ∧ mv = .slice mA c.meths.length mc := by
  obtain ⟨fA, fc, h1, _, _⟩ := h.1.form
  obtain ⟨gA, gc, h2, _, _⟩ := h.2.1.form
  obtain ⟨mA, mc, h3, _, _⟩ := h.2.2.1.form
  exact ⟨fA, fc, gA, gc, mA, mc, h1, h2, h3⟩
theorem WMap.form {w : World} {v : Value} {L : PW} (h : WMap w v L) : ∃ r, v = .map (some r) := by obtain ⟨r, _, _, h, _⟩ := h; exact ⟨r, h⟩

set_option maxRecDepth 100000 in
set_option maxHeartbeats 1000000 in
theorem has_any (v : Value) (L : PW) (n : Str) (face : Bool) (w : World) (h : WMap w v L) : Calls Tryz.prog 85 #[v, .string n, .bool face] w (ErrPost (hasErr L n face) w) := by
  obtain ⟨fv, gv, mv, hP, _, hrun⟩ := lookupW h n
  obtain ⟨r, rfl⟩ := h.form
  have HF : Hid (hasErr L n face = if hasK L n = false then 3 else if (getC L n).face ≠ face then 7 else 0) := Lib.hid rfl
  generalize getC L n = c at *
  generalize hasK L n = hk at *
  obtain ⟨fA, fc, gA, gc, mA, mc, rfl, rfl, rfl⟩ := hP.forms
  clear h hP
  unfold clsA at hrun
  obtain ⟨cn, cs, cfa, cf, cfl, cme⟩ := c
  simp only [] at hrun HF
  cases hk
  · have H : Hid (hasErr L n face = 3) := by apply Lib.hid; rw [HF.out]; rfl
    clear HF
    go_enter Tryz.func85, Tryz.ntmps85
    go_wp2
    go_ret
    exact ep_mk H.out (by decide) rfl ((Below.refl w.heap.size w).alloc (Nat.le_refl _) _)
  · cases cf <;> cases face
    all_goals
      have H := HF.out
      simp at H
      replace H := Lib.hid H
      clear HF
      go_enter Tryz.func85, Tryz.ntmps85
      go_wp2
      go_ret
      first
        | exact ep_ok H.out rfl ((Below.refl w.heap.size w).alloc (Nat.le_refl _) _)
        | exact ep_mk H.out (by decide) rfl ((Below.refl w.heap.size w).alloc (Nat.le_refl _) _)

theorem own_lit {base : Nat} (W : World) (y : Str) (h : base ≤ W.heap.size) : (W.alloc (.cells #[.string y] 9)).ownsRow base 9 1 (.slice (some ⟨W.heap.size, 0, none⟩) 1 1) [y].length (strCells [y]) := by
  refine ⟨rfl, .inr ⟨W.heap.size, 1, #[.string y], rfl, h, ?_, Nat.le_refl _, by decide, rfl, rfl⟩⟩
  show (W.heap.push _)[W.heap.size]? = _
  simp
/-- A row of texts of the call's own. -/
def StrsPost (xs : List Str) (w : World) (e : Ending) (w' : World) : Prop := ∃ v, e = .returned v ∧ w'.ownsRow w.heap.size 9 1 v xs.length (strCells xs) ∧ Below w.heap.size w w'
/-- A slice of texts that was there in w0, or a row of the call's own. -/
def AbovePost (xs : List Str) (w0 w : World) (e : Ending) (w' : World) : Prop := ∃ v, e = .returned v ∧ (StrSl w0 v xs ∨ w'.ownsRow w.heap.size 9 1 v xs.length (strCells xs)) ∧ Below w.heap.size w w'
/-- A slice of texts that is read. -/
def SlPost (xs : List Str) (w : World) (e : Ending) (w' : World) : Prop := ∃ v, e = .returned v ∧ StrSl w' v xs ∧ Below w.heap.size w w'

set_option maxRecDepth 100000 in
set_option maxHeartbeats 1000000 in
theorem above_any (v : Value) (L : PW) (n : Str) (w0 w : World) (h : WMap w0 v L) (hw : Below w0.heap.size w0 w) : Calls Tryz.prog 87 #[v, .string n] w (AbovePost (above L n) w0 w) := by
  obtain ⟨fv, gv, mv, hP, hrun, _⟩ := lookupW2 h hw n
  obtain ⟨r, rfl⟩ := h.form
  have HF : Hid (above L n = if (getC L n).super.size = 0 then (getC L n).faces else (getC L n).super :: (getC L n).faces) := Lib.hid rfl
  generalize getC L n = c at *
  obtain ⟨fA, fc, gA, gc, mA, mc, rfl, rfl, rfl⟩ := hP.forms
  have HP := Lib.hid hP
  have HW := Lib.hid hw
  clear h hP
  unfold clsA at hrun
  by_cases hs : c.super.size = 0
  · have H : Hid (above L n = c.faces) := by apply Lib.hid; rw [HF.out, if_pos hs]
    have he := empty_list hs
    clear HF hs
    go_enter Tryz.func87, Tryz.ntmps87
    go_wp2
    go_ret
    have hb := (Below.refl w.heap.size w).alloc (Nat.le_refl _) (.cells #[Value.string c.nm, Value.string c.super, .slice fA c.faces.length fc, .bool c.face, .slice gA c.fields.length gc, .slice mA c.meths.length mc] 28)
    exact ⟨_, rfl, .inl (by rw [H.out]; exact HP.out.1), hb⟩
  · have H : Hid (above L n = c.super :: c.faces) := by apply Lib.hid; rw [HF.out, if_neg hs]
    have he := empty_not hs
    clear HF hs
    go_enter Tryz.func87, Tryz.ntmps87
    go_upto_region 4 with (fail)
    have hb := (Below.refl w.heap.size w).alloc (Nat.le_refl _) (.cells #[Value.string c.nm, Value.string c.super, .slice fA c.faces.length fc, .bool c.face, .slice gA c.fields.length gc, .slice mA c.meths.length mc] 28)
    have e1 := World.cell?_alloc_new w #[Value.string c.nm, Value.string c.super, .slice fA c.faces.length fc, .bool c.face, .slice gA c.fields.length gc, .slice mA c.meths.length mc] 28 1
    have e2 := World.cell?_alloc_new w #[Value.string c.nm, Value.string c.super, .slice fA c.faces.length fc, .bool c.face, .slice gA c.fields.length gc, .slice mA c.meths.length mc] 28 2
    simp only [List.getElem?_toArray, List.getElem?_cons_zero, List.getElem?_cons_succ] at e1 e2
    have hz : w.heap.size < (w.alloc (.cells #[Value.string c.nm, Value.string c.super, .slice fA c.faces.length fc, .bool c.face, .slice gA c.fields.length gc, .slice mA c.meths.length mc] 28)).heap.size := by simp
    generalize w.alloc (.cells #[Value.string c.nm, Value.string c.super, .slice fA c.faces.length fc, .bool c.face, .slice gA c.fields.length gc, .slice mA c.meths.length mc] 28) = W1 at *
    have HY := ((HP.out.1.below hw).below hb).below ((Below.refl W1.heap.size W1).alloc (Nat.le_refl _) (.cells #[.string c.super] 9))
    have HO := own_lit (base := w.heap.size) W1 c.super hb.size
    have HB := hb.alloc hb.size (.cells #[.string c.super] 9)
    have hbase : w.heap.size ≤ (W1.alloc (.cells #[.string c.super] 9)).heap.size := HB.size
    have HHY := Lib.hid HY
    have HHO := Lib.hid HO
    have hfl : c.faces.length ≤ 1048576 := HP.out.2.2.2.2.2.2
    clear HY HO hrun
    go_wp2_with (at_builtin; go_loud (refine append_strs w.heap.size rfl _ _ rfl _ [c.super] _ c.faces rfl rfl HHY.out HHO.out HB hbase (by simp; omega) ?_))
    intro v1 w2 hown hb2 _
    go_wp2
    go_ret
    exact ⟨_, rfl, .inr (by rw [H.out]; exact hown), hb2⟩
end Go.Proofs.YthcjjjpcjjondaaGreatDoor
