/- check.looker: its state, and a place met for the first time. -/
import Derived.Test.YthcjjjpcjjondaaGreatDoorAfterB
import Derived.Test.YthcjjjpcjjondaaGreatDoorFlowN
namespace Go.Proofs.YthcjjjpcjjondaaGreatDoor
open Go.RowKit
set_option linter.unusedVariables false
set_option linter.unusedSimpArgs false
set_option linter.unnecessarySimpa false

/-- What lies in cells, but for some types, lies as it did. -/
def TagG (S : List TypeId) (wk w : World) : Prop := ∀ (q : Nat) (c : Array Value) (t : TypeId) (fz : Nat × Nat), wk.heap[q]? = some (.cells c t fz) → t ∉ S → w.heap[q]? = some (.cells c t fz)
theorem TagG.refl (S : List TypeId) (w : World) : TagG S w w := fun _ _ _ _ h _ => h
theorem TagG.trans {S : List TypeId} {a b c : World} (h : TagG S a b) (k : TagG S b c) : TagG S a c := fun q x t fz hq h1 => k q x t fz (h q x t fz hq h1) h1
theorem TagG.below {S : List TypeId} {wk w w1 : World} (h : TagG S wk w) (hb : Below w.heap.size w w1) : TagG S wk w1 := by
  intro q c t fz hq h1
  have h3 := h q c t fz hq h1
  exact (hb.block q (Array.getElem?_eq_some_iff.1 h3).1).trans h3
theorem TagG.grown {S : List TypeId} {wk w w1 : World} {row : Option Nat} (h : TagG S wk w) (hg : w.grownBy w1 row) (hb : ∀ b, row = some b → ∀ (c : Array Value) (t : TypeId) (fz : Nat × Nat), w.heap[b]? = some (.cells c t fz) → t ∈ S) : TagG S wk w1 := by
  intro q c t fz hq h1
  have h3 := h q c t fz hq h1
  refine (hg.block q (Array.getElem?_eq_some_iff.1 h3).1 ?_).trans h3
  intro e
  exact h1 (hb q e.symm c t fz h3)
theorem TagG.cell {S : List TypeId} {wk w : World} {q j : Nat} {c : Array Value} {t : TypeId} {fz : Nat × Nat} (h : TagG S wk w) (hq : wk.heap[q]? = some (.cells c t fz)) (h1 : t ∉ S) : w.cell? ⟨q, j, none⟩ = c[j]? := cell_of (h q c t fz hq h1)
theorem tag_cells {S : List TypeId} {w : World} {b : Nat} {c : Array Value} {t : TypeId} {fz : Nat × Nat} (h : w.heap[b]? = some (.cells c t fz)) (ht : t ∈ S) : ∀ b', some b = some b' → ∀ (c : Array Value) (t : TypeId) (fz : Nat × Nat), w.heap[b']? = some (.cells c t fz) → t ∈ S := by
  intro b' e c' t' fz' h'
  injection e with e
  subst e
  rw [h] at h'
  injection h' with h'
  injection h' with _ h' _
  rw [← h']; exact ht
theorem tag_map {S : List TypeId} {w : World} {b : Nat} {es : Array MapEntry} {k : Nat} (h : w.heap[b]? = some (.map es k)) : ∀ b', some b = some b' → ∀ (c : Array Value) (t : TypeId) (fz : Nat × Nat), w.heap[b']? = some (.cells c t fz) → t ∈ S := by
  intro b' e c' t' fz' h'
  injection e with e
  subst e
  rw [h] at h'
  injection h' with h'
  cases h'
theorem tag_q {S : List TypeId} {w : World} {base : Nat} {e : TypeId} {v : Value} {xs : List Value} (h : QRow w base e v xs) (he : e ∈ S) : ∀ b, v.ownBlock = some b → ∀ (c : Array Value) (t : TypeId) (fz : Nat × Nat), w.heap[b]? = some (.cells c t fz) → t ∈ S := by
  intro b hb c t fz h'
  rcases h with ⟨rfl, _⟩ | ⟨g, off, cap, cur, rfl, _, hh, _⟩
  · simp [Value.ownBlock] at hb
  · have : g = b := by simpa [Value.ownBlock] using hb
    subst this
    rw [hh] at h'
    injection h' with h'
    injection h' with _ h' _
    rw [← h']; exact he
theorem noStr_q {w : World} {base : Nat} {e : TypeId} {v : Value} {xs : List Value} (h : QRow w base e v xs) (he : e ≠ 9) : NoStr w v.ownBlock := by
  intro b hb c fz h'
  have := tag_q (S := [e]) h (by simp) b hb _ _ _ h'
  simp only [List.mem_singleton] at this
  exact he this.symm
theorem q_ne_tag {w : World} {base : Nat} {e : TypeId} {v : Value} {xs : List Value} (h : QRow w base e v xs) {q : Nat} {c : Array Value} {t : TypeId} {fz : Nat × Nat} (hq : w.heap[q]? = some (.cells c t fz)) (ht : t ≠ e) : v.ownBlock ≠ some q := by
  intro hb
  have := tag_q (S := [e]) h (by simp) q hb _ _ _ hq
  simp only [List.mem_singleton] at this
  exact ht this
theorem q_ne_map {w : World} {base : Nat} {e : TypeId} {v : Value} {xs : List Value} (h : QRow w base e v xs) {q : Nat} {es : Array MapEntry} {k : Nat} (hq : w.heap[q]? = some (.map es k)) : v.ownBlock ≠ some q := by
  intro hb
  rcases h with ⟨rfl, _⟩ | ⟨g, off, cap, cur, rfl, _, hh, _⟩
  · simp [Value.ownBlock] at hb
  · have : g = q := by simpa [Value.ownBlock] using hb
    subst this
    rw [hh] at hq
    injection hq with hq
    cases hq
abbrev lookS : List TypeId := [3, 161]
def LookAt (w : World) (kb r : Nat) (wv : Value) (m : Meth) (cv hv tv : Value) : Prop :=
  w.heap[kb]? = some (.cells #[wv, .string m.nm, .string m.ty, .bool m.static, .bool m.abstract, .bool m.priv, .int .i64 m.locals, cv, hv, .map (some r), tv] 161 (0, 0))
/-- A looker: what it holds. -/
def LookS (w0 wk w : World) (kb r : Nat) (wv : Value) (m : Meth) (cv hv : Value) (M : FM) (todo : List Int) : Prop :=
  TagG lookS wk w ∧ Below w0.heap.size w0 w ∧ w0.heap.size ≤ kb ∧ w0.heap.size ≤ r ∧ ∃ tv, LookAt w kb r wv m cv hv tv ∧ FMapAt w r w0.heap.size M ∧ QRow w w0.heap.size 3 tv (intCells todo)
theorem look_lt {w : World} {kb r : Nat} {wv : Value} {m : Meth} {cv hv tv : Value} (h : LookAt w kb r wv m cv hv tv) : kb < w.heap.size := (Array.getElem?_eq_some_iff.1 h).1
theorem look_set {w : World} {kb r : Nat} {wv : Value} {m : Meth} {cv hv tv : Value} (h : LookAt w kb r wv m cv hv tv) (v : Value) : LookAt (w.setCell ⟨kb, 10, none⟩ v) kb r wv m cv hv v := by
  unfold LookAt at h ⊢
  simp [World.setCell, Array.getElem?_modify, h]
theorem LookS.below {w0 wk w w1 : World} {kb r : Nat} {wv : Value} {m : Meth} {cv hv : Value} {M : FM} {todo : List Int} (h : LookS w0 wk w kb r wv m cv hv M todo) (hb : Below w.heap.size w w1) : LookS w0 wk w1 kb r wv m cv hv M todo := by
  obtain ⟨h0, h1, h2, h3, tv, h4, h5, h6⟩ := h
  exact ⟨h0.below hb, bel_then h1 hb, h2, h3, tv, (hb.block kb (look_lt h4)).trans h4, h5.below hb, q_below h6 hb⟩
theorem LookS.drew {w0 wk w : World} {kb r : Nat} {wv : Value} {m : Meth} {cv hv : Value} {M : FM} {todo : List Int} (h : LookS w0 wk w kb r wv m cv hv M todo) : LookS w0 wk w.drew kb r wv m cv hv M todo := by
  obtain ⟨h0, h1, h2, h3, tv, h4, h5, h6⟩ := h
  exact ⟨h0, h1.drew, h2, h3, tv, h4, h5.keep (row := none) ⟨rfl, rfl, rfl, Nat.le_refl _, fun _ _ _ => rfl⟩ (noStr_none _) (by simp), h6⟩
theorem LookS.re {w0 wk w : World} {kb r : Nat} {wv : Value} {m : Meth} {cv hv : Value} {M : FM} {todo : List Int} (h : LookS w0 wk w kb r wv m cv hv M todo) : LookS w0 w w kb r wv m cv hv M todo := ⟨TagG.refl _ _, h.2⟩
theorem LookS.back {w0 wk w w1 : World} {kb r : Nat} {wv : Value} {m : Meth} {cv hv : Value} {M M1 : FM} {todo todo1 : List Int} (h : LookS w0 wk w kb r wv m cv hv M todo) (k : LookS w0 w w1 kb r wv m cv hv M1 todo1) : LookS w0 wk w1 kb r wv m cv hv M1 todo1 := ⟨h.1.trans k.1, k.2⟩
def MeetPost (w0 wk : World) (kb r : Nat) (wv : Value) (m : Meth) (cv hv : Value) (M : FM) (todo : List Int) (v : Value) (e : Ending) (w' : World) : Prop := e = .returned v ∧ LookS w0 wk w' kb r wv m cv hv M todo
set_option maxRecDepth 100000 in
set_option maxHeartbeats 2000000 in
theorem meet_new (w0 wk : World) (kb r : Nat) (wv : Value) (m : Meth) (cv hv : Value) (M : FM) (todo : List Int) (at_ : Int) (f : Frm) (lv sv : Value) (w : World) (h : LookS w0 wk w kb r wv m cv hv M todo) (hno : getF M at_ = none) (hf : FrmP w w0.heap.size f lv sv) (hlen : todo.length ≤ 1048576) :
    Calls Tryz.prog 92 #[.pointer (some ⟨kb, 0, none⟩), .int .i64 at_, .agg #[lv, sv]] w (MeetPost w0 wk kb r wv m cv hv (setF M at_ f) (todo ++ [at_]) (.bool true)) := by
  obtain ⟨lA, lc, sA, sc, rfl, rfl, _⟩ := hf.forms
  have hb1 : Below w.heap.size w (w.alloc (.cells #[.slice lA f.locals.length lc, .slice sA f.stack.length sc] 163)) := (Below.refl w.heap.size w).alloc (Nat.le_refl _) _
  have hnew : (w.alloc (.cells #[.slice lA f.locals.length lc, .slice sA f.stack.length sc] 163)).heap[w.heap.size]? = some (.cells #[.slice lA f.locals.length lc, .slice sA f.stack.length sc] 163 (0, 0)) := by
    show (w.heap.push _)[w.heap.size]? = _
    simp
  have hf1 := hf.below hb1
  have h1 := h.below hb1
  have hz1 : (w.alloc (.cells #[.slice lA f.locals.length lc, .slice sA f.stack.length sc] 163)).heap.size = w.heap.size + 1 := by simp
  have HN := Lib.hid hnew
  have HF := Lib.hid hf1
  have HZ := Lib.hid hz1
  have H1 := Lib.hid h1
  clear h hf hb1 h1 hf1 hnew hz1
  go_enter Tryz.func92, Tryz.ntmps92
  go_upto_region 1 with (fail)
  generalize w.alloc _ = W1 at *
  obtain ⟨hT, hB, hkb, hr, tv, hL, hM, hQ⟩ := H1.out
  have c9 : W1.cell? ⟨kb, 9, none⟩ = some (.map (some r)) := cell_of hL
  obtain ⟨zl, zs, hz, _, hrun⟩ := lookupF hM at_
  rw [hno] at hz hrun
  obtain ⟨zA, zc, yA, yc, rfl, rfl, _⟩ := hz.forms
  simp only [Option.getD_none, emptyFrm, Option.isSome_none] at hrun
  clear hz hT hB hkb hr hL hM hQ
  go_wp2_with fail
  have hb2 : Below W1.heap.size W1 (W1.alloc (.cells #[.slice zA 0 zc, .slice yA 0 yc] 163)) := (Below.refl W1.heap.size W1).alloc (Nat.le_refl _) _
  have h2 := H1.out.below hb2
  have hf2 : FrmP (W1.alloc (.cells #[.slice zA 0 zc, .slice yA 0 yc] 163)) w0.heap.size f (.slice lA f.locals.length lc) (.slice sA f.stack.length sc) := HF.out.below hb2
  have hn2 : (W1.alloc (.cells #[.slice zA 0 zc, .slice yA 0 yc] 163)).heap[w.heap.size]? = some (.cells #[.slice lA f.locals.length lc, .slice sA f.stack.length sc] 163 (0, 0)) := by
    exact (hb2.block w.heap.size (by have := HZ.out; omega)).trans HN.out
  have H2 := Lib.hid h2
  clear hb2 h2 c9 hrun
  generalize W1.alloc _ = W2 at *
  have c9 : W2.cell? ⟨kb, 9, none⟩ = some (.map (some r)) := by
    obtain ⟨hT, hB, hkb, hr, tv, hL, hM, hQ⟩ := H2.out
    exact cell_of hL
  have b0 := cell_of (j := 0) hn2
  have b1 := cell_of (j := 1) hn2
  simp only [List.getElem?_toArray, List.getElem?_cons_zero, List.getElem?_cons_succ] at b0 b1
  have H3 := Lib.hid H2.out.drew
  have hf3 : FrmP W2.drew w0.heap.size f (.slice lA f.locals.length lc) (.slice sA f.stack.length sc) := hf2
  clear hf2 hn2
  go_still_tail 6, (by kernel_rfl)
  change wpList _ _ _ _ _ W2.drew
  generalize W2.drew = W3 at *
  clear c9 b0 b1
  obtain ⟨hT, hB, hkb, hr, tv, hL, hM, hQ⟩ := H3.out
  obtain ⟨W4, hr4, hm4, hg4, hn4, hs4⟩ := updateF hM at_ f _ _ hf3
  have hkr : kb ≠ r := by
    rintro rfl
    obtain ⟨es, ck, h3, _⟩ := hM
    unfold LookAt at hL
    rw [hL] at h3
    injection h3 with h3
    cases h3
  have hL4 : LookAt W4 kb r wv m cv hv tv := (hg4.block kb (look_lt hL) (fun e => by injection e with e; exact hkr e)).trans hL
  have hQ4 : QRow W4 w0.heap.size 3 tv (intCells todo) := by
    refine q_kept hQ hg4 ?_
    obtain ⟨es, ck, h3, _⟩ := hM
    exact .inr (q_ne_map hQ h3)
  have hB4 : Below w0.heap.size w0 W4 := hB.grown hg4 hB.size (fun k e => by injection e with e; omega)
  have hT4 : TagG lookS wk W4 := by
    refine hT.grown hg4 ?_
    obtain ⟨es, ck, h3, _⟩ := hM
    exact tag_map h3
  have d10 : W4.cell? ⟨kb, 10, none⟩ = some tv := cell_of hL4
  obtain ⟨tA, tc, rfl, ht1, ht2⟩ := q_form hQ4
  have HT4 := Lib.hid hT4
  have HL4 := Lib.hid hL4
  have HM4 := Lib.hid hm4
  have HQ4 := Lib.hid hQ4
  have HB4 := Lib.hid hB4
  have HKB := Lib.hid hkb
  have HR := Lib.hid hr
  have hkl := look_lt hL4
  clear hT hB hL hM hQ hf3 hg4 hn4 hs4 hL4 hQ4 hB4 hT4 hm4 hkb hr
  go_wp2_with (at_builtin; go_loud (refine append_int w0.heap.size rfl _ _ rfl (.slice tA (intCells todo).length tc) todo at_ rfl rfl HQ4.out HB4.out HB4.out.size (by omega) ?_))
  intro v5 w5 hq5 hb5 hg5 hat5
  have hne : some kb ≠ (Value.slice tA (intCells todo).length tc).ownBlock := fun e => q_ne_tag HQ4.out (HL4.out : W4.heap[kb]? = _) (by decide) e.symm
  have hL5 : LookAt w5 kb r wv m cv hv (.slice tA (intCells todo).length tc) := (hg5.block kb hkl hne).trans HL4.out
  have hM5 := HM4.out.keep hg5 (noStr_q HQ4.out (by decide)) (fun e => by
    obtain ⟨es, ck, h3, _⟩ := HM4.out
    exact q_ne_map HQ4.out h3 e.symm)
  have hT5 := HT4.out.grown hg5 (tag_q HQ4.out (by simp))
  have hn5 := q_ne_tag hq5 (hL5 : w5.heap[kb]? = _) (by decide)
  have c10 : w5.cell? ⟨kb, 10, none⟩ = some (.slice tA (intCells todo).length tc) := cell_of hL5
  have z10 : w5.frozen? ⟨kb, 10, none⟩ = false := frozen_of hL5
  obtain ⟨vA, vc, rfl, hv1, hv2⟩ := q_form hq5
  have HX : Hid (LookS w0 wk (w5.setCell ⟨kb, 10, none⟩ (.slice vA (intCells (todo ++ [at_])).length vc)) kb r wv m cv hv (setF M at_ f) (todo ++ [at_])) := by
    apply Lib.hid
    have hgs := grown_set w5 ⟨kb, 10, none⟩ (.slice vA (intCells (todo ++ [at_])).length vc)
    have hns : NoStr w5 (some kb) := noStr_cells (hL5 : w5.heap[kb]? = _) (by decide)
    refine ⟨hT5.grown hgs (tag_cells (hL5 : w5.heap[kb]? = _) (by simp)), hb5.setCell HKB.out _, HKB.out, HR.out, _, look_set hL5 _, hM5.keep hgs hns (fun e => ?_), q_setCell hq5 hn5 _⟩
    injection e with e
    obtain ⟨es, ck, h3, _⟩ := hM5
    rw [e] at h3
    unfold LookAt at hL5
    rw [hL5] at h3
    injection h3 with h3
    cases h3
  clear hL5 hM5 hT5 hn5 hq5 hg5 hb5 d10 hat5
  go_wp2
  go_ret
  exact ⟨rfl, HX.out⟩
end Go.Proofs.YthcjjjpcjjondaaGreatDoor
