/- run.machine: a call of two arguments is entered. -/
import Derived.Test.YthcjjjpcjjondaaGreatDoorMachD
namespace Go.Proofs.YthcjjjpcjjondaaGreatDoor
open Go.RowKit
set_option linter.unusedVariables false
set_option linter.unusedSimpArgs false
set_option linter.unnecessarySimpa false

def EnterPost (w0 : World) (kb : Nat) (mw hp : Value) (cls : Str) (m : Meth) (cv hv : Value) (ls : List VL) (e : Ending) (w' : World) : Prop :=
  e = .returned (.tuple #[]) ∧ ∃ cb cg ccap cur, MachAt w' kb mw hp (.slice (some ⟨cg, 0, none⟩) 1 ccap) 0 0 ⟨#[]⟩ 0 false ∧ w'.heap[cg]? = some (.cells cur 123 (0, 0)) ∧ cur[0]? = some (.pointer (some ⟨cb, 0, none⟩)) ∧ 1 ≤ ccap ∧ ccap ≤ 9223372036854775807 ∧ CS w0 w' w' cb cls m cv hv 0 ls []
theorem info_pcall : (Tryz.prog.info? 123).map (fun i => (i.zero, i.size, i.bytes)) = some (some (.pointer none), 1, 8) := by kernel_rfl
theorem make_two (w : World) : (Instr.makeSlice 34 (.int .i64 2) (.int .i64 2)).run Tryz.prog w = .ok (.slice (some ⟨w.heap.size, 0, none⟩) 2 2) (w.alloc (.cells #[.int .i64 0, .int .i64 0, .int .i64 0, .int .i64 0] 36)) := by
  obtain ⟨i0, hi, hz0, hz1, hz2⟩ := info_parts info_value
  have h := run_make (P := Tryz.prog) w 34 36 i0 (.agg #[.int .i64 0, .int .i64 0]) Tryz.underlying34 hi hz0 .i64 .i64 2 2 (by omega) (by omega) (by rw [hz2]; decide) (by omega)
  have h' : (Instr.makeSlice 34 (.int .i64 2) (.int .i64 2)).run Tryz.prog w = .ok (.slice (some ⟨w.heap.size, 0, none⟩) 2 2) (w.alloc (.cells (madeCells #[.int .i64 0, .int .i64 0] 4) 36)) := by simpa [hz1, Value.cells] using h
  have e : madeCells #[.int .i64 0, .int .i64 0] 4 = #[.int .i64 0, .int .i64 0, .int .i64 0, .int .i64 0] := by kernel_rfl
  rw [h', e]
/-- copy(d, s) onto the head of a block, elements of whatever size. -/
theorem run_copy_head {P : Program} {w : World} (dT sT ty : TypeId) (elem : TypeId) (size : Nat) (hu : P.underlying dT = some (.slice elem)) (hsz : (P.info? elem).map (·.size) = some size)
    (g dLen dCap : Nat) (ad : Addr) (sLen sCap : Nat) (cur : Array Value) (t : TypeId) (hg : w.heap[g]? = some (.cells cur t (0, 0))) (cs : List Value) (hn : cs.length = Nat.min sLen dLen * size)
    (hsrc : ∀ j v, cs[j]? = some v → w.cell? (ad.add j) = some v) (hfit : cs.length ≤ cur.size) (h1 : ∀ v ∈ cs, v.oneCell' = true) :
    (Builtin.copy_ #[dT, sT] ty #[.slice (some ⟨g, 0, none⟩) dLen dCap, .slice (some ad) sLen sCap]).run P w = .ok (goInt (Nat.min sLen dLen)) (w.setRow g (cs ++ cur.toList.drop cs.length).toArray) := by
  obtain ⟨i, hi, hz⟩ := Option.map_eq_some_iff.1 hsz
  have hf := run_firstCells_some (P := P) w size (Nat.min sLen dLen) ad sLen sCap cs hn hsrc
  have hst := run_storeCells_at P g 0 t cs 0 cur w hg (by simpa using hfit) h1
  simp only [Nat.add_zero, List.take_zero, List.nil_append, Nat.zero_add] at hst
  simp only [Nat.min_def] at hf hn ⊢
  simp [Builtin.copy_, run_underlying hu, sizeOf, typeInfo, hi, hz, Builtin.lenOf, hf, hst, Nat.min_def, Result.andThen]
theorem setRow_alloc (w : World) (c c2 : Array Value) (t : TypeId) : (w.alloc (.cells c t)).setRow w.heap.size c2 = w.alloc (.cells c2 t) := by
  unfold World.setRow World.alloc
  congr 1
  apply Array.ext
  · simp
  · intro k h1 h2
    simp only [Array.getElem_modify, Array.getElem_push]
    have h3 : k < w.heap.size + 1 := by simpa using h2
    by_cases hk : k < w.heap.size
    · have : ¬ w.heap.size = k := by omega
      simp [hk, this]
    · have : w.heap.size = k := by omega
      simp [this]
theorem copy_two (w : World) (ab : Nat) (k1 n1 k2 n2 : Int) (hab : ab < w.heap.size) (a0 : w.cell? ⟨ab, 0, none⟩ = some (.int .i64 k1)) (a1 : w.cell? ⟨ab, 1, none⟩ = some (.int .i64 n1)) (a2 : w.cell? ⟨ab, 2, none⟩ = some (.int .i64 k2)) (a3 : w.cell? ⟨ab, 3, none⟩ = some (.int .i64 n2)) :
    (Builtin.copy_ #[34, 34] 3 #[.slice (some ⟨w.heap.size, 0, none⟩) 2 2, .slice (some ⟨ab, 0, none⟩) 2 2]).run Tryz.prog (w.alloc (.cells #[.int .i64 0, .int .i64 0, .int .i64 0, .int .i64 0] 36)) = .ok (.int .i64 2) (w.alloc (.cells #[.int .i64 k1, .int .i64 n1, .int .i64 k2, .int .i64 n2] 36)) := by
  have hb := (Below.refl w.heap.size w).alloc (Nat.le_refl _) (.cells #[.int .i64 0, .int .i64 0, .int .i64 0, .int .i64 0] 36)
  have hg : (w.alloc (.cells #[.int .i64 0, .int .i64 0, .int .i64 0, .int .i64 0] 36)).heap[w.heap.size]? = some (.cells #[.int .i64 0, .int .i64 0, .int .i64 0, .int .i64 0] 36 (0, 0)) := by
    show (w.heap.push _)[w.heap.size]? = _
    simp
  obtain ⟨i0, hi, hz0, hz1, hz2⟩ := info_parts info_value
  have h := run_copy_head (P := Tryz.prog) 34 34 3 36 2 Tryz.underlying34 (by rw [hi]; simp [hz1]) w.heap.size 2 2 ⟨ab, 0, none⟩ 2 2 _ _ hg [.int .i64 k1, .int .i64 n1, .int .i64 k2, .int .i64 n2] rfl ?_ (by simp) (by simp [Value.oneCell'])
  · rw [h]
    have := setRow_alloc w #[.int .i64 0, .int .i64 0, .int .i64 0, .int .i64 0] #[.int .i64 k1, .int .i64 n1, .int .i64 k2, .int .i64 n2] 36
    rw [← this]; rfl
  · intro j v hj
    have hadd : (⟨ab, 0, none⟩ : Addr).add j = ⟨ab, j, none⟩ := by unfold Addr.add; split <;> simp_all
    rw [hadd]
    match j, hj with
    | 0, hj => rw [← hj]; exact keepCell hb hab a0
    | 1, hj => rw [← hj]; exact keepCell hb hab a1
    | 2, hj => rw [← hj]; exact keepCell hb hab a2
    | 3, hj => rw [← hj]; exact keepCell hb hab a3
    | j + 4, hj => simp at hj
theorem boxed2 {W w2 : World} {o o2 : Obj} {row : Option Nat} (hg : ((W.alloc o).alloc o2).drew.grownBy w2 row) : W.grownBy w2 row := World.grownBy.trans (World.grownBy_alloc W o _) (boxed hg)
theorem enter_end {w0 W2 w3 : World} {kb lb gg cap : Nat} {mw hp cv hv : Value} {cls : Str} {m : Meth} {k1 n1 k2 n2 : Int} (hlo : m.locals = 2) (hB : Below w0.heap.size w0 W2) (hkb : w0.heap.size ≤ kb) (hl0 : w0.heap.size ≤ lb) (hl1 : lb < W2.heap.size) (hl3 : kb < lb) (hk : kb < W2.heap.size)
    (hM : MachAt W2 kb mw hp (.slice none 0 0) 0 0 ⟨#[]⟩ 0 false) (hL : W2.heap[lb]? = some (.cells #[.int .i64 k1, .int .i64 n1, .int .i64 k2, .int .i64 n2] 36 (0, 0)))
    (hg : ((W2.alloc (.cells #[.string cls, .string m.nm, .string m.ty, .bool m.static, .bool m.abstract, .bool m.priv, .int .i64 2, cv, hv, .int .i64 0, .slice (some ⟨lb, 0, none⟩) 2 2, .slice none 0 0] 125)).alloc (.cells #[.pointer (some ⟨W2.heap.size, 0, none⟩)] 123)).drew.grownBy w3 (Value.slice none 0 0).ownBlock)
    (hown : w3.ownsRow w0.heap.size 123 1 (.slice (some ⟨gg, 0, none⟩) (0 + 1) cap) (0 + 1) ([] ++ [.pointer (some ⟨W2.heap.size, 0, none⟩)])) :
    ∃ cb cg ccap cur, MachAt (w3.setCell ⟨kb, 2, none⟩ (.slice (some ⟨gg, 0, none⟩) 1 cap)) kb mw hp (.slice (some ⟨cg, 0, none⟩) 1 ccap) 0 0 ⟨#[]⟩ 0 false ∧ (w3.setCell ⟨kb, 2, none⟩ (.slice (some ⟨gg, 0, none⟩) 1 cap)).heap[cg]? = some (.cells cur 123 (0, 0)) ∧ cur[0]? = some (.pointer (some ⟨cb, 0, none⟩)) ∧ 1 ≤ ccap ∧ ccap ≤ 9223372036854775807 ∧
      CS w0 (w3.setCell ⟨kb, 2, none⟩ (.slice (some ⟨gg, 0, none⟩) 1 cap)) (w3.setCell ⟨kb, 2, none⟩ (.slice (some ⟨gg, 0, none⟩) 1 cap)) cb cls m cv hv 0 [⟨k1, n1⟩, ⟨k2, n2⟩] [] := by
  have hg1 := boxed2 hg
  have hg0 : W2.grownBy w3 none := hg1
  have hM3 : w3.heap[kb]? = _ := heap_grown hg0 (by simp) hM
  have hL3 := heap_grown hg0 (by simp) hL
  have hC2 := (two_new W2 (.cells #[.string cls, .string m.nm, .string m.ty, .bool m.static, .bool m.abstract, .bool m.priv, .int .i64 2, cv, hv, .int .i64 0, .slice (some ⟨lb, 0, none⟩) 2 2, .slice none 0 0] 125) (.cells #[.pointer (some ⟨W2.heap.size, 0, none⟩)] 123)).1
  have hC3 := heap_grown hg (b := W2.heap.size) (by simp [Value.ownBlock]) hC2
  have hB3 : Below w0.heap.size w0 w3 := hB.grown hg0 hB.size (fun k e => by cases e)
  have hset : ∀ b o, b ≠ kb → w3.heap[b]? = some o → (w3.setCell ⟨kb, 2, none⟩ (.slice (some ⟨gg, 0, none⟩) 1 cap)).heap[b]? = some o := fun b o hne h => heap_grown (grown_set w3 ⟨kb, 2, none⟩ _) (fun e => by injection e with e; exact hne e) h
  rcases hown.2 with ⟨e, _⟩ | ⟨g', cap', cur, e, hb, hh, h1, h2, h3, h4⟩
  · cases e
  · injection e with e1 _ e3
    injection e1 with e1
    injection e1 with e1 _ _
    subst e1 e3
    have hgk : gg ≠ kb := by
      rintro rfl
      rw [hM3] at hh
      injection hh with hh
      injection hh with _ hh _
      exact absurd hh (by decide)
    have hcur : cur[0]? = some (.pointer (some ⟨W2.heap.size, 0, none⟩)) := by
      have := congrArg (fun l => l[0]?) h4
      simpa [List.getElem?_take] using this
    refine ⟨W2.heap.size, gg, cap, cur, ?_, hset gg _ hgk hh, hcur, by omega, by unfold maxLen at h2; omega, TagG.refl _ _, hB3.setCell hkb _, hB.size, .slice (some ⟨lb, 0, none⟩) 2 2, .slice none 0 0, ?_, ?_, own_nil _ _ _ _, .inr ?_⟩
    · unfold MachAt
      have := heap_set2 hM3 2 (.slice (some ⟨gg, 0, none⟩) 1 cap)
      rw [this]
      simp
    · unfold CallAt
      rw [hlo]
      exact hset _ _ (by omega) hC3
    · refine ⟨rfl, .inr ⟨lb, 2, _, rfl, hl0, hset lb _ (by omega) hL3, Nat.le_refl _, by decide, rfl, rfl⟩⟩
    · simp [Value.ownBlock]
set_option maxRecDepth 100000 in
set_option maxHeartbeats 4000000 in
theorem enter_two (w0 : World) (kb ab : Nat) (mw hp : Value) (cls : Str) (m : Meth) (cv hv : Value) (k1 n1 k2 n2 : Int) (w : World) (hM : MachAt w kb mw hp (.slice none 0 0) 0 0 ⟨#[]⟩ 0 false) (hB : Below w0.heap.size w0 w) (hkb : w0.heap.size ≤ kb) (hlo : m.locals = 2) (hP : MethP w0 m cv hv)
    (a0 : w.cell? ⟨ab, 0, none⟩ = some (.int .i64 k1)) (a1 : w.cell? ⟨ab, 1, none⟩ = some (.int .i64 n1)) (a2 : w.cell? ⟨ab, 2, none⟩ = some (.int .i64 k2)) (a3 : w.cell? ⟨ab, 3, none⟩ = some (.int .i64 n2)) :
    Calls Tryz.prog 29 #[.pointer (some ⟨kb, 0, none⟩), .string cls, methV m cv hv, .slice (some ⟨ab, 0, none⟩) 2 2] w (EnterPost w0 kb mw hp cls m cv hv [⟨k1, n1⟩, ⟨k2, n2⟩]) := by
  have hmk := make_two
  obtain ⟨cA, cc, rfl, _, _⟩ := hP.1.form
  obtain ⟨hA, hc, rfl, _, _⟩ := hP.2.1.form
  unfold methV methA
  have hb1 := (Below.refl w.heap.size w).alloc (Nat.le_refl _) (.cells #[.string m.nm, .string m.ty, .bool m.static, .bool m.abstract, .bool m.priv, .int .i64 m.locals, .slice cA m.code.length cc, .slice hA m.hs.length hc] 44)
  have hX : (w.alloc (.cells #[.string m.nm, .string m.ty, .bool m.static, .bool m.abstract, .bool m.priv, .int .i64 m.locals, .slice cA m.code.length cc, .slice hA m.hs.length hc] 44)).heap[w.heap.size]? = some (.cells #[.string m.nm, .string m.ty, .bool m.static, .bool m.abstract, .bool m.priv, .int .i64 m.locals, .slice cA m.code.length cc, .slice hA m.hs.length hc] 44 (0, 0)) := by
    show (w.heap.push _)[w.heap.size]? = _
    simp
  have hkl := (Array.getElem?_eq_some_iff.1 (hM : w.heap[kb]? = _)).1
  have hM1 := (hb1.block kb hkl).trans (hM : w.heap[kb]? = _)
  have c0 := keepCell hb1 (World.block_lt_of_cell? w _ a0) a0
  have c1 := keepCell hb1 (World.block_lt_of_cell? w _ a1) a1
  have c2 := keepCell hb1 (World.block_lt_of_cell? w _ a2) a2
  have c3 := keepCell hb1 (World.block_lt_of_cell? w _ a3) a3
  have HX := Lib.hid hX
  have HM : Hid (MachAt (w.alloc (.cells #[.string m.nm, .string m.ty, .bool m.static, .bool m.abstract, .bool m.priv, .int .i64 m.locals, .slice cA m.code.length cc, .slice hA m.hs.length hc] 44)) kb mw hp (.slice none 0 0) 0 0 ⟨#[]⟩ 0 false) := Lib.hid hM1
  have HB := Lib.hid (bel_then hB hb1)
  have hab := World.block_lt_of_cell? w _ a0
  simp only [] at hab
  clear hb1 hX hM1 hM hB hP a0 a1 a2 a3
  rw [hlo] at HX HM HB c0 c1 c2 c3 ⊢
  go_enter Tryz.func29, Tryz.ntmps29
  go_upto_region 1 with (fail)
  generalize hW1 : w.alloc _ = W1 at *
  have hzz : W1.heap.size = w.heap.size + 1 := by rw [← hW1]; simp
  clear hW1
  have m2 : W1.cell? ⟨kb, 2, none⟩ = some (.slice none 0 0) := cell_of HM.out
  have x5 : W1.cell? ⟨w.heap.size, 5, none⟩ = some (.int .i64 2) := cell_of HX.out
  have hn1 : ab ≠ W1.heap.size := by omega
  have hn2 : kb ≠ W1.heap.size := by omega
  have hcp := copy_two W1 ab k1 n1 k2 n2 (by omega) c0 c1 c2 c3
  replace hzz := Lib.hid hzz
  go_wp2_with fail
  have hb2 := (Below.refl W1.heap.size W1).alloc (Nat.le_refl _) (.cells #[.int .i64 k1, .int .i64 n1, .int .i64 k2, .int .i64 n2] 36)
  have hL2 : (W1.alloc (.cells #[.int .i64 k1, .int .i64 n1, .int .i64 k2, .int .i64 n2] 36)).heap[W1.heap.size]? = some (.cells #[.int .i64 k1, .int .i64 n1, .int .i64 k2, .int .i64 n2] 36 (0, 0)) := by
    show (W1.heap.push _)[W1.heap.size]? = _
    simp
  have HX2 := Lib.hid ((hb2.block w.heap.size (Array.getElem?_eq_some_iff.1 HX.out).1).trans HX.out)
  have HM2 := Lib.hid ((hb2.block kb (Array.getElem?_eq_some_iff.1 (HM.out : W1.heap[kb]? = _)).1).trans (HM.out : W1.heap[kb]? = _))
  have HL2 := Lib.hid hL2
  have HB2 := Lib.hid (bel_then HB.out hb2)
  have hl0 : w0.heap.size ≤ W1.heap.size := HB.out.size
  have hl1 : W1.heap.size < (W1.alloc (.cells #[.int .i64 k1, .int .i64 n1, .int .i64 k2, .int .i64 n2] 36)).heap.size := by simp
  have hl2 : w.heap.size < W1.heap.size := by have := hzz.out; omega
  have hl3 : kb < W1.heap.size := by have := hzz.out; omega
  clear hb2 hL2 hcp c0 c1 c2 c3 m2 x5 hn1 hn2
  generalize W1.alloc _ = W2 at *
  generalize W1.heap.size = lb at *
  have m2 : W2.cell? ⟨kb, 2, none⟩ = some (.slice none 0 0) := cell_of HM2.out
  have z2 : W2.frozen? ⟨kb, 2, none⟩ = false := frozen_of HM2.out
  obtain ⟨x0, x1, x2, x3, x4, x5, x6, x7⟩ : W2.cell? ⟨w.heap.size, 0, none⟩ = some (.string m.nm) ∧ W2.cell? ⟨w.heap.size, 1, none⟩ = some (.string m.ty) ∧ W2.cell? ⟨w.heap.size, 2, none⟩ = some (.bool m.static) ∧ W2.cell? ⟨w.heap.size, 3, none⟩ = some (.bool m.abstract) ∧ W2.cell? ⟨w.heap.size, 4, none⟩ = some (.bool m.priv) ∧ W2.cell? ⟨w.heap.size, 5, none⟩ = some (.int .i64 2) ∧ W2.cell? ⟨w.heap.size, 6, none⟩ = some (.slice cA m.code.length cc) ∧ W2.cell? ⟨w.heap.size, 7, none⟩ = some (.slice hA m.hs.length hc) :=
    ⟨cell_of HX2.out, cell_of HX2.out, cell_of HX2.out, cell_of HX2.out, cell_of HX2.out, cell_of HX2.out, cell_of HX2.out, cell_of HX2.out⟩
  have e1 : kb ≠ W2.heap.size := by omega
  have e2 : w.heap.size ≠ W2.heap.size := by omega
  have e3 : kb < W2.heap.size := by omega
  have e4 : w.heap.size < W2.heap.size := by omega
  have hbs := HB2.out.size
  obtain ⟨i0, hi0, hz0, hz1, hz2⟩ := info_parts info_pcall
  go_region_law (first
    | (refine step_append_lies _ (by rfl) _ _ _ (by rfl) w0.heap.size 123 i0 _ 1 8 Tryz.underlying79 hi0 hz0 hz1 hz2 rfl (by omega) (.slice none 0 0) 0 [] (by rfl) (own_nil _ _ _ _)
        ⟨W2.heap.size + 1, 0, none⟩ 1 1 [.pointer (some ⟨W2.heap.size, 0, none⟩)] (by rfl) (by rfl) (World.news_of_block (cs := #[.pointer (some ⟨W2.heap.size, 0, none⟩)]) (t := 123) (fr := (0, 0)) (two_new W2 _ _).2.1) (by simp [Value.oneCell'])
        (by omega) (by simp only [maxLen]; omega) (by omega) (by simp; omega) (W2.heap.size + 1 + 1) (by simp) ?_; intro gg cap w3 hown3 hgrow hat hlt; have hg1 := boxed2 hgrow; have g2 := cell_grownQ hg1 (by simp [Value.ownBlock]) m2; have y2 := frozen_grown hg1 (by simp [Value.ownBlock]) e3 z2))
  all_goals
    go_end0
    exact ⟨rfl, enter_end (cls := cls) (m := m) hlo HB2.out hkb hl0 hl1 hl3 e3 (HM2.out : MachAt W2 kb mw hp (.slice none 0 0) 0 0 ⟨#[]⟩ 0 false) HL2.out hgrow hown3⟩
end Go.Proofs.YthcjjjpcjjondaaGreatDoor
