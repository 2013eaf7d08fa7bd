/- frame.After where an instruction fits. -/
import Derived.Test.YthcjjjpcjjondaaGreatDoorAfterA
import Derived.Test.YthcjjjpcjjondaaGreatDoorFMap
namespace Go.Proofs.YthcjjjpcjjondaaGreatDoor
open Go.RowKit
set_option linter.unusedVariables false
set_option linter.unusedSimpArgs false
set_option linter.unnecessarySimpa false

/-- A frame in rows of the call's own. -/
def AfterPost (ls ss : List Str) (w : World) (e : Ending) (w' : World) : Prop :=
  ∃ lv sv, e = .returned (.tuple #[.agg #[lv, sv], .bool true]) ∧ w'.ownsRow w.heap.size 9 1 lv ls.length (strCells ls) ∧ w'.ownsRow w.heap.size 9 1 sv ss.length (strCells ss) ∧ Below w.heap.size w w'
theorem four_new (w : World) (o0 o1 o2 o3 : Obj) :
    ((((w.alloc o0).alloc o1).alloc o2).alloc o3).heap[w.heap.size]? = some o0 ∧ ((((w.alloc o0).alloc o1).alloc o2).alloc o3).heap[w.heap.size + 1]? = some o1 ∧ ((((w.alloc o0).alloc o1).alloc o2).alloc o3).heap[w.heap.size + 1 + 1]? = some o2 ∧
    ((((w.alloc o0).alloc o1).alloc o2).alloc o3).heap[w.heap.size + 1 + 1 + 1]? = some o3 ∧ ((((w.alloc o0).alloc o1).alloc o2).alloc o3).heap.size = w.heap.size + 1 + 1 + 1 + 1 ∧ Below w.heap.size w ((((w.alloc o0).alloc o1).alloc o2).alloc o3) := by
  refine ⟨?_, ?_, ?_, ?_, by simp, ((((Below.refl w.heap.size w).alloc (Nat.le_refl _) _).alloc (by simp) _).alloc (by simp; omega) _).alloc (by simp; omega) _⟩
  all_goals
    show ((((w.heap.push o0).push o1).push o2).push o3)[_]? = _
    simp only [Array.getElem?_push, Array.size_push]
    repeat (first | rfl | rw [if_neg (by omega)] | rw [if_pos rfl])
theorem cell_of {w : World} {b j : Nat} {c : Array Value} {t : TypeId} {fz : Nat × Nat} (h : w.heap[b]? = some (.cells c t fz)) : w.cell? ⟨b, j, none⟩ = c[j]? := by simp [World.cell?, h]
theorem frozen_of {w : World} {b j : Nat} {c : Array Value} {t : TypeId} (h : w.heap[b]? = some (.cells c t (0, 0))) : w.frozen? ⟨b, j, none⟩ = false := by simp [World.frozen?, h]
theorem own_ne_tag {w : World} {base : Nat} {e : TypeId} {size n : Nat} {v : Value} {xs : List Value} (h : w.ownsRow base e size v n xs) {q : Nat} {c : Array Value} {t : TypeId} {fz : Nat × Nat} (hq : w.heap[q]? = some (.cells c t fz)) (ht : t ≠ e) : v.ownBlock ≠ some q := by
  rcases h.2 with ⟨rfl, _⟩ | ⟨g, cap, cur, rfl, _, hh, _⟩
  · simp [Value.ownBlock]
  · intro h
    have : g = q := by simpa [Value.ownBlock] using h
    subst this
    rw [hh] at hq
    injection hq with hq
    injection hq with _ e _
    exact ht e.symm
theorem keepCell {w w1 : World} (hb : Below w.heap.size w w1) {b o : Nat} {u : Value} (hlt : b < w.heap.size) (h : w.cell? ⟨b, o, none⟩ = some u) : w1.cell? ⟨b, o, none⟩ = some u := (hb.cell (p := ⟨b, o, none⟩) hlt).trans h
theorem ins6_tag {wk w : World} {q : Nat} {op a b : Int} {ty cls nm : Str} (h : TagK wk w) (hq : wk.heap[q]? = some (.cells #[.int .i64 op, .int .i64 a, .int .i64 b, .string ty, .string cls, .string nm] 56 (0, 0))) :
    w.cell? ⟨q, 0, none⟩ = some (.int .i64 op) ∧ w.cell? ⟨q, 1, none⟩ = some (.int .i64 a) ∧ w.cell? ⟨q, 2, none⟩ = some (.int .i64 b) ∧ w.cell? ⟨q, 3, none⟩ = some (.string ty) ∧ w.cell? ⟨q, 4, none⟩ = some (.string cls) ∧ w.cell? ⟨q, 5, none⟩ = some (.string nm) :=
  ⟨h.cell hq (by decide) (by decide), h.cell hq (by decide) (by decide), h.cell hq (by decide) (by decide), h.cell hq (by decide) (by decide), h.cell hq (by decide) (by decide), h.cell hq (by decide) (by decide)⟩
set_option maxRecDepth 100000 in
set_option maxHeartbeats 4000000 in
theorem after_ok (wv lv sv : Value) (fr gv : Str) (x : Ins) (L : PW) (ls ss ls' ss' : List Str) (w : World) (hW : WMap w wv L) (hl : StrSl w lv ls) (hs : StrSl w sv ss) (hll : ls.length ≤ 1099511627776) (hsl : ss.length ≤ 1099511627776)
    (hp : ∀ (wk w1 : World) (b : Nat), StepS w wk w1 b wv fr gv ls ss → Calls Tryz.prog 202 #[.pointer (some ⟨b, 0, none⟩), insV x] w1 (StepPost w wk b wv fr gv ls' ss' (.tuple #[])))
    (hh : ∀ (wk w1 : World) (b : Nat), StepS w wk w1 b wv fr gv ls' ss' → Calls Tryz.prog 203 #[.pointer (some ⟨b, 0, none⟩), insV x] w1 (StepPost w wk b wv fr gv ls' ss' (.tuple #[]))) :
    Calls Tryz.prog 157 #[wv, .string fr, .string gv, insV x, .agg #[lv, sv]] w (AfterPost ls' ss' w) := by
  have hmf : ∀ (fn : Fn) (first cap : Array Value) (w : World), (Instr.makeFunc fn first cap).run Tryz.prog w = .ok (.func fn first cap) w := fun _ _ _ _ => rfl
  have HP := Lib.hid hp
  have HH := Lib.hid hh
  have HL := Lib.hid hl
  have HS := Lib.hid hs
  clear hp hh hl hs
  unfold insV insA at *
  obtain ⟨r, rfl⟩ := hW.form
  have HW := Lib.hid hW
  clear hW
  obtain ⟨lA, lc, rfl, hl1, hl2⟩ := HL.out.form
  obtain ⟨sA, sc, rfl, hs1, hs2⟩ := HS.out.form
  have h4 := four_new w (.cells #[.int .i64 x.op, .int .i64 x.a, .int .i64 x.b, .string x.ty, .string x.cls, .string x.nm] 56) (.cells #[.slice lA ls.length lc, .slice sA ss.length sc] 163) (.cells #[.slice none 0 0, .slice none 0 0] 163) (.cells #[.bool false] 4)
  obtain ⟨hX, hF, hO, hT, hz, hb⟩ := h4
  have HX := Lib.hid hX
  have HO := Lib.hid hO
  have HT := Lib.hid hT
  have HZ := Lib.hid hz
  have f0 := cell_of (j := 0) hF
  have f1 := cell_of (j := 1) hF
  simp only [List.getElem?_toArray, List.getElem?_cons_zero, List.getElem?_cons_succ] at f0 f1
  have HF := Lib.hid hF
  clear hX hF hO hT hz
  go_enter_defers Tryz.func157, Tryz.ntmps157
  go_wp2_with fail
  generalize (((w.alloc _).alloc _).alloc _).alloc _ = W1 at *
  have HB1 := Lib.hid hb
  have hlt : w.heap.size + 1 < W1.heap.size := by have := HZ.out; omega
  go_region_held3 (fun w' => w'.cell? ⟨w.heap.size + 1, 0, none⟩ = some (.slice lA ls.length lc) ∧ w'.cell? ⟨w.heap.size + 1, 1, none⟩ = some (.slice sA ss.length sc))
    (first
      | go_keep
      | exact ⟨g0, g1⟩
      | exact ⟨k0, k1⟩)
    (first
      | (go_at_call 201; refine (clone_any (.slice lA ls.length lc) ls _ (HL.out.below (hb.drew)) hll).mono ?_; rintro e w2 ⟨v2, rfl, ho2, hb2⟩; obtain ⟨A2, c2, rfl, _, _⟩ := (own_strs ho2).form; have g0 := keepCell hb2 hlt f0; have g1 := keepCell hb2 hlt f1)
      | (go_at_call 201; refine (clone_any (.slice sA ss.length sc) ss _ (HS.out.below (bel_then hb.drew hb2)) hsl).mono ?_; rintro e w3 ⟨v3, rfl, ho3, hb3⟩; obtain ⟨A3, c3, rfl, _, _⟩ := (own_strs ho3).form; have k0 := keepCell hb3 (Nat.lt_of_lt_of_le hlt hb2.size) g0; have k1 := keepCell hb3 (Nat.lt_of_lt_of_le hlt hb2.size) g1))
  have hb2' : Below W1.heap.size W1 w2 := ⟨hb2.os, hb2.tape, hb2.output, hb2.size, hb2.block⟩
  have HS0 : Hid (StepS w W1 (w3.alloc (.cells #[.map (some r), .string fr, .string gv, .slice A2 ls.length c2, .slice A3 ss.length c3] 261)) w3.heap.size (.map (some r)) fr gv ls ss) := by
    apply Lib.hid
    have hB3 : Below w.heap.size w w3 := bel_then (bel_then hb hb2') hb3
    have hnew := (Below.refl w3.heap.size w3).alloc (Nat.le_refl _) (.cells #[.map (some r), .string fr, .string gv, .slice A2 ls.length c2, .slice A3 ss.length c3] 261)
    have ho2' := own_below ho2 hb3
    refine ⟨((TagK.refl W1).below hb2').below hb3 |>.below hnew, hB3.alloc hB3.size _, hB3.size, _, _, ?_, own_lower (own_below ho2' hnew) ?_, own_lower (own_below ho3 hnew) ?_, ?_, ?_, ?_⟩
    · show (w3.heap.push _)[w3.heap.size]? = _
      simp
    · exact hb.size
    · exact Nat.le_trans hb.size hb2'.size
    · intro e
      have := own_lt ho2' _ e
      omega
    · intro e
      have := own_lt ho3 _ e
      omega
    · by_cases hn : (Value.slice A2 ls.length c2).ownBlock = none
      · exact .inl hn
      · right
        intro e
        obtain ⟨k, hk⟩ := Option.ne_none_iff_exists'.1 hn
        have h1 := own_lt ho2 k hk
        have h2 := own_base ho3 k (by rw [← e]; exact hk)
        omega
  clear hb3 ho3 ho2 hb2 hb2' f0 f1 g0 g1 k0 k1
  generalize w3.alloc _ = W4 at *
  obtain ⟨a0, a1, a2, a3, a4, a5⟩ := ins6_tag HS0.out.1 HX.out
  generalize w3.heap.size = sb at *
  go_wp2_with fail
  refine (HP.out W1 W4 sb HS0.out).mono ?_
  rintro e w5 ⟨rfl, hS5⟩
  clear a0 a1 a2 a3 a4 a5
  obtain ⟨a0, a1, a2, a3, a4, a5⟩ := ins6_tag hS5.1 HX.out
  have HS5 := Lib.hid hS5
  clear hS5
  go_wp2_with fail
  refine (HH.out W1 w5 sb HS5.out).mono ?_
  rintro e w6 ⟨rfl, hS6⟩
  clear a0 a1 a2 a3 a4 a5
  obtain ⟨hT6, hB6, hb6, lv6, sv6, hs6, ol6, os6, _⟩ := hS6
  obtain ⟨_, k3, k4, _, _⟩ := step_cell hs6
  obtain ⟨A6, c6, rfl, _, _⟩ := (own_strs ol6).form
  obtain ⟨A7, c7, rfl, _, _⟩ := (own_strs os6).form
  have hO6 := hT6 _ _ _ _ HO.out (by decide) (by decide)
  have hT6' := hT6 _ _ _ _ HT.out (by decide) (by decide)
  have o0 := cell_of (j := 0) hO6
  have o1 := cell_of (j := 1) hO6
  have o2 := cell_of (j := 0) hT6'
  simp only [List.getElem?_toArray, List.getElem?_cons_zero, List.getElem?_cons_succ] at o0 o1 o2
  have z0 := frozen_of (j := 0) hO6
  have z1 := frozen_of (j := 1) hO6
  have z2 := frozen_of (j := 0) hT6'
  have HOL := Lib.hid ol6
  have HOS := Lib.hid os6
  have HO6 := Lib.hid hO6
  have HT6 := Lib.hid hT6'
  clear hs6 ol6 os6 hT6 hO6 hT6'
  go_wp2_with fail
  refine leaves_cons (f := 200) (args := #[.pointer (some ⟨w.heap.size + 1 + 1, 0, none⟩), .pointer (some ⟨w.heap.size + 1 + 1 + 1, 0, none⟩)]) (by simp) (by simp [go_sem]) ?_
  refine (after_idle _ _ _).mono ?_
  rintro e u' w'' ⟨rfl, rfl, rfl⟩
  simp [Leaves, settle, results, Tryz.results157, go_sem, o0, o1, o2]
  have n1 := own_ne_tag HOL.out HO6.out (by decide)
  have n2 := own_ne_tag HOL.out HT6.out (by decide)
  have n3 := own_ne_tag HOS.out HO6.out (by decide)
  have n4 := own_ne_tag HOS.out HT6.out (by decide)
  refine ⟨_, _, rfl, ?_, ?_, ((hB6.setCell (by simp; omega) _).setCell (by simp; omega) _).setCell (by simp; omega) _⟩
  · exact ownsRow_setCell_other (ownsRow_setCell_other (ownsRow_setCell_other HOL.out (a := ⟨w.heap.size + 1 + 1, 0, none⟩) n1 _) (a := ⟨w.heap.size + 1 + 1, 1, none⟩) n1 _) (a := ⟨w.heap.size + 1 + 1 + 1, 0, none⟩) n2 _
  · exact ownsRow_setCell_other (ownsRow_setCell_other (ownsRow_setCell_other HOS.out (a := ⟨w.heap.size + 1 + 1, 0, none⟩) n3 _) (a := ⟨w.heap.size + 1 + 1, 1, none⟩) n3 _) (a := ⟨w.heap.size + 1 + 1 + 1, 0, none⟩) n4 _
end Go.Proofs.YthcjjjpcjjondaaGreatDoor
