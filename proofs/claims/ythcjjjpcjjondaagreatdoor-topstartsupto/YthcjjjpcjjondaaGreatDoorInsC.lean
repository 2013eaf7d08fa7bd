/- Instructions: ins.Check. Printed by gen_insc.py. -/
import Derived.Test.YthcjjjpcjjondaaGreatDoorInsAT
namespace Go.Proofs.YthcjjjpcjjondaaGreatDoor
open Go.RowKit
set_option linter.unusedVariables false
set_option linter.unusedSimpArgs false
set_option linter.unnecessarySimpa false

def ErrPost (c : Int) (w : World) (e : Ending) (w' : World) : Prop := e = .returned (errV c) ∧ Below w.heap.size w w'
theorem ep_mk {k c : Int} {w w' : World} {v : Value} (h : c = k) (hk : k ≠ 0) (hv : v = .iface 53 (.int .i64 k)) (hb : Below w.heap.size w w') : ErrPost c w (.returned v) w' := ⟨by rw [hv, h, errV_ne hk], hb⟩
theorem ep_ok {c : Int} {w w' : World} {v : Value} (h : c = 0) (hv : v = .nilIface) (hb : Below w.heap.size w w') : ErrPost c w (.returned v) w' := ⟨by rw [hv, h]; rfl, hb⟩
theorem bytes_nil {s : Str} (h : bytes s = []) : s = ⟨#[]⟩ := bytes_inj h
theorem needs_new (s W : Str) (c : UInt8) (w1 : World) :
    Calls Tryz.prog 112 #[.string ⟨#[c]⟩, .pointer (some ⟨w1.heap.size, 0, none⟩)] (w1.alloc (.cells #[.string W, .string s] 180)) fun e w' => e = .returned (.bool (hasC s c)) ∧ w1.alloc (.cells #[.string W, .string s] 180) = w' :=
  needs_any s c _ _ (by
    exact World.cell?_alloc_new w1 #[.string W, .string s] 180 1)
/-- ins.of as ins.Check meets it. -/
def OfC (i : Nat) (W N : Str) : Prop := ∀ w1, FormsLaid w1 → Calls Tryz.prog 111 #[.int .i64 i] w1 fun e w' => e = .returned (.tuple #[.agg #[.string W, .string N], .bool true]) ∧ Below w1.heap.size w1 w'
theorem OfC.use {i : Nat} {W N : Str} (h : OfC i W N) {w : World} (hg : FormsLaid w) (o : Obj) : Calls Tryz.prog 111 #[.int .i64 i] (w.alloc o) fun e w' => e = .returned (.tuple #[.agg #[.string W, .string N], .bool true]) ∧ Below (w.alloc o).heap.size (w.alloc o) w' :=
  h _ (hg.below ((Below.refl _ _).alloc (Nat.le_refl _) _))
def insTail (n : Str) (rb tb : Bool) (cls nm : Str) : Int :=
  if rb = false then 2 else if tb = false then 1 else if hasC n 67 = true ∧ isName cls = false then 1 else if hasC n 78 = true ∧ isName nm = false then 1 else 0
theorem FormsLaid.pos {w : World} (h : FormsLaid w) : 0 < w.heap.size := World.block_lt_of_cell? w _ (h 0 (by decide)).1

set_option maxRecDepth 100000 in
set_option maxHeartbeats 1000000 in
theorem insCheck_good0 (i : Nat)  (W : Str) (rb tb : Bool) (w : World) (hG : FormsLaid w)  (OF : Hid (OfC i W ⟨#[]⟩))
    (RG : Hid (∀ w, Calls Tryz.prog 114 #[.agg #[.int .i64 i, .int .i64 0, .int .i64 0, .string ⟨#[]⟩, .string ⟨#[]⟩, .string ⟨#[]⟩]] w (BoolPost rb w)))
    (TY : Hid (∀ w, Calls Tryz.prog 115 #[.agg #[.int .i64 i, .int .i64 0, .int .i64 0, .string ⟨#[]⟩, .string ⟨#[]⟩, .string ⟨#[]⟩]] w (BoolPost tb w))) :
    Calls Tryz.prog 60 #[.agg #[.int .i64 i, .int .i64 0, .int .i64 0, .string ⟨#[]⟩, .string ⟨#[]⟩, .string ⟨#[]⟩]] w (ErrPost (insTail ⟨#[]⟩ rb tb ⟨#[]⟩ ⟨#[]⟩) w) := by
  have n65 : hasC (⟨#[]⟩ : Str) 65 = false := rfl
  have n66 : hasC (⟨#[]⟩ : Str) 66 = false := rfl
  have n84 : hasC (⟨#[]⟩ : Str) 84 = false := rfl
  have n67 : hasC (⟨#[]⟩ : Str) 67 = false := rfl
  have n78 : hasC (⟨#[]⟩ : Str) 78 = false := rfl
  have HG := Lib.hid hG
  clear hG
  go_enter Tryz.func60, Tryz.ntmps60
  go_wp2_with fail
  refine (OF.out.use HG.out _).mono ?_
  rintro e w1 ⟨rfl, HX1⟩
  have hz1 := box_lt HX1
  have b0 := box_at HX1 0
  have b1 := box_at HX1 1
  have b2 := box_at HX1 2
  have b3 := box_at HX1 3
  have b4 := box_at HX1 4
  have b5 := box_at HX1 5
  simp only [List.getElem?_toArray, List.getElem?_cons_zero, List.getElem?_cons_succ] at b0 b1 b2 b3 b4 b5
  go_wp2_with (go_at_call 112; refine (needs_new _ _ _ _).mono ?_; rintro e w2 ⟨rfl, rfl⟩)
  refine (RG.out _).mono ?_
  rintro e w2 ⟨rfl, hb2⟩
  have HX2 := bel_then (HX1.alloc HX1.size _) hb2
  have HT2 := bel_then ((Below.refl w.heap.size w).alloc (Nat.le_refl _) _) HX2
  clear b0 b1 b2 b3 b4 b5
  have b0 := box_at HX2 0
  have b1 := box_at HX2 1
  have b2 := box_at HX2 2
  have b3 := box_at HX2 3
  have b4 := box_at HX2 4
  have b5 := box_at HX2 5
  simp only [List.getElem?_toArray, List.getElem?_cons_zero, List.getElem?_cons_succ] at b0 b1 b2 b3 b4 b5
  cases rb with
  | false =>
    go_wp2
    go_ret
    exact ep_mk (k := 2) rfl (by decide) rfl HT2
  | true =>
  go_wp2_with fail
  refine (TY.out _).mono ?_
  rintro e w3 ⟨rfl, hb3⟩
  have HX3 := bel_then HX2 hb3
  have HT3 := bel_then ((Below.refl w.heap.size w).alloc (Nat.le_refl _) _) HX3
  have f1 := box_at (bel_then hb2 hb3) 1
  simp only [List.getElem?_toArray, List.getElem?_cons_zero, List.getElem?_cons_succ] at f1
  clear b0 b1 b2 b3 b4 b5
  have b0 := box_at HX3 0
  have b1 := box_at HX3 1
  have b2 := box_at HX3 2
  have b3 := box_at HX3 3
  have b4 := box_at HX3 4
  have b5 := box_at HX3 5
  simp only [List.getElem?_toArray, List.getElem?_cons_zero, List.getElem?_cons_succ] at b0 b1 b2 b3 b4 b5
  cases tb with
  | false =>
    go_wp2
    go_ret
    exact ep_mk (k := 1) rfl (by decide) rfl HT3
  | true =>
  go_wp2_with (go_at_call 112; refine (needs_any _ _ _ _ f1).mono ?_; rintro e w4 ⟨rfl, rfl⟩)
  go_ret
  exact ep_ok rfl rfl HT3

set_option maxRecDepth 100000 in
set_option maxHeartbeats 1000000 in
theorem insCheck_bad0 (i : Nat) (a b : Int) (ty cls nm : Str) (W : Str) (w : World) (hG : FormsLaid w) (OF : Hid (OfC i W ⟨#[]⟩))
    (hS : ¬ a = 0 ∨ ¬ b = 0 ∨ ¬ ty.toList = [] ∨ ¬ cls.toList = [] ∨ ¬ nm.toList = []) :
    Calls Tryz.prog 60 #[.agg #[.int .i64 i, .int .i64 a, .int .i64 b, .string ty, .string cls, .string nm]] w (ErrPost 1 w) := by
  have n65 : hasC (⟨#[]⟩ : Str) 65 = false := rfl
  have n66 : hasC (⟨#[]⟩ : Str) 66 = false := rfl
  have n84 : hasC (⟨#[]⟩ : Str) 84 = false := rfl
  have n67 : hasC (⟨#[]⟩ : Str) 67 = false := rfl
  have n78 : hasC (⟨#[]⟩ : Str) 78 = false := rfl
  have HG := Lib.hid hG
  clear hG
  have HS := Lib.hid hS
  clear hS
  go_enter Tryz.func60, Tryz.ntmps60
  go_wp2_with fail
  refine (OF.out.use HG.out _).mono ?_
  rintro e w1 ⟨rfl, HX1⟩
  have hz1 := box_lt HX1
  have b0 := box_at HX1 0
  have b1 := box_at HX1 1
  have b2 := box_at HX1 2
  have b3 := box_at HX1 3
  have b4 := box_at HX1 4
  have b5 := box_at HX1 5
  simp only [List.getElem?_toArray, List.getElem?_cons_zero, List.getElem?_cons_succ] at b0 b1 b2 b3 b4 b5
  go_wp2_with (go_at_call 112; refine (needs_new _ _ _ _).mono ?_; rintro e w2 ⟨rfl, rfl⟩)
  all_goals first
    | (go_ret; exact ep_mk (k := 1) rfl (by decide) rfl (bel_then ((Below.refl w.heap.size w).alloc (Nat.le_refl _) _) (HX1.alloc HX1.size _)))
    | (exfalso; have hS := HS.out; clear HS OF HG; simp_all)

set_option maxRecDepth 100000 in
set_option maxHeartbeats 1000000 in
theorem insCheck_good1 (i : Nat) (a : Int) (W : Str) (rb tb : Bool) (w : World) (hG : FormsLaid w)  (OF : Hid (OfC i W ⟨#[65]⟩))
    (RG : Hid (∀ w, Calls Tryz.prog 114 #[.agg #[.int .i64 i, .int .i64 a, .int .i64 0, .string ⟨#[]⟩, .string ⟨#[]⟩, .string ⟨#[]⟩]] w (BoolPost rb w)))
    (TY : Hid (∀ w, Calls Tryz.prog 115 #[.agg #[.int .i64 i, .int .i64 a, .int .i64 0, .string ⟨#[]⟩, .string ⟨#[]⟩, .string ⟨#[]⟩]] w (BoolPost tb w))) :
    Calls Tryz.prog 60 #[.agg #[.int .i64 i, .int .i64 a, .int .i64 0, .string ⟨#[]⟩, .string ⟨#[]⟩, .string ⟨#[]⟩]] w (ErrPost (insTail ⟨#[65]⟩ rb tb ⟨#[]⟩ ⟨#[]⟩) w) := by
  have n65 : hasC (⟨#[65]⟩ : Str) 65 = true := rfl
  have n66 : hasC (⟨#[65]⟩ : Str) 66 = false := rfl
  have n84 : hasC (⟨#[65]⟩ : Str) 84 = false := rfl
  have n67 : hasC (⟨#[65]⟩ : Str) 67 = false := rfl
  have n78 : hasC (⟨#[65]⟩ : Str) 78 = false := rfl
  have HG := Lib.hid hG
  clear hG
  go_enter Tryz.func60, Tryz.ntmps60
  go_wp2_with fail
  refine (OF.out.use HG.out _).mono ?_
  rintro e w1 ⟨rfl, HX1⟩
  have hz1 := box_lt HX1
  have b0 := box_at HX1 0
  have b1 := box_at HX1 1
  have b2 := box_at HX1 2
  have b3 := box_at HX1 3
  have b4 := box_at HX1 4
  have b5 := box_at HX1 5
  simp only [List.getElem?_toArray, List.getElem?_cons_zero, List.getElem?_cons_succ] at b0 b1 b2 b3 b4 b5
  go_wp2_with (go_at_call 112; refine (needs_new _ _ _ _).mono ?_; rintro e w2 ⟨rfl, rfl⟩)
  refine (RG.out _).mono ?_
  rintro e w2 ⟨rfl, hb2⟩
  have HX2 := bel_then (HX1.alloc HX1.size _) hb2
  have HT2 := bel_then ((Below.refl w.heap.size w).alloc (Nat.le_refl _) _) HX2
  clear b0 b1 b2 b3 b4 b5
  have b0 := box_at HX2 0
  have b1 := box_at HX2 1
  have b2 := box_at HX2 2
  have b3 := box_at HX2 3
  have b4 := box_at HX2 4
  have b5 := box_at HX2 5
  simp only [List.getElem?_toArray, List.getElem?_cons_zero, List.getElem?_cons_succ] at b0 b1 b2 b3 b4 b5
  cases rb with
  | false =>
    go_wp2
    go_ret
    exact ep_mk (k := 2) rfl (by decide) rfl HT2
  | true =>
  go_wp2_with fail
  refine (TY.out _).mono ?_
  rintro e w3 ⟨rfl, hb3⟩
  have HX3 := bel_then HX2 hb3
  have HT3 := bel_then ((Below.refl w.heap.size w).alloc (Nat.le_refl _) _) HX3
  have f1 := box_at (bel_then hb2 hb3) 1
  simp only [List.getElem?_toArray, List.getElem?_cons_zero, List.getElem?_cons_succ] at f1
  clear b0 b1 b2 b3 b4 b5
  have b0 := box_at HX3 0
  have b1 := box_at HX3 1
  have b2 := box_at HX3 2
  have b3 := box_at HX3 3
  have b4 := box_at HX3 4
  have b5 := box_at HX3 5
  simp only [List.getElem?_toArray, List.getElem?_cons_zero, List.getElem?_cons_succ] at b0 b1 b2 b3 b4 b5
  cases tb with
  | false =>
    go_wp2
    go_ret
    exact ep_mk (k := 1) rfl (by decide) rfl HT3
  | true =>
  go_wp2_with (go_at_call 112; refine (needs_any _ _ _ _ f1).mono ?_; rintro e w4 ⟨rfl, rfl⟩)
  go_ret
  exact ep_ok rfl rfl HT3

set_option maxRecDepth 100000 in
set_option maxHeartbeats 1000000 in
theorem insCheck_bad1 (i : Nat) (a b : Int) (ty cls nm : Str) (W : Str) (w : World) (hG : FormsLaid w) (OF : Hid (OfC i W ⟨#[65]⟩))
    (hS : ¬ b = 0 ∨ ¬ ty.toList = [] ∨ ¬ cls.toList = [] ∨ ¬ nm.toList = []) :
    Calls Tryz.prog 60 #[.agg #[.int .i64 i, .int .i64 a, .int .i64 b, .string ty, .string cls, .string nm]] w (ErrPost 1 w) := by
  have n65 : hasC (⟨#[65]⟩ : Str) 65 = true := rfl
  have n66 : hasC (⟨#[65]⟩ : Str) 66 = false := rfl
  have n84 : hasC (⟨#[65]⟩ : Str) 84 = false := rfl
  have n67 : hasC (⟨#[65]⟩ : Str) 67 = false := rfl
  have n78 : hasC (⟨#[65]⟩ : Str) 78 = false := rfl
  have HG := Lib.hid hG
  clear hG
  have HS := Lib.hid hS
  clear hS
  go_enter Tryz.func60, Tryz.ntmps60
  go_wp2_with fail
  refine (OF.out.use HG.out _).mono ?_
  rintro e w1 ⟨rfl, HX1⟩
  have hz1 := box_lt HX1
  have b0 := box_at HX1 0
  have b1 := box_at HX1 1
  have b2 := box_at HX1 2
  have b3 := box_at HX1 3
  have b4 := box_at HX1 4
  have b5 := box_at HX1 5
  simp only [List.getElem?_toArray, List.getElem?_cons_zero, List.getElem?_cons_succ] at b0 b1 b2 b3 b4 b5
  go_wp2_with (go_at_call 112; refine (needs_new _ _ _ _).mono ?_; rintro e w2 ⟨rfl, rfl⟩)
  all_goals first
    | (go_ret; exact ep_mk (k := 1) rfl (by decide) rfl (bel_then ((Below.refl w.heap.size w).alloc (Nat.le_refl _) _) (HX1.alloc HX1.size _)))
    | (exfalso; have hS := HS.out; clear HS OF HG; simp_all)

set_option maxRecDepth 100000 in
set_option maxHeartbeats 1000000 in
theorem insCheck_good2 (i : Nat) (a : Int) (b : Int) (W : Str) (rb tb : Bool) (w : World) (hG : FormsLaid w)  (OF : Hid (OfC i W ⟨#[65, 66]⟩))
    (RG : Hid (∀ w, Calls Tryz.prog 114 #[.agg #[.int .i64 i, .int .i64 a, .int .i64 b, .string ⟨#[]⟩, .string ⟨#[]⟩, .string ⟨#[]⟩]] w (BoolPost rb w)))
    (TY : Hid (∀ w, Calls Tryz.prog 115 #[.agg #[.int .i64 i, .int .i64 a, .int .i64 b, .string ⟨#[]⟩, .string ⟨#[]⟩, .string ⟨#[]⟩]] w (BoolPost tb w))) :
    Calls Tryz.prog 60 #[.agg #[.int .i64 i, .int .i64 a, .int .i64 b, .string ⟨#[]⟩, .string ⟨#[]⟩, .string ⟨#[]⟩]] w (ErrPost (insTail ⟨#[65, 66]⟩ rb tb ⟨#[]⟩ ⟨#[]⟩) w) := by
  have n65 : hasC (⟨#[65, 66]⟩ : Str) 65 = true := rfl
  have n66 : hasC (⟨#[65, 66]⟩ : Str) 66 = true := rfl
  have n84 : hasC (⟨#[65, 66]⟩ : Str) 84 = false := rfl
  have n67 : hasC (⟨#[65, 66]⟩ : Str) 67 = false := rfl
  have n78 : hasC (⟨#[65, 66]⟩ : Str) 78 = false := rfl
  have HG := Lib.hid hG
  clear hG
  go_enter Tryz.func60, Tryz.ntmps60
  go_wp2_with fail
  refine (OF.out.use HG.out _).mono ?_
  rintro e w1 ⟨rfl, HX1⟩
  have hz1 := box_lt HX1
  have b0 := box_at HX1 0
  have b1 := box_at HX1 1
  have b2 := box_at HX1 2
  have b3 := box_at HX1 3
  have b4 := box_at HX1 4
  have b5 := box_at HX1 5
  simp only [List.getElem?_toArray, List.getElem?_cons_zero, List.getElem?_cons_succ] at b0 b1 b2 b3 b4 b5
  go_wp2_with (go_at_call 112; refine (needs_new _ _ _ _).mono ?_; rintro e w2 ⟨rfl, rfl⟩)
  refine (RG.out _).mono ?_
  rintro e w2 ⟨rfl, hb2⟩
  have HX2 := bel_then (HX1.alloc HX1.size _) hb2
  have HT2 := bel_then ((Below.refl w.heap.size w).alloc (Nat.le_refl _) _) HX2
  clear b0 b1 b2 b3 b4 b5
  have b0 := box_at HX2 0
  have b1 := box_at HX2 1
  have b2 := box_at HX2 2
  have b3 := box_at HX2 3
  have b4 := box_at HX2 4
  have b5 := box_at HX2 5
  simp only [List.getElem?_toArray, List.getElem?_cons_zero, List.getElem?_cons_succ] at b0 b1 b2 b3 b4 b5
  cases rb with
  | false =>
    go_wp2
    go_ret
    exact ep_mk (k := 2) rfl (by decide) rfl HT2
  | true =>
  go_wp2_with fail
  refine (TY.out _).mono ?_
  rintro e w3 ⟨rfl, hb3⟩
  have HX3 := bel_then HX2 hb3
  have HT3 := bel_then ((Below.refl w.heap.size w).alloc (Nat.le_refl _) _) HX3
  have f1 := box_at (bel_then hb2 hb3) 1
  simp only [List.getElem?_toArray, List.getElem?_cons_zero, List.getElem?_cons_succ] at f1
  clear b0 b1 b2 b3 b4 b5
  have b0 := box_at HX3 0
  have b1 := box_at HX3 1
  have b2 := box_at HX3 2
  have b3 := box_at HX3 3
  have b4 := box_at HX3 4
  have b5 := box_at HX3 5
  simp only [List.getElem?_toArray, List.getElem?_cons_zero, List.getElem?_cons_succ] at b0 b1 b2 b3 b4 b5
  cases tb with
  | false =>
    go_wp2
    go_ret
    exact ep_mk (k := 1) rfl (by decide) rfl HT3
  | true =>
  go_wp2_with (go_at_call 112; refine (needs_any _ _ _ _ f1).mono ?_; rintro e w4 ⟨rfl, rfl⟩)
  go_ret
  exact ep_ok rfl rfl HT3

set_option maxRecDepth 100000 in
set_option maxHeartbeats 1000000 in
theorem insCheck_bad2 (i : Nat) (a b : Int) (ty cls nm : Str) (W : Str) (w : World) (hG : FormsLaid w) (OF : Hid (OfC i W ⟨#[65, 66]⟩))
    (hS : ¬ ty.toList = [] ∨ ¬ cls.toList = [] ∨ ¬ nm.toList = []) :
    Calls Tryz.prog 60 #[.agg #[.int .i64 i, .int .i64 a, .int .i64 b, .string ty, .string cls, .string nm]] w (ErrPost 1 w) := by
  have n65 : hasC (⟨#[65, 66]⟩ : Str) 65 = true := rfl
  have n66 : hasC (⟨#[65, 66]⟩ : Str) 66 = true := rfl
  have n84 : hasC (⟨#[65, 66]⟩ : Str) 84 = false := rfl
  have n67 : hasC (⟨#[65, 66]⟩ : Str) 67 = false := rfl
  have n78 : hasC (⟨#[65, 66]⟩ : Str) 78 = false := rfl
  have HG := Lib.hid hG
  clear hG
  have HS := Lib.hid hS
  clear hS
  go_enter Tryz.func60, Tryz.ntmps60
  go_wp2_with fail
  refine (OF.out.use HG.out _).mono ?_
  rintro e w1 ⟨rfl, HX1⟩
  have hz1 := box_lt HX1
  have b0 := box_at HX1 0
  have b1 := box_at HX1 1
  have b2 := box_at HX1 2
  have b3 := box_at HX1 3
  have b4 := box_at HX1 4
  have b5 := box_at HX1 5
  simp only [List.getElem?_toArray, List.getElem?_cons_zero, List.getElem?_cons_succ] at b0 b1 b2 b3 b4 b5
  go_wp2_with (go_at_call 112; refine (needs_new _ _ _ _).mono ?_; rintro e w2 ⟨rfl, rfl⟩)
  all_goals first
    | (go_ret; exact ep_mk (k := 1) rfl (by decide) rfl (bel_then ((Below.refl w.heap.size w).alloc (Nat.le_refl _) _) (HX1.alloc HX1.size _)))
    | (exfalso; have hS := HS.out; clear HS OF HG; simp_all)

set_option maxRecDepth 100000 in
set_option maxHeartbeats 1000000 in
theorem insCheck_good3 (i : Nat) (a : Int) (ty : Str) (W : Str) (rb tb : Bool) (w : World) (hG : FormsLaid w)  (OF : Hid (OfC i W ⟨#[65, 84]⟩))
    (RG : Hid (∀ w, Calls Tryz.prog 114 #[.agg #[.int .i64 i, .int .i64 a, .int .i64 0, .string ty, .string ⟨#[]⟩, .string ⟨#[]⟩]] w (BoolPost rb w)))
    (TY : Hid (∀ w, Calls Tryz.prog 115 #[.agg #[.int .i64 i, .int .i64 a, .int .i64 0, .string ty, .string ⟨#[]⟩, .string ⟨#[]⟩]] w (BoolPost tb w))) :
    Calls Tryz.prog 60 #[.agg #[.int .i64 i, .int .i64 a, .int .i64 0, .string ty, .string ⟨#[]⟩, .string ⟨#[]⟩]] w (ErrPost (insTail ⟨#[65, 84]⟩ rb tb ⟨#[]⟩ ⟨#[]⟩) w) := by
  have n65 : hasC (⟨#[65, 84]⟩ : Str) 65 = true := rfl
  have n66 : hasC (⟨#[65, 84]⟩ : Str) 66 = false := rfl
  have n84 : hasC (⟨#[65, 84]⟩ : Str) 84 = true := rfl
  have n67 : hasC (⟨#[65, 84]⟩ : Str) 67 = false := rfl
  have n78 : hasC (⟨#[65, 84]⟩ : Str) 78 = false := rfl
  have HG := Lib.hid hG
  clear hG
  go_enter Tryz.func60, Tryz.ntmps60
  go_wp2_with fail
  refine (OF.out.use HG.out _).mono ?_
  rintro e w1 ⟨rfl, HX1⟩
  have hz1 := box_lt HX1
  have b0 := box_at HX1 0
  have b1 := box_at HX1 1
  have b2 := box_at HX1 2
  have b3 := box_at HX1 3
  have b4 := box_at HX1 4
  have b5 := box_at HX1 5
  simp only [List.getElem?_toArray, List.getElem?_cons_zero, List.getElem?_cons_succ] at b0 b1 b2 b3 b4 b5
  go_wp2_with (go_at_call 112; refine (needs_new _ _ _ _).mono ?_; rintro e w2 ⟨rfl, rfl⟩)
  refine (RG.out _).mono ?_
  rintro e w2 ⟨rfl, hb2⟩
  have HX2 := bel_then (HX1.alloc HX1.size _) hb2
  have HT2 := bel_then ((Below.refl w.heap.size w).alloc (Nat.le_refl _) _) HX2
  clear b0 b1 b2 b3 b4 b5
  have b0 := box_at HX2 0
  have b1 := box_at HX2 1
  have b2 := box_at HX2 2
  have b3 := box_at HX2 3
  have b4 := box_at HX2 4
  have b5 := box_at HX2 5
  simp only [List.getElem?_toArray, List.getElem?_cons_zero, List.getElem?_cons_succ] at b0 b1 b2 b3 b4 b5
  cases rb with
  | false =>
    go_wp2
    go_ret
    exact ep_mk (k := 2) rfl (by decide) rfl HT2
  | true =>
  go_wp2_with fail
  refine (TY.out _).mono ?_
  rintro e w3 ⟨rfl, hb3⟩
  have HX3 := bel_then HX2 hb3
  have HT3 := bel_then ((Below.refl w.heap.size w).alloc (Nat.le_refl _) _) HX3
  have f1 := box_at (bel_then hb2 hb3) 1
  simp only [List.getElem?_toArray, List.getElem?_cons_zero, List.getElem?_cons_succ] at f1
  clear b0 b1 b2 b3 b4 b5
  have b0 := box_at HX3 0
  have b1 := box_at HX3 1
  have b2 := box_at HX3 2
  have b3 := box_at HX3 3
  have b4 := box_at HX3 4
  have b5 := box_at HX3 5
  simp only [List.getElem?_toArray, List.getElem?_cons_zero, List.getElem?_cons_succ] at b0 b1 b2 b3 b4 b5
  cases tb with
  | false =>
    go_wp2
    go_ret
    exact ep_mk (k := 1) rfl (by decide) rfl HT3
  | true =>
  go_wp2_with (go_at_call 112; refine (needs_any _ _ _ _ f1).mono ?_; rintro e w4 ⟨rfl, rfl⟩)
  go_ret
  exact ep_ok rfl rfl HT3

set_option maxRecDepth 100000 in
set_option maxHeartbeats 1000000 in
theorem insCheck_bad3 (i : Nat) (a b : Int) (ty cls nm : Str) (W : Str) (w : World) (hG : FormsLaid w) (OF : Hid (OfC i W ⟨#[65, 84]⟩))
    (hS : ¬ b = 0 ∨ ¬ cls.toList = [] ∨ ¬ nm.toList = []) :
    Calls Tryz.prog 60 #[.agg #[.int .i64 i, .int .i64 a, .int .i64 b, .string ty, .string cls, .string nm]] w (ErrPost 1 w) := by
  have n65 : hasC (⟨#[65, 84]⟩ : Str) 65 = true := rfl
  have n66 : hasC (⟨#[65, 84]⟩ : Str) 66 = false := rfl
  have n84 : hasC (⟨#[65, 84]⟩ : Str) 84 = true := rfl
  have n67 : hasC (⟨#[65, 84]⟩ : Str) 67 = false := rfl
  have n78 : hasC (⟨#[65, 84]⟩ : Str) 78 = false := rfl
  have HG := Lib.hid hG
  clear hG
  have HS := Lib.hid hS
  clear hS
  go_enter Tryz.func60, Tryz.ntmps60
  go_wp2_with fail
  refine (OF.out.use HG.out _).mono ?_
  rintro e w1 ⟨rfl, HX1⟩
  have hz1 := box_lt HX1
  have b0 := box_at HX1 0
  have b1 := box_at HX1 1
  have b2 := box_at HX1 2
  have b3 := box_at HX1 3
  have b4 := box_at HX1 4
  have b5 := box_at HX1 5
  simp only [List.getElem?_toArray, List.getElem?_cons_zero, List.getElem?_cons_succ] at b0 b1 b2 b3 b4 b5
  go_wp2_with (go_at_call 112; refine (needs_new _ _ _ _).mono ?_; rintro e w2 ⟨rfl, rfl⟩)
  all_goals first
    | (go_ret; exact ep_mk (k := 1) rfl (by decide) rfl (bel_then ((Below.refl w.heap.size w).alloc (Nat.le_refl _) _) (HX1.alloc HX1.size _)))
    | (exfalso; have hS := HS.out; clear HS OF HG; simp_all)

set_option maxRecDepth 100000 in
set_option maxHeartbeats 1000000 in
theorem insCheck_good4 (i : Nat) (ty : Str) (W : Str) (rb tb : Bool) (w : World) (hG : FormsLaid w)  (OF : Hid (OfC i W ⟨#[84]⟩))
    (RG : Hid (∀ w, Calls Tryz.prog 114 #[.agg #[.int .i64 i, .int .i64 0, .int .i64 0, .string ty, .string ⟨#[]⟩, .string ⟨#[]⟩]] w (BoolPost rb w)))
    (TY : Hid (∀ w, Calls Tryz.prog 115 #[.agg #[.int .i64 i, .int .i64 0, .int .i64 0, .string ty, .string ⟨#[]⟩, .string ⟨#[]⟩]] w (BoolPost tb w))) :
    Calls Tryz.prog 60 #[.agg #[.int .i64 i, .int .i64 0, .int .i64 0, .string ty, .string ⟨#[]⟩, .string ⟨#[]⟩]] w (ErrPost (insTail ⟨#[84]⟩ rb tb ⟨#[]⟩ ⟨#[]⟩) w) := by
  have n65 : hasC (⟨#[84]⟩ : Str) 65 = false := rfl
  have n66 : hasC (⟨#[84]⟩ : Str) 66 = false := rfl
  have n84 : hasC (⟨#[84]⟩ : Str) 84 = true := rfl
  have n67 : hasC (⟨#[84]⟩ : Str) 67 = false := rfl
  have n78 : hasC (⟨#[84]⟩ : Str) 78 = false := rfl
  have HG := Lib.hid hG
  clear hG
  go_enter Tryz.func60, Tryz.ntmps60
  go_wp2_with fail
  refine (OF.out.use HG.out _).mono ?_
  rintro e w1 ⟨rfl, HX1⟩
  have hz1 := box_lt HX1
  have b0 := box_at HX1 0
  have b1 := box_at HX1 1
  have b2 := box_at HX1 2
  have b3 := box_at HX1 3
  have b4 := box_at HX1 4
  have b5 := box_at HX1 5
  simp only [List.getElem?_toArray, List.getElem?_cons_zero, List.getElem?_cons_succ] at b0 b1 b2 b3 b4 b5
  go_wp2_with (go_at_call 112; refine (needs_new _ _ _ _).mono ?_; rintro e w2 ⟨rfl, rfl⟩)
  refine (RG.out _).mono ?_
  rintro e w2 ⟨rfl, hb2⟩
  have HX2 := bel_then (HX1.alloc HX1.size _) hb2
  have HT2 := bel_then ((Below.refl w.heap.size w).alloc (Nat.le_refl _) _) HX2
  clear b0 b1 b2 b3 b4 b5
  have b0 := box_at HX2 0
  have b1 := box_at HX2 1
  have b2 := box_at HX2 2
  have b3 := box_at HX2 3
  have b4 := box_at HX2 4
  have b5 := box_at HX2 5
  simp only [List.getElem?_toArray, List.getElem?_cons_zero, List.getElem?_cons_succ] at b0 b1 b2 b3 b4 b5
  cases rb with
  | false =>
    go_wp2
    go_ret
    exact ep_mk (k := 2) rfl (by decide) rfl HT2
  | true =>
  go_wp2_with fail
  refine (TY.out _).mono ?_
  rintro e w3 ⟨rfl, hb3⟩
  have HX3 := bel_then HX2 hb3
  have HT3 := bel_then ((Below.refl w.heap.size w).alloc (Nat.le_refl _) _) HX3
  have f1 := box_at (bel_then hb2 hb3) 1
  simp only [List.getElem?_toArray, List.getElem?_cons_zero, List.getElem?_cons_succ] at f1
  clear b0 b1 b2 b3 b4 b5
  have b0 := box_at HX3 0
  have b1 := box_at HX3 1
  have b2 := box_at HX3 2
  have b3 := box_at HX3 3
  have b4 := box_at HX3 4
  have b5 := box_at HX3 5
  simp only [List.getElem?_toArray, List.getElem?_cons_zero, List.getElem?_cons_succ] at b0 b1 b2 b3 b4 b5
  cases tb with
  | false =>
    go_wp2
    go_ret
    exact ep_mk (k := 1) rfl (by decide) rfl HT3
  | true =>
  go_wp2_with (go_at_call 112; refine (needs_any _ _ _ _ f1).mono ?_; rintro e w4 ⟨rfl, rfl⟩)
  go_ret
  exact ep_ok rfl rfl HT3

set_option maxRecDepth 100000 in
set_option maxHeartbeats 1000000 in
theorem insCheck_bad4 (i : Nat) (a b : Int) (ty cls nm : Str) (W : Str) (w : World) (hG : FormsLaid w) (OF : Hid (OfC i W ⟨#[84]⟩))
    (hS : ¬ a = 0 ∨ ¬ b = 0 ∨ ¬ cls.toList = [] ∨ ¬ nm.toList = []) :
    Calls Tryz.prog 60 #[.agg #[.int .i64 i, .int .i64 a, .int .i64 b, .string ty, .string cls, .string nm]] w (ErrPost 1 w) := by
  have n65 : hasC (⟨#[84]⟩ : Str) 65 = false := rfl
  have n66 : hasC (⟨#[84]⟩ : Str) 66 = false := rfl
  have n84 : hasC (⟨#[84]⟩ : Str) 84 = true := rfl
  have n67 : hasC (⟨#[84]⟩ : Str) 67 = false := rfl
  have n78 : hasC (⟨#[84]⟩ : Str) 78 = false := rfl
  have HG := Lib.hid hG
  clear hG
  have HS := Lib.hid hS
  clear hS
  go_enter Tryz.func60, Tryz.ntmps60
  go_wp2_with fail
  refine (OF.out.use HG.out _).mono ?_
  rintro e w1 ⟨rfl, HX1⟩
  have hz1 := box_lt HX1
  have b0 := box_at HX1 0
  have b1 := box_at HX1 1
  have b2 := box_at HX1 2
  have b3 := box_at HX1 3
  have b4 := box_at HX1 4
  have b5 := box_at HX1 5
  simp only [List.getElem?_toArray, List.getElem?_cons_zero, List.getElem?_cons_succ] at b0 b1 b2 b3 b4 b5
  go_wp2_with (go_at_call 112; refine (needs_new _ _ _ _).mono ?_; rintro e w2 ⟨rfl, rfl⟩)
  all_goals first
    | (go_ret; exact ep_mk (k := 1) rfl (by decide) rfl (bel_then ((Below.refl w.heap.size w).alloc (Nat.le_refl _) _) (HX1.alloc HX1.size _)))
    | (exfalso; have hS := HS.out; clear HS OF HG; simp_all)

set_option maxRecDepth 100000 in
set_option maxHeartbeats 1000000 in
theorem insCheck_good5 (i : Nat) (cls : Str) (W : Str) (rb tb : Bool) (w : World) (hG : FormsLaid w) (hcls : cls.size ≤ 1099511627775) (OF : Hid (OfC i W ⟨#[67]⟩))
    (RG : Hid (∀ w, Calls Tryz.prog 114 #[.agg #[.int .i64 i, .int .i64 0, .int .i64 0, .string ⟨#[]⟩, .string cls, .string ⟨#[]⟩]] w (BoolPost rb w)))
    (TY : Hid (∀ w, Calls Tryz.prog 115 #[.agg #[.int .i64 i, .int .i64 0, .int .i64 0, .string ⟨#[]⟩, .string cls, .string ⟨#[]⟩]] w (BoolPost tb w))) :
    Calls Tryz.prog 60 #[.agg #[.int .i64 i, .int .i64 0, .int .i64 0, .string ⟨#[]⟩, .string cls, .string ⟨#[]⟩]] w (ErrPost (insTail ⟨#[67]⟩ rb tb cls ⟨#[]⟩) w) := by
  have n65 : hasC (⟨#[67]⟩ : Str) 65 = false := rfl
  have n66 : hasC (⟨#[67]⟩ : Str) 66 = false := rfl
  have n84 : hasC (⟨#[67]⟩ : Str) 84 = false := rfl
  have n67 : hasC (⟨#[67]⟩ : Str) 67 = true := rfl
  have n78 : hasC (⟨#[67]⟩ : Str) 78 = false := rfl
  have HG := Lib.hid hG
  clear hG
  go_enter Tryz.func60, Tryz.ntmps60
  go_wp2_with fail
  refine (OF.out.use HG.out _).mono ?_
  rintro e w1 ⟨rfl, HX1⟩
  have hz1 := box_lt HX1
  have b0 := box_at HX1 0
  have b1 := box_at HX1 1
  have b2 := box_at HX1 2
  have b3 := box_at HX1 3
  have b4 := box_at HX1 4
  have b5 := box_at HX1 5
  simp only [List.getElem?_toArray, List.getElem?_cons_zero, List.getElem?_cons_succ] at b0 b1 b2 b3 b4 b5
  go_wp2_with (go_at_call 112; refine (needs_new _ _ _ _).mono ?_; rintro e w2 ⟨rfl, rfl⟩)
  refine (RG.out _).mono ?_
  rintro e w2 ⟨rfl, hb2⟩
  have HX2 := bel_then (HX1.alloc HX1.size _) hb2
  have HT2 := bel_then ((Below.refl w.heap.size w).alloc (Nat.le_refl _) _) HX2
  clear b0 b1 b2 b3 b4 b5
  have b0 := box_at HX2 0
  have b1 := box_at HX2 1
  have b2 := box_at HX2 2
  have b3 := box_at HX2 3
  have b4 := box_at HX2 4
  have b5 := box_at HX2 5
  simp only [List.getElem?_toArray, List.getElem?_cons_zero, List.getElem?_cons_succ] at b0 b1 b2 b3 b4 b5
  cases rb with
  | false =>
    go_wp2
    go_ret
    exact ep_mk (k := 2) rfl (by decide) rfl HT2
  | true =>
  go_wp2_with fail
  refine (TY.out _).mono ?_
  rintro e w3 ⟨rfl, hb3⟩
  have HX3 := bel_then HX2 hb3
  have HT3 := bel_then ((Below.refl w.heap.size w).alloc (Nat.le_refl _) _) HX3
  have f1 := box_at (bel_then hb2 hb3) 1
  simp only [List.getElem?_toArray, List.getElem?_cons_zero, List.getElem?_cons_succ] at f1
  clear b0 b1 b2 b3 b4 b5
  have b0 := box_at HX3 0
  have b1 := box_at HX3 1
  have b2 := box_at HX3 2
  have b3 := box_at HX3 3
  have b4 := box_at HX3 4
  have b5 := box_at HX3 5
  simp only [List.getElem?_toArray, List.getElem?_cons_zero, List.getElem?_cons_succ] at b0 b1 b2 b3 b4 b5
  cases tb with
  | false =>
    go_wp2
    go_ret
    exact ep_mk (k := 1) rfl (by decide) rfl HT3
  | true =>
  go_wp2_with (go_at_call 112; refine (needs_any _ _ _ _ f1).mono ?_; rintro e w4 ⟨rfl, rfl⟩)
  refine (nameCheck _ _ (by omega)).mono ?_
  rintro e w4 ⟨rfl, hb4⟩
  have HX4 := bel_then HX3 hb4
  have HT4 := bel_then ((Below.refl w.heap.size w).alloc (Nat.le_refl _) _) HX4
  have f2 := box_at (bel_then hb2 (bel_then hb3 hb4)) 1
  simp only [List.getElem?_toArray, List.getElem?_cons_zero, List.getElem?_cons_succ] at f2
  clear b0 b1 b2 b3 b4 b5 f1
  have b0 := box_at HX4 0
  have b1 := box_at HX4 1
  have b2 := box_at HX4 2
  have b3 := box_at HX4 3
  have b4 := box_at HX4 4
  have b5 := box_at HX4 5
  simp only [List.getElem?_toArray, List.getElem?_cons_zero, List.getElem?_cons_succ] at b0 b1 b2 b3 b4 b5
  cases hc : isName cls
  · rw [show nameErr cls = 1 by unfold nameErr; rw [hc]; rfl, errV_ne (by decide)]
    have HI : Hid (insTail ⟨#[67]⟩ true true cls ⟨#[]⟩ = 1) := by apply Lib.hid; unfold insTail; simp [n67, hc]
    clear hc
    go_wp2_with fail
    go_ret
    exact ep_mk (k := 1) HI.out (by decide) rfl HT4
  rw [show nameErr cls = 0 by unfold nameErr; rw [hc]; rfl, errV_0]
  have HI : Hid (insTail ⟨#[67]⟩ true true cls ⟨#[]⟩ = 0) := by apply Lib.hid; unfold insTail; simp [n67, n78, hc]
  clear hc
  go_wp2_with (go_at_call 112; refine (needs_any _ _ _ _ f2).mono ?_; rintro e w4 ⟨rfl, rfl⟩)
  go_ret
  exact ep_ok HI.out rfl HT4

set_option maxRecDepth 100000 in
set_option maxHeartbeats 1000000 in
theorem insCheck_bad5 (i : Nat) (a b : Int) (ty cls nm : Str) (W : Str) (w : World) (hG : FormsLaid w) (OF : Hid (OfC i W ⟨#[67]⟩))
    (hS : ¬ a = 0 ∨ ¬ b = 0 ∨ ¬ ty.toList = [] ∨ ¬ nm.toList = []) :
    Calls Tryz.prog 60 #[.agg #[.int .i64 i, .int .i64 a, .int .i64 b, .string ty, .string cls, .string nm]] w (ErrPost 1 w) := by
  have n65 : hasC (⟨#[67]⟩ : Str) 65 = false := rfl
  have n66 : hasC (⟨#[67]⟩ : Str) 66 = false := rfl
  have n84 : hasC (⟨#[67]⟩ : Str) 84 = false := rfl
  have n67 : hasC (⟨#[67]⟩ : Str) 67 = true := rfl
  have n78 : hasC (⟨#[67]⟩ : Str) 78 = false := rfl
  have HG := Lib.hid hG
  clear hG
  have HS := Lib.hid hS
  clear hS
  go_enter Tryz.func60, Tryz.ntmps60
  go_wp2_with fail
  refine (OF.out.use HG.out _).mono ?_
  rintro e w1 ⟨rfl, HX1⟩
  have hz1 := box_lt HX1
  have b0 := box_at HX1 0
  have b1 := box_at HX1 1
  have b2 := box_at HX1 2
  have b3 := box_at HX1 3
  have b4 := box_at HX1 4
  have b5 := box_at HX1 5
  simp only [List.getElem?_toArray, List.getElem?_cons_zero, List.getElem?_cons_succ] at b0 b1 b2 b3 b4 b5
  go_wp2_with (go_at_call 112; refine (needs_new _ _ _ _).mono ?_; rintro e w2 ⟨rfl, rfl⟩)
  all_goals first
    | (go_ret; exact ep_mk (k := 1) rfl (by decide) rfl (bel_then ((Below.refl w.heap.size w).alloc (Nat.le_refl _) _) (HX1.alloc HX1.size _)))
    | (exfalso; have hS := HS.out; clear HS OF HG; simp_all)

set_option maxRecDepth 100000 in
set_option maxHeartbeats 1000000 in
theorem insCheck_good6 (i : Nat) (cls : Str) (nm : Str) (W : Str) (rb tb : Bool) (w : World) (hG : FormsLaid w) (hcls : cls.size ≤ 1099511627775) (hnm : nm.size ≤ 1099511627775) (OF : Hid (OfC i W ⟨#[67, 78]⟩))
    (RG : Hid (∀ w, Calls Tryz.prog 114 #[.agg #[.int .i64 i, .int .i64 0, .int .i64 0, .string ⟨#[]⟩, .string cls, .string nm]] w (BoolPost rb w)))
    (TY : Hid (∀ w, Calls Tryz.prog 115 #[.agg #[.int .i64 i, .int .i64 0, .int .i64 0, .string ⟨#[]⟩, .string cls, .string nm]] w (BoolPost tb w))) :
    Calls Tryz.prog 60 #[.agg #[.int .i64 i, .int .i64 0, .int .i64 0, .string ⟨#[]⟩, .string cls, .string nm]] w (ErrPost (insTail ⟨#[67, 78]⟩ rb tb cls nm) w) := by
  have n65 : hasC (⟨#[67, 78]⟩ : Str) 65 = false := rfl
  have n66 : hasC (⟨#[67, 78]⟩ : Str) 66 = false := rfl
  have n84 : hasC (⟨#[67, 78]⟩ : Str) 84 = false := rfl
  have n67 : hasC (⟨#[67, 78]⟩ : Str) 67 = true := rfl
  have n78 : hasC (⟨#[67, 78]⟩ : Str) 78 = true := rfl
  have HG := Lib.hid hG
  clear hG
  go_enter Tryz.func60, Tryz.ntmps60
  go_wp2_with fail
  refine (OF.out.use HG.out _).mono ?_
  rintro e w1 ⟨rfl, HX1⟩
  have hz1 := box_lt HX1
  have b0 := box_at HX1 0
  have b1 := box_at HX1 1
  have b2 := box_at HX1 2
  have b3 := box_at HX1 3
  have b4 := box_at HX1 4
  have b5 := box_at HX1 5
  simp only [List.getElem?_toArray, List.getElem?_cons_zero, List.getElem?_cons_succ] at b0 b1 b2 b3 b4 b5
  go_wp2_with (go_at_call 112; refine (needs_new _ _ _ _).mono ?_; rintro e w2 ⟨rfl, rfl⟩)
  refine (RG.out _).mono ?_
  rintro e w2 ⟨rfl, hb2⟩
  have HX2 := bel_then (HX1.alloc HX1.size _) hb2
  have HT2 := bel_then ((Below.refl w.heap.size w).alloc (Nat.le_refl _) _) HX2
  clear b0 b1 b2 b3 b4 b5
  have b0 := box_at HX2 0
  have b1 := box_at HX2 1
  have b2 := box_at HX2 2
  have b3 := box_at HX2 3
  have b4 := box_at HX2 4
  have b5 := box_at HX2 5
  simp only [List.getElem?_toArray, List.getElem?_cons_zero, List.getElem?_cons_succ] at b0 b1 b2 b3 b4 b5
  cases rb with
  | false =>
    go_wp2
    go_ret
    exact ep_mk (k := 2) rfl (by decide) rfl HT2
  | true =>
  go_wp2_with fail
  refine (TY.out _).mono ?_
  rintro e w3 ⟨rfl, hb3⟩
  have HX3 := bel_then HX2 hb3
  have HT3 := bel_then ((Below.refl w.heap.size w).alloc (Nat.le_refl _) _) HX3
  have f1 := box_at (bel_then hb2 hb3) 1
  simp only [List.getElem?_toArray, List.getElem?_cons_zero, List.getElem?_cons_succ] at f1
  clear b0 b1 b2 b3 b4 b5
  have b0 := box_at HX3 0
  have b1 := box_at HX3 1
  have b2 := box_at HX3 2
  have b3 := box_at HX3 3
  have b4 := box_at HX3 4
  have b5 := box_at HX3 5
  simp only [List.getElem?_toArray, List.getElem?_cons_zero, List.getElem?_cons_succ] at b0 b1 b2 b3 b4 b5
  cases tb with
  | false =>
    go_wp2
    go_ret
    exact ep_mk (k := 1) rfl (by decide) rfl HT3
  | true =>
  go_wp2_with (go_at_call 112; refine (needs_any _ _ _ _ f1).mono ?_; rintro e w4 ⟨rfl, rfl⟩)
  refine (nameCheck _ _ (by omega)).mono ?_
  rintro e w4 ⟨rfl, hb4⟩
  have HX4 := bel_then HX3 hb4
  have HT4 := bel_then ((Below.refl w.heap.size w).alloc (Nat.le_refl _) _) HX4
  have f2 := box_at (bel_then hb2 (bel_then hb3 hb4)) 1
  simp only [List.getElem?_toArray, List.getElem?_cons_zero, List.getElem?_cons_succ] at f2
  clear b0 b1 b2 b3 b4 b5 f1
  have b0 := box_at HX4 0
  have b1 := box_at HX4 1
  have b2 := box_at HX4 2
  have b3 := box_at HX4 3
  have b4 := box_at HX4 4
  have b5 := box_at HX4 5
  simp only [List.getElem?_toArray, List.getElem?_cons_zero, List.getElem?_cons_succ] at b0 b1 b2 b3 b4 b5
  cases hc : isName cls
  · rw [show nameErr cls = 1 by unfold nameErr; rw [hc]; rfl, errV_ne (by decide)]
    have HI : Hid (insTail ⟨#[67, 78]⟩ true true cls nm = 1) := by apply Lib.hid; unfold insTail; simp [n67, hc]
    clear hc
    go_wp2_with fail
    go_ret
    exact ep_mk (k := 1) HI.out (by decide) rfl HT4
  rw [show nameErr cls = 0 by unfold nameErr; rw [hc]; rfl, errV_0]
  have HC := Lib.hid hc
  clear hc
  go_wp2_with (go_at_call 112; refine (needs_any _ _ _ _ f2).mono ?_; rintro e w4 ⟨rfl, rfl⟩)
  refine (nameCheck _ _ (by omega)).mono ?_
  rintro e w5 ⟨rfl, hb5⟩
  have HT5 := bel_then HT4 hb5
  cases hn : isName nm
  · rw [show nameErr nm = 1 by unfold nameErr; rw [hn]; rfl, errV_ne (by decide)]
    have HI : Hid (insTail ⟨#[67, 78]⟩ true true cls nm = 1) := by apply Lib.hid; unfold insTail; simp [n67, n78, HC.out, hn]
    clear hn
    go_wp2_with fail
    go_ret
    exact ep_mk (k := 1) HI.out (by decide) rfl HT5
  · rw [show nameErr nm = 0 by unfold nameErr; rw [hn]; rfl, errV_0]
    have HI : Hid (insTail ⟨#[67, 78]⟩ true true cls nm = 0) := by apply Lib.hid; unfold insTail; simp [n67, n78, HC.out, hn]
    clear hn
    go_wp2_with fail
    go_ret
    exact ep_ok HI.out rfl HT5

set_option maxRecDepth 100000 in
set_option maxHeartbeats 1000000 in
theorem insCheck_bad6 (i : Nat) (a b : Int) (ty cls nm : Str) (W : Str) (w : World) (hG : FormsLaid w) (OF : Hid (OfC i W ⟨#[67, 78]⟩))
    (hS : ¬ a = 0 ∨ ¬ b = 0 ∨ ¬ ty.toList = []) :
    Calls Tryz.prog 60 #[.agg #[.int .i64 i, .int .i64 a, .int .i64 b, .string ty, .string cls, .string nm]] w (ErrPost 1 w) := by
  have n65 : hasC (⟨#[67, 78]⟩ : Str) 65 = false := rfl
  have n66 : hasC (⟨#[67, 78]⟩ : Str) 66 = false := rfl
  have n84 : hasC (⟨#[67, 78]⟩ : Str) 84 = false := rfl
  have n67 : hasC (⟨#[67, 78]⟩ : Str) 67 = true := rfl
  have n78 : hasC (⟨#[67, 78]⟩ : Str) 78 = true := rfl
  have HG := Lib.hid hG
  clear hG
  have HS := Lib.hid hS
  clear hS
  go_enter Tryz.func60, Tryz.ntmps60
  go_wp2_with fail
  refine (OF.out.use HG.out _).mono ?_
  rintro e w1 ⟨rfl, HX1⟩
  have hz1 := box_lt HX1
  have b0 := box_at HX1 0
  have b1 := box_at HX1 1
  have b2 := box_at HX1 2
  have b3 := box_at HX1 3
  have b4 := box_at HX1 4
  have b5 := box_at HX1 5
  simp only [List.getElem?_toArray, List.getElem?_cons_zero, List.getElem?_cons_succ] at b0 b1 b2 b3 b4 b5
  go_wp2_with (go_at_call 112; refine (needs_new _ _ _ _).mono ?_; rintro e w2 ⟨rfl, rfl⟩)
  all_goals first
    | (go_ret; exact ep_mk (k := 1) rfl (by decide) rfl (bel_then ((Below.refl w.heap.size w).alloc (Nat.le_refl _) _) (HX1.alloc HX1.size _)))
    | (exfalso; have hS := HS.out; clear HS OF HG; simp_all)

set_option maxRecDepth 100000 in
set_option maxHeartbeats 1000000 in
theorem insCheck_good7 (i : Nat) (ty : Str) (cls : Str) (nm : Str) (W : Str) (rb tb : Bool) (w : World) (hG : FormsLaid w) (hcls : cls.size ≤ 1099511627775) (hnm : nm.size ≤ 1099511627775) (OF : Hid (OfC i W ⟨#[84, 67, 78]⟩))
    (RG : Hid (∀ w, Calls Tryz.prog 114 #[.agg #[.int .i64 i, .int .i64 0, .int .i64 0, .string ty, .string cls, .string nm]] w (BoolPost rb w)))
    (TY : Hid (∀ w, Calls Tryz.prog 115 #[.agg #[.int .i64 i, .int .i64 0, .int .i64 0, .string ty, .string cls, .string nm]] w (BoolPost tb w))) :
    Calls Tryz.prog 60 #[.agg #[.int .i64 i, .int .i64 0, .int .i64 0, .string ty, .string cls, .string nm]] w (ErrPost (insTail ⟨#[84, 67, 78]⟩ rb tb cls nm) w) := by
  have n65 : hasC (⟨#[84, 67, 78]⟩ : Str) 65 = false := rfl
  have n66 : hasC (⟨#[84, 67, 78]⟩ : Str) 66 = false := rfl
  have n84 : hasC (⟨#[84, 67, 78]⟩ : Str) 84 = true := rfl
  have n67 : hasC (⟨#[84, 67, 78]⟩ : Str) 67 = true := rfl
  have n78 : hasC (⟨#[84, 67, 78]⟩ : Str) 78 = true := rfl
  have HG := Lib.hid hG
  clear hG
  go_enter Tryz.func60, Tryz.ntmps60
  go_wp2_with fail
  refine (OF.out.use HG.out _).mono ?_
  rintro e w1 ⟨rfl, HX1⟩
  have hz1 := box_lt HX1
  have b0 := box_at HX1 0
  have b1 := box_at HX1 1
  have b2 := box_at HX1 2
  have b3 := box_at HX1 3
  have b4 := box_at HX1 4
  have b5 := box_at HX1 5
  simp only [List.getElem?_toArray, List.getElem?_cons_zero, List.getElem?_cons_succ] at b0 b1 b2 b3 b4 b5
  go_wp2_with (go_at_call 112; refine (needs_new _ _ _ _).mono ?_; rintro e w2 ⟨rfl, rfl⟩)
  refine (RG.out _).mono ?_
  rintro e w2 ⟨rfl, hb2⟩
  have HX2 := bel_then (HX1.alloc HX1.size _) hb2
  have HT2 := bel_then ((Below.refl w.heap.size w).alloc (Nat.le_refl _) _) HX2
  clear b0 b1 b2 b3 b4 b5
  have b0 := box_at HX2 0
  have b1 := box_at HX2 1
  have b2 := box_at HX2 2
  have b3 := box_at HX2 3
  have b4 := box_at HX2 4
  have b5 := box_at HX2 5
  simp only [List.getElem?_toArray, List.getElem?_cons_zero, List.getElem?_cons_succ] at b0 b1 b2 b3 b4 b5
  cases rb with
  | false =>
    go_wp2
    go_ret
    exact ep_mk (k := 2) rfl (by decide) rfl HT2
  | true =>
  go_wp2_with fail
  refine (TY.out _).mono ?_
  rintro e w3 ⟨rfl, hb3⟩
  have HX3 := bel_then HX2 hb3
  have HT3 := bel_then ((Below.refl w.heap.size w).alloc (Nat.le_refl _) _) HX3
  have f1 := box_at (bel_then hb2 hb3) 1
  simp only [List.getElem?_toArray, List.getElem?_cons_zero, List.getElem?_cons_succ] at f1
  clear b0 b1 b2 b3 b4 b5
  have b0 := box_at HX3 0
  have b1 := box_at HX3 1
  have b2 := box_at HX3 2
  have b3 := box_at HX3 3
  have b4 := box_at HX3 4
  have b5 := box_at HX3 5
  simp only [List.getElem?_toArray, List.getElem?_cons_zero, List.getElem?_cons_succ] at b0 b1 b2 b3 b4 b5
  cases tb with
  | false =>
    go_wp2
    go_ret
    exact ep_mk (k := 1) rfl (by decide) rfl HT3
  | true =>
  go_wp2_with (go_at_call 112; refine (needs_any _ _ _ _ f1).mono ?_; rintro e w4 ⟨rfl, rfl⟩)
  refine (nameCheck _ _ (by omega)).mono ?_
  rintro e w4 ⟨rfl, hb4⟩
  have HX4 := bel_then HX3 hb4
  have HT4 := bel_then ((Below.refl w.heap.size w).alloc (Nat.le_refl _) _) HX4
  have f2 := box_at (bel_then hb2 (bel_then hb3 hb4)) 1
  simp only [List.getElem?_toArray, List.getElem?_cons_zero, List.getElem?_cons_succ] at f2
  clear b0 b1 b2 b3 b4 b5 f1
  have b0 := box_at HX4 0
  have b1 := box_at HX4 1
  have b2 := box_at HX4 2
  have b3 := box_at HX4 3
  have b4 := box_at HX4 4
  have b5 := box_at HX4 5
  simp only [List.getElem?_toArray, List.getElem?_cons_zero, List.getElem?_cons_succ] at b0 b1 b2 b3 b4 b5
  cases hc : isName cls
  · rw [show nameErr cls = 1 by unfold nameErr; rw [hc]; rfl, errV_ne (by decide)]
    have HI : Hid (insTail ⟨#[84, 67, 78]⟩ true true cls nm = 1) := by apply Lib.hid; unfold insTail; simp [n67, hc]
    clear hc
    go_wp2_with fail
    go_ret
    exact ep_mk (k := 1) HI.out (by decide) rfl HT4
  rw [show nameErr cls = 0 by unfold nameErr; rw [hc]; rfl, errV_0]
  have HC := Lib.hid hc
  clear hc
  go_wp2_with (go_at_call 112; refine (needs_any _ _ _ _ f2).mono ?_; rintro e w4 ⟨rfl, rfl⟩)
  refine (nameCheck _ _ (by omega)).mono ?_
  rintro e w5 ⟨rfl, hb5⟩
  have HT5 := bel_then HT4 hb5
  cases hn : isName nm
  · rw [show nameErr nm = 1 by unfold nameErr; rw [hn]; rfl, errV_ne (by decide)]
    have HI : Hid (insTail ⟨#[84, 67, 78]⟩ true true cls nm = 1) := by apply Lib.hid; unfold insTail; simp [n67, n78, HC.out, hn]
    clear hn
    go_wp2_with fail
    go_ret
    exact ep_mk (k := 1) HI.out (by decide) rfl HT5
  · rw [show nameErr nm = 0 by unfold nameErr; rw [hn]; rfl, errV_0]
    have HI : Hid (insTail ⟨#[84, 67, 78]⟩ true true cls nm = 0) := by apply Lib.hid; unfold insTail; simp [n67, n78, HC.out, hn]
    clear hn
    go_wp2_with fail
    go_ret
    exact ep_ok HI.out rfl HT5

set_option maxRecDepth 100000 in
set_option maxHeartbeats 1000000 in
theorem insCheck_bad7 (i : Nat) (a b : Int) (ty cls nm : Str) (W : Str) (w : World) (hG : FormsLaid w) (OF : Hid (OfC i W ⟨#[84, 67, 78]⟩))
    (hS : ¬ a = 0 ∨ ¬ b = 0) :
    Calls Tryz.prog 60 #[.agg #[.int .i64 i, .int .i64 a, .int .i64 b, .string ty, .string cls, .string nm]] w (ErrPost 1 w) := by
  have n65 : hasC (⟨#[84, 67, 78]⟩ : Str) 65 = false := rfl
  have n66 : hasC (⟨#[84, 67, 78]⟩ : Str) 66 = false := rfl
  have n84 : hasC (⟨#[84, 67, 78]⟩ : Str) 84 = true := rfl
  have n67 : hasC (⟨#[84, 67, 78]⟩ : Str) 67 = true := rfl
  have n78 : hasC (⟨#[84, 67, 78]⟩ : Str) 78 = true := rfl
  have HG := Lib.hid hG
  clear hG
  have HS := Lib.hid hS
  clear hS
  go_enter Tryz.func60, Tryz.ntmps60
  go_wp2_with fail
  refine (OF.out.use HG.out _).mono ?_
  rintro e w1 ⟨rfl, HX1⟩
  have hz1 := box_lt HX1
  have b0 := box_at HX1 0
  have b1 := box_at HX1 1
  have b2 := box_at HX1 2
  have b3 := box_at HX1 3
  have b4 := box_at HX1 4
  have b5 := box_at HX1 5
  simp only [List.getElem?_toArray, List.getElem?_cons_zero, List.getElem?_cons_succ] at b0 b1 b2 b3 b4 b5
  go_wp2_with (go_at_call 112; refine (needs_new _ _ _ _).mono ?_; rintro e w2 ⟨rfl, rfl⟩)
  all_goals first
    | (go_ret; exact ep_mk (k := 1) rfl (by decide) rfl (bel_then ((Below.refl w.heap.size w).alloc (Nat.le_refl _) _) (HX1.alloc HX1.size _)))
    | (exfalso; have hS := HS.out; clear HS OF HG; simp_all)

end Go.Proofs.YthcjjjpcjjondaaGreatDoor
