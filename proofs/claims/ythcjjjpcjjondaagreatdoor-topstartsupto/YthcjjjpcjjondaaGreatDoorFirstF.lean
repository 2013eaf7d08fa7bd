/- check.First: the first frame of a method. -/
import Derived.Test.YthcjjjpcjjondaaGreatDoorLookB
namespace Go.Proofs.YthcjjjpcjjondaaGreatDoor
open Go.RowKit
set_option linter.unusedVariables false
set_option linter.unusedSimpArgs false
set_option linter.unnecessarySimpa false

def thing (c : Str) : Str := ⟨#[76]⟩ ++ c ++ ⟨#[59]⟩
def fillT (n : Nat) (xs : List Str) : List Str := xs ++ List.replicate (n - xs.length) sT
def firstLocals (cls : Str) (m : Meth) (args : List Str) : List Str := fillT m.locals.toNat ((if m.static then [] else [thing cls]) ++ args)
def FirstFPost (ls : List Str) (gives : Str) (w : World) (e : Ending) (w' : World) : Prop :=
  ∃ lv, e = .returned (.tuple #[.agg #[lv, nilSl], .string gives]) ∧ w'.ownsRow w.heap.size 9 1 lv ls.length (strCells ls) ∧ Below w.heap.size w w'
/-- First's state: its frame's block, the method's box, the result's cell. -/
def FSt (w : World) (fb : Nat) (m : Meth) (cv hv : Value) (xs : List Str) (v : Value) (wr : World) : Prop :=
  wr.heap[fb]? = some (.cells #[v, .slice none 0 0] 163 (0, 0)) ∧ wr.heap[w.heap.size]? = some (.cells #[.string m.nm, .string m.ty, .bool true, .bool m.abstract, .bool m.priv, .int .i64 m.locals, cv, hv] 44 (0, 0)) ∧
  wr.heap[w.heap.size + 1]? = some (.cells #[.slice none 0 0, .slice none 0 0] 163 (0, 0)) ∧ wr.ownsRow w.heap.size 9 1 v xs.length (strCells xs) ∧ Below w.heap.size w wr
theorem FSt.set {w wr : World} {fb : Nat} {m : Meth} {cv hv v0 v : Value} {xs : List Str} (h1 : wr.heap[fb]? = some (.cells #[v0, .slice none 0 0] 163 (0, 0)))
    (h2 : wr.heap[w.heap.size]? = some (.cells #[.string m.nm, .string m.ty, .bool true, .bool m.abstract, .bool m.priv, .int .i64 m.locals, cv, hv] 44 (0, 0)))
    (h3 : wr.heap[w.heap.size + 1]? = some (.cells #[.slice none 0 0, .slice none 0 0] 163 (0, 0))) (h4 : wr.ownsRow w.heap.size 9 1 v xs.length (strCells xs)) (h5 : Below w.heap.size w wr) (h6 : w.heap.size ≤ fb) (h7 : fb ≠ w.heap.size) (h8 : fb ≠ w.heap.size + 1) :
    FSt w fb m cv hv xs v (wr.setCell ⟨fb, 0, none⟩ v) := by
  refine ⟨by simp [World.setCell, Array.getElem?_modify, h1], ?_, ?_, ownsRow_setCell_other h4 (a := ⟨fb, 0, none⟩) (own_ne_tag h4 h1 (by decide)) _, h5.setCell h6 _⟩
  · rw [← h2]; simp [World.setCell, Array.getElem?_modify, h7]
  · rw [← h3]; simp [World.setCell, Array.getElem?_modify, h8]
theorem fillT_step {n : Nat} {xs : List Str} (h : xs.length < n) : fillT n xs = fillT n (xs ++ [⟨#[84]⟩]) := by
  unfold fillT
  obtain ⟨k, hk⟩ : ∃ k, n - xs.length = k + 1 := ⟨n - xs.length - 1, by omega⟩
  rw [hk, List.replicate_succ, List.length_append, List.length_singleton, show n - (xs.length + 1) = k by omega, List.append_assoc]
  rfl
theorem fillT_end {n : Nat} {xs : List Str} (h : n ≤ xs.length) : fillT n xs = xs := by
  unfold fillT
  rw [show n - xs.length = 0 by omega]; simp
theorem two_new (w : World) (o0 o1 : Obj) : ((w.alloc o0).alloc o1).heap[w.heap.size]? = some o0 ∧ ((w.alloc o0).alloc o1).heap[w.heap.size + 1]? = some o1 ∧ ((w.alloc o0).alloc o1).heap.size = w.heap.size + 1 + 1 ∧ Below w.heap.size w ((w.alloc o0).alloc o1) := by
  refine ⟨?_, ?_, by simp, ((Below.refl w.heap.size w).alloc (Nat.le_refl _) _).alloc (by simp) _⟩
  all_goals
    show ((w.heap.push o0).push o1)[_]? = _
    simp only [Array.getElem?_push, Array.size_push]
    repeat (first | rfl | rw [if_neg (by omega)] | rw [if_pos rfl])
set_option maxRecDepth 100000 in
set_option maxHeartbeats 4000000 in
theorem firstF_static (cls : Str) (m : Meth) (cv hv : Value) (args : List Str) (gives : Str) (w : World) (hm : methodOf m.ty = some (args, gives)) (hst : m.static = true) (hlo : m.locals ≤ 1048576) (hal : args.length ≤ 1048576) (hz : m.ty.size ≤ 1099511627775) (hcv : ∃ A n c, cv = .slice A n c) (hhv : ∃ A n c, hv = .slice A n c) :
    Calls Tryz.prog 90 #[.string cls, methV m cv hv] w (FirstFPost (firstLocals cls m args) gives w) := by
  obtain ⟨cA, cn, cc, rfl⟩ := hcv
  obtain ⟨hA, hn, hc, rfl⟩ := hhv
  have HM := Lib.hid hm
  have HFL : Hid (firstLocals cls m args = fillT m.locals.toNat args) := by apply Lib.hid; unfold firstLocals; rw [hst]; rfl
  have HST := Lib.hid hst
  unfold methV methA
  rw [hst]
  clear hm hst
  obtain ⟨hX, hO, hzz, hb⟩ := two_new w (.cells #[.string m.nm, .string m.ty, .bool true, .bool m.abstract, .bool m.priv, .int .i64 m.locals, .slice cA cn cc, .slice hA hn hc] 44) (.cells #[.slice none 0 0, .slice none 0 0] 163)
  have HX := Lib.hid hX
  have HO := Lib.hid hO
  have HZ := Lib.hid hzz
  have HB := Lib.hid hb
  clear hX hO hzz hb
  go_enter Tryz.func90, Tryz.ntmps90
  go_wp2_with fail
  generalize (w.alloc _).alloc _ = W1 at *
  refine (method_any m.ty _ (by omega)).mono ?_
  rintro e w2 ⟨hres, hb2⟩
  rw [HM.out] at hres
  obtain ⟨lv, rfl, hown⟩ := hres
  obtain ⟨lA, lc, rfl, hl1, hl2⟩ := (own_strs hown).form
  rw [errV_0]
  have hlt : w.heap.size + 1 < W1.heap.size := by have := HZ.out; omega
  have hX2 := (hb2.block w.heap.size (by omega)).trans HX.out
  have hO2 := (hb2.block (w.heap.size + 1) hlt).trans HO.out
  have x2 := cell_of (j := 2) hX2
  have x5 := cell_of (j := 5) hX2
  simp only [List.getElem?_toArray, List.getElem?_cons_zero, List.getElem?_cons_succ] at x2 x5
  have HX2 := Lib.hid hX2
  have HO2 := Lib.hid hO2
  have HB2 : Hid (Below w.heap.size w w2) := Lib.hid (bel_then HB.out hb2)
  have HW := Lib.hid (own_lower hown HB.out.size)
  have hlt2 : w.heap.size + 1 < w2.heap.size := Nat.lt_of_lt_of_le hlt hb2.size
  clear hX2 hO2 hb2 hown HX HO HB
  go_upto_region 5 with (fail)
  have hb3 := HB2.out.alloc HB2.out.size (.cells #[.slice none 0 0, .slice none 0 0] 163)
  have hw3 := own_below HW.out ((Below.refl w2.heap.size w2).alloc (Nat.le_refl _) (.cells #[.slice none 0 0, .slice none 0 0] 163))
  have hF3 : (w2.alloc (.cells #[.slice none 0 0, .slice none 0 0] 163)).heap[w2.heap.size]? = some (.cells #[.slice none 0 0, .slice none 0 0] 163 (0, 0)) := by
    show (w2.heap.push _)[w2.heap.size]? = _
    simp
  have hX3 := (((Below.refl w2.heap.size w2).alloc (Nat.le_refl _) (.cells #[.slice none 0 0, .slice none 0 0] 163)).block w.heap.size (by omega)).trans HX2.out
  have hO3 := (((Below.refl w2.heap.size w2).alloc (Nat.le_refl _) (.cells #[.slice none 0 0, .slice none 0 0] 163)).block (w.heap.size + 1) hlt2).trans HO2.out
  have hfb : w2.heap.size < (w2.alloc (.cells #[.slice none 0 0, .slice none 0 0] 163)).heap.size := by simp
  generalize w2.alloc _ = W3 at *
  have hfbw : w.heap.size ≤ w2.heap.size := by omega
  have hx1 : w2.heap.size ≠ w.heap.size := by omega
  have hx2 : w2.heap.size ≠ w.heap.size + 1 := by omega
  generalize w2.heap.size = fb at *
  clear x2 x5
  have x2 := cell_of (j := 2) hX3
  have f0 := cell_of (j := 0) hF3
  simp only [List.getElem?_toArray, List.getElem?_cons_zero, List.getElem?_cons_succ] at x2 f0
  have HB3 := Lib.hid hb3
  have HX3 := Lib.hid hX3
  have HO3 := Lib.hid hO3
  have HF3 := Lib.hid hF3
  have HS3 := Lib.hid (own_strs hw3)
  clear hw3 hX3 hO3 hF3 hb3 HX2 HO2 HB2 HW
  go_wp2_with (at_builtin; go_loud (refine append_strs w.heap.size rfl _ _ rfl (.slice none 0 0) [] _ args rfl rfl HS3.out (own_nil _ _ _ _) HB3.out HB3.out.size (by simp; omega) ?_))
  intro v4 w4 hown4 hb4 hg4
  have hF4 := (hg4.block fb hfb (by simp [Value.ownBlock])).trans HF3.out
  have hX4 := (hg4.block w.heap.size (by omega) (by simp [Value.ownBlock])).trans HX3.out
  have hO4 := (hg4.block (w.heap.size + 1) (by omega) (by simp [Value.ownBlock])).trans HO3.out
  clear x2 f0
  have f0 := cell_of (j := 0) hF4
  have z0 := frozen_of (j := 0) hF4
  simp only [List.getElem?_toArray, List.getElem?_cons_zero, List.getElem?_cons_succ] at f0
  obtain ⟨vA, vc, rfl, hv1, hv2⟩ := (own_strs hown4).form
  have HX4 := Lib.hid hX4
  have HO4 := Lib.hid hO4
  have HF4 := Lib.hid hF4
  have HW4 := Lib.hid hown4
  have HB4 := Lib.hid hb4
  clear hX4 hO4 hF4 hown4 hb4 hg4
  go_wp2_with fail
  have HS0 : Hid (FSt w fb m (.slice cA cn cc) (.slice hA hn hc) args (.slice vA args.length vc) (w4.setCell ⟨fb, 0, none⟩ (.slice vA args.length vc))) := Lib.hid (FSt.set (HF4.out) HX4.out HO4.out HW4.out HB4.out hfbw hx1 hx2)
  clear f0 z0 HX4 HO4 HF4 HW4 HB4
  go_loopg [] (m.locals.toNat - args.length) (fun kq wr => ∃ (xs : List Str) (xA : Option Addr) (xc : Nat), FSt w fb m (.slice cA cn cc) (.slice hA hn hc) xs (.slice xA xs.length xc) wr ∧ Hid (fillT m.locals.toNat args = fillT m.locals.toNat xs) ∧ kq = m.locals.toNat - xs.length ∧ xs.length ≤ 1048576)
  case atStart => exact ⟨args, vA, vc, HS0.out, rfl, rfl, hal⟩
  case round =>
    clear HS0
    obtain ⟨xs, xA, xc, hS, HE, HK, hlen⟩ := hrel
    replace HK := Lib.hid HK
    obtain ⟨hF, hX, hO, hown, hb⟩ := hS
    have f0 := cell_of (j := 0) hF
    have f1 := cell_of (j := 1) hF
    have x5 := cell_of (j := 5) hX
    have z0 := frozen_of (j := 0) hF
    simp only [List.getElem?_toArray, List.getElem?_cons_zero, List.getElem?_cons_succ] at f0 f1 x5
    have hfl := (Array.getElem?_eq_some_iff.1 hF).1
    have HF := Lib.hid hF
    have HX := Lib.hid hX
    have HO := Lib.hid hO
    have HW := Lib.hid hown
    have HB := Lib.hid hb
    by_cases hlt' : (xs.length : Int) < m.locals
    · have HFT : Hid (fillT m.locals.toNat xs = fillT m.locals.toNat (xs ++ [⟨#[84]⟩])) := Lib.hid (fillT_step (by omega))
      clear hF hX hO hown hb
      go_wp2_with (at_builtin; go_loud (refine append_str w.heap.size rfl _ _ rfl (.slice xA xs.length xc) xs ⟨#[84]⟩ rfl rfl HW.out HB.out HB.out.size (by omega) ?_))
      intro v4 w4 hown4 hb4 hg4 hat4
      have hne := own_ne_tag HW.out HF.out (by decide)
      have hne2 := own_ne_tag HW.out HX.out (by decide)
      have hne3 := own_ne_tag HW.out HO.out (by decide)
      have hF4 := (hg4.block fb hfl hne.symm).trans HF.out
      have hX4 := (hg4.block w.heap.size (Array.getElem?_eq_some_iff.1 HX.out).1 hne2.symm).trans HX.out
      have hO4 := (hg4.block (w.heap.size + 1) (Array.getElem?_eq_some_iff.1 HO.out).1 hne3.symm).trans HO.out
      have hll : (xs ++ [(⟨#[84]⟩ : Str)]).length = xs.length + 1 := by simp
      rw [← hll] at hown4
      obtain ⟨vA, vc, rfl, hv1, hv2⟩ := (own_strs hown4).form
      have hS4 := FSt.set hF4 hX4 hO4 hown4 hb4 hfbw hx1 hx2
      rw [hll] at hS4
      have HS4 := Lib.hid hS4
      have HLL := Lib.hid hll
      rw [hll]
      clear hS4 hll hv1
      clear f0 f1 z0
      have f0 := cell_of (j := 0) hF4
      have z0 := frozen_of (j := 0) hF4
      simp only [List.getElem?_toArray, List.getElem?_cons_zero, List.getElem?_cons_succ] at f0
      have HLT := Lib.hid hlt'
      clear hF4 hX4 hO4 hown4 hb4 hg4 hat4 hne hne2 hne3
      go_wp2
      go_roundg (gk - 1)
      case measure => have h1 := HK.out; have h2 := HLT.out; omega
      case rel =>
        refine ⟨xs ++ [⟨#[84]⟩], vA, vc, by rw [HLL.out]; exact HS4.out, ?_, ?_, ?_⟩
        · apply Lib.hid; rw [HE.out, HFT.out]
        · have h1 := HK.out; rw [List.length_append, List.length_singleton]; omega
        · have h2 := HLT.out; rw [List.length_append, List.length_singleton]; omega
    · have H : Hid (firstLocals cls m args = xs) := by apply Lib.hid; rw [HFL.out, HE.out]; exact fillT_end (by omega)
      have o0 := cell_of (j := 0) hO
      have o1 := cell_of (j := 1) hO
      have y0 := frozen_of (j := 0) hO
      have y1 := frozen_of (j := 1) hO
      simp only [List.getElem?_toArray, List.getElem?_cons_zero, List.getElem?_cons_succ] at o0 o1
      clear hF hX hO hown hb
      go_wp2_with fail
      have hn := own_ne_tag HW.out HO.out (by decide)
      refine bodyPost_ret (v := .tuple #[.agg #[.slice xA xs.length xc, .slice none 0 0], .string gives]) (by simp [results, Tryz.results90, go_sem, o0, o1]) rfl ⟨_, rfl, ?_, (HB.out.setCell (p := ⟨w.heap.size + 1, 0, none⟩) (Nat.le_succ _) _).setCell (p := ⟨w.heap.size + 1, 1, none⟩) (Nat.le_succ _) _⟩
      rw [H.out]
      exact ownsRow_setCell_other (ownsRow_setCell_other HW.out (a := ⟨w.heap.size + 1, 0, none⟩) hn _) (a := ⟨w.heap.size + 1, 1, none⟩) hn _
end Go.Proofs.YthcjjjpcjjondaaGreatDoor
