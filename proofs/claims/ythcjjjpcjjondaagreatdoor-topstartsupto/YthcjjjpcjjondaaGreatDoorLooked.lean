/- check.Looked at a method without jumps and handlers. -/
import Derived.Test.YthcjjjpcjjondaaGreatDoorFirstF
namespace Go.Proofs.YthcjjjpcjjondaaGreatDoor
open Go.RowKit
set_option linter.unusedVariables false
set_option linter.unusedSimpArgs false
set_option linter.unnecessarySimpa false

def lineM (fs : Nat → Frm) : Nat → FM
  | 0 => [(0, fs 0)]
  | j + 1 => setF (lineM fs j) ((j + 1 : Nat) : Int) (fs (j + 1))
theorem lineM_at (fs : Nat → Frm) : ∀ (j k : Nat), k ≤ j → getF (lineM fs j) (k : Int) = some (fs k) := by
  intro j
  induction j with
  | zero => intro k hk; have : k = 0 := by omega
            subst this; rfl
  | succ j ih =>
    intro k hk
    by_cases h : k = j + 1
    · subst h; exact getF_setF_same _ _ _
    · rw [lineM, getF_setF_other _ _ _ _ (by omega)]; exact ih k (by omega)
theorem lineM_no (fs : Nat → Frm) : ∀ (j k : Nat), j < k → getF (lineM fs j) (k : Int) = none := by
  intro j
  induction j with
  | zero => intro k hk; unfold lineM getF; rw [if_neg (by simp; omega)]; rfl
  | succ j ih =>
    intro k hk
    rw [lineM, getF_setF_other _ _ _ _ (by omega)]; exact ih k (by omega)
theorem LookS.todo {w0 wk w : World} {kb r : Nat} {wv : Value} {m : Meth} {cv hv : Value} {M : FM} {todo todo' : List Int} {v : Value} (h : LookS w0 wk w kb r wv m cv hv M todo) (hq : QRow w w0.heap.size 3 v (intCells todo')) :
    LookS w0 wk (w.setCell ⟨kb, 10, none⟩ v) kb r wv m cv hv M todo' := by
  obtain ⟨hT, hB, hkb, hr, tv, hL, hM, hQ⟩ := h
  have hgs := grown_set w ⟨kb, 10, none⟩ v
  have hns : NoStr w (some kb) := noStr_cells (hL : w.heap[kb]? = _) (by decide)
  have hn := q_ne_tag hq (hL : w.heap[kb]? = _) (by decide)
  refine ⟨hT.grown hgs (tag_cells (hL : w.heap[kb]? = _) (by simp)), hB.setCell hkb _, hkb, hr, _, look_set hL _, hM.keep hgs hns (fun e => ?_), q_setCell hq hn _⟩
  injection e with e
  obtain ⟨es, ck, h3, _⟩ := hM
  rw [e] at h3
  unfold LookAt at hL
  rw [hL] at h3
  injection h3 with h3
  cases h3
def LookedPost (w : World) (e : Ending) (w' : World) : Prop := ∃ r, e = .returned (.tuple #[.map (some r), .bool true]) ∧ Below w.heap.size w w'
theorem three_new (w : World) (o0 o1 o2 : Obj) : (((w.alloc o0).alloc o1).alloc o2).heap[w.heap.size]? = some o0 ∧ (((w.alloc o0).alloc o1).alloc o2).heap[w.heap.size + 1]? = some o1 ∧ (((w.alloc o0).alloc o1).alloc o2).heap[w.heap.size + 1 + 1]? = some o2 ∧
    (((w.alloc o0).alloc o1).alloc o2).heap.size = w.heap.size + 1 + 1 + 1 ∧ Below w.heap.size w (((w.alloc o0).alloc o1).alloc o2) := by
  refine ⟨?_, ?_, ?_, by simp, (((Below.refl w.heap.size w).alloc (Nat.le_refl _) _).alloc (by simp) _).alloc (by simp; omega) _⟩
  all_goals
    show (((w.heap.push o0).push o1).push o2)[_]? = _
    simp only [Array.getElem?_push, Array.size_push]
    repeat (first | rfl | rw [if_neg (by omega)] | rw [if_pos rfl])
set_option maxRecDepth 100000 in
set_option maxHeartbeats 4000000 in
theorem looked_line (mr : Nat) (cls gives : Str) (m : Meth) (cv hv : Value) (args : List Str) (fs : Nat → Frm) (L : PW) (w : World) (hW : WMap w (.map (some mr)) L) (hP : MethP w m cv hv)
    (hm : methodOf m.ty = some (args, gives)) (hst : m.static = true) (hlo : m.locals ≤ 1048576) (hal : args.length ≤ 1048576) (hhs : m.hs = []) (hn : 0 < m.code.length) (hn2 : m.code.length ≤ 40)
    (hk : ∀ k ∈ firstLocals cls m args, kindErr L k = 0 ∧ k.size ≤ 4611686018427387904) (hgv : (gives.toList == [86]) = false) (hg : kindErr L gives = 0) (hgz : gives.size ≤ 4611686018427387904)
    (h0 : fs 0 = ⟨firstLocals cls m args, []⟩)
    (hA : ∀ (j : Nat) (hj : j < m.code.length) (w1 : World) (lv sv : Value), FrmP w1 w.heap.size (fs j) lv sv → Below w.heap.size w w1 → Calls Tryz.prog 157 #[.map (some mr), .string cls, .string gives, insV m.code[j], .agg #[lv, sv]] w1 (AfterPost (fs (j + 1)).locals (fs (j + 1)).stack w1))
    (hnx : ∀ (j : Nat) (hj : j < m.code.length), afterL m.code[j] j = if j + 1 < m.code.length then [((j + 1 : Nat) : Int)] else []) :
    Calls Tryz.prog 49 #[.map (some mr), .string cls, methV m cv hv] w (LookedPost w) := by
  have hmm := @run_makeMap Tryz.prog
  have HP := Lib.hid hP
  have HF := Lib.hid (fun w1 => firstF_static cls m cv hv args gives w1 hm hst hlo hal hP.2.2.2 (by obtain ⟨A, c, h, _⟩ := hP.1.form; exact ⟨_, _, _, h⟩) (by obtain ⟨A, c, h, _⟩ := hP.2.1.form; exact ⟨_, _, _, h⟩))
  obtain ⟨cA, cc, rfl, hc1, hc2⟩ := hP.1.form
  obtain ⟨hA', hc, rfl, _, _⟩ := hP.2.1.form
  obtain ⟨hX, hM, hL, hzz, hb⟩ := three_new w (.cells #[.string m.nm, .string m.ty, .bool m.static, .bool m.abstract, .bool m.priv, .int .i64 m.locals, .slice cA m.code.length cc, .slice hA' m.hs.length hc] 44) (.map #[] 0)
    (.cells #[.map (some mr), .string m.nm, .string m.ty, .bool m.static, .bool m.abstract, .bool m.priv, .int .i64 m.locals, .slice cA m.code.length cc, .slice hA' m.hs.length hc, .map (some (w.heap.size + 1)), .slice none 0 0] 161)
  have HX := Lib.hid hX
  have HM := Lib.hid hM
  have HL := Lib.hid hL
  have HZ := Lib.hid hzz
  have HB := Lib.hid hb
  have HW := Lib.hid hW
  have HA := Lib.hid hA
  have HK := Lib.hid hk
  have HG := Lib.hid hg
  have H0 := Lib.hid h0
  have HNX := Lib.hid hnx
  have HHS := Lib.hid hhs
  clear hX hM hL hzz hb hW hA hk hg h0 hnx hP hm hst hhs
  unfold methV methA at *
  go_enter Tryz.func49, Tryz.ntmps49
  go_wp2_with fail
  generalize ((w.alloc _).alloc _).alloc _ = W1 at *
  refine (HF.out W1).mono ?_
  rintro e w2 ⟨lv, rfl, hown, hb2⟩
  obtain ⟨lA, lc, rfl, hl1, hl2⟩ := (own_strs hown).form
  unfold maxLen at hl2
  have hB2 := bel_then HB.out hb2
  have hb3 := (Below.refl w2.heap.size w2).alloc (Nat.le_refl _) (.cells #[.slice lA (firstLocals cls m args).length lc, nilSl] 163)
  have hlt : w.heap.size + 1 + 1 < W1.heap.size := by have := HZ.out; omega
  have hS3 : LookS w (w2.alloc (.cells #[.slice lA (firstLocals cls m args).length lc, nilSl] 163)) (w2.alloc (.cells #[.slice lA (firstLocals cls m args).length lc, nilSl] 163)) (w.heap.size + 1 + 1) (w.heap.size + 1) (.map (some mr)) m (.slice cA m.code.length cc) (.slice hA' m.hs.length hc) [] [] := by
    have h1 : LookS w W1 W1 (w.heap.size + 1 + 1) (w.heap.size + 1) (.map (some mr)) m (.slice cA m.code.length cc) (.slice hA' m.hs.length hc) [] [] :=
      ⟨TagG.refl _ _, HB.out, by omega, by omega, _, HL.out, ⟨#[], 0, HM.out, .nil⟩, q_nil _ _ _⟩
    exact ((h1.below hb2).below hb3).re
  have hF3 : FrmP (w2.alloc (.cells #[.slice lA (firstLocals cls m args).length lc, nilSl] 163)) w.heap.size (fs 0) (.slice lA (firstLocals cls m args).length lc) nilSl := by
    rw [H0.out]
    exact ⟨own_below (own_lower hown HB.out.size) hb3, own_nil _ _ _ _⟩
  have hX3 : (w2.alloc (.cells #[.slice lA (firstLocals cls m args).length lc, nilSl] 163)).heap[w2.heap.size]? = some (.cells #[.slice lA (firstLocals cls m args).length lc, nilSl] 163 (0, 0)) := by
    show (w2.heap.push _)[w2.heap.size]? = _
    simp
  have HB3 := Lib.hid (hB2.alloc hB2.size (.cells #[.slice lA (firstLocals cls m args).length lc, nilSl] 163))
  have HS3 := Lib.hid hS3
  have HF3 := Lib.hid hF3
  have HX3 := Lib.hid hX3
  clear hS3 hF3 hX3 hb3 hB2 hown hb2 HF HX HM HL HZ HB
  generalize hls : firstLocals cls m args = ls at *
  clear hls
  unfold nilSl at HF3 HX3 HS3 HB3 ⊢
  go_upto_region 3 with (fail)
  generalize w2.alloc _ = W3 at *
  generalize w2.heap.size = fb at *
  have f0 := cell_of (j := 0) HX3.out
  simp only [List.getElem?_toArray, List.getElem?_cons_zero, List.getElem?_cons_succ] at f0
  have HLs : Hid (StrSl W3 (.slice lA ls.length lc) ls) := by
    apply Lib.hid
    have := own_strs HF3.out.1
    rw [H0.out] at this
    exact this
  have hgn : (gives.toList != [86]) = true := by unfold bne; rw [hgv]; rfl
  go_wp2_with fail
  clear f0
  go_loopw [28] (fun i wr => ∃ k : Nat, i = .int .i64 k ∧ k ≤ ls.length ∧ Below W3.heap.size W3 wr) (fun i _ => ls.length - (intOf i).toNat)
  case atStart => exact ⟨0, rfl, Nat.zero_le _, Below.refl _ _⟩
  case round =>
    obtain ⟨k, rfl, hkl, hb⟩ := hrel
    by_cases hkn : k < ls.length
    · obtain ⟨b, off, rfl, hc0⟩ := HLs.out.at hkn
      have hc1 := cell_below hb hc0
      obtain ⟨hk1, hk2⟩ := HK.out ls[k] (List.getElem_mem hkn)
      have HK1 := Lib.hid hk1
      clear hc0 hk1
      generalize ls[k] = x at *
      go_wp2_with fail
      refine (kind_any _ L x _ (HW.out.below (bel_then HB3.out hb)) hk2).mono ?_
      rintro e w5 ⟨rfl, hb5⟩
      rw [HK1.out, errV_0]
      have hbb := bel_then hb hb5
      clear HK1
      go_wp2
      go_roundw
      case rel => exact ⟨k + 1, by go_num, by omega, hbb⟩
      case measure => simp [intOf]; omega
    · go_wp2_with fail
      refine (kind_any _ L gives _ (HW.out.below (bel_then HB3.out hb)) hgz).mono ?_
      rintro e w5 ⟨rfl, hb5⟩
      rw [HG.out, errV_0]
      have hb35 := bel_then hb hb5
      have HS5 := Lib.hid (HS3.out.below hb35)
      have HF5 := Lib.hid (HF3.out.below hb35)
      have hX5 := (hb35.block fb (Array.getElem?_eq_some_iff.1 HX3.out).1).trans HX3.out
      have f0 := cell_of (j := 0) hX5
      have f1 := cell_of (j := 1) hX5
      simp only [List.getElem?_toArray, List.getElem?_cons_zero, List.getElem?_cons_succ] at f0 f1
      have HB5 := Lib.hid (bel_then HB3.out hb35)
      clear hb hb5 hb35 hX5 hkl hkn HS3 HF3 HX3 HLs
      go_wp2_with fail
      refine (meet_new w W3 _ _ _ m _ _ [] [] 0 (fs 0) _ _ _ HS5.out rfl HF5.out (by simp)).mono ?_
      rintro e w6 ⟨rfl, hS6⟩
      have HS6 : Hid (LookS w W3 w6 (w.heap.size + 1 + 1) (w.heap.size + 1) (.map (some mr)) m (.slice cA m.code.length cc) (.slice hA' m.hs.length hc) (lineM fs 0) [((0 : Nat) : Int)]) := Lib.hid hS6
      clear hS6 f0 f1 HS5 HF5 HB5
      go_wp2_with fail
      go_loopg [] m.code.length (fun kq wr => ∃ (j : Nat) (M : FM) (todo : List Int), LookS w W3 wr (w.heap.size + 1 + 1) (w.heap.size + 1) (.map (some mr)) m (.slice cA m.code.length cc) (.slice hA' m.hs.length hc) M todo ∧ ((todo = [] ∧ kq = 0) ∨ (todo = [(j : Int)] ∧ M = lineM fs j ∧ j < m.code.length ∧ kq = m.code.length - j)))
      case atStart => exact ⟨0, _, _, HS6.out, .inr ⟨rfl, rfl, hn, rfl⟩⟩
      case round =>
        clear HS6
        obtain ⟨j, M, todo, hS, hcase⟩ := hrel
        have HS := Lib.hid hS
        obtain ⟨hT, hB, hkb, hr, tv, hL, hM, hQ⟩ := hS
        have c9 : wr.cell? ⟨w.heap.size + 1 + 1, 9, none⟩ = some (.map (some (w.heap.size + 1))) := cell_of hL
        have c10 : wr.cell? ⟨w.heap.size + 1 + 1, 10, none⟩ = some tv := cell_of hL
        have z10 : wr.frozen? ⟨w.heap.size + 1 + 1, 10, none⟩ = false := frozen_of hL
        rcases hcase with ⟨rfl, hk0⟩ | ⟨rfl, rfl, hj, hkq⟩
        · obtain ⟨tA, tc, rfl, _⟩ := q_form hQ
          have HBB := Lib.hid hB
          clear hT hB hkb hr hL hM hQ hk0
          go_wp2
          go_ret2
          exact ⟨_, rfl, HBB.out⟩
        · obtain ⟨g, off, tc, rfl, hc0⟩ := q_cell (j := 0) hQ (by simp [intCells])
          have hl1 : (intCells [(j : Int)]).length = 1 := rfl
          have hl2 : (intCells [(j : Int)])[0]'(by simp [intCells]) = .int .i64 (j : Int) := rfl
          rw [hl1] at c10
          rw [hl2, Nat.add_zero] at hc0
          obtain ⟨hpos, ht1, ht2⟩ := q_tail (x := .int .i64 (j : Int)) (xs := []) hQ
          have HJ := Lib.hid hkq
          have hlook : ∀ wx : World, LookS w W3 wx (w.heap.size + 1 + 1) (w.heap.size + 1) (.map (some mr)) m (.slice cA m.code.length cc) (.slice hA' m.hs.length hc) (lineM fs j) [] → Calls Tryz.prog 93 #[.pointer (some ⟨w.heap.size + 1 + 1, 0, none⟩), .string cls, .string gives, .int .i64 j] wx (MeetPost w W3 (w.heap.size + 1 + 1) (w.heap.size + 1) (.map (some mr)) m (.slice cA m.code.length cc) (.slice hA' m.hs.length hc) (metAll (lineM fs j) (fs (j + 1)) (afterL m.code[j] j)) ([] ++ afterL m.code[j] j) (.bool true)) := by
            intro wx hx
            refine look_one w W3 _ _ mr m _ _ _ [] j (fs j) (fs (j + 1)) cls gives wx hx HP.out.1 HHS.out HP.out.2.1 hj (lineM_at fs j j (Nat.le_refl _)) (by simp) (fun w1 lv sv h1 h2 => HA.out j hj w1 lv sv h1 h2) ?_
            rw [HNX.out j hj]
            split
            · exact .inr ⟨_, rfl, lineM_no fs j (j + 1) (Nat.lt_succ_self _)⟩
            · exact .inl rfl
          rw [HNX.out j hj] at hlook
          have HLK := Lib.hid hlook
          have HT1 := Lib.hid (fun h => (HS.out.todo (todo' := []) (ht1 h).2))
          have HT2 := Lib.hid (HS.out.todo (todo' := []) ht2)
          clear hT hB hkb hr hL hM hQ hlook ht1 ht2 hl1 hl2 hkq
          by_cases htc : tc = 1
          · have HX := Lib.hid (HT1.out htc)
            subst htc
            go_wp2_with fail
            refine (HLK.out _ HX.out).mono ?_
            rintro e w7 ⟨rfl, hS7⟩
            by_cases hjn : j + 1 < m.code.length
            · rw [if_pos hjn] at hS7
              have HS7 : Hid (LookS w W3 w7 (w.heap.size + 1 + 1) (w.heap.size + 1) (.map (some mr)) m (.slice cA m.code.length cc) (.slice hA' m.hs.length hc) (lineM fs (j + 1)) [((j + 1 : Nat) : Int)]) := Lib.hid hS7
              clear hS7 c9 c10 z10 hc0
              go_wp2
              go_roundg (m.code.length - (j + 1))
              case measure => have := HJ.out; omega
              case rel => exact ⟨j + 1, _, _, HS7.out, .inr ⟨rfl, rfl, hjn, rfl⟩⟩
            · rw [if_neg hjn] at hS7
              have HS7 : Hid (LookS w W3 w7 (w.heap.size + 1 + 1) (w.heap.size + 1) (.map (some mr)) m (.slice cA m.code.length cc) (.slice hA' m.hs.length hc) (lineM fs j) []) := Lib.hid hS7
              clear hS7 c9 c10 z10 hc0
              go_wp2
              go_roundg 0
              case measure => have := HJ.out; omega
              case rel => exact ⟨j, _, _, HS7.out, .inl ⟨rfl, rfl⟩⟩
          · have htc' : ¬ 1 = tc := fun e => htc e.symm
            go_wp2_with fail
            refine (HLK.out _ HT2.out).mono ?_
            rintro e w7 ⟨rfl, hS7⟩
            by_cases hjn : j + 1 < m.code.length
            · rw [if_pos hjn] at hS7
              have HS7 : Hid (LookS w W3 w7 (w.heap.size + 1 + 1) (w.heap.size + 1) (.map (some mr)) m (.slice cA m.code.length cc) (.slice hA' m.hs.length hc) (lineM fs (j + 1)) [((j + 1 : Nat) : Int)]) := Lib.hid hS7
              clear hS7 c9 c10 z10 hc0
              go_wp2
              go_roundg (m.code.length - (j + 1))
              case measure => have := HJ.out; omega
              case rel => exact ⟨j + 1, _, _, HS7.out, .inr ⟨rfl, rfl, hjn, rfl⟩⟩
            · rw [if_neg hjn] at hS7
              have HS7 : Hid (LookS w W3 w7 (w.heap.size + 1 + 1) (w.heap.size + 1) (.map (some mr)) m (.slice cA m.code.length cc) (.slice hA' m.hs.length hc) (lineM fs j) []) := Lib.hid hS7
              clear hS7 c9 c10 z10 hc0
              go_wp2
              go_roundg 0
              case measure => have := HJ.out; omega
              case rel => exact ⟨j, _, _, HS7.out, .inl ⟨rfl, rfl⟩⟩
end Go.Proofs.YthcjjjpcjjondaaGreatDoor
