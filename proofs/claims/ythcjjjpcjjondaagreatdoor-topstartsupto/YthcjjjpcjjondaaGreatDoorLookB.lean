/- check.looker: a look at a place without handlers, from which at most one place is come to, met for the first time. -/
import Derived.Test.YthcjjjpcjjondaaGreatDoorLookA
namespace Go.Proofs.YthcjjjpcjjondaaGreatDoor
open Go.RowKit
set_option linter.unusedVariables false
set_option linter.unusedSimpArgs false
set_option linter.unnecessarySimpa false

def metAll (M : FM) (f : Frm) (ns : List Int) : FM := ns.foldl (fun M n => setF M n f) M
theorem LookS.cells {w0 wk w : World} {kb r : Nat} {wv : Value} {m : Meth} {cv hv : Value} {M : FM} {todo : List Int} (h : LookS w0 wk w kb r wv m cv hv M todo) :
    w.cell? ⟨kb, 0, none⟩ = some wv ∧ w.cell? ⟨kb, 7, none⟩ = some cv ∧ w.cell? ⟨kb, 8, none⟩ = some hv ∧ w.cell? ⟨kb, 9, none⟩ = some (.map (some r)) := by
  obtain ⟨hT, hB, hkb, hr, tv, hL, hM, hQ⟩ := h
  exact ⟨cell_of hL, cell_of hL, cell_of hL, cell_of hL⟩
theorem fset {w : World} {base b ob : Nat} {e : TypeId} {size n : Nat} {v u1 u2 : Value} {xs : List Value} (h : w.ownsRow b e size v n xs) (h1 : ob < b) (h2 : base ≤ ob) : ((w.setCell ⟨ob, 0, none⟩ u1).setCell ⟨ob, 1, none⟩ u2).ownsRow base e size v n xs := by
  have hn : v.ownBlock ≠ some ob := fun e => by have := own_base h ob e; omega
  exact ownsRow_setCell_other (ownsRow_setCell_other (own_lower h (by omega)) (a := ⟨ob, 0, none⟩) hn _) (a := ⟨ob, 1, none⟩) hn _
theorem undrew {w w1 : World} (h : Below w.drew.heap.size w.drew w1) : Below w.heap.size w w1 := ⟨h.os, h.tape, h.output, h.size, h.block⟩
set_option maxRecDepth 100000 in
set_option maxHeartbeats 4000000 in
theorem look_one (w0 wk : World) (kb r : Nat) (mr : Nat) (m : Meth) (cv hv : Value) (M : FM) (todo : List Int) (at_ : Nat) (f f' : Frm) (cls gives : Str) (w : World) (h : LookS w0 wk w kb r (.map (some mr)) m cv hv M todo)
    (hcode : InsSl w0 cv m.code) (hhs : m.hs = []) (hhv : HanSl w0 hv m.hs) (hat : at_ < m.code.length) (hf : getF M at_ = some f) (hlen : todo.length ≤ 1048576)
    (hA : ∀ (w1 : World) (lv sv : Value), FrmP w1 w0.heap.size f lv sv → Below w0.heap.size w0 w1 → Calls Tryz.prog 157 #[.map (some mr), .string cls, .string gives, insV m.code[at_], .agg #[lv, sv]] w1 (AfterPost f'.locals f'.stack w1))
    (hn : afterL m.code[at_] at_ = [] ∨ ∃ n, afterL m.code[at_] at_ = [n] ∧ getF M n = none) :
    Calls Tryz.prog 93 #[.pointer (some ⟨kb, 0, none⟩), .string cls, .string gives, .int .i64 at_] w (MeetPost w0 wk kb r (.map (some mr)) m cv hv (metAll M f' (afterL m.code[at_] at_)) (todo ++ afterL m.code[at_] at_) (.bool true)) := by
  rw [hhs] at hhv
  obtain ⟨hhA, hhc, rfl, _⟩ := hhv.empty
  obtain ⟨cb, coff, ccap, rfl, hc1, hc2, hcc⟩ := hcode.some (by intro e; rw [e] at hat; simp at hat)
  unfold maxLen at hc2
  obtain ⟨hc6, _⟩ := hcc at_ hat
  obtain ⟨k0, k7, k8, k9⟩ := h.cells
  have HF := Lib.hid (fun w1 (h1 : InsSl w1 (.slice (some ⟨cb, coff, none⟩) m.code.length ccap) m.code) => flowAfter_any _ m.code at_ w1 h1 hat)
  generalize m.code[at_] = x at *
  generalize hns : afterL x at_ = ns at *
  have h' := h
  obtain ⟨hT, hB, hkb, hr, tv, hL, hM, hQ⟩ := h'
  obtain ⟨lv, sv, hfp, hrun, _⟩ := lookupF hM (at_ : Int)
  rw [hf] at hfp
  simp only [Option.getD_some] at hfp
  obtain ⟨lA, lc, sA, sc, rfl, rfl, _⟩ := hfp.forms
  have hkl := look_lt hL
  have hkn : kb ≠ w.heap.size := by omega
  have H := Lib.hid h
  have HFP := Lib.hid hfp
  unfold insV insA at hA
  have HA := Lib.hid hA
  have HN := Lib.hid hn
  have HC := Lib.hid hcode
  clear h hcc hA hn hfp hT hB hkb hr hL hM hQ hcode hhv
  go_enter Tryz.func93, Tryz.ntmps93
  go_wp2_with fail
  have hb1 : Below w.heap.size w (w.alloc (.cells #[.slice lA f.locals.length lc, .slice sA f.stack.length sc] 163)) := (Below.refl w.heap.size w).alloc (Nat.le_refl _) _
  have hX : (w.alloc (.cells #[.slice lA f.locals.length lc, .slice sA f.stack.length sc] 163)).heap[w.heap.size]? = some (.cells #[.slice lA f.locals.length lc, .slice sA f.stack.length sc] 163 (0, 0)) := by
    show (w.heap.push _)[w.heap.size]? = _
    simp
  have H1 := Lib.hid (H.out.below hb1)
  have HF1 := Lib.hid (HFP.out.below hb1)
  clear hb1 k0 k7 k8 k9 hrun H HFP
  generalize w.alloc _ = W1 at *
  have HF1d : Hid (FrmP W1.drew w0.heap.size f (.slice lA f.locals.length lc) (.slice sA f.stack.length sc)) := Lib.hid (show FrmP W1.drew w0.heap.size f (.slice lA f.locals.length lc) (.slice sA f.stack.length sc) from HF1.out)
  obtain ⟨k0, k7, k8, k9⟩ := H1.out.cells
  obtain ⟨c0, c1, c2, c3, c4, c5⟩ := hc6.below H1.out.2.1
  have b0 := cell_of (j := 0) hX
  have b1 := cell_of (j := 1) hX
  simp only [List.getElem?_toArray, List.getElem?_cons_zero, List.getElem?_cons_succ] at b0 b1
  have C6 : Hid (Ins6 W1 cb (coff + at_ * 6) x) := Lib.hid ⟨c0, c1, c2, c3, c4, c5⟩
  have HX := Lib.hid hX
  have HC6 := Lib.hid hc6
  clear hX hc6
  go_loop [30] (fun i => i = .int .i64 0) (fun _ => 0)
  case atStart => rfl
  case round =>
    subst hrel
    have n0 := World.new_ne W1 _ k0
    have n7 := World.new_ne W1 _ k7
    have nb := World.new_ne W1 _ b0
    have nc := World.new_ne W1 _ c0
    simp only [] at n0 n7 nb nc
    have HZb : Hid (FrmP (W1.alloc (.cells #[.slice none 0 0, .slice none 0 0] 163)).drew w0.heap.size f (.slice lA f.locals.length lc) (.slice sA f.stack.length sc) ∧ Below w0.heap.size w0 (W1.alloc (.cells #[.slice none 0 0, .slice none 0 0] 163)).drew ∧ Below W1.heap.size W1 (W1.alloc (.cells #[.slice none 0 0, .slice none 0 0] 163)).drew ∧ (W1.alloc (.cells #[.slice none 0 0, .slice none 0 0] 163)).drew.heap[W1.heap.size]? = some (.cells #[.slice none 0 0, .slice none 0 0] 163 (0, 0)) ∧ W1.heap.size < (W1.alloc (.cells #[.slice none 0 0, .slice none 0 0] 163)).drew.heap.size) := by
      apply Lib.hid
      have hz := (Below.refl W1.heap.size W1).alloc (Nat.le_refl _) (.cells #[.slice none 0 0, .slice none 0 0] 163)
      have hfz : FrmP (W1.alloc (.cells #[.slice none 0 0, .slice none 0 0] 163)) w0.heap.size f (.slice lA f.locals.length lc) (.slice sA f.stack.length sc) := HF1.out.below hz
      refine ⟨hfz, (H1.out.2.1.alloc H1.out.2.1.size _).drew, hz.drew, ?_, ?_⟩
      · show (W1.heap.push _)[W1.heap.size]? = _
        simp
      · show W1.heap.size < (W1.heap.push _).size
        simp
    go_upto_region 10 with (fail)
    go_cut [14, 15] (fun s14 s15 wx => ∃ (ob : Nat) (A2 : Option Addr) (a2 : Nat) (A3 : Option Addr) (a3 : Nat), s14 = .pointer (some ⟨ob, 0, none⟩) ∧ s15 = .bool true ∧ wx.heap[ob]? = some (.cells #[.slice A2 f'.locals.length a2, .slice A3 f'.stack.length a3] 163 (0, 0)) ∧ LookS w0 W1 wx kb r (.map (some mr)) m (.slice (some ⟨cb, coff, none⟩) m.code.length ccap) (.slice hhA 0 hhc) M todo ∧ FrmP wx w0.heap.size f' (.slice A2 f'.locals.length a2) (.slice A3 f'.stack.length a3))
    case first =>
      go_region_held3 (fun w' => w'.cell? ⟨kb, 0, none⟩ = some (.map (some mr)) ∧ w'.cell? ⟨kb, 7, none⟩ = some (.slice (some ⟨cb, coff, none⟩) m.code.length ccap) ∧ w'.cell? ⟨w.heap.size, 0, none⟩ = some (.slice lA f.locals.length lc) ∧ w'.cell? ⟨w.heap.size, 1, none⟩ = some (.slice sA f.stack.length sc) ∧
          w'.cell? ⟨cb, coff + at_ * 6, none⟩ = some (.int .i64 x.op) ∧ w'.cell? ⟨cb, coff + at_ * 6 + 1, none⟩ = some (.int .i64 x.a) ∧ w'.cell? ⟨cb, coff + at_ * 6 + 2, none⟩ = some (.int .i64 x.b) ∧ w'.cell? ⟨cb, coff + at_ * 6 + 3, none⟩ = some (.string x.ty) ∧ w'.cell? ⟨cb, coff + at_ * 6 + 4, none⟩ = some (.string x.cls) ∧ w'.cell? ⟨cb, coff + at_ * 6 + 5, none⟩ = some (.string x.nm))
        (first
          | go_keep
          | ((repeat' apply And.intro) <;> assumption))
        (first
          | (go_at_call 157; refine (HA.out W1.drew _ _ HF1d.out H1.out.2.1.drew).mono ?_; rintro e w2 ⟨lv2, sv2, rfl, ol2, os2, hb2⟩; obtain ⟨A2, a2, rfl, _, _⟩ := (own_strs ol2).form; obtain ⟨A3, a3, rfl, _, _⟩ := (own_strs os2).form; have hb2' := undrew hb2; have g0 := cell_below hb2' k0; have g7 := cell_below hb2' k7; have gb0 := cell_below hb2' b0; have gb1 := cell_below hb2' b1; obtain ⟨p0, p1, p2, p3, p4, p5⟩ := C6.out.below hb2')
          | (go_at_call 157; refine (HA.out (W1.alloc (.cells #[.slice none 0 0, .slice none 0 0] 163)).drew _ _ HZb.out.1 HZb.out.2.1).mono ?_; rintro e w2 ⟨lv2, sv2, rfl, ol2, os2, hb2⟩; obtain ⟨A2, a2, rfl, _, _⟩ := (own_strs ol2).form; obtain ⟨A3, a3, rfl, _, _⟩ := (own_strs os2).form; have hb2' := bel_then HZb.out.2.2.1 hb2; have hob := (hb2.block W1.heap.size HZb.out.2.2.2.2).trans HZb.out.2.2.2.1; have q0 := cell_of (j := 0) hob; have q1 := cell_of (j := 1) hob; have y0 := frozen_of (j := 0) hob; have y1 := frozen_of (j := 1) hob; simp only [List.getElem?_toArray, List.getElem?_cons_zero, List.getElem?_cons_succ] at q0 q1; have g0 := cell_below hb2' k0; have g7 := cell_below hb2' k7; have gb0 := cell_below hb2' b0; have gb1 := cell_below hb2' b1; obtain ⟨p0, p1, p2, p3, p4, p5⟩ := C6.out.below hb2'))
      all_goals
        go_wp2_with fail
        go_meet
        first
          | exact ⟨_, A2, a2, A3, a3, rfl, rfl, by show (w2.heap.push _)[w2.heap.size]? = _; simp, H1.out.re.below (hb2'.alloc hb2'.size _), own_below (own_lower ol2 H1.out.2.1.size) ((Below.refl w2.heap.size w2).alloc (Nat.le_refl _) _), own_below (own_lower os2 H1.out.2.1.size) ((Below.refl w2.heap.size w2).alloc (Nat.le_refl _) _)⟩
          | exact ⟨_, A2, a2, A3, a3, rfl, rfl, by simp [World.setCell, Array.getElem?_modify, hob], H1.out.re.below ((hb2'.setCell (p := ⟨W1.heap.size, 0, none⟩) (Nat.le_refl W1.heap.size) _).setCell (p := ⟨W1.heap.size, 1, none⟩) (Nat.le_refl W1.heap.size) _), fset ol2 HZb.out.2.2.2.2 H1.out.2.1.size, fset os2 HZb.out.2.2.2.2 H1.out.2.1.size⟩
    case rest =>
      clear k0 k7 k8 k9 c0 c1 c2 c3 c4 c5 b0 b1 n0 n7 nb nc HZb HF1d C6 HC6 HX HF1
      obtain ⟨ob, A2, a2, A3, a3, rfl, rfl, hob, hS, hfr⟩ := hcut
      obtain ⟨k0, k7, k8, k9⟩ := hS.cells
      have HOB := Lib.hid hob
      have HS := Lib.hid hS
      have HFR := Lib.hid hfr
      clear hob hS hfr
      go_wp2_with fail
      refine (HF.out _ (HC.out.below mono_ins HS.out.2.1)).mono ?_
      rintro e w5 ⟨nv, rfl, hq5, hb5⟩
      have hS5 := HS.out.below hb5
      have hF5 := HFR.out.below hb5
      have hob5 := (hb5.block ob (Array.getElem?_eq_some_iff.1 HOB.out).1).trans HOB.out
      have o0 := cell_of (j := 0) hob5
      have o1 := cell_of (j := 1) hob5
      simp only [List.getElem?_toArray, List.getElem?_cons_zero, List.getElem?_cons_succ] at o0 o1
      have HS5 := Lib.hid hS5
      have HF5 := Lib.hid hF5
      clear k0 k7 k8 k9 hS5 hF5 hob5 HS HFR HOB hb5
      rcases HN.out with hns0 | ⟨n, hns1, hno⟩
      · have HNS := Lib.hid hns0
        subst hns0
        obtain ⟨nA, nc, rfl, _⟩ := q_form hq5
        clear hq5
        go_wp2_with fail
        go_loop [94] (fun i => i = .int .i64 0) (fun _ => 0)
        case atStart => rfl
        case round =>
          subst hrel
          go_wp2
          go_ret
          exact ⟨rfl, by have := H1.out.back HS5.out; simpa [metAll] using this⟩
      · subst hns1
        obtain ⟨ng, noff, nc, rfl, hnc⟩ := q_cell (j := 0) hq5 (by simp [intCells])
        have hnn : (intCells [n])[0]'(by simp [intCells]) = .int .i64 n := by simp [intCells]
        rw [hnn] at hnc
        rw [Nat.add_zero] at hnc
        have hln : (intCells [n]).length = 1 := by simp [intCells]
        rw [hln]
        clear hq5 hnn hln
        have HNO := Lib.hid hno
        clear hno
        go_wp2_with fail
        go_loopw [94] (fun i wr => (i = .int .i64 0 ∧ wr = w5) ∨ (i = .int .i64 1 ∧ LookS w0 w5 wr kb r (.map (some mr)) m (.slice (some ⟨cb, coff, none⟩) m.code.length ccap) (.slice hhA 0 hhc) (setF M n f') (todo ++ [n]))) (fun i _ => 1 - (intOf i).toNat)
        case atStart => exact .inl ⟨rfl, rfl⟩
        case round =>
          rcases hrel with ⟨rfl, rfl⟩ | ⟨rfl, hS6⟩
          · go_wp2_with fail
            refine (meet_new w0 _ kb r (.map (some mr)) m _ _ M todo n f' _ _ _ HS5.out.re HNO.out HF5.out hlen).mono ?_
            rintro e w6 ⟨rfl, hS6⟩
            have HS6 := Lib.hid hS6
            clear hS6
            go_wp2
            go_roundw
            case rel => exact .inr ⟨rfl, HS6.out⟩
            case measure => simp [intOf]
          · have HS6 := Lib.hid hS6
            clear hS6
            go_wp2
            go_ret
            exact ⟨rfl, by have := H1.out.back (HS5.out.back HS6.out); simpa [metAll] using this⟩
end Go.Proofs.YthcjjjpcjjondaaGreatDoor
