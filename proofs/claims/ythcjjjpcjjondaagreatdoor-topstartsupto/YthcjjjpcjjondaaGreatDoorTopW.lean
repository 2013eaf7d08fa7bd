/- The adder itself: the class that TopStarts runs. -/
import Derived.Test.YthcjjjpcjjondaaGreatDoorFiveLC
import Derived.Test.YthcjjjpcjjondaaGreatDoorStart
namespace Go.Proofs.YthcjjjpcjjondaaGreatDoor
open Go.RowKit
set_option linter.unusedVariables false
set_option linter.unusedSimpArgs false
set_option linter.unnecessarySimpa false

def insCells : Array Value := #[.int .i64 4, .int .i64 0, .int .i64 0, .string ⟨#[]⟩, .string ⟨#[]⟩, .string ⟨#[]⟩, .int .i64 4, .int .i64 1, .int .i64 0, .string ⟨#[]⟩, .string ⟨#[]⟩, .string ⟨#[]⟩, .int .i64 9, .int .i64 1, .int .i64 0, .string ⟨#[73]⟩, .string ⟨#[]⟩, .string ⟨#[]⟩, .int .i64 27, .int .i64 0, .int .i64 0, .string ⟨#[]⟩, .string ⟨#[]⟩, .string ⟨#[]⟩]
def mthCells (b : Nat) : Array Value := #[.string ⟨#[97, 100, 100]⟩, .string ⟨#[40, 73, 73, 41, 73]⟩, .bool true, .bool false, .bool false, .int .i64 2, .slice (some ⟨b, 0, none⟩) 4 4, .slice none 0 0]
def clsCells (b : Nat) : Array Value := #[.string ⟨#[65]⟩, .string ⟨#[79, 98, 106, 101, 99, 116]⟩, .slice none 0 0, .bool false, .slice none 0 0, .slice (some ⟨b, 0, none⟩) 1 1]
theorem clsSl_add (w : World) (b0 b2 b3 : Nat) (h0 : w.heap[b0]? = some (.cells insCells 56 (0, 0)))
    (h2 : w.heap[b2]? = some (.cells (mthCells b0) 44 (0, 0))) (h3 : w.heap[b3]? = some (.cells (clsCells b2) 28 (0, 0))) :
    ClsSl w (.slice (some ⟨b3, 0, none⟩) 1 1) [addC] := by
  have hcell : ∀ {b : Nat} {c : Array Value} {t : Nat} {fz : Nat × Nat}, w.heap[b]? = some (.cells c t fz) → ∀ (o i : Nat) (u : Value), c[o + i]? = some u → w.cell? ⟨b, o + i, none⟩ = some u := by
    intro b c t fz h o i u hu
    have hlt : o + i < c.size := by
      rcases Nat.lt_or_ge (o + i) c.size with h' | h'
      · exact h'
      · rw [Array.getElem?_eq_none h'] at hu; cases hu
    rw [World.cell?, h]
    simpa using hu
  have hI : InsSl w (.slice (some ⟨b0, 0, none⟩) 4 4) addCode := by
    refine ⟨_, 4, rfl, by decide, by decide, fun j x hx => ⟨b0, 0, (insA x).toList, rfl, ?_, ?_⟩⟩
    · refine ⟨rfl, ?_⟩
      match j, hx with
      | 0, hx => injection hx with hx; subst hx; unfold InsSmall; decide
      | 1, hx => injection hx with hx; subst hx; unfold InsSmall; decide
      | 2, hx => injection hx with hx; subst hx; unfold InsSmall; decide
      | 3, hx => injection hx with hx; subst hx; unfold InsSmall; decide
      | (_ + 4), hx => simp [addCode] at hx
    · intro i u hu
      apply hcell h0
      match j, hx with
      | 0, hx => injection hx with hx; subst hx; match i, hu with
        | 0, hu => exact hu
        | 1, hu => exact hu
        | 2, hu => exact hu
        | 3, hu => exact hu
        | 4, hu => exact hu
        | 5, hu => exact hu
        | (_ + 6), hu => simp [insA] at hu
      | 1, hx => injection hx with hx; subst hx; match i, hu with
        | 0, hu => exact hu
        | 1, hu => exact hu
        | 2, hu => exact hu
        | 3, hu => exact hu
        | 4, hu => exact hu
        | 5, hu => exact hu
        | (_ + 6), hu => simp [insA] at hu
      | 2, hx => injection hx with hx; subst hx; match i, hu with
        | 0, hu => exact hu
        | 1, hu => exact hu
        | 2, hu => exact hu
        | 3, hu => exact hu
        | 4, hu => exact hu
        | 5, hu => exact hu
        | (_ + 6), hu => simp [insA] at hu
      | 3, hx => injection hx with hx; subst hx; match i, hu with
        | 0, hu => exact hu
        | 1, hu => exact hu
        | 2, hu => exact hu
        | 3, hu => exact hu
        | 4, hu => exact hu
        | 5, hu => exact hu
        | (_ + 6), hu => simp [insA] at hu
      | (_ + 4), hx => simp [addCode] at hx
  have hM : MethSl w (.slice (some ⟨b2, 0, none⟩) 1 1) [addM] := by
    refine ⟨_, 1, rfl, by decide, by decide, fun j x hx => ⟨b2, 0, (methA x (.slice (some ⟨b0, 0, none⟩) 4 4) (.slice none 0 0)).toList, rfl, ?_, ?_⟩⟩
    · match j, hx with
      | 0, hx =>
        injection hx with hx; subst hx
        exact ⟨_, _, rfl, hI, RowR.nil _ _ _ _ _ (Nat.zero_le _), by decide, by decide⟩
      | (_ + 1), hx => simp at hx
    · match j, hx with
      | 0, hx =>
        injection hx with hx; subst hx
        intro i u hu
        apply hcell h2
        match i, hu with
        | 0, hu => exact hu
        | 1, hu => exact hu
        | 2, hu => exact hu
        | 3, hu => exact hu
        | 4, hu => exact hu
        | 5, hu => exact hu
        | 6, hu => exact hu
        | 7, hu => exact hu
        | (_ + 8), hu => simp [methA] at hu
      | (_ + 1), hx => simp at hx
  refine ⟨_, 1, rfl, by decide, by decide, fun j x hx => ⟨b3, 0, (clsA x (.slice none 0 0) (.slice none 0 0) (.slice (some ⟨b2, 0, none⟩) 1 1)).toList, rfl, ?_, ?_⟩⟩
  · match j, hx with
    | 0, hx =>
      injection hx with hx; subst hx
      exact ⟨_, _, _, rfl, StrSl.nil _ _ _ (Nat.zero_le _), RowR.nil _ _ _ _ _ (Nat.zero_le _), hM, by decide, by decide, (fun f hf => by cases hf), by decide⟩
    | (_ + 1), hx => simp at hx
  · match j, hx with
    | 0, hx =>
      injection hx with hx; subst hx
      intro i u hu
      apply hcell h3
      match i, hu with
      | 0, hu => exact hu
      | 1, hu => exact hu
      | 2, hu => exact hu
      | 3, hu => exact hu
      | 4, hu => exact hu
      | 5, hu => exact hu
      | (_ + 6), hu => simp [clsA] at hu
    | (_ + 1), hx => simp at hx
def AdderPost (w : World) (e : Ending) (w' : World) : Prop := (∃ v, e = .returned v ∧ ClsSl w' v [addC]) ∧ Below w.heap.size w w'
set_option maxRecDepth 100000 in
set_option maxHeartbeats 4000000 in
theorem adder_any (w : World) : Calls Tryz.prog 19 #[] w (AdderPost w) := by
  have h4 := four_new w (.cells insCells 56) (.cells (mthCells w.heap.size) 44) (.cells (mthCells w.heap.size) 44) (.cells (clsCells (w.heap.size + 1 + 1)) 28)
  have H4 := Lib.hid h4
  clear h4
  go_enter Tryz.func19, Tryz.ntmps19
  go_wp2_with fail
  exact bodyPost_ret (v := .slice (some ⟨w.heap.size + 1 + 1 + 1, 0, none⟩) 1 1) (by simp [results, Tryz.results19, go_sem]) rfl ⟨⟨_, rfl, clsSl_add _ w.heap.size (w.heap.size + 1 + 1) (w.heap.size + 1 + 1 + 1) H4.out.1 H4.out.2.2.1 H4.out.2.2.2.1⟩, H4.out.2.2.2.2.2⟩
end Go.Proofs.YthcjjjpcjjondaaGreatDoor

/- TopStarts' first call: the adder gives five. -/
namespace Go.Proofs.YthcjjjpcjjondaaGreatDoor
open Go.RowKit
set_option linter.unusedVariables false
set_option linter.unusedSimpArgs false
set_option linter.unnecessarySimpa false

def argCells : Array Value := #[.int .i64 1, .int .i64 2, .int .i64 1, .int .i64 3]
def FiveOk (w : World) (e : Ending) (w' : World) : Prop := e = .returned (.bool true) ∧ Below w.heap.size w w'
set_option maxRecDepth 100000 in
set_option maxHeartbeats 4000000 in
theorem five_any (w : World) (hG : FormsLaid w) : Calls Tryz.prog 7 #[] w (FiveOk w) := by

  have HA := Lib.hid (adder_any w)
  have HG := Lib.hid hG
  clear hG
  go_enter Tryz.func7, Tryz.ntmps7
  go_wp2_with fail
  refine (HA.out).mono ?_
  rintro e w1 ⟨⟨v, rfl, hv⟩, hb⟩
  have hbn : Below w1.heap.size w1 (w1.alloc (.cells argCells 36)) := (Below.refl _ _).alloc (Nat.le_refl _) _
  have hN : (w1.alloc (.cells argCells 36)).heap[w1.heap.size]? = some (.cells argCells 36 (0, 0)) := by
    show (w1.heap.push _)[w1.heap.size]? = _
    simp
  have HC := Lib.hid (call_five v w1.heap.size _ (HG.out.below (bel_then hb hbn)) (hv.below mono_cls hbn) (cell_of hN) (cell_of hN) (cell_of hN) (cell_of hN))
  have HB := Lib.hid (bel_then hb hbn)
  clear hN hbn hb
  unfold argCells at *
  go_wp2_with fail
  refine (HC.out).mono ?_
  rintro e w2 ⟨rfl, hb2⟩
  have HB2 := Lib.hid (bel_then HB.out hb2)
  clear hb2
  go_wp2_with fail
  exact bodyPost_ret (v := .bool true) (by simp [results, Tryz.results7, go_sem]) rfl ⟨rfl, HB2.out.alloc (by have := HB2.out.size; omega) _⟩
end Go.Proofs.YthcjjjpcjjondaaGreatDoor

/- The statement TopStarts: what its function answers. -/
namespace Go.Proofs.YthcjjjpcjjondaaGreatDoor
open Go.RowKit
set_option linter.unusedVariables false
set_option linter.unusedSimpArgs false
set_option linter.unnecessarySimpa false

def OrdPost (l : List Cls) (w : World) (e : Ending) (w' : World) : Prop :=
  ((∃ k : Int, k ≠ 0 ∧ e = .returned (.tuple #[.slice none 0 0, .iface 53 (.int .i64 k)])) ∨
    ∃ b cap out, e = .returned (.tuple #[.slice (some ⟨b, 0, none⟩) out.length cap, .nilIface]) ∧ Started l out ∧ out.length ≤ cap ∧ cap ≤ maxLen ∧ ∀ (k : Nat) (hk : k < out.length), w'.cell? ⟨b, k, none⟩ = some (.string out[k])) ∧ Below w.heap.size w w'
theorem order_top (v uv : Value) (l : List Cls) (w : World) (hG : FormsLaid w) (hl : ClsSl w v l) (hu : StrSl w uv (l.map Cls.nm)) : Calls Tryz.prog 8 #[v, uv] w (OrdPost l w) := by
  have hlo : ∀ g : Good l, ∀ u ∈ l.map Cls.nm, LineOk (pw l) (lnF (pw l)) u := by
    intro g u hu
    obtain ⟨c, hc, rfl⟩ := List.mem_map.1 hu
    exact ⟨200, lnF_spec g hc, by decide⟩
  refine (order_any v uv l (l.map Cls.nm) (lnF (pw l)) (evF (pw l)) w hG hl hu ?_ ?_ ?_).mono ?_
  · intro h1 h2 h3 c hc a ha
    exact evOk_all h1 h2 a
  · intro h _
    exact hlo (good_of h)
  · intro h _
    exact order_small (good_of h)
  · rintro e w' ⟨h, hb⟩
    refine ⟨?_, hb⟩
    by_cases hz : orderErr (evF (pw l)) l (l.map Cls.nm) = 0
    · rw [if_pos hz] at h
      obtain ⟨v, rfl, hv⟩ := h
      have hr : readErr (evF (pw l)) l = 0 := by
        unfold orderErr at hz
        split at hz
        · rename_i h1; exact absurd hz h1
        · rename_i h1; exact Decidable.not_not.1 h1
      have g := good_of hr
      have hS := started g
      generalize orderFrom (lnF (pw l)) [sObject] (l.map Cls.nm) = out at *
      have hpos : 0 < out.length := by have := hS.many; omega
      obtain ⟨b, cap, rfl⟩ := own_form hv hpos
      obtain ⟨A', cap', he, h1, h2⟩ := (own_strs hv).form
      injection he with _ _ e3
      subst e3
      refine .inr ⟨b, cap, out, rfl, hS, h1, h2, ?_⟩
      intro k hk
      obtain ⟨b', off, e4, hc⟩ := (own_strs hv).at hk
      injection e4 with e4
      injection e4 with e5 e6 _
      subst e5 e6
      rw [Nat.zero_add] at hc
      exact hc
    · rw [if_neg hz, errV_ne hz] at h
      exact .inl ⟨_, hz, h⟩
def upTo (i k : Nat) : Int := if i < k then (i : Int) else -1
theorem upTo_step {i k : Nat} (h : k ≠ i) : upTo i k = upTo i (k + 1) := by
  unfold upTo
  by_cases h1 : i < k
  · rw [if_pos h1, if_pos (by omega)]
  · rw [if_neg h1, if_neg (by omega)]
theorem upTo_at (k : Nat) : (k : Int) = upTo k (k + 1) := by unfold upTo; rw [if_pos (by omega)]
def manyTo (i k : Nat) : Int := if i < k then 1 else 0
theorem manyTo_step {i k : Nat} (h : k ≠ i) : manyTo i k = manyTo i (k + 1) := by
  unfold manyTo
  by_cases h1 : i < k
  · rw [if_pos h1, if_pos (by omega)]
  · rw [if_neg h1, if_neg (by omega)]
theorem manyTo_at (k : Nat) : manyTo k k = 0 ∧ manyTo k (k + 1) = 1 := by unfold manyTo; simp
theorem wrap64_one : wrap64 (0 + 1) = 1 := by unfold wrap64; omega
def TopOk (w : World) (e : Ending) (w' : World) : Prop := e = .returned (.bool true) ∧ Below w.heap.size w w'
set_option maxRecDepth 100000 in
set_option maxHeartbeats 4000000 in
theorem topStarts_any (v : Value) (l : List Cls) (w : World) (hG : FormsLaid w) (hl : ClsSl w v l) (hlen : l.length ≤ 1048576) :
    Calls Tryz.prog 3 #[v] w (TopOk w) := by
  have HF := Lib.hid (five_any w hG)
  have HL := Lib.hid hl
  obtain ⟨lA, lc, rfl, hl1, hl2⟩ := hl.form
  unfold maxLen at hl2
  have HCC : Hid (∀ (k : Nat) (hk : k < l.length), ∃ b off fv gv mv, lA = some ⟨b, off, none⟩ ∧ Cls6 w b (off + k * 6) l[k] fv gv mv) := by
    apply Lib.hid
    intro k hk
    obtain ⟨b, off, cap, he, _, _, h4⟩ := hl.some (by intro e; rw [e] at hk; simp at hk)
    injection he with e1 _ _
    obtain ⟨fv, gv, mv, h6, _⟩ := h4 k hk
    exact ⟨b, off, fv, gv, mv, e1, h6⟩
  have HG := Lib.hid hG
  clear hl hG
  go_enter Tryz.func3, Tryz.ntmps3
  go_wp2_with fail
  refine (HF.out).mono ?_
  rintro e w1 ⟨rfl, hb1⟩
  go_wp2_with fail
  go_loopw [4, 5] (fun v i wr => ∃ (k : Nat), i = .int .i64 k ∧ k ≤ l.length ∧ wr.ownsRow w1.heap.size 9 1 v ((l.take k).map Cls.nm).length (strCells ((l.take k).map Cls.nm)) ∧ Below w1.heap.size w1 wr) (fun _ i _ => l.length - (intOf i).toNat)
  case atStart => exact ⟨0, rfl, Nat.zero_le _, own_nil _ _ _ _, Below.refl _ _⟩
  case round =>
    obtain ⟨k, rfl, hk, hown, hb⟩ := hrel
    by_cases hkn : k < l.length
    · obtain ⟨cb, co, fv, gv, mv, rfl, h6⟩ := HCC.out k hkn
      obtain ⟨c0, c1, _, _, _, _⟩ := h6.below (hb1.trans (hb.mono hb1.size))
      have HT : Hid ((l.take (k + 1)).map Cls.nm = (l.take k).map Cls.nm ++ [l[k].nm]) := by
        apply Lib.hid
        rw [List.take_succ_eq_append_getElem hkn, List.map_append]; rfl
      have htl : ((l.take k).map Cls.nm).length = k := by simp; omega
      generalize l[k] = x at *
      generalize (l.take k).map Cls.nm = cur at *
      have HO := Lib.hid hown
      clear h6 hown
      go_wp2_with (at_builtin; go_loud (refine append_str w1.heap.size rfl _ _ rfl u4 cur _ rfl rfl HO.out hb hb.size (by omega) ?_))
      intro v1 w4 hown4 hb4 hg4 hat4
      have HO4 := Lib.hid hown4
      clear hown4 hat4
      go_wp2
      go_roundw
      case rel =>
        refine ⟨k + 1, by go_num, by omega, ?_, hb4⟩
        rw [HT.out, List.length_append]
        have hx : cur.length + [x.nm].length = k + 1 := by simp; omega
        rw [hx]; exact HO4.out
      case measure => simp [intOf]; omega
    · have hke : k = l.length := by omega
      rw [hke, List.take_length] at hown
      have hB := hb1.trans (hb.mono hb1.size)
      have HOT := Lib.hid (order_top _ _ l wr (HG.out.below hB) (HL.out.below mono_cls hB) (own_strs hown))
      clear hown hke
      go_wp2_with fail
      refine (HOT.out).mono ?_
      rintro e w2 ⟨hres, hb2⟩
      have HB2 := Lib.hid (hB.trans (hb2.mono hB.size))
      clear HOT
      rcases hres with ⟨kk, hkk, rfl⟩ | ⟨ob, ocap, out, rfl, hS, ho1, ho2, hoc⟩
      · clear HG HL HCC
        go_wp2
        go_ret
        exact ⟨rfl, HB2.out⟩
      · have HS := Lib.hid hS
        have HOC := Lib.hid hoc
        have hol := hS.small
        unfold maxLen at ho2
        clear hS hoc hb2 hB HG HL
        go_wp2
        go_loopw [8] (fun i wr => ∃ k : Nat, i = .int .i64 k ∧ k ≤ l.length ∧ Below w2.heap.size w2 wr) (fun i _ => l.length - (intOf i).toNat)
        case atStart => exact ⟨0, rfl, Nat.zero_le _, Below.refl _ _⟩
        case round =>
          clear hb
          obtain ⟨k, rfl, hk, hb⟩ := hrel
          by_cases hkn : k < l.length
          · obtain ⟨cb, co, fv, gv, mv, rfl, h6⟩ := HCC.out k hkn
            obtain ⟨i, j, hji, hi, hui, huj⟩ := HS.out.at_ l[k] (List.getElem_mem hkn)
            have HX : Hid (∀ w3, Below w2.heap.size w2 w3 → w3.cell? ⟨cb, co + k * 6, none⟩ = some (.string l[k].nm) ∧ w3.cell? ⟨cb, co + k * 6 + 1, none⟩ = some (.string l[k].super)) := by
              apply Lib.hid
              intro w3 h3
              have h := h6.below (HB2.out.trans (h3.mono HB2.out.size))
              exact ⟨h.1, h.2.1⟩
            have HU := Lib.hid hui
            have HV := Lib.hid huj
            clear h6 hui huj
            generalize l[k] = c at *
            go_wp2
            go_loopw [9, 10, 11, 12] (fun own up many q wr => ∃ m : Nat, own = .int .i64 (upTo i m) ∧ up = .int .i64 (upTo j m) ∧ many = .int .i64 (manyTo i m) ∧ q = .int .i64 m ∧ m ≤ out.length ∧ Below w2.heap.size w2 wr) (fun _ _ _ q _ => out.length - (intOf q).toNat)
            case atStart => exact ⟨0, rfl, rfl, rfl, rfl, Nat.zero_le _, hb⟩
            case round =>
              clear hb
              obtain ⟨m, rfl, rfl, rfl, rfl, hm, hb⟩ := hrel
              by_cases hmn : m < out.length
              · obtain ⟨c0, c1⟩ := HX.out wr hb
                have HD : Hid (∀ w3, Below w2.heap.size w2 w3 → w3.cell? ⟨ob, m, none⟩ = some (.string out[m])) := by
                  apply Lib.hid
                  intro w3 h3
                  exact cell_below h3 (HOC.out m hmn)
                have HUm := Lib.hid (HU.out m hmn)
                have HVm := Lib.hid (HV.out m hmn)
                generalize out[m] = y at *
                have d0 := HD.out wr hb
                by_cases hmi : m = i
                · have hy : y = c.nm := HUm.out.2 hmi
                  have hz : ¬ y = c.super := fun e => by have := HVm.out.1 e; omega
                  have HN : Hid (¬ m = j) := by apply Lib.hid; omega
                  rw [hy] at d0 hz
                  have hzb : (c.nm.toList == c.super.toList) = false := by rw [toList_beq]; exact decide_eq_false hz
                  have HMI := Lib.hid hmi
                  have HY := Lib.hid hy
                  clear hy hmi hji hz
                  go_upto_region 21 with (fail)
                  go_quiet (fail)
                  have hbq := bel_drewN hb nq
                  generalize wr.drewN nq = wq at *
                  clear c0 c1 d0
                  obtain ⟨c0, c1⟩ := HX.out wq hbq
                  have d0 := HD.out wq hbq
                  rw [HY.out] at d0
                  go_upto_region 24 with (fail)
                  go_quiet (fail)
                  have hbq2 := bel_drewN hbq nq
                  generalize wq.drewN nq = wq2 at *
                  clear c0 c1 d0 hbq hb
                  have E1 : Hid ((m : Int) = upTo i (m + 1)) := by apply Lib.hid; rw [HMI.out]; exact upTo_at i
                  have E2 : Hid (upTo j m = upTo j (m + 1)) := Lib.hid (upTo_step HN.out)
                  have E3 : Hid (wrap64 (manyTo i m + 1) = manyTo i (m + 1)) := by apply Lib.hid; rw [HMI.out, (manyTo_at i).1, (manyTo_at i).2]; exact wrap64_one
                  clear HMI HN
                  go_wp2
                  go_roundw
                  case rel => exact ⟨m + 1, by rw [E1.out], by rw [E2.out], by rw [E3.out], by go_num, by omega, hbq2⟩
                  case measure => simp [intOf]; omega
                · have hyn : ¬ y = c.nm := fun e => hmi (HUm.out.1 e)
                  have hynb : (y.toList == c.nm.toList) = false := by rw [toList_beq]; exact decide_eq_false hyn
                  have E1 : Hid (upTo i m = upTo i (m + 1)) := Lib.hid (upTo_step hmi)
                  have E3 : Hid (manyTo i m = manyTo i (m + 1)) := Lib.hid (manyTo_step hmi)
                  clear hyn hmi hji
                  go_upto_region 21 with (fail)
                  go_quiet (fail)
                  have hbq := bel_drewN hb nq
                  generalize wr.drewN nq = wq at *
                  clear c0 c1 d0
                  obtain ⟨c0, c1⟩ := HX.out wq hbq
                  have d0 := HD.out wq hbq
                  by_cases hmj : m = j
                  · have hy : y = c.super := HVm.out.2 hmj
                    rw [hy] at d0
                    have E2 : Hid ((m : Int) = upTo j (m + 1)) := by apply Lib.hid; rw [hmj]; exact upTo_at j
                    clear hmj hy hynb
                    go_upto_region 24 with (fail)
                    go_quiet (fail)
                    have hbq2 := bel_drewN hbq nq
                    generalize wq.drewN nq = wq2 at *
                    clear c0 c1 d0 hbq hb
                    go_wp2
                    go_roundw
                    case rel => exact ⟨m + 1, by rw [E1.out], by rw [E2.out], by rw [E3.out], by go_num, by omega, hbq2⟩
                    case measure => simp [intOf]; omega
                  · have hyn : ¬ y = c.super := fun e => hmj (HVm.out.1 e)
                    have hynb2 : (y.toList == c.super.toList) = false := by rw [toList_beq]; exact decide_eq_false hyn
                    have E2 : Hid (upTo j m = upTo j (m + 1)) := Lib.hid (upTo_step hmj)
                    clear hyn hmj hynb
                    go_upto_region 24 with (fail)
                    go_quiet (fail)
                    have hbq2 := bel_drewN hbq nq
                    generalize wq.drewN nq = wq2 at *
                    clear c0 c1 d0 hbq hb
                    go_wp2
                    go_roundw
                    case rel => exact ⟨m + 1, by rw [E1.out], by rw [E2.out], by rw [E3.out], by go_num, by omega, hbq2⟩
                    case measure => simp [intOf]; omega
              · have hme : m = out.length := by omega
                have e1 : Hid (upTo i m = (i : Int)) := by apply Lib.hid; unfold upTo; rw [if_pos (by omega)]
                have e2 : Hid (upTo j m = (j : Int)) := by apply Lib.hid; unfold upTo; rw [if_pos (by omega)]
                have e3 : Hid (manyTo i m = 1) := by apply Lib.hid; unfold manyTo; rw [if_pos (by omega)]
                rw [e1.out, e2.out, e3.out]
                have hj1 : ¬ (j : Int) < 0 := by omega
                have hj2 : ¬ (i : Int) ≤ (j : Int) := by omega
                clear hme
                go_wp2
                go_roundw
                case rel => exact ⟨k + 1, by go_num, by omega, hb⟩
                case measure => simp [intOf]; omega
          · have hke : k = l.length := by omega
            have hpos : 0 < out.length := by have := HS.out.many; omega
            have d0 := cell_below hb (HOC.out 0 hpos)
            have hh : out[0] = sObject := by
              have := HS.out.head
              rw [List.getElem?_eq_getElem hpos] at this
              injection this
            rw [hh] at d0
            unfold sObject at d0
            have hmany : ((l.length : Int) + 1) ≤ (out.length : Int) := by have := HS.out.many; omega
            have HBF := Lib.hid (HB2.out.trans (hb.mono HB2.out.size))
            clear hke hh
            go_wp2
            go_ret
            exact ⟨rfl, HBF.out⟩
end Go.Proofs.YthcjjjpcjjondaaGreatDoor
