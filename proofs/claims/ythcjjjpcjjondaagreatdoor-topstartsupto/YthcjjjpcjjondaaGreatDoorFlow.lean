/- Code: what flow.Check computes. -/
import Derived.Test.YthcjjjpcjjondaaGreatDoorInsD
import Derived.Test.YthcjjjpcjjondaaGreatDoorPure
namespace Go.Proofs.YthcjjjpcjjondaaGreatDoor
open Go.RowKit
set_option linter.unusedVariables false
set_option linter.unusedSimpArgs false
set_option linter.unnecessarySimpa false

theorem firstErr_drop {l : List Ins} {k : Nat} (hk : k < l.length) : firstErr (l.drop k) = if insErr l[k] = 0 then firstErr (l.drop (k + 1)) else insErr l[k] := by
  rw [List.drop_eq_getElem_cons hk]; rfl
theorem jumpsOut_drop {l : List Ins} {n k : Nat} (hk : k < l.length) : jumpsOut n (l.drop k) = ((jumps l[k].op && decide ((n : Int) ≤ l[k].a)) || jumpsOut n (l.drop (k + 1))) := by
  rw [List.drop_eq_getElem_cons hk]; rfl

set_option maxRecDepth 100000 in
set_option maxHeartbeats 2000000 in
theorem flowCheck_any (v : Value) (l : List Ins) (w : World) (hG : FormsLaid w) (hl : InsSl w v l) : Calls Tryz.prog 31 #[v] w (ErrPost (flowErr l) w) := by
  by_cases h40 : 40 < l.length
  · have H : Hid (flowErr l = 4) := by apply Lib.hid; unfold flowErr; rw [if_pos h40]
    obtain ⟨A, cap, rfl, h2, h3⟩ := hl.form
    have h40' : (40 : Int) < (l.length : Int) := by omega
    clear hl hG h40
    go_enter Tryz.func31, Tryz.ntmps31
    go_wp2
    go_ret
    exact ep_mk H.out (by decide) rfl (Below.refl _ _)
  cases hlc : l with
  | nil =>
    subst hlc
    obtain ⟨A, cap, rfl, h3⟩ := hl.empty
    have H : Hid (flowErr [] = 8) := Lib.hid rfl
    clear hl hG h40
    go_enter Tryz.func31, Tryz.ntmps31
    go_wp2
    go_loop [14] (fun i => i = .int .i64 0) (fun _ => 0)
    case atStart => rfl
    case round =>
      subst hrel
      go_wp2
      go_loop [26] (fun i => i = .int .i64 0) (fun _ => 0)
      case atStart => rfl
      case round =>
        subst hrel
        go_wp2
        go_ret
        exact ep_mk H.out (by decide) rfl (Below.refl _ _)
  | cons x0 l0 =>
  have hne : l ≠ [] := by rw [hlc]; simp
  rw [← hlc]
  clear hlc x0 l0
  obtain ⟨b, off, cap, rfl, h2, h3, hcell⟩ := hl.some hne
  have h40' : ¬ (40 : Int) < (l.length : Int) := by omega
  have hn0 : 0 < l.length := List.length_pos_iff.2 hne
  obtain ⟨xl, hxl⟩ : ∃ x, l[l.length - 1]? = some x := ⟨_, List.getElem?_eq_getElem (Nat.sub_lt hn0 Nat.one_pos)⟩
  have HF : Hid (flowErr l = if firstErr l ≠ 0 then firstErr l else if jumpsOut l.length l then 2 else if ends xl.op then 0 else 8) := by
    apply Lib.hid
    unfold flowErr
    rw [if_neg h40, List.getLast?_eq_getElem?, hxl]
  have HXL := Lib.hid hxl
  clear hxl
  have HC := Lib.hid hcell
  have HG := Lib.hid hG
  have HNE := Lib.hid hne
  clear hl hG hcell h40 hne
  go_enter Tryz.func31, Tryz.ntmps31
  go_wp2
  go_loopw [14] (fun i wr => ∃ k : Nat, i = .int .i64 k ∧ k ≤ l.length ∧ Below w.heap.size w wr ∧ Hid (firstErr l = firstErr (l.drop k))) (fun i _ => l.length - (intOf i).toNat)
  case atStart => exact ⟨0, rfl, Nat.zero_le _, Below.refl _ _, rfl⟩
  case round =>
    obtain ⟨k, rfl, hk, hb, HE⟩ := hrel
    by_cases hkn : k < l.length
    · obtain ⟨h6, hs⟩ := HC.out k hkn
      obtain ⟨c0, c1, c2, c3, c4, c5⟩ := h6.below hb
      have HS := Lib.hid hs
      have HST := Lib.hid (firstErr_drop hkn)
      clear h6 hs
      generalize l[k] = x at *
      go_wp2_with fail
      refine (insCheck_any x _ ((HG.out.below hb).below ((Below.refl _ _).alloc (Nat.le_refl _) _)) HS.out).mono ?_
      rintro e w1 ⟨rfl, hb1⟩
      have HB1 := hb.trans ((bel_then ((Below.refl wr.heap.size wr).alloc (Nat.le_refl _) _) hb1).mono hb.size)
      by_cases hz : insErr x = 0
      · rw [hz, errV_0]
        have HE' : Hid (firstErr l = firstErr (l.drop (k + 1))) := by apply Lib.hid; rw [HE.out, HST.out, if_pos hz]
        clear HE HST hz
        go_wp2
        go_roundw
        case rel => exact ⟨k + 1, by go_num, by omega, HB1, HE'⟩
        case measure => simp [intOf]; omega
      · rw [errV_ne hz]
        have HE' : Hid (flowErr l = insErr x) := by
          apply Lib.hid
          have : firstErr l = insErr x := by rw [HE.out, HST.out, if_neg hz]
          rw [HF.out, this, if_pos hz]
        have HZ := Lib.hid hz
        generalize insErr x = er at *
        clear HE HST hz
        go_wp2
        go_ret
        exact ep_mk HE'.out HZ.out rfl HB1
    · have hke : k = l.length := by omega
      have HE0 : Hid (firstErr l = 0) := by apply Lib.hid; rw [HE.out, hke, List.drop_length]; rfl
      have HF2 : Hid (flowErr l = if jumpsOut l.length l then 2 else if ends xl.op then 0 else 8) := by
        apply Lib.hid; rw [HF.out, if_neg (by rw [HE0.out]; simp)]
      clear HE HF HE0 hke
      go_wp2
      go_loopw [26] (fun i wr2 => ∃ k2 : Nat, i = .int .i64 k2 ∧ k2 ≤ l.length ∧ Below w.heap.size w wr2 ∧ Hid (jumpsOut l.length l = jumpsOut l.length (l.drop k2))) (fun i _ => l.length - (intOf i).toNat)
      case atStart => exact ⟨0, rfl, Nat.zero_le _, hb, rfl⟩
      case round =>
        clear hb hk hkn
        obtain ⟨k2, rfl, hk2, hb2, HJ⟩ := hrel
        by_cases hkn2 : k2 < l.length
        · obtain ⟨h6, hs⟩ := HC.out k2 hkn2
          obtain ⟨c0, c1, c2, c3, c4, c5⟩ := h6.below hb2
          have HST := Lib.hid (jumpsOut_drop (n := l.length) hkn2)
          clear h6 hs
          generalize l[k2] = x at *
          go_wp2_with fail
          refine (jumps_any _ _).mono ?_
          rintro e w3 ⟨rfl, rfl⟩
          have HB3 := hb2.alloc hb2.size (.cells #[.int .i64 x.op, .int .i64 x.a, .int .i64 x.b, .string x.ty, .string x.cls, .string x.nm] 56)
          cases hj : jumps x.op
          · have HJ' : Hid (jumpsOut l.length l = jumpsOut l.length (l.drop (k2 + 1))) := by apply Lib.hid; rw [HJ.out, HST.out, hj]; rfl
            clear HJ HST hj
            go_wp2
            go_roundw
            case rel => exact ⟨k2 + 1, by go_num, by omega, HB3, HJ'⟩
            case measure => simp [intOf]; omega
          · by_cases hx : (l.length : Int) ≤ x.a
            · have HJ' : Hid (flowErr l = 2) := by apply Lib.hid; rw [HF2.out, HJ.out, HST.out, hj, decide_eq_true hx]; rfl
              clear HJ HST hj
              go_wp2
              go_ret
              exact ep_mk HJ'.out (by decide) rfl HB3
            · have HJ' : Hid (jumpsOut l.length l = jumpsOut l.length (l.drop (k2 + 1))) := by apply Lib.hid; rw [HJ.out, HST.out, hj, decide_eq_false hx]; rfl
              clear HJ HST hj
              go_wp2
              go_roundw
              case rel => exact ⟨k2 + 1, by go_num, by omega, HB3, HJ'⟩
              case measure => simp [intOf]; omega
        · have hke : k2 = l.length := by omega
          have HE2 : Hid (flowErr l = if ends xl.op then 0 else 8) := by
            apply Lib.hid; rw [HF2.out, HJ.out, hke, List.drop_length]; rfl
          clear HJ HF2 hke
          have hz0 : ((l.length : Int) == 0) = false := by rw [beq_eq_false_iff_ne]; omega
          have hlast := (HC.out (l.length - 1) (by omega)).1
          have hxe : l[l.length - 1]'(by omega) = xl := by have := HXL.out; rw [List.getElem?_eq_getElem (by omega)] at this; exact Option.some.inj this
          rw [hxe] at hlast
          obtain ⟨c0, _, _, _, _, _⟩ := hlast.below hb2
          have hw1 : ((l.length : Int) - 1).toNat = l.length - 1 := by omega
          have hw2 : (0 : Int) ≤ (l.length : Int) - 1 := by omega
          clear hxe hlast
          go_wp2_with fail
          refine (ends_any _ _).mono ?_
          rintro e w3 ⟨rfl, rfl⟩
          cases he : ends xl.op
          · have HE3 : Hid (flowErr l = 8) := by apply Lib.hid; rw [HE2.out, he]; rfl
            clear HE2 he
            go_wp2
            go_ret
            exact ep_mk HE3.out (by decide) rfl hb2
          · have HE3 : Hid (flowErr l = 0) := by apply Lib.hid; rw [HE2.out, he]; rfl
            clear HE2 he
            go_wp2
            go_ret
            exact ep_ok HE3.out rfl hb2
end Go.Proofs.YthcjjjpcjjondaaGreatDoor
