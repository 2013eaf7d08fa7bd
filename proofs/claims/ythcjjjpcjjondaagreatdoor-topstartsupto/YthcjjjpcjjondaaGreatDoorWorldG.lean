/- Worlds: Read. -/
import Derived.Test.YthcjjjpcjjondaaGreatDoorKeptF
namespace Go.Proofs.YthcjjjpcjjondaaGreatDoor
open Go.RowKit
set_option linter.unusedVariables false
set_option linter.unusedSimpArgs false
set_option linter.unnecessarySimpa false

theorem addErr_drop {L : PW} {l : List Cls} {k : Nat} (hk : k < l.length) : addErr (L ++ (l.take k).map pairOf) (l.drop k) = if classErr l[k] ≠ 0 then classErr l[k] else if hasK (L ++ (l.take k).map pairOf) l[k].nm then 5 else addErr (L ++ (l.take (k + 1)).map pairOf) (l.drop (k + 1)) := by
  rw [List.drop_eq_getElem_cons hk, List.take_succ_eq_append_getElem hk, List.map_append, ← List.append_assoc]; rfl
theorem joinErrs_drop {L : PW} {l : List Cls} {k : Nat} (hk : k < l.length) : joinErrs L (l.drop k) = if joinedErr L l[k] ≠ 0 then joinedErr L l[k] else joinErrs L (l.drop (k + 1)) := by
  rw [List.drop_eq_getElem_cons hk]; rfl
theorem roundAny_drop {L : PW} {evf : Str → List Str} {l : List Cls} {k : Nat} (hk : k < l.length) : roundAny L evf (l.drop k) = (roundB L evf l[k].nm || roundAny L evf (l.drop (k + 1))) := by
  rw [List.drop_eq_getElem_cons hk]; rfl
def ReadPost (evf : Str → List Str) (l : List Cls) (w : World) (e : Ending) (w' : World) : Prop :=
  (if readErr evf l = 0 then ∃ r, e = .returned (.tuple #[.map (some r), .nilIface]) ∧ MapAt w' r (pw l) else e = .returned (.tuple #[.map none, errV (readErr evf l)])) ∧ Below w.heap.size w w'
theorem rp_bad {evf : Str → List Str} {l : List Cls} {w w' : World} {k : Int} {v : Value} (h : readErr evf l = k) (hk : k ≠ 0) (hv : v = .tuple #[.map none, .iface 53 (.int .i64 k)]) (hb : Below w.heap.size w w') : ReadPost evf l w (.returned v) w' := by
  unfold ReadPost
  rw [h, if_neg hk, hv, errV_ne hk]
  exact ⟨rfl, hb⟩
theorem rp_good {evf : Str → List Str} {l : List Cls} {w w' : World} {r : Nat} (h : readErr evf l = 0) (hm : MapAt w' r (pw l)) (hb : Below w.heap.size w w') : ReadPost evf l w (.returned (.tuple #[.map (some r), .nilIface])) w' := by
  unfold ReadPost
  rw [if_pos h]
  exact ⟨⟨r, rfl, hm⟩, hb⟩

set_option maxRecDepth 100000 in
set_option maxHeartbeats 4000000 in
theorem read_any (v : Value) (l : List Cls) (evf : Str → List Str) (w : World) (hG : FormsLaid w) (hl : ClsSl w v l)
    (hev : l.length ≤ 10 → addErr firstL l = 0 → joinErrs (pw l) l = 0 → ∀ c ∈ l, EvOk (pw l) evf (above (pw l) c.nm)) :
    Calls Tryz.prog 20 #[v] w (ReadPost evf l w) := by
  have HF : Hid (readErr evf l = if 10 < l.length then 4
    else if addErr firstL l ≠ 0 then addErr firstL l
    else if joinErrs (pw l) l ≠ 0 then joinErrs (pw l) l
    else if roundAny (pw l) evf l then 6
    else 0) := Lib.hid rfl
  obtain ⟨A, cap, rfl, h1, h2⟩ := hl.form
  unfold maxLen at h2
  have HL := Lib.hid hl
  have HG := Lib.hid hG
  have HEV := Lib.hid hev
  clear hl hG hev
  by_cases h10 : 10 < l.length
  · have H : Hid (readErr evf l = 4) := by apply Lib.hid; rw [HF.out, if_pos h10]
    have h10' : (10 : Int) < (l.length : Int) := by omega
    clear HF h10
    go_enter Tryz.func20, Tryz.ntmps20
    go_wp2
    go_ret2
    exact rp_bad H.out (by decide) rfl (Below.refl _ _)
  have HF1 : Hid (readErr evf l = if addErr firstL l ≠ 0 then addErr firstL l
    else if joinErrs (pw l) l ≠ 0 then joinErrs (pw l) l
    else if roundAny (pw l) evf l then 6
    else 0) := by apply Lib.hid; rw [HF.out, if_neg h10]
  have h10' : ¬ (10 : Int) < (l.length : Int) := by omega
  have HLC : Hid (∀ (k : Nat) (hk : k < l.length), ∃ b off fv gv mv, A = some ⟨b, off, none⟩ ∧ Cls6 w b (off + k * 6) l[k] fv gv mv ∧ ClsP w l[k] fv gv mv) := by
    apply Lib.hid
    intro k hk
    obtain ⟨b, off, cap', he, _, _, hc⟩ := ClsSl.some HL.out (by intro e; rw [e] at hk; simp at hk)
    injection he with e1 _ _
    obtain ⟨fv, gv, mv, h1, h2⟩ := hc k hk
    exact ⟨b, off, fv, gv, mv, e1, h1, h2⟩
  clear HF h10
  go_enter Tryz.func20, Tryz.ntmps20
  go_wp2_with fail
  refine (first_any _).mono ?_
  rintro e w1 ⟨r, rfl, hm1, hr, hb1⟩
  have HM1 := Lib.hid hm1
  clear hm1
  go_wp2
  go_loopw [22] (fun i wr => ∃ k : Nat, i = .int .i64 k ∧ k ≤ l.length ∧ Below w.heap.size w wr ∧ MapAt wr r (firstL ++ (l.take k).map pairOf) ∧ Hid (addErr firstL l = addErr (firstL ++ (l.take k).map pairOf) (l.drop k))) (fun i _ => l.length - (intOf i).toNat)
  case atStart => exact ⟨0, rfl, Nat.zero_le _, hb1, by simpa using HM1.out, by simp [Hid]⟩
  case round =>
    clear HM1 hb1
    obtain ⟨k, rfl, hk, hb, hm, HE⟩ := hrel
    have HM := Lib.hid hm
    clear hm
    by_cases hkn : k < l.length
    · obtain ⟨b, off, fv, gv, mv, rfl, h6, hcp⟩ := HLC.out k hkn
      obtain ⟨fA, fc, gA, gc, mA, mc, rfl, rfl, rfl⟩ := hcp.forms
      obtain ⟨c0, c1, c2, c3, c4, c5⟩ := h6.below hb
      have HST := Lib.hid (addErr_drop (L := firstL) hkn)
      have HTK : Hid ((l.take (k + 1)).map pairOf = (l.take k).map pairOf ++ [pairOf l[k]]) := by apply Lib.hid; rw [List.take_succ_eq_append_getElem hkn, List.map_append]; rfl
      have HCP := Lib.hid hcp
      generalize l[k] = c at *
      clear h6 hcp
      have hbx := cbox_new wr c (.slice fA c.faces.length fc) (.slice gA c.fields.length gc) (.slice mA c.meths.length mc)
      have hbb := hb.alloc hb.size (.cells (clsA c (.slice fA c.faces.length fc) (.slice gA c.fields.length gc) (.slice mA c.meths.length mc)) 28)
      have hbi := (Below.refl wr.heap.size wr).alloc (Nat.le_refl _) (.cells (clsA c (.slice fA c.faces.length fc) (.slice gA c.fields.length gc) (.slice mA c.meths.length mc)) 28)
      have hz : wr.heap.size < (wr.alloc (.cells (clsA c (.slice fA c.faces.length fc) (.slice gA c.fields.length gc) (.slice mA c.meths.length mc)) 28)).heap.size := by simp
      unfold clsA at hbx hbb hbi hz
      go_upto_region 7 with (fail)
      generalize wr.alloc (.cells #[.string c.nm, .string c.super, .slice fA c.faces.length fc, .bool c.face, .slice gA c.fields.length gc, .slice mA c.meths.length mc] 28) = W1 at *
      have HBX := Lib.hid hbx
      obtain ⟨e0, e1, e2, e3, e4, e5⟩ := hbx.zero
      clear c0 c1 c2 c3 c4 c5 hbx
      go_wp2_with fail
      refine (classCheck_any c _ _ _ W1 (HG.out.below hbb) (HCP.out.below hbb)).mono ?_
      rintro e w2 ⟨rfl, hb2⟩
      have hB2 := bel_then hbb hb2
      by_cases hz0 : classErr c = 0
      case neg =>
        rw [errV_ne hz0]
        have H : Hid (readErr evf l = classErr c) := by
          apply Lib.hid
          have e : addErr firstL l = classErr c := by rw [HE.out, HST.out, if_pos hz0]
          rw [HF1.out, e, if_pos hz0]
        have HZ := Lib.hid hz0
        generalize classErr c = er at *
        clear HE HST HF1 hz0
        go_wp2
        go_ret2
        exact rp_bad H.out HZ.out rfl hB2
      rw [hz0, errV_0]
      have HST2 := HST.out
      rw [if_neg (by rw [hz0]; simp)] at HST2
      replace HST2 := Lib.hid HST2
      clear HST hz0 e0 e1 e2 e3 e4 e5
      have hm2 := (HM.out.below hbi).below hb2
      obtain ⟨fv3, gv3, mv3, hP3, _, hrun⟩ := lookupW hm2.wmap c.nm
      obtain ⟨fA3, fc3, gA3, gc3, mA3, mc3, rfl, rfl, rfl⟩ := hP3.forms
      unfold clsA at hrun
      generalize getC (firstL ++ (l.take k).map pairOf) c.nm = c3 at *
      have HM2 := Lib.hid hm2
      clear hP3 hm2
      obtain ⟨e0, e1, e2, e3, e4, e5⟩ := (HBX.out.below hb2).zero
      have hz2 : wr.heap.size < w2.heap.size := Nat.lt_of_lt_of_le hz hb2.size
      have HB3 : ∀ o, Below w.heap.size w (w2.alloc o) := fun o => hB2.alloc hB2.size o
      cases hkx : hasK (firstL ++ (l.take k).map pairOf) c.nm
      case true =>
        rw [hkx] at hrun
        have H : Hid (readErr evf l = 5) := by
          apply Lib.hid
          have e : addErr firstL l = 5 := by rw [HE.out, HST2.out, if_pos hkx]
          rw [HF1.out, e]; rfl
        clear HE HST2 HF1 hkx
        go_wp2
        go_ret2
        exact rp_bad H.out (by decide) rfl (HB3 _)
      case false =>
        rw [hkx] at hrun
        have HE' : Hid (addErr firstL l = addErr (firstL ++ (l.take (k + 1)).map pairOf) (l.drop (k + 1))) := by apply Lib.hid; rw [HE.out, HST2.out, if_neg (by rw [hkx]; simp)]
        have hba := (Below.refl w2.heap.size w2).alloc (Nat.le_refl _) (.cells #[.string c3.nm, .string c3.super, .slice fA3 c3.faces.length fc3, .bool c3.face, .slice gA3 c3.fields.length gc3, .slice mA3 c3.meths.length mc3] 28)
        obtain ⟨W4, hr4, hm4, hg4, _, _⟩ := update_new (HM2.out.below hba) c.nm hkx c _ _ _ (HCP.out.below (HB3 (.cells #[.string c3.nm, .string c3.super, .slice fA3 c3.faces.length fc3, .bool c3.face, .slice gA3 c3.fields.length gc3, .slice mA3 c3.meths.length mc3] 28)))
        have hB4 := (HB3 (.cells #[.string c3.nm, .string c3.super, .slice fA3 c3.faces.length fc3, .bool c3.face, .slice gA3 c3.fields.length gc3, .slice mA3 c3.meths.length mc3] 28)).grown hg4 (HB3 _).size (fun k e => by injection e with e; omega)
        have HM4 : Hid (MapAt W4 r (firstL ++ (l.take (k + 1)).map pairOf)) := by
          apply Lib.hid
          rw [HTK.out, ← List.append_assoc]
          exact hm4
        unfold clsA at hr4
        clear HE HST2 hkx hm4 hg4
        go_wp2
        go_roundw
        case rel => exact ⟨k + 1, by go_num, by omega, hB4, HM4.out, HE'⟩
        case measure => simp [intOf]; omega
    · have hke : k = l.length := by omega
      have ha0 : Hid (addErr firstL l = 0) := by apply Lib.hid; rw [HE.out, hke, List.drop_length]; rfl
      have HF2 : Hid (readErr evf l = if joinErrs (pw l) l ≠ 0 then joinErrs (pw l) l
        else if roundAny (pw l) evf l then 6
        else 0) := by apply Lib.hid; rw [HF1.out, ha0.out]; rfl
      have HMP : Hid (MapAt wr r (pw l)) := by
        apply Lib.hid
        have := HM.out
        rw [hke, List.take_length] at this
        exact this
      clear HE HF1 HM hke
      generalize hpl : pw l = L at *
      have HPL := Lib.hid hpl
      clear hpl
      go_wp2
      clear hk hkn
      obtain ⟨wo, hwo⟩ : ∃ wo : World, wo = wr := ⟨_, rfl⟩
      have HMO : Hid (MapAt wo r L) := by rw [hwo]; exact HMP
      have hbo : Below w.heap.size w wo := by rw [hwo]; exact hb
      have HWO := Lib.hid hwo
      clear HMP hb hwo
      go_loopw [47] (fun i wr => ∃ k : Nat, i = .int .i64 k ∧ k ≤ l.length ∧ Below wo.heap.size wo wr ∧ Hid (joinErrs L l = joinErrs L (l.drop k))) (fun i _ => l.length - (intOf i).toNat)
      case atStart => exact ⟨0, rfl, Nat.zero_le _, by rw [← HWO.out]; exact Below.refl _ _, rfl⟩
      case round =>
        obtain ⟨k, rfl, hk, hb, HE⟩ := hrel
        have hB := bel_then hbo hb
        by_cases hkn : k < l.length
        · obtain ⟨b, off, fv, gv, mv, rfl, h6, hcp⟩ := HLC.out k hkn
          obtain ⟨fA, fc, gA, gc, mA, mc, rfl, rfl, rfl⟩ := hcp.forms
          obtain ⟨c0, c1, c2, c3, c4, c5⟩ := h6.below hB
          have HST := Lib.hid (joinErrs_drop (L := L) hkn)
          have HCP := Lib.hid hcp
          generalize l[k] = c at *
          clear h6 hcp
          have hbb : ∀ o, Below wo.heap.size wo (wr.alloc o) := fun o => hb.alloc hb.size o
          go_wp2_with fail
          refine (joined_any _ L c _ _ _ _ ((HMO.out.below (hbb _)).wmap) (HCP.out.below (bel_then hbo (hbb _)))).mono ?_
          rintro e w3 ⟨rfl, hb3⟩
          have hb03 := bel_then (hbb _) hb3
          by_cases hz : joinedErr L c = 0
          · rw [hz, errV_0]
            have HE' : Hid (joinErrs L l = joinErrs L (l.drop (k + 1))) := by apply Lib.hid; rw [HE.out, HST.out, if_neg (by rw [hz]; simp)]
            clear HE HST hz
            go_wp2
            go_roundw
            case rel => exact ⟨k + 1, by go_num, by omega, hb03, HE'⟩
            case measure => simp [intOf]; omega
          · rw [errV_ne hz]
            have H : Hid (readErr evf l = joinedErr L c) := by
              apply Lib.hid
              have e : joinErrs L l = joinedErr L c := by rw [HE.out, HST.out, if_pos hz]
              rw [HF2.out, e, if_pos hz]
            have HZ := Lib.hid hz
            generalize joinedErr L c = er at *
            clear HE HST HF2 hz
            go_wp2
            go_ret2
            exact rp_bad H.out HZ.out rfl (bel_then hbo hb03)
        · have hke : k = l.length := by omega
          have hj0 : Hid (joinErrs L l = 0) := by apply Lib.hid; rw [HE.out, hke, List.drop_length]; rfl
          have HF3 : Hid (readErr evf l = if roundAny L evf l then 6 else 0) := by apply Lib.hid; rw [HF2.out, hj0.out]; rfl
          have HEV2 : Hid (∀ c ∈ l, EvOk L evf (above L c.nm)) := by
            apply Lib.hid
            exact HEV.out (by omega) ha0.out hj0.out
          have hbk := hb
          clear HE HF2 hke HEV
          go_wp2
          clear hk hkn hb hB
          go_loopw [60] (fun i wr => ∃ k : Nat, i = .int .i64 k ∧ k ≤ l.length ∧ Below wo.heap.size wo wr ∧ Hid (roundAny L evf l = roundAny L evf (l.drop k))) (fun i _ => l.length - (intOf i).toNat)
          case atStart => exact ⟨0, rfl, Nat.zero_le _, hbk, rfl⟩
          case round =>
            clear hbk
            obtain ⟨k, rfl, hk, hb, HE⟩ := hrel
            have hB := bel_then hbo hb
            by_cases hkn : k < l.length
            · obtain ⟨b, off, fv, gv, mv, rfl, h6, hcp⟩ := HLC.out k hkn
              obtain ⟨fA, fc, gA, gc, mA, mc, rfl, rfl, rfl⟩ := hcp.forms
              obtain ⟨c0, c1, c2, c3, c4, c5⟩ := h6.below hB
              have HST := Lib.hid (roundAny_drop (L := L) (evf := evf) hkn)
              have HEVC := Lib.hid (HEV2.out l[k] (List.getElem_mem hkn))
              generalize l[k] = c at *
              clear h6 hcp
              have hbb : ∀ o, Below wo.heap.size wo (wr.alloc o) := fun o => hb.alloc hb.size o
              go_wp2_with fail
              refine (round_any _ L c.nm evf _ ((HMO.out.below (hbb _)).wmap) HEVC.out).mono ?_
              rintro e w3 ⟨rfl, hb3⟩
              have hb03 := bel_then (hbb _) hb3
              cases hz : roundB L evf c.nm
              · have HE' : Hid (roundAny L evf l = roundAny L evf (l.drop (k + 1))) := by apply Lib.hid; rw [HE.out, HST.out, hz]; rfl
                clear HE HST hz
                go_wp2
                go_roundw
                case rel => exact ⟨k + 1, by go_num, by omega, hb03, HE'⟩
                case measure => simp [intOf]; omega
              · have H : Hid (readErr evf l = 6) := by
                  apply Lib.hid
                  have e : roundAny L evf l = true := by rw [HE.out, HST.out, hz]; rfl
                  rw [HF3.out, e]; rfl
                clear HE HST HF3 hz
                go_wp2
                go_ret2
                exact rp_bad H.out (by decide) rfl (bel_then hbo hb03)
            · have hke : k = l.length := by omega
              have H : Hid (readErr evf l = 0) := by
                apply Lib.hid
                have e : roundAny L evf l = false := by rw [HE.out, hke, List.drop_length]; rfl
                rw [HF3.out, e]; rfl
              have HMR := Lib.hid (HMO.out.below hb)
              clear HE HF3 hke
              go_wp2
              go_ret2
              exact rp_good H.out (by rw [HPL.out]; exact HMR.out) hB
end Go.Proofs.YthcjjjpcjjondaaGreatDoor
