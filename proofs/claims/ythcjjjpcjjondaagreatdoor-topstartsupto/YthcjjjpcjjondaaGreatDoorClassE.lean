/- Classes by themselves: class.Check. -/
import Derived.Test.YthcjjjpcjjondaaGreatDoorStrC
namespace Go.Proofs.YthcjjjpcjjondaaGreatDoor
open Go.RowKit
set_option linter.unusedVariables false
set_option linter.unusedSimpArgs false
set_option linter.unnecessarySimpa false

def clsV (k : Cls) (fv gv mv : Value) : Value := .agg (clsA k fv gv mv)
theorem cbox_new (w : World) (k : Cls) (fv gv mv : Value) : Cls6 (w.alloc (.cells (clsA k fv gv mv) 28)) w.heap.size 0 k fv gv mv := by
  refine ⟨?_, ?_, ?_, ?_, ?_, ?_⟩ <;> exact World.cell?_alloc_new w (clsA k fv gv mv) 28 _
theorem Cls6.zero {w : World} {b : Nat} {k : Cls} {fv gv mv : Value} (h : Cls6 w b 0 k fv gv mv) :
  w.cell? ⟨b, 0, none⟩ = some (.string k.nm) ∧ w.cell? ⟨b, 1, none⟩ = some (.string k.super) ∧ w.cell? ⟨b, 2, none⟩ = some fv ∧ w.cell? ⟨b, 3, none⟩ = some (.bool k.face) ∧ w.cell? ⟨b, 4, none⟩ = some gv ∧ w.cell? ⟨b, 5, none⟩ = some mv := by
  obtain ⟨e0, e1, e2, e3, e4, e5⟩ := h
  simp only [Nat.zero_add] at e0 e1 e2 e3 e4 e5
  exact ⟨e0, e1, e2, e3, e4, e5⟩
theorem facesErr_drop {l : List Str} {k : Nat} (hk : k < l.length) : facesErr (l.take k) (l.drop k) = if isName l[k] = false then 1 else if hasStr (l.take k) l[k] then 5 else facesErr (l.take (k + 1)) (l.drop (k + 1)) := by
  rw [List.drop_eq_getElem_cons hk, List.take_succ_eq_append_getElem hk]; rfl
theorem fieldsErr_drop {l : List Fld} {k : Nat} (hk : k < l.length) : fieldsErr (l.take k) (l.drop k) = if isName l[k].nm = false ∨ isType l[k].ty = false then 1 else if (l.take k).any (sameFld l[k]) then 5 else fieldsErr (l.take (k + 1)) (l.drop (k + 1)) := by
  rw [List.drop_eq_getElem_cons hk, List.take_succ_eq_append_getElem hk]; rfl
theorem methsErr_drop {l : List Meth} {k : Nat} (hk : k < l.length) : methsErr (l.take k) (l.drop k) = if methErr l[k] (l.take k) ≠ 0 then methErr l[k] (l.take k) else methsErr (l.take (k + 1)) (l.drop (k + 1)) := by
  rw [List.drop_eq_getElem_cons hk, List.take_succ_eq_append_getElem hk]; rfl

set_option maxRecDepth 100000 in
set_option maxHeartbeats 4000000 in
theorem classCheck_any (c : Cls) (fv gv mv : Value) (w : World) (hG : FormsLaid w) (hp : ClsP w c fv gv mv) :
    Calls Tryz.prog 45 #[clsV c fv gv mv] w (ErrPost (classErr c) w) := by
  have HF : Hid (classErr c = if isName c.nm = false ∨ (c.super.size ≠ 0 ∧ isName c.super = false) then 1
  else if facesErr [] c.faces ≠ 0 then facesErr [] c.faces
  else if 8 < c.faces.length ∨ 8 < c.fields.length ∨ 8 < c.meths.length then 4
  else if fieldsErr [] c.fields ≠ 0 then fieldsErr [] c.fields
  else if methsErr [] c.meths ≠ 0 then methsErr [] c.meths
  else if c.face && decide (0 < c.fields.length) then 8
  else 0) := Lib.hid rfl
  have HB0 := (Below.refl w.heap.size w).alloc (Nat.le_refl _) (.cells (clsA c fv gv mv) 28)
  have hbox := cbox_new w c fv gv mv
  have hz0 : w.heap.size < (w.alloc (.cells (clsA c fv gv mv) 28)).heap.size := by simp
  have hp0 := hp.below HB0
  have hG0 := hG.below HB0
  have hnm := hp.2.2.2.1
  have hsu := hp.2.2.2.2.1
  have hfs := Lib.hid hp.2.2.2.2.2.1
  clear hp hG
  obtain ⟨nm, super, faces, face, fields, meths⟩ := c
  generalize classErr ⟨nm, super, faces, face, fields, meths⟩ = r at *
  unfold clsV
  unfold clsA at *
  simp only [] at *
  obtain ⟨hfa, hgs, hms, _, _, _⟩ := hp0
  simp only [] at hfa hgs hms
  obtain ⟨fA, fcap, rfl, f1, f2⟩ := hfa.form
  obtain ⟨gA, gcap, rfl, g1, g2⟩ := hgs.form
  obtain ⟨mA, mcap, rfl, m1, m2⟩ := hms.form
  unfold maxLen at f2 g2 m2
  go_enter Tryz.func45, Tryz.ntmps45
  go_upto_region 1 with (fail)
  generalize w.alloc (.cells #[Value.string nm, Value.string super, Value.slice fA faces.length fcap, Value.bool face, Value.slice gA fields.length gcap, Value.slice mA meths.length mcap] 28) = W0 at *
  have HBX := Lib.hid hbox
  have HFA := Lib.hid hfa
  have HGS := Lib.hid hgs
  have HMS := Lib.hid hms
  have HG0 := Lib.hid hG0
  have HT : Hid (∀ w1, Below W0.heap.size W0 w1 → Below w.heap.size w w1) := Lib.hid (fun w1 h => HB0.trans (h.mono (Nat.le_of_lt hz0)))
  obtain ⟨e0, e1, e2, e3, e4, e5⟩ := hbox.zero
  simp only [] at e0 e1 e2 e3 e4 e5
  clear hfa hgs hms hG0 hbox
  go_cut [24] (fun s24 wx => s24 = .bool (decide (isName nm = false ∨ (super.size ≠ 0 ∧ isName super = false))) ∧ Below W0.heap.size W0 wx)
  case first =>
    go_wp2_with fail
    refine (nameCheck nm _ (by omega)).mono ?_
    rintro e w1 ⟨rfl, hb1⟩
    cases hn : isName nm
    case false =>
      rw [show nameErr nm = 1 by unfold nameErr; rw [hn]; rfl, errV_ne (by decide)]
      go_wp2_with fail
      go_meet
      exact ⟨by rw [decide_eq_true (Or.inl hn)], hb1⟩
    rw [show nameErr nm = 0 by unfold nameErr; rw [hn]; rfl, errV_0]
    have HN := Lib.hid hn
    clear hn
    obtain ⟨d0, d1, d2, d3, d4, d5⟩ := (HBX.out.below hb1).zero
    simp only [] at d0 d1 d3
    by_cases hs0 : super.size = 0
    · have hx : super.toList = [] := by rw [Lib.toList_data]; exact List.eq_nil_of_length_eq_zero (by rw [← Lib.size_eq]; exact hs0)
      have HS0 := Lib.hid hs0
      clear hs0
      go_wp2_with fail
      go_meet
      exact ⟨by rw [decide_eq_false (by rintro (h | ⟨h, _⟩); · rw [HN.out] at h; cases h
                                        · exact h HS0.out)], hb1⟩
    · have hx : super.toList.isEmpty = false := by
        rw [Lib.toList_data]
        cases h : super.data.toList with
        | nil => exact absurd (by rw [Lib.size_eq, h]; rfl) hs0
        | cons a l => rfl
      have HS0 := Lib.hid hs0
      clear hs0
      go_wp2_with fail
      refine (nameCheck super _ (by omega)).mono ?_
      rintro e w2 ⟨rfl, hb2⟩
      have hb12 := bel_then hb1 hb2
      cases hn : isName super
      case false =>
        rw [show nameErr super = 1 by unfold nameErr; rw [hn]; rfl, errV_ne (by decide)]
        have HN2 := Lib.hid hn
        clear hn
        go_wp2_with fail
        go_meet
        exact ⟨by rw [decide_eq_true (Or.inr ⟨HS0.out, HN2.out⟩)], hb12⟩
      case true =>
        rw [show nameErr super = 0 by unfold nameErr; rw [hn]; rfl, errV_0]
        have HN2 := Lib.hid hn
        clear hn
        go_wp2_with fail
        go_meet
        exact ⟨by rw [decide_eq_false (by rintro (h | ⟨_, h⟩); · rw [HN.out] at h; cases h
                                          · rw [HN2.out] at h; cases h)], hb12⟩
  case rest =>
    obtain ⟨rfl, hcb⟩ := hcut
    by_cases hbad : isName nm = false ∨ (super.size ≠ 0 ∧ isName super = false)
    · rw [decide_eq_true hbad]
      have H : Hid (r = 1) := by apply Lib.hid; rw [HF.out, if_pos hbad]
      have HTc := HT.out _ hcb
      clear HF hbad
      go_wp2
      go_ret
      exact ep_mk H.out (by decide) rfl HTc
    rw [decide_eq_false hbad]
    have HF1 := HF.out
    rw [if_neg hbad] at HF1
    replace HF1 := Lib.hid HF1
    clear HF hbad e0 e1 e2 e3 e4 e5
    obtain ⟨e0, e1, e2, e3, e4, e5⟩ := (HBX.out.below hcb).zero
    simp only [] at e0 e1 e2 e3 e4 e5
    have HFC : Hid (∀ (k : Nat) (hk : k < faces.length), ∃ b off, fA = some ⟨b, off, none⟩ ∧ W0.cell? ⟨b, off + k, none⟩ = some (.string faces[k]) ∧ faces[k].size ≤ 1099511627775) := by
      apply Lib.hid
      intro k hk
      obtain ⟨b, off, h1, h2⟩ := HFA.out.at hk
      exact ⟨b, off, h1, h2, hfs.out _ (List.getElem_mem hk)⟩
    go_wp2
    go_loopw [29] (fun i wr => ∃ k : Nat, i = .int .i64 k ∧ k ≤ faces.length ∧ Below W0.heap.size W0 wr ∧ Hid (facesErr [] faces = facesErr (faces.take k) (faces.drop k))) (fun i _ => faces.length - (intOf i).toNat)
    case atStart => exact ⟨0, rfl, Nat.zero_le _, hcb, rfl⟩
    case round =>
      clear e0 e1 e2 e3 e4 e5 hcb
      obtain ⟨k, rfl, hk, hb, HE⟩ := hrel
      obtain ⟨e0, e1, e2, e3, e4, e5⟩ := (HBX.out.below hb).zero
      simp only [] at e0 e1 e2 e3 e4 e5
      by_cases hkn : k < faces.length
      · obtain ⟨b, off, rfl, c0, hsz⟩ := HFC.out k hkn
        have c0' := cell_below hb c0
        have HST := Lib.hid (facesErr_drop hkn)
        generalize faces[k] = x at *
        clear c0
        go_wp2_with fail
        refine (nameCheck x _ (by omega)).mono ?_
        rintro e w2 ⟨rfl, hb2⟩
        have HB2 : Below W0.heap.size W0 w2 := bel_then hb hb2
        cases hn : isName x
        case false =>
          rw [show nameErr x = 1 by unfold nameErr; rw [hn]; rfl, errV_ne (by decide)]
          have H : Hid (r = 1) := by
            apply Lib.hid
            have e : facesErr [] faces = 1 := by rw [HE.out, HST.out, if_pos hn]
            rw [HF1.out, e]; rfl
          have HT2 := HT.out _ HB2
          clear HE HST HF1 hn
          go_wp2
          go_ret
          exact ep_mk H.out (by decide) rfl HT2
        rw [show nameErr x = 0 by unfold nameErr; rw [hn]; rfl, errV_0]
        have HST2 := HST.out
        rw [if_neg (by rw [hn]; simp)] at HST2
        replace HST2 := Lib.hid HST2
        clear HST hn e0 e1 e2 e3 e4 e5
        obtain ⟨e0, e1, e2, e3, e4, e5⟩ := (HBX.out.below HB2).zero
        simp only [] at e0 e1 e2 e3 e4 e5
        have hkc : (k : Int) ≤ (fcap : Int) := by omega
        go_wp2_with fail
        refine (containsStr _ (faces.take k) x _ ((HFA.out.below HB2).take (Nat.le_of_lt hkn))).mono ?_
        rintro e w3 ⟨rfl, rfl⟩
        have HT2 := HT.out _ HB2
        cases hc : hasStr (faces.take k) x
        case true =>
          have H : Hid (r = 5) := by
            apply Lib.hid
            have e : facesErr [] faces = 5 := by rw [HE.out, HST2.out, if_pos hc]
            rw [HF1.out, e]; rfl
          clear HE HST2 HF1 hc
          go_wp2
          go_ret
          exact ep_mk H.out (by decide) rfl HT2
        case false =>
          have HE' : Hid (facesErr [] faces = facesErr (faces.take (k + 1)) (faces.drop (k + 1))) := by
            apply Lib.hid; rw [HE.out, HST2.out, if_neg (by rw [hc]; simp)]
          clear HE HST2 hc
          go_wp2
          go_roundw
          case rel => exact ⟨k + 1, by go_num, by omega, HB2, HE'⟩
          case measure => simp [intOf]; omega
      · have hke : k = faces.length := by omega
        have HF2 : Hid (r = if 8 < faces.length ∨ 8 < fields.length ∨ 8 < meths.length then 4
          else if fieldsErr [] fields ≠ 0 then fieldsErr [] fields
          else if methsErr [] meths ≠ 0 then methsErr [] meths
          else if face && decide (0 < fields.length) then 8
          else 0) := by
          apply Lib.hid
          have e : facesErr [] faces = 0 := by rw [HE.out, hke, List.drop_length]; rfl
          rw [HF1.out, e]; rfl
        have HTr := HT.out _ hb
        clear HE HF1 hke
        go_upto_region 11 with (fail)
        go_cut [56] (fun s56 wx => s56 = .bool (decide (8 < faces.length ∨ 8 < fields.length ∨ 8 < meths.length)) ∧ wr = wx)
        case first =>
          go_wp2_with fail
          all_goals (go_meet; exact ⟨congrArg Value.bool (by rw [decide_eq_decide]; first | omega | (split <;> omega) | (split <;> split <;> omega)), rfl⟩)
        case rest =>
        obtain ⟨rfl, rfl⟩ := hcut
        by_cases h8 : 8 < faces.length ∨ 8 < fields.length ∨ 8 < meths.length
        · rw [decide_eq_true h8]
          have H : Hid (r = 4) := by apply Lib.hid; rw [HF2.out, if_pos h8]
          clear HF2 h8
          go_wp2
          go_ret
          exact ep_mk H.out (by decide) rfl HTr
        rw [decide_eq_false h8]
        have HF3 := HF2.out
        rw [if_neg h8] at HF3
        replace HF3 := Lib.hid HF3
        clear HF2 h8
        have HGC : Hid (∀ (k : Nat) (hk : k < fields.length), ∃ b off, gA = some ⟨b, off, none⟩ ∧ Fld2 W0 b (off + k * 2) fields[k] ∧ fields[k].nm.size ≤ 1099511627775 ∧ fields[k].ty.size ≤ 1099511627775) := by
          apply Lib.hid
          intro k hk
          obtain ⟨b, off, cap', he, _, _, hc⟩ := FldSl.some HGS.out (by intro e; rw [e] at hk; simp at hk)
          injection he with e1 _ _
          exact ⟨b, off, e1, (hc k hk).1, (hc k hk).2⟩
        have hbk := hb
        clear hk hkn hb HTr
        go_wp2
        go_loopw [61] (fun i wr2 => ∃ k2 : Nat, i = .int .i64 k2 ∧ k2 ≤ fields.length ∧ Below W0.heap.size W0 wr2 ∧ Hid (fieldsErr [] fields = fieldsErr (fields.take k2) (fields.drop k2))) (fun i _ => fields.length - (intOf i).toNat)
        case atStart => exact ⟨0, rfl, Nat.zero_le _, hbk, rfl⟩
        case round =>
          clear e0 e1 e2 e3 e4 e5 hbk
          obtain ⟨k2, rfl, hk2, hb, HE⟩ := hrel
          obtain ⟨e0, e1, e2, e3, e4, e5⟩ := (HBX.out.below hb).zero
          simp only [] at e0 e1 e2 e3 e4 e5
          by_cases hkn : k2 < fields.length
          · obtain ⟨b, off, rfl, h2, hs1, hs2⟩ := HGC.out k2 hkn
            obtain ⟨c0, c1⟩ := h2.below hb
            have HST := Lib.hid (fieldsErr_drop hkn)
            generalize fields[k2] = x at *
            clear h2
            have hz0r : w.heap.size < wr.heap.size := Nat.lt_of_lt_of_le hz0 hb.size
            go_wp2_with fail
            refine (nameCheck x.nm _ (by omega)).mono ?_
            rintro e w3 ⟨rfl, hb3⟩
            have HB3 : Below W0.heap.size W0 w3 := bel_then (hb.alloc hb.size _) hb3
            have hz3 := box_lt hb3
            have b0 := box_at hb3 0
            have b1 := box_at hb3 1
            simp only [List.getElem?_toArray, List.getElem?_cons_zero, List.getElem?_cons_succ] at b0 b1
            cases hn : isName x.nm
            case false =>
              rw [show nameErr x.nm = 1 by unfold nameErr; rw [hn]; rfl, errV_ne (by decide)]
              have H : Hid (r = 1) := by
                apply Lib.hid
                have e : fieldsErr [] fields = 1 := by rw [HE.out, HST.out, if_pos (.inl hn)]
                rw [HF3.out, e]; rfl
              have HT3 := HT.out _ HB3
              clear HE HST HF3 hn
              go_wp2
              go_ret
              exact ep_mk H.out (by decide) rfl HT3
            rw [show nameErr x.nm = 0 by unfold nameErr; rw [hn]; rfl, errV_0]
            have HN := Lib.hid hn
            clear hn
            go_wp2_with fail
            refine (descCheck x.ty _ (by omega)).mono ?_
            rintro e w4 ⟨rfl, hb4⟩
            have HB4 := bel_then HB3 hb4
            have hb34 := bel_then hb3 hb4
            have HT4 := HT.out _ HB4
            clear b0 b1
            have b0 := box_at hb34 0
            have b1 := box_at hb34 1
            simp only [List.getElem?_toArray, List.getElem?_cons_zero, List.getElem?_cons_succ] at b0 b1
            cases hn : isType x.ty
            case false =>
              rw [show descErr x.ty = 1 by unfold descErr; rw [hn]; rfl, errV_ne (by decide)]
              have H : Hid (r = 1) := by
                apply Lib.hid
                have e : fieldsErr [] fields = 1 := by rw [HE.out, HST.out, if_pos (.inr hn)]
                rw [HF3.out, e]; rfl
              clear HE HST HF3 hn
              go_wp2
              go_ret
              exact ep_mk H.out (by decide) rfl HT4
            rw [show descErr x.ty = 0 by unfold descErr; rw [hn]; rfl, errV_0]
            have HST2 := HST.out
            rw [if_neg (by rw [hn, HN.out]; simp)] at HST2
            replace HST2 := Lib.hid HST2
            clear HST hn e0 e1 e2 e3 e4 e5
            obtain ⟨e0, e1, e2, e3, e4, e5⟩ := (HBX.out.below HB4).zero
            simp only [] at e0 e1 e2 e3 e4 e5
            have hkc : (k2 : Int) ≤ (gcap : Int) := by omega
            go_wp2_with fail
            refine (containsFld_any x _ (fields.take k2) _ _ ((HGS.out.below mono_fld HB4).take (Nat.le_of_lt hkn)) b0).mono ?_
            rintro e w5 ⟨rfl, hb5⟩
            have HB5 := bel_then HB4 hb5
            have HT5 := HT.out _ HB5
            cases hc : (fields.take k2).any (sameFld x)
            case true =>
              have H : Hid (r = 5) := by
                apply Lib.hid
                have e : fieldsErr [] fields = 5 := by rw [HE.out, HST2.out, if_pos hc]
                rw [HF3.out, e]; rfl
              clear HE HST2 HF3 hc
              go_wp2
              go_ret
              exact ep_mk H.out (by decide) rfl HT5
            case false =>
              have HE' : Hid (fieldsErr [] fields = fieldsErr (fields.take (k2 + 1)) (fields.drop (k2 + 1))) := by
                apply Lib.hid; rw [HE.out, HST2.out, if_neg (by rw [hc]; simp)]
              clear HE HST2 hc
              go_wp2
              go_roundw
              case rel => exact ⟨k2 + 1, by go_num, by omega, HB5, HE'⟩
              case measure => simp [intOf]; omega
          · have hke : k2 = fields.length := by omega
            have HF4 : Hid (r = if methsErr [] meths ≠ 0 then methsErr [] meths
              else if face && decide (0 < fields.length) then 8
              else 0) := by
              apply Lib.hid
              have e : fieldsErr [] fields = 0 := by rw [HE.out, hke, List.drop_length]; rfl
              rw [HF3.out, e]; rfl
            have HMC : Hid (∀ (k : Nat) (hk : k < meths.length), ∃ b off cv hv, mA = some ⟨b, off, none⟩ ∧ Meth8 W0 b (off + k * 8) meths[k] cv hv ∧ MethP W0 meths[k] cv hv) := by
              apply Lib.hid
              intro k hk
              obtain ⟨b, off, cap', he, _, _, hc⟩ := MethSl.some HMS.out (by intro e; rw [e] at hk; simp at hk)
              injection he with e1 _ _
              obtain ⟨cv, hv, h1, h2⟩ := hc k hk
              exact ⟨b, off, cv, hv, e1, h1, h2⟩
            have hbk := hb
            clear HE HF3 hke
            go_wp2
            clear hk2 hkn hb
            go_loopw [88] (fun i wr3 => ∃ k3 : Nat, i = .int .i64 k3 ∧ k3 ≤ meths.length ∧ Below W0.heap.size W0 wr3 ∧ Hid (methsErr [] meths = methsErr (meths.take k3) (meths.drop k3))) (fun i _ => meths.length - (intOf i).toNat)
            case atStart => exact ⟨0, rfl, Nat.zero_le _, hbk, rfl⟩
            case round =>
              clear e0 e1 e2 e3 e4 e5 hbk
              obtain ⟨k3, rfl, hk3, hb, HE⟩ := hrel
              obtain ⟨e0, e1, e2, e3, e4, e5⟩ := (HBX.out.below hb).zero
              simp only [] at e0 e1 e2 e3 e4 e5
              by_cases hkn : k3 < meths.length
              · obtain ⟨b, off, cv, hv, rfl, h8, hmp⟩ := HMC.out k3 hkn
                obtain ⟨Ac, cc, rfl, _, _⟩ := hmp.1.form
                obtain ⟨Ah, ch, rfl, _, _⟩ := hmp.2.1.form
                obtain ⟨c0, c1, c2, c3, c4, c5, c6, c7⟩ := h8.below hb
                have HST := Lib.hid (methsErr_drop hkn)
                generalize meths[k3] = x at *
                clear h8
                have hz0r : w.heap.size < wr.heap.size := Nat.lt_of_lt_of_le hz0 hb.size
                have HMP := Lib.hid hmp
                clear hmp
                go_upto_region 24 with (fail)
                have hbx := mbox_new wr x (.slice Ac x.code.length cc) (.slice Ah x.hs.length ch)
                have HBX1 := hb.alloc hb.size (.cells (methA x (.slice Ac x.code.length cc) (.slice Ah x.hs.length ch)) 44)
                unfold methA at hbx HBX1
                have hzw := World.size_alloc wr (.cells #[Value.string x.nm, Value.string x.ty, Value.bool x.static, Value.bool x.abstract, Value.bool x.priv, Value.int .i64 x.locals, .slice Ac x.code.length cc, .slice Ah x.hs.length ch] 44)
                generalize wr.alloc (.cells #[Value.string x.nm, Value.string x.ty, Value.bool x.static, Value.bool x.abstract, Value.bool x.priv, Value.int .i64 x.locals, .slice Ac x.code.length cc, .slice Ah x.hs.length ch] 44) = W1 at *
                have hz1 : wr.heap.size < W1.heap.size := by rw [hzw]; omega
                have hz2 : w.heap.size < W1.heap.size := by omega
                clear hzw e0 e1 e2 e3 e4 e5 c0 c1 c2 c3 c4 c5 c6 c7
                obtain ⟨e0, e1, e2, e3, e4, e5⟩ := (HBX.out.below HBX1).zero
                obtain ⟨c0, c1, c2, c3, c4, c5, c6, c7⟩ := hbx.zero
                simp only [] at e0 e1 e2 e3 e4 e5
                have hkc : (k3 : Int) ≤ (mcap : Int) := by omega
                have HMPW := Lib.hid (HMP.out.below HBX1.drew)
                have HMSW := Lib.hid ((HMS.out.below mono_meth HBX1.drew).take (Nat.le_of_lt hkn))
                have HGW := Lib.hid (HG0.out.below HBX1.drew)
                go_cut [9] (fun s9 wx => s9 = errV (methErr x (meths.take k3)) ∧ Below W0.heap.size W0 wx)
                case first =>
                  go_region_with (go_at_call 84; refine (method_check x _ _ _ (meths.take k3) _ HGW.out HMPW.out HMSW.out).mono ?_; rintro e w7 ⟨rfl, hb7⟩)
                  all_goals (go_wp2_with fail; go_meet; exact ⟨rfl, bel_then HBX1.drew hb7⟩)
                case rest =>
                  obtain ⟨rfl, hcb2⟩ := hcut
                  have HTc := HT.out _ hcb2
                  by_cases hz : methErr x (meths.take k3) = 0
                  · rw [hz, errV_0]
                    have HE' : Hid (methsErr [] meths = methsErr (meths.take (k3 + 1)) (meths.drop (k3 + 1))) := by
                      apply Lib.hid; rw [HE.out, HST.out, if_neg (by rw [hz]; simp)]
                    clear HE HST hz
                    go_wp2
                    go_roundw
                    case rel => exact ⟨k3 + 1, by go_num, by omega, hcb2, HE'⟩
                    case measure => simp [intOf]; omega
                  · rw [errV_ne hz]
                    have H : Hid (r = methErr x (meths.take k3)) := by
                      apply Lib.hid
                      have e : methsErr [] meths = methErr x (meths.take k3) := by rw [HE.out, HST.out, if_pos hz]
                      rw [HF4.out, e, if_pos hz]
                    have HZ := Lib.hid hz
                    generalize methErr x (meths.take k3) = me at *
                    clear HE HST HF4 hz
                    go_wp2
                    go_ret
                    exact ep_mk H.out HZ.out rfl HTc
              · have hke : k3 = meths.length := by omega
                have HF5 : Hid (r = if face && decide (0 < fields.length) then 8 else 0) := by
                  apply Lib.hid
                  have e : methsErr [] meths = 0 := by rw [HE.out, hke, List.drop_length]; rfl
                  rw [HF4.out, e]; rfl
                have HTr := HT.out _ hb
                clear HE HF4 hke
                obtain ⟨n, hn⟩ : ∃ n, n = fields.length := ⟨_, rfl⟩
                have HF6 : Hid (r = if face && decide (0 < n) then 8 else 0) := by rw [hn]; exact HF5
                rw [← hn] at e4
                clear HF5 hn
                cases face
                · have H : Hid (r = 0) := by apply Lib.hid; rw [HF6.out]; rfl
                  clear HF6
                  go_wp2
                  go_ret
                  exact ep_ok H.out rfl HTr
                · by_cases h0 : 0 < n
                  · have H : Hid (r = 8) := by apply Lib.hid; rw [HF6.out, decide_eq_true h0]; rfl
                    have h0' : (0 : Int) < (n : Int) := by omega
                    clear HF6
                    go_wp2
                    go_ret
                    exact ep_mk H.out (by decide) rfl HTr
                  · have H : Hid (r = 0) := by apply Lib.hid; rw [HF6.out, decide_eq_false h0]; rfl
                    have h0' : ¬ (0 : Int) < (n : Int) := by omega
                    clear HF6
                    go_wp2
                    go_ret
                    exact ep_ok H.out rfl HTr
end Go.Proofs.YthcjjjpcjjondaaGreatDoor
