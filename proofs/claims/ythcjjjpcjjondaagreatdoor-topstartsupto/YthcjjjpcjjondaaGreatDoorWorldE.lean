/- Worlds: joined. -/
import Derived.Test.YthcjjjpcjjondaaGreatDoorWorldD
namespace Go.Proofs.YthcjjjpcjjondaaGreatDoor
open Go.RowKit
set_option linter.unusedVariables false
set_option linter.unusedSimpArgs false
set_option linter.unnecessarySimpa false

theorem allK_drop {L : PW} {l : List Str} {k : Nat} (hk : k < l.length) : allK L (l.drop k) = (hasK L l[k] && allK L (l.drop (k + 1))) := by
  rw [List.drop_eq_getElem_cons hk]; rfl
theorem facesHas_drop {L : PW} {l : List Str} {k : Nat} (hk : k < l.length) : facesHas L (l.drop k) = if hasErr L l[k] true ≠ 0 then hasErr L l[k] true else facesHas L (l.drop (k + 1)) := by
  rw [List.drop_eq_getElem_cons hk]; rfl

set_option maxRecDepth 100000 in
set_option maxHeartbeats 4000000 in
theorem joined_any (v : Value) (L : PW) (c : Cls) (fv gv mv : Value) (w : World) (h : WMap w v L) (hp : ClsP w c fv gv mv) :
    Calls Tryz.prog 46 #[v, clsV c fv gv mv] w (ErrPost (joinedErr L c) w) := by
  have HF : Hid (joinedErr L c = if c.super.size = 0 then 1
    else if hasK L c.super = false then 3
    else if allK L c.faces = false then 3
    else if hasErr L c.super false ≠ 0 then hasErr L c.super false
    else if facesHas L c.faces ≠ 0 then facesHas L c.faces
    else if c.face = true ∧ ¬ c.super = sObject then 7
    else 0) := Lib.hid rfl
  have HB0 := (Below.refl w.heap.size w).alloc (Nat.le_refl _) (.cells (clsA c fv gv mv) 28)
  have hbox := cbox_new w c fv gv mv
  have hz0 : w.heap.size < (w.alloc (.cells (clsA c fv gv mv) 28)).heap.size := by simp
  have hp0 := hp.below HB0
  have h0 := h.below HB0
  have hsu := hp.2.2.2.2.1
  clear hp
  obtain ⟨nm, super, faces, face, fields, meths⟩ := c
  generalize joinedErr L ⟨nm, super, faces, face, fields, meths⟩ = r at *
  unfold clsV
  unfold clsA at *
  simp only [] at *
  obtain ⟨hfa, hgs, hms, _, _, _⟩ := hp0
  simp only [] at hfa hgs hms
  obtain ⟨fA, fcap, rfl, f1, f2⟩ := hfa.form
  obtain ⟨gA, gcap, rfl, g1, g2⟩ := hgs.form
  obtain ⟨mA, mcap, rfl, m1, m2⟩ := hms.form
  unfold maxLen at f2
  clear hgs hms g1 g2 m1 m2
  obtain ⟨rr, rfl⟩ := h.form
  clear h
  go_enter Tryz.func46, Tryz.ntmps46
  go_upto_region 1 with (fail)
  generalize w.alloc (.cells #[Value.string nm, Value.string super, Value.slice fA faces.length fcap, Value.bool face, Value.slice gA fields.length gcap, Value.slice mA meths.length mcap] 28) = W0 at *
  have HBX := Lib.hid hbox
  have HFA := Lib.hid hfa
  have HM0 := Lib.hid h0
  have HT : Hid (∀ w1, Below W0.heap.size W0 w1 → Below w.heap.size w w1) := Lib.hid (fun w1 h => HB0.trans (h.mono (Nat.le_of_lt hz0)))
  obtain ⟨e0, e1, e2, e3, e4, e5⟩ := hbox.zero
  simp only [] at e0 e1 e2 e3 e4 e5
  clear hfa hbox h0
  have HFC : Hid (∀ (k : Nat) (hk : k < faces.length), ∃ b off, fA = some ⟨b, off, none⟩ ∧ W0.cell? ⟨b, off + k, none⟩ = some (.string faces[k])) := by
    apply Lib.hid
    intro k hk
    obtain ⟨b, off, h1, h2⟩ := HFA.out.at hk
    exact ⟨b, off, h1, h2⟩
  by_cases hs0 : super.size = 0
  · have H : Hid (r = 1) := by apply Lib.hid; rw [HF.out, if_pos hs0]
    have hx := empty_list hs0
    have HT0 := HT.out W0 (Below.refl _ _)
    clear HF hs0
    go_wp2
    go_ret
    exact ep_mk H.out (by decide) rfl HT0
  have HF1 := HF.out
  rw [if_neg hs0] at HF1
  replace HF1 := Lib.hid HF1
  have hx := empty_not hs0
  clear HF hs0
  obtain ⟨fv2, gv2, mv2, hP2, _, hrun⟩ := lookupW HM0.out super
  obtain ⟨fA2, fc2, gA2, gc2, mA2, mc2, rfl, rfl, rfl⟩ := hP2.forms
  unfold clsA at hrun
  clear hP2
  generalize getC L super = c2 at *
  cases hk : hasK L super
  · rw [hk] at hrun
    have H : Hid (r = 3) := by apply Lib.hid; rw [HF1.out, if_pos hk]
    have HT0 := HT.out _ ((Below.refl W0.heap.size W0).alloc (Nat.le_refl _) (.cells #[Value.string c2.nm, Value.string c2.super, .slice fA2 c2.faces.length fc2, .bool c2.face, .slice gA2 c2.fields.length gc2, .slice mA2 c2.meths.length mc2] 28))
    clear HF1 hk
    go_wp2
    go_ret
    exact ep_mk H.out (by decide) rfl HT0
  rw [hk] at hrun
  have HF2 := HF1.out
  rw [if_neg (by rw [hk]; simp)] at HF2
  replace HF2 := Lib.hid HF2
  clear HF1 hk
  go_upto_region 6 with (fail)
  have hbc := (Below.refl W0.heap.size W0).alloc (Nat.le_refl _) (.cells #[Value.string c2.nm, Value.string c2.super, .slice fA2 c2.faces.length fc2, .bool c2.face, .slice gA2 c2.fields.length gc2, .slice mA2 c2.meths.length mc2] 28)
  generalize W0.alloc (.cells #[Value.string c2.nm, Value.string c2.super, .slice fA2 c2.faces.length fc2, .bool c2.face, .slice gA2 c2.fields.length gc2, .slice mA2 c2.meths.length mc2] 28) = Wc at *
  clear hrun e0 e1 e2 e3 e4 e5
  obtain ⟨e0, e1, e2, e3, e4, e5⟩ := (HBX.out.below hbc).zero
  simp only [] at e0 e1 e2 e3 e4 e5
  go_wp2
  go_loopw [32] (fun i wr => ∃ k : Nat, i = .int .i64 k ∧ k ≤ faces.length ∧ Below W0.heap.size W0 wr ∧ Hid (allK L faces = allK L (faces.drop k))) (fun i _ => faces.length - (intOf i).toNat)
  case atStart => exact ⟨0, rfl, Nat.zero_le _, hbc, rfl⟩
  case round =>
    clear e0 e1 e2 e3 e4 e5 hbc
    obtain ⟨k, rfl, hk, hb, HE⟩ := hrel
    by_cases hkn : k < faces.length
    · obtain ⟨b, off, rfl, c0⟩ := HFC.out k hkn
      have c0' := cell_below hb c0
      have HST := Lib.hid (allK_drop (L := L) hkn)
      generalize faces[k] = x at *
      obtain ⟨fv3, gv3, mv3, hP3, _, hrun⟩ := lookupW (HM0.out.below hb) x
      obtain ⟨fA3, fc3, gA3, gc3, mA3, mc3, rfl, rfl, rfl⟩ := hP3.forms
      unfold clsA at hrun
      clear hP3 c0
      generalize getC L x = c3 at *
      have HB1 : ∀ o, Below W0.heap.size W0 (wr.alloc o) := fun o => hb.alloc hb.size o
      cases hkx : hasK L x
      · rw [hkx] at hrun
        have H : Hid (r = 3) := by
          apply Lib.hid
          have e : allK L faces = false := by rw [HE.out, HST.out, hkx]; rfl
          rw [HF2.out, if_pos e]
        have HT1 : ∀ o, Below w.heap.size w (wr.alloc o) := fun o => HT.out _ (HB1 o)
        clear HF2 HE HST hkx
        go_wp2
        go_ret
        exact ep_mk H.out (by decide) rfl (HT1 _)
      · rw [hkx] at hrun
        have HE' : Hid (allK L faces = allK L (faces.drop (k + 1))) := by apply Lib.hid; rw [HE.out, HST.out, hkx]; rfl
        clear HE HST hkx
        go_wp2
        go_roundw
        case rel => exact ⟨k + 1, by go_num, by omega, HB1 _, HE'⟩
        case measure => simp [intOf]; omega
    · have hke : k = faces.length := by omega
      have HF3 : Hid (r = if hasErr L super false ≠ 0 then hasErr L super false
        else if facesHas L faces ≠ 0 then facesHas L faces
        else if face = true ∧ ¬ super = sObject then 7
        else 0) := by
        apply Lib.hid
        have e : allK L faces = true := by rw [HE.out, hke, List.drop_length]; rfl
        rw [HF2.out, if_neg (by rw [e]; simp)]
      obtain ⟨e0, e1, e2, e3, e4, e5⟩ := (HBX.out.below hb).zero
      simp only [] at e0 e1 e2 e3 e4 e5
      clear HE HF2 hke
      go_wp2_with fail
      refine (has_any _ L super false _ (HM0.out.below hb)).mono ?_
      rintro e w2 ⟨rfl, hb2⟩
      have hB2 := bel_then hb hb2
      have HT2 := HT.out _ hB2
      by_cases hz : hasErr L super false = 0
      case neg =>
        rw [errV_ne hz]
        have H : Hid (r = hasErr L super false) := by apply Lib.hid; rw [HF3.out, if_pos hz]
        have HZ := Lib.hid hz
        generalize hasErr L super false = er at *
        clear HF3 hz
        go_wp2
        go_ret
        exact ep_mk H.out HZ.out rfl HT2
      rw [hz, errV_0]
      have HF4 : Hid (r = if facesHas L faces ≠ 0 then facesHas L faces
        else if face = true ∧ ¬ super = sObject then 7
        else 0) := by apply Lib.hid; rw [HF3.out, if_neg (by rw [hz]; simp)]
      clear HF3 hz e0 e1 e2 e3 e4 e5
      obtain ⟨e0, e1, e2, e3, e4, e5⟩ := (HBX.out.below hB2).zero
      simp only [] at e0 e1 e2 e3 e4 e5
      go_wp2
      clear hk hkn hb HT2
      go_loopw [56] (fun i wr => ∃ k2 : Nat, i = .int .i64 k2 ∧ k2 ≤ faces.length ∧ Below W0.heap.size W0 wr ∧ Hid (facesHas L faces = facesHas L (faces.drop k2))) (fun i _ => faces.length - (intOf i).toNat)
      case atStart => exact ⟨0, rfl, Nat.zero_le _, hB2, rfl⟩
      case round =>
        clear e0 e1 e2 e3 e4 e5 hB2
        obtain ⟨k2, rfl, hk, hb, HE⟩ := hrel
        by_cases hkn : k2 < faces.length
        · obtain ⟨b, off, rfl, c0⟩ := HFC.out k2 hkn
          have c0' := cell_below hb c0
          have HST := Lib.hid (facesHas_drop (L := L) hkn)
          generalize faces[k2] = x at *
          clear c0
          go_wp2_with fail
          refine (has_any _ L x true _ (HM0.out.below hb)).mono ?_
          rintro e w3 ⟨rfl, hb3⟩
          have hB3 := bel_then hb hb3
          have HT3 := HT.out _ hB3
          by_cases hz : hasErr L x true = 0
          · rw [hz, errV_0]
            have HE' : Hid (facesHas L faces = facesHas L (faces.drop (k2 + 1))) := by apply Lib.hid; rw [HE.out, HST.out, if_neg (by rw [hz]; simp)]
            clear HE HST hz
            go_wp2
            go_roundw
            case rel => exact ⟨k2 + 1, by go_num, by omega, hB3, HE'⟩
            case measure => simp [intOf]; omega
          · rw [errV_ne hz]
            have H : Hid (r = hasErr L x true) := by
              apply Lib.hid
              have e : facesHas L faces = hasErr L x true := by rw [HE.out, HST.out, if_pos hz]
              rw [HF4.out, e, if_pos hz]
            have HZ := Lib.hid hz
            generalize hasErr L x true = er at *
            clear HE HST HF4 hz
            go_wp2
            go_ret
            exact ep_mk H.out HZ.out rfl HT3
        · have hke : k2 = faces.length := by omega
          have HF5 : Hid (r = if face = true ∧ ¬ super = sObject then 7 else 0) := by
            apply Lib.hid
            have e : facesHas L faces = 0 := by rw [HE.out, hke, List.drop_length]; rfl
            rw [HF4.out, e]; rfl
          have HTr := HT.out _ hb
          obtain ⟨e0, e1, e2, e3, e4, e5⟩ := (HBX.out.below hb).zero
          simp only [] at e0 e1 e2 e3 e4 e5
          clear HE HF4 hke
          cases face
          · have H : Hid (r = 0) := by apply Lib.hid; rw [HF5.out]; rfl
            clear HF5
            go_wp2
            go_ret
            exact ep_ok H.out rfl HTr
          · by_cases hso : super = sObject
            · have H : Hid (r = 0) := by apply Lib.hid; rw [HF5.out, if_neg (by rintro ⟨_, h⟩; exact h hso)]
              have hsl : (super.toList == [79, 98, 106, 101, 99, 116]) = true := by rw [hso, Lib.toList_data]; rfl
              have hsl2 : super.toList = [79, 98, 106, 101, 99, 116] := by rw [hso, Lib.toList_data]; rfl
              clear HF5 hso
              go_wp2
              go_ret
              exact ep_ok H.out rfl HTr
            · have H : Hid (r = 7) := by apply Lib.hid; rw [HF5.out, if_pos ⟨rfl, hso⟩]
              have hsl : ¬ super.toList = [79, 98, 106, 101, 99, 116] := by
                intro e; rw [Lib.toList_data] at e; exact hso (bytes_inj e)
              have hsl2 : (super.toList == [79, 98, 106, 101, 99, 116]) = false := by simpa using hsl
              clear HF5 hso
              go_wp2
              go_ret
              exact ep_mk H.out (by decide) rfl HTr
end Go.Proofs.YthcjjjpcjjondaaGreatDoor
