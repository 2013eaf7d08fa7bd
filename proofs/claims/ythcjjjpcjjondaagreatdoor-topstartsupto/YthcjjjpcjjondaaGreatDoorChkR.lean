/- check.Read: a world in which each method was looked at. -/
import Derived.Test.YthcjjjpcjjondaaGreatDoorLooked
namespace Go.Proofs.YthcjjjpcjjondaaGreatDoor
open Go.RowKit
set_option linter.unusedVariables false
set_option linter.unusedSimpArgs false
set_option linter.unnecessarySimpa false

def lookM (lk : Str → Meth → Bool) (nm : Str) (ms : List Meth) : Bool := ms.all fun m => m.abstract || lk nm m
def lookAll (lk : Str → Meth → Bool) (l : List Cls) : Bool := l.all fun c => lookM lk c.nm c.meths
def checkErr (evf : Str → List Str) (lk : Str → Meth → Bool) (l : List Cls) : Int := if readErr evf l ≠ 0 then readErr evf l else if lookAll lk l then 0 else 7
def LookedB (b : Bool) (w : World) (e : Ending) (w' : World) : Prop := ∃ v, e = .returned (.tuple #[.map v, .bool b]) ∧ Below w.heap.size w w'
def CheckPost (evf : Str → List Str) (lk : Str → Meth → Bool) (l : List Cls) (w : World) (e : Ending) (w' : World) : Prop :=
  (if checkErr evf lk l = 0 then ∃ r, e = .returned (.tuple #[.map (some r), .nilIface]) ∧ MapAt w' r (pw l) else e = .returned (.tuple #[.map none, errV (checkErr evf lk l)])) ∧ Below w.heap.size w w'
theorem cp_bad {evf : Str → List Str} {lk : Str → Meth → Bool} {l : List Cls} {w w' : World} {k : Int} {v : Value} (h : checkErr evf lk l = k) (hk : k ≠ 0) (hv : v = .tuple #[.map none, .iface 53 (.int .i64 k)]) (hb : Below w.heap.size w w') : CheckPost evf lk l w (.returned v) w' := by
  unfold CheckPost
  rw [h, if_neg hk, hv, errV_ne hk]
  exact ⟨rfl, hb⟩
theorem cp_good {evf : Str → List Str} {lk : Str → Meth → Bool} {l : List Cls} {w w' : World} {r : Nat} (h : checkErr evf lk l = 0) (hm : MapAt w' r (pw l)) (hb : Below w.heap.size w w') : CheckPost evf lk l w (.returned (.tuple #[.map (some r), .nilIface])) w' := by
  unfold CheckPost
  rw [if_pos h]
  exact ⟨⟨r, rfl, hm⟩, hb⟩
theorem lookM_drop {lk : Str → Meth → Bool} {nm : Str} {ms : List Meth} {k : Nat} (hk : k < ms.length) : lookM lk nm (ms.drop k) = ((ms[k].abstract || lk nm ms[k]) && lookM lk nm (ms.drop (k + 1))) := by
  rw [List.drop_eq_getElem_cons hk]; rfl
theorem lookAll_drop {lk : Str → Meth → Bool} {l : List Cls} {k : Nat} (hk : k < l.length) : lookAll lk (l.drop k) = (lookM lk l[k].nm l[k].meths && lookAll lk (l.drop (k + 1))) := by
  rw [List.drop_eq_getElem_cons hk]; rfl
theorem undo {a b c : World} (h : Below a.heap.size a b) (k : Below b.heap.size b c) : Below a.heap.size a c := bel_then h k
set_option maxRecDepth 100000 in
set_option maxHeartbeats 8000000 in
theorem check_any (v : Value) (l : List Cls) (evf : Str → List Str) (lk : Str → Meth → Bool) (w : World) (hG : FormsLaid w) (hl : ClsSl w v l)
    (hev : l.length ≤ 10 → addErr firstL l = 0 → joinErrs (pw l) l = 0 → ∀ c ∈ l, EvOk (pw l) evf (above (pw l) c.nm))
    (hlk : readErr evf l = 0 → ∀ c ∈ l, ∀ m ∈ c.meths, m.abstract = false → ∀ (mr : Nat) (w1 : World) (cv hv : Value), WMap w1 (.map (some mr)) (pw l) → MethP w1 m cv hv → Calls Tryz.prog 49 #[.map (some mr), .string c.nm, methV m cv hv] w1 (LookedB (lk c.nm m) w1)) :
    Calls Tryz.prog 24 #[v] w (CheckPost evf lk l w) := by
  have HF : Hid (checkErr evf lk l = if readErr evf l ≠ 0 then readErr evf l else if lookAll lk l then 0 else 7) := Lib.hid rfl
  have HR := Lib.hid (read_any v l evf w hG hl hev)
  obtain ⟨A, cap, rfl, h1, h2⟩ := hl.form
  unfold maxLen at h2
  have HLK := Lib.hid hlk
  have HLC : Hid (∀ (k : Nat) (hk : k < l.length), ∃ b off fv gv mv, A = some ⟨b, off, none⟩ ∧ Cls6 w b (off + k * 6) l[k] fv gv mv ∧ ClsP w l[k] fv gv mv) := by
    apply Lib.hid
    intro k hk
    obtain ⟨b, off, cap', he, _, _, hc⟩ := ClsSl.some hl (by intro e; rw [e] at hk; simp at hk)
    injection he with e1 _ _
    obtain ⟨fv, gv, mv, h1, h2⟩ := hc k hk
    exact ⟨b, off, fv, gv, mv, e1, h1, h2⟩
  clear hl hG hev hlk
  go_enter Tryz.func24, Tryz.ntmps24
  go_wp2_with fail
  refine (HR.out).mono ?_
  rintro e w1 ⟨hres, hb1⟩
  by_cases hz : readErr evf l = 0
  case neg =>
    rw [if_neg hz] at hres
    subst hres
    rw [errV_ne hz]
    have H : Hid (checkErr evf lk l = readErr evf l) := by apply Lib.hid; rw [HF.out, if_pos hz]
    have HZ := Lib.hid hz
    clear HF HLK hz HR
    generalize readErr evf l = er at *
    go_wp2
    go_ret2
    exact cp_bad H.out HZ.out rfl hb1
  rw [if_pos hz] at hres
  obtain ⟨r, rfl, hm1⟩ := hres
  have HF1 : Hid (checkErr evf lk l = if lookAll lk l then 0 else 7) := by apply Lib.hid; rw [HF.out, hz]; rfl
  have HLK1 := Lib.hid (HLK.out hz)
  have HM1 := Lib.hid hm1
  have HMEM : Hid (∀ (k : Nat) (hk : k < l.length), l[k] ∈ l) := Lib.hid (fun k hk => List.getElem_mem hk)
  clear HF HLK hz hm1 HR
  go_wp2
  go_loopw [22] (fun i wr => ∃ k : Nat, i = .int .i64 k ∧ k ≤ l.length ∧ Below w1.heap.size w1 wr ∧ Hid (lookAll lk l = lookAll lk (l.drop k))) (fun i _ => l.length - (intOf i).toNat)
  case atStart => exact ⟨0, rfl, Nat.zero_le _, Below.refl _ _, rfl⟩
  case round =>
    obtain ⟨k, rfl, hk, hb, HE⟩ := hrel
    by_cases hkn : k < l.length
    · obtain ⟨b, off, fv, gv, mv, rfl, h6, hcp⟩ := HLC.out k hkn
      have HMK := Lib.hid (HMEM.out k hkn)
      obtain ⟨fA, fc, gA, gc, mA, mc, rfl, rfl, rfl⟩ := hcp.forms
      have hB := bel_then hb1 hb
      obtain ⟨c0, c1, c2, c3, c4, c5⟩ := h6.below hB
      have HST := Lib.hid (lookAll_drop (lk := lk) hkn)
      generalize l[k] = c at *
      obtain ⟨_, _, hms, _⟩ := hcp
      have hmc : c.meths.length ≤ mc ∧ mc ≤ 9223372036854775807 := by
        obtain ⟨A', cap', he, a1, a2⟩ := hms.form
        injection he with _ _ e3
        subst e3
        exact ⟨a1, a2⟩
      have HMS := Lib.hid hms
      have HLKC := Lib.hid (HLK1.out c HMK.out)
      have hbx := cbox_new wr c (.slice fA c.faces.length fc) (.slice gA c.fields.length gc) (.slice mA c.meths.length mc)
      have hbb := hb.alloc hb.size (.cells (clsA c (.slice fA c.faces.length fc) (.slice gA c.fields.length gc) (.slice mA c.meths.length mc)) 28)
      unfold clsA at hbx hbb
      clear h6 hms
      go_upto_region 7 with (fail)
      generalize wr.alloc (.cells #[.string c.nm, .string c.super, .slice fA c.faces.length fc, .bool c.face, .slice gA c.fields.length gc, .slice mA c.meths.length mc] 28) = W1 at *
      have HBX := Lib.hid hbx
      have HBB := Lib.hid hbb
      obtain ⟨e0, e1, e2, e3, e4, e5⟩ := hbx.zero
      generalize wr.heap.size = qb at *
      clear c0 c1 c2 c3 c4 c5 hbx hbb hb hB
      go_wp2
      clear e0 e1 e2 e3 e4 e5
      go_loopw [29] (fun i wr => ∃ k2 : Nat, i = .int .i64 k2 ∧ k2 ≤ c.meths.length ∧ Below W1.heap.size W1 wr ∧ Hid (lookM lk c.nm c.meths = lookM lk c.nm (c.meths.drop k2))) (fun i _ => c.meths.length - (intOf i).toNat)
      case atStart => exact ⟨0, rfl, Nat.zero_le _, Below.refl _ _, rfl⟩
      case round =>
        obtain ⟨k2, rfl, hk2, hb2, HE2⟩ := hrel
        have hW2 := HM1.out.below (undo HBB.out hb2)
        obtain ⟨e0, e1, e2, e3, e4, e5⟩ := (HBX.out.below hb2).zero
        by_cases hkn2 : k2 < c.meths.length
        · obtain ⟨b2, off2, cap2, he2, _, _, hcc⟩ := MethSl.some HMS.out (by intro e; rw [e] at hkn2; simp at hkn2)
          injection he2 with he2 _ he3
          subst he2
          subst he3
          obtain ⟨cv, hv, h8, hmp⟩ := hcc k2 hkn2
          have hb02 := bel_then hb1 (undo HBB.out hb2)
          obtain ⟨d0, d1, d2, d3, d4, d5, d6, d7⟩ := h8.below hb02
          have HMEM2 := Lib.hid (List.getElem_mem hkn2)
          have HST2 := Lib.hid (lookM_drop (lk := lk) (nm := c.nm) hkn2)
          have HMP := Lib.hid hmp
          generalize c.meths[k2] = m at *
          obtain ⟨cA, cc, rfl, _, _⟩ := hmp.1.form
          obtain ⟨hA, hc, rfl, _, _⟩ := hmp.2.1.form
          clear hcc h8 hmp
          cases ha : m.abstract
          case true =>
            rw [ha] at d3
            have HE' : Hid (lookM lk c.nm c.meths = lookM lk c.nm (c.meths.drop (k2 + 1))) := by apply Lib.hid; rw [HE2.out, HST2.out, ha]; rfl
            have hbn := hb2.alloc hb2.size (.cells #[.string m.nm, .string m.ty, .bool m.static, .bool true, .bool m.priv, .int .i64 m.locals, .slice cA m.code.length cc, .slice hA m.hs.length hc] 44)
            clear HE2 HST2 ha
            go_wp2
            go_roundw
            case rel => exact ⟨k2 + 1, by go_num, by omega, hbn, HE'⟩
            case measure => simp [intOf]; omega
          case false =>
            rw [ha] at d3
            have hbn := hb2.alloc hb2.size (.cells #[.string m.nm, .string m.ty, .bool m.static, .bool false, .bool m.priv, .int .i64 m.locals, .slice cA m.code.length cc, .slice hA m.hs.length hc] 44)
            have HCL := Lib.hid (HLKC.out m HMEM2.out ha r)
            have HWW := Lib.hid ((HM1.out.below (undo HBB.out hbn)).wmap)
            have HMPn := Lib.hid (HMP.out.below (bel_then hb1 (undo HBB.out hbn)))
            have hqlt : qb < wr.heap.size := World.block_lt_of_cell? wr _ e0
            have hqne : qb ≠ wr.heap.size := by omega
            have hma : methV m (.slice cA m.code.length cc) (.slice hA m.hs.length hc) = .agg #[.string m.nm, .string m.ty, .bool m.static, .bool false, .bool m.priv, .int .i64 m.locals, .slice cA m.code.length cc, .slice hA m.hs.length hc] := by unfold methV methA; rw [ha]
            have HE2' : Hid (lookM lk c.nm c.meths = (lk c.nm m && lookM lk c.nm (c.meths.drop (k2 + 1)))) := by apply Lib.hid; rw [HE2.out, HST2.out, ha]; rfl
            have hcl2 := HCL.out _ _ _ HWW.out HMPn.out
            rw [hma] at hcl2
            have HCL2 := Lib.hid hcl2
            clear hcl2 HCL HWW HMPn hma HE2 HST2 ha
            go_wp2_with fail
            refine (HCL2.out).mono ?_
            rintro e w5 ⟨v5, rfl, hb5⟩
            have hbw5 := undo hbn hb5
            cases hlk : lk c.nm m
            · have H : Hid (checkErr evf lk l = 7) := by
                apply Lib.hid
                have e1 : lookAll lk l = false := by rw [HE.out, HST.out, HE2'.out, hlk]; rfl
                rw [HF1.out, e1]; rfl
              clear HE2' hlk
              go_wp2
              go_ret2
              exact cp_bad H.out (by decide) rfl (undo hb1 (undo HBB.out hbw5))
            · have HE' : Hid (lookM lk c.nm c.meths = lookM lk c.nm (c.meths.drop (k2 + 1))) := by apply Lib.hid; rw [HE2'.out, hlk]; rfl
              clear HE2' hlk
              go_wp2
              go_roundw
              case rel => exact ⟨k2 + 1, by go_num, by omega, hbw5, HE'⟩
              case measure => simp [intOf]; omega
        · have hke : k2 = c.meths.length := by omega
          have HE' : Hid (lookAll lk l = lookAll lk (l.drop (k + 1))) := by
            apply Lib.hid
            have e1 : lookM lk c.nm c.meths = true := by rw [HE2.out, hke, List.drop_length]; rfl
            rw [HE.out, HST.out, e1]; rfl
          have hbw := undo HBB.out hb2
          clear HE2 hke
          go_wp2
          go_roundw
          case rel => exact ⟨k + 1, by go_num, by omega, hbw, HE'⟩
          case measure => simp [intOf]; omega
    · have hke : k = l.length := by omega
      have H : Hid (checkErr evf lk l = 0) := by apply Lib.hid; rw [HF1.out, HE.out, hke, List.drop_length]; rfl
      have HMR := Lib.hid (HM1.out.below hb)
      clear HE HF1 hke
      go_wp2
      go_ret2
      exact cp_good H.out HMR.out (bel_then hb1 hb)
end Go.Proofs.YthcjjjpcjjondaaGreatDoor
