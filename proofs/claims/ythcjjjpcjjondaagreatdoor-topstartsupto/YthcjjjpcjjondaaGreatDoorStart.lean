/- The order of initialization: start.Order. -/
import Derived.Test.YthcjjjpcjjondaaGreatDoorWorldG
namespace Go.Proofs.YthcjjjpcjjondaaGreatDoor
open Go.RowKit
set_option linter.unusedVariables false
set_option linter.unusedSimpArgs false
set_option linter.unnecessarySimpa false

def OrderPost (lnf evf : Str → List Str) (l : List Cls) (uses : List Str) (w : World) (e : Ending) (w' : World) : Prop :=
  (if orderErr evf l uses = 0 then ∃ v, e = .returned (.tuple #[v, .nilIface]) ∧ w'.ownsRow w.heap.size 9 1 v (orderFrom lnf [sObject] uses).length (strCells (orderFrom lnf [sObject] uses))
    else e = .returned (.tuple #[.slice none 0 0, errV (orderErr evf l uses)])) ∧ Below w.heap.size w w'
theorem op_bad {lnf evf : Str → List Str} {l : List Cls} {uses : List Str} {w w' : World} {k : Int} {v : Value} (h : orderErr evf l uses = k) (hk : k ≠ 0) (hv : v = .tuple #[.slice none 0 0, .iface 53 (.int .i64 k)]) (hb : Below w.heap.size w w') : OrderPost lnf evf l uses w (.returned v) w' := by
  unfold OrderPost
  rw [h, if_neg hk, hv, errV_ne hk]
  exact ⟨rfl, hb⟩
theorem op_good {lnf evf : Str → List Str} {l : List Cls} {uses : List Str} {w w' : World} {v : Value} (h : orderErr evf l uses = 0) (hm : w'.ownsRow w.heap.size 9 1 v (orderFrom lnf [sObject] uses).length (strCells (orderFrom lnf [sObject] uses))) (hb : Below w.heap.size w w') : OrderPost lnf evf l uses w (.returned (.tuple #[v, .nilIface])) w' := by
  unfold OrderPost
  rw [if_pos h]
  exact ⟨⟨v, rfl, hm⟩, hb⟩
def LineOk (L : PW) (lnf : Str → List Str) (u : Str) : Prop := ∃ k, lineFrom k L (getC L u) = some (lnf u) ∧ k ≤ 1048576
theorem own_kept {w w1 : World} {base : Nat} {e : TypeId} {size n : Nat} {v : Value} {xs : List Value} {row : Option Nat} (h : w.ownsRow base e size v n xs) (hg : w.grownBy w1 row) (hne : v.ownBlock = none ∨ v.ownBlock ≠ row) : w1.ownsRow base e size v n xs := h.kept hg hne
theorem order_drop {lnf : Str → List Str} {uses out : List Str} {k : Nat} (hk : k < uses.length) : orderFrom lnf out (uses.drop k) = orderFrom lnf (((uses[k] :: lnf uses[k]).reverse).foldl addNew out) (uses.drop (k + 1)) := by
  rw [List.drop_eq_getElem_cons hk]; rfl

theorem own_lower {w : World} {base b2 : Nat} {e : TypeId} {size n : Nat} {v : Value} {xs : List Value} (h : w.ownsRow base e size v n xs) (hle : b2 ≤ base) : w.ownsRow b2 e size v n xs := by
  refine ⟨h.1, ?_⟩
  rcases h.2 with ⟨a, b⟩ | ⟨g, cap, cur, hv, hb, hr⟩
  · exact .inl ⟨a, b⟩
  · exact .inr ⟨g, cap, cur, hv, Nat.le_trans hle hb, hr⟩

set_option maxRecDepth 100000 in
set_option maxHeartbeats 8000000 in
theorem order_any (v uv : Value) (l : List Cls) (uses : List Str) (lnf evf : Str → List Str) (w : World) (hG : FormsLaid w) (hl : ClsSl w v l) (hu : StrSl w uv uses)
    (hev : l.length ≤ 10 → addErr firstL l = 0 → joinErrs (pw l) l = 0 → ∀ c ∈ l, EvOk (pw l) evf (above (pw l) c.nm))
    (hln : readErr evf l = 0 → allK (pw l) uses = true → ∀ u ∈ uses, LineOk (pw l) lnf u)
    (hlen : readErr evf l = 0 → allK (pw l) uses = true → (orderFrom lnf [sObject] uses).length ≤ 1048576) :
    Calls Tryz.prog 8 #[v, uv] w (OrderPost lnf evf l uses w) := by
  have HF : Hid (orderErr evf l uses = if readErr evf l ≠ 0 then readErr evf l else if allK (pw l) uses = false then 3 else 0) := Lib.hid rfl
  have HR := Lib.hid (read_any v l evf w hG hl hev)
  have HLN := Lib.hid hln
  have HLEN := Lib.hid hlen
  obtain ⟨uA, ucap, rfl, hu1, hu2⟩ := hu.form
  unfold maxLen at hu2
  have HUC : Hid (∀ (k : Nat) (hk : k < uses.length), ∃ b off, uA = some ⟨b, off, none⟩ ∧ w.cell? ⟨b, off + k, none⟩ = some (.string uses[k])) := by
    apply Lib.hid
    intro k hk
    exact hu.at hk
  have HMEM : Hid (∀ (k : Nat) (hk : k < uses.length), uses[k] ∈ uses) := Lib.hid (fun k hk => List.getElem_mem hk)
  clear hG hl hu hev hln hlen
  go_enter Tryz.func8, Tryz.ntmps8
  go_wp2_with fail
  refine (HR.out).mono ?_
  rintro e w1 ⟨hres, hb1⟩
  by_cases hz : readErr evf l = 0
  case neg =>
    rw [if_neg hz] at hres
    subst hres
    rw [errV_ne hz]
    have H : Hid (orderErr evf l uses = readErr evf l) := by apply Lib.hid; rw [HF.out, if_pos hz]
    have HZ := Lib.hid hz
    clear HF HLN HLEN hz HR
    generalize readErr evf l = er at *
    go_wp2
    go_ret2
    exact op_bad H.out HZ.out rfl hb1
  rw [if_pos hz] at hres
  obtain ⟨r, rfl, hm1⟩ := hres
  have HF1 : Hid (orderErr evf l uses = if allK (pw l) uses = false then 3 else 0) := by apply Lib.hid; rw [HF.out, hz]; rfl
  have HLN1 : Hid (allK (pw l) uses = true → ∀ u ∈ uses, LineOk (pw l) lnf u) := Lib.hid (HLN.out hz)
  have HLEN1 : Hid (allK (pw l) uses = true → (orderFrom lnf [sObject] uses).length ≤ 1048576) := Lib.hid (HLEN.out hz)
  have HM1 := Lib.hid hm1
  clear HF HLN HLEN hz hm1 HR
  generalize pw l = L at *
  go_wp2
  go_loopw [28] (fun i wr => ∃ k : Nat, i = .int .i64 k ∧ k ≤ uses.length ∧ Below w1.heap.size w1 wr ∧ Hid (allK L uses = allK L (uses.drop k))) (fun i _ => uses.length - (intOf i).toNat)
  case atStart => exact ⟨0, rfl, Nat.zero_le _, Below.refl _ _, rfl⟩
  case round =>
    obtain ⟨k, rfl, hk, hb, HE⟩ := hrel
    have hB := hb1.trans (hb.mono hb1.size)
    by_cases hkn : k < uses.length
    · obtain ⟨b, off, rfl, c0⟩ := HUC.out k hkn
      have c0' := cell_below hB c0
      have HST := Lib.hid (allK_drop (L := L) hkn)
      generalize uses[k] = x at *
      obtain ⟨fv3, gv3, mv3, hP3, _, hrun⟩ := lookupW ((HM1.out.below hb).wmap) x
      obtain ⟨fA3, fc3, gA3, gc3, mA3, mc3, rfl, rfl, rfl⟩ := hP3.forms
      unfold clsA at hrun
      clear hP3 c0
      generalize getC L x = c3 at *
      have HB1 : ∀ o, Below w1.heap.size w1 (wr.alloc o) := fun o => hb.alloc hb.size o
      cases hkx : hasK L x
      · rw [hkx] at hrun
        have H : Hid (orderErr evf l uses = 3) := by
          apply Lib.hid
          have e : allK L uses = false := by rw [HE.out, HST.out, hkx]; rfl
          rw [HF1.out, if_pos e]
        have HT1 : ∀ o, Below w.heap.size w (wr.alloc o) := fun o => hB.alloc hB.size o
        clear HF1 HE HST hkx
        go_wp2
        go_ret2
        exact op_bad H.out (by decide) rfl (HT1 _)
      · rw [hkx] at hrun
        have HE' : Hid (allK L uses = allK L (uses.drop (k + 1))) := by apply Lib.hid; rw [HE.out, HST.out, hkx]; rfl
        clear HE HST hkx
        go_wp2
        go_roundw
        case rel => exact ⟨k + 1, by go_num, by omega, HB1 _, HE'⟩
        case measure => simp [intOf]; omega
    · have hke : k = uses.length := by omega
      have hall : allK L uses = true := by rw [HE.out, hke, List.drop_length]; rfl
      have H : Hid (orderErr evf l uses = 0) := by apply Lib.hid; rw [HF1.out, if_neg (by rw [hall]; simp)]
      have HLN2 := Lib.hid (HLN1.out hall)
      have hlen2 := HLEN1.out hall
      clear HE HF1 hke HLN1 HLEN1 hall
      have hB := hb1.trans (hb.mono hb1.size)
      have hbo := hb.alloc hb.size (.cells #[.string sObject] 9)
      have HO1 := own_lit (base := w1.heap.size) wr sObject hb.size
      unfold sObject at HO1 hbo
      go_wp2_with fail
      generalize wr.alloc _ = W1 at *
      go_loopw [12, 45] (fun v i wr => ∃ (out : List Str) (g cap k : Nat), v = .slice (some ⟨g, 0, none⟩) out.length cap ∧ i = .int .i64 k ∧ k ≤ uses.length ∧ 0 < out.length ∧
        wr.ownsRow w1.heap.size 9 1 (.slice (some ⟨g, 0, none⟩) out.length cap) out.length (strCells out) ∧ Below w1.heap.size w1 wr ∧ Hid (orderFrom lnf [sObject] uses = orderFrom lnf out (uses.drop k))) (fun _ i _ => uses.length - (intOf i).toNat)
      case atStart => exact ⟨[sObject], _, 1, 0, rfl, rfl, Nat.zero_le _, by simp, HO1, hbo, rfl⟩
      case round =>
        clear HO1 hbo hb hB
        obtain ⟨out, g, cap, k, rfl, rfl, hk, hpos, hown, hb, HR⟩ := hrel
        have hB := hb1.trans (hb.mono hb1.size)
        by_cases hkn : k < uses.length
        · obtain ⟨b, off, rfl, c0⟩ := HUC.out k hkn
          have c0' := cell_below hB c0
          have HST := Lib.hid (order_drop (lnf := lnf) (out := out) hkn)
          obtain ⟨kl, hkl, hklb⟩ := HLN2.out uses[k] (HMEM.out k hkn)
          have hLL : (((uses[k] :: lnf uses[k]).reverse).foldl addNew out).length ≤ 1048576 := by
            refine Nat.le_trans ?_ hlen2
            rw [HR.out, HST.out]
            exact order_len _ _ _
          have hll := lineFrom_len _ hkl
          have HKL := Lib.hid hkl
          have HO := Lib.hid hown
          clear c0 hkl hown
          generalize uses[k] = x at *
          go_wp2_with fail
          refine (line_any _ L x kl (lnf x) wr (HM1.out.below hb).wmap HKL.out hklb).mono ?_
          rintro e w2 ⟨lv, rfl, hlv, hb2⟩
          have hob2 := own_below HO.out hb2
          have hB2 : Below w1.heap.size w1 w2 := bel_then hb hb2
          clear HKL
          generalize hls : x :: lnf x = ls at *
          have hlsl : ls.length ≤ 1048577 := by rw [← hls]; simp; omega
          clear hls hll
          go_wp2_with fail
          refine (rev_any _ ls _ w2 hlv (by omega)).mono ?_
          rintro e w3 ⟨rfl, hlv3, hg3⟩
          have hgl : g < wr.heap.size := own_lt HO.out g rfl
          have hlb : ∀ q, lv.ownBlock = some q → wr.heap.size ≤ q := fun q e => own_base hlv q e
          have hown3 : w3.ownsRow w1.heap.size 9 1 (.slice (some ⟨g, 0, none⟩) out.length cap) out.length (strCells out) := by
            refine own_kept hob2 hg3 (.inr ?_)
            intro e
            have := hlb g (by rw [← e]; rfl)
            omega
          have hB3 : Below w1.heap.size w1 w3 := hB2.grown hg3 hB2.size (fun q e => Nat.le_trans hb.size (hlb q e))
          have hX : SlX w3 (some g) lv ls.reverse := by
            refine slX_own (base := wr.heap.size) ?_ (fun q e => by injection e with e; omega)
            rw [List.length_reverse]; exact hlv3
          have hrl : ls.reverse.length = ls.length := List.length_reverse
          clear hlv hlv3 hlb hob2
          generalize hrv : ls.reverse = ab at *
          obtain ⟨aA, acap, rfl, ha1, ha2⟩ := hX.sl.form
          unfold maxLen at ha2
          have HX := Lib.hid hX
          have HO3 := Lib.hid hown3
          clear hX hown3 hrl hrv
          go_wp2
          go_loopw [12, 56] (fun v i wr => ∃ (m g cap : Nat), i = .int .i64 m ∧ m ≤ ab.length ∧ v = .slice (some ⟨g, 0, none⟩) ((ab.take m).foldl addNew out).length cap ∧
            wr.ownsRow w1.heap.size 9 1 (.slice (some ⟨g, 0, none⟩) ((ab.take m).foldl addNew out).length cap) ((ab.take m).foldl addNew out).length (strCells ((ab.take m).foldl addNew out)) ∧ Below w1.heap.size w1 wr ∧ SlX wr (some g) (.slice aA ab.length acap) ab) (fun _ i _ => ab.length - (intOf i).toNat)
          case atStart => exact ⟨0, g, cap, rfl, Nat.zero_le _, rfl, HO3.out, hB3, HX.out⟩
          case round =>
            clear HX HO3 hb2 hB2 hb hB3
            obtain ⟨m, g, cap, rfl, hm, rfl, hown, hb, hX⟩ := hrel
            have HX := Lib.hid hX
            by_cases hmn : m < ab.length
            · have hft := fold_take (out := out) hmn
              obtain ⟨b, off, hA, hc⟩ := hX.sl.at hmn
              have hlen := fold_take_len (l := ab) (out := out) m
              have HFT := Lib.hid hft
              have HCX := Lib.hid hc
              clear hft hX
              generalize hcur : (ab.take m).foldl addNew out = cur at *
              generalize ab[m] = y at *
              clear hcur
              obtain ⟨hcc1, hcc2⟩ : cur.length ≤ cap ∧ cap ≤ 9223372036854775807 := by
                obtain ⟨A', cap', he, h1, h2⟩ := (own_strs hown).form
                injection he with _ _ e3
                subst e3
                exact ⟨h1, h2⟩
              subst hA
              go_wp2_with fail
              refine (containsStr _ cur y wr (own_strs hown)).mono ?_
              rintro e w3 ⟨rfl, rfl⟩
              cases hcy : hasStr cur y
              case true =>
                have HA : Hid (addNew cur y = cur) := by apply Lib.hid; unfold addNew; rw [if_pos hcy]
                have HO := Lib.hid hown
                clear hcy hown hc
                go_wp2
                go_roundw
                case rel =>
                  refine ⟨m + 1, g, cap, by go_num, by omega, ?_, ?_, hb, HX.out⟩
                  · rw [HFT.out, HA.out]
                  · rw [HFT.out, HA.out]; exact HO.out
                case measure => simp [intOf]; omega
              case false =>
                have HA : Hid (addNew cur y = cur ++ [y]) := by apply Lib.hid; unfold addNew; rw [if_neg (by rw [hcy]; simp)]
                have HO := Lib.hid hown
                clear hcy hown hc
                go_wp2_with (at_builtin; go_loud (refine append_str w1.heap.size rfl _ _ rfl (.slice (some ⟨g, 0, none⟩) cur.length cap) cur _ rfl rfl HO.out hb hb.size (by omega) ?_))
                intro v1 w4 hown4 hb4 hg4 hat4
                replace hown4 : w4.ownsRow w1.heap.size 9 1 v1 (cur ++ [y]).length (strCells (cur ++ [y])) := by rw [List.length_append]; exact hown4
                obtain ⟨g4, cap4, hv4⟩ := own_form hown4 (by simp)
                have HO4 := Lib.hid hown4
                have HV4 := Lib.hid hv4
                have HX4 : SlX w4 (some g4) (.slice (some ⟨b, off, none⟩) ab.length acap) ab := by
                  have := HX.out.grown (Y := some g4) hg4 (by rw [hv4] at hat4; exact hat4)
                  exact this
                clear hown4 hv4
                go_wp2
                go_roundw
                case rel =>
                  refine ⟨m + 1, g4, cap4, by go_num, by omega, ?_, ?_, hb4, HX4⟩
                  · rw [HFT.out, HA.out]; exact HV4.out
                  · rw [HFT.out, HA.out, ← HV4.out]; exact HO4.out
                case measure => simp [intOf]; omega
            · have hme : m = ab.length := by omega
              have HM2 : Hid (ab.take m = ab) := by apply Lib.hid; rw [hme, List.take_length]
              have HO := Lib.hid hown
              have hpos2 : 0 < ((ab.take m).foldl addNew out).length := Nat.lt_of_lt_of_le hpos (fold_len _ _)
              clear hme hown hX
              go_wp2
              go_roundw
              case measure => simp [intOf]; omega
              case rel =>
                refine ⟨(ab.take m).foldl addNew out, g, cap, k + 1, rfl, by go_num, by omega, hpos2, HO.out, hb, ?_⟩
                apply Lib.hid; rw [HM2.out, HR.out, HST.out]
        · have hke : k = uses.length := by omega
          have HRO : Hid (orderFrom lnf [sObject] uses = out) := by apply Lib.hid; rw [HR.out, hke, List.drop_length]; rfl
          have HO := Lib.hid hown
          clear hke HR hown
          go_wp2
          go_ret2
          exact op_good H.out (by rw [HRO.out]; exact own_lower HO.out hb1.size) (hb1.trans (hb.mono hb1.size))
end Go.Proofs.YthcjjjpcjjondaaGreatDoor
