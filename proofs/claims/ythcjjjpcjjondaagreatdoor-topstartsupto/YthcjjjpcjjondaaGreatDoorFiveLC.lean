/- The adder is looked at: nothing can go wrong in it. -/
import Derived.Test.YthcjjjpcjjondaaGreatDoorMachG
import Derived.Test.YthcjjjpcjjondaaGreatDoorPure
namespace Go.Proofs.YthcjjjpcjjondaaGreatDoor
open Go.RowKit
set_option linter.unusedVariables false
set_option linter.unusedSimpArgs false
set_option linter.unnecessarySimpa false

def sA : Str := ⟨#[65]⟩
def sAdd : Str := ⟨#[97, 100, 100]⟩
def sII : Str := ⟨#[40, 73, 73, 41, 73]⟩
def addM : Meth := ⟨sAdd, sII, true, false, false, 2, addCode, []⟩
def addC : Cls := ⟨sA, sObject, [], false, [], [addM]⟩
def addFs : Nat → Frm
  | 0 => ⟨[sI, sI], []⟩
  | 1 => ⟨[sI, sI], [sI]⟩
  | 2 => ⟨[sI, sI], [sI, sI]⟩
  | 3 => ⟨[sI, sI], [sI]⟩
  | _ => ⟨[sI, sI], []⟩
theorem add_method : methodOf addM.ty = some ([sI, sI], sI) := by decide +kernel
theorem add_first : firstLocals sA addM [sI, sI] = [sI, sI] := by decide +kernel
theorem add_kind : kindErr (pw [addC]) sI = 0 := by decide +kernel
theorem add_next : ∀ (j : Nat) (hj : j < addM.code.length), afterL addM.code[j] j = if j + 1 < addM.code.length then [((j + 1 : Nat) : Int)] else [] := by
  have h : ∀ j : Fin addM.code.length, afterL addM.code[j.1] (j.1 : Nat) = if j.1 + 1 < addM.code.length then [((j.1 + 1 : Nat) : Int)] else [] := by decide +kernel
  exact fun j hj => h ⟨j, hj⟩
theorem add_looked (mr : Nat) (w : World) (cv hv : Value) (hW : WMap w (.map (some mr)) (pw [addC])) (hP : MethP w addM cv hv) :
    Calls Tryz.prog 49 #[.map (some mr), .string sA, methV addM cv hv] w (LookedPost w) := by
  have hgv : (sI.toList == [86]) = false := by decide +kernel
  have hnt : (sI.toList == [84]) = false := by decide +kernel
  have hz : sI.size ≤ 4611686018427387904 := by decide
  refine looked_line mr sA sI addM cv hv [sI, sI] addFs (pw [addC]) w hW hP add_method rfl (by decide) (by decide) rfl (by decide) (by decide) ?_ hgv add_kind hz ?_ ?_ add_next
  · intro k hk
    rw [add_first] at hk
    simp only [List.mem_cons, List.not_mem_nil, or_false, or_self] at hk
    subst hk
    exact ⟨add_kind, hz⟩
  · rw [add_first]; rfl
  · intro j hj w1 lv sv hF hB
    have hW1 := hW.below hB
    have key : ∀ (x : Ins) (ss ss' : List Str), addM.code[j] = x → addFs j = ⟨[sI, sI], ss⟩ → addFs (j + 1) = ⟨[sI, sI], ss'⟩ → ss.length ≤ 8 → (x.op = 4 ∨ x.op = 9 ∨ x.op = 27) →
        (∀ (wk w2 : World) (b : Nat), StepS w1 wk w2 b (.map (some mr)) sA sI [sI, sI] ss → Calls Tryz.prog 202 #[.pointer (some ⟨b, 0, none⟩), insV x] w2 (StepPost w1 wk b (.map (some mr)) sA sI [sI, sI] ss' (.tuple #[]))) →
        Calls Tryz.prog 157 #[.map (some mr), .string sA, .string sI, insV addM.code[j], .agg #[lv, sv]] w1 (AfterPost (addFs (j + 1)).locals (addFs (j + 1)).stack w1) := by
      intro x ss ss' hx h1 h2 hl hop hp
      rw [h1] at hF
      rw [hx, h2]
      exact after_ok _ lv sv sA sI x (pw [addC]) [sI, sI] ss [sI, sI] ss' w1 hW1 (own_strs hF.1) (own_strs hF.2) (by decide) (by omega) hp (fun wk w2 b h => sheap w1 wk b _ sA sI [sI, sI] ss' x.op x.a x.b x.ty x.cls x.nm w2 h hop)
    have h4 : j < 4 := hj
    rcases (by omega : j = 0 ∨ j = 1 ∨ j = 2 ∨ j = 3) with rfl | rfl | rfl | rfl
    · exact key ⟨4, 0, 0, eS, eS, eS⟩ [] [sI] rfl rfl rfl (by decide) (.inl rfl) (fun wk w2 b h => sload w1 wk b _ sA sI [sI, sI] [] 0 0 eS eS eS sI w2 h rfl hnt (by decide))
    · exact key ⟨4, 1, 0, eS, eS, eS⟩ [sI] [sI, sI] rfl rfl rfl (by decide) (.inl rfl) (fun wk w2 b h => sload w1 wk b _ sA sI [sI, sI] [sI] 1 0 eS eS eS sI w2 h rfl hnt (by decide))
    · exact key ⟨9, 1, 0, sI, eS, eS⟩ [sI, sI] [sI] rfl rfl rfl (by decide) (.inr (.inl rfl)) (fun wk w2 b h => smath w1 wk b _ sA sI [sI, sI] [] 0 sI eS eS (pw [addC]) w2 hW1 h add_kind hz (by decide))
    · exact key ⟨27, 0, 0, eS, eS, eS⟩ [sI] [] rfl rfl rfl (by decide) (.inr (.inr rfl)) (fun wk w2 b h => sgive w1 wk b _ sA sI [sI, sI] [] 0 0 eS eS eS (pw [addC]) w2 hW1 h add_kind hgv hz)
theorem add_read : readErr (evF (pw [addC])) [addC] = 0 := by decide +kernel
theorem add_checked (v : Value) (w : World) (hG : FormsLaid w) (hl : ClsSl w v [addC]) : Calls Tryz.prog 24 #[v] w (CheckPost (evF (pw [addC])) (fun _ _ => true) [addC] w) := by
  refine check_any v [addC] (evF (pw [addC])) (fun _ _ => true) w hG hl ?_ ?_
  · intro h1 h2 h3 c hc a ha
    exact evOk_all h1 h2 a
  · intro _ c hc m hm ha mr w1 cv hv hW hP
    simp only [List.mem_singleton] at hc
    subst hc
    have hm' : m = addM := by simpa [addC] using hm
    subst hm'
    refine (add_looked mr w1 cv hv hW hP).mono ?_
    rintro e w' ⟨r, he, hb⟩
    exact ⟨_, he, hb⟩
theorem add_fine : checkErr (evF (pw [addC])) (fun _ _ => true) [addC] = 0 := by
  unfold checkErr
  rw [add_read]
  decide +kernel
end Go.Proofs.YthcjjjpcjjondaaGreatDoor

/- run.Call of the adder on 2 and 3. -/
namespace Go.Proofs.YthcjjjpcjjondaaGreatDoor
open Go.RowKit
set_option linter.unusedVariables false
set_option linter.unusedSimpArgs false
set_option linter.unnecessarySimpa false

theorem field_meths (a b : Str) (fA gA mA : Option Addr) (fn fc gn gc mn mc : Nat) (x : Bool) (w : World) : (Instr.field 28 (.agg #[.string a, .string b, .slice fA fn fc, .bool x, .slice gA gn gc, .slice mA mn mc]) 5).run Tryz.prog w = .ok (.slice mA mn mc) w := by kernel_rfl
theorem addC_get : getC (pw [addC]) sA = addC := by decide +kernel
def FivePost (w : World) (e : Ending) (w' : World) : Prop := e = .returned (.tuple #[.agg #[.int .i64 1, .int .i64 5, .string ⟨#[]⟩, .int .i64 4], .nilIface]) ∧ Below w.heap.size w w'
set_option maxRecDepth 100000 in
set_option maxHeartbeats 8000000 in
theorem call_five (v : Value) (ab : Nat) (w : World) (hG : FormsLaid w) (hl : ClsSl w v [addC])
    (a0 : w.cell? ⟨ab, 0, none⟩ = some (.int .i64 1)) (a1 : w.cell? ⟨ab, 1, none⟩ = some (.int .i64 2)) (a2 : w.cell? ⟨ab, 2, none⟩ = some (.int .i64 1)) (a3 : w.cell? ⟨ab, 3, none⟩ = some (.int .i64 3)) :
    Calls Tryz.prog 9 #[v, .string ⟨#[65]⟩, .string ⟨#[97, 100, 100]⟩, .string ⟨#[40, 73, 73, 41, 73]⟩, .slice (some ⟨ab, 0, none⟩) 2 2, .int .i64 10] w (FivePost w) := by
  have hmf : ∀ (fn : Fn) (first cap : Array Value) (w : World), (Instr.makeFunc fn first cap).run Tryz.prog w = .ok (.func fn first cap) w := fun _ _ _ _ => rfl
  have hfm := field_meths
  obtain ⟨lA, lc, rfl, _, _⟩ := hl.form
  obtain ⟨hX, hO, hT, hzz, hb⟩ := three_new w (.cells #[.string ⟨#[97, 100, 100]⟩] 9) (.cells #[.string ⟨#[40, 73, 73, 41, 73]⟩] 9) (.cells #[.int .i64 0, .int .i64 0, .string ⟨#[]⟩, .int .i64 0] 38)
  have HR := Lib.hid (add_checked _ _ (hG.below hb) (hl.below mono_cls hb))
  have HX := Lib.hid hX
  have HO := Lib.hid hO
  have HT := Lib.hid hT
  have HZ := Lib.hid hzz
  have HB := Lib.hid hb
  have HA : Hid (∀ w1, Below w.heap.size w w1 → w1.cell? ⟨ab, 0, none⟩ = some (.int .i64 1) ∧ w1.cell? ⟨ab, 1, none⟩ = some (.int .i64 2) ∧ w1.cell? ⟨ab, 2, none⟩ = some (.int .i64 1) ∧ w1.cell? ⟨ab, 3, none⟩ = some (.int .i64 3)) := Lib.hid (fun w1 h => ⟨cell_below h a0, cell_below h a1, cell_below h a2, cell_below h a3⟩)
  clear hX hO hT hzz hb hG hl a0 a1 a2 a3
  go_enter Tryz.func9, Tryz.ntmps9
  go_wp2_with fail
  generalize ((w.alloc _).alloc _).alloc _ = W1 at *
  refine (HR.out).mono ?_
  rintro e w2 ⟨hres, hb2⟩
  rw [if_pos add_fine] at hres
  obtain ⟨r, rfl, hm2⟩ := hres
  have hlt : w.heap.size + 1 + 1 < W1.heap.size := by have := HZ.out; omega
  have hX2 := (hb2.block w.heap.size (by omega)).trans HX.out
  have hO2 := (hb2.block (w.heap.size + 1) (by omega)).trans HO.out
  have hT2 := (hb2.block (w.heap.size + 1 + 1) (by omega)).trans HT.out
  have HB2 := Lib.hid (bel_then HB.out hb2)
  obtain ⟨fv, gv, mv, hP, hrun, _⟩ := lookupW hm2.wmap ⟨#[65]⟩
  rw [show getC (pw [addC]) ⟨#[65]⟩ = addC from addC_get] at hP hrun
  obtain ⟨fA, fc, gA, gc, mA, mc, rfl, rfl, rfl⟩ := hP.forms
  have hIx := index_first addM [] _ w.heap.size (w.heap.size + 1) w2 hP.2.2.1 (cell_of hX2) (cell_of hO2)
  unfold clsA at hrun
  have HIX := Lib.hid hIx
  have HX2 := Lib.hid hX2
  have HO2 := Lib.hid hO2
  have HT2 := Lib.hid hT2
  have HM2 := Lib.hid hm2
  have hlt2 : w.heap.size + 1 + 1 < w2.heap.size := Nat.lt_of_lt_of_le hlt hb2.size
  clear hIx hX2 hO2 hT2 hP hm2 hb2 HR HX HO HT HB
  go_wp2_with fail
  refine (HIX.out).mono ?_
  rintro e w3 ⟨rfl, hb3⟩
  clear hrun HIX
  have hX3 := (hb3.block w.heap.size (by omega)).trans HX2.out
  have hO3 := (hb3.block (w.heap.size + 1) (by omega)).trans HO2.out
  have hT3 := (hb3.block (w.heap.size + 1 + 1) hlt2).trans HT2.out
  have HB3 := Lib.hid (bel_then HB2.out hb3)
  have hm3 := HM2.out.below hb3
  obtain ⟨fv, gv, mv, hP, hrun, _⟩ := lookupW hm3.wmap ⟨#[65]⟩
  rw [show getC (pw [addC]) ⟨#[65]⟩ = addC from addC_get] at hP hrun
  obtain ⟨b2, off2, cap2, he2, hcp, _, hcc⟩ := MethSl.some hP.2.2.1 (by simp [addC])
  obtain ⟨cv, hv, h8, hmp⟩ := hcc 0 (by simp [addC])
  obtain ⟨fA3, fc3, gA3, gc3, mA3, mc3, rfl, rfl, hmv⟩ := hP.forms
  rw [he2] at hrun
  simp only [Nat.zero_mul, Nat.add_zero, show addC.meths[0]'(by simp [addC]) = addM from rfl] at h8 hmp
  obtain ⟨d0, d1, d2, d3, d4, d5, d6, d7⟩ := h8
  obtain ⟨cA, cc, rfl, _, _⟩ := hmp.1.form
  obtain ⟨hA, hc, rfl, _, _⟩ := hmp.2.1.form
  unfold clsA at hrun
  have HX3 := Lib.hid hX3
  have HO3 := Lib.hid hO3
  have HT3 := Lib.hid hT3
  have HM3 := Lib.hid hm3
  have HMP := Lib.hid hmp
  have hlt3 : w.heap.size + 1 + 1 < w3.heap.size := Nat.lt_of_lt_of_le hlt2 hb3.size
  clear hX3 hO3 hT3 hP hmv hb3 hcc hm3 hmp HX2 HO2 HT2 HB2 HM2
  replace d2 : w3.cell? ⟨b2, off2 + 2, none⟩ = some (.bool true) := d2
  have hb4 := (Below.refl w3.heap.size w3).alloc (Nat.le_refl _) (.cells #[.string addM.nm, .string addM.ty, .bool true, .bool addM.abstract, .bool addM.priv, .int .i64 addM.locals, .slice cA addM.code.length cc, .slice hA addM.hs.length hc] 44)
  have hY4 : (w3.alloc (.cells #[.string addM.nm, .string addM.ty, .bool true, .bool addM.abstract, .bool addM.priv, .int .i64 addM.locals, .slice cA addM.code.length cc, .slice hA addM.hs.length hc] 44)).heap[w3.heap.size]? = some (.cells #[.string addM.nm, .string addM.ty, .bool true, .bool addM.abstract, .bool addM.priv, .int .i64 addM.locals, .slice cA addM.code.length cc, .slice hA addM.hs.length hc] 44 (0, 0)) := by
    show (w3.heap.push _)[w3.heap.size]? = _
    simp
  have hO4 := (hb4.block (w.heap.size + 1) (by omega)).trans HO3.out
  have hT4 := (hb4.block (w.heap.size + 1 + 1) hlt3).trans HT3.out
  have HB4 := Lib.hid (bel_then HB3.out hb4)
  have HMP4 := Lib.hid (HMP.out.below hb4)
  have HM4 := Lib.hid (HM3.out.below hb4)
  have hlt4 : w.heap.size + 1 + 1 < (w3.alloc (.cells #[.string addM.nm, .string addM.ty, .bool true, .bool addM.abstract, .bool addM.priv, .int .i64 addM.locals, .slice cA addM.code.length cc, .slice hA addM.hs.length hc] 44)).heap.size ∧ w3.heap.size < (w3.alloc (.cells #[.string addM.nm, .string addM.ty, .bool true, .bool addM.abstract, .bool addM.priv, .int .i64 addM.locals, .slice cA addM.code.length cc, .slice hA addM.hs.length hc] 44)).heap.size := ⟨by simp; omega, by simp⟩
  have HY4 := Lib.hid hY4
  have HT4 := Lib.hid hT4
  clear hb4 hY4 hT4 HX3 HO3 HT3 HM3 HMP HB3
  go_upto_region 8 with (fail)
  clear d0 d1 d2 d3 d4 d5 d6 d7 hrun
  generalize w3.alloc _ = W4 at *
  generalize w3.heap.size = mb at *
  have y2 : W4.cell? ⟨mb, 2, none⟩ = some (.bool true) := cell_of HY4.out
  have o0 : W4.cell? ⟨w.heap.size + 1, 0, none⟩ = some (.string ⟨#[40, 73, 73, 41, 73]⟩) := cell_of hO4
  clear hO4
  go_wp2_with fail
  refine (method_any ⟨#[40, 73, 73, 41, 73]⟩ _ (by decide)).mono ?_
  rintro e w5 ⟨hres, hb5⟩
  rw [show methodOf ⟨#[40, 73, 73, 41, 73]⟩ = some ([sI, sI], sI) from add_method] at hres
  obtain ⟨tv, rfl, htv⟩ := hres
  obtain ⟨tg, tc, rfl⟩ := own_form htv (by simp)
  obtain ⟨tA, tc', het, ht1, ht2⟩ := (own_strs htv).form
  injection het with e1 _ e3
  subst e1 e3
  obtain ⟨tg', toff, het, t0⟩ := (own_strs htv).at (j := 0) (by simp)
  injection het with het
  injection het with e1 e2 _
  subst e1 e2
  obtain ⟨tg', toff, het, t1⟩ := (own_strs htv).at (j := 1) (by simp)
  injection het with het
  injection het with e1 e2 _
  subst e1 e2
  simp only [List.getElem_cons_zero, List.getElem_cons_succ, Nat.zero_add, Nat.add_zero] at t0 t1
  have HB5 := Lib.hid (bel_then HB4.out hb5)
  have HMP5 := Lib.hid (HMP4.out.below hb5)
  have HM5 := Lib.hid (HM4.out.below hb5)
  have hY5 := (hb5.block mb hlt4.2).trans HY4.out
  have hT5 := (hb5.block (w.heap.size + 1 + 1) hlt4.1).trans HT4.out
  have HY5 := Lib.hid hY5
  have HT5 := Lib.hid hT5
  have H0 := Lib.hid t0
  have H1 := Lib.hid t1
  have hlt5 : w.heap.size + 1 + 1 < w5.heap.size ∧ mb < w5.heap.size := ⟨Nat.lt_of_lt_of_le hlt4.1 hb5.size, Nat.lt_of_lt_of_le hlt4.2 hb5.size⟩
  rw [errV_0]
  clear htv t0 t1 hY5 hT5 hb5 HB4 HMP4 HM4 HY4 HT4 y2 o0
  go_wp2_with fail
  go_loopw [82] (fun i wr => (i = .int .i64 0 ∨ i = .int .i64 1 ∨ i = .int .i64 2) ∧ Below w5.heap.size w5 wr) (fun i _ => 2 - (intOf i).toNat)
  case atStart => exact ⟨.inl rfl, Below.refl _ _⟩
  case round =>
    obtain ⟨hk, hb⟩ := hrel
    obtain ⟨a0, a1, a2, a3⟩ := HA.out wr (bel_then HB5.out hb)
    have ht0 := cell_below hb H0.out
    have ht1' := cell_below hb H1.out
    unfold sI at ht0 ht1'
    rcases hk with rfl | rfl | rfl
    · have hbx := (Below.refl wr.heap.size wr).alloc (Nat.le_refl _) (.cells #[.int .i64 1, .int .i64 2] 36)
      have hX : (wr.alloc (.cells #[.int .i64 1, .int .i64 2] 36)).heap[wr.heap.size]? = some (.cells #[.int .i64 1, .int .i64 2] 36 (0, 0)) := by
        show (wr.heap.push _)[wr.heap.size]? = _
        simp
      have u0 := cell_below hbx ht0
      have u1 := cell_below hbx ht1'
      have hbn := bel_then hb hbx
      go_upto_region 20 with (fail)
      clear a0 a1 a2 a3 ht0 ht1' hbx
      generalize wr.alloc _ = W6 at *
      generalize wr.heap.size = qb at *
      have x0 : W6.cell? ⟨qb, 0, none⟩ = some (.int .i64 1) := cell_of hX
      have x1 : W6.cell? ⟨qb, 1, none⟩ = some (.int .i64 2) := cell_of hX
      clear hX
      go_still_tail 7, (by kernel_rfl)
      change wpList _ _ _ _ _ W6.drew
      go_wp2_with fail
      refine (does_int _ 2 _ (by decide)).mono ?_
      rintro e w7 ⟨rfl, hb7⟩
      have hbb := bel_then hbn (undrew hb7)
      clear u0 u1 x0 x1 hb7 hbn
      go_wp2
      go_roundw
      case rel => exact ⟨.inr (.inl rfl), hbb⟩
      case measure => simp [intOf]
    · have hbx := (Below.refl wr.heap.size wr).alloc (Nat.le_refl _) (.cells #[.int .i64 1, .int .i64 3] 36)
      have hX : (wr.alloc (.cells #[.int .i64 1, .int .i64 3] 36)).heap[wr.heap.size]? = some (.cells #[.int .i64 1, .int .i64 3] 36 (0, 0)) := by
        show (wr.heap.push _)[wr.heap.size]? = _
        simp
      have u0 := cell_below hbx ht0
      have u1 := cell_below hbx ht1'
      have hbn := bel_then hb hbx
      go_upto_region 20 with (fail)
      clear a0 a1 a2 a3 ht0 ht1' hbx
      generalize wr.alloc _ = W6 at *
      generalize wr.heap.size = qb at *
      have x0 : W6.cell? ⟨qb, 0, none⟩ = some (.int .i64 1) := cell_of hX
      have x1 : W6.cell? ⟨qb, 1, none⟩ = some (.int .i64 3) := cell_of hX
      clear hX
      go_still_tail 7, (by kernel_rfl)
      change wpList _ _ _ _ _ W6.drew
      go_wp2_with fail
      refine (does_int _ 3 _ (by decide)).mono ?_
      rintro e w7 ⟨rfl, hb7⟩
      have hbb := bel_then hbn (undrew hb7)
      clear u0 u1 x0 x1 hb7 hbn
      go_wp2
      go_roundw
      case rel => exact ⟨.inr (.inr rfl), hbb⟩
      case measure => simp [intOf]
    · have hbx := (Below.refl wr.heap.size wr).alloc (Nat.le_refl _) (.cells #[.map (some r), .slice none 0 0, .slice none 0 0, .int .i64 0, .int .i64 0, .string ⟨#[]⟩, .int .i64 0, .bool false] 81)
      have hM8 : MachAt (wr.alloc (.cells #[.map (some r), .slice none 0 0, .slice none 0 0, .int .i64 0, .int .i64 0, .string ⟨#[]⟩, .int .i64 0, .bool false] 81)) wr.heap.size (.map (some r)) (.slice none 0 0) (.slice none 0 0) 0 0 ⟨#[]⟩ 0 false := by
        show (wr.heap.push _)[wr.heap.size]? = _
        simp
      have hb8 := bel_then hb hbx
      have hkb : w5.heap.size ≤ wr.heap.size := hb.size
      have HM8 := Lib.hid hM8
      have HB8 := Lib.hid hb8
      clear a0 a1 a2 a3 ht0 ht1' hbx hM8 hb8 hb
      go_upto_region 24 with (fail)
      generalize wr.alloc _ = W8 at *
      generalize wr.heap.size = kb at *
      obtain ⟨a0, a1, a2, a3⟩ := HA.out W8 (bel_then HB5.out HB8.out)
      have hY8 := (HB8.out.block mb hlt5.2).trans HY5.out
      obtain ⟨y0, y1, y2, y3, y4, y5, y6, y7⟩ : W8.cell? ⟨mb, 0, none⟩ = some (.string addM.nm) ∧ W8.cell? ⟨mb, 1, none⟩ = some (.string addM.ty) ∧ W8.cell? ⟨mb, 2, none⟩ = some (.bool true) ∧ W8.cell? ⟨mb, 3, none⟩ = some (.bool addM.abstract) ∧ W8.cell? ⟨mb, 4, none⟩ = some (.bool addM.priv) ∧ W8.cell? ⟨mb, 5, none⟩ = some (.int .i64 addM.locals) ∧ W8.cell? ⟨mb, 6, none⟩ = some (.slice cA addM.code.length cc) ∧ W8.cell? ⟨mb, 7, none⟩ = some (.slice hA addM.hs.length hc) :=
        ⟨cell_of hY8, cell_of hY8, cell_of hY8, cell_of hY8, cell_of hY8, cell_of hY8, cell_of hY8, cell_of hY8⟩
      have HEN := Lib.hid (enter_two w5 kb ab (.map (some r)) (.slice none 0 0) ⟨#[65]⟩ addM _ _ 1 2 1 3 W8 HM8.out HB8.out hkb rfl HMP5.out a0 a1 a2 a3)
      unfold methV methA at HEN
      clear a0 a1 a2 a3 hY8
      go_wp2_with fail
      refine (HEN.out).mono ?_
      rintro e w9 ⟨rfl, cb, cg, ccap, cur, hM9, hG9, hcur, hc1, hc2, hC9⟩
      have HRU := Lib.hid (run_five w5 kb cb cg ccap cur _ _ _ addM _ _ w9 hC9 hM9 hG9 hcur hkb hc1 hc2 HMP5.out.1 rfl)
      clear hM9 hG9 hcur hC9 y0 y1 y2 y3 y4 y5 y6 y7
      go_wp2_with fail
      refine (HRU.out).mono ?_
      rintro e w10 ⟨rfl, ⟨cg', ccap', hM10⟩, hB10⟩
      have hT10 := (hB10.block (w.heap.size + 1 + 1) hlt5.1).trans HT5.out
      have m3 : w10.cell? ⟨kb, 3, none⟩ = some (.int .i64 1) := cell_of hM10
      have m4 : w10.cell? ⟨kb, 4, none⟩ = some (.int .i64 5) := cell_of hM10
      have m5 : w10.cell? ⟨kb, 5, none⟩ = some (.string ⟨#[]⟩) := cell_of hM10
      have m6 : w10.cell? ⟨kb, 6, none⟩ = some (.int .i64 4) := cell_of hM10
      have q0 : w10.cell? ⟨w.heap.size + 1 + 1, 0, none⟩ = some (.int .i64 0) := cell_of hT10
      have q1 : w10.cell? ⟨w.heap.size + 1 + 1, 1, none⟩ = some (.int .i64 0) := cell_of hT10
      have q2 : w10.cell? ⟨w.heap.size + 1 + 1, 2, none⟩ = some (.string ⟨#[]⟩) := cell_of hT10
      have q3 : w10.cell? ⟨w.heap.size + 1 + 1, 3, none⟩ = some (.int .i64 0) := cell_of hT10
      have z0 : w10.frozen? ⟨w.heap.size + 1 + 1, 0, none⟩ = false := frozen_of hT10
      have z1 : w10.frozen? ⟨w.heap.size + 1 + 1, 1, none⟩ = false := frozen_of hT10
      have z2 : w10.frozen? ⟨w.heap.size + 1 + 1, 2, none⟩ = false := frozen_of hT10
      have z3 : w10.frozen? ⟨w.heap.size + 1 + 1, 3, none⟩ = false := frozen_of hT10
      have HB10 := Lib.hid (bel_then HB5.out hB10)
      clear hM10 hB10 hT10
      go_wp2_with fail
      have hle : w.heap.size ≤ w.heap.size + 1 + 1 := by omega
      exact bodyPost_ret (v := .tuple #[.agg #[.int .i64 1, .int .i64 5, .string ⟨#[]⟩, .int .i64 4], .nilIface]) (by simp [results, Tryz.results9, go_sem, q0, q1, q2, q3]) rfl ⟨rfl, (((HB10.out.setCell (p := ⟨w.heap.size + 1 + 1, 0, none⟩) hle _).setCell (p := ⟨w.heap.size + 1 + 1, 1, none⟩) hle _).setCell (p := ⟨w.heap.size + 1 + 1, 2, none⟩) hle _).setCell (p := ⟨w.heap.size + 1 + 1, 3, none⟩) hle _⟩
end Go.Proofs.YthcjjjpcjjondaaGreatDoor
