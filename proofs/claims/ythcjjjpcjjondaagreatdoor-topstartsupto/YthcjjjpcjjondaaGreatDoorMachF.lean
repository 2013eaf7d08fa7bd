/- run.machine: the run of the adder of 2 and 3. -/
import Derived.Test.YthcjjjpcjjondaaGreatDoorMachE
namespace Go.Proofs.YthcjjjpcjjondaaGreatDoor
open Go.RowKit
set_option linter.unusedVariables false
set_option linter.unusedSimpArgs false
set_option linter.unnecessarySimpa false

def eS : Str := ⟨#[]⟩
def sI : Str := ⟨#[73]⟩
def addCode : List Ins := [⟨4, 0, 0, eS, eS, eS⟩, ⟨4, 1, 0, eS, eS, eS⟩, ⟨9, 1, 0, sI, eS, eS⟩, ⟨27, 0, 0, eS, eS, eS⟩]
def twoArgs : List VL := [⟨1, 2⟩, ⟨1, 3⟩]
def addStack : Nat → List VL
  | 0 => []
  | 1 => [⟨1, 2⟩]
  | 2 => [⟨1, 2⟩, ⟨1, 3⟩]
  | _ => [⟨1, 5⟩]
theorem CS.setk {w0 wr : World} {cb kb i : Nat} {cls : Str} {m : Meth} {cv hv : Value} {at_ : Int} {ls ss : List VL} {c : Array Value} {fz : Nat × Nat} {u : Value} (h : CS w0 wr wr cb cls m cv hv at_ ls ss) (hk : wr.heap[kb]? = some (.cells c 81 fz)) (hkb : w0.heap.size ≤ kb) : CS w0 (wr.setCell ⟨kb, i, none⟩ u) (wr.setCell ⟨kb, i, none⟩ u) cb cls m cv hv at_ ls ss := by
  obtain ⟨h0, h1, h2, lv, sv, h3, h4, h5, h6⟩ := h
  have hne : cb ≠ kb := by
    rintro rfl
    unfold CallAt at h3
    rw [hk] at h3
    injection h3 with h3
    injection h3 with _ h3 _
    exact absurd h3 (by decide)
  refine ⟨TagG.refl _ _, h1.setCell hkb _, h2, lv, sv, heap_grown (grown_set wr ⟨kb, i, none⟩ u) (fun e => by injection e with e; exact hne e) h3, ownsRow_setCell_other h4 (a := ⟨kb, i, none⟩) (own_ne_tag h4 hk (by decide)) _, ownsRow_setCell_other h5 (a := ⟨kb, i, none⟩) (own_ne_tag h5 hk (by decide)) _, h6⟩
def RunPost (w0 : World) (kb : Nat) (mw hp : Value) (e : Ending) (w' : World) : Prop := e = .returned .nilIface ∧ (∃ cg ccap, MachAt w' kb mw hp (.slice (some ⟨cg, 0, none⟩) 0 ccap) 1 5 ⟨#[]⟩ 4 true) ∧ Below w0.heap.size w0 w'
/-- The adder's run, at a round's head. -/
def RunSt (w0 w1 wr : World) (kb cb cg ccap : Nat) (mw hp : Value) (cls : Str) (m : Meth) (cv hv : Value) (j : Nat) : Prop :=
  CS w0 wr wr cb cls m cv hv j twoArgs (addStack j) ∧ MachAt wr kb mw hp (.slice (some ⟨cg, 0, none⟩) 1 ccap) 0 0 ⟨#[]⟩ j false ∧ TagG leaveS w1 wr
set_option maxRecDepth 100000 in
set_option maxHeartbeats 4000000 in
theorem run_round (w0 w1 wr : World) (kb cb cg ccap : Nat) (cur : Array Value) (mw hp : Value) (cls : Str) (m : Meth) (cv hv : Value) (j : Nat) (hj : j < 3) (h : RunSt w0 w1 wr kb cb cg ccap mw hp cls m cv hv j) (hG : w1.heap[cg]? = some (.cells cur 123 (0, 0))) (hcur : cur[0]? = some (.pointer (some ⟨cb, 0, none⟩))) (hkb : w0.heap.size ≤ kb) (hcode : InsSl w0 cv m.code) (hm : m.code = addCode) :
    Calls Tryz.prog 59 #[.pointer (some ⟨kb, 0, none⟩)] (wr.setCell ⟨kb, 6, none⟩ (.int .i64 ((j : Int) + 1))) (fun e w' => e = .returned (.tuple #[]) ∧ RunSt w0 w1 w' kb cb cg ccap mw hp cls m cv hv (j + 1)) := by
  obtain ⟨hC, hM, hT⟩ := h
  have hM0 : wr.heap[kb]? = _ := hM
  have hC1 := hC.setk (i := 6) (u := .int .i64 ((j : Int) + 1)) hM0 hkb
  have hT1 := hT.setc hM0 (by simp) 6 (.int .i64 ((j : Int) + 1))
  have hM1 : MachAt (wr.setCell ⟨kb, 6, none⟩ (.int .i64 ((j : Int) + 1))) kb mw hp (.slice (some ⟨cg, 0, none⟩) 1 ccap) 0 0 ⟨#[]⟩ ((j : Int) + 1) false := by
    unfold MachAt
    have := heap_set2 hM0 6 (.int .i64 ((j : Int) + 1))
    rw [this]; simp
  generalize wr.setCell ⟨kb, 6, none⟩ (.int .i64 ((j : Int) + 1)) = W at *
  have hG1 := hT1 _ _ _ _ hG (by decide)
  have key : ∀ (x : Ins) (ss' : List VL), m.code[j]? = some x → (x.op = 4 ∨ x.op = 9) → ss' = addStack (j + 1) →
      (∀ (wk w2 : World), CS w0 wk w2 cb cls m cv hv j twoArgs (addStack j) → Calls Tryz.prog 109 #[.pointer (some ⟨cb, 0, none⟩), insV x] w2 (CSPost w0 wk cb cls m cv hv j twoArgs ss' (.int .i64 ((j : Int) + 1)))) →
      Calls Tryz.prog 59 #[.pointer (some ⟨kb, 0, none⟩)] W (fun e w' => e = .returned (.tuple #[]) ∧ RunSt w0 w1 w' kb cb cg ccap mw hp cls m cv hv (j + 1)) := by
    intro x ss' hx hop hss hP
    refine (step_plain w0 W kb cb cg ccap cur mw hp 0 0 ⟨#[]⟩ ((j : Int) + 1) false cls m cv hv j twoArgs (addStack j) ss' x W hC1 hM1 hG1 hcur hcode hx hop hP).mono ?_
    rintro e w' ⟨rfl, hC2⟩
    rw [hss] at hC2
    exact ⟨rfl, hC2.re, hC2.1 _ _ _ _ (hM1 : W.heap[kb]? = _) (by decide), hT1.trans (hC2.1.mono (fun t ht => List.mem_cons_of_mem _ ht))⟩
  match j, hj with
  | 0, _ => exact key ⟨4, 0, 0, eS, eS, eS⟩ [⟨1, 2⟩] (by rw [hm]; rfl) (.inl rfl) rfl (fun wk w2 h2 => cload w0 wk cb cls m cv hv _ twoArgs [] 0 ⟨1, 2⟩ 0 eS eS eS w2 h2 rfl (by simp) (by omega) (by omega))
  | 1, _ => exact key ⟨4, 1, 0, eS, eS, eS⟩ [⟨1, 2⟩, ⟨1, 3⟩] (by rw [hm]; rfl) (.inl rfl) rfl (fun wk w2 h2 => cload w0 wk cb cls m cv hv _ twoArgs [⟨1, 2⟩] 1 ⟨1, 3⟩ 0 eS eS eS w2 h2 rfl (by simp) (by omega) (by omega))
  | 2, _ => exact key ⟨9, 1, 0, sI, eS, eS⟩ [⟨1, 5⟩] (by rw [hm]; rfl) (.inr rfl) rfl (fun wk w2 h2 => cmathP w0 wk cb cls m cv hv _ twoArgs [] 0 eS eS w2 h2 (by simp) (by omega) (by omega))
set_option maxRecDepth 100000 in
set_option maxHeartbeats 4000000 in
theorem run_last (w0 w1 wr : World) (kb cb cg ccap : Nat) (cur : Array Value) (mw hp : Value) (cls : Str) (m : Meth) (cv hv : Value) (h : RunSt w0 w1 wr kb cb cg ccap mw hp cls m cv hv 3) (hG : w1.heap[cg]? = some (.cells cur 123 (0, 0))) (hcur : cur[0]? = some (.pointer (some ⟨cb, 0, none⟩))) (hkb : w0.heap.size ≤ kb) (hc1 : 1 ≤ ccap) (hc2 : ccap ≤ 9223372036854775807) (hcode : InsSl w0 cv m.code) (hm : m.code = addCode) :
    Calls Tryz.prog 59 #[.pointer (some ⟨kb, 0, none⟩)] (wr.setCell ⟨kb, 6, none⟩ (.int .i64 4)) (fun e w' => e = .returned (.tuple #[]) ∧ MachAt w' kb mw hp (.slice (some ⟨cg, 0, none⟩) 0 ccap) 1 5 ⟨#[]⟩ 4 true ∧ Below w0.heap.size w0 w' ∧ TagG leaveS w1 w') := by
  obtain ⟨hC, hM, hT⟩ := h
  have hM0 : wr.heap[kb]? = _ := hM
  have hC1 := hC.setk (i := 6) (u := .int .i64 4) hM0 hkb
  have hT1 := hT.setc hM0 (by simp) 6 (.int .i64 4)
  have hM1 : MachAt (wr.setCell ⟨kb, 6, none⟩ (.int .i64 4)) kb mw hp (.slice (some ⟨cg, 0, none⟩) 1 ccap) 0 0 ⟨#[]⟩ 4 false := by
    unfold MachAt
    have := heap_set2 hM0 6 (.int .i64 4)
    rw [this]; simp
  generalize wr.setCell ⟨kb, 6, none⟩ (.int .i64 4) = W at *
  have hG1 := hT1 _ _ _ _ hG (by decide)
  refine (step_give w0 W kb cb cg ccap cur mw hp 0 0 ⟨#[]⟩ 4 false cls m cv hv 3 twoArgs ⟨1, 5⟩ ⟨27, 0, 0, eS, eS, eS⟩ W hC1 hM1 hG1 hcur hkb hc1 hc2 hcode (by rw [hm]; rfl) rfl).mono ?_
  rintro e w' ⟨rfl, h1, h2, h3⟩
  exact ⟨rfl, h1, h2, hT1.trans h3⟩
set_option maxRecDepth 100000 in
set_option maxHeartbeats 8000000 in
theorem run_five (w0 : World) (kb cb cg ccap : Nat) (cur : Array Value) (mw hp : Value) (cls : Str) (m : Meth) (cv hv : Value) (w : World) (hC : CS w0 w w cb cls m cv hv 0 twoArgs []) (hM : MachAt w kb mw hp (.slice (some ⟨cg, 0, none⟩) 1 ccap) 0 0 ⟨#[]⟩ 0 false) (hG : w.heap[cg]? = some (.cells cur 123 (0, 0))) (hcur : cur[0]? = some (.pointer (some ⟨cb, 0, none⟩))) (hkb : w0.heap.size ≤ kb) (hc1 : 1 ≤ ccap) (hc2 : ccap ≤ 9223372036854775807) (hcode : InsSl w0 cv m.code) (hm : m.code = addCode) :
    Calls Tryz.prog 30 #[.pointer (some ⟨kb, 0, none⟩), .int .i64 10] w (RunPost w0 kb mw hp) := by
  have hmf : ∀ (fn : Fn) (first cap : Array Value) (w : World), (Instr.makeFunc fn first cap).run Tryz.prog w = .ok (.func fn first cap) w := fun _ _ _ _ => rfl
  have hb1 := (Below.refl w.heap.size w).alloc (Nat.le_refl _) (.cells #[.nilIface] 30)
  have hX : (w.alloc (.cells #[.nilIface] 30)).heap[w.heap.size]? = some (.cells #[.nilIface] 30 (0, 0)) := by
    show (w.heap.push _)[w.heap.size]? = _
    simp
  have hM1 : MachAt (w.alloc (.cells #[.nilIface] 30)) kb mw hp (.slice (some ⟨cg, 0, none⟩) 1 ccap) 0 0 ⟨#[]⟩ 0 false := (hb1.block kb (Array.getElem?_eq_some_iff.1 (hM : w.heap[kb]? = _)).1).trans hM
  have hG1 := (hb1.block cg (Array.getElem?_eq_some_iff.1 hG).1).trans hG
  have HS : Hid (RunSt w0 (w.alloc (.cells #[.nilIface] 30)) (w.alloc (.cells #[.nilIface] 30)) kb cb cg ccap mw hp cls m cv hv 0) := Lib.hid ⟨(hC.below hb1).re, hM1, TagG.refl _ _⟩
  have HX := Lib.hid hX
  have HG := Lib.hid hG1
  have hwz : w0.heap.size ≤ w.heap.size := hC.2.1.size
  clear hb1 hX hM1 hG1 hC hM hG
  go_enter_defers Tryz.func30, Tryz.ntmps30
  go_wp2_with fail
  generalize w.alloc _ = w1 at *
  go_loopg [] 4 (fun kq wr => (∃ j : Nat, j < 4 ∧ RunSt w0 w1 wr kb cb cg ccap mw hp cls m cv hv j ∧ kq = 4 - j) ∨ (kq = 0 ∧ MachAt wr kb mw hp (.slice (some ⟨cg, 0, none⟩) 0 ccap) 1 5 ⟨#[]⟩ 4 true ∧ Below w0.heap.size w0 wr ∧ TagG leaveS w1 wr))
  case atStart => exact .inl ⟨0, by omega, HS.out, rfl⟩
  case round =>
    clear HS
    rcases hrel with ⟨j, hj, hS, hkq⟩ | ⟨hkq, hM, hB, hT⟩
    · have HS := Lib.hid hS
      obtain ⟨_, hM, _⟩ := hS
      have m6 : wr.cell? ⟨kb, 6, none⟩ = some (.int .i64 j) := cell_of hM
      have m7 : wr.cell? ⟨kb, 7, none⟩ = some (.bool false) := cell_of hM
      have z6 : wr.frozen? ⟨kb, 6, none⟩ = false := frozen_of hM
      have h10 : ((j : Int) == 10) = false := by
        rw [beq_eq_false_iff_ne]; omega
      have HK := Lib.hid hkq
      clear hM hkq
      by_cases hj3 : j < 3
      · go_wp2_with fail
        refine (run_round w0 w1 wr kb cb cg ccap cur mw hp cls m cv hv j hj3 HS.out HG.out hcur hkb hcode hm).mono ?_
        rintro e w5 ⟨rfl, hS5⟩
        have HS5 := Lib.hid hS5
        clear hS5 m6 m7 z6 h10
        go_wp2
        go_roundg (4 - (j + 1))
        case measure => have := HK.out; omega
        case rel => exact .inl ⟨j + 1, by omega, HS5.out, rfl⟩
      · have hj4 : j = 3 := by omega
        subst hj4
        go_wp2_with fail
        refine (run_last w0 w1 wr kb cb cg ccap cur mw hp cls m cv hv HS.out HG.out hcur hkb hc1 hc2 hcode hm).mono ?_
        rintro e w5 ⟨rfl, hS5⟩
        have HS5 := Lib.hid hS5
        clear hS5 m6 m7 z6 h10
        go_wp2
        go_roundg 0
        case measure => have := HK.out; omega
        case rel => exact .inr ⟨rfl, HS5.out⟩
    · have m7 : wr.cell? ⟨kb, 7, none⟩ = some (.bool true) := cell_of hM
      have hX5 := hT _ _ _ _ HX.out (by decide)
      have x0 : wr.cell? ⟨w.heap.size, 0, none⟩ = some .nilIface := cell_of hX5
      have z0 : wr.frozen? ⟨w.heap.size, 0, none⟩ = false := frozen_of hX5
      have hne : kb ≠ w.heap.size := by
        rintro rfl
        rw [(hM : wr.heap[_]? = _)] at hX5
        injection hX5 with hX5
        injection hX5 with _ e _
        exact absurd e (by decide)
      have HM := Lib.hid hM
      have HB := Lib.hid hB
      clear hM hB hT hX5 hkq
      go_wp2_with fail
      refine leaves_cons (f := 58) (args := #[.pointer (some ⟨w.heap.size, 0, none⟩)]) (by simp) (by simp [go_sem]) ?_
      refine (run_idle _ _).mono ?_
      rintro e u' w'' ⟨rfl, rfl, rfl⟩
      refine ⟨_, ?_, rfl, ⟨cg, ccap, ?_⟩, HB.out.setCell (p := ⟨w.heap.size, 0, none⟩) hwz _⟩
      · simp [settle, results, Tryz.results30, go_sem, x0]
      · exact heap_grown (grown_set wr ⟨w.heap.size, 0, none⟩ _) (fun e => by injection e with e; exact hne e) HM.out
end Go.Proofs.YthcjjjpcjjondaaGreatDoor
