/- The statement TopStarts, second form, and its card: joined. -/
import Derived.Test.YthcjjjpcjjondaaGreatDoorOpenC
namespace Go.Proofs.YthcjjjpcjjondaaGreatDoor.topStarts
open Go.ChangeShapes Go.WideShapes Go.ChangeAt Go.RowKit Go.Deep
set_option linter.unusedVariables false
set_option linter.unusedSimpArgs false
set_option linter.unnecessarySimpa false

set_option maxRecDepth 100000 in
theorem contract (H : Type) (enc : TypeId × Value → H) (W : World) (base : Nat) (args : Array Value) (ds gs : List (DataW H)) (before : List MemPlace)
    (hval : ∀ (j : Nat) t v, Tryz.f3.params[j]? = some t → args[j]? = some v → Value.okWide Tryz.prog W .any base t v)
    (hW : DataW.Whole enc Tryz.prog Tryz.f3.params.toList Rows.topStartsSpec.vars false W args.toList ds gs before) (hk : Rows.uptoSmall H (ds ++ gs) = true) (hL : laidMetH Tryz.prog Rows.topStartsUptoRow.laid W) :
    Calls Tryz.prog 3 args W fun e W' => ∃ v, e = .returned v ∧ Rows.topStartsSpec.post enc Tryz.prog Tryz.f3 false true false false W args v W' := by
  have hW' := hW
  obtain ⟨p, q, hA0, hV, rfl, hfz, hnd⟩ := hW
  have hA : DataW.TrodAll enc Tryz.prog W 0 (fun _ => true) true Tryz.f3.params.toList args.toList ds p := hA0
  rw [Tryz.params3] at hA hval
  obtain ⟨v0, vs0, d0, ds0, p0, q0, hargs, rfl, rfl, h0, r0⟩ := trodAll_cons hA
  obtain ⟨rfl, rfl, rfl⟩ := trodAll_nil r0
  obtain rfl : args = #[v0] := by cases args; simp_all
  obtain ⟨rfl, rfl⟩ := trodVars_none hV
  have hk0 := hval 0 22 v0 rfl rfl
  obtain ⟨a0, len, cap, hv0⟩ := okWide_slice Tryz.underlying22 hk0
  clear hA0
  simp only [List.append_nil] at hW'
  have hbk : Rows.uptoBulk d0 ≤ 1048576 := by
    have h1 := of_decide_eq_true hk
    have h2 := bulk_part (d := d0) (l := [d0] ++ []) (by simp)
    exact Nat.le_trans h2 h1
  obtain ⟨l, hl, hn⟩ := open_classes ⟨_, _, _, hv0⟩ h0 hbk
  have hlt : ∀ x ∈ p0, x.block < W.heap.size := fun x hx => by simpa using hW'.lt x (by simpa using hx)
  refine (topStarts_any v0 l W (forms hL) hl hn).mono fun e W' ⟨he, hB⟩ => ?_
  subst he
  have hread : ∀ sp : Nat → Bool, (∀ x ∈ p0, sp x.block = true) → DataW.Trod enc Tryz.prog W' 0 sp true 22 v0 d0 p0 := fun sp hs =>
    WideElems.Trod_stays laidOut (by kernel_rfl) (of_decide_eq_true (by kernel_rfl)) h0 (fun x hx => hB.same (hlt x hx)) hs
  refine ⟨_, rfl, [d0], [], p0, [], p0, [], hW', trodAll_cons_mk (shut_bool Tryz.underlying4 _) trodAll_mk0, ?_, rfl, hB.frame _, fun h => by cases h⟩
  have h1 : DataW.TrodAll enc Tryz.prog W' 0 (fun b => decide (b < W.heap.size)) true [22] [v0] [d0] (p0 ++ []) := trodAll_cons_mk (hread _ (fun x hx => by simpa using hlt x hx)) trodAll_mk0
  rw [List.append_nil] at h1
  rw [Tryz.params3]
  exact h1

/-- A world for the witness: the settled one, the three tables holding what their initialisers lay. -/
def litV : DataW Unit → Value
  | .lit (.int k n) => .int k n
  | .lit (.string b) => .string ⟨b.toArray⟩
  | _ => .nilIface
def partsV : DataW Unit → List Value
  | .agg l => l.map litV
  | _ => []
def partsV2 : DataW Unit → List Value
  | .agg l => l.flatMap partsV
  | _ => []
def fillB (cs : List Value) : Obj → Obj
  | .cells _ t frozen => .cells cs.toArray t frozen
  | o => o
noncomputable def laidWorld (os : Os) : World :=
  { World.holding Tryz.prog os ⟨#[], #[], []⟩ with heap := (((World.holding Tryz.prog os ⟨#[], #[], []⟩).heap.modify 3 (fillB (partsV2 Rows.laid_unicode_utf8_acceptRanges))).modify 0 (fillB (partsV2 Rows.laid_coffeehouse_ins_forms))).modify 2 (fillB (partsV Rows.laid_unicode_utf8_first)) }
theorem laid_met (os : Os) : laidMet Tryz.prog Rows.topStartsUptoRow.laid ((laidWorld os).forCall (fun _ _ => 0) ⟨#[], #[.slice none 0 0], []⟩).memory :=
  laidMet_of_run' 8 (by kernel_rfl) (by kernel_rfl)
theorem laid_metH (os : Os) : laidMetH Tryz.prog Rows.topStartsUptoRow.laid ((laidWorld os).forCall (fun _ _ => 0) ⟨#[], #[.slice none 0 0], []⟩).memory := by
  unfold laidMetH
  rw [noHandles]
  exact laid_met os
theorem reads (os : Os) {H : Type} (enc : TypeId × Value → H) : ∃ places, DataW.whole enc Tryz.prog ((laidWorld os).forCall (fun _ _ => 0) ⟨#[], #[.slice none 0 0], []⟩).memory Tryz.f3.params.toList Rows.topStartsSpec.vars false #[Value.slice none 0 0].toList 8 = some ([.nil], [], places) :=
  ⟨[], by kernel_rfl⟩
end Go.Proofs.YthcjjjpcjjondaaGreatDoor.topStarts
