/- The statement TopStarts, second form: the closed facts of its row. -/
import Derived.Test.YthcjjjpcjjondaaGreatDoorTopD
namespace Go.Proofs.YthcjjjpcjjondaaGreatDoor.topStarts
set_option linter.unusedVariables false
set_option linter.unusedSimpArgs false
set_option linter.unnecessarySimpa false
set_option maxHeartbeats 4000000 in
theorem joined : joinedFacts Tryz.pinned.checked.prog 3 Tryz.f3 (Rows.OpenSpec.upto Rows.topStartsSpec).bare Rows.topStartsUptoRow = true := by
  unfold joinedFacts
  simp only [Bool.and_eq_true]
  repeat' apply And.intro
  all_goals (as_aux_lemma => kernel_rfl)
end Go.Proofs.YthcjjjpcjjondaaGreatDoor.topStarts
