/-
  The closed facts of the row of AdjoutTrue, each by itself.
-/
import Derived.Test.YtdhopcnapgmhdaaGreatDoorRows
import Derived.ProofKit
set_option linter.unusedSimpArgs false
set_option linter.unusedVariables false
set_option linter.unusedSectionVars false
namespace Go.Proofs.YtdhopcnapgmhdaaGreatDoor
open Go
set_option maxRecDepth 100000
set_option maxHeartbeats 0 in
theorem closed5 : joinedFacts Tryz.pinned.checked.prog 5 Tryz.f5 Rows.adjoutTrueSpec Rows.adjoutTrueRow = true := by
  unfold joinedFacts
  simp only [Bool.and_eq_true]
  repeat' apply And.intro
  all_goals (as_aux_lemma => kernel_rfl)
end Go.Proofs.YtdhopcnapgmhdaaGreatDoor
