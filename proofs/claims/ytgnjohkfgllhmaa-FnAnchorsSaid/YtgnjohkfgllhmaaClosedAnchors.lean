/- The closed facts of the row of FnAnchors. Conditions: none. -/
import Derived.Test.YtgnjohkfgllhmaaRows
import Derived.Test.YtgnjohkfgllhmaaEnter
import Derived.ProofKit
namespace Go.Proofs.Ytgnjohkfgllhmaa.fnAnchors
open Go.RowKit
set_option linter.unusedVariables false
set_option maxRecDepth 100000
set_option maxHeartbeats 4000000 in
theorem closedF : joinedFacts Try.prog 3 Try.f3 Rows.fnAnchorsSpec Rows.fnAnchorsRow = true := by
  simp only [joinedFacts, Bool.and_eq_true]
  repeat' (refine And.intro ?_ ?_)
  all_goals (try (with_reducible exact mayEnter_yes))
  all_goals (try (rw [liftsFinal_no]; done))
  all_goals (try (as_aux_lemma => kernel_rfl))
end Go.Proofs.Ytgnjohkfgllhmaa.fnAnchors
