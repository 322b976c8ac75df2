/- The closed facts of the row of FnExactWholeOutline. Conditions: none. -/
import Derived.Test.YtgngcllodofimaaRows
import Derived.Test.YtgngcllodofimaaEnter
import Derived.ProofKit
namespace Go.Proofs.Ytgngcllodofimaa.fnExactWholeOutline
open Go.RowKit
set_option linter.unusedVariables false
set_option maxRecDepth 100000
set_option maxHeartbeats 4000000 in
theorem closedF : joinedFacts Try.prog 8 Try.f8 Rows.fnExactWholeOutlineSpec Rows.fnExactWholeOutlineRow = true := by
  simp only [joinedFacts, Bool.and_eq_true]
  repeat' (refine And.intro ?_ ?_)
  all_goals (try (with_reducible exact mayEnter_yes))
  all_goals (try (rw [liftsFinal_no]; done))
  all_goals (try (as_aux_lemma => kernel_rfl))
end Go.Proofs.Ytgngcllodofimaa.fnExactWholeOutline
