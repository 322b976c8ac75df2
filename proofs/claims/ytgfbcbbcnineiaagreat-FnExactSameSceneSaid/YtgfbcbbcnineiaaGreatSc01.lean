/- The closed facts of the row of FnExactSameScene. Conditions: none. -/
import Derived.ProofKit
import Derived.WalkKit
import Derived.WalkSpells
import Derived.WalkLawsBesides
import Derived.Lib.Hide
import Derived.Test.YtgfbcbbcnineiaaGreatRows
import Derived.Test.YtgfbcbbcnineiaaGreatEnter
namespace Go.Proofs.YtgfbcbbcnineiaaGreat.fnExactSameScene
open Go.RowKit
set_option linter.unusedVariables false
set_option maxRecDepth 100000
set_option maxHeartbeats 4000000 in
theorem closedF : joinedFacts Tryz.prog 3 Tryz.f3 Rows.fnExactSameSceneSpec Rows.fnExactSameSceneRow = true := by
  simp only [joinedFacts, Bool.and_eq_true]
  repeat' (refine And.intro ?_ ?_)
  all_goals (try (with_reducible exact mayEnter_yes))
  all_goals (try (rw [liftsFinal_no]; done))
  all_goals (try (as_aux_lemma => kernel_rfl))
end Go.Proofs.YtgfbcbbcnineiaaGreat.fnExactSameScene

/- Plain facts and words: no program in sight. Conditions: none. -/
namespace Go.Proofs.YtgfbcbbcnineiaaGreat
open Go.RowKit
set_option linter.unusedVariables false
set_option maxRecDepth 100000

theorem bytes_eq {a b : ByteArray} (h : (a.toList == b.toList) = true) : a = b := by
  have h := eq_of_beq h
  rw [ByteArray.toList_eq, ByteArray.toList_eq] at h
  cases a; cases b; simp at h; simpa using h
end Go.Proofs.YtgfbcbbcnineiaaGreat

