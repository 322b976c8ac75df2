/- FitQuad, both sides, and the law. Conditions: as each states. -/
import Derived.Test.YtpmpbfkpiocleaaQv22
namespace Go.Proofs.Ytpmpbfkpiocleaa
open Go.RowKit
set_option linter.unusedVariables false
set_option maxRecDepth 100000

theorem isTolerance_any (t : Int) (w : World) : Calls Try.prog 33 #[.int .i64 t] w fun e w' => e = .returned (.bool (inB t 1 262144)) ∧ w = w' := by
  by_cases h : 1 ≤ t <;> by_cases h2 : t ≤ 262144
  all_goals try (exfalso; omega)
  all_goals
    go_enter Try.func33, Try.ntmps33
    go_wp2_with fail
    go_ret
    exact ⟨ret_bool (by rw [inB]; simp; omega), rfl⟩
end Go.Proofs.Ytpmpbfkpiocleaa

