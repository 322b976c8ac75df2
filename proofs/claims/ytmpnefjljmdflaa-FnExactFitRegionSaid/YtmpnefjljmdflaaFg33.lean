/- FitQuad, both sides, and the law. Conditions: as each states. -/
import Derived.Test.YtmpnefjljmdflaaFg26
namespace Go.Proofs.Ytmpnefjljmdflaa
open Go.RowKit
set_option linter.unusedVariables false
set_option maxRecDepth 100000

theorem isTolerance_any (t : Int) (w : World) : Calls Try.prog 58 #[.int .i64 t] w fun e w' => e = .returned (.bool (inB t 1 262144)) ∧ w = w' := by
  by_cases h : 1 ≤ t <;> by_cases h2 : t ≤ 262144
  all_goals try (exfalso; omega)
  all_goals
    go_enter Try.func58, Try.ntmps58
    go_wp2_with fail
    go_ret
    exact ⟨ret_bool (by rw [inB]; simp; omega), rfl⟩
theorem l09Tolerance_any (t : Int) (w : World) : Calls Try.prog 68 #[.int .i64 t] w fun e w' => e = .returned (.bool (inB t 1 262144)) ∧ w = w' := by
  go_enter Try.func68, Try.ntmps68
  go_wp2_with (go_at_call 64; refine (l00In_any _ _ _ _).mono ?_; rintro e w' ⟨rfl, rfl⟩)
  go_ret
  exact ⟨rfl, rfl⟩
end Go.Proofs.Ytmpnefjljmdflaa

