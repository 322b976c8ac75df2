/- FitQuad, both sides, and the law. Conditions: as each states. -/
import Derived.Test.YtgelkdcggnffeaaGreatFtg27
namespace Go.Proofs.YtgelkdcggnffeaaGreat
open Go.RowKit
set_option linter.unusedVariables false
set_option maxRecDepth 100000

theorem isTolerance_any (t : Int) (w : World) : Calls Tryz.prog 17 #[.int .i64 t] w fun e w' => e = .returned (.bool (inB t 1 262144)) ∧ w = w' := by
  by_cases h : 1 ≤ t <;> by_cases h2 : t ≤ 262144
  all_goals try (exfalso; omega)
  all_goals
    go_enter Tryz.func17, Tryz.ntmps17
    go_wp2_with fail
    go_ret
    exact ⟨ret_bool (by rw [inB]; simp; omega), rfl⟩
theorem l09Tolerance_any (t : Int) (w : World) : Calls Tryz.prog 19 #[.int .i64 t] w fun e w' => e = .returned (.bool (inB t 1 262144)) ∧ w = w' := by
  go_enter Tryz.func19, Tryz.ntmps19
  go_wp2_with (go_at_call 40; refine (l00In_any _ _ _ _).mono ?_; rintro e w' ⟨rfl, rfl⟩)
  go_ret
  exact ⟨rfl, rfl⟩
end Go.Proofs.YtgelkdcggnffeaaGreat

