/- Whether loops and outlines are valid: both sides. Conditions: as each states. -/
import Derived.Test.YtpmpbfkpiocleaaQv04
import Derived.Test.YtpmpbfkpiocleaaQv07
namespace Go.Proofs.Ytpmpbfkpiocleaa
open Go.RowKit
set_option linter.unusedVariables false
set_option maxRecDepth 100000

def ptOk (x y : Int) : Bool := inB x (-262144) 262144 && inB y (-262144) 262144
theorem ptOk_iff {x y : Int} : ptOk x y = true ↔ (-262144 ≤ x ∧ x ≤ 262144) ∧ (-262144 ≤ y ∧ y ≤ 262144) := by simp [ptOk, inB_iff]

theorem l03Ok_any (x y : Int) (w : World) : Calls Try.prog 30 #[.agg #[.int .i64 x, .int .i64 y]] w fun e w' => e = .returned (.bool (ptOk x y)) ∧ Below w.heap.size w w' := by
  cases t0 : inB x (-262144) 262144
  all_goals
    go_enter Try.func30, Try.ntmps30
    go_wp2_with (go_at_call 39; refine (l00In_any _ _ _ _).mono ?_; rintro e w' ⟨rfl, rfl⟩)
    go_ret
    exact ⟨ret_bool (by simp [ptOk, t0]), Go.Joins.below_alloc1 _ _⟩
theorem validPt_any (x y : Int) (w : World) : Calls Try.prog 24 #[.agg #[.int .i64 x, .int .i64 y]] w fun e w' => e = .returned (.bool (ptOk x y)) ∧ Below w.heap.size w w' := by
  by_cases h1 : -262144 ≤ x <;> by_cases h2 : x ≤ 262144 <;> by_cases h3 : -262144 ≤ y
  all_goals try (exfalso; omega)
  all_goals
    go_enter Try.func24, Try.ntmps24
    go_wp2
    go_ret
    exact ⟨ret_bool (by first | (simp [ptOk, inB, h1, h2, h3]; done) | (rw [Bool.eq_iff_iff]; simp [ptOk, inB]; omega)), Go.Joins.below_alloc1 _ _⟩

/-! ### the program's side -/
end Go.Proofs.Ytpmpbfkpiocleaa

