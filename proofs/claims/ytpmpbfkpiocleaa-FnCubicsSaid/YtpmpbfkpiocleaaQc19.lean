/- Sizes, levels, points of curves: the program's side. Conditions: as each states. -/
import Derived.Test.YtpmpbfkpiocleaaQc18
namespace Go.Proofs.Ytpmpbfkpiocleaa
open Go.RowKit
set_option linter.unusedVariables false
set_option maxRecDepth 100000

theorem sizeOf_any (x y : Int) (w : World) (hx : -1099511627776 ≤ x ∧ x ≤ 1099511627776) (hy : -1099511627776 ≤ y ∧ y ≤ 1099511627776) :
    Calls Try.prog 50 #[.agg #[.int .i64 x, .int .i64 y]] w fun e w' => e = .returned (.int .i64 (szI x y)) ∧ Below w.heap.size w w' := by
  go_enter Try.func50, Try.ntmps50
  go_wp2_with fail
  all_goals
    go_ret
    exact ⟨ret_int (by unfold szI imax; repeat' split <;> try omega), Go.Joins.below_alloc1 _ _⟩

theorem ptC_flat_snoc (L : List (Int × Int)) (p : Int × Int) : (L ++ [p]).flatMap ptC = L.flatMap ptC ++ ptC p := by simp

end Go.Proofs.Ytpmpbfkpiocleaa

