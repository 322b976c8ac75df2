/- Contracts of the functions that round by a state, and the walks of the laws on them. Conditions: as each states. -/
import Derived.Test.YtmpnefjljmdflaaFq09
namespace Go.Proofs.Ytmpnefjljmdflaa
open Go.RowKit
set_option linter.unusedVariables false
set_option maxRecDepth 100000

/-! ### at least some number away from 0 -/
def imax (a b : Int) : Int := if b < a then a else b
theorem imax_l {a b : Int} (h : b < a) : imax a b = a := if_pos h
theorem imax_r {a b : Int} (h : a ≤ b) : imax a b = b := if_neg (by omega)

theorem l00Max_any (a b : Int) (w : World) :
    Calls Try.prog 147 #[.int .i64 a, .int .i64 b] w fun e w' => e = .returned (.int .i64 (imax a b)) ∧ w = w' := by
  go_enter Try.func147, Try.ntmps147
  go_wp2
  · go_ret
    exact ⟨ret_int (imax_l (by assumption)).symm, rfl⟩
  · go_ret
    exact ⟨ret_int (imax_r (by assumption)).symm, rfl⟩

end Go.Proofs.Ytmpnefjljmdflaa

