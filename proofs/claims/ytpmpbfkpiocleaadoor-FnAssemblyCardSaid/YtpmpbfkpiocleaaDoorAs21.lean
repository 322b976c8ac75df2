/- Contracts of the functions on single instructions. Conditions: as each states. -/
import Derived.BigQuiet
import Derived.RegionTactic
import Derived.ChangeAlike
import Derived.Outline
import Derived.Test.YtpmpbfkpiocleaaDoorAs20
import Derived.Test.YtpmpbfkpiocleaaDoorAs17
namespace Go.Proofs.YtpmpbfkpiocleaaDoor
open Go.RowKit
set_option linter.unusedVariables false
set_option maxRecDepth 100000

/-- an instruction by value -/
abbrev hintV (c o : Int) : Value := .agg #[.int .i64 c, .int .i64 o]

theorem operandOf_any (c : Int) (w : World) :
    Calls Tryd.prog 18 #[.int .i64 c] w fun e w' => e = .returned (.tuple #[.int .i64 (opBytes c), .int .i64 (opLeast c), .int .i64 (opMost c)]) ∧ w = w' := by
  by_cases h1 : c = 39 ∨ c = 40 ∨ c = 41 ∨ c = 42 ∨ c = 43 ∨ c = 44
  · rcases h1 with rfl | rfl | rfl | rfl | rfl | rfl
    all_goals
      go_enter Tryd.func18, Tryd.ntmps18
      go_wp2
      go_ret3
      exact ⟨by simp [opBytes, opLeast, opMost], rfl⟩
  · have t1 : (c == 39) = false := by simp; omega
    have t2 : (c == 40) = false := by simp; omega
    have t3 : (c == 41) = false := by simp; omega
    have t4 : (c == 42) = false := by simp; omega
    have t5 : (c == 43) = false := by simp; omega
    have t6 : (c == 44) = false := by simp; omega
    have h2 : opBytes c = 0 := by unfold opBytes; rw [if_neg (by omega), if_neg (by omega)]
    have h3 : opLeast c = 0 := by unfold opLeast; rw [if_neg (by omega), if_neg (by omega)]
    have h4 : opMost c = 0 := by unfold opMost; rw [if_neg (by omega), if_neg (by omega), if_neg (by omega), if_neg (by omega), if_neg (by omega), if_neg (by omega)]
    rw [h2, h3, h4]
    clear h1 h2 h3 h4
    go_enter Tryd.func18, Tryd.ntmps18
    go_wp2
    go_ret3
    exact ⟨rfl, rfl⟩

theorem implValidHint_any (c o : Int) (w : World) :
    Calls Tryd.prog 15 #[hintV c o] w fun e w' => e = .returned (.bool (validHint c o)) ∧ Below w.heap.size w w' := by
  by_cases h1 : 0 ≤ c <;> by_cases h2 : c ≤ 44 <;> by_cases h3 : opLeast c ≤ o <;> by_cases h4 : o ≤ opMost c
  all_goals try (exfalso; omega)
  all_goals
    go_enter Tryd.func15, Tryd.ntmps15
    go_wp2_with (go_at_call 18; refine (operandOf_any _ _).mono ?_; rintro e w' ⟨rfl, rfl⟩)
    go_ret
    refine ⟨ret_bool (by first | (simp [validHint, inB]; omega) | simp [validHint, inB, *]), ?_⟩
    repeat (first | exact Below.refl _ _ | refine Below.alloc ?_ (by simp <;> omega) _ | refine Below.drew ?_)

end Go.Proofs.YtpmpbfkpiocleaaDoor

/- The walks of the loops that read the instructions of a program. Conditions: as each states. -/
namespace Go.Proofs.YtpmpbfkpiocleaaDoor
open Go.RowKit
set_option linter.unusedVariables false
set_option maxRecDepth 100000

theorem elemHint : Elem Tryd.prog 23 32 2 16 := elem_mk (z := .agg #[.int .i64 0, .int .i64 0]) Tryd.underlying23 (by kernel_rfl) rfl (by omega)

end Go.Proofs.YtpmpbfkpiocleaaDoor

