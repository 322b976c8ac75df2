/- The walks of the loops that read the instructions of a program. Conditions: as each states. -/
import Derived.Test.YtjcjmjcgeojhiaaHint
import Derived.RegionTactic
import Derived.ChangeAlike
import Derived.Outline
namespace Go.Proofs.Ytjcjmjcgeojhiaa
open Go.RowKit
set_option linter.unusedVariables false

theorem elemHint : Elem Try.prog 40 96 2 16 := elem_mk (z := .agg #[.int .i64 0, .int .i64 0]) Try.underlying40 (by kernel_rfl) rfl (by omega)

theorem l19Bytes_any (c : Int) (w : World) :
    Calls Try.prog 165 #[.int .i64 c] w fun e w' => e = .returned (.int .i64 (opBytes c)) ∧ w = w' := by
  by_cases h1 : c = 39 ∨ c = 40 ∨ c = 41 ∨ c = 42 ∨ c = 43 ∨ c = 44
  · rcases h1 with rfl | rfl | rfl | rfl | rfl | rfl
    all_goals
      go_enter Try.func165, Try.ntmps165
      go_wp2
      go_ret
      exact ⟨by simp [opBytes], rfl⟩
  · have t1 : (c == 39) = false := by simp; omega
    have t2 : (c == 40) = false := by simp; omega
    have t3 : (c == 41) = false := by simp; omega
    have t4 : (c == 42) = false := by simp; omega
    have t5 : (c == 43) = false := by simp; omega
    have t6 : (c == 44) = false := by simp; omega
    have h2 : opBytes c = 0 := by unfold opBytes; rw [if_neg (by omega), if_neg (by omega)]
    rw [h2]
    clear h1 h2
    go_enter Try.func165, Try.ntmps165
    go_wp2
    go_ret
    exact ⟨rfl, rfl⟩

end Go.Proofs.Ytjcjmjcgeojhiaa
