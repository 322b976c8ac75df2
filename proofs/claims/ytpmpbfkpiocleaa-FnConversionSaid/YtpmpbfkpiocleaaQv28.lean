/- Levels, points and paths of cubics: the program's side. Conditions: as each states. -/
import Derived.Test.YtpmpbfkpiocleaaQv24
import Derived.Test.YtpmpbfkpiocleaaQv25
import Derived.Test.YtpmpbfkpiocleaaQv26
import Derived.Test.YtpmpbfkpiocleaaQv27
namespace Go.Proofs.Ytpmpbfkpiocleaa
open Go.RowKit
set_option linter.unusedVariables false
set_option maxRecDepth 100000

/-- 1 << l -/
theorem shl_lvl {l n : Nat} (hl : l < 7) (hn : n = 2 ^ l) : wrap64 ((2 : Int) ^ l) = (n : Int) := by
  rw [hn]
  rcases (show l = 0 ∨ l = 1 ∨ l = 2 ∨ l = 3 ∨ l = 4 ∨ l = 5 ∨ l = 6 by omega) with rfl | rfl | rfl | rfl | rfl | rfl | rfl <;> decide +kernel
theorem pow_lvl {l n : Nat} (hl : l < 7) (hn : n = 2 ^ l) : 1 ≤ n ∧ n ≤ 64 := by
  rw [hn]
  exact ⟨Nat.one_le_two_pow, Nat.le_trans (Nat.pow_le_pow_right (by omega) (show l ≤ 6 by omega)) (by decide)⟩

end Go.Proofs.Ytpmpbfkpiocleaa

