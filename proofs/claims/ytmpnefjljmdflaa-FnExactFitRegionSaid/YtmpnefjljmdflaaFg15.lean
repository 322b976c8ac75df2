/- Cubics: a point of a curve is near the path along it; quadratics are near the cubic. Numbers alone. Conditions: as each states. -/
import Derived.Test.YtmpnefjljmdflaaFg14
namespace Go.Proofs.Ytmpnefjljmdflaa
set_option linter.unusedVariables false
set_option maxRecDepth 100000

/-! ### the sum of the sizes of two coordinates -/
/-! ### a point is near a segment if it is near a point of it -/
/-! ### rounded quotients -/
theorem rnd_err {x d : Int} (hd : 0 < d) : -d ≤ 2 * (d * rnd x d - x) ∧ 2 * (d * rnd x d - x) ≤ d := by
  unfold rnd
  have h1 := Int.emod_add_mul_ediv (2 * x + d) (2 * d)
  have h2 := Int.emod_nonneg (2 * x + d) (show 2 * d ≠ 0 by omega)
  have h3 := Int.emod_lt_of_pos (2 * x + d) (show 0 < 2 * d by omega)
  have e : 2 * d * ((2 * x + d) / (2 * d)) = 2 * (d * ((2 * x + d) / (2 * d))) := by rw [Int.mul_assoc]
  rw [e] at h1
  omega
theorem rnd_exact {x d : Int} (hd : 0 < d) : rnd (d * x) d = x := by
  have h := rnd_err (x := d * x) hd
  have e : d * rnd (d * x) d - d * x = d * (rnd (d * x) d - x) := by rw [Int.mul_sub]
  rw [e] at h
  generalize rnd (d * x) d = q at *
  rcases Int.lt_trichotomy q x with h1 | h1 | h1
  · have := Int.mul_le_mul_of_nonneg_left (show q - x ≤ -1 by omega) (show 0 ≤ d by omega)
    omega
  · exact h1
  · have := Int.mul_le_mul_of_nonneg_left (show 1 ≤ q - x by omega) (show 0 ≤ d by omega)
    omega

/-! ### a coordinate of a cubic at a parameter -/
end Go.Proofs.Ytmpnefjljmdflaa

