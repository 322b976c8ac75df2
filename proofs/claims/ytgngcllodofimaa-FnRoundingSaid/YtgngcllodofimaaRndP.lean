/- Rounding twice, in order, and scaling back: plain facts. Conditions: as each states. -/
import Derived.Test.YtgngcllodofimaaRound
namespace Go.Proofs.Ytgngcllodofimaa
open Go.RowKit
set_option linter.unusedVariables false
set_option maxRecDepth 100000

theorem rto_twice {v st : Int} (h0 : 0 ≤ st) (h5 : st ≤ 5) : rto (rto v st) st = rto v st := by
  rcases (show st = 0 ∨ st = 1 ∨ st = 2 ∨ st = 3 ∨ st = 4 ∨ st = 5 by omega) with rfl | rfl | rfl | rfl | rfl | rfl <;> simp [rto] <;> omega
theorem rto_mono {u v st : Int} (h0 : 0 ≤ st) (h5 : st ≤ 5) (h : u ≤ v) : rto u st ≤ rto v st := by
  rcases (show st = 0 ∨ st = 1 ∨ st = 2 ∨ st = 3 ∨ st = 4 ∨ st = 5 by omega) with rfl | rfl | rfl | rfl | rfl | rfl <;> simp [rto] <;> omega
theorem rto_near {v st : Int} (h0 : 0 ≤ st) (h5 : st ≤ 5) : rto v st - v < 64 ∧ v - rto v st < 64 := by
  rcases (show st = 0 ∨ st = 1 ∨ st = 2 ∨ st = 3 ∨ st = 4 ∨ st = 5 by omega) with rfl | rfl | rfl | rfl | rfl | rfl <;> simp [rto] <;> omega
theorem keep_odd {v st least : Int} (h : 0 < v) : keep v st least = - keep (-v) st least := by
  unfold keep
  rw [if_neg (by omega), if_pos (by omega), Int.neg_neg, Int.neg_neg]
theorem keep_far {v st least : Int} : ¬ (keep v st least < least ∧ - least < keep v st least) := by
  unfold keep imax
  split <;> split <;> omega
theorem keep_bd {v st least : Int} (h1 : -300000 ≤ v) (h2 : v ≤ 300000) (h3 : 0 ≤ least) (h4 : least ≤ 100) : -400000 ≤ keep v st least ∧ keep v st least ≤ 400000 := by
  have a := rto_bd v st
  have b := rto_bd (-v) st
  unfold keep imax
  split <;> split <;> omega
theorem back_is {v S U : Int} (hU : 0 < U) (h : U < S) : rnd (rnd (v * S) U * U) S = v := by
  unfold rnd
  generalize hq : (2 * (v * S) + U) / (2 * U) = q
  have h1 : q * (2 * U) ≤ 2 * (v * S) + U := by rw [← hq]; exact Int.ediv_mul_le _ (by omega)
  have h2 : 2 * (v * S) + U < (q + 1) * (2 * U) := by rw [← hq]; exact Int.lt_ediv_add_one_mul_self _ (by omega)
  have e1 : q * (2 * U) = 2 * (q * U) := by rw [← Int.mul_assoc, Int.mul_comm q 2, Int.mul_assoc]
  have e2 : (q + 1) * (2 * U) = 2 * (q * U) + 2 * U := by rw [Int.add_mul, e1]; omega
  rw [e1] at h1
  rw [e2] at h2
  generalize q * U = p at *
  have e3 : v * (2 * S) = 2 * (v * S) := by rw [← Int.mul_assoc, Int.mul_comm v 2, Int.mul_assoc]
  generalize v * S = x at *
  have k1 : v ≤ (2 * p + S) / (2 * S) := (Int.le_ediv_iff_mul_le (by omega)).2 (by rw [e3]; omega)
  have k2 : (2 * p + S) / (2 * S) < v + 1 := Int.ediv_lt_of_lt_mul (by omega) (by rw [Int.add_mul, e3]; omega)
  omega
end Go.Proofs.Ytgngcllodofimaa
