/- Cubics: a point of a curve is near the path along it; quadratics are near the cubic. Numbers alone. Conditions: as each states. -/
import Derived.Test.YtpmpbfkpiocleaaQv12
namespace Go.Proofs.Ytpmpbfkpiocleaa
set_option linter.unusedVariables false
set_option maxRecDepth 100000

/-! ### the sum of the sizes of two coordinates -/
theorem szI_cases (x y : Int) : 0 ≤ szI x y ∧ x ≤ szI x y ∧ -x ≤ szI x y ∧ y ≤ szI x y ∧ -y ≤ szI x y ∧ x + y ≤ szI x y ∧ x - y ≤ szI x y ∧ y - x ≤ szI x y ∧ -x - y ≤ szI x y := by
  unfold szI imax
  refine ⟨?_, ?_, ?_, ?_, ?_, ?_, ?_, ?_, ?_⟩ <;> (repeat' split) <;> omega
theorem szI_le {x y r : Int} (h1 : x + y ≤ r) (h2 : x - y ≤ r) (h3 : y - x ≤ r) (h4 : -x - y ≤ r) : szI x y ≤ r := by
  unfold szI imax
  (repeat' split) <;> omega
theorem szI_add (x y u v : Int) : szI (x + u) (y + v) ≤ szI x y + szI u v := by
  obtain ⟨_, _, _, _, _, a1, a2, a3, a4⟩ := szI_cases x y
  obtain ⟨_, _, _, _, _, b1, b2, b3, b4⟩ := szI_cases u v
  exact szI_le (by omega) (by omega) (by omega) (by omega)
theorem szI_sub (x y u v : Int) : szI (x - u) (y - v) ≤ szI x y + szI u v := by
  obtain ⟨_, _, _, _, _, a1, a2, a3, a4⟩ := szI_cases x y
  obtain ⟨_, _, _, _, _, b1, b2, b3, b4⟩ := szI_cases u v
  exact szI_le (by omega) (by omega) (by omega) (by omega)
theorem szI_mul {c : Int} (hc : 0 ≤ c) (x y : Int) : szI (c * x) (c * y) ≤ c * szI x y := by
  obtain ⟨_, _, _, _, _, a1, a2, a3, a4⟩ := szI_cases x y
  have b1 := Int.mul_le_mul_of_nonneg_left a1 hc
  have b2 := Int.mul_le_mul_of_nonneg_left a2 hc
  have b3 := Int.mul_le_mul_of_nonneg_left a3 hc
  have b4 := Int.mul_le_mul_of_nonneg_left a4 hc
  rw [Int.mul_add] at b1
  rw [Int.mul_sub] at b2 b3 b4
  rw [Int.mul_neg] at b4
  exact szI_le (by omega) (by omega) (by omega) (by omega)
theorem szI_scale {c : Int} (hc : 0 < c) {x y r : Int} (h : szI (c * x) (c * y) ≤ c * r) : szI x y ≤ r := by
  obtain ⟨_, _, _, _, _, a1, a2, a3, a4⟩ := szI_cases (c * x) (c * y)
  have f : ∀ z : Int, c * z ≤ szI (c * x) (c * y) → z ≤ r := fun z hz => Int.le_of_mul_le_mul_left (Int.le_trans hz h) hc
  refine szI_le (f _ ?_) (f _ ?_) (f _ ?_) (f _ ?_)
  · rw [Int.mul_add]; exact a1
  · rw [Int.mul_sub]; exact a2
  · rw [Int.mul_sub]; exact a3
  · rw [Int.mul_sub, Int.mul_neg]; exact a4
theorem szI_neg (x y : Int) : szI (-x) (-y) = szI x y := by
  unfold szI imax
  (repeat' split) <;> omega
theorem szI_sq (x y : Int) : x * x + y * y ≤ szI x y * szI x y := by
  have h : szI x y = (x.natAbs : Int) + (y.natAbs : Int) := by unfold szI imax; (repeat' split) <;> omega
  have e1 : x * x = (x.natAbs : Int) * (x.natAbs : Int) := (Int.natAbs_mul_self (a := x)).symm
  have e2 : y * y = (y.natAbs : Int) * (y.natAbs : Int) := (Int.natAbs_mul_self (a := y)).symm
  rw [h, e1, e2]
  have h3 : 0 ≤ (x.natAbs : Int) * (y.natAbs : Int) := Int.mul_nonneg (by omega) (by omega)
  have e : ((x.natAbs : Int) + (y.natAbs : Int)) * ((x.natAbs : Int) + (y.natAbs : Int)) = (x.natAbs : Int) * (x.natAbs : Int) + (y.natAbs : Int) * (y.natAbs : Int) + 2 * ((x.natAbs : Int) * (y.natAbs : Int)) := by grind
  omega

/-! ### a point is near a segment if it is near a point of it -/
theorem near_of {ax ay bx b px py r s t : Int} (ht : 0 < t) (h0 : 0 ≤ s) (h1 : s ≤ t)
    (h : (t * px - ((t - s) * ax + s * bx)) * (t * px - ((t - s) * ax + s * bx)) + (t * py - ((t - s) * ay + s * b)) * (t * py - ((t - s) * ay + s * b)) ≤ t * t * (r * r)) : nearB ax ay bx b px py r = true := by
  have hL := sqI_nonneg ax ay bx b
  have htt : 0 < t * t := Int.mul_pos ht ht
  have e : (t * px - ((t - s) * ax + s * bx)) * (t * px - ((t - s) * ax + s * bx)) + (t * py - ((t - s) * ay + s * b)) * (t * py - ((t - s) * ay + s * b)) = t * t * sqI ax ay px py - 2 * (t * s * dotI ax ay bx b px py) + s * s * sqI ax ay bx b := by
    unfold sqI dotI; grind
  rw [e] at h
  have hab := near_ab ax ay bx b px py
  have har := near_area ax ay bx b px py
  have hts : 0 ≤ t * s := Int.mul_nonneg (by omega) h0
  have hss : 0 ≤ s * s := Int.mul_nonneg h0 h0
  have hsL : 0 ≤ s * s * sqI ax ay bx b := Int.mul_nonneg hss hL
  rcases (show dotI ax ay bx b px py ≤ 0 ∨ 0 < dotI ax ay bx b px py by omega) with hd | hd
  · rw [near_lo hd, decide_eq_true_eq]
    have h3 : 0 ≤ t * s * -dotI ax ay bx b px py := Int.mul_nonneg hts (by omega)
    rw [Int.mul_neg] at h3
    exact Int.le_of_mul_le_mul_left (by omega) htt
  rcases (show sqI ax ay bx b ≤ dotI ax ay bx b px py ∨ dotI ax ay bx b px py < sqI ax ay bx b by omega) with hd2 | hd2
  · rw [near_hi hd hd2, decide_eq_true_eq, hab]
    generalize sqI ax ay px py = V at *
    generalize dotI ax ay bx b px py = D at *
    generalize sqI ax ay bx b = L at *
    have h3 : 0 ≤ (t - s) * (2 * t * (D - L) + (t - s) * L) := Int.mul_nonneg (by omega) (Int.add_nonneg (Int.mul_nonneg (by omega) (by omega)) (Int.mul_nonneg (by omega) hL))
    have h4 : t * t * (V - 2 * D + L) + (t - s) * (2 * t * (D - L) + (t - s) * L) = t * t * V - 2 * (t * s * D) + s * s * L := by grind
    exact Int.le_of_mul_le_mul_left (by omega) htt
  · rw [near_mid hd hd2, decide_eq_true_eq, har]
    generalize sqI ax ay px py = V at *
    generalize dotI ax ay bx b px py = D at *
    generalize sqI ax ay bx b = L at *
    have h3 := Int.mul_le_mul_of_nonneg_right h hL
    have h4 : (t * t * V - 2 * (t * s * D) + s * s * L) * L = t * t * (V * L - D * D) + (t * D - s * L) * (t * D - s * L) := by grind
    have h5 := sq_nonneg (t * D - s * L)
    have h6 : t * t * (r * r) * L = t * t * (r * r * L) := by grind
    exact Int.le_of_mul_le_mul_left (by omega) htt
theorem near_sz {ax ay bx b px py r s t : Int} (ht : 0 < t) (h0 : 0 ≤ s) (h1 : s ≤ t)
    (h : szI (t * px - ((t - s) * ax + s * bx)) (t * py - ((t - s) * ay + s * b)) ≤ t * r) : nearB ax ay bx b px py r = true := by
  refine near_of ht h0 h1 ?_
  refine Int.le_trans (szI_sq _ _) ?_
  have h2 := (szI_cases (t * px - ((t - s) * ax + s * bx)) (t * py - ((t - s) * ay + s * b))).1
  have h3 := Int.mul_le_mul h h h2 (by omega)
  have e : t * r * (t * r) = t * t * (r * r) := by grind
  rw [← e]; exact h3

/-! ### rounded quotients -/
theorem rnd_err {x d : Int} (hd : 0 < d) : -d ≤ 2 * (d * rnd x d - x) ∧ 2 * (d * rnd x d - x) ≤ d := by
  unfold rnd
  have h1 := Int.emod_add_mul_ediv (2 * x + d) (2 * d)
  have h2 := Int.emod_nonneg (2 * x + d) (show 2 * d ≠ 0 by omega)
  have h3 := Int.emod_lt_of_pos (2 * x + d) (show 0 < 2 * d by omega)
  have e : 2 * d * ((2 * x + d) / (2 * d)) = 2 * (d * ((2 * x + d) / (2 * d))) := by rw [Int.mul_assoc]
  rw [e] at h1
  omega
theorem rnd_sz {x y d : Int} (hd : 0 < d) : szI (d * rnd x d - x) (d * rnd y d - y) ≤ d := by
  obtain ⟨a1, a2⟩ := rnd_err (x := x) hd
  obtain ⟨b1, b2⟩ := rnd_err (x := y) hd
  exact szI_le (by omega) (by omega) (by omega) (by omega)
theorem rnd_mul {x d c : Int} (hd : 0 < d) (hc : 0 < c) : rnd (c * x) (c * d) = rnd x d := by
  unfold rnd
  have e1 : 2 * (c * x) + c * d = c * (2 * x + d) := by grind
  have e2 : 2 * (c * d) = c * (2 * d) := by grind
  rw [e1, e2, Int.mul_ediv_mul_of_pos _ _ hc]
theorem rnd_exact {x d : Int} (hd : 0 < d) : rnd (d * x) d = x := by
  have h := rnd_err (x := d * x) hd
  have e : d * rnd (d * x) d - d * x = d * (rnd (d * x) d - x) := by rw [Int.mul_sub]
  rw [e] at h
  generalize rnd (d * x) d = q at *
  rcases Int.lt_trichotomy q x with h1 | h1 | h1
  · have := Int.mul_le_mul_of_nonneg_left (show q - x ≤ -1 by omega) (show 0 ≤ d by omega)
    omega
  · exact h1
  · have := Int.mul_le_mul_of_nonneg_left (show 1 ≤ q - x by omega) (show 0 ≤ d by omega)
    omega

/-! ### a coordinate of a cubic at a parameter -/
def numC (a b c d k n : Int) : Int := (n - k) * (n - k) * (n - k) * a + 3 * (n - k) * (n - k) * k * b + 3 * (n - k) * k * k * c + k * k * k * d
def mixC (a b c d k n : Int) : Int := rnd (numC a b c d k n) (n * n * n)
theorem numC_scale (a b c d k n s : Int) : numC a b c d (s * k) (s * n) = s * s * s * numC a b c d k n := by
  unfold numC
  have e : s * n - s * k = s * (n - k) := by rw [Int.mul_sub]
  rw [e]
  generalize n - k = u
  grind
theorem numC_at0 (a b c d n : Int) : numC a b c d 0 n = n * n * n * a := by unfold numC; grind
theorem numC_at1 (a b c d n : Int) : numC a b c d n n = n * n * n * d := by unfold numC; grind
theorem mixC_at0 (a b c d : Int) {n : Int} (hn : 0 < n) : mixC a b c d 0 n = a := by
  unfold mixC; rw [numC_at0]; exact rnd_exact (Int.mul_pos (Int.mul_pos hn hn) hn)
theorem mixC_at1 (a b c d : Int) {n : Int} (hn : 0 < n) : mixC a b c d n n = d := by
  unfold mixC; rw [numC_at1]; exact rnd_exact (Int.mul_pos (Int.mul_pos hn hn) hn)
theorem mixC_scale (a b c d k : Int) {n s : Int} (hn : 0 < n) (hs : 0 < s) : mixC a b c d (s * k) (s * n) = mixC a b c d k n := by
  unfold mixC
  rw [numC_scale]
  have e : s * n * (s * n) * (s * n) = s * s * s * (n * n * n) := by grind
  rw [e]
  exact rnd_mul (Int.mul_pos (Int.mul_pos hn hn) hn) (Int.mul_pos (Int.mul_pos hs hs) hs)

/-- a cubic: its four points -/
structure Cb where
  ax : Int
  ay : Int
  bx : Int
  b : Int
  cx : Int
  cy : Int
  dx : Int
  dy : Int
def cAt (c : Cb) (k n : Int) : Int × Int := (mixC c.ax c.bx c.cx c.dx k n, mixC c.ay c.b c.cy c.dy k n)
theorem four_mul (i m : Int) : 4 * (i * (m - i)) ≤ m * m := by
  have h := sq_nonneg (m - 2 * i)
  have e : (m - 2 * i) * (m - 2 * i) = m * m - 4 * (i * (m - i)) := by grind
  omega

end Go.Proofs.Ytpmpbfkpiocleaa

/- The loop that is fitted to a ring: the numbers alone. Conditions: as each states. -/
namespace Go.Proofs.Ytpmpbfkpiocleaa
open Go.RowKit
set_option linter.unusedVariables false
set_option maxRecDepth 100000

theorem ptAt_eq {L : List (Int × Int)} {i : Nat} {a : Int × Int} (h : L[i]? = some a) : ptAt L i = a := by
  unfold ptAt
  rw [List.getD_eq_getElem?_getD, h]; rfl
end Go.Proofs.Ytpmpbfkpiocleaa

