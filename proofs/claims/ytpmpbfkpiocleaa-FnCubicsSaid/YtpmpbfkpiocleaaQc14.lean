/- Cubics: a point of a curve is near the path along it; quadratics are near the cubic. Numbers alone. Conditions: as each states. -/
import Derived.Test.YtpmpbfkpiocleaaQc13
namespace Go.Proofs.Ytpmpbfkpiocleaa
set_option linter.unusedVariables false
set_option maxRecDepth 100000

/-! ### the sum of the sizes of two coordinates -/
theorem szI_cases (x y : Int) : 0 ≤ szI x y ∧ x ≤ szI x y ∧ -x ≤ szI x y ∧ y ≤ szI x y ∧ -y ≤ szI x y ∧ x + y ≤ szI x y ∧ x - y ≤ szI x y ∧ y - x ≤ szI x y ∧ -x - y ≤ szI x y := by
  unfold szI imax
  refine ⟨?_, ?_, ?_, ?_, ?_, ?_, ?_, ?_, ?_⟩ <;> (repeat' split) <;> omega
theorem szI_le {x y r : Int} (h1 : x + y ≤ r) (h2 : x - y ≤ r) (h3 : y - x ≤ r) (h4 : -x - y ≤ r) : szI x y ≤ r := by
  unfold szI imax
  (repeat' split) <;> omega
theorem szI_add (x y u v : Int) : szI (x + u) (y + v) ≤ szI x y + szI u v := by
  obtain ⟨_, _, _, _, _, a1, a2, a3, a4⟩ := szI_cases x y
  obtain ⟨_, _, _, _, _, b1, b2, b3, b4⟩ := szI_cases u v
  exact szI_le (by omega) (by omega) (by omega) (by omega)
theorem szI_sub (x y u v : Int) : szI (x - u) (y - v) ≤ szI x y + szI u v := by
  obtain ⟨_, _, _, _, _, a1, a2, a3, a4⟩ := szI_cases x y
  obtain ⟨_, _, _, _, _, b1, b2, b3, b4⟩ := szI_cases u v
  exact szI_le (by omega) (by omega) (by omega) (by omega)
theorem szI_mul {c : Int} (hc : 0 ≤ c) (x y : Int) : szI (c * x) (c * y) ≤ c * szI x y := by
  obtain ⟨_, _, _, _, _, a1, a2, a3, a4⟩ := szI_cases x y
  have b1 := Int.mul_le_mul_of_nonneg_left a1 hc
  have b2 := Int.mul_le_mul_of_nonneg_left a2 hc
  have b3 := Int.mul_le_mul_of_nonneg_left a3 hc
  have b4 := Int.mul_le_mul_of_nonneg_left a4 hc
  rw [Int.mul_add] at b1
  rw [Int.mul_sub] at b2 b3 b4
  rw [Int.mul_neg] at b4
  exact szI_le (by omega) (by omega) (by omega) (by omega)
theorem szI_scale {c : Int} (hc : 0 < c) {x y r : Int} (h : szI (c * x) (c * y) ≤ c * r) : szI x y ≤ r := by
  obtain ⟨_, _, _, _, _, a1, a2, a3, a4⟩ := szI_cases (c * x) (c * y)
  have f : ∀ z : Int, c * z ≤ szI (c * x) (c * y) → z ≤ r := fun z hz => Int.le_of_mul_le_mul_left (Int.le_trans hz h) hc
  refine szI_le (f _ ?_) (f _ ?_) (f _ ?_) (f _ ?_)
  · rw [Int.mul_add]; exact a1
  · rw [Int.mul_sub]; exact a2
  · rw [Int.mul_sub]; exact a3
  · rw [Int.mul_sub, Int.mul_neg]; exact a4
theorem szI_sq (x y : Int) : x * x + y * y ≤ szI x y * szI x y := by
  have h : szI x y = (x.natAbs : Int) + (y.natAbs : Int) := by unfold szI imax; (repeat' split) <;> omega
  have e1 : x * x = (x.natAbs : Int) * (x.natAbs : Int) := (Int.natAbs_mul_self (a := x)).symm
  have e2 : y * y = (y.natAbs : Int) * (y.natAbs : Int) := (Int.natAbs_mul_self (a := y)).symm
  rw [h, e1, e2]
  have h3 : 0 ≤ (x.natAbs : Int) * (y.natAbs : Int) := Int.mul_nonneg (by omega) (by omega)
  have e : ((x.natAbs : Int) + (y.natAbs : Int)) * ((x.natAbs : Int) + (y.natAbs : Int)) = (x.natAbs : Int) * (x.natAbs : Int) + (y.natAbs : Int) * (y.natAbs : Int) + 2 * ((x.natAbs : Int) * (y.natAbs : Int)) := by grind
  omega

/-! ### a point is near a segment if it is near a point of it -/
theorem near_of {ax ay bx b px py r s t : Int} (ht : 0 < t) (h0 : 0 ≤ s) (h1 : s ≤ t)
    (h : (t * px - ((t - s) * ax + s * bx)) * (t * px - ((t - s) * ax + s * bx)) + (t * py - ((t - s) * ay + s * b)) * (t * py - ((t - s) * ay + s * b)) ≤ t * t * (r * r)) : nearB ax ay bx b px py r = true := by
  have hL := sqI_nonneg ax ay bx b
  have htt : 0 < t * t := Int.mul_pos ht ht
  have e : (t * px - ((t - s) * ax + s * bx)) * (t * px - ((t - s) * ax + s * bx)) + (t * py - ((t - s) * ay + s * b)) * (t * py - ((t - s) * ay + s * b)) = t * t * sqI ax ay px py - 2 * (t * s * dotI ax ay bx b px py) + s * s * sqI ax ay bx b := by
    unfold sqI dotI; grind
  rw [e] at h
  have hab := near_ab ax ay bx b px py
  have har := near_area ax ay bx b px py
  have hts : 0 ≤ t * s := Int.mul_nonneg (by omega) h0
  have hss : 0 ≤ s * s := Int.mul_nonneg h0 h0
  have hsL : 0 ≤ s * s * sqI ax ay bx b := Int.mul_nonneg hss hL
  rcases (show dotI ax ay bx b px py ≤ 0 ∨ 0 < dotI ax ay bx b px py by omega) with hd | hd
  · rw [near_lo hd, decide_eq_true_eq]
    have h3 : 0 ≤ t * s * -dotI ax ay bx b px py := Int.mul_nonneg hts (by omega)
    rw [Int.mul_neg] at h3
    exact Int.le_of_mul_le_mul_left (by omega) htt
  rcases (show sqI ax ay bx b ≤ dotI ax ay bx b px py ∨ dotI ax ay bx b px py < sqI ax ay bx b by omega) with hd2 | hd2
  · rw [near_hi hd hd2, decide_eq_true_eq, hab]
    generalize sqI ax ay px py = V at *
    generalize dotI ax ay bx b px py = D at *
    generalize sqI ax ay bx b = L at *
    have h3 : 0 ≤ (t - s) * (2 * t * (D - L) + (t - s) * L) := Int.mul_nonneg (by omega) (Int.add_nonneg (Int.mul_nonneg (by omega) (by omega)) (Int.mul_nonneg (by omega) hL))
    have h4 : t * t * (V - 2 * D + L) + (t - s) * (2 * t * (D - L) + (t - s) * L) = t * t * V - 2 * (t * s * D) + s * s * L := by grind
    exact Int.le_of_mul_le_mul_left (by omega) htt
  · rw [near_mid hd hd2, decide_eq_true_eq, har]
    generalize sqI ax ay px py = V at *
    generalize dotI ax ay bx b px py = D at *
    generalize sqI ax ay bx b = L at *
    have h3 := Int.mul_le_mul_of_nonneg_right h hL
    have h4 : (t * t * V - 2 * (t * s * D) + s * s * L) * L = t * t * (V * L - D * D) + (t * D - s * L) * (t * D - s * L) := by grind
    have h5 := sq_nonneg (t * D - s * L)
    have h6 : t * t * (r * r) * L = t * t * (r * r * L) := by grind
    exact Int.le_of_mul_le_mul_left (by omega) htt
theorem near_sz {ax ay bx b px py r s t : Int} (ht : 0 < t) (h0 : 0 ≤ s) (h1 : s ≤ t)
    (h : szI (t * px - ((t - s) * ax + s * bx)) (t * py - ((t - s) * ay + s * b)) ≤ t * r) : nearB ax ay bx b px py r = true := by
  refine near_of ht h0 h1 ?_
  refine Int.le_trans (szI_sq _ _) ?_
  have h2 := (szI_cases (t * px - ((t - s) * ax + s * bx)) (t * py - ((t - s) * ay + s * b))).1
  have h3 := Int.mul_le_mul h h h2 (by omega)
  have e : t * r * (t * r) = t * t * (r * r) := by grind
  rw [← e]; exact h3

/-! ### rounded quotients -/
theorem rnd_err {x d : Int} (hd : 0 < d) : -d ≤ 2 * (d * rnd x d - x) ∧ 2 * (d * rnd x d - x) ≤ d := by
  unfold rnd
  have h1 := Int.emod_add_mul_ediv (2 * x + d) (2 * d)
  have h2 := Int.emod_nonneg (2 * x + d) (show 2 * d ≠ 0 by omega)
  have h3 := Int.emod_lt_of_pos (2 * x + d) (show 0 < 2 * d by omega)
  have e : 2 * d * ((2 * x + d) / (2 * d)) = 2 * (d * ((2 * x + d) / (2 * d))) := by rw [Int.mul_assoc]
  rw [e] at h1
  omega
theorem rnd_sz {x y d : Int} (hd : 0 < d) : szI (d * rnd x d - x) (d * rnd y d - y) ≤ d := by
  obtain ⟨a1, a2⟩ := rnd_err (x := x) hd
  obtain ⟨b1, b2⟩ := rnd_err (x := y) hd
  exact szI_le (by omega) (by omega) (by omega) (by omega)
theorem rnd_mul {x d c : Int} (hd : 0 < d) (hc : 0 < c) : rnd (c * x) (c * d) = rnd x d := by
  unfold rnd
  have e1 : 2 * (c * x) + c * d = c * (2 * x + d) := by grind
  have e2 : 2 * (c * d) = c * (2 * d) := by grind
  rw [e1, e2, Int.mul_ediv_mul_of_pos _ _ hc]
theorem rnd_exact {x d : Int} (hd : 0 < d) : rnd (d * x) d = x := by
  have h := rnd_err (x := d * x) hd
  have e : d * rnd (d * x) d - d * x = d * (rnd (d * x) d - x) := by rw [Int.mul_sub]
  rw [e] at h
  generalize rnd (d * x) d = q at *
  rcases Int.lt_trichotomy q x with h1 | h1 | h1
  · have := Int.mul_le_mul_of_nonneg_left (show q - x ≤ -1 by omega) (show 0 ≤ d by omega)
    omega
  · exact h1
  · have := Int.mul_le_mul_of_nonneg_left (show 1 ≤ q - x by omega) (show 0 ≤ d by omega)
    omega

/-! ### a coordinate of a cubic at a parameter -/
def numC (a b c d k n : Int) : Int := (n - k) * (n - k) * (n - k) * a + 3 * (n - k) * (n - k) * k * b + 3 * (n - k) * k * k * c + k * k * k * d
def mixC (a b c d k n : Int) : Int := rnd (numC a b c d k n) (n * n * n)
theorem numC_rev (a b c d k n : Int) : numC d c b a (n - k) n = numC a b c d k n := by
  unfold numC
  have e : n - (n - k) = k := by omega
  rw [e]; grind
theorem numC_scale (a b c d k n s : Int) : numC a b c d (s * k) (s * n) = s * s * s * numC a b c d k n := by
  unfold numC
  have e : s * n - s * k = s * (n - k) := by rw [Int.mul_sub]
  rw [e]
  generalize n - k = u
  grind
theorem numC_chord (a b c d k n i m : Int) : numC a b c d (k * m + i) (n * m) = m * m * ((m - i) * numC a b c d k n + i * numC a b c d (k + 1) n) -
    i * (m - i) * ((2 * m - i) * ((n - k) * (a - 2 * b + c) + k * (b - 2 * c + d)) + (m + i) * ((n - k - 1) * (a - 2 * b + c) + (k + 1) * (b - 2 * c + d))) := by
  unfold numC
  obtain ⟨u, rfl⟩ : ∃ u, n = k + u := ⟨n - k, by omega⟩
  obtain ⟨v, rfl⟩ : ∃ v, m = i + v := ⟨m - i, by omega⟩
  have e1 : k + u - k = u := by omega
  have e2 : i + v - i = v := by omega
  have e3 : k + u - (k + 1) = u - 1 := by omega
  have e4 : (k + u) * (i + v) - (k * (i + v) + i) = u * (i + v) - i := by grind
  rw [e1, e2, e3, e4]
  grind
theorem numC_at0 (a b c d n : Int) : numC a b c d 0 n = n * n * n * a := by unfold numC; grind
theorem numC_at1 (a b c d n : Int) : numC a b c d n n = n * n * n * d := by unfold numC; grind
theorem mixC_at0 (a b c d : Int) {n : Int} (hn : 0 < n) : mixC a b c d 0 n = a := by
  unfold mixC; rw [numC_at0]; exact rnd_exact (Int.mul_pos (Int.mul_pos hn hn) hn)
theorem mixC_at1 (a b c d : Int) {n : Int} (hn : 0 < n) : mixC a b c d n n = d := by
  unfold mixC; rw [numC_at1]; exact rnd_exact (Int.mul_pos (Int.mul_pos hn hn) hn)
theorem mixC_scale (a b c d k : Int) {n s : Int} (hn : 0 < n) (hs : 0 < s) : mixC a b c d (s * k) (s * n) = mixC a b c d k n := by
  unfold mixC
  rw [numC_scale]
  have e : s * n * (s * n) * (s * n) = s * s * s * (n * n * n) := by grind
  rw [e]
  exact rnd_mul (Int.mul_pos (Int.mul_pos hn hn) hn) (Int.mul_pos (Int.mul_pos hs hs) hs)

/-- a cubic: its four points -/
structure Cb where
  ax : Int
  ay : Int
  bx : Int
  b : Int
  cx : Int
  cy : Int
  dx : Int
  dy : Int
def cAt (c : Cb) (k n : Int) : Int × Int := (mixC c.ax c.bx c.cx c.dx k n, mixC c.ay c.b c.cy c.dy k n)
def bendA (c : Cb) : Int := szI (c.ax - 2 * c.bx + c.cx) (c.ay - 2 * c.b + c.cy)
def bendB (c : Cb) : Int := szI (c.bx - 2 * c.cx + c.dx) (c.b - 2 * c.cy + c.dy)
def bendC (c : Cb) : Int := imax (bendA c) (bendB c)
theorem four_mul (i m : Int) : 4 * (i * (m - i)) ≤ m * m := by
  have h := sq_nonneg (m - 2 * i)
  have e : (m - 2 * i) * (m - 2 * i) = m * m - 4 * (i * (m - i)) := by grind
  omega

theorem cub_near {c : Cb} {n m k i T : Int} (hn : 0 < n) (hm : 0 < m) (hk0 : 0 ≤ k) (hk : k < n) (hi0 : 0 ≤ i) (hi : i ≤ m) (hT : 0 ≤ T) (hb : 3 * bendC c ≤ 4 * T * (n * n)) :
    nearB (cAt c k n).1 (cAt c k n).2 (cAt c (k + 1) n).1 (cAt c (k + 1) n).2 (cAt c (k * m + i) (n * m)).1 (cAt c (k * m + i) (n * m)).2 (T + 2) = true := by
  refine near_sz (t := m) (s := i) hm hi0 hi ?_
  have hnm : 0 < n * m := Int.mul_pos hn hm
  have hn3 : 0 < n * n * n := Int.mul_pos (Int.mul_pos hn hn) hn
  have hD : 0 < n * m * (n * m) * (n * m) := Int.mul_pos (Int.mul_pos hnm hnm) hnm
  have r1 := rnd_sz (x := numC c.ax c.bx c.cx c.dx (k * m + i) (n * m)) (y := numC c.ay c.b c.cy c.dy (k * m + i) (n * m)) hD
  have r2 := rnd_sz (x := numC c.ax c.bx c.cx c.dx k n) (y := numC c.ay c.b c.cy c.dy k n) hn3
  have r3 := rnd_sz (x := numC c.ax c.bx c.cx c.dx (k + 1) n) (y := numC c.ay c.b c.cy c.dy (k + 1) n) hn3
  have g1 := numC_chord c.ax c.bx c.cx c.dx k n i m
  have g2 := numC_chord c.ay c.b c.cy c.dy k n i m
  have hbA : 3 * bendA c ≤ 4 * T * (n * n) := by unfold bendC imax at hb; split at hb <;> omega
  have hbB : 3 * bendB c ≤ 4 * T * (n * n) := by unfold bendC imax at hb; split at hb <;> omega
  unfold bendA at hbA
  unfold bendB at hbB
  unfold cAt mixC
  simp only
  generalize numC c.ax c.bx c.cx c.dx (k * m + i) (n * m) = N at *
  generalize numC c.ay c.b c.cy c.dy (k * m + i) (n * m) = N' at *
  generalize numC c.ax c.bx c.cx c.dx k n = P at *
  generalize numC c.ay c.b c.cy c.dy k n = P' at *
  generalize numC c.ax c.bx c.cx c.dx (k + 1) n = Q at *
  generalize numC c.ay c.b c.cy c.dy (k + 1) n = Q' at *
  generalize c.ax - 2 * c.bx + c.cx = s0 at *
  generalize c.ay - 2 * c.b + c.cy = s0' at *
  generalize c.bx - 2 * c.cx + c.dx = s1 at *
  generalize c.b - 2 * c.cy + c.dy = s1' at *
  -- the bend
  have hc1 : 0 ≤ (2 * m - i) * (n - k) + (m + i) * (n - k - 1) := Int.add_nonneg (Int.mul_nonneg (by omega) (by omega)) (Int.mul_nonneg (by omega) (by omega))
  have hc2 : 0 ≤ (2 * m - i) * k + (m + i) * (k + 1) := Int.add_nonneg (Int.mul_nonneg (by omega) (by omega)) (Int.mul_nonneg (by omega) (by omega))
  have e1 : (2 * m - i) * ((n - k) * s0 + k * s1) + (m + i) * ((n - k - 1) * s0 + (k + 1) * s1) = ((2 * m - i) * (n - k) + (m + i) * (n - k - 1)) * s0 + ((2 * m - i) * k + (m + i) * (k + 1)) * s1 := by grind
  have e2 : (2 * m - i) * ((n - k) * s0' + k * s1') + (m + i) * ((n - k - 1) * s0' + (k + 1) * s1') = ((2 * m - i) * (n - k) + (m + i) * (n - k - 1)) * s0' + ((2 * m - i) * k + (m + i) * (k + 1)) * s1' := by grind
  have hsum : (2 * m - i) * (n - k) + (m + i) * (n - k - 1) + ((2 * m - i) * k + (m + i) * (k + 1)) = 3 * (m * n) := by grind
  rw [e1] at g1
  rw [e2] at g2
  generalize (2 * m - i) * (n - k) + (m + i) * (n - k - 1) = u at *
  generalize (2 * m - i) * k + (m + i) * (k + 1) = v at *
  have hS : szI (u * s0 + v * s1) (u * s0' + v * s1') ≤ u * szI s0 s0' + v * szI s1 s1' := Int.le_trans (szI_add _ _ _ _) (Int.add_le_add (szI_mul hc1 _ _) (szI_mul hc2 _ _))
  have hS2 : 3 * (u * szI s0 s0' + v * szI s1 s1') ≤ 3 * (m * n) * (4 * T * (n * n)) := by
    have a1 := Int.mul_le_mul_of_nonneg_left hbA hc1
    have a2 := Int.mul_le_mul_of_nonneg_left hbB hc2
    have a3 : 3 * (m * n) * (4 * T * (n * n)) = u * (4 * T * (n * n)) + v * (4 * T * (n * n)) := by rw [← hsum, Int.add_mul]
    have a4 : u * (3 * szI s0 s0') = 3 * (u * szI s0 s0') := by grind
    have a5 : v * (3 * szI s1 s1') = 3 * (v * szI s1 s1') := by grind
    omega
  have hii : 0 ≤ i * (m - i) := Int.mul_nonneg hi0 (by omega)
  have hE : szI (i * (m - i) * (u * s0 + v * s1)) (i * (m - i) * (u * s0' + v * s1')) ≤ T * (n * m * (n * m) * (n * m)) := by
    refine Int.le_trans (szI_mul hii _ _) ?_
    have b0 : szI (u * s0 + v * s1) (u * s0' + v * s1') ≤ 4 * T * (n * n * n * m) := by
      have : 3 * (m * n) * (4 * T * (n * n)) = 3 * (4 * T * (n * n * n * m)) := by grind
      omega
    have b1 := Int.mul_le_mul_of_nonneg_left b0 hii
    have b2 : 0 ≤ T * (n * n * n * m) := Int.mul_nonneg hT (Int.le_of_lt (Int.mul_pos hn3 hm))
    have b3 := Int.mul_le_mul_of_nonneg_right (four_mul i m) b2
    have b4 : i * (m - i) * (4 * T * (n * n * n * m)) = 4 * (i * (m - i)) * (T * (n * n * n * m)) := by grind
    have b5 : m * m * (T * (n * n * n * m)) = T * (n * m * (n * m) * (n * m)) := by grind
    omega
  -- all together
  refine szI_scale hD ?_
  generalize rnd N (n * m * (n * m) * (n * m)) = p at *
  generalize rnd N' (n * m * (n * m) * (n * m)) = p' at *
  generalize rnd P (n * n * n) = a at *
  generalize rnd P' (n * n * n) = a' at *
  generalize rnd Q (n * n * n) = q at *
  generalize rnd Q' (n * n * n) = q' at *
  generalize u * s0 + v * s1 = X at *
  generalize u * s0' + v * s1' = X' at *
  have hm3 : 0 ≤ m * m * m := Int.le_of_lt (Int.mul_pos (Int.mul_pos hm hm) hm)
  have k1 : n * m * (n * m) * (n * m) * (m * p - ((m - i) * a + i * q)) = m * (n * m * (n * m) * (n * m) * p - N) - m * (i * (m - i) * X) - (m * m * m * ((m - i) * (n * n * n * a - P) + i * (n * n * n * q - Q))) := by
    rw [g1]; grind
  have k2 : n * m * (n * m) * (n * m) * (m * p' - ((m - i) * a' + i * q')) = m * (n * m * (n * m) * (n * m) * p' - N') - m * (i * (m - i) * X') - (m * m * m * ((m - i) * (n * n * n * a' - P') + i * (n * n * n * q' - Q'))) := by
    rw [g2]; grind
  rw [k1, k2]
  refine Int.le_trans (szI_sub _ _ _ _) ?_
  have t1 := Int.le_trans (szI_sub (m * (n * m * (n * m) * (n * m) * p - N)) (m * (n * m * (n * m) * (n * m) * p' - N')) (m * (i * (m - i) * X)) (m * (i * (m - i) * X'))) (Int.add_le_add (Int.le_trans (szI_mul (by omega) _ _) (Int.mul_le_mul_of_nonneg_left r1 (by omega))) (Int.le_trans (szI_mul (by omega) _ _) (Int.mul_le_mul_of_nonneg_left hE (by omega))))
  have t2 : szI ((m - i) * (n * n * n * a - P) + i * (n * n * n * q - Q)) ((m - i) * (n * n * n * a' - P') + i * (n * n * n * q' - Q')) ≤ m * (n * n * n) := by
    have x1 := Int.le_trans (szI_add ((m - i) * (n * n * n * a - P)) ((m - i) * (n * n * n * a' - P')) (i * (n * n * n * q - Q)) (i * (n * n * n * q' - Q'))) (Int.add_le_add (Int.le_trans (szI_mul (by omega) _ _) (Int.mul_le_mul_of_nonneg_left r2 (by omega))) (Int.le_trans (szI_mul (by omega) _ _) (Int.mul_le_mul_of_nonneg_left r3 (by omega))))
    have x2 : (m - i) * (n * n * n) + i * (n * n * n) = m * (n * n * n) := by rw [← Int.add_mul]; congr 1; omega
    omega
  have t3 := Int.le_trans (szI_mul hm3 ((m - i) * (n * n * n * a - P) + i * (n * n * n * q - Q)) ((m - i) * (n * n * n * a' - P') + i * (n * n * n * q' - Q'))) (Int.mul_le_mul_of_nonneg_left t2 hm3)
  have e5 : m * m * m * (m * (n * n * n)) = m * (n * m * (n * m) * (n * m)) := by grind
  have e6 : n * m * (n * m) * (n * m) * (m * (T + 2)) = m * (n * m * (n * m) * (n * m)) + m * (T * (n * m * (n * m) * (n * m))) + m * (n * m * (n * m) * (n * m)) := by grind
  omega
end Go.Proofs.Ytpmpbfkpiocleaa

