/- Quadratics for a cubic: a point of the cubic is near the path along the quadratic of its part. Numbers alone. Conditions: as each states. -/
import Derived.Test.YtpmpbfkpiocleaaQv13
namespace Go.Proofs.Ytpmpbfkpiocleaa
set_option linter.unusedVariables false
set_option maxRecDepth 100000

theorem wave {I V : Int} (h0 : 0 ≤ I) (h1 : I ≤ V) : 10 * (I * (V - I) * (V - 2 * I)) ≤ V * V * V ∧ -(V * V * V) ≤ 10 * (I * (V - I) * (V - 2 * I)) := by
  have key : ∀ x : Int, 0 ≤ V → 0 ≤ x → x ≤ V → 5 * (V * V * x) ≤ 2 * (V * V * V) + 5 * (x * x * x) := fun x hV hx hxV => by
    have a1 : 0 ≤ (7 * x - 4 * V) * (7 * x - 4 * V) * (7 * x + 8 * V) := Int.mul_nonneg (sq_nonneg _) (by omega)
    have a2 : (7 * x - 4 * V) * (7 * x - 4 * V) * (7 * x + 8 * V) = 343 * (x * x * x) - 336 * (V * V * x) + 128 * (V * V * V) := by grind
    have a3 : V * V * x ≤ V * V * V := Int.mul_le_mul_of_nonneg_left hxV (Int.mul_nonneg hV hV)
    have a4 : 0 ≤ V * V * x := Int.mul_nonneg (Int.mul_nonneg hV hV) hx
    omega
  have e : 4 * (I * (V - I) * (V - 2 * I)) = V * V * (V - 2 * I) - (V - 2 * I) * (V - 2 * I) * (V - 2 * I) := by grind
  have e2 : (-(V - 2 * I)) * (-(V - 2 * I)) * (-(V - 2 * I)) = -((V - 2 * I) * (V - 2 * I) * (V - 2 * I)) := by grind
  have hp : 0 ≤ I * (V - I) := Int.mul_nonneg h0 (by omega)
  have hV3 : 0 ≤ V * V * V := Int.mul_nonneg (Int.mul_nonneg (by omega) (by omega)) (by omega)
  rcases Int.le_total 0 (V - 2 * I) with hx | hx
  · have k := key (V - 2 * I) (by omega) hx (by omega)
    have := Int.mul_nonneg hp hx
    omega
  · have k := key (-(V - 2 * I)) (by omega) (by omega) (by omega)
    have h3 := Int.mul_nonneg hp (show 0 ≤ -(V - 2 * I) by omega)
    rw [Int.mul_neg] at h3 k
    rw [Int.mul_neg, e2] at k
    omega

/-- the polar form of a coordinate -/
def bloC (a b c d r s t n : Int) : Int := (n - r) * (n - s) * (n - t) * a + (r * (n - s) * (n - t) + (n - r) * s * (n - t) + (n - r) * (n - s) * t) * b + (r * s * (n - t) + r * (n - s) * t + (n - r) * s * t) * c + r * s * t * d
/-- the control point's coordinate, times 4 n^3 -/
def ctlC (a b c d k n : Int) : Int := 3 * bloC a b c d k k (k + 1) n - bloC a b c d k k k n + 3 * bloC a b c d k (k + 1) (k + 1) n - bloC a b c d (k + 1) (k + 1) (k + 1) n
theorem blo_0 (a b c d k n : Int) : bloC a b c d k k k n = numC a b c d k n := by
  unfold bloC numC; grind
theorem blo_third (a b c d k n : Int) : bloC a b c d (k + 1) (k + 1) (k + 1) n - 3 * bloC a b c d k (k + 1) (k + 1) n + 3 * bloC a b c d k k (k + 1) n - bloC a b c d k k k n = d - 3 * c + 3 * b - a := by
  unfold bloC
  obtain ⟨u, rfl⟩ : ∃ u, n = k + u := ⟨n - k, by omega⟩
  have e1 : k + u - k = u := by omega
  have e3 : k + u - (k + 1) = u - 1 := by omega
  rw [e1, e3]; grind
theorem blo_part (a b c d k n i v : Int) : numC a b c d (k * v + i) (n * v) = numC (bloC a b c d k k k n) (bloC a b c d k k (k + 1) n) (bloC a b c d k (k + 1) (k + 1) n) (bloC a b c d (k + 1) (k + 1) (k + 1) n) i v := by
  unfold numC bloC
  obtain ⟨u, rfl⟩ : ∃ u, n = k + u := ⟨n - k, by omega⟩
  obtain ⟨m, rfl⟩ : ∃ m, v = i + m := ⟨v - i, by omega⟩
  have e1 : k + u - k = u := by omega
  have e2 : i + m - i = m := by omega
  have e3 : k + u - (k + 1) = u - 1 := by omega
  have e4 : (k + u) * (i + m) - (k * (i + m) + i) = u * (i + m) - i := by grind
  rw [e1, e2, e3, e4]
  grind
/-- a cubic and the quadratic with the same ends -/
theorem cub_quad (p0 p1 p2 p3 i v : Int) : 4 * numC p0 p1 p2 p3 i v = v * (4 * ((v - i) * (v - i)) * p0 + 2 * ((v - i) * i) * (3 * p1 - p0 + 3 * p2 - p3) + 4 * (i * i) * p3) + 2 * (i * (v - i) * (v - 2 * i)) * (p3 - 3 * p2 + 3 * p1 - p0) := by
  unfold numC
  obtain ⟨m, rfl⟩ : ∃ m, v = i + m := ⟨v - i, by omega⟩
  have e2 : i + m - i = m := by omega
  have e3 : i + m - 2 * i = m - i := by omega
  rw [e2, e3]; grind
theorem numI_chord (a b c k n i m : Int) : numI a b c (k * m + i) (n * m) = m * ((m - i) * numI a b c k n + i * numI a b c (k + 1) n) - i * (m - i) * (a - 2 * b + c) := by
  unfold numI
  obtain ⟨u, rfl⟩ : ∃ u, n = k + u := ⟨n - k, by omega⟩
  obtain ⟨v, rfl⟩ : ∃ v, m = i + v := ⟨m - i, by omega⟩
  have e1 : k + u - k = u := by omega
  have e2 : i + v - i = v := by omega
  have e3 : k + u - (k + 1) = u - 1 := by omega
  have e4 : (k + u) * (i + v) - (k * (i + v) + i) = u * (i + v) - i := by grind
  rw [e1, e2, e3, e4]; grind

/-- the quadratic for the part k of n -/
def quadC (c : Cb) (k n : Int) : Qd := ⟨mixC c.ax c.bx c.cx c.dx k n, mixC c.ay c.b c.cy c.dy k n, rnd (ctlC c.ax c.bx c.cx c.dx k n) (4 * n * n * n), rnd (ctlC c.ay c.b c.cy c.dy k n) (4 * n * n * n), mixC c.ax c.bx c.cx c.dx (k + 1) n, mixC c.ay c.b c.cy c.dy (k + 1) n⟩
def thirdC (c : Cb) : Int := szI (c.dx - 3 * c.cx + 3 * c.bx - c.ax) (c.dy - 3 * c.cy + 3 * c.b - c.ay)
/-- a point of a quadratic -/
def qAtI (q : Qd) (k n : Int) : Int × Int := (mixI q.ax q.bx q.cx k n, mixI q.ay q.b q.cy k n)

theorem conv_near {c : Cb} {n k T n' m j i : Int} (hn : 0 < n) (hn' : 0 < n') (hm : 0 < m) (hj0 : 0 ≤ j) (hj : j < n') (hi0 : 0 ≤ i) (hi : i ≤ m) (hT : 0 ≤ T)
    (h3 : thirdC c ≤ 20 * T * (n * n * n)) (hb : bendQ (quadC c k n) ≤ 4 * (n' * n')) :
    nearB (qAtI (quadC c k n) j n').1 (qAtI (quadC c k n) j n').2 (qAtI (quadC c k n) (j + 1) n').1 (qAtI (quadC c k n) (j + 1) n').2
      (cAt c (k * (n' * m) + (j * m + i)) (n * (n' * m))).1 (cAt c (k * (n' * m) + (j * m + i)) (n * (n' * m))).2 (T + 5) = true := by
  refine near_sz (t := m) (s := i) hm hi0 hi ?_
  obtain ⟨V, hV⟩ : ∃ V, V = n' * m := ⟨_, rfl⟩
  obtain ⟨I, hI⟩ : ∃ I, I = j * m + i := ⟨_, rfl⟩
  have hV0 : 0 < V := by rw [hV]; exact Int.mul_pos hn' hm
  have hI0 : 0 ≤ I := by rw [hI]; exact Int.add_nonneg (Int.mul_nonneg hj0 (by omega)) hi0
  have hIV : I ≤ V := by
    have : (j + 1) * m ≤ n' * m := Int.mul_le_mul_of_nonneg_right (by omega) (by omega)
    rw [Int.add_mul] at this
    omega
  have hnV : 0 < n * V := Int.mul_pos hn hV0
  have hn3 : 0 < n * n * n := Int.mul_pos (Int.mul_pos hn hn) hn
  have hn4 : 0 < 4 * n * n * n := by have : 4 * n * n * n = 4 * (n * n * n) := by grind
                                     omega
  have hD : 0 < n * V * (n * V) * (n * V) := Int.mul_pos (Int.mul_pos hnV hnV) hnV
  have hnn : 0 < n' * n' := Int.mul_pos hn' hn'
  -- the five errors
  have r1 := rnd_sz (x := numC c.ax c.bx c.cx c.dx (k * V + I) (n * V)) (y := numC c.ay c.b c.cy c.dy (k * V + I) (n * V)) hD
  have ra := rnd_sz (x := numC c.ax c.bx c.cx c.dx k n) (y := numC c.ay c.b c.cy c.dy k n) hn3
  have rc := rnd_sz (x := numC c.ax c.bx c.cx c.dx (k + 1) n) (y := numC c.ay c.b c.cy c.dy (k + 1) n) hn3
  have rb := rnd_sz (x := ctlC c.ax c.bx c.cx c.dx k n) (y := ctlC c.ay c.b c.cy c.dy k n) hn4
  have rj := rnd_sz (x := numI (quadC c k n).ax (quadC c k n).bx (quadC c k n).cx j n') (y := numI (quadC c k n).ay (quadC c k n).b (quadC c k n).cy j n') hnn
  have rk := rnd_sz (x := numI (quadC c k n).ax (quadC c k n).bx (quadC c k n).cx (j + 1) n') (y := numI (quadC c k n).ay (quadC c k n).b (quadC c k n).cy (j + 1) n') hnn
  have g1 := cub_quad (bloC c.ax c.bx c.cx c.dx k k k n) (bloC c.ax c.bx c.cx c.dx k k (k + 1) n) (bloC c.ax c.bx c.cx c.dx k (k + 1) (k + 1) n) (bloC c.ax c.bx c.cx c.dx (k + 1) (k + 1) (k + 1) n) I V
  have g2 := cub_quad (bloC c.ay c.b c.cy c.dy k k k n) (bloC c.ay c.b c.cy c.dy k k (k + 1) n) (bloC c.ay c.b c.cy c.dy k (k + 1) (k + 1) n) (bloC c.ay c.b c.cy c.dy (k + 1) (k + 1) (k + 1) n) I V
  rw [← blo_part, blo_third, blo_0, blo_0] at g1 g2
  have d1 : ctlC c.ax c.bx c.cx c.dx k n = 3 * bloC c.ax c.bx c.cx c.dx k k (k + 1) n - numC c.ax c.bx c.cx c.dx k n + 3 * bloC c.ax c.bx c.cx c.dx k (k + 1) (k + 1) n - numC c.ax c.bx c.cx c.dx (k + 1) n := by unfold ctlC; rw [blo_0, blo_0]
  have d2 : ctlC c.ay c.b c.cy c.dy k n = 3 * bloC c.ay c.b c.cy c.dy k k (k + 1) n - numC c.ay c.b c.cy c.dy k n + 3 * bloC c.ay c.b c.cy c.dy k (k + 1) (k + 1) n - numC c.ay c.b c.cy c.dy (k + 1) n := by unfold ctlC; rw [blo_0, blo_0]
  rw [← d1] at g1
  rw [← d2] at g2
  have c1 := numI_chord (quadC c k n).ax (quadC c k n).bx (quadC c k n).cx j n' i m
  have c2 := numI_chord (quadC c k n).ay (quadC c k n).b (quadC c k n).cy j n' i m
  rw [← hV, ← hI] at c1 c2
  rw [← hV, ← hI]
  have n1 : numI (quadC c k n).ax (quadC c k n).bx (quadC c k n).cx I V = (V - I) * (V - I) * rnd (numC c.ax c.bx c.cx c.dx k n) (n * n * n) + 2 * (V - I) * I * rnd (ctlC c.ax c.bx c.cx c.dx k n) (4 * n * n * n) + I * I * rnd (numC c.ax c.bx c.cx c.dx (k + 1) n) (n * n * n) := rfl
  have n2 : numI (quadC c k n).ay (quadC c k n).b (quadC c k n).cy I V = (V - I) * (V - I) * rnd (numC c.ay c.b c.cy c.dy k n) (n * n * n) + 2 * (V - I) * I * rnd (ctlC c.ay c.b c.cy c.dy k n) (4 * n * n * n) + I * I * rnd (numC c.ay c.b c.cy c.dy (k + 1) n) (n * n * n) := rfl
  have hbd : szI ((quadC c k n).ax - 2 * (quadC c k n).bx + (quadC c k n).cx) ((quadC c k n).ay - 2 * (quadC c k n).b + (quadC c k n).cy) ≤ 4 * (n' * n') := hb
  have hth : szI (c.dx - 3 * c.cx + 3 * c.bx - c.ax) (c.dy - 3 * c.cy + 3 * c.b - c.ay) ≤ 20 * T * (n * n * n) := h3
  obtain ⟨w1, w2⟩ := wave hI0 hIV
  clear d1 d2 hb h3
  show szI (m * rnd (numC c.ax c.bx c.cx c.dx (k * V + I) (n * V)) (n * V * (n * V) * (n * V)) - ((m - i) * rnd (numI (quadC c k n).ax (quadC c k n).bx (quadC c k n).cx j n') (n' * n') + i * rnd (numI (quadC c k n).ax (quadC c k n).bx (quadC c k n).cx (j + 1) n') (n' * n')))
    (m * rnd (numC c.ay c.b c.cy c.dy (k * V + I) (n * V)) (n * V * (n * V) * (n * V)) - ((m - i) * rnd (numI (quadC c k n).ay (quadC c k n).b (quadC c k n).cy j n') (n' * n') + i * rnd (numI (quadC c k n).ay (quadC c k n).b (quadC c k n).cy (j + 1) n') (n' * n'))) ≤ m * (T + 5)
  generalize rnd (numC c.ax c.bx c.cx c.dx (k * V + I) (n * V)) (n * V * (n * V) * (n * V)) = p at *
  generalize rnd (numC c.ay c.b c.cy c.dy (k * V + I) (n * V)) (n * V * (n * V) * (n * V)) = p' at *
  generalize numC c.ax c.bx c.cx c.dx (k * V + I) (n * V) = N at *
  generalize numC c.ay c.b c.cy c.dy (k * V + I) (n * V) = N' at *
  generalize rnd (numC c.ax c.bx c.cx c.dx k n) (n * n * n) = A at *
  generalize rnd (numC c.ay c.b c.cy c.dy k n) (n * n * n) = A' at *
  generalize rnd (numC c.ax c.bx c.cx c.dx (k + 1) n) (n * n * n) = C at *
  generalize rnd (numC c.ay c.b c.cy c.dy (k + 1) n) (n * n * n) = C' at *
  generalize rnd (ctlC c.ax c.bx c.cx c.dx k n) (4 * n * n * n) = B at *
  generalize rnd (ctlC c.ay c.b c.cy c.dy k n) (4 * n * n * n) = B' at *
  generalize numC c.ax c.bx c.cx c.dx k n = a at *
  generalize numC c.ay c.b c.cy c.dy k n = a' at *
  generalize numC c.ax c.bx c.cx c.dx (k + 1) n = q at *
  generalize numC c.ay c.b c.cy c.dy (k + 1) n = q' at *
  generalize ctlC c.ax c.bx c.cx c.dx k n = b at *
  generalize ctlC c.ay c.b c.cy c.dy k n = b' at *
  generalize rnd (numI (quadC c k n).ax (quadC c k n).bx (quadC c k n).cx j n') (n' * n') = R at *
  generalize rnd (numI (quadC c k n).ay (quadC c k n).b (quadC c k n).cy j n') (n' * n') = R' at *
  generalize rnd (numI (quadC c k n).ax (quadC c k n).bx (quadC c k n).cx (j + 1) n') (n' * n') = S at *
  generalize rnd (numI (quadC c k n).ay (quadC c k n).b (quadC c k n).cy (j + 1) n') (n' * n') = S' at *
  generalize numI (quadC c k n).ax (quadC c k n).bx (quadC c k n).cx j n' = r at *
  generalize numI (quadC c k n).ay (quadC c k n).b (quadC c k n).cy j n' = r' at *
  generalize numI (quadC c k n).ax (quadC c k n).bx (quadC c k n).cx (j + 1) n' = s at *
  generalize numI (quadC c k n).ay (quadC c k n).b (quadC c k n).cy (j + 1) n' = s' at *
  generalize numI (quadC c k n).ax (quadC c k n).bx (quadC c k n).cx I V = M at *
  generalize numI (quadC c k n).ay (quadC c k n).b (quadC c k n).cy I V = M' at *
  generalize (quadC c k n).ax - 2 * (quadC c k n).bx + (quadC c k n).cx = e at *
  generalize (quadC c k n).ay - 2 * (quadC c k n).b + (quadC c k n).cy = e' at *
  generalize c.dx - 3 * c.cx + 3 * c.bx - c.ax = t at *
  generalize c.dy - 3 * c.cy + 3 * c.b - c.ay = t' at *
  obtain ⟨n3, hn3e⟩ : ∃ n3, n3 = n * n * n := ⟨_, rfl⟩
  have hDe : n * V * (n * V) * (n * V) = n3 * (V * V * V) := by rw [hn3e]; grind
  have h4e : 4 * n * n * n = 4 * n3 := by rw [hn3e]; grind
  rw [h4e] at rb
  rw [← hn3e] at ra rc hth hn3
  rw [hDe] at r1 hD
  clear hn3e hDe h4e hn4
  -- the third difference
  have hV3 : 0 < V * V * V := Int.mul_pos (Int.mul_pos hV0 hV0) hV0
  have hW : szI (2 * (I * (V - I) * (V - 2 * I)) * t) (2 * (I * (V - I) * (V - 2 * I)) * t') ≤ 4 * T * (n3 * (V * V * V)) := by
    generalize I * (V - I) * (V - 2 * I) = Z at *
    have f : ∀ z : Int, 0 ≤ z → 10 * z ≤ V * V * V → z * szI t t' * 2 ≤ 4 * T * (n3 * (V * V * V)) := fun z hz h10 => by
      have x1 := Int.mul_le_mul_of_nonneg_left hth hz
      have x2 : 0 ≤ T * n3 := Int.mul_nonneg hT (by omega)
      have x3 := Int.mul_le_mul_of_nonneg_right h10 x2
      have x4 : z * (20 * T * n3) = 2 * (10 * z * (T * n3)) := by grind
      have x5 : V * V * V * (T * n3) = T * (n3 * (V * V * V)) := by grind
      have x6 : 4 * T * (n3 * (V * V * V)) = 4 * (T * (n3 * (V * V * V))) := by rw [Int.mul_assoc]
      omega
    rcases Int.le_total 0 Z with hz | hz
    · refine Int.le_trans (szI_mul (by omega) t t') ?_
      have x1 := f Z hz w1
      have x2 : 2 * Z * szI t t' = Z * szI t t' * 2 := by grind
      omega
    · have x0 : szI (2 * Z * t) (2 * Z * t') = szI (2 * -Z * t) (2 * -Z * t') := by
        rw [← szI_neg]; congr 1 <;> grind
      rw [x0]
      refine Int.le_trans (szI_mul (by omega) t t') ?_
      have x1 := f (-Z) (by omega) (by omega)
      have x2 : 2 * -Z * szI t t' = -Z * szI t t' * 2 := by grind
      omega
  generalize 2 * (I * (V - I) * (V - 2 * I)) = Z at *
  -- the rounded control points
  have hu1 : 0 ≤ (V - I) * (V - I) := sq_nonneg _
  have hu2 : 0 ≤ (V - I) * I := Int.mul_nonneg (by omega) hI0
  have hu3 : 0 ≤ I * I := sq_nonneg _
  have hR : szI (4 * ((V - I) * (V - I)) * (n3 * A - a) + 2 * ((V - I) * I) * (4 * n3 * B - b) + 4 * (I * I) * (n3 * C - q)) (4 * ((V - I) * (V - I)) * (n3 * A' - a') + 2 * ((V - I) * I) * (4 * n3 * B' - b') + 4 * (I * I) * (n3 * C' - q')) ≤ 4 * n3 * (V * V) := by
    have x1 := Int.le_trans (szI_mul (c := 4 * ((V - I) * (V - I))) (by omega) (n3 * A - a) (n3 * A' - a')) (Int.mul_le_mul_of_nonneg_left ra (by omega))
    have x2 := Int.le_trans (szI_mul (c := 2 * ((V - I) * I)) (by omega) (4 * n3 * B - b) (4 * n3 * B' - b')) (Int.mul_le_mul_of_nonneg_left rb (by omega))
    have x3 := Int.le_trans (szI_mul (c := 4 * (I * I)) (by omega) (n3 * C - q) (n3 * C' - q')) (Int.mul_le_mul_of_nonneg_left rc (by omega))
    have x4 := Int.le_trans (szI_add _ _ _ _) (Int.add_le_add (Int.le_trans (szI_add _ _ _ _) (Int.add_le_add x1 x2)) x3)
    have x5 : 4 * ((V - I) * (V - I)) * n3 + 2 * ((V - I) * I) * (4 * n3) + 4 * (I * I) * n3 = 4 * n3 * (V * V) := by grind
    omega
  -- the chord
  have hS : szI (i * (m - i) * e) (i * (m - i) * e') ≤ V * V := by
    have x0 : 0 ≤ i * (m - i) := Int.mul_nonneg hi0 (by omega)
    have x1 := Int.le_trans (szI_mul x0 e e') (Int.mul_le_mul_of_nonneg_left hbd x0)
    have x2 := Int.mul_le_mul_of_nonneg_right (four_mul i m) (Int.le_of_lt hnn)
    have x3 : i * (m - i) * (4 * (n' * n')) = 4 * (i * (m - i)) * (n' * n') := by grind
    have x4 : m * m * (n' * n') = V * V := by rw [hV]; grind
    omega
  have hQ : szI ((m - i) * (n' * n' * R - r) + i * (n' * n' * S - s)) ((m - i) * (n' * n' * R' - r') + i * (n' * n' * S' - s')) ≤ m * (n' * n') := by
    have x1 := Int.le_trans (szI_mul (c := m - i) (by omega) (n' * n' * R - r) (n' * n' * R' - r')) (Int.mul_le_mul_of_nonneg_left rj (by omega))
    have x2 := Int.le_trans (szI_mul hi0 (n' * n' * S - s) (n' * n' * S' - s')) (Int.mul_le_mul_of_nonneg_left rk hi0)
    have x3 := Int.le_trans (szI_add _ _ _ _) (Int.add_le_add x1 x2)
    have x4 : (m - i) * (n' * n') + i * (n' * n') = m * (n' * n') := by rw [← Int.add_mul]; congr 1; omega
    omega
  -- all together
  have hG : 0 < 4 * (n3 * (V * V * V)) := by have := Int.mul_pos hn3 hV3; omega
  refine szI_scale hG ?_
  have k1 : 4 * (n3 * (V * V * V)) * (m * p - ((m - i) * R + i * S)) = 4 * m * (n3 * (V * V * V) * p - N) + m * (Z * t) - m * V * (4 * ((V - I) * (V - I)) * (n3 * A - a) + 2 * ((V - I) * I) * (4 * n3 * B - b) + 4 * (I * I) * (n3 * C - q)) * 1
      + (4 * m * V * n3 * M - 4 * n3 * V * (m * m * ((m - i) * r + i * s))) - 4 * n3 * V * (m * m) * ((m - i) * (n' * n' * R - r) + i * (n' * n' * S - s)) := by
    rw [n1]
    have y1 : 4 * m * N = m * (V * (4 * ((V - I) * (V - I)) * a + 2 * ((V - I) * I) * b + 4 * (I * I) * q) + Z * t) := by rw [← g1]; grind
    have y2 : V * V * V = V * (n' * m * (n' * m)) := by rw [hV]; grind
    have y3 : 4 * (n3 * (V * V * V)) * (m * p - ((m - i) * R + i * S)) = 4 * m * (n3 * (V * V * V) * p) - 4 * n3 * (V * (n' * m * (n' * m))) * ((m - i) * R + i * S) := by rw [← y2]; grind
    rw [y3]
    clear c1 c2 n1 n2 g1 g2 hV hI
    grind
  have k2 : 4 * (n3 * (V * V * V)) * (m * p' - ((m - i) * R' + i * S')) = 4 * m * (n3 * (V * V * V) * p' - N') + m * (Z * t') - m * V * (4 * ((V - I) * (V - I)) * (n3 * A' - a') + 2 * ((V - I) * I) * (4 * n3 * B' - b') + 4 * (I * I) * (n3 * C' - q')) * 1
      + (4 * m * V * n3 * M' - 4 * n3 * V * (m * m * ((m - i) * r' + i * s'))) - 4 * n3 * V * (m * m) * ((m - i) * (n' * n' * R' - r') + i * (n' * n' * S' - s')) := by
    rw [n2]
    have y1 : 4 * m * N' = m * (V * (4 * ((V - I) * (V - I)) * a' + 2 * ((V - I) * I) * b' + 4 * (I * I) * q') + Z * t') := by rw [← g2]; grind
    have y2 : V * V * V = V * (n' * m * (n' * m)) := by rw [hV]; grind
    have y3 : 4 * (n3 * (V * V * V)) * (m * p' - ((m - i) * R' + i * S')) = 4 * m * (n3 * (V * V * V) * p') - 4 * n3 * (V * (n' * m * (n' * m))) * ((m - i) * R' + i * S') := by rw [← y2]; grind
    rw [y3]
    clear c1 c2 n1 n2 g1 g2 hV hI
    grind
  have k3 : 4 * m * V * n3 * M - 4 * n3 * V * (m * m * ((m - i) * r + i * s)) = -(4 * n3 * V * m * (i * (m - i) * e)) := by rw [c1]; grind
  have k4 : 4 * m * V * n3 * M' - 4 * n3 * V * (m * m * ((m - i) * r' + i * s')) = -(4 * n3 * V * m * (i * (m - i) * e')) := by rw [c2]; grind
  rw [k3] at k1
  rw [k4] at k2
  rw [Int.mul_one] at k1 k2
  rw [k1, k2]
  have hmV : 0 ≤ m * V := Int.mul_nonneg (by omega) (by omega)
  have hnV' : 0 ≤ 4 * n3 * V := Int.mul_nonneg (by omega) (by omega)
  have hc4 : 0 ≤ 4 * n3 * V * m := Int.mul_nonneg hnV' (by omega)
  have hc5 : 0 ≤ 4 * n3 * V * (m * m) := Int.mul_nonneg hnV' (Int.mul_nonneg (by omega) (by omega))
  have z1 := Int.le_trans (szI_mul (c := 4 * m) (by omega) (n3 * (V * V * V) * p - N) (n3 * (V * V * V) * p' - N')) (Int.mul_le_mul_of_nonneg_left r1 (by omega))
  have z2 := Int.le_trans (szI_mul (c := m) (by omega) (Z * t) (Z * t')) (Int.mul_le_mul_of_nonneg_left hW (by omega))
  have z3 := Int.le_trans (szI_mul hmV _ _) (Int.mul_le_mul_of_nonneg_left hR hmV)
  have z4 := Int.le_trans (szI_mul hc4 (i * (m - i) * e) (i * (m - i) * e')) (Int.mul_le_mul_of_nonneg_left hS hc4)
  have z5 := Int.le_trans (szI_mul hc5 _ _) (Int.mul_le_mul_of_nonneg_left hQ hc5)
  rw [← szI_neg (4 * n3 * V * m * (i * (m - i) * e))] at z4
  have z := Int.le_trans (szI_sub _ _ _ _) (Int.add_le_add (Int.le_trans (szI_add _ _ _ _) (Int.add_le_add (Int.le_trans (szI_sub _ _ _ _) (Int.add_le_add (Int.le_trans (szI_add _ _ _ _) (Int.add_le_add z1 z2)) z3)) z4)) z5)
  refine Int.le_trans z ?_
  have y2 : V * V * V = V * (n' * m * (n' * m)) := by rw [hV]; grind
  have s3 : m * V * (4 * n3 * (V * V)) = 4 * (m * (n3 * (V * V * V))) := by grind
  have s4 : 4 * n3 * V * m * (V * V) = 4 * (m * (n3 * (V * V * V))) := by grind
  have s5 : 4 * n3 * V * (m * m) * (m * (n' * n')) = 4 * (m * (n3 * (V * V * V))) := by rw [y2]; grind
  have s1 : 4 * m * (n3 * (V * V * V)) = 4 * (m * (n3 * (V * V * V))) := by grind
  have s2 : m * (4 * T * (n3 * (V * V * V))) = 4 * (T * (m * (n3 * (V * V * V)))) := by grind
  have s6 : 4 * (n3 * (V * V * V)) * (m * (T + 5)) = 4 * (T * (m * (n3 * (V * V * V)))) + 20 * (m * (n3 * (V * V * V))) := by grind
  have s7 : 0 ≤ m * (n3 * (V * V * V)) := Int.mul_nonneg (by omega) (Int.le_of_lt (Int.mul_pos hn3 hV3))
  omega
end Go.Proofs.Ytpmpbfkpiocleaa

