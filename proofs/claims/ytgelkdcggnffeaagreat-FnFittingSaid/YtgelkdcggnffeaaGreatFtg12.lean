/- A drawn loop. Conditions: as each states. -/
import Derived.Deep.RegionHeld3
import Derived.Test.YtgelkdcggnffeaaGreatFtg11
import Derived.Test.YtgelkdcggnffeaaGreatFtg07
import Derived.Test.YtgelkdcggnffeaaGreatFtg01
import Derived.Test.YtgelkdcggnffeaaGreatFtg03
namespace Go.Proofs.YtgelkdcggnffeaaGreat
open Go.RowKit
set_option linter.unusedVariables false
set_option maxRecDepth 100000

theorem own_grown {w w' : World} {lo e size n b : Nat} {v : Value} {xs : List Value} (h : w.ownsRow lo e size v n xs) (hg : w.grownBy w' (some b)) (hb : b < lo) : w'.ownsRow lo e size v n xs :=
  own_same h fun g hg' => hg.block g (h.lt g hg').2 (by intro e; injection e with e; have := (h.lt g hg').1; omega)

def headK : List Knot → List Knot
  | [] => []
  | q :: K => (q.1, q.2.1, true) :: K
theorem headK_len (K : List Knot) : (headK K).length = K.length := by cases K <;> rfl
theorem headK_cells {K : List Knot} (h : 1 ≤ K.length) : (K.flatMap knotC).set 2 (.bool true) = (headK K).flatMap knotC := by
  cases K with
  | nil => simp at h
  | cons q K => simp [headK, knotC]
theorem Src0.keepL {w w' : World} {b k : Nat} (h : Src0 w b k) (hs : ∀ g, g ≤ b → w'.heap[g]? = w.heap[g]?) : Src0 w' b k := by
  obtain ⟨A, n, c, lo, hi, seed, L, h1, h2, h3, h4⟩ := h
  exact ⟨A, n, c, lo, hi, seed, L, h1.keep (hs b (Nat.le_refl _)), h2.frame good_u8 (fun g _ hg => hs g (by omega)), h3, h4⟩

end Go.Proofs.YtgelkdcggnffeaaGreat

/- Whether a point is near a segment: the numbers alone. No program in sight. Conditions: as each states. -/
namespace Go.Proofs.YtgelkdcggnffeaaGreat
set_option linter.unusedVariables false
set_option maxRecDepth 100000

def sqI (ax ay bx b : Int) : Int := (bx - ax) * (bx - ax) + (b - ay) * (b - ay)
def dotI (ax ay bx b px py : Int) : Int := (px - ax) * (bx - ax) + (py - ay) * (b - ay)
def turnI (ax ay bx b px py : Int) : Int := (bx - ax) * (py - ay) - (b - ay) * (px - ax)
theorem sq_nonneg (x : Int) : 0 ≤ x * x := by
  rcases Int.le_total 0 x with h | h
  · exact Int.mul_nonneg h h
  · have := Int.mul_nonneg (show 0 ≤ -x by omega) (show 0 ≤ -x by omega)
    rw [Int.neg_mul_neg] at this; exact this
theorem sqI_nonneg (ax ay bx b : Int) : 0 ≤ sqI ax ay bx b := by
  have h1 := sq_nonneg (bx - ax)
  have h2 := sq_nonneg (b - ay)
  unfold sqI; omega
theorem near_ab (ax ay bx b px py : Int) : sqI bx b px py = sqI ax ay px py - 2 * dotI ax ay bx b px py + sqI ax ay bx b := by
  unfold sqI dotI; grind
theorem near_area (ax ay bx b px py : Int) : turnI ax ay bx b px py * turnI ax ay bx b px py = sqI ax ay px py * sqI ax ay bx b - dotI ax ay bx b px py * dotI ax ay bx b px py := by
  unfold sqI dotI turnI; grind
/-- near a segment -/
def nearB (ax ay bx b px py r : Int) : Bool := decide (sqI ax ay px py ≤ r * r) || decide (sqI bx b px py ≤ r * r) ||
  (decide (0 < dotI ax ay bx b px py) && decide (dotI ax ay bx b px py < sqI ax ay bx b) && decide (turnI ax ay bx b px py * turnI ax ay bx b px py ≤ r * r * sqI ax ay bx b))
theorem near_lo {ax ay bx b px py r : Int} (h : dotI ax ay bx b px py ≤ 0) : nearB ax ay bx b px py r = decide (sqI ax ay px py ≤ r * r) := by
  have h1 := near_ab ax ay bx b px py
  have h2 := sqI_nonneg ax ay bx b
  unfold nearB
  rw [Bool.eq_iff_iff]
  simp only [Bool.or_eq_true, Bool.and_eq_true, decide_eq_true_eq]
  omega
theorem near_hi {ax ay bx b px py r : Int} (h0 : 0 < dotI ax ay bx b px py) (h : sqI ax ay bx b ≤ dotI ax ay bx b px py) : nearB ax ay bx b px py r = decide (sqI bx b px py ≤ r * r) := by
  have h1 := near_ab ax ay bx b px py
  have h2 := sqI_nonneg ax ay bx b
  unfold nearB
  rw [Bool.eq_iff_iff]
  simp only [Bool.or_eq_true, Bool.and_eq_true, decide_eq_true_eq]
  omega
theorem near_mid {ax ay bx b px py r : Int} (h0 : 0 < dotI ax ay bx b px py) (h : dotI ax ay bx b px py < sqI ax ay bx b) :
    nearB ax ay bx b px py r = decide (turnI ax ay bx b px py * turnI ax ay bx b px py ≤ r * r * sqI ax ay bx b) := by
  have h1 := near_ab ax ay bx b px py
  have h2 := sqI_nonneg ax ay bx b
  have h3 := near_area ax ay bx b px py
  unfold nearB
  rw [Bool.eq_iff_iff]
  simp only [Bool.or_eq_true, Bool.and_eq_true, decide_eq_true_eq]
  constructor
  · rintro ((h4 | h4) | ⟨_, h4⟩)
    · have h5 := Int.mul_le_mul_of_nonneg_right h4 h2
      have h6 := sq_nonneg (dotI ax ay bx b px py)
      omega
    · have h5 := Int.mul_le_mul_of_nonneg_right h4 h2
      have h6 := sq_nonneg (sqI ax ay bx b - dotI ax ay bx b px py)
      rw [h1] at h5
      generalize dotI ax ay bx b px py = t at *
      generalize sqI ax ay bx b = L at *
      generalize sqI ax ay px py = S at *
      generalize turnI ax ay bx b px py = u at *
      have e1 : (S - 2 * t + L) * L = S * L - 2 * (t * L) + L * L := by grind
      have e2 : (L - t) * (L - t) = L * L - 2 * (t * L) + t * t := by grind
      omega
    · exact h4
  · intro h4; exact .inr ⟨⟨h0, h⟩, h4⟩
/-- a path is near a point -/
def nearP (L : List (Int × Int)) (px py r : Int) : Bool := match L with
  | [] => false
  | [a] => nearB a.1 a.2 a.1 a.2 px py r
  | a :: b :: L => nearB a.1 a.2 b.1 b.2 px py r || (match L with | [] => false | _ => nearP (b :: L) px py r)
/-- so far no segment is near -/
def farTo (L : List (Int × Int)) (px py r : Int) (k : Nat) : Prop := ∀ (i : Nat) (a b : Int × Int), i < k → L[i]? = some a → L[i + 1]? = some b → nearB a.1 a.2 b.1 b.2 px py r = false
theorem nearP_cons2 (a b : Int × Int) (L : List (Int × Int)) (px py r : Int) (hL : L ≠ []) : nearP (a :: b :: L) px py r = (nearB a.1 a.2 b.1 b.2 px py r || nearP (b :: L) px py r) := by
  cases L with
  | nil => exact absurd rfl hL
  | cons c L => simp [nearP]
theorem nearP_pair (a b : Int × Int) (px py r : Int) : nearP [a, b] px py r = nearB a.1 a.2 b.1 b.2 px py r := by simp [nearP]
theorem nearP_yes {px py r : Int} : ∀ {L : List (Int × Int)} {i : Nat} {a b : Int × Int}, L[i]? = some a → L[i + 1]? = some b → nearB a.1 a.2 b.1 b.2 px py r = true → nearP L px py r = true := by
  intro L
  induction L with
  | nil => intro i a b h; simp at h
  | cons c L ih =>
    intro i a b h1 h2 h3
    cases L with
    | nil => simp at h2
    | cons d L =>
      cases i with
      | zero =>
        simp at h1 h2
        subst h1 h2
        cases L <;> simp [nearP, h3]
      | succ i =>
        have hne : L ≠ [] := by rintro rfl; simp at h2
        rw [nearP_cons2 _ _ _ _ _ _ hne, ih (i := i) (by simpa using h1) (by simpa using h2) h3, Bool.or_true]
theorem nearP_no {px py r : Int} : ∀ {L : List (Int × Int)}, 2 ≤ L.length → farTo L px py r (L.length - 1) → nearP L px py r = false := by
  intro L
  induction L with
  | nil => intro h; simp at h
  | cons c L ih =>
    intro hl h
    cases L with
    | nil => simp at hl
    | cons d L =>
      have h0 := h 0 c d (by simp) rfl rfl
      cases L with
      | nil => rw [nearP_pair, h0]
      | cons e L =>
        rw [nearP_cons2 _ _ _ _ _ _ (by simp), h0, ih (by simp) fun i a b hi h1 h2 => h (i + 1) a b (by simp at hi ⊢; omega) (by simpa using h1) (by simpa using h2)]
        rfl
/-! ### a product in two words of 62 bits -/
def wideX (a b : Int) : Int := (a % 2147483648) * (b % 2147483648)
def wideY (a b : Int) : Int := (a / 2147483648) * (b % 2147483648) + (a % 2147483648) * (b / 2147483648) + wideX a b / 2147483648
def wideH (a b : Int) : Int := (a / 2147483648) * (b / 2147483648) + wideY a b / 2147483648
def wideL (a b : Int) : Int := (wideY a b % 2147483648) * 2147483648 + wideX a b % 2147483648
theorem wide_eq (a b : Int) : a * b = wideH a b * 4611686018427387904 + wideL a b := by
  have h1 := Int.emod_add_mul_ediv a 2147483648
  have h2 := Int.emod_add_mul_ediv b 2147483648
  have h3 := Int.emod_add_mul_ediv (wideX a b) 2147483648
  have h4 := Int.emod_add_mul_ediv (wideY a b) 2147483648
  have hy : wideY a b = (a / 2147483648) * (b % 2147483648) + (a % 2147483648) * (b / 2147483648) + wideX a b / 2147483648 := rfl
  have hx : wideX a b = (a % 2147483648) * (b % 2147483648) := rfl
  unfold wideH wideL
  generalize wideY a b % 2147483648 = y0 at *
  generalize wideY a b / 2147483648 = y1 at *
  generalize wideY a b = y at *
  generalize wideX a b % 2147483648 = x0 at *
  generalize wideX a b / 2147483648 = x1 at *
  generalize wideX a b = x at *
  generalize a % 2147483648 = a0 at *
  generalize a / 2147483648 = a1 at *
  generalize b % 2147483648 = b0 at *
  generalize b / 2147483648 = b1 at *
  subst h1 h2
  have e : (a0 + 2147483648 * a1) * (b0 + 2147483648 * b1) = a0 * b0 + 2147483648 * (a1 * b0 + a0 * b1) + 4611686018427387904 * (a1 * b1) := by grind
  rw [e, ← hx]
  omega
theorem wideL_bd (a b : Int) : 0 ≤ wideL a b ∧ wideL a b < 4611686018427387904 := by
  unfold wideL; omega
theorem wide_le (a b c d : Int) : (decide (wideH a b < wideH c d) || (decide (wideH a b = wideH c d) && decide (wideL a b ≤ wideL c d))) = decide (a * b ≤ c * d) := by
  have h1 := wide_eq a b
  have h2 := wide_eq c d
  have h3 := wideL_bd a b
  have h4 := wideL_bd c d
  rw [Bool.eq_iff_iff]
  simp only [Bool.or_eq_true, Bool.and_eq_true, decide_eq_true_eq]
  omega
theorem prod_bd {x y A B : Int} (h1 : -A ≤ x) (h2 : x ≤ A) (h3 : -B ≤ y) (h4 : y ≤ B) : -(A * B) ≤ x * y ∧ x * y ≤ A * B := by
  have hA : 0 ≤ A := by omega
  have hB : 0 ≤ B := by omega
  have e1 : 0 ≤ (A - x) * (B + y) := Int.mul_nonneg (by omega) (by omega)
  have e2 : 0 ≤ (A + x) * (B - y) := Int.mul_nonneg (by omega) (by omega)
  have e3 : 0 ≤ (A - x) * (B - y) := Int.mul_nonneg (by omega) (by omega)
  have e4 : 0 ≤ (A + x) * (B + y) := Int.mul_nonneg (by omega) (by omega)
  have f1 : (A - x) * (B + y) = A * B + A * y - x * B - x * y := by grind
  have f2 : (A + x) * (B - y) = A * B - A * y + x * B - x * y := by grind
  have f3 : (A - x) * (B - y) = A * B - A * y - x * B + x * y := by grind
  have f4 : (A + x) * (B + y) = A * B + A * y + x * B + x * y := by grind
  omega
/-- the product of two numbers of 64 bits, as two words -/
theorem mul64_le (a b c d : Int) : (decide (a * b / 18446744073709551616 < c * d / 18446744073709551616) || (decide (a * b / 18446744073709551616 = c * d / 18446744073709551616) && decide (a * b % 18446744073709551616 ≤ c * d % 18446744073709551616))) = decide (a * b ≤ c * d) := by
  rw [Bool.eq_iff_iff]
  simp only [Bool.or_eq_true, Bool.and_eq_true, decide_eq_true_eq]
  generalize a * b = x
  generalize c * d = y
  omega
end Go.Proofs.YtgelkdcggnffeaaGreat

/- A state of the hint machine in its box: thirteen cells. Conditions: none. -/
namespace Go.Proofs.YtgelkdcggnffeaaGreat
open Go.RowKit
set_option linter.unusedVariables false
set_option maxRecDepth 100000


def BoxH (w : World) (x : Nat) (d : HinterD) (h : HinterH) : Prop := w.cell? ⟨x, 0, none⟩ = some (.int .i64 d.size) ∧ w.cell? ⟨x, 1, none⟩ = some (.slice h.orig.A h.orig.n h.orig.c) ∧ w.cell? ⟨x, 2, none⟩ = some (.slice h.now.A h.now.n h.now.c) ∧ w.cell? ⟨x, 3, none⟩ = some (.slice h.tx.A h.tx.n h.tx.c) ∧ w.cell? ⟨x, 4, none⟩ = some (.slice h.ty.A h.ty.n h.ty.c) ∧ w.cell? ⟨x, 5, none⟩ = some (.slice h.ends.A h.ends.n h.ends.c) ∧ w.cell? ⟨x, 6, none⟩ = some (.slice h.values.A h.values.n h.values.c) ∧ w.cell? ⟨x, 7, none⟩ = some (.slice h.stack.A h.stack.n h.stack.c) ∧ w.cell? ⟨x, 8, none⟩ = some (.bool d.axisY) ∧ w.cell? ⟨x, 9, none⟩ = some (.int .i64 d.ref) ∧ w.cell? ⟨x, 10, none⟩ = some (.int .i64 d.state) ∧ w.cell? ⟨x, 11, none⟩ = some (.int .i64 d.cut) ∧ w.cell? ⟨x, 12, none⟩ = some (.int .i64 d.least)
def BoxesH (w : World) (x y : Nat) (d : HinterD) (h : HinterH) (d' : HinterD) (h' : HinterH) : Prop := w.cell? ⟨x, 0, none⟩ = some (.int .i64 d.size) ∧ w.cell? ⟨x, 1, none⟩ = some (.slice h.orig.A h.orig.n h.orig.c) ∧ w.cell? ⟨x, 2, none⟩ = some (.slice h.now.A h.now.n h.now.c) ∧ w.cell? ⟨x, 3, none⟩ = some (.slice h.tx.A h.tx.n h.tx.c) ∧ w.cell? ⟨x, 4, none⟩ = some (.slice h.ty.A h.ty.n h.ty.c) ∧ w.cell? ⟨x, 5, none⟩ = some (.slice h.ends.A h.ends.n h.ends.c) ∧ w.cell? ⟨x, 6, none⟩ = some (.slice h.values.A h.values.n h.values.c) ∧ w.cell? ⟨x, 7, none⟩ = some (.slice h.stack.A h.stack.n h.stack.c) ∧ w.cell? ⟨x, 8, none⟩ = some (.bool d.axisY) ∧ w.cell? ⟨x, 9, none⟩ = some (.int .i64 d.ref) ∧ w.cell? ⟨x, 10, none⟩ = some (.int .i64 d.state) ∧ w.cell? ⟨x, 11, none⟩ = some (.int .i64 d.cut) ∧ w.cell? ⟨x, 12, none⟩ = some (.int .i64 d.least) ∧ w.cell? ⟨y, 0, none⟩ = some (.int .i64 d'.size) ∧ w.cell? ⟨y, 1, none⟩ = some (.slice h'.orig.A h'.orig.n h'.orig.c) ∧ w.cell? ⟨y, 2, none⟩ = some (.slice h'.now.A h'.now.n h'.now.c) ∧ w.cell? ⟨y, 3, none⟩ = some (.slice h'.tx.A h'.tx.n h'.tx.c) ∧ w.cell? ⟨y, 4, none⟩ = some (.slice h'.ty.A h'.ty.n h'.ty.c) ∧ w.cell? ⟨y, 5, none⟩ = some (.slice h'.ends.A h'.ends.n h'.ends.c) ∧ w.cell? ⟨y, 6, none⟩ = some (.slice h'.values.A h'.values.n h'.values.c) ∧ w.cell? ⟨y, 7, none⟩ = some (.slice h'.stack.A h'.stack.n h'.stack.c) ∧ w.cell? ⟨y, 8, none⟩ = some (.bool d'.axisY) ∧ w.cell? ⟨y, 9, none⟩ = some (.int .i64 d'.ref) ∧ w.cell? ⟨y, 10, none⟩ = some (.int .i64 d'.state) ∧ w.cell? ⟨y, 11, none⟩ = some (.int .i64 d'.cut) ∧ w.cell? ⟨y, 12, none⟩ = some (.int .i64 d'.least)
theorem BoxH.below {w w' : World} {x B : Nat} {d : HinterD} {h : HinterH} (s : BoxH w x d h) (hb : Below B w w') (hB : x + 1 ≤ B) : BoxH w' x d h := by
  obtain ⟨s0, s1, s2, s3, s4, s5, s6, s7, s8, s9, s10, s11, s12⟩ := s
  exact ⟨(hb.cell (p := ⟨x, 0, none⟩) (by show _ < B; simp; omega)).trans s0, (hb.cell (p := ⟨x, 1, none⟩) (by show _ < B; simp; omega)).trans s1, (hb.cell (p := ⟨x, 2, none⟩) (by show _ < B; simp; omega)).trans s2, (hb.cell (p := ⟨x, 3, none⟩) (by show _ < B; simp; omega)).trans s3, (hb.cell (p := ⟨x, 4, none⟩) (by show _ < B; simp; omega)).trans s4, (hb.cell (p := ⟨x, 5, none⟩) (by show _ < B; simp; omega)).trans s5, (hb.cell (p := ⟨x, 6, none⟩) (by show _ < B; simp; omega)).trans s6, (hb.cell (p := ⟨x, 7, none⟩) (by show _ < B; simp; omega)).trans s7, (hb.cell (p := ⟨x, 8, none⟩) (by show _ < B; simp; omega)).trans s8, (hb.cell (p := ⟨x, 9, none⟩) (by show _ < B; simp; omega)).trans s9, (hb.cell (p := ⟨x, 10, none⟩) (by show _ < B; simp; omega)).trans s10, (hb.cell (p := ⟨x, 11, none⟩) (by show _ < B; simp; omega)).trans s11, (hb.cell (p := ⟨x, 12, none⟩) (by show _ < B; simp; omega)).trans s12⟩
theorem BoxH.drew {w : World} {x : Nat} {d : HinterD} {h : HinterH} (s : BoxH w x d h) : BoxH w.drew x d h := s
theorem BoxH.alloc {w : World} {x : Nat} {d : HinterD} {h : HinterH} (s : BoxH w x d h) (hx : x < w.heap.size) (o : Obj) : BoxH (w.alloc o) x d h :=
  s.below (Go.Joins.below_alloc1 w o) hx
theorem BoxH.two {w : World} {x y : Nat} {d : HinterD} {h : HinterH} {d' : HinterD} {h' : HinterH} (s : BoxH w x d h) (t : BoxH w y d' h') : BoxesH w x y d h d' h' := by
  obtain ⟨s0, s1, s2, s3, s4, s5, s6, s7, s8, s9, s10, s11, s12⟩ := s
  obtain ⟨t0, t1, t2, t3, t4, t5, t6, t7, t8, t9, t10, t11, t12⟩ := t
  exact ⟨s0, s1, s2, s3, s4, s5, s6, s7, s8, s9, s10, s11, s12, t0, t1, t2, t3, t4, t5, t6, t7, t8, t9, t10, t11, t12⟩
end Go.Proofs.YtgelkdcggnffeaaGreat

