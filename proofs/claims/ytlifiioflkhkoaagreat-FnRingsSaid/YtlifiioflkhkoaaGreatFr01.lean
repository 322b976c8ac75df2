/- The closed facts of the row of FnRings. Conditions: none. -/
import Derived.ProofKit
import Derived.WalkKit
import Derived.WalkSpells
import Derived.WalkLawsBesides
import Derived.Lib.Hide
import Derived.Maps.AppendAt
import Derived.Deep.AppendLies
import Derived.Deep.Draws
import Derived.OwnWalk
import Derived.RegionTactic
import Derived.Test.YtlifiioflkhkoaaGreatRows
import Derived.Test.YtlifiioflkhkoaaGreatEnter
namespace Go.Proofs.YtlifiioflkhkoaaGreat.fnRings
open Go.RowKit
set_option linter.unusedVariables false
set_option maxRecDepth 100000
set_option maxHeartbeats 4000000 in
theorem closedF : joinedFacts Tryz.prog 3 Tryz.f3 Rows.fnRingsSpec Rows.fnRingsRow = true := by
  simp only [joinedFacts, Bool.and_eq_true]
  repeat' (refine And.intro ?_ ?_)
  all_goals (try (with_reducible exact mayEnter_yes))
  all_goals (try (rw [liftsFinal_no]; done))
  all_goals (try (as_aux_lemma => kernel_rfl))
end Go.Proofs.YtlifiioflkhkoaaGreat.fnRings

/- Plain facts and words: no program in sight. Conditions: none. -/
namespace Go.Proofs.YtlifiioflkhkoaaGreat
open Go.RowKit
set_option linter.unusedVariables false
set_option maxRecDepth 100000

/-- a number lies in a range -/
def inB (n a b : Int) : Bool := decide (a ≤ n) && decide (n ≤ b)
theorem inB_iff {n a b : Int} : inB n a b = true ↔ a ≤ n ∧ n ≤ b := by simp [inB]
theorem inB_false {n a b : Int} : inB n a b = false ↔ n < a ∨ b < n := by
  simp only [inB, Bool.and_eq_false_iff, decide_eq_false_iff_not]; omega

/-- the integer nearest to a quotient, halves up -/
def rnd (n d : Int) : Int := (2 * n + d) / (2 * d)

theorem ret_int {k : IntKind} {a b : Int} (h : a = b) : Ending.returned (.int k a) = .returned (.int k b) := by rw [h]
theorem ret_bool {a b : Bool} (h : a = b) : Ending.returned (.bool a) = .returned (.bool b) := by rw [h]
theorem rnd_up {n d : Int} (hd : 0 < d) (h : d - n % d ≤ n % d) : n / d + 1 = rnd n d := by
  unfold rnd
  have h1 := Int.emod_add_mul_ediv n d
  have h2 := Int.emod_lt_of_pos n hd
  have h0 := Int.emod_nonneg n (Int.ne_of_gt hd)
  generalize n / d = q at *
  generalize n % d = r at *
  have : 2 * n + d = (2 * r - d) + (q + 1) * (2 * d) := by rw [← h1]; grind
  rw [this, Int.add_mul_ediv_right _ _ (by omega), Int.ediv_eq_zero_of_lt (by omega) (by omega)]; omega
theorem rnd_down {n d : Int} (hd : 0 < d) (h : n % d < d - n % d) : n / d = rnd n d := by
  unfold rnd
  have h1 := Int.emod_add_mul_ediv n d
  have h2 := Int.emod_lt_of_pos n hd
  have h0 := Int.emod_nonneg n (Int.ne_of_gt hd)
  generalize n / d = q at *
  generalize n % d = r at *
  have : 2 * n + d = (2 * r + d) + q * (2 * d) := by rw [← h1]; grind
  rw [this, Int.add_mul_ediv_right _ _ (by omega), Int.ediv_eq_zero_of_lt (by omega) (by omega)]; omega
theorem tmod_lt0 {n d : Int} (hd : 0 < d) (h : n.tmod d < 0) : n.tmod d + d = n % d ∧ n.tdiv d - 1 = n / d := by
  rw [Int.tdiv_eq_ediv, Int.tmod_eq_emod] at *
  split at h
  · have := Int.emod_nonneg n (Int.ne_of_gt hd); omega
  · rename_i hc
    rw [if_neg hc, if_neg hc]
    rw [Int.sign_eq_one_of_pos hd] at *
    have : (d.natAbs : Int) = d := by omega
    rw [this]; omega
theorem tmod_ge0 {n d : Int} (hd : 0 < d) (h : 0 ≤ n.tmod d) : n.tmod d = n % d ∧ n.tdiv d = n / d := by
  rw [Int.tdiv_eq_ediv, Int.tmod_eq_emod] at *
  split at h
  · rename_i hc; rw [if_pos hc, if_pos hc]; simp
  · rename_i hc
    have h2 := Int.emod_lt_of_pos n hd
    have : (d.natAbs : Int) = d := by omega
    omega
theorem tdiv_bd {n d : Int} {B : Int} (hd : 0 < d) (h1 : -B ≤ n) (h2 : n ≤ B) : -B ≤ n.tdiv d ∧ n.tdiv d ≤ B := by
  rcases Int.lt_or_le (n.tmod d) 0 with h | h
  · have ⟨_, e2⟩ := tmod_lt0 hd h
    have h3 : -B ≤ n / d := by
      rw [Int.le_ediv_iff_mul_le hd]
      rcases Int.lt_or_le B 0 with hB | hB
      · omega
      · have : B * 1 ≤ B * d := Int.mul_le_mul_of_nonneg_left (by omega) hB
        rw [Int.neg_mul]; omega
    have h4 : n / d < 0 := by
      rw [Int.ediv_lt_iff_lt_mul hd]
      have : n.tmod d ≤ 0 := by omega
      rcases Int.lt_or_le n 0 with hn | hn
      · omega
      · have := Int.tmod_nonneg d hn; omega
    have : -B ≤ 0 := by
      have : n < 0 := by
        rcases Int.lt_or_le n 0 with hn | hn
        · exact hn
        · have := Int.tmod_nonneg d hn; omega
      omega
    omega
  · have ⟨_, e2⟩ := tmod_ge0 hd h
    rw [e2]
    have hB : 0 ≤ B := by omega
    have hm : B * 1 ≤ B * d := Int.mul_le_mul_of_nonneg_left (by omega) hB
    constructor
    · rw [Int.le_ediv_iff_mul_le hd, Int.neg_mul]; omega
    · have := (Int.ediv_lt_iff_lt_mul (a := n) (b := B + 1) hd).2 (by rw [Int.add_mul]; omega)
      omega
end Go.Proofs.YtlifiioflkhkoaaGreat

/- Whether a point is near a segment: the numbers alone. No program in sight. Conditions: as each states. -/
namespace Go.Proofs.YtlifiioflkhkoaaGreat
set_option linter.unusedVariables false
set_option maxRecDepth 100000

def sqI (ax ay bx b : Int) : Int := (bx - ax) * (bx - ax) + (b - ay) * (b - ay)
def dotI (ax ay bx b px py : Int) : Int := (px - ax) * (bx - ax) + (py - ay) * (b - ay)
def turnI (ax ay bx b px py : Int) : Int := (bx - ax) * (py - ay) - (b - ay) * (px - ax)
theorem sq_nonneg (x : Int) : 0 ≤ x * x := by
  rcases Int.le_total 0 x with h | h
  · exact Int.mul_nonneg h h
  · have := Int.mul_nonneg (show 0 ≤ -x by omega) (show 0 ≤ -x by omega)
    rw [Int.neg_mul_neg] at this; exact this
theorem sqI_nonneg (ax ay bx b : Int) : 0 ≤ sqI ax ay bx b := by
  have h1 := sq_nonneg (bx - ax)
  have h2 := sq_nonneg (b - ay)
  unfold sqI; omega
theorem near_ab (ax ay bx b px py : Int) : sqI bx b px py = sqI ax ay px py - 2 * dotI ax ay bx b px py + sqI ax ay bx b := by
  unfold sqI dotI; grind
theorem near_area (ax ay bx b px py : Int) : turnI ax ay bx b px py * turnI ax ay bx b px py = sqI ax ay px py * sqI ax ay bx b - dotI ax ay bx b px py * dotI ax ay bx b px py := by
  unfold sqI dotI turnI; grind
/-- near a segment -/
def nearB (ax ay bx b px py r : Int) : Bool := decide (sqI ax ay px py ≤ r * r) || decide (sqI bx b px py ≤ r * r) ||
  (decide (0 < dotI ax ay bx b px py) && decide (dotI ax ay bx b px py < sqI ax ay bx b) && decide (turnI ax ay bx b px py * turnI ax ay bx b px py ≤ r * r * sqI ax ay bx b))
theorem near_lo {ax ay bx b px py r : Int} (h : dotI ax ay bx b px py ≤ 0) : nearB ax ay bx b px py r = decide (sqI ax ay px py ≤ r * r) := by
  have h1 := near_ab ax ay bx b px py
  have h2 := sqI_nonneg ax ay bx b
  unfold nearB
  rw [Bool.eq_iff_iff]
  simp only [Bool.or_eq_true, Bool.and_eq_true, decide_eq_true_eq]
  omega
theorem near_hi {ax ay bx b px py r : Int} (h0 : 0 < dotI ax ay bx b px py) (h : sqI ax ay bx b ≤ dotI ax ay bx b px py) : nearB ax ay bx b px py r = decide (sqI bx b px py ≤ r * r) := by
  have h1 := near_ab ax ay bx b px py
  have h2 := sqI_nonneg ax ay bx b
  unfold nearB
  rw [Bool.eq_iff_iff]
  simp only [Bool.or_eq_true, Bool.and_eq_true, decide_eq_true_eq]
  omega
theorem near_mid {ax ay bx b px py r : Int} (h0 : 0 < dotI ax ay bx b px py) (h : dotI ax ay bx b px py < sqI ax ay bx b) :
    nearB ax ay bx b px py r = decide (turnI ax ay bx b px py * turnI ax ay bx b px py ≤ r * r * sqI ax ay bx b) := by
  have h1 := near_ab ax ay bx b px py
  have h2 := sqI_nonneg ax ay bx b
  have h3 := near_area ax ay bx b px py
  unfold nearB
  rw [Bool.eq_iff_iff]
  simp only [Bool.or_eq_true, Bool.and_eq_true, decide_eq_true_eq]
  constructor
  · rintro ((h4 | h4) | ⟨_, h4⟩)
    · have h5 := Int.mul_le_mul_of_nonneg_right h4 h2
      have h6 := sq_nonneg (dotI ax ay bx b px py)
      omega
    · have h5 := Int.mul_le_mul_of_nonneg_right h4 h2
      have h6 := sq_nonneg (sqI ax ay bx b - dotI ax ay bx b px py)
      rw [h1] at h5
      generalize dotI ax ay bx b px py = t at *
      generalize sqI ax ay bx b = L at *
      generalize sqI ax ay px py = S at *
      generalize turnI ax ay bx b px py = u at *
      have e1 : (S - 2 * t + L) * L = S * L - 2 * (t * L) + L * L := by grind
      have e2 : (L - t) * (L - t) = L * L - 2 * (t * L) + t * t := by grind
      omega
    · exact h4
  · intro h4; exact .inr ⟨⟨h0, h⟩, h4⟩
/-- a path is near a point -/
def nearP (L : List (Int × Int)) (px py r : Int) : Bool := match L with
  | [] => false
  | [a] => nearB a.1 a.2 a.1 a.2 px py r
  | a :: b :: L => nearB a.1 a.2 b.1 b.2 px py r || (match L with | [] => false | _ => nearP (b :: L) px py r)
/-- so far no segment is near -/
def farTo (L : List (Int × Int)) (px py r : Int) (k : Nat) : Prop := ∀ (i : Nat) (a b : Int × Int), i < k → L[i]? = some a → L[i + 1]? = some b → nearB a.1 a.2 b.1 b.2 px py r = false
theorem nearP_cons2 (a b : Int × Int) (L : List (Int × Int)) (px py r : Int) (hL : L ≠ []) : nearP (a :: b :: L) px py r = (nearB a.1 a.2 b.1 b.2 px py r || nearP (b :: L) px py r) := by
  cases L with
  | nil => exact absurd rfl hL
  | cons c L => simp [nearP]
theorem nearP_pair (a b : Int × Int) (px py r : Int) : nearP [a, b] px py r = nearB a.1 a.2 b.1 b.2 px py r := by simp [nearP]
theorem nearP_yes {px py r : Int} : ∀ {L : List (Int × Int)} {i : Nat} {a b : Int × Int}, L[i]? = some a → L[i + 1]? = some b → nearB a.1 a.2 b.1 b.2 px py r = true → nearP L px py r = true := by
  intro L
  induction L with
  | nil => intro i a b h; simp at h
  | cons c L ih =>
    intro i a b h1 h2 h3
    cases L with
    | nil => simp at h2
    | cons d L =>
      cases i with
      | zero =>
        simp at h1 h2
        subst h1 h2
        cases L <;> simp [nearP, h3]
      | succ i =>
        have hne : L ≠ [] := by rintro rfl; simp at h2
        rw [nearP_cons2 _ _ _ _ _ _ hne, ih (i := i) (by simpa using h1) (by simpa using h2) h3, Bool.or_true]
theorem nearP_no {px py r : Int} : ∀ {L : List (Int × Int)}, 2 ≤ L.length → farTo L px py r (L.length - 1) → nearP L px py r = false := by
  intro L
  induction L with
  | nil => intro h; simp at h
  | cons c L ih =>
    intro hl h
    cases L with
    | nil => simp at hl
    | cons d L =>
      have h0 := h 0 c d (by simp) rfl rfl
      cases L with
      | nil => rw [nearP_pair, h0]
      | cons e L =>
        rw [nearP_cons2 _ _ _ _ _ _ (by simp), h0, ih (by simp) fun i a b hi h1 h2 => h (i + 1) a b (by simp at hi ⊢; omega) (by simpa using h1) (by simpa using h2)]
        rfl
/-! ### a product in two words of 62 bits -/
def wideX (a b : Int) : Int := (a % 2147483648) * (b % 2147483648)
def wideY (a b : Int) : Int := (a / 2147483648) * (b % 2147483648) + (a % 2147483648) * (b / 2147483648) + wideX a b / 2147483648
def wideH (a b : Int) : Int := (a / 2147483648) * (b / 2147483648) + wideY a b / 2147483648
def wideL (a b : Int) : Int := (wideY a b % 2147483648) * 2147483648 + wideX a b % 2147483648
theorem wide_eq (a b : Int) : a * b = wideH a b * 4611686018427387904 + wideL a b := by
  have h1 := Int.emod_add_mul_ediv a 2147483648
  have h2 := Int.emod_add_mul_ediv b 2147483648
  have h3 := Int.emod_add_mul_ediv (wideX a b) 2147483648
  have h4 := Int.emod_add_mul_ediv (wideY a b) 2147483648
  have hy : wideY a b = (a / 2147483648) * (b % 2147483648) + (a % 2147483648) * (b / 2147483648) + wideX a b / 2147483648 := rfl
  have hx : wideX a b = (a % 2147483648) * (b % 2147483648) := rfl
  unfold wideH wideL
  generalize wideY a b % 2147483648 = y0 at *
  generalize wideY a b / 2147483648 = y1 at *
  generalize wideY a b = y at *
  generalize wideX a b % 2147483648 = x0 at *
  generalize wideX a b / 2147483648 = x1 at *
  generalize wideX a b = x at *
  generalize a % 2147483648 = a0 at *
  generalize a / 2147483648 = a1 at *
  generalize b % 2147483648 = b0 at *
  generalize b / 2147483648 = b1 at *
  subst h1 h2
  have e : (a0 + 2147483648 * a1) * (b0 + 2147483648 * b1) = a0 * b0 + 2147483648 * (a1 * b0 + a0 * b1) + 4611686018427387904 * (a1 * b1) := by grind
  rw [e, ← hx]
  omega
theorem wideL_bd (a b : Int) : 0 ≤ wideL a b ∧ wideL a b < 4611686018427387904 := by
  unfold wideL; omega
theorem wide_le (a b c d : Int) : (decide (wideH a b < wideH c d) || (decide (wideH a b = wideH c d) && decide (wideL a b ≤ wideL c d))) = decide (a * b ≤ c * d) := by
  have h1 := wide_eq a b
  have h2 := wide_eq c d
  have h3 := wideL_bd a b
  have h4 := wideL_bd c d
  rw [Bool.eq_iff_iff]
  simp only [Bool.or_eq_true, Bool.and_eq_true, decide_eq_true_eq]
  omega
theorem prod_bd {x y A B : Int} (h1 : -A ≤ x) (h2 : x ≤ A) (h3 : -B ≤ y) (h4 : y ≤ B) : -(A * B) ≤ x * y ∧ x * y ≤ A * B := by
  have hA : 0 ≤ A := by omega
  have hB : 0 ≤ B := by omega
  have e1 : 0 ≤ (A - x) * (B + y) := Int.mul_nonneg (by omega) (by omega)
  have e2 : 0 ≤ (A + x) * (B - y) := Int.mul_nonneg (by omega) (by omega)
  have e3 : 0 ≤ (A - x) * (B - y) := Int.mul_nonneg (by omega) (by omega)
  have e4 : 0 ≤ (A + x) * (B + y) := Int.mul_nonneg (by omega) (by omega)
  have f1 : (A - x) * (B + y) = A * B + A * y - x * B - x * y := by grind
  have f2 : (A + x) * (B - y) = A * B - A * y + x * B - x * y := by grind
  have f3 : (A - x) * (B - y) = A * B - A * y - x * B + x * y := by grind
  have f4 : (A + x) * (B + y) = A * B + A * y + x * B + x * y := by grind
  omega
/-- the product of two numbers of 64 bits, as two words -/
theorem mul64_le (a b c d : Int) : (decide (a * b / 18446744073709551616 < c * d / 18446744073709551616) || (decide (a * b / 18446744073709551616 = c * d / 18446744073709551616) && decide (a * b % 18446744073709551616 ≤ c * d % 18446744073709551616))) = decide (a * b ≤ c * d) := by
  rw [Bool.eq_iff_iff]
  simp only [Bool.or_eq_true, Bool.and_eq_true, decide_eq_true_eq]
  generalize a * b = x
  generalize c * d = y
  omega
end Go.Proofs.YtlifiioflkhkoaaGreat

/- Hulls of points, plainly: sorted without twins, chains, the hull. No program in sight. Conditions: none. -/
namespace Go.Proofs.YtlifiioflkhkoaaGreat
open Go.RowKit
set_option linter.unusedVariables false
set_option maxRecDepth 100000

abbrev Pn := Int × Int
/-- before, by Y and then by X -/
def befB (a b : Pn) : Bool := decide (a.2 < b.2) || (decide (a.2 = b.2) && decide (a.1 < b.1))
theorem bef_iff {a b : Pn} : befB a b = true ↔ a.2 < b.2 ∨ a.2 = b.2 ∧ a.1 < b.1 := by
  unfold befB; simp
theorem bef_asymm {a b : Pn} (h : befB a b = true) : befB b a = false := by
  cases h' : befB b a
  · rfl
  · rw [bef_iff] at h h'; omega
theorem bef_irr (a : Pn) : befB a a = false := by
  cases h' : befB a a
  · rfl
  · rw [bef_iff] at h'; omega
theorem bef_trans {a b c : Pn} (h : befB a b = true) (h' : befB b c = true) : befB a c = true := by
  rw [bef_iff] at *; omega
theorem bef_tri (a b : Pn) : befB a b = true ∨ a = b ∨ befB b a = true := by
  rw [bef_iff, bef_iff]
  rcases Int.lt_trichotomy a.2 b.2 with h | h | h
  · exact .inl (.inl h)
  · rcases Int.lt_trichotomy a.1 b.1 with h' | h' | h'
    · exact .inl (.inr ⟨h, h'⟩)
    · exact .inr (.inl (Prod.ext h' h))
    · exact .inr (.inr (.inr ⟨h.symm, h'⟩))
  · exact .inr (.inr (.inl h))
/-- strictly rising -/
abbrev Ris (L : List Pn) : Prop := L.Pairwise fun a b => befB a b = true
/-- two rising lists with the same members are one -/
theorem ris_eq : ∀ {L M : List Pn}, Ris L → Ris M → (∀ x, x ∈ L ↔ x ∈ M) → L = M
  | [], [], _, _, _ => rfl
  | [], b :: M, _, _, h => by have := (h b).2 (by simp); simp at this
  | a :: L, [], _, _, h => by have := (h a).1 (by simp); simp at this
  | a :: L, b :: M, hl, hm, h => by
    have hl1 := List.pairwise_cons.1 hl
    have hm1 := List.pairwise_cons.1 hm
    have hab : a = b := by
      rcases List.mem_cons.1 ((h a).1 (by simp)) with e | e
      · exact e
      · rcases List.mem_cons.1 ((h b).2 (by simp)) with e' | e'
        · exact e'.symm
        · have h1 := hm1.1 a e
          have h2 := hl1.1 b e'
          rw [bef_asymm h1] at h2; cases h2
    subst hab
    congr 1
    refine ris_eq hl1.2 hm1.2 fun x => ⟨fun hx => ?_, fun hx => ?_⟩
    · rcases List.mem_cons.1 ((h x).1 (by simp [hx])) with e | e
      · subst e; have := hl1.1 x hx; rw [bef_irr] at this; cases this
      · exact e
    · rcases List.mem_cons.1 ((h x).2 (by simp [hx])) with e | e
      · subst e; have := hm1.1 x hx; rw [bef_irr] at this; cases this
      · exact e
/-- where a point goes: behind all that are not behind it -/
def posP (p : Pn) (S : List Pn) : Nat → Nat
  | 0 => 0
  | k + 1 => if befB p (S.getD k (0, 0)) then posP p S k else k + 1
theorem pos_le (p : Pn) (S : List Pn) : ∀ k, posP p S k ≤ k
  | 0 => Nat.le_refl _
  | k + 1 => by
    unfold posP
    split
    · exact Nat.le_succ_of_le (pos_le p S k)
    · exact Nat.le_refl _
def putP (S : List Pn) (p : Pn) : List Pn :=
  if 0 < posP p S S.length ∧ S.getD (posP p S S.length - 1) (0, 0) = p then S else (S.take (posP p S S.length) ++ [p]) ++ S.drop (posP p S S.length)
/-- what stands behind the place is behind the point; what stands ahead of it is not -/
theorem pos_spec (p : Pn) (S : List Pn) : ∀ k, (∀ j, posP p S k ≤ j → j < k → befB p (S.getD j (0, 0)) = true) ∧ (0 < posP p S k → befB p (S.getD (posP p S k - 1) (0, 0)) = false)
  | 0 => ⟨fun j _ h => absurd h (Nat.not_lt_zero j), fun h => absurd h (by simp [posP])⟩
  | k + 1 => by
    obtain ⟨h1, h2⟩ := pos_spec p S k
    unfold posP
    by_cases hb : befB p (S.getD k (0, 0)) = true
    · rw [if_pos hb]
      refine ⟨fun j hj hk => ?_, h2⟩
      rcases Nat.lt_or_ge j k with h | h
      · exact h1 j hj h
      · have : j = k := by omega
        rw [this]; exact hb
    · rw [if_neg hb]
      refine ⟨fun j hj hk => by omega, fun _ => ?_⟩
      simpa using hb
theorem ris_get {S : List Pn} (h : Ris S) {i j : Nat} (hij : i < j) (hj : j < S.length) : befB (S.getD i (0, 0)) (S.getD j (0, 0)) = true := by
  have := List.pairwise_iff_getElem.1 h i j (by omega) hj hij
  rw [List.getD_eq_getElem?_getD, List.getD_eq_getElem?_getD, List.getElem?_eq_getElem (by omega), List.getElem?_eq_getElem hj]
  exact this
theorem put_ris {S : List Pn} (h : Ris S) (p : Pn) : Ris (putP S p) ∧ ∀ x, x ∈ putP S p ↔ x ∈ S ∨ x = p := by
  have hle := pos_le p S S.length
  obtain ⟨h1, h2⟩ := pos_spec p S S.length
  unfold putP
  obtain ⟨k, hk⟩ : ∃ k, k = posP p S S.length := ⟨_, rfl⟩
  rw [← hk] at h1 h2 hle ⊢
  by_cases hc : 0 < k ∧ S.getD (k - 1) (0, 0) = p
  · rw [if_pos hc]
    refine ⟨h, fun x => ⟨.inl, fun hx => ?_⟩⟩
    rcases hx with hx | hx
    · exact hx
    · rw [hx, ← hc.2, List.getD_eq_getElem?_getD, List.getElem?_eq_getElem (by omega)]
      exact List.getElem_mem _
  · rw [if_neg hc]
    have hbefore : ∀ x ∈ S.take k, befB x p = true := by
      intro x hx
      obtain ⟨j, hj⟩ := List.getElem?_of_mem hx
      have hjl := (List.getElem?_eq_some_iff.1 hj).1
      rw [List.length_take] at hjl
      rw [List.getElem?_take_of_lt (by omega)] at hj
      have hxj : S.getD j (0, 0) = x := by rw [List.getD_eq_getElem?_getD, hj]; rfl
      have h3 := h2 (by omega)
      have h4 : S.getD (k - 1) (0, 0) ≠ p := fun e => hc ⟨by omega, e⟩
      have h5 : befB (S.getD (k - 1) (0, 0)) p = true := by
        rcases bef_tri (S.getD (k - 1) (0, 0)) p with e | e | e
        · exact e
        · exact absurd e h4
        · rw [h3] at e; cases e
      rcases Nat.lt_or_ge j (k - 1) with hlt | hge
      · have := ris_get h hlt (by omega)
        rw [hxj] at this
        exact bef_trans this h5
      · have : j = k - 1 := by omega
        rw [this] at hxj; rw [← hxj]; exact h5
    have hafter : ∀ x ∈ S.drop k, befB p x = true := by
      intro x hx
      obtain ⟨j, hj⟩ := List.getElem?_of_mem hx
      rw [List.getElem?_drop] at hj
      have hjl := (List.getElem?_eq_some_iff.1 hj).1
      have := h1 (k + j) (by omega) hjl
      rw [List.getD_eq_getElem?_getD, hj] at this
      exact this
    have hsplit := List.take_append_drop k S
    refine ⟨?_, fun x => ?_⟩
    · have hp : Ris (S.take k ++ S.drop k) := by rw [hsplit]; exact h
      rw [Ris, List.pairwise_append] at hp
      rw [Ris, List.pairwise_append, List.pairwise_append]
      refine ⟨⟨hp.1, List.pairwise_singleton _ _, fun a ha b hb => ?_⟩, hp.2.1, fun a ha b hb => ?_⟩
      · rw [List.mem_singleton.1 hb]; exact hbefore a ha
      · rcases List.mem_append.1 ha with ha | ha
        · exact hp.2.2 a ha b hb
        · rw [List.mem_singleton.1 ha]; exact hafter b hb
    · have hm : x ∈ S ↔ x ∈ S.take k ∨ x ∈ S.drop k := by rw [← List.mem_append, hsplit]
      rw [hm]
      simp only [List.mem_append, List.mem_singleton]
      constructor
      · rintro ((h | h) | h)
        · exact .inl (.inl h)
        · exact .inr h
        · exact .inl (.inr h)
      · rintro ((h | h) | h)
        · exact .inl (.inl h)
        · exact .inr h
        · exact .inl (.inr h)
/-- the points in order, none twice -/
def sortU (L : List Pn) : List Pn := L.foldl putP []
theorem foldl_put : ∀ (L S : List Pn), Ris S → Ris (L.foldl putP S) ∧ ∀ x, x ∈ L.foldl putP S ↔ x ∈ S ∨ x ∈ L
  | [], S, h => ⟨h, fun x => by simp⟩
  | p :: L, S, h => by
    obtain ⟨h1, h2⟩ := put_ris h p
    obtain ⟨h3, h4⟩ := foldl_put L (putP S p) h1
    refine ⟨h3, fun x => ?_⟩
    rw [List.foldl_cons, h4, h2, List.mem_cons]
    constructor
    · rintro ((h | h) | h)
      · exact .inl h
      · exact .inr (.inl h)
      · exact .inr (.inr h)
    · rintro (h | h | h)
      · exact .inl (.inl h)
      · exact .inl (.inr h)
      · exact .inr h
theorem sortU_ris (L : List Pn) : Ris (sortU L) := (foldl_put L [] List.Pairwise.nil).1
theorem sortU_mem (L : List Pn) (x : Pn) : x ∈ sortU L ↔ x ∈ L := by
  have := (foldl_put L [] List.Pairwise.nil).2 x
  unfold sortU; simpa using this
/-- runs of one are made one: what slices.Compact keeps, place by place -/
def keepL (L : List Pn) : Nat → List Pn
  | 0 => []
  | k + 1 => if k = 0 ∨ L.getD k (0, 0) ≠ L.getD (k - 1) (0, 0) then keepL L k ++ [L.getD k (0, 0)] else keepL L k
abbrev WRis (L : List Pn) : Prop := L.Pairwise fun a b => befB b a = false
theorem wris_get {S : List Pn} (h : WRis S) {i j : Nat} (hij : i < j) (hj : j < S.length) : befB (S.getD j (0, 0)) (S.getD i (0, 0)) = false := by
  have := List.pairwise_iff_getElem.1 h i j (by omega) hj hij
  rw [List.getD_eq_getElem?_getD, List.getD_eq_getElem?_getD, List.getElem?_eq_getElem hj, List.getElem?_eq_getElem (by omega)]
  exact this
theorem keep_ris {L : List Pn} (h : WRis L) : ∀ k, k ≤ L.length → Ris (keepL L k) ∧ (∀ x, x ∈ keepL L k ↔ x ∈ L.take k) ∧ (keepL L k).length ≤ k
  | 0, _ => ⟨List.Pairwise.nil, fun x => by simp [keepL], Nat.le_refl _⟩
  | k + 1, hk => by
    obtain ⟨h1, h2, h3⟩ := keep_ris h k (by omega)
    have ht : L.take (k + 1) = L.take k ++ [L.getD k (0, 0)] := by
      rw [List.take_succ_eq_append_getElem (by omega), List.getD_eq_getElem?_getD, List.getElem?_eq_getElem (by omega)]; rfl
    unfold keepL
    by_cases hc : k = 0 ∨ L.getD k (0, 0) ≠ L.getD (k - 1) (0, 0)
    · rw [if_pos hc]
      refine ⟨?_, fun x => by rw [ht, List.mem_append, List.mem_append, h2], by simp; omega⟩
      rw [Ris, List.pairwise_append]
      refine ⟨h1, List.pairwise_singleton _ _, fun a ha b hb => ?_⟩
      rw [List.mem_singleton.1 hb]
      have ha' := (h2 a).1 ha
      obtain ⟨j, hj⟩ := List.getElem?_of_mem ha'
      have hjl := (List.getElem?_eq_some_iff.1 hj).1
      rw [List.length_take] at hjl
      rw [List.getElem?_take_of_lt (by omega)] at hj
      have haj : L.getD j (0, 0) = a := by rw [List.getD_eq_getElem?_getD, hj]; rfl
      rcases hc with hc | hc
      · omega
      have hlast : befB (L.getD (k - 1) (0, 0)) (L.getD k (0, 0)) = true := by
        rcases bef_tri (L.getD (k - 1) (0, 0)) (L.getD k (0, 0)) with e | e | e
        · exact e
        · exact absurd e.symm hc
        · rw [wris_get h (by omega) (by omega)] at e; cases e
      rcases Nat.lt_or_ge j (k - 1) with hlt | hge
      · have h4 := wris_get h hlt (by omega : k - 1 < L.length)
        rw [haj] at h4
        rcases bef_tri a (L.getD (k - 1) (0, 0)) with e | e | e
        · exact bef_trans e hlast
        · rw [e]; exact hlast
        · rw [h4] at e; cases e
      · have : j = k - 1 := by omega
        rw [this] at haj; rw [← haj]; exact hlast
    · rw [if_neg hc]
      have hc1 : ¬ k = 0 := fun e => hc (.inl e)
      have hc2 : L.getD k (0, 0) = L.getD (k - 1) (0, 0) := Decidable.byContradiction fun e => hc (.inr e)
      refine ⟨h1, fun x => ?_, by omega⟩
      rw [ht, List.mem_append, h2, List.mem_singleton]
      constructor
      · exact .inl
      · rintro (hx | hx)
        · exact hx
        · rw [hx, hc2, List.getD_eq_getElem?_getD, List.getElem?_eq_getElem (by omega)]
          show L[k - 1] ∈ L.take k
          rw [List.mem_take_iff_getElem]
          exact ⟨k - 1, by omega, rfl⟩
/-- a sorted list, its runs made one, is the list in order with none twice -/
theorem keep_sortU {L M : List Pn} (hp : M.Perm L) (hw : WRis M) : keepL M M.length = sortU L := by
  obtain ⟨h1, h2, _⟩ := keep_ris hw M.length (Nat.le_refl _)
  refine ris_eq h1 (sortU_ris L) fun x => ?_
  rw [h2, sortU_mem, List.take_length]
  exact hp.mem_iff
/-! ### chains -/
end Go.Proofs.YtlifiioflkhkoaaGreat

/- Words for memory: element rows, appends onto a slice of the call's own, bytes that become a string. No program in sight. Conditions: none. -/
namespace Go.Proofs.YtlifiioflkhkoaaGreat
open Go.RowKit
set_option linter.unusedVariables false
set_option maxRecDepth 100000

/-- the slice type t has elements of type e, each of so many cells and bytes -/
structure Elem (P : Program) (t e : TypeId) (size bytes : Nat) : Prop where
  ht : P.underlying t = some (.slice e)
  hi : ∃ i z, P.info? e = some i ∧ i.zero = some z ∧ i.size = size ∧ i.bytes = bytes ∧ z.cells.size = size
  pos : 0 < size

theorem elem_mk {P : Program} {t e : TypeId} {z : Value} {size bytes : Nat} (ht : P.underlying t = some (.slice e))
    (h : (P.info? e).map (fun i => (i.zero, i.size, i.bytes)) = some (some z, size, bytes)) (hz : z.cells.size = size) (pos : 0 < size) : Elem P t e size bytes := by
  obtain ⟨i, h1, h2, h3, h4⟩ := info_parts h
  exact ⟨ht, ⟨i, z, h1, h2, h3, h4, hz⟩, pos⟩

/-- the source of an append: m elements with the cells news -/
def Src (w : World) (size : Nat) (A : Option Addr) (m : Nat) (news : List Value) : Prop :=
  news.length = m * size ∧ (∀ u ∈ news, u.oneCell' = true) ∧ (0 < m → ∃ ad, A = some ad ∧ ∀ j u, news[j]? = some u → w.cell? (ad.add j) = some u)

theorem run_app {P : Program} {w : World} {t e : TypeId} {size bytes : Nat} (E : Elem P t e size bytes) (ty : TypeId) {base : Nat} {v : Value} {n : Nat} {xs : List Value} (hown : w.ownsRow base e size v n xs)
    {A : Option Addr} {m c : Nat} {news : List Value} (hsrc : Src w size A m news) (h63 : n + m ≤ 1000000000) (hbytes : bytes ≤ 100000) (hbase : base ≤ w.heap.size) :
    ∃ v' w', (Builtin.append_ #[t, t] ty #[v, .slice A m c]).run P w = .ok v' w' ∧ w'.ownsRow base e size v' (n + m) (xs ++ news) ∧ w.grownBy w' v.ownBlock ∧
      (v'.ownBlock = v.ownBlock ∨ v'.ownBlock = some w.heap.size) := by
  obtain ⟨ht, ⟨i, z, hi, hz, hs, hby, hzs⟩, pos⟩ := E
  obtain ⟨hl, h1, hc⟩ := hsrc
  have hb : (n + m) * bytes ≤ 140737488355328 := by
    have : (n + m) * bytes ≤ 1000000000 * 100000 := Nat.mul_le_mul h63 hbytes
    omega
  rcases Nat.eq_zero_or_pos m with h0 | h0
  · subst h0
    obtain rfl : news = [] := List.eq_nil_of_length_eq_zero (by simpa using hl)
    rcases A with _ | ad
    · refine ⟨v, w, ?_, by simpa using hown, World.grownBy.refl w _, .inl rfl⟩
      rcases hown.2 with ⟨rfl, rfl⟩ | ⟨g, cap, cur, rfl, _, _, hnc, _⟩
      · simp [Builtin.append_, run_underlying ht, sizeOf, typeInfo, hi, Builtin.lenOf, Builtin.firstCells]
      · simp [Builtin.append_, run_underlying ht, sizeOf, typeInfo, hi, Builtin.lenOf, Builtin.firstCells, hnc, storeCells]
    · obtain ⟨v', w', h1, h2, h3, _, h5⟩ := run_append_own_at (P := P) w base t ty e i z size bytes ht hi hz hs hby hzs pos v n xs hown ad 0 c [] (by simp) (by simp) (by simp) (by unfold maxLen; omega) hb hbase
      exact ⟨v', w', h1, h2, h3, h5⟩
  · obtain ⟨ad, rfl, hcc⟩ := hc h0
    obtain ⟨v', w', h1, h2, h3, _, h5⟩ := run_append_own_at (P := P) w base t ty e i z size bytes ht hi hz hs hby hzs pos v n xs hown ad m c news hl hcc h1 (by unfold maxLen; omega) hb hbase
    exact ⟨v', w', h1, h2, h3, h5⟩

theorem own_form {w : World} {base e size n : Nat} {v : Value} {xs : List Value} (h : w.ownsRow base e size v n xs) : ∃ A c, v = .slice A n c := by
  rcases h.2 with ⟨rfl, rfl⟩ | ⟨g, cap, cur, rfl, _⟩
  · exact ⟨_, _, rfl⟩
  · exact ⟨_, _, rfl⟩

theorem wpAppAt {P : Program} {w : World} {ops : Array Oper} {rest : List Oper} {o : Oper} {a : Act} {Q : Exit → Act → World → Prop} (hgd : o.guard = none) (s x : Operand) {t e : TypeId} {size bytes : Nat} (E : Elem P t e size bytes)
    (ho : o.op = .call { callee := .builtin .append, args := #[s, x], argTypes := #[t, t] })
    {base : Nat} {v : Value} {n : Nat} {xs : List Value} (hs : a.eval s = v) (hown : w.ownsRow base e size v n xs)
    {A : Option Addr} {m c : Nat} {news : List Value} (hx : a.eval x = .slice A m c) (hsrc : Src w size A m news) (h63 : n + m ≤ 1000000000) (hbytes : bytes ≤ 100000) (hbase : base ≤ w.heap.size) (k : Nat) (hk : k = n + m)
    (h : ∀ A' c' w', w'.ownsRow base e size (.slice A' k c') k (xs ++ news) → w.grownBy w' v.ownBlock → ((Value.slice A' k c').ownBlock = v.ownBlock ∨ (Value.slice A' k c').ownBlock = some w.heap.size) → wpList P ops Q rest (a.put o.dst (.slice A' k c')) w') :
    wpList P ops Q (o :: rest) a w := by
  refine wpList_plain hgd fun K hK => ?_
  obtain ⟨v', w', hr, h2, h3, h4⟩ := run_app (P := P) E o.type hown (c := c) hsrc h63 hbytes hbase
  obtain ⟨A', c', rfl⟩ := own_form h2
  unfold Oper.wp execOp
  simp only [ho, resolve, invoke, builtin, Sem.run_bind, Sem.run_pure, Result.andThen_ok, List.map_toArray, List.map_cons, List.map_nil, hs, hx, hr]
  subst hk
  exact hK _ _ (h A' c' w' h2 h3 h4)

/-- what an append may have written lies from base on -/
theorem below_app {base : Nat} {w w' : World} {v : Value} {e size n : Nat} {xs : List Value} (hown : w.ownsRow base e size v n xs) (hg : w.grownBy w' v.ownBlock) (hb : base ≤ w.heap.size) : Below base w w' :=
  (Below.refl base w).grown hg hb (fun k hk => (hown.lt k hk).1)

theorem wpApp {P : Program} {w : World} {ops : Array Oper} {rest : List Oper} {o : Oper} {a : Act} {Q : Exit → Act → World → Prop} (hgd : o.guard = none) (s x : Operand) {t e : TypeId} {size bytes : Nat} (E : Elem P t e size bytes)
    (ho : o.op = .call { callee := .builtin .append, args := #[s, x], argTypes := #[t, t] })
    {base : Nat} {v : Value} {n : Nat} {xs : List Value} (hs : a.eval s = v) (hown : w.ownsRow base e size v n xs)
    {A : Option Addr} {m c : Nat} {news : List Value} (hx : a.eval x = .slice A m c) (hsrc : Src w size A m news) (h63 : n + m ≤ 1000000000) (hbytes : bytes ≤ 100000) (hbase : base ≤ w.heap.size) (k : Nat) (hk : k = n + m)
    (h : ∀ A' c' w', w'.ownsRow base e size (.slice A' k c') k (xs ++ news) → Below base w w' → wpList P ops Q rest (a.put o.dst (.slice A' k c')) w') :
    wpList P ops Q (o :: rest) a w :=
  wpAppAt hgd s x E ho hs hown hx hsrc h63 hbytes hbase k hk fun A' c' w' h1 h2 _ => h A' c' w' h1 (below_app hown h2 hbase)

/-- one new block of cells as the source of an append -/
theorem src_new {w : World} {size : Nat} {cs : List Value} {t : TypeId} (hl : cs.length = size) (h1 : ∀ u ∈ cs, u.oneCell' = true) : Src (w.alloc (.cells cs.toArray t)) size (some ⟨w.heap.size, 0, none⟩) 1 cs :=
  ⟨by simp [hl], h1, fun _ => ⟨_, rfl, fun j u hu => by
    have : (⟨w.heap.size, 0, none⟩ : Addr).add j = ⟨w.heap.size, j, none⟩ := by unfold Addr.add; split <;> simp_all
    rw [this, cell_of_row _ _ _ _ _ _ (heap_alloc_new w _)]
    simpa using hu⟩⟩

theorem src_at {w : World} {size b : Nat} {cs : List Value} {t : TypeId} (hl : cs.length = size) (h1 : ∀ u ∈ cs, u.oneCell' = true) (hb : b = w.heap.size) : Src (w.alloc (.cells cs.toArray t)) size (some ⟨b, 0, none⟩) 1 cs := by
  subst hb; exact src_new hl h1

/-- an owned row as the source of an append -/
theorem src_own {w : World} {base e size n : Nat} {A : Option Addr} {c : Nat} {xs : List Value} (h : w.ownsRow base e size (.slice A n c) n xs) (h1 : ∀ u ∈ xs, u.oneCell' = true) : Src w size A n xs := by
  refine ⟨h.1, h1, fun hn => ?_⟩
  rcases h.2 with ⟨h2, h3⟩ | ⟨g, cap, cur, hv, _⟩
  · omega
  · have hA : A = some ⟨g, 0, none⟩ := by injection hv
    subst hA
    exact ⟨_, rfl, h.cells (g := g) rfl⟩

theorem own_below {w w' : World} {base e size n : Nat} {v : Value} {xs : List Value} (h : w.ownsRow base e size v n xs) (hb : Below w.heap.size w w') : w'.ownsRow base e size v n xs :=
  h.kept (row := none) ⟨hb.os, hb.tape, hb.output, hb.size, fun k hk _ => hb.block k hk⟩ (by cases v.ownBlock <;> simp)
/-! ### bytes -/
def byteV (ds : List UInt8) : List Value := ds.map fun c => .int .u8 c.toNat
@[simp] theorem byteV_length (ds : List UInt8) : (byteV ds).length = ds.length := by simp [byteV]
theorem byteV_append (a b : List UInt8) : byteV (a ++ b) = byteV a ++ byteV b := by simp [byteV]

end Go.Proofs.YtlifiioflkhkoaaGreat

