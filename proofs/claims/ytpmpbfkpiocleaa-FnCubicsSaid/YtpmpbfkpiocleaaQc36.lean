/- What FnCubics says of numbers: the flat path is near all points, the bounds hold all points, both halves meet. Conditions: none. -/
import Derived.Test.YtpmpbfkpiocleaaQc34
import Derived.Test.YtpmpbfkpiocleaaQc35
import Derived.Test.YtpmpbfkpiocleaaQc12
import Derived.Test.YtpmpbfkpiocleaaQc06
import Derived.Test.YtpmpbfkpiocleaaQc03
namespace Go.Proofs.Ytpmpbfkpiocleaa
open Go.RowKit
set_option linter.unusedVariables false
set_option maxRecDepth 100000

theorem rnd_lo {x d lo : Int} (hd : 0 < d) (h : lo * d ≤ x) : lo ≤ rnd x d := by
  unfold rnd
  refine Int.le_ediv_of_mul_le (by omega) ?_
  have e : lo * (2 * d) = 2 * (lo * d) := by grind
  omega
theorem rnd_hi {x d hi : Int} (hd : 0 < d) (h : x ≤ hi * d) : rnd x d ≤ hi := by
  unfold rnd
  have : (2 * x + d) / (2 * d) < hi + 1 := by
    refine Int.ediv_lt_of_lt_mul (by omega) ?_
    have e : (hi + 1) * (2 * d) = 2 * (hi * d) + 2 * d := by grind
    omega
  omega
theorem numC_lo {a b c d k n M : Int} (ha : M ≤ a) (hb : M ≤ b) (hc : M ≤ c) (hd : M ≤ d) (h0 : 0 ≤ k) (hn : k ≤ n) : M * (n * n * n) ≤ numC a b c d k n := by
  obtain ⟨u, hu⟩ : ∃ u, u = n - k := ⟨_, rfl⟩
  have hs := cubW_sum hu
  have hx := numC_is a b c d u k n hu
  have hu0 : 0 ≤ u := by omega
  have uu : 0 ≤ u * u := Int.mul_nonneg hu0 hu0
  have w0 : 0 ≤ u * u * u := Int.mul_nonneg uu hu0
  have w1 : 0 ≤ 3 * u * u * k := Int.mul_nonneg (Int.mul_nonneg (Int.mul_nonneg (by omega) hu0) hu0) h0
  have w2 : 0 ≤ 3 * u * k * k := Int.mul_nonneg (Int.mul_nonneg (Int.mul_nonneg (by omega) hu0) h0) h0
  have w3 : 0 ≤ k * k * k := Int.mul_nonneg (Int.mul_nonneg h0 h0) h0
  rw [← hx, ← hs]
  unfold dot4
  generalize u * u * u = p0 at *
  generalize 3 * u * u * k = p1 at *
  generalize 3 * u * k * k = p2 at *
  generalize k * k * k = p3 at *
  have a1 := Int.mul_le_mul_of_nonneg_right ha w0
  have b1 := Int.mul_le_mul_of_nonneg_right hb w1
  have c1 := Int.mul_le_mul_of_nonneg_right hc w2
  have d1 := Int.mul_le_mul_of_nonneg_right hd w3
  have e : M * (p0 + p1 + p2 + p3) = M * p0 + M * p1 + M * p2 + M * p3 := by rw [Int.mul_add, Int.mul_add, Int.mul_add]
  rw [e]
  omega
theorem numC_neg (a b c d k n : Int) : numC (-a) (-b) (-c) (-d) k n = -numC a b c d k n := by unfold numC; grind
theorem numC_hi {a b c d k n M : Int} (ha : a ≤ M) (hb : b ≤ M) (hc : c ≤ M) (hd : d ≤ M) (h0 : 0 ≤ k) (hn : k ≤ n) : numC a b c d k n ≤ M * (n * n * n) := by
  have h := numC_lo (a := -a) (b := -b) (c := -c) (d := -d) (M := -M) (k := k) (n := n) (by omega) (by omega) (by omega) (by omega) h0 hn
  rw [numC_neg, Int.neg_mul] at h
  omega
theorem mixC_in {a b c d k n lo hi : Int} (ha : lo ≤ a ∧ a ≤ hi) (hb : lo ≤ b ∧ b ≤ hi) (hc : lo ≤ c ∧ c ≤ hi) (hd : lo ≤ d ∧ d ≤ hi) (h0 : 0 ≤ k) (hk : k ≤ n) (hn : 0 < n) : lo ≤ mixC a b c d k n ∧ mixC a b c d k n ≤ hi := by
  have hn3 : 0 < n * n * n := Int.mul_pos (Int.mul_pos hn hn) hn
  exact ⟨rnd_lo hn3 (numC_lo ha.1 hb.1 hc.1 hd.1 h0 hk), rnd_hi hn3 (numC_hi ha.2 hb.2 hc.2 hd.2 h0 hk)⟩
theorem bounds_in {q : Cb} {a b c d : Int} (h : BoxF q.pts 4 a b c d) {k n : Int} (h0 : 0 ≤ k) (hk : k ≤ n) (hn : 0 < n) : a ≤ (cAt q k n).1 ∧ (cAt q k n).1 ≤ c ∧ b ≤ (cAt q k n).2 ∧ (cAt q k n).2 ≤ d := by
  have h0' := h.1 0 (by omega)
  have h1' := h.1 1 (by omega)
  have h2' := h.1 2 (by omega)
  have h3' := h.1 3 (by omega)
  simp [Cb.pts, ptAt] at h0' h1' h2' h3'
  obtain ⟨x1, x2⟩ := mixC_in (a := q.ax) (b := q.bx) (c := q.cx) (d := q.dx) (k := k) (n := n) (lo := a) (hi := c) (by omega) (by omega) (by omega) (by omega) h0 hk hn
  obtain ⟨y1, y2⟩ := mixC_in (a := q.ay) (b := q.b) (c := q.cy) (d := q.dy) (k := k) (n := n) (lo := b) (hi := d) (by omega) (by omega) (by omega) (by omega) h0 hk hn
  exact ⟨x1, x2, y1, y2⟩
theorem cAt_rev (q : Cb) (k n : Int) : cAt ⟨q.dx, q.dy, q.cx, q.cy, q.bx, q.b, q.ax, q.ay⟩ (n - k) n = cAt q k n := by
  unfold cAt mixC
  simp only [numC_rev]
theorem Cb.ok_rev {q : Cb} (h : q.ok) : Cb.ok ⟨q.dx, q.dy, q.cx, q.cy, q.bx, q.b, q.ax, q.ay⟩ := ⟨h.2.2.2, h.2.2.1, h.2.1, h.1⟩
theorem lvt_is {b T : Int} {l : Nat} (h : lvt b T = some l) : l < 7 ∧ b ≤ 4 * T * 4 ^ l := by
  have h1 := List.find?_some h
  have h2 := List.mem_of_find?_eq_some h
  exact ⟨by simpa using h2, by simpa [lvtOk] using h1⟩
theorem flatC_at (q : Cb) {n k : Nat} (hk : k ≤ n) : (flatC q n)[k]? = some (cAt q (k : Int) (n : Int)) := by
  unfold flatC
  rw [List.getElem?_map, List.getElem?_range (by omega)]
  rfl
theorem cAt_start (q : Cb) {n : Int} (hn : 0 < n) : cAt q 0 n = (q.ax, q.ay) := by unfold cAt; rw [mixC_at0 _ _ _ _ hn, mixC_at0 _ _ _ _ hn]
theorem cAt_end (q : Cb) {n : Int} (hn : 0 < n) : cAt q n n = (q.dx, q.dy) := by unfold cAt; rw [mixC_at1 _ _ _ _ hn, mixC_at1 _ _ _ _ hn]
theorem cAt_scale (q : Cb) {k n s : Int} (hn : 0 < n) (hs : 0 < s) : cAt q (k * s) (n * s) = cAt q k n := by
  unfold cAt
  rw [Int.mul_comm k s, Int.mul_comm n s, mixC_scale _ _ _ _ _ hn hs, mixC_scale _ _ _ _ _ hn hs]
theorem pow_four (l : Nat) : (4 : Int) ^ l = ((2 ^ l : Nat) : Int) * ((2 ^ l : Nat) : Int) := by
  rw [Int.natCast_pow]
  rw [show ((2 : Nat) : Int) = 2 from rfl, ← Int.mul_pow]
  rfl
theorem flat_near {q : Cb} (hq : q.ok) {T : Int} {l : Nat} (hl : lvt (3 * bendC q) T = some l) (hT0 : 1 ≤ T) (hT1 : T ≤ 200000) {k n : Nat} (hk : k ≤ n) (hn : 0 < n) : nearOk (flatC q (2 ^ l)) (cAt q k n).1 (cAt q k n).2 (T + 2) = true := by
  obtain ⟨h7, hb⟩ := lvt_is hl
  rw [pow_four] at hb
  obtain ⟨hm0, hm1⟩ := pow_lvl (l := l) h7 rfl
  generalize 2 ^ l = m at *
  have hn0 : (0 : Int) < (n : Int) := by omega
  have hm0' : (0 : Int) < (m : Int) := by omega
  have hp : pathOk (flatC q m) = true := by
    unfold pathOk
    rw [Bool.and_eq_true]
    refine ⟨inB_iff.2 (by rw [flatC_len]; omega), List.all_eq_true.2 fun p hp => ?_⟩
    unfold flatC at hp
    obtain ⟨i, hi, rfl⟩ := List.mem_map.1 hp
    have := List.mem_range.1 hi
    exact cAt_ok hq (by omega) (by omega) hm0'
  have hpt : ptOk (cAt q k n).1 (cAt q k n).2 = true := cAt_ok hq (by omega) (by omega) hn0
  have hr : inB (T + 2) 0 262144 = true := inB_iff.2 (by omega)
  -- the segment
  obtain ⟨i, j, hi, hj, hij⟩ : ∃ i j : Nat, i < m ∧ j ≤ n ∧ k * m = i * n + j := by
    rcases Nat.lt_or_ge k n with h | h
    · refine ⟨k * m / n, k * m % n, ?_, Nat.le_of_lt (Nat.mod_lt _ hn), ?_⟩
      · rw [Nat.div_lt_iff_lt_mul hn, Nat.mul_comm]
        exact Nat.mul_lt_mul_of_pos_left h (by omega)
      · rw [Nat.mul_comm (k * m / n)]; exact (Nat.div_add_mod _ _).symm
    · have : k = n := by omega
      subst this
      refine ⟨m - 1, k, by omega, Nat.le_refl _, ?_⟩
      obtain ⟨m', rfl⟩ : ∃ m', m = m' + 1 := ⟨m - 1, by omega⟩
      rw [Nat.add_sub_cancel, Nat.mul_comm m', Nat.mul_succ]
  have hnear := cub_near (c := q) (n := m) (m := n) (k := i) (i := j) (T := T) hm0' hn0 (by omega) (by omega) (by omega) (by omega) (by omega) hb
  have e : ((i : Int) * n + j) = (k : Int) * m := by
    have := congrArg (fun x : Nat => (x : Int)) hij
    simp only [Int.natCast_mul, Int.natCast_add] at this
    omega
  rw [e, show (m : Int) * n = n * m from Int.mul_comm _ _, cAt_scale q hn0 hm0'] at hnear
  unfold nearOk
  rw [hp, hpt, hr]
  have h1 := flatC_at q (n := m) (k := i) (by omega)
  have h2 := flatC_at q (n := m) (k := i + 1) (by omega)
  rw [show ((i + 1 : Nat) : Int) = (i : Int) + 1 by omega] at h2
  exact nearP_yes h1 h2 hnear
end Go.Proofs.Ytpmpbfkpiocleaa

/- A state of the hint machine that came in, opened. No walk in sight. Conditions: none. -/
namespace Go.Proofs.Ytpmpbfkpiocleaa
open Go.RowKit Go.ChangeShapes Go.WideShapes Go.Deep
set_option linter.unusedVariables false
set_option maxRecDepth 100000

end Go.Proofs.Ytpmpbfkpiocleaa

/- Marks in slices of Knot, and whether they are held. Conditions: as each states. -/
namespace Go.Proofs.Ytpmpbfkpiocleaa
open Go.RowKit
set_option linter.unusedVariables false
set_option maxRecDepth 100000

end Go.Proofs.Ytpmpbfkpiocleaa

