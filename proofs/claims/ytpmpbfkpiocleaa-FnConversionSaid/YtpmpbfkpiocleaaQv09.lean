/- Whether a point is near a segment: both sides, walked. Conditions: as each states. -/
import Derived.Laws.BitsLemmas
import Derived.IntWalk
import Derived.BigQuiet
import Derived.Deep.QuietTactic
import Derived.WalkSmall
import Derived.Test.YtpmpbfkpiocleaaQv01
import Derived.Test.YtpmpbfkpiocleaaQv08
import Derived.Test.YtpmpbfkpiocleaaMul
namespace Go.Proofs.Ytpmpbfkpiocleaa
open Go.RowKit
set_option linter.unusedVariables false
set_option maxRecDepth 100000

theorem pt_bd {x y : Int} (h : ptOk x y = true) : -262144 ≤ x ∧ x ≤ 262144 ∧ -262144 ≤ y ∧ y ≤ 262144 := by
  have := ptOk_iff.1 h; omega
theorem df_bd {x y u v : Int} (hx : -524288 ≤ x ∧ x ≤ 524288) (hy : -524288 ≤ y ∧ y ≤ 524288) : -274877906944 ≤ x * y ∧ x * y ≤ 274877906944 := by
  have := prod_bd hx.1 hx.2 hy.1 hy.2
  omega

theorem l03Sq_any (ax ay bx b : Int) (w : World) (ha : ptOk ax ay = true) (hb : ptOk bx b = true) :
    Calls Try.prog 61 #[.agg #[.int .i64 ax, .int .i64 ay], .agg #[.int .i64 bx, .int .i64 b]] w fun e w' => e = .returned (.int .i64 (sqI ax ay bx b)) ∧ Below w.heap.size w w' := by
  obtain ⟨a1, a2, a3, a4⟩ := pt_bd ha
  obtain ⟨b1, b2, b3, b4⟩ := pt_bd hb
  obtain ⟨c1, c2⟩ := df_bd (x := bx - ax) (y := bx - ax) (u := 0) (v := 0) (by omega) (by omega)
  obtain ⟨c3, c4⟩ := df_bd (x := b - ay) (y := b - ay) (u := 0) (v := 0) (by omega) (by omega)
  clear ha hb
  go_enter Try.func61, Try.ntmps61
  go_wp2_with fail
  go_ret
  exact ⟨rfl, Go.Joins.below_alloc2 _ _ _⟩
theorem l03Turn_any (ax ay bx b px py : Int) (w : World) (ha : ptOk ax ay = true) (hb : ptOk bx b = true) (hp : ptOk px py = true) :
    Calls Try.prog 62 #[.agg #[.int .i64 ax, .int .i64 ay], .agg #[.int .i64 bx, .int .i64 b], .agg #[.int .i64 px, .int .i64 py]] w fun e w' => e = .returned (.int .i64 (turnI ax ay bx b px py)) ∧ Below w.heap.size w w' := by
  obtain ⟨a1, a2, a3, a4⟩ := pt_bd ha
  obtain ⟨b1, b2, b3, b4⟩ := pt_bd hb
  obtain ⟨p1, p2, p3, p4⟩ := pt_bd hp
  obtain ⟨c1, c2⟩ := df_bd (x := bx - ax) (y := py - ay) (u := 0) (v := 0) (by omega) (by omega)
  obtain ⟨c3, c4⟩ := df_bd (x := b - ay) (y := px - ax) (u := 0) (v := 0) (by omega) (by omega)
  clear ha hb hp
  go_enter Try.func62, Try.ntmps62
  go_wp2_with fail
  go_ret
  exact ⟨rfl, (((Below.refl _ _).alloc (Nat.le_refl _) _).alloc (by simp) _).alloc (by simp; omega) _⟩
/-! ### products of two words -/
theorem wraps_i64 (n : Int) (h₀ : 0 ≤ n) (h₁ : n < 2 ^ 63) : IntKind.i64.wrap n = n := by rw [IntKind.wrap_i64]; omega
theorem and31 {x : Int} (h₀ : 0 ≤ x) (h₁ : x < 9223372036854775808) : bits .and .i64 x 2147483647 = x % 2147483648 := bits_mask .i64 63 (by decide) wraps_i64 31 (by decide) x h₀ h₁

theorem or31 {x y : Int} (h0 : 0 ≤ x) (h1 : x < 2147483648) (h2 : 0 ≤ y) (h3 : y < 2147483648) : bits .or .i64 (x * 2147483648) y = x * 2147483648 + y :=
  bits_join .i64 63 (by decide) wraps_i64 31 (x * 2147483648) y (by omega) (by omega) (by omega) h2 (by omega) (by omega)
theorem np_bd {x y A B : Int} (h1 : 0 ≤ x) (h2 : x ≤ A) (h3 : 0 ≤ y) (h4 : y ≤ B) : 0 ≤ x * y ∧ x * y ≤ A * B :=
  ⟨Int.mul_nonneg h1 h3, Int.mul_le_mul h2 h4 h3 (by omega)⟩

theorem l03Wide_any (a b : Int) (w : World) (a0 : 0 ≤ a) (a1 : a ≤ 1099511627776) (b0 : 0 ≤ b) (b1 : b ≤ 1099511627776) :
    Calls Try.prog 70 #[.int .i64 a, .int .i64 b] w fun e w' => e = .returned (.tuple #[.int .i64 (wideH a b), .int .i64 (wideL a b)]) ∧ w = w' := by
  have ea := and31 a0 (by omega)
  have eb := and31 b0 (by omega)
  obtain ⟨p1, p2⟩ := np_bd (x := a % 2147483648) (y := b % 2147483648) (A := 2147483647) (B := 2147483647) (by omega) (by omega) (by omega) (by omega)
  obtain ⟨p3, p4⟩ := np_bd (x := a / 2147483648) (y := b % 2147483648) (A := 512) (B := 2147483647) (by omega) (by omega) (by omega) (by omega)
  obtain ⟨p5, p6⟩ := np_bd (x := a % 2147483648) (y := b / 2147483648) (A := 2147483647) (B := 512) (by omega) (by omega) (by omega) (by omega)
  obtain ⟨p7, p8⟩ := np_bd (x := a / 2147483648) (y := b / 2147483648) (A := 512) (B := 512) (by omega) (by omega) (by omega) (by omega)
  have ex := and31 p1 (by omega)
  have ey := and31 (x := a / 2147483648 * (b % 2147483648) + a % 2147483648 * (b / 2147483648) + a % 2147483648 * (b % 2147483648) / 2147483648) (by omega) (by omega)
  have eo := or31 (x := (a / 2147483648 * (b % 2147483648) + a % 2147483648 * (b / 2147483648) + a % 2147483648 * (b % 2147483648) / 2147483648) % 2147483648) (y := a % 2147483648 * (b % 2147483648) % 2147483648) (by omega) (by omega) (by omega) (by omega)
  go_enter Try.func70, Try.ntmps70
  go_wp2_with fail
  go_ret2
  exact ⟨rfl, rfl⟩

theorem l03Less_any (a b c d : Int) (v : Bool) (hv : v = decide (a * b ≤ c * d)) (w : World) (a0 : 0 ≤ a) (a1 : a ≤ 1099511627776) (b0 : 0 ≤ b) (b1 : b ≤ 1099511627776) (c0 : 0 ≤ c) (c1 : c ≤ 1099511627776) (d0 : 0 ≤ d) (d1 : d ≤ 1099511627776) :
    Calls Try.prog 63 #[.int .i64 a, .int .i64 b, .int .i64 c, .int .i64 d] w fun e w' => e = .returned (.bool v) ∧ w = w' := by
  rw [← wide_le] at hv
  have h1 := Lib.hid (fun W => l03Wide_any a b W a0 a1 b0 b1)
  have h2 := Lib.hid (fun W => l03Wide_any c d W c0 c1 d0 d1)
  replace hv := Lib.hid hv
  generalize wideH a b = x1 at *
  generalize wideL a b = x2 at *
  generalize wideH c d = y1 at *
  generalize wideL c d = y2 at *
  by_cases g2 : x1 = y1
  · have g4 : (x1 == y1) = true := by simp [g2]
    replace g2 := Lib.hid g2
    go_enter Try.func63, Try.ntmps63
    go_wp2_with fail
    refine (h1.out _).mono ?_
    rintro e w' ⟨rfl, rfl⟩
    go_wp2_with fail
    refine (h2.out _).mono ?_
    rintro e w' ⟨rfl, rfl⟩
    go_wp2_with fail
    all_goals
      go_ret
      exact ⟨ret_bool (by rw [hv.out, g2.out]; simp_all [g2.out]), rfl⟩
  · have g4 : (x1 == y1) = false := by simp [g2]
    replace g2 := Lib.hid g2
    go_enter Try.func63, Try.ntmps63
    go_wp2_with fail
    refine (h1.out _).mono ?_
    rintro e w' ⟨rfl, rfl⟩
    go_wp2_with fail
    refine (h2.out _).mono ?_
    rintro e w' ⟨rfl, rfl⟩
    go_wp2_with fail
    all_goals
      go_ret
      exact ⟨ret_bool (by rw [hv.out]; simp_all [g2.out]), rfl⟩

theorem r_bd {r : Int} (h0 : 0 ≤ r) (h1 : r ≤ 262144) : 0 ≤ r * r ∧ r * r ≤ 68719476736 := by
  have := np_bd h0 h1 h0 h1; omega
theorem sq_bd {ax ay bx b : Int} (ha : ptOk ax ay = true) (hb : ptOk bx b = true) : 0 ≤ sqI ax ay bx b ∧ sqI ax ay bx b ≤ 549755813888 := by
  obtain ⟨a1, a2, a3, a4⟩ := pt_bd ha
  obtain ⟨b1, b2, b3, b4⟩ := pt_bd hb
  have h1 := df_bd (x := bx - ax) (y := bx - ax) (u := 0) (v := 0) (by omega) (by omega)
  have h2 := df_bd (x := b - ay) (y := b - ay) (u := 0) (v := 0) (by omega) (by omega)
  have := sqI_nonneg ax ay bx b
  unfold sqI at *; omega
theorem turn_bd {ax ay bx b px py : Int} (ha : ptOk ax ay = true) (hb : ptOk bx b = true) (hp : ptOk px py = true) : -549755813888 ≤ turnI ax ay bx b px py ∧ turnI ax ay bx b px py ≤ 549755813888 := by
  obtain ⟨a1, a2, a3, a4⟩ := pt_bd ha
  obtain ⟨b1, b2, b3, b4⟩ := pt_bd hb
  obtain ⟨p1, p2, p3, p4⟩ := pt_bd hp
  have h1 := df_bd (x := bx - ax) (y := py - ay) (u := 0) (v := 0) (by omega) (by omega)
  have h2 := df_bd (x := b - ay) (y := px - ax) (u := 0) (v := 0) (by omega) (by omega)
  unfold turnI; omega

/-! ### both functions -/
/-- the three points' boxes -/
def Box3 (W : World) (X : Nat) (ax ay bx b px py : Int) : Prop := X + 3 ≤ W.heap.size ∧ W.cell? ⟨X, 0, none⟩ = some (.int .i64 ax) ∧ W.cell? ⟨X, 1, none⟩ = some (.int .i64 ay) ∧ W.cell? ⟨X + 1, 0, none⟩ = some (.int .i64 bx) ∧ W.cell? ⟨X + 1, 1, none⟩ = some (.int .i64 b) ∧ W.cell? ⟨X + 1 + 1, 0, none⟩ = some (.int .i64 px) ∧ W.cell? ⟨X + 1 + 1, 1, none⟩ = some (.int .i64 py)
theorem Box3.below {W V : World} {X : Nat} {ax ay bx b px py : Int} (h : Box3 W X ax ay bx b px py) (hb : Below W.heap.size W V) : Box3 V X ax ay bx b px py := by
  obtain ⟨h0, h1, h2, h3, h4, h5, h6⟩ := h
  exact ⟨Nat.le_trans h0 hb.size, (hb.cell (by simp; omega)).trans h1, (hb.cell (by simp; omega)).trans h2, (hb.cell (by simp; omega)).trans h3, (hb.cell (by simp; omega)).trans h4, (hb.cell (by simp; omega)).trans h5, (hb.cell (by simp; omega)).trans h6⟩
theorem Box3.new (w : World) (ax ay bx b px py : Int) (t : TypeId) : Box3 (((w.alloc (.cells #[.int .i64 ax, .int .i64 ay] t)).alloc (.cells #[.int .i64 bx, .int .i64 b] t)).alloc (.cells #[.int .i64 px, .int .i64 py] t)) w.heap.size ax ay bx b px py := by
  have h := heap_new0 w (.cells #[.int .i64 ax, .int .i64 ay] t) (.cells #[.int .i64 bx, .int .i64 b] t) (.cells #[.int .i64 px, .int .i64 py] t)
  exact ⟨by simp, by rw [Go.Joins.cell_of_block h.1]; rfl, by rw [Go.Joins.cell_of_block h.1]; rfl, by rw [Go.Joins.cell_of_block h.2.1]; rfl, by rw [Go.Joins.cell_of_block h.2.1]; rfl, by rw [Go.Joins.cell_of_block h.2.2]; rfl, by rw [Go.Joins.cell_of_block h.2.2]; rfl⟩
theorem neg_sq (t : Int) : -t * -t = t * t := Int.neg_mul_neg t t

set_option maxHeartbeats 2000000 in
theorem l03Near_any (ax ay bx b px py r : Int) (v : Bool) (hv : v = nearB ax ay bx b px py r) (w : World) (ha : ptOk ax ay = true) (hb : ptOk bx b = true) (hp : ptOk px py = true) (h0 : 0 ≤ r) (h1 : r ≤ 262144) :
    Calls Try.prog 49 #[.agg #[.int .i64 ax, .int .i64 ay], .agg #[.int .i64 bx, .int .i64 b], .agg #[.int .i64 px, .int .i64 py], .int .i64 r] w fun e w' => e = .returned (.bool v) ∧ Below w.heap.size w w' := by
  have hc_a := Lib.hid (fun W => l03Sq_any ax ay px py W ha hp)
  have hc_b := Lib.hid (fun W => l03Sq_any bx b px py W hb hp)
  have hc_L := Lib.hid (fun W => l03Sq_any ax ay bx b W ha hb)
  have hc_t := Lib.hid (fun W => l03Turn_any ax ay bx b px py W ha hb hp)
  obtain ⟨r1, r2⟩ := r_bd h0 h1
  obtain ⟨s1, s2⟩ := sq_bd ha hp
  obtain ⟨s3, s4⟩ := sq_bd hb hp
  obtain ⟨s5, s6⟩ := sq_bd ha hb
  obtain ⟨t1, t2⟩ := turn_bd ha hb hp
  have hlo := Lib.hid (near_lo (ax := ax) (ay := ay) (bx := bx) (b := b) (px := px) (py := py) (r := r))
  have hhi := Lib.hid (near_hi (ax := ax) (ay := ay) (bx := bx) (b := b) (px := px) (py := py) (r := r))
  have hmd := Lib.hid (near_mid (ax := ax) (ay := ay) (bx := bx) (b := b) (px := px) (py := py) (r := r))
  have hdf : Hid (nearB ax ay bx b px py r = (decide (sqI ax ay px py ≤ r * r) || decide (sqI bx b px py ≤ r * r) || (decide (0 < dotI ax ay bx b px py) && decide (dotI ax ay bx b px py < sqI ax ay bx b) && decide (turnI ax ay bx b px py * turnI ax ay bx b px py ≤ r * r * sqI ax ay bx b)))) := rfl
  obtain ⟨a1, a2, a3, a4⟩ := pt_bd ha
  obtain ⟨b1, b2, b3, b4⟩ := pt_bd hb
  obtain ⟨p1, p2, p3, p4⟩ := pt_bd hp
  obtain ⟨m1, m2⟩ := df_bd (x := px - ax) (y := bx - ax) (u := 0) (v := 0) (by omega) (by omega)
  obtain ⟨m3, m4⟩ := df_bd (x := py - ay) (y := b - ay) (u := 0) (v := 0) (by omega) (by omega)
  clear ha hb hp
  replace hv := Lib.hid hv
  have hx0 := Lib.hid (Box3.new w ax ay bx b px py 24)
  have hB0 : Below w.heap.size w (((w.alloc (.cells #[.int .i64 ax, .int .i64 ay] 24 (0, 0))).alloc (.cells #[.int .i64 bx, .int .i64 b] 24 (0, 0))).alloc (.cells #[.int .i64 px, .int .i64 py] 24 (0, 0))) := ((((Below.refl _ _).alloc (Nat.le_refl _) _).alloc (by simp) _).alloc (by simp; omega) _)
  have hdd : dotI ax ay bx b px py = (px - ax) * (bx - ax) + (py - ay) * (b - ay) := rfl
  generalize hL : sqI ax ay bx b = L at *
  generalize hS : sqI ax ay px py = S at *
  generalize hT : sqI bx b px py = T at *
  generalize hU : turnI ax ay bx b px py = U at *
  clear hL hS hT hU

  by_cases c1 : S ≤ r * r
  · have hvt : v = true := by rw [hv.out, hdf.out]; simp [c1]
    subst hvt
    clear hdd
    go_enter Try.func49, Try.ntmps49
    go_wp2_with fail
    refine (hc_a.out _).mono ?_
    rintro e w1 ⟨rfl, hb1⟩
    have hx1 := Lib.hid (hx0.out.below hb1)
    have hB1 := hB0.trans (hb1.mono hB0.size)
    clear hx0 hB0 hb1
    obtain ⟨q10, q11, q12, q13, q14, q15, q16⟩ := hx1.out
    go_wp2_with fail
    go_ret
    exact ⟨rfl, hB1⟩
  by_cases c2 : T ≤ r * r
  · have hvt : v = true := by rw [hv.out, hdf.out]; simp [c2]
    subst hvt
    clear hdd
    go_enter Try.func49, Try.ntmps49
    go_wp2_with fail
    refine (hc_a.out _).mono ?_
    rintro e w1 ⟨rfl, hb1⟩
    have hx1 := Lib.hid (hx0.out.below hb1)
    have hB1 := hB0.trans (hb1.mono hB0.size)
    clear hx0 hB0 hb1
    obtain ⟨q10, q11, q12, q13, q14, q15, q16⟩ := hx1.out
    go_wp2_with fail
    refine (hc_b.out _).mono ?_
    rintro e w2 ⟨rfl, hb2⟩
    have hx2 := Lib.hid (hx1.out.below hb2)
    have hB2 := hB1.trans (hb2.mono hB1.size)
    clear hx1 hB1 hb2 q10 q11 q12 q13 q14 q15 q16
    obtain ⟨q20, q21, q22, q23, q24, q25, q26⟩ := hx2.out
    go_wp2_with fail
    go_ret
    exact ⟨rfl, hB2⟩
  by_cases c3 : (px - ax) * (bx - ax) + (py - ay) * (b - ay) ≤ 0
  · have hvt : v = false := by rw [hv.out, hdf.out, hdd]; simp [c1, c2, Int.not_lt.2 c3]
    subst hvt
    clear hdd
    go_enter Try.func49, Try.ntmps49
    go_wp2_with fail
    refine (hc_a.out _).mono ?_
    rintro e w1 ⟨rfl, hb1⟩
    have hx1 := Lib.hid (hx0.out.below hb1)
    have hB1 := hB0.trans (hb1.mono hB0.size)
    clear hx0 hB0 hb1
    obtain ⟨q10, q11, q12, q13, q14, q15, q16⟩ := hx1.out
    go_wp2_with fail
    refine (hc_b.out _).mono ?_
    rintro e w2 ⟨rfl, hb2⟩
    have hx2 := Lib.hid (hx1.out.below hb2)
    have hB2 := hB1.trans (hb2.mono hB1.size)
    clear hx1 hB1 hb2 q10 q11 q12 q13 q14 q15 q16
    obtain ⟨q20, q21, q22, q23, q24, q25, q26⟩ := hx2.out
    go_wp2_with fail
    go_ret
    exact ⟨rfl, hB2⟩
  by_cases c4 : L ≤ (px - ax) * (bx - ax) + (py - ay) * (b - ay)
  · have hvt : v = false := by rw [hv.out, hdf.out, hdd]; simp [c1, c2, Int.not_lt.2 c4]
    subst hvt
    clear hdd
    go_enter Try.func49, Try.ntmps49
    go_wp2_with fail
    refine (hc_a.out _).mono ?_
    rintro e w1 ⟨rfl, hb1⟩
    have hx1 := Lib.hid (hx0.out.below hb1)
    have hB1 := hB0.trans (hb1.mono hB0.size)
    clear hx0 hB0 hb1
    obtain ⟨q10, q11, q12, q13, q14, q15, q16⟩ := hx1.out
    go_wp2_with fail
    refine (hc_b.out _).mono ?_
    rintro e w2 ⟨rfl, hb2⟩
    have hx2 := Lib.hid (hx1.out.below hb2)
    have hB2 := hB1.trans (hb2.mono hB1.size)
    clear hx1 hB1 hb2 q10 q11 q12 q13 q14 q15 q16
    obtain ⟨q20, q21, q22, q23, q24, q25, q26⟩ := hx2.out
    go_wp2_with fail
    refine (hc_L.out _).mono ?_
    rintro e w3 ⟨rfl, hb3⟩
    have hx3 := Lib.hid (hx2.out.below hb3)
    have hB3 := hB2.trans (hb3.mono hB2.size)
    clear hx2 hB2 hb3 q20 q21 q22 q23 q24 q25 q26
    obtain ⟨q30, q31, q32, q33, q34, q35, q36⟩ := hx3.out
    go_wp2_with fail
    go_ret
    exact ⟨rfl, hB3⟩
  have hve : v = decide (U * U ≤ r * r * L) := by rw [hv.out, hdf.out, hdd]; simp [c1, c2, Int.not_le.1 c3, Int.not_le.1 c4]
  clear hdd
  by_cases c5 : U < 0
  · have hless := Lib.hid (fun W => l03Less_any (-U) (-U) (r * r) L v (by rw [neg_sq]; exact hve) W (by omega) (by omega) (by omega) (by omega) (by omega) (by omega) (by omega) (by omega))
    replace hve := Lib.hid hve
    go_enter Try.func49, Try.ntmps49
    go_wp2_with fail
    refine (hc_a.out _).mono ?_
    rintro e w1 ⟨rfl, hb1⟩
    have hx1 := Lib.hid (hx0.out.below hb1)
    have hB1 := hB0.trans (hb1.mono hB0.size)
    clear hx0 hB0 hb1
    obtain ⟨q10, q11, q12, q13, q14, q15, q16⟩ := hx1.out
    go_wp2_with fail
    refine (hc_b.out _).mono ?_
    rintro e w2 ⟨rfl, hb2⟩
    have hx2 := Lib.hid (hx1.out.below hb2)
    have hB2 := hB1.trans (hb2.mono hB1.size)
    clear hx1 hB1 hb2 q10 q11 q12 q13 q14 q15 q16
    obtain ⟨q20, q21, q22, q23, q24, q25, q26⟩ := hx2.out
    go_wp2_with fail
    refine (hc_L.out _).mono ?_
    rintro e w3 ⟨rfl, hb3⟩
    have hx3 := Lib.hid (hx2.out.below hb3)
    have hB3 := hB2.trans (hb3.mono hB2.size)
    clear hx2 hB2 hb3 q20 q21 q22 q23 q24 q25 q26
    obtain ⟨q30, q31, q32, q33, q34, q35, q36⟩ := hx3.out
    go_wp2_with fail
    refine (hc_t.out _).mono ?_
    rintro e w4 ⟨rfl, hb4⟩
    have hx4 := Lib.hid (hx3.out.below hb4)
    have hB4 := hB3.trans (hb4.mono hB3.size)
    clear hx3 hB3 hb4 q30 q31 q32 q33 q34 q35 q36
    obtain ⟨q40, q41, q42, q43, q44, q45, q46⟩ := hx4.out
    go_wp2_with fail
    refine (hc_L.out _).mono ?_
    rintro e w5 ⟨rfl, hb5⟩
    have hx5 := Lib.hid (hx4.out.below hb5)
    have hB5 := hB4.trans (hb5.mono hB4.size)
    clear hx4 hB4 hb5 q40 q41 q42 q43 q44 q45 q46
    obtain ⟨q50, q51, q52, q53, q54, q55, q56⟩ := hx5.out
    go_wp2_with fail
    refine (hless.out _).mono ?_
    rintro e w' ⟨rfl, rfl⟩
    go_wp2_with fail
    go_ret
    exact ⟨rfl, hB5⟩
  · have hless := Lib.hid (fun W => l03Less_any U U (r * r) L v hve W (by omega) (by omega) (by omega) (by omega) (by omega) (by omega) (by omega) (by omega))
    replace hve := Lib.hid hve
    go_enter Try.func49, Try.ntmps49
    go_wp2_with fail
    refine (hc_a.out _).mono ?_
    rintro e w1 ⟨rfl, hb1⟩
    have hx1 := Lib.hid (hx0.out.below hb1)
    have hB1 := hB0.trans (hb1.mono hB0.size)
    clear hx0 hB0 hb1
    obtain ⟨q10, q11, q12, q13, q14, q15, q16⟩ := hx1.out
    go_wp2_with fail
    refine (hc_b.out _).mono ?_
    rintro e w2 ⟨rfl, hb2⟩
    have hx2 := Lib.hid (hx1.out.below hb2)
    have hB2 := hB1.trans (hb2.mono hB1.size)
    clear hx1 hB1 hb2 q10 q11 q12 q13 q14 q15 q16
    obtain ⟨q20, q21, q22, q23, q24, q25, q26⟩ := hx2.out
    go_wp2_with fail
    refine (hc_L.out _).mono ?_
    rintro e w3 ⟨rfl, hb3⟩
    have hx3 := Lib.hid (hx2.out.below hb3)
    have hB3 := hB2.trans (hb3.mono hB2.size)
    clear hx2 hB2 hb3 q20 q21 q22 q23 q24 q25 q26
    obtain ⟨q30, q31, q32, q33, q34, q35, q36⟩ := hx3.out
    go_wp2_with fail
    refine (hc_t.out _).mono ?_
    rintro e w4 ⟨rfl, hb4⟩
    have hx4 := Lib.hid (hx3.out.below hb4)
    have hB4 := hB3.trans (hb4.mono hB3.size)
    clear hx3 hB3 hb4 q30 q31 q32 q33 q34 q35 q36
    obtain ⟨q40, q41, q42, q43, q44, q45, q46⟩ := hx4.out
    go_wp2_with fail
    refine (hc_L.out _).mono ?_
    rintro e w5 ⟨rfl, hb5⟩
    have hx5 := Lib.hid (hx4.out.below hb5)
    have hB5 := hB4.trans (hb5.mono hB4.size)
    clear hx4 hB4 hb5 q40 q41 q42 q43 q44 q45 q46
    obtain ⟨q50, q51, q52, q53, q54, q55, q56⟩ := hx5.out
    go_wp2_with fail
    refine (hless.out _).mono ?_
    rintro e w' ⟨rfl, rfl⟩
    go_wp2_with fail
    go_ret
    exact ⟨rfl, hB5⟩

end Go.Proofs.Ytpmpbfkpiocleaa

