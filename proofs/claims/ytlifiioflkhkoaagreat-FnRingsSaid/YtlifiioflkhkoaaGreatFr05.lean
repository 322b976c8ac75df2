/- Whether a point is near a segment: both sides, walked. Conditions: as each states. -/
import Derived.Laws.BitsLemmas
import Derived.IntWalk
import Derived.BigQuiet
import Derived.Deep.QuietTactic
import Derived.WalkSmall
import Derived.StillTailTactics
import Derived.Deep.RegionHeld3
import Derived.Test.YtlifiioflkhkoaaGreatFr01
import Derived.Test.YtlifiioflkhkoaaGreatFr04
import Derived.Test.YtlifiioflkhkoaaGreatMul
namespace Go.Proofs.YtlifiioflkhkoaaGreat
open Go.RowKit
set_option linter.unusedVariables false
set_option maxRecDepth 100000

theorem pt_bd {x y : Int} (h : ptOk x y = true) : -262144 ≤ x ∧ x ≤ 262144 ∧ -262144 ≤ y ∧ y ≤ 262144 := by
  have := ptOk_iff.1 h; omega
theorem df_bd {x y u v : Int} (hx : -524288 ≤ x ∧ x ≤ 524288) (hy : -524288 ≤ y ∧ y ≤ 524288) : -274877906944 ≤ x * y ∧ x * y ≤ 274877906944 := by
  have := prod_bd hx.1 hx.2 hy.1 hy.2
  omega

theorem l03Sq_any (ax ay bx b : Int) (w : World) (ha : ptOk ax ay = true) (hb : ptOk bx b = true) :
    Calls Tryz.prog 68 #[.agg #[.int .i64 ax, .int .i64 ay], .agg #[.int .i64 bx, .int .i64 b]] w fun e w' => e = .returned (.int .i64 (sqI ax ay bx b)) ∧ Below w.heap.size w w' := by
  obtain ⟨a1, a2, a3, a4⟩ := pt_bd ha
  obtain ⟨b1, b2, b3, b4⟩ := pt_bd hb
  obtain ⟨c1, c2⟩ := df_bd (x := bx - ax) (y := bx - ax) (u := 0) (v := 0) (by omega) (by omega)
  obtain ⟨c3, c4⟩ := df_bd (x := b - ay) (y := b - ay) (u := 0) (v := 0) (by omega) (by omega)
  clear ha hb
  go_enter Tryz.func68, Tryz.ntmps68
  go_wp2_with fail
  go_ret
  exact ⟨rfl, Go.Joins.below_alloc2 _ _ _⟩
theorem distSq_any (ax ay bx b : Int) (w : World) (ha : ptOk ax ay = true) (hb : ptOk bx b = true) :
    Calls Tryz.prog 53 #[.agg #[.int .i64 ax, .int .i64 ay], .agg #[.int .i64 bx, .int .i64 b]] w fun e w' => e = .returned (.int .i64 (sqI ax ay bx b)) ∧ Below w.heap.size w w' := by
  obtain ⟨a1, a2, a3, a4⟩ := pt_bd ha
  obtain ⟨b1, b2, b3, b4⟩ := pt_bd hb
  obtain ⟨c1, c2⟩ := df_bd (x := bx - ax) (y := bx - ax) (u := 0) (v := 0) (by omega) (by omega)
  obtain ⟨c3, c4⟩ := df_bd (x := b - ay) (y := b - ay) (u := 0) (v := 0) (by omega) (by omega)
  have e1 : IntKind.i64.wrap (bx - ax) = bx - ax := IntWalk.i64_in _ (by omega)
  have e2 : IntKind.i64.wrap (b - ay) = b - ay := IntWalk.i64_in _ (by omega)
  clear ha hb
  go_enter Tryz.func53, Tryz.ntmps53
  go_wp2_with fail
  go_quiet (fail)
  clear e1 e2
  go_wp2_with fail
  go_ret
  exact ⟨rfl, below_drewN (Go.Joins.below_alloc2 _ _ _) _⟩
theorem l03Turn_any (ax ay bx b px py : Int) (w : World) (ha : ptOk ax ay = true) (hb : ptOk bx b = true) (hp : ptOk px py = true) :
    Calls Tryz.prog 46 #[.agg #[.int .i64 ax, .int .i64 ay], .agg #[.int .i64 bx, .int .i64 b], .agg #[.int .i64 px, .int .i64 py]] w fun e w' => e = .returned (.int .i64 (turnI ax ay bx b px py)) ∧ Below w.heap.size w w' := by
  obtain ⟨a1, a2, a3, a4⟩ := pt_bd ha
  obtain ⟨b1, b2, b3, b4⟩ := pt_bd hb
  obtain ⟨p1, p2, p3, p4⟩ := pt_bd hp
  obtain ⟨c1, c2⟩ := df_bd (x := bx - ax) (y := py - ay) (u := 0) (v := 0) (by omega) (by omega)
  obtain ⟨c3, c4⟩ := df_bd (x := b - ay) (y := px - ax) (u := 0) (v := 0) (by omega) (by omega)
  clear ha hb hp
  go_enter Tryz.func46, Tryz.ntmps46
  go_wp2_with fail
  go_ret
  exact ⟨rfl, (((Below.refl _ _).alloc (Nat.le_refl _) _).alloc (by simp) _).alloc (by simp; omega) _⟩
theorem turn_any (ax ay bx b px py : Int) (w : World) (ha : ptOk ax ay = true) (hb : ptOk bx b = true) (hp : ptOk px py = true) :
    Calls Tryz.prog 54 #[.agg #[.int .i64 ax, .int .i64 ay], .agg #[.int .i64 bx, .int .i64 b], .agg #[.int .i64 px, .int .i64 py]] w fun e w' => e = .returned (.int .i64 (turnI ax ay bx b px py)) ∧ Below w.heap.size w w' := by
  obtain ⟨a1, a2, a3, a4⟩ := pt_bd ha
  obtain ⟨b1, b2, b3, b4⟩ := pt_bd hb
  obtain ⟨p1, p2, p3, p4⟩ := pt_bd hp
  obtain ⟨c1, c2⟩ := df_bd (x := bx - ax) (y := py - ay) (u := 0) (v := 0) (by omega) (by omega)
  obtain ⟨c3, c4⟩ := df_bd (x := b - ay) (y := px - ax) (u := 0) (v := 0) (by omega) (by omega)
  clear ha hb hp
  go_enter Tryz.func54, Tryz.ntmps54
  go_wp2_with fail
  go_ret
  exact ⟨rfl, (((Below.refl _ _).alloc (Nat.le_refl _) _).alloc (by simp) _).alloc (by simp; omega) _⟩

/-! ### products of two words -/
theorem wraps_i64 (n : Int) (h₀ : 0 ≤ n) (h₁ : n < 2 ^ 63) : IntKind.i64.wrap n = n := by rw [IntKind.wrap_i64]; omega
theorem and31 {x : Int} (h₀ : 0 ≤ x) (h₁ : x < 9223372036854775808) : bits .and .i64 x 2147483647 = x % 2147483648 := bits_mask .i64 63 (by decide) wraps_i64 31 (by decide) x h₀ h₁

theorem or31 {x y : Int} (h0 : 0 ≤ x) (h1 : x < 2147483648) (h2 : 0 ≤ y) (h3 : y < 2147483648) : bits .or .i64 (x * 2147483648) y = x * 2147483648 + y :=
  bits_join .i64 63 (by decide) wraps_i64 31 (x * 2147483648) y (by omega) (by omega) (by omega) h2 (by omega) (by omega)
theorem np_bd {x y A B : Int} (h1 : 0 ≤ x) (h2 : x ≤ A) (h3 : 0 ≤ y) (h4 : y ≤ B) : 0 ≤ x * y ∧ x * y ≤ A * B :=
  ⟨Int.mul_nonneg h1 h3, Int.mul_le_mul h2 h4 h3 (by omega)⟩

theorem l03Wide_any (a b : Int) (w : World) (a0 : 0 ≤ a) (a1 : a ≤ 1099511627776) (b0 : 0 ≤ b) (b1 : b ≤ 1099511627776) :
    Calls Tryz.prog 85 #[.int .i64 a, .int .i64 b] w fun e w' => e = .returned (.tuple #[.int .i64 (wideH a b), .int .i64 (wideL a b)]) ∧ w = w' := by
  have ea := and31 a0 (by omega)
  have eb := and31 b0 (by omega)
  obtain ⟨p1, p2⟩ := np_bd (x := a % 2147483648) (y := b % 2147483648) (A := 2147483647) (B := 2147483647) (by omega) (by omega) (by omega) (by omega)
  obtain ⟨p3, p4⟩ := np_bd (x := a / 2147483648) (y := b % 2147483648) (A := 512) (B := 2147483647) (by omega) (by omega) (by omega) (by omega)
  obtain ⟨p5, p6⟩ := np_bd (x := a % 2147483648) (y := b / 2147483648) (A := 2147483647) (B := 512) (by omega) (by omega) (by omega) (by omega)
  obtain ⟨p7, p8⟩ := np_bd (x := a / 2147483648) (y := b / 2147483648) (A := 512) (B := 512) (by omega) (by omega) (by omega) (by omega)
  have ex := and31 p1 (by omega)
  have ey := and31 (x := a / 2147483648 * (b % 2147483648) + a % 2147483648 * (b / 2147483648) + a % 2147483648 * (b % 2147483648) / 2147483648) (by omega) (by omega)
  have eo := or31 (x := (a / 2147483648 * (b % 2147483648) + a % 2147483648 * (b / 2147483648) + a % 2147483648 * (b % 2147483648) / 2147483648) % 2147483648) (y := a % 2147483648 * (b % 2147483648) % 2147483648) (by omega) (by omega) (by omega) (by omega)
  go_enter Tryz.func85, Tryz.ntmps85
  go_wp2_with fail
  go_ret2
  exact ⟨rfl, rfl⟩

theorem l03Less_any (a b c d : Int) (v : Bool) (hv : v = decide (a * b ≤ c * d)) (w : World) (a0 : 0 ≤ a) (a1 : a ≤ 1099511627776) (b0 : 0 ≤ b) (b1 : b ≤ 1099511627776) (c0 : 0 ≤ c) (c1 : c ≤ 1099511627776) (d0 : 0 ≤ d) (d1 : d ≤ 1099511627776) :
    Calls Tryz.prog 69 #[.int .i64 a, .int .i64 b, .int .i64 c, .int .i64 d] w fun e w' => e = .returned (.bool v) ∧ w = w' := by
  rw [← wide_le] at hv
  have h1 := Lib.hid (fun W => l03Wide_any a b W a0 a1 b0 b1)
  have h2 := Lib.hid (fun W => l03Wide_any c d W c0 c1 d0 d1)
  replace hv := Lib.hid hv
  generalize wideH a b = x1 at *
  generalize wideL a b = x2 at *
  generalize wideH c d = y1 at *
  generalize wideL c d = y2 at *
  by_cases g2 : x1 = y1
  · have g4 : (x1 == y1) = true := by simp [g2]
    replace g2 := Lib.hid g2
    go_enter Tryz.func69, Tryz.ntmps69
    go_wp2_with fail
    refine (h1.out _).mono ?_
    rintro e w' ⟨rfl, rfl⟩
    go_wp2_with fail
    refine (h2.out _).mono ?_
    rintro e w' ⟨rfl, rfl⟩
    go_wp2_with fail
    all_goals
      go_ret
      exact ⟨ret_bool (by rw [hv.out, g2.out]; simp_all [g2.out]), rfl⟩
  · have g4 : (x1 == y1) = false := by simp [g2]
    replace g2 := Lib.hid g2
    go_enter Tryz.func69, Tryz.ntmps69
    go_wp2_with fail
    refine (h1.out _).mono ?_
    rintro e w' ⟨rfl, rfl⟩
    go_wp2_with fail
    refine (h2.out _).mono ?_
    rintro e w' ⟨rfl, rfl⟩
    go_wp2_with fail
    all_goals
      go_ret
      exact ⟨ret_bool (by rw [hv.out]; simp_all [g2.out]), rfl⟩

theorem mul64_any (a b : Int) (w : World) (a0 : 0 ≤ a) (a1 : a < 18446744073709551616) (b0 : 0 ≤ b) (b1 : b < 18446744073709551616) :
    Calls Tryz.prog 84 #[.int .u64 a, .int .u64 b] w fun e w' => e = .returned (.tuple #[.int .u64 (a * b / 18446744073709551616), .int .u64 (a * b % 18446744073709551616)]) ∧ w = w' := by
  obtain ⟨x, rfl⟩ := Int.eq_ofNat_of_zero_le a0
  obtain ⟨y, rfl⟩ := Int.eq_ofNat_of_zero_le b0
  refine (Tryz.bits_Mul64 x y (by omega) (by omega) w).mono ?_
  rintro e w' ⟨rfl, rfl⟩
  refine ⟨?_, rfl⟩
  have e0 : (x : Int) * (y : Int) = ((x * y : Nat) : Int) := (Int.natCast_mul x y).symm
  rw [e0]
  generalize x * y = z
  have e1 : ((z / 18446744073709551616 : Nat) : Int) = (z : Int) / 18446744073709551616 := by omega
  have e2 : ((z % 18446744073709551616 : Nat) : Int) = (z : Int) % 18446744073709551616 := by omega
  rw [e1, e2]

theorem productAtMost_any (a b c d : Int) (v : Bool) (hv : v = decide (a * b ≤ c * d)) (w : World) (a0 : 0 ≤ a) (a1 : a ≤ 1099511627776) (b0 : 0 ≤ b) (b1 : b ≤ 1099511627776) (c0 : 0 ≤ c) (c1 : c ≤ 1099511627776) (d0 : 0 ≤ d) (d1 : d ≤ 1099511627776) :
    Calls Tryz.prog 67 #[.int .i64 a, .int .i64 b, .int .i64 c, .int .i64 d] w fun e w' => e = .returned (.bool v) ∧ w = w' := by
  rw [← mul64_le] at hv
  have h1 := Lib.hid (fun W => mul64_any a b W a0 (by omega) b0 (by omega))
  have h2 := Lib.hid (fun W => mul64_any c d W c0 (by omega) d0 (by omega))
  replace hv := Lib.hid hv
  generalize a * b / 18446744073709551616 = x1 at *
  generalize a * b % 18446744073709551616 = x2 at *
  generalize c * d / 18446744073709551616 = y1 at *
  generalize c * d % 18446744073709551616 = y2 at *
  by_cases g2 : x1 = y1
  · have g4 : (x1 == y1) = true := by simp [g2]
    replace g2 := Lib.hid g2
    go_enter Tryz.func67, Tryz.ntmps67
    go_wp2_with fail
    refine (h1.out _).mono ?_
    rintro e w' ⟨rfl, rfl⟩
    go_wp2_with fail
    refine (h2.out _).mono ?_
    rintro e w' ⟨rfl, rfl⟩
    go_wp2_with fail
    all_goals
      go_ret
      exact ⟨ret_bool (by rw [hv.out, g2.out]; simp_all [g2.out]), rfl⟩
  · have g4 : (x1 == y1) = false := by simp [g2]
    replace g2 := Lib.hid g2
    go_enter Tryz.func67, Tryz.ntmps67
    go_wp2_with fail
    refine (h1.out _).mono ?_
    rintro e w' ⟨rfl, rfl⟩
    go_wp2_with fail
    refine (h2.out _).mono ?_
    rintro e w' ⟨rfl, rfl⟩
    go_wp2_with fail
    all_goals
      go_ret
      exact ⟨ret_bool (by rw [hv.out]; simp_all [g2.out]), rfl⟩

theorem r_bd {r : Int} (h0 : 0 ≤ r) (h1 : r ≤ 262144) : 0 ≤ r * r ∧ r * r ≤ 68719476736 := by
  have := np_bd h0 h1 h0 h1; omega
theorem sq_bd {ax ay bx b : Int} (ha : ptOk ax ay = true) (hb : ptOk bx b = true) : 0 ≤ sqI ax ay bx b ∧ sqI ax ay bx b ≤ 549755813888 := by
  obtain ⟨a1, a2, a3, a4⟩ := pt_bd ha
  obtain ⟨b1, b2, b3, b4⟩ := pt_bd hb
  have h1 := df_bd (x := bx - ax) (y := bx - ax) (u := 0) (v := 0) (by omega) (by omega)
  have h2 := df_bd (x := b - ay) (y := b - ay) (u := 0) (v := 0) (by omega) (by omega)
  have := sqI_nonneg ax ay bx b
  unfold sqI at *; omega
theorem turn_bd {ax ay bx b px py : Int} (ha : ptOk ax ay = true) (hb : ptOk bx b = true) (hp : ptOk px py = true) : -549755813888 ≤ turnI ax ay bx b px py ∧ turnI ax ay bx b px py ≤ 549755813888 := by
  obtain ⟨a1, a2, a3, a4⟩ := pt_bd ha
  obtain ⟨b1, b2, b3, b4⟩ := pt_bd hb
  obtain ⟨p1, p2, p3, p4⟩ := pt_bd hp
  have h1 := df_bd (x := bx - ax) (y := py - ay) (u := 0) (v := 0) (by omega) (by omega)
  have h2 := df_bd (x := b - ay) (y := px - ax) (u := 0) (v := 0) (by omega) (by omega)
  unfold turnI; omega

/-! ### both functions -/
/-- the three points' boxes -/
def Box3 (W : World) (X : Nat) (ax ay bx b px py : Int) : Prop := X + 3 ≤ W.heap.size ∧ W.cell? ⟨X, 0, none⟩ = some (.int .i64 ax) ∧ W.cell? ⟨X, 1, none⟩ = some (.int .i64 ay) ∧ W.cell? ⟨X + 1, 0, none⟩ = some (.int .i64 bx) ∧ W.cell? ⟨X + 1, 1, none⟩ = some (.int .i64 b) ∧ W.cell? ⟨X + 1 + 1, 0, none⟩ = some (.int .i64 px) ∧ W.cell? ⟨X + 1 + 1, 1, none⟩ = some (.int .i64 py)
theorem Box3.below {W V : World} {X : Nat} {ax ay bx b px py : Int} (h : Box3 W X ax ay bx b px py) (hb : Below W.heap.size W V) : Box3 V X ax ay bx b px py := by
  obtain ⟨h0, h1, h2, h3, h4, h5, h6⟩ := h
  exact ⟨Nat.le_trans h0 hb.size, (hb.cell (by simp; omega)).trans h1, (hb.cell (by simp; omega)).trans h2, (hb.cell (by simp; omega)).trans h3, (hb.cell (by simp; omega)).trans h4, (hb.cell (by simp; omega)).trans h5, (hb.cell (by simp; omega)).trans h6⟩
theorem Box3.new (w : World) (ax ay bx b px py : Int) (t : TypeId) : Box3 (((w.alloc (.cells #[.int .i64 ax, .int .i64 ay] t)).alloc (.cells #[.int .i64 bx, .int .i64 b] t)).alloc (.cells #[.int .i64 px, .int .i64 py] t)) w.heap.size ax ay bx b px py := by
  have h := heap_new0 w (.cells #[.int .i64 ax, .int .i64 ay] t) (.cells #[.int .i64 bx, .int .i64 b] t) (.cells #[.int .i64 px, .int .i64 py] t)
  exact ⟨by simp, by rw [Go.Joins.cell_of_block h.1]; rfl, by rw [Go.Joins.cell_of_block h.1]; rfl, by rw [Go.Joins.cell_of_block h.2.1]; rfl, by rw [Go.Joins.cell_of_block h.2.1]; rfl, by rw [Go.Joins.cell_of_block h.2.2]; rfl, by rw [Go.Joins.cell_of_block h.2.2]; rfl⟩
theorem neg_sq (t : Int) : -t * -t = t * t := Int.neg_mul_neg t t

set_option maxHeartbeats 2000000 in
theorem l03Near_any (ax ay bx b px py r : Int) (v : Bool) (hv : v = nearB ax ay bx b px py r) (w : World) (ha : ptOk ax ay = true) (hb : ptOk bx b = true) (hp : ptOk px py = true) (h0 : 0 ≤ r) (h1 : r ≤ 262144) :
    Calls Tryz.prog 56 #[.agg #[.int .i64 ax, .int .i64 ay], .agg #[.int .i64 bx, .int .i64 b], .agg #[.int .i64 px, .int .i64 py], .int .i64 r] w fun e w' => e = .returned (.bool v) ∧ Below w.heap.size w w' := by
  have hc_a := Lib.hid (fun W => l03Sq_any ax ay px py W ha hp)
  have hc_b := Lib.hid (fun W => l03Sq_any bx b px py W hb hp)
  have hc_L := Lib.hid (fun W => l03Sq_any ax ay bx b W ha hb)
  have hc_t := Lib.hid (fun W => l03Turn_any ax ay bx b px py W ha hb hp)
  obtain ⟨r1, r2⟩ := r_bd h0 h1
  obtain ⟨s1, s2⟩ := sq_bd ha hp
  obtain ⟨s3, s4⟩ := sq_bd hb hp
  obtain ⟨s5, s6⟩ := sq_bd ha hb
  obtain ⟨t1, t2⟩ := turn_bd ha hb hp
  have hlo := Lib.hid (near_lo (ax := ax) (ay := ay) (bx := bx) (b := b) (px := px) (py := py) (r := r))
  have hhi := Lib.hid (near_hi (ax := ax) (ay := ay) (bx := bx) (b := b) (px := px) (py := py) (r := r))
  have hmd := Lib.hid (near_mid (ax := ax) (ay := ay) (bx := bx) (b := b) (px := px) (py := py) (r := r))
  have hdf : Hid (nearB ax ay bx b px py r = (decide (sqI ax ay px py ≤ r * r) || decide (sqI bx b px py ≤ r * r) || (decide (0 < dotI ax ay bx b px py) && decide (dotI ax ay bx b px py < sqI ax ay bx b) && decide (turnI ax ay bx b px py * turnI ax ay bx b px py ≤ r * r * sqI ax ay bx b)))) := rfl
  obtain ⟨a1, a2, a3, a4⟩ := pt_bd ha
  obtain ⟨b1, b2, b3, b4⟩ := pt_bd hb
  obtain ⟨p1, p2, p3, p4⟩ := pt_bd hp
  obtain ⟨m1, m2⟩ := df_bd (x := px - ax) (y := bx - ax) (u := 0) (v := 0) (by omega) (by omega)
  obtain ⟨m3, m4⟩ := df_bd (x := py - ay) (y := b - ay) (u := 0) (v := 0) (by omega) (by omega)
  clear ha hb hp
  replace hv := Lib.hid hv
  have hx0 := Lib.hid (Box3.new w ax ay bx b px py 28)
  have hB0 : Below w.heap.size w (((w.alloc (.cells #[.int .i64 ax, .int .i64 ay] 28 (0, 0))).alloc (.cells #[.int .i64 bx, .int .i64 b] 28 (0, 0))).alloc (.cells #[.int .i64 px, .int .i64 py] 28 (0, 0))) := ((((Below.refl _ _).alloc (Nat.le_refl _) _).alloc (by simp) _).alloc (by simp; omega) _)
  have hdd : dotI ax ay bx b px py = (px - ax) * (bx - ax) + (py - ay) * (b - ay) := rfl
  generalize hL : sqI ax ay bx b = L at *
  generalize hS : sqI ax ay px py = S at *
  generalize hT : sqI bx b px py = T at *
  generalize hU : turnI ax ay bx b px py = U at *
  clear hL hS hT hU

  by_cases c1 : S ≤ r * r
  · have hvt : v = true := by rw [hv.out, hdf.out]; simp [c1]
    subst hvt
    clear hdd
    go_enter Tryz.func56, Tryz.ntmps56
    go_wp2_with fail
    refine (hc_a.out _).mono ?_
    rintro e w1 ⟨rfl, hb1⟩
    have hx1 := Lib.hid (hx0.out.below hb1)
    have hB1 := hB0.trans (hb1.mono hB0.size)
    clear hx0 hB0 hb1
    obtain ⟨q10, q11, q12, q13, q14, q15, q16⟩ := hx1.out
    go_wp2_with fail
    go_ret
    exact ⟨rfl, hB1⟩
  by_cases c2 : T ≤ r * r
  · have hvt : v = true := by rw [hv.out, hdf.out]; simp [c2]
    subst hvt
    clear hdd
    go_enter Tryz.func56, Tryz.ntmps56
    go_wp2_with fail
    refine (hc_a.out _).mono ?_
    rintro e w1 ⟨rfl, hb1⟩
    have hx1 := Lib.hid (hx0.out.below hb1)
    have hB1 := hB0.trans (hb1.mono hB0.size)
    clear hx0 hB0 hb1
    obtain ⟨q10, q11, q12, q13, q14, q15, q16⟩ := hx1.out
    go_wp2_with fail
    refine (hc_b.out _).mono ?_
    rintro e w2 ⟨rfl, hb2⟩
    have hx2 := Lib.hid (hx1.out.below hb2)
    have hB2 := hB1.trans (hb2.mono hB1.size)
    clear hx1 hB1 hb2 q10 q11 q12 q13 q14 q15 q16
    obtain ⟨q20, q21, q22, q23, q24, q25, q26⟩ := hx2.out
    go_wp2_with fail
    go_ret
    exact ⟨rfl, hB2⟩
  by_cases c3 : (px - ax) * (bx - ax) + (py - ay) * (b - ay) ≤ 0
  · have hvt : v = false := by rw [hv.out, hdf.out, hdd]; simp [c1, c2, Int.not_lt.2 c3]
    subst hvt
    clear hdd
    go_enter Tryz.func56, Tryz.ntmps56
    go_wp2_with fail
    refine (hc_a.out _).mono ?_
    rintro e w1 ⟨rfl, hb1⟩
    have hx1 := Lib.hid (hx0.out.below hb1)
    have hB1 := hB0.trans (hb1.mono hB0.size)
    clear hx0 hB0 hb1
    obtain ⟨q10, q11, q12, q13, q14, q15, q16⟩ := hx1.out
    go_wp2_with fail
    refine (hc_b.out _).mono ?_
    rintro e w2 ⟨rfl, hb2⟩
    have hx2 := Lib.hid (hx1.out.below hb2)
    have hB2 := hB1.trans (hb2.mono hB1.size)
    clear hx1 hB1 hb2 q10 q11 q12 q13 q14 q15 q16
    obtain ⟨q20, q21, q22, q23, q24, q25, q26⟩ := hx2.out
    go_wp2_with fail
    go_ret
    exact ⟨rfl, hB2⟩
  by_cases c4 : L ≤ (px - ax) * (bx - ax) + (py - ay) * (b - ay)
  · have hvt : v = false := by rw [hv.out, hdf.out, hdd]; simp [c1, c2, Int.not_lt.2 c4]
    subst hvt
    clear hdd
    go_enter Tryz.func56, Tryz.ntmps56
    go_wp2_with fail
    refine (hc_a.out _).mono ?_
    rintro e w1 ⟨rfl, hb1⟩
    have hx1 := Lib.hid (hx0.out.below hb1)
    have hB1 := hB0.trans (hb1.mono hB0.size)
    clear hx0 hB0 hb1
    obtain ⟨q10, q11, q12, q13, q14, q15, q16⟩ := hx1.out
    go_wp2_with fail
    refine (hc_b.out _).mono ?_
    rintro e w2 ⟨rfl, hb2⟩
    have hx2 := Lib.hid (hx1.out.below hb2)
    have hB2 := hB1.trans (hb2.mono hB1.size)
    clear hx1 hB1 hb2 q10 q11 q12 q13 q14 q15 q16
    obtain ⟨q20, q21, q22, q23, q24, q25, q26⟩ := hx2.out
    go_wp2_with fail
    refine (hc_L.out _).mono ?_
    rintro e w3 ⟨rfl, hb3⟩
    have hx3 := Lib.hid (hx2.out.below hb3)
    have hB3 := hB2.trans (hb3.mono hB2.size)
    clear hx2 hB2 hb3 q20 q21 q22 q23 q24 q25 q26
    obtain ⟨q30, q31, q32, q33, q34, q35, q36⟩ := hx3.out
    go_wp2_with fail
    go_ret
    exact ⟨rfl, hB3⟩
  have hve : v = decide (U * U ≤ r * r * L) := by rw [hv.out, hdf.out, hdd]; simp [c1, c2, Int.not_le.1 c3, Int.not_le.1 c4]
  clear hdd
  by_cases c5 : U < 0
  · have hless := Lib.hid (fun W => l03Less_any (-U) (-U) (r * r) L v (by rw [neg_sq]; exact hve) W (by omega) (by omega) (by omega) (by omega) (by omega) (by omega) (by omega) (by omega))
    replace hve := Lib.hid hve
    go_enter Tryz.func56, Tryz.ntmps56
    go_wp2_with fail
    refine (hc_a.out _).mono ?_
    rintro e w1 ⟨rfl, hb1⟩
    have hx1 := Lib.hid (hx0.out.below hb1)
    have hB1 := hB0.trans (hb1.mono hB0.size)
    clear hx0 hB0 hb1
    obtain ⟨q10, q11, q12, q13, q14, q15, q16⟩ := hx1.out
    go_wp2_with fail
    refine (hc_b.out _).mono ?_
    rintro e w2 ⟨rfl, hb2⟩
    have hx2 := Lib.hid (hx1.out.below hb2)
    have hB2 := hB1.trans (hb2.mono hB1.size)
    clear hx1 hB1 hb2 q10 q11 q12 q13 q14 q15 q16
    obtain ⟨q20, q21, q22, q23, q24, q25, q26⟩ := hx2.out
    go_wp2_with fail
    refine (hc_L.out _).mono ?_
    rintro e w3 ⟨rfl, hb3⟩
    have hx3 := Lib.hid (hx2.out.below hb3)
    have hB3 := hB2.trans (hb3.mono hB2.size)
    clear hx2 hB2 hb3 q20 q21 q22 q23 q24 q25 q26
    obtain ⟨q30, q31, q32, q33, q34, q35, q36⟩ := hx3.out
    go_wp2_with fail
    refine (hc_t.out _).mono ?_
    rintro e w4 ⟨rfl, hb4⟩
    have hx4 := Lib.hid (hx3.out.below hb4)
    have hB4 := hB3.trans (hb4.mono hB3.size)
    clear hx3 hB3 hb4 q30 q31 q32 q33 q34 q35 q36
    obtain ⟨q40, q41, q42, q43, q44, q45, q46⟩ := hx4.out
    go_wp2_with fail
    refine (hc_L.out _).mono ?_
    rintro e w5 ⟨rfl, hb5⟩
    have hx5 := Lib.hid (hx4.out.below hb5)
    have hB5 := hB4.trans (hb5.mono hB4.size)
    clear hx4 hB4 hb5 q40 q41 q42 q43 q44 q45 q46
    obtain ⟨q50, q51, q52, q53, q54, q55, q56⟩ := hx5.out
    go_wp2_with fail
    refine (hless.out _).mono ?_
    rintro e w' ⟨rfl, rfl⟩
    go_wp2_with fail
    go_ret
    exact ⟨rfl, hB5⟩
  · have hless := Lib.hid (fun W => l03Less_any U U (r * r) L v hve W (by omega) (by omega) (by omega) (by omega) (by omega) (by omega) (by omega) (by omega))
    replace hve := Lib.hid hve
    go_enter Tryz.func56, Tryz.ntmps56
    go_wp2_with fail
    refine (hc_a.out _).mono ?_
    rintro e w1 ⟨rfl, hb1⟩
    have hx1 := Lib.hid (hx0.out.below hb1)
    have hB1 := hB0.trans (hb1.mono hB0.size)
    clear hx0 hB0 hb1
    obtain ⟨q10, q11, q12, q13, q14, q15, q16⟩ := hx1.out
    go_wp2_with fail
    refine (hc_b.out _).mono ?_
    rintro e w2 ⟨rfl, hb2⟩
    have hx2 := Lib.hid (hx1.out.below hb2)
    have hB2 := hB1.trans (hb2.mono hB1.size)
    clear hx1 hB1 hb2 q10 q11 q12 q13 q14 q15 q16
    obtain ⟨q20, q21, q22, q23, q24, q25, q26⟩ := hx2.out
    go_wp2_with fail
    refine (hc_L.out _).mono ?_
    rintro e w3 ⟨rfl, hb3⟩
    have hx3 := Lib.hid (hx2.out.below hb3)
    have hB3 := hB2.trans (hb3.mono hB2.size)
    clear hx2 hB2 hb3 q20 q21 q22 q23 q24 q25 q26
    obtain ⟨q30, q31, q32, q33, q34, q35, q36⟩ := hx3.out
    go_wp2_with fail
    refine (hc_t.out _).mono ?_
    rintro e w4 ⟨rfl, hb4⟩
    have hx4 := Lib.hid (hx3.out.below hb4)
    have hB4 := hB3.trans (hb4.mono hB3.size)
    clear hx3 hB3 hb4 q30 q31 q32 q33 q34 q35 q36
    obtain ⟨q40, q41, q42, q43, q44, q45, q46⟩ := hx4.out
    go_wp2_with fail
    refine (hc_L.out _).mono ?_
    rintro e w5 ⟨rfl, hb5⟩
    have hx5 := Lib.hid (hx4.out.below hb5)
    have hB5 := hB4.trans (hb5.mono hB4.size)
    clear hx4 hB4 hb5 q40 q41 q42 q43 q44 q45 q46
    obtain ⟨q50, q51, q52, q53, q54, q55, q56⟩ := hx5.out
    go_wp2_with fail
    refine (hless.out _).mono ?_
    rintro e w' ⟨rfl, rfl⟩
    go_wp2_with fail
    go_ret
    exact ⟨rfl, hB5⟩

set_option maxHeartbeats 2000000 in
theorem nearSegment_any (ax ay bx b px py r : Int) (v : Bool) (hv : v = nearB ax ay bx b px py r) (w : World) (ha : ptOk ax ay = true) (hb : ptOk bx b = true) (hp : ptOk px py = true) (h0 : 0 ≤ r) (h1 : r ≤ 262144) :
    Calls Tryz.prog 52 #[.agg #[.int .i64 ax, .int .i64 ay], .agg #[.int .i64 bx, .int .i64 b], .agg #[.int .i64 px, .int .i64 py], .int .i64 r] w fun e w' => e = .returned (.bool v) ∧ Below w.heap.size w w' := by
  have hc_a := Lib.hid (fun W => distSq_any ax ay px py W ha hp)
  have hc_b := Lib.hid (fun W => distSq_any bx b px py W hb hp)
  have hc_L := Lib.hid (fun W => distSq_any ax ay bx b W ha hb)
  have hc_t := Lib.hid (fun W => turn_any ax ay bx b px py W ha hb hp)
  obtain ⟨r1, r2⟩ := r_bd h0 h1
  obtain ⟨s1, s2⟩ := sq_bd ha hp
  obtain ⟨s3, s4⟩ := sq_bd hb hp
  obtain ⟨s5, s6⟩ := sq_bd ha hb
  obtain ⟨t1, t2⟩ := turn_bd ha hb hp
  have hlo := Lib.hid (near_lo (ax := ax) (ay := ay) (bx := bx) (b := b) (px := px) (py := py) (r := r))
  have hhi := Lib.hid (near_hi (ax := ax) (ay := ay) (bx := bx) (b := b) (px := px) (py := py) (r := r))
  have hmd := Lib.hid (near_mid (ax := ax) (ay := ay) (bx := bx) (b := b) (px := px) (py := py) (r := r))
  have hdf : Hid (nearB ax ay bx b px py r = (decide (sqI ax ay px py ≤ r * r) || decide (sqI bx b px py ≤ r * r) || (decide (0 < dotI ax ay bx b px py) && decide (dotI ax ay bx b px py < sqI ax ay bx b) && decide (turnI ax ay bx b px py * turnI ax ay bx b px py ≤ r * r * sqI ax ay bx b)))) := rfl
  obtain ⟨a1, a2, a3, a4⟩ := pt_bd ha
  obtain ⟨b1, b2, b3, b4⟩ := pt_bd hb
  obtain ⟨p1, p2, p3, p4⟩ := pt_bd hp
  obtain ⟨m1, m2⟩ := df_bd (x := px - ax) (y := bx - ax) (u := 0) (v := 0) (by omega) (by omega)
  obtain ⟨m3, m4⟩ := df_bd (x := py - ay) (y := b - ay) (u := 0) (v := 0) (by omega) (by omega)
  clear ha hb hp
  replace hv := Lib.hid hv
  have hx0 := Lib.hid (Box3.new w ax ay bx b px py 28)
  have hB0 : Below w.heap.size w (((w.alloc (.cells #[.int .i64 ax, .int .i64 ay] 28 (0, 0))).alloc (.cells #[.int .i64 bx, .int .i64 b] 28 (0, 0))).alloc (.cells #[.int .i64 px, .int .i64 py] 28 (0, 0))) := ((((Below.refl _ _).alloc (Nat.le_refl _) _).alloc (by simp) _).alloc (by simp; omega) _)
  have hdd : dotI ax ay bx b px py = (px - ax) * (bx - ax) + (py - ay) * (b - ay) := rfl
  generalize hL : sqI ax ay bx b = L at *
  generalize hS : sqI ax ay px py = S at *
  generalize hT : sqI bx b px py = T at *
  generalize hU : turnI ax ay bx b px py = U at *
  clear hL hS hT hU

  by_cases c3 : (px - ax) * (bx - ax) + (py - ay) * (b - ay) ≤ 0
  · have hve := Lib.hid (hv.out.trans (hlo.out (by rw [hdd]; exact c3)))
    clear hdd
    go_enter Tryz.func52, Tryz.ntmps52
    go_wp2_with fail
    refine (hc_L.out _).mono ?_
    rintro e w1 ⟨rfl, hb1⟩
    have hx1 := Lib.hid (hx0.out.below hb1)
    have hB1 := hB0.trans (hb1.mono hB0.size)
    clear hx0 hB0 hb1
    obtain ⟨q10, q11, q12, q13, q14, q15, q16⟩ := hx1.out
    go_wp2_with fail
    refine (hc_a.out _).mono ?_
    rintro e w2 ⟨rfl, hb2⟩
    have hx2 := Lib.hid (hx1.out.below hb2)
    have hB2 := hB1.trans (hb2.mono hB1.size)
    clear hx1 hB1 hb2 q10 q11 q12 q13 q14 q15 q16
    obtain ⟨q20, q21, q22, q23, q24, q25, q26⟩ := hx2.out
    go_wp2_with fail
    go_ret
    exact ⟨ret_bool (by rw [hve.out]), hB2⟩
  by_cases c4 : L ≤ (px - ax) * (bx - ax) + (py - ay) * (b - ay)
  · have hve := Lib.hid (hv.out.trans (hhi.out (by rw [hdd]; omega) (by rw [hdd]; exact c4)))
    clear hdd
    go_enter Tryz.func52, Tryz.ntmps52
    go_wp2_with fail
    refine (hc_L.out _).mono ?_
    rintro e w1 ⟨rfl, hb1⟩
    have hx1 := Lib.hid (hx0.out.below hb1)
    have hB1 := hB0.trans (hb1.mono hB0.size)
    clear hx0 hB0 hb1
    obtain ⟨q10, q11, q12, q13, q14, q15, q16⟩ := hx1.out
    go_wp2_with fail
    refine (hc_b.out _).mono ?_
    rintro e w2 ⟨rfl, hb2⟩
    have hx2 := Lib.hid (hx1.out.below hb2)
    have hB2 := hB1.trans (hb2.mono hB1.size)
    clear hx1 hB1 hb2 q10 q11 q12 q13 q14 q15 q16
    obtain ⟨q20, q21, q22, q23, q24, q25, q26⟩ := hx2.out
    go_wp2_with fail
    go_ret
    exact ⟨ret_bool (by rw [hve.out]), hB2⟩
  have hve := hv.out.trans (hmd.out (by rw [hdd]; omega) (by rw [hdd]; omega))
  clear hdd
  by_cases c5 : U < 0
  · have hless := Lib.hid (fun W => productAtMost_any (-U) (-U) (r * r) L v (by rw [neg_sq]; exact hve) W (by omega) (by omega) (by omega) (by omega) (by omega) (by omega) (by omega) (by omega))
    replace hve := Lib.hid hve
    go_enter Tryz.func52, Tryz.ntmps52
    go_wp2_with fail
    refine (hc_L.out _).mono ?_
    rintro e w1 ⟨rfl, hb1⟩
    have hx1 := Lib.hid (hx0.out.below hb1)
    have hB1 := hB0.trans (hb1.mono hB0.size)
    clear hx0 hB0 hb1
    obtain ⟨q10, q11, q12, q13, q14, q15, q16⟩ := hx1.out
    go_wp2_with fail
    refine (hc_t.out _).mono ?_
    rintro e w2 ⟨rfl, hb2⟩
    have hx2 := Lib.hid (hx1.out.below hb2)
    have hB2 := hB1.trans (hb2.mono hB1.size)
    clear hx1 hB1 hb2 q10 q11 q12 q13 q14 q15 q16
    obtain ⟨q20, q21, q22, q23, q24, q25, q26⟩ := hx2.out
    go_wp2_with fail
    refine (hless.out _).mono ?_
    rintro e w' ⟨rfl, rfl⟩
    go_wp2_with fail
    go_ret
    exact ⟨rfl, hB2⟩
  · have hless := Lib.hid (fun W => productAtMost_any U U (r * r) L v hve W (by omega) (by omega) (by omega) (by omega) (by omega) (by omega) (by omega) (by omega))
    replace hve := Lib.hid hve
    go_enter Tryz.func52, Tryz.ntmps52
    go_wp2_with fail
    refine (hc_L.out _).mono ?_
    rintro e w1 ⟨rfl, hb1⟩
    have hx1 := Lib.hid (hx0.out.below hb1)
    have hB1 := hB0.trans (hb1.mono hB0.size)
    clear hx0 hB0 hb1
    obtain ⟨q10, q11, q12, q13, q14, q15, q16⟩ := hx1.out
    go_wp2_with fail
    refine (hc_t.out _).mono ?_
    rintro e w2 ⟨rfl, hb2⟩
    have hx2 := Lib.hid (hx1.out.below hb2)
    have hB2 := hB1.trans (hb2.mono hB1.size)
    clear hx1 hB1 hb2 q10 q11 q12 q13 q14 q15 q16
    obtain ⟨q20, q21, q22, q23, q24, q25, q26⟩ := hx2.out
    go_wp2_with fail
    refine (hless.out _).mono ?_
    rintro e w' ⟨rfl, rfl⟩
    go_wp2_with fail
    go_ret
    exact ⟨rfl, hB2⟩
end Go.Proofs.YtlifiioflkhkoaaGreat

/- Whether a path is near a point: both sides, walked; the law on NearPath. Conditions: as each states. -/
namespace Go.Proofs.YtlifiioflkhkoaaGreat
open Go.RowKit
set_option linter.unusedVariables false
set_option maxRecDepth 100000

def pt2Ok (p : Int × Int) : Bool := ptOk p.1 p.2
theorem pts_no {L : List (Int × Int)} {k : Nat} {a : Int × Int} (h : L[k]? = some a) (hf : ptOk a.1 a.2 = false) : L.all pt2Ok = false := by
  rw [List.all_eq_false]; exact ⟨a, List.mem_of_getElem? h, by simp [pt2Ok, hf]⟩
theorem pts_step {L : List (Int × Int)} {k : Nat} {a : Int × Int} (h0 : (L.take k).all pt2Ok = true) (h : L[k]? = some a) (hf : ptOk a.1 a.2 = true) : (L.take (k + 1)).all pt2Ok = true := by
  have hl := (List.getElem?_eq_some_iff.1 h).1
  rw [List.getElem?_eq_getElem hl] at h; injection h with h
  rw [List.take_succ_eq_append_getElem hl, List.all_append, h0, h]; simp [pt2Ok, hf]
theorem far_step {L : List (Int × Int)} {px py r : Int} {k : Nat} {a b : Int × Int} (h : farTo L px py r k) (ha : L[k]? = some a) (hb : L[k + 1]? = some b) (hn : nearB a.1 a.2 b.1 b.2 px py r = false) : farTo L px py r (k + 1) := by
  intro i a' b' hi h1 h2
  by_cases hik : i = k
  · subst hik
    have e1 := Option.some.inj (ha.symm.trans h1)
    have e2 := Option.some.inj (hb.symm.trans h2)
    subst e1 e2; exact hn
  · exact h i a' b' (by omega) h1 h2
theorem one_of {α : Type} {L : List α} (h : L.length = 1) {a : α} (ha : L[0]? = some a) : L = [a] := by
  match L, h with
  | [x], _ => simp at ha; rw [ha]

set_option maxHeartbeats 1000000 in
theorem l13Points_any (A : Option Addr) (n c lo hi : Nat) (L : List (Int × Int)) (v : Bool) (hv : v = L.all pt2Ok) (w : World) (hr : RdS 2 (FlatR ptC) w lo hi A n L) (hhi : hi ≤ w.heap.size) (hn : n ≤ 1048576) :
    Calls Tryz.prog 55 #[.slice A n c] w fun e w' => e = .returned (.bool v) ∧ Below w.heap.size w w' := by
  have hl := Lib.hid hr.1
  replace hr := Lib.hid hr
  replace hv := Lib.hid hv
  go_enter Tryz.func55, Tryz.ntmps55
  go_wp2_with fail
  go_loopw [3] (fun i wr => ∃ k : Nat, i = .int .i64 k ∧ k ≤ n ∧ (L.take k).all pt2Ok = true ∧ Below w.heap.size w wr) (fun i wr => n - (intOf i).toNat)
  case atStart => exact ⟨0, rfl, Nat.zero_le _, rfl, Below.refl _ _⟩
  case round =>
    obtain ⟨k, rfl, hk, hall, hbel⟩ := hrel
    replace hall := Lib.hid hall
    have hsz := hbel.size
    by_cases hlt : k < n
    · obtain ⟨b, off, ⟨x0, x1⟩, rfl, hb0, hb, hja, hcs⟩ := (hr.out.frame (good_flat _) (Below.sameB hbel hhi)).at hlt
      have q0 := hcs 0 _ rfl
      have q1 := hcs 1 _ rfl
      simp only [Nat.add_zero] at q0 q1
      have hbw : b < wr.heap.size := by omega
      replace hja := Lib.hid hja
      clear hcs hb0 hb
      cases t : ptOk x0 x1
      · have hvf : v = false := by rw [hv.out]; exact pts_no hja.out t
        subst hvf
        go_wp2_with (go_at_call 24; refine (l03Ok_any _ _ _).mono ?_; rintro e w1 ⟨rfl, hb1⟩)
        go_ret
        exact ⟨rfl, hbel.trans (hb1.mono hbel.size)⟩
      · go_wp2_with (go_at_call 24; refine (l03Ok_any _ _ _).mono ?_; rintro e w1 ⟨rfl, hb1⟩)
        go_roundw
        case rel => exact ⟨k + 1, by go_num, by omega, pts_step hall.out hja.out t, hbel.trans (hb1.mono hbel.size)⟩
        case measure => simp [intOf]; omega
    · have hkn : k = n := by omega
      have hvt : v = true := by rw [hv.out, ← List.take_of_length_le (l := L) (i := k) (by rw [hl.out]; omega)]; exact hall.out
      subst hvt
      replace hkn := Lib.hid hkn
      go_wp2_with fail
      go_ret
      exact ⟨rfl, hbel⟩

set_option maxHeartbeats 1000000 in
theorem validPts_any (A : Option Addr) (n c lo hi : Nat) (L : List (Int × Int)) (v : Bool) (hv : v = L.all pt2Ok) (w : World) (hr : RdS 2 (FlatR ptC) w lo hi A n L) (hhi : hi ≤ w.heap.size) (hn : n ≤ 1048576) :
    Calls Tryz.prog 66 #[.slice A n c] w fun e w' => e = .returned (.bool v) ∧ Below w.heap.size w w' := by
  have hl := Lib.hid hr.1
  replace hr := Lib.hid hr
  replace hv := Lib.hid hv
  go_enter Tryz.func66, Tryz.ntmps66
  go_wp2_with fail
  go_loopw [7] (fun i wr => ∃ k : Nat, i = .int .i64 k ∧ k ≤ n ∧ (L.take k).all pt2Ok = true ∧ Below w.heap.size w wr) (fun i wr => n - (intOf i).toNat)
  case atStart => exact ⟨0, rfl, Nat.zero_le _, rfl, Below.refl _ _⟩
  case round =>
    obtain ⟨k, rfl, hk, hall, hbel⟩ := hrel
    replace hall := Lib.hid hall
    have hsz := hbel.size
    by_cases hlt : k < n
    · obtain ⟨b, off, ⟨x0, x1⟩, rfl, hb0, hb, hja, hcs⟩ := (hr.out.frame (good_flat _) (Below.sameB hbel hhi)).at hlt
      have q0 := hcs 0 _ rfl
      have q1 := hcs 1 _ rfl
      simp only [Nat.add_zero] at q0 q1
      have hbw : b < wr.heap.size := by omega
      replace hja := Lib.hid hja
      clear hcs hb0 hb
      cases t : ptOk x0 x1
      · have hvf : v = false := by rw [hv.out]; exact pts_no hja.out t
        subst hvf
        go_wp2_with (go_at_call 83; refine (validPt_any _ _ _).mono ?_; rintro e w1 ⟨rfl, hb1⟩)
        go_ret
        exact ⟨rfl, (hbel.alloc hbel.size _).trans (hb1.mono (by simp; omega))⟩
      · go_wp2_with (go_at_call 83; refine (validPt_any _ _ _).mono ?_; rintro e w1 ⟨rfl, hb1⟩)
        go_roundw
        case rel => exact ⟨k + 1, by go_num, by omega, pts_step hall.out hja.out t, (hbel.alloc hbel.size _).trans (hb1.mono (by simp; omega))⟩
        case measure => simp [intOf]; omega
    · have hkn : k = n := by omega
      have hvt : v = true := by rw [hv.out, ← List.take_of_length_le (l := L) (i := k) (by rw [hl.out]; omega)]; exact hall.out
      subst hvt
      replace hkn := Lib.hid hkn
      go_wp2_with fail
      go_ret
      exact ⟨rfl, hbel⟩

set_option maxHeartbeats 4000000 in
theorem l16Near_any (A : Option Addr) (n c lo hi : Nat) (L : List (Int × Int)) (px py r : Int) (v : Bool) (hv : v = nearP L px py r) (w : World) (hr : RdS 2 (FlatR ptC) w lo hi A n L) (hhi : hi ≤ w.heap.size) (hn1 : 1 ≤ n) (hn : n ≤ 1048576) (hall : ∀ p ∈ L, ptOk p.1 p.2 = true) (hp : ptOk px py = true) (h0 : 0 ≤ r) (h1 : r ≤ 262144) :
    Calls Tryz.prog 35 #[.slice A n c, .agg #[.int .i64 px, .int .i64 py], .int .i64 r] w fun e w' => e = .returned (.bool v) ∧ Below w.heap.size w w' := by
  have hl := Lib.hid hr.1
  have hB0 : Below w.heap.size w (w.alloc (.cells #[.int .i64 px, .int .i64 py] 28 (0, 0))) := Go.Joins.below_alloc1 _ _
  have hc0 : Hid ((w.alloc (.cells #[.int .i64 px, .int .i64 py] 28 (0, 0))).cell? ⟨w.heap.size, 0, none⟩ = some (.int .i64 px) ∧ (w.alloc (.cells #[.int .i64 px, .int .i64 py] 28 (0, 0))).cell? ⟨w.heap.size, 1, none⟩ = some (.int .i64 py)) := ⟨by rw [Go.Joins.cell_of_block (heap_alloc_new w _)]; rfl, by rw [Go.Joins.cell_of_block (heap_alloc_new w _)]; rfl⟩
  by_cases hone : n = 1
  · subst hone
    obtain ⟨b, off, ⟨x0, x1⟩, rfl, hb0, hb, hja, hcs⟩ := (hr.frame (good_flat _) (Below.sameB hB0 hhi)).at (j := 0) (by omega)
    have q0 := hcs 0 _ rfl
    have q1 := hcs 1 _ rfl
    simp only [Nat.zero_mul, Nat.add_zero] at q0 q1
    have hL := one_of hl.out hja
    have hv' : v = nearB x0 x1 x0 x1 px py r := by rw [hv, hL]; rfl
    have hok := hall _ (List.mem_of_getElem? hja)
    have hcall := Lib.hid (fun W => l03Near_any x0 x1 x0 x1 px py r v hv' W hok hok hp h0 h1)
    have hbw : b < (w.alloc (.cells #[.int .i64 px, .int .i64 py] 28 (0, 0))).heap.size := by simp; omega
    have hww : w.heap.size < (w.alloc (.cells #[.int .i64 px, .int .i64 py] 28 (0, 0))).heap.size := by simp
    obtain ⟨c0, c1⟩ := hc0.out
    clear hcs hb0 hb hja hL hv hv' hok hall hp hr hc0
    go_enter Tryz.func35, Tryz.ntmps35
    go_wp2_with fail
    generalize w.alloc (.cells #[.int .i64 px, .int .i64 py] 28 (0, 0)) = w0 at *
    go_still_tail 8, (by kernel_rfl)
    go_wp2_with fail
    refine (hcall.out _).mono ?_
    rintro e w1 ⟨rfl, hb1⟩
    go_wp2_with fail
    go_ret
    exact ⟨rfl, hB0.drew.trans (hb1.mono (by simp; omega))⟩
  have e1 : ((n : Int) == 1) = false := by simp; omega
  replace hr := Lib.hid hr
  replace hv := Lib.hid hv
  replace hall := Lib.hid hall
  replace hp := Lib.hid hp
  replace hone := Lib.hid hone
  go_enter Tryz.func35, Tryz.ntmps35
  go_wp2_with fail
  go_loopw [7] (fun i wr => ∃ k : Nat, i = .int .i64 k ∧ k + 1 ≤ n ∧ farTo L px py r k ∧ Below w.heap.size w wr ∧ w.heap.size + 1 ≤ wr.heap.size ∧ Hid (wr.cell? ⟨w.heap.size, 0, none⟩ = some (.int .i64 px) ∧ wr.cell? ⟨w.heap.size, 1, none⟩ = some (.int .i64 py))) (fun i wr => n - (intOf i).toNat)
  case atStart => exact ⟨0, rfl, by omega, fun i a b hi => absurd hi (Nat.not_lt_zero i), hB0, by simp, hc0⟩
  case round =>
    obtain ⟨k, rfl, hk, hfar, hbel, hsz, hcp⟩ := hrel
    obtain ⟨c0, c1⟩ := hcp.out
    replace hfar := Lib.hid hfar
    clear hc0 e1
    by_cases hlt : k + 1 < n
    · obtain ⟨b, off, ⟨x0, x1⟩, rfl, hb0, hb, hja, hcs⟩ := (hr.out.frame (good_flat _) (Below.sameB hbel hhi)).at (j := k) (by omega)
      obtain ⟨b', off', ⟨y0, y1⟩, hbb, hb0', hb', hjb, hcs'⟩ := (hr.out.frame (good_flat _) (Below.sameB hbel hhi)).at hlt
      injection hbb with hbb
      injection hbb with hbb1 hbb2
      subst hbb1 hbb2
      have q0 := hcs 0 _ rfl
      have q1 := hcs 1 _ rfl
      have p0 := hcs' 0 _ rfl
      have p1 := hcs' 1 _ rfl
      simp only [Nat.add_zero] at q0 q1 p0 p1
      have ok1 := hall.out _ (List.mem_of_getElem? hja)
      have ok2 := hall.out _ (List.mem_of_getElem? hjb)
      obtain ⟨t, ht⟩ : ∃ t, t = nearB x0 x1 y0 y1 px py r := ⟨_, rfl⟩
      have hcall := Lib.hid (fun W => l03Near_any x0 x1 y0 y1 px py r t ht W ok1 ok2 hp.out h0 h1)
      have hbw : b < wr.heap.size := by omega
      have f1 : IntKind.i64.wrap ((k : Int) + 1) = (k : Int) + 1 := IntWalk.i64_in _ (by omega)
      have f2 : IntKind.i64.wrap (k : Int) = (k : Int) := IntWalk.i64_in _ (by omega)
      have f3 : ((k : Int) + 1).toNat = k + 1 := by omega
      have f4 : (0 : Int) ≤ (k : Int) + 1 := by omega
      have f5 : (k : Int) + 1 < (n : Int) := by omega
      have f6 : (0 : Int) ≤ (k : Int) := by omega
      have f7 : (k : Int) < (n : Int) := by omega
      have hwn : w.heap.size < wr.heap.size := by omega
      replace hja := Lib.hid hja
      replace hjb := Lib.hid hjb
      replace ht := Lib.hid ht
      replace hcs := Lib.hid hcs
      clear hcs hcs' hb0 hb hb0' hb' ok1 ok2
      go_wp2_with fail
      go_still_tail 11, (by kernel_rfl)
      clear f1 f2 f3
      go_wp2_with fail
      refine (hcall.out _).mono ?_
      rintro e w1 ⟨rfl, hb1⟩
      have hbel1 : Below w.heap.size w w1 := hbel.drew.trans (hb1.mono (by simp; omega))
      have hz1 : wr.heap.size ≤ w1.heap.size := hb1.size
      cases t with
      | true =>
        have hvt : v = true := by rw [hv.out]; exact nearP_yes hja.out hjb.out ht.out.symm
        subst hvt
        go_wp2_with fail
        go_ret
        exact ⟨rfl, hbel1⟩
      | false =>
        go_wp2_with fail
        go_roundw
        case rel => exact ⟨k + 1, by go_num, by omega, far_step hfar.out hja.out hjb.out ht.out.symm, hbel1, by omega, ⟨(hb1.cell (by simp; omega)).trans c0, (hb1.cell (by simp; omega)).trans c1⟩⟩
        case measure => simp [intOf]; omega
    · have hkn : k + 1 = n := by omega
      have hvf : v = false := by rw [hv.out]; exact nearP_no (by have := hone.out; rw [hl.out]; omega) (by rw [hl.out, ← hkn]; exact hfar.out)
      subst hvf
      replace hkn := Lib.hid hkn
      go_wp2_with fail
      go_ret
      exact ⟨rfl, hbel⟩

end Go.Proofs.YtlifiioflkhkoaaGreat

/- The laws on NearPath and PathWithin. Conditions: as each states. -/
namespace Go.Proofs.YtlifiioflkhkoaaGreat
open Go.RowKit
set_option linter.unusedVariables false
set_option maxRecDepth 100000

def pathOk (L : List (Int × Int)) : Bool := inB L.length 1 400 && L.all pt2Ok
theorem pathOk_is {L : List (Int × Int)} (h : pathOk L = true) : 1 ≤ L.length ∧ L.length ≤ 400 ∧ ∀ p ∈ L, ptOk p.1 p.2 = true := by
  simp only [pathOk, Bool.and_eq_true, inB_iff, List.all_eq_true] at h
  obtain ⟨⟨h1, h2⟩, h3⟩ := h
  exact ⟨by omega, by omega, h3⟩
def nearOk (L : List (Int × Int)) (px py r : Int) : Bool := pathOk L && ptOk px py && inB r 0 262144 && nearP L px py r
theorem l12Path_any (A : Option Addr) (n c lo hi : Nat) (L : List (Int × Int)) (v : Bool) (hv : v = pathOk L) (w : World) (hr : RdS 2 (FlatR ptC) w lo hi A n L) (hhi : hi ≤ w.heap.size) (hn : n ≤ 1048576) :
    Calls Tryz.prog 33 #[.slice A n c] w fun e w' => e = .returned (.bool v) ∧ Below w.heap.size w w' := by
  have hl := hr.1
  unfold pathOk at hv
  rw [hl] at hv
  clear hl
  cases t0 : inB (n : Int) 1 400
  · have hvf : v = false := by rw [hv, t0]; rfl
    subst hvf
    clear hv hr
    go_enter Tryz.func33, Tryz.ntmps33
    go_wp2_with (go_at_call 44; refine (l00In_any _ _ _ _).mono ?_; rintro e w' ⟨rfl, rfl⟩)
    go_ret
    exact ⟨rfl, Below.refl _ _⟩
  · have hv' : v = L.all pt2Ok := by rw [hv, t0]; simp
    have hc := Lib.hid (l13Points_any A n c lo hi L v hv' w hr hhi hn)
    clear hv hv' hr
    go_enter Tryz.func33, Tryz.ntmps33
    go_wp2_with (first | (go_at_call 44; refine (l00In_any _ _ _ _).mono ?_; rintro e w' ⟨rfl, rfl⟩) | (go_at_call 55; refine hc.out.mono ?_; rintro e w1 ⟨rfl, hb1⟩))
    all_goals
      go_ret
      exact ⟨rfl, hb1⟩
theorem isPath_any (A : Option Addr) (n c lo hi : Nat) (L : List (Int × Int)) (v : Bool) (hv : v = pathOk L) (w : World) (hr : RdS 2 (FlatR ptC) w lo hi A n L) (hhi : hi ≤ w.heap.size) (hn : n ≤ 1048576) :
    Calls Tryz.prog 51 #[.slice A n c] w fun e w' => e = .returned (.bool v) ∧ Below w.heap.size w w' := by
  have hl := hr.1
  unfold pathOk at hv
  rw [hl] at hv
  clear hl
  by_cases h1 : 1 ≤ n
  rotate_left
  · have hvf : v = false := by rw [hv, inB_false.2 (by omega)]; rfl
    subst hvf
    clear hv hr
    go_enter Tryz.func51, Tryz.ntmps51
    go_wp2_with fail
    go_ret
    exact ⟨rfl, Below.refl _ _⟩
  by_cases h2 : n ≤ 400
  rotate_left
  · have hvf : v = false := by rw [hv, inB_false.2 (by omega)]; rfl
    subst hvf
    clear hv hr
    go_enter Tryz.func51, Tryz.ntmps51
    go_wp2_with fail
    go_ret
    exact ⟨rfl, Below.refl _ _⟩
  have hv' : v = L.all pt2Ok := by rw [hv, inB_iff.2 ⟨by omega, by omega⟩]; simp
  have hc := Lib.hid (validPts_any A n c lo hi L v hv' w hr hhi hn)
  clear hv hv' hr
  go_enter Tryz.func51, Tryz.ntmps51
  go_wp2_with (go_at_call 66; refine hc.out.mono ?_; rintro e w1 ⟨rfl, hb1⟩)
  all_goals
    go_ret
    exact ⟨rfl, hb1⟩
theorem l16Distance_any (r : Int) (w : World) : Calls Tryz.prog 34 #[.int .i64 r] w fun e w' => e = .returned (.bool (inB r 0 262144)) ∧ w = w' := by
  go_enter Tryz.func34, Tryz.ntmps34
  go_wp2_with (go_at_call 44; refine (l00In_any _ _ _ _).mono ?_; rintro e w' ⟨rfl, rfl⟩)
  go_ret
  exact ⟨rfl, rfl⟩
set_option maxHeartbeats 2000000 in
theorem specNearPath_any (A : Option Addr) (n c lo hi : Nat) (L : List (Int × Int)) (px py r : Int) (v : Bool) (hv : v = nearOk L px py r) (w : World) (hr : RdS 2 (FlatR ptC) w lo hi A n L) (hhi : hi ≤ w.heap.size) (hn : n ≤ 1048576) :
    Calls Tryz.prog 13 #[.slice A n c, .agg #[.int .i64 px, .int .i64 py], .int .i64 r] w fun e w' => e = .returned (.bool v) ∧ Below w.heap.size w w' := by
  obtain ⟨t1, ht1⟩ : ∃ t, t = pathOk L := ⟨_, rfl⟩
  obtain ⟨t2, ht2⟩ : ∃ t, t = ptOk px py := ⟨_, rfl⟩
  have hB0 : Below w.heap.size w (w.alloc (.cells #[.int .i64 px, .int .i64 py] 28 (0, 0))) := Go.Joins.below_alloc1 _ _
  have c0 : (w.alloc (.cells #[.int .i64 px, .int .i64 py] 28 (0, 0))).cell? ⟨w.heap.size, 0, none⟩ = some (.int .i64 px) := by rw [Go.Joins.cell_of_block (heap_alloc_new w _)]; rfl
  have c1 : (w.alloc (.cells #[.int .i64 px, .int .i64 py] 28 (0, 0))).cell? ⟨w.heap.size, 1, none⟩ = some (.int .i64 py) := by rw [Go.Joins.cell_of_block (heap_alloc_new w _)]; rfl
  have hpc := Lib.hid (fun a => l12Path_any A n c lo hi L t1 ht1 (w.alloc a) (hr.frame (good_flat _) ((SameB.refl _ _ w).alloc hhi a)) (by simp; omega) hn)
  have hoc := Lib.hid (fun W => ht2 ▸ l03Ok_any px py W)
  unfold nearOk at hv
  rw [← ht1, ← ht2] at hv
  have hl := Lib.hid hr.1
  replace hr := Lib.hid hr
  cases t1 with
  | false =>
    have hvf : v = false := by rw [hv]; rfl
    subst hvf
    clear hv ht1 ht2 hr
    replace c0 := Lib.hid c0
    replace c1 := Lib.hid c1
    go_enter Tryz.func13, Tryz.ntmps13
    go_wp2_with fail
    refine (hpc.out _).mono ?_
    rintro e w1 ⟨rfl, hb1⟩
    have hB1 := hB0.trans (hb1.mono (by simp))
    go_wp2_with fail
    go_ret
    exact ⟨rfl, hB1⟩
  | true =>
  have hpk := pathOk_is ht1.symm
  rw [hl.out] at hpk
  obtain ⟨k1, k2, k3⟩ := hpk
  cases t2 with
  | false =>
    have hvf : v = false := by rw [hv]; rfl
    subst hvf
    clear hv ht1 ht2 hr k3
    go_enter Tryz.func13, Tryz.ntmps13
    go_wp2_with fail
    refine (hpc.out _).mono ?_
    rintro e w1 ⟨rfl, hb1⟩
    have hB1 := hB0.trans (hb1.mono (by simp))
    have d0 : w1.cell? ⟨w.heap.size, 0, none⟩ = some (.int .i64 px) := (hb1.cell (by simp)).trans c0
    have d1 : w1.cell? ⟨w.heap.size, 1, none⟩ = some (.int .i64 py) := (hb1.cell (by simp)).trans c1
    have hz1 : w.heap.size + 1 ≤ w1.heap.size := by have := hb1.size; simpa using this
    go_wp2_with fail
    refine (hoc.out _).mono ?_
    rintro e w2 ⟨rfl, hb2⟩
    have hB2 := hB1.trans (hb2.mono hB1.size)
    go_wp2_with fail
    go_ret
    exact ⟨rfl, hB2⟩
  | true =>
  cases t3 : inB r 0 262144
  · have hvf : v = false := by rw [hv, t3]; rfl
    subst hvf
    clear hv ht1 ht2 hr k3
    go_enter Tryz.func13, Tryz.ntmps13
    go_wp2_with fail
    refine (hpc.out _).mono ?_
    rintro e w1 ⟨rfl, hb1⟩
    have hB1 := hB0.trans (hb1.mono (by simp))
    have d0 : w1.cell? ⟨w.heap.size, 0, none⟩ = some (.int .i64 px) := (hb1.cell (by simp)).trans c0
    have d1 : w1.cell? ⟨w.heap.size, 1, none⟩ = some (.int .i64 py) := (hb1.cell (by simp)).trans c1
    have hz1 : w.heap.size + 1 ≤ w1.heap.size := by have := hb1.size; simpa using this
    go_wp2_with fail
    refine (hoc.out _).mono ?_
    rintro e w2 ⟨rfl, hb2⟩
    have hB2 := hB1.trans (hb2.mono hB1.size)
    go_wp2_with (go_at_call 34; refine (l16Distance_any _ _).mono ?_; rintro e w' ⟨rfl, rfl⟩)
    go_ret
    exact ⟨rfl, hB2⟩
  · have hvn : v = nearP L px py r := by rw [hv, t3]; simp
    obtain ⟨r0, r1⟩ := inB_iff.1 t3
    have hnc := Lib.hid (fun W (h : RdS 2 (FlatR ptC) W lo hi A n L) (h' : hi ≤ W.heap.size) => l16Near_any A n c lo hi L px py r v hvn W h h' k1 hn k3 ht2.symm r0 r1)
    clear hv ht1 ht2 k3 hvn
    go_enter Tryz.func13, Tryz.ntmps13
    go_wp2_with fail
    refine (hpc.out _).mono ?_
    rintro e w1 ⟨rfl, hb1⟩
    have hB1 := hB0.trans (hb1.mono (by simp))
    have d0 : w1.cell? ⟨w.heap.size, 0, none⟩ = some (.int .i64 px) := (hb1.cell (by simp)).trans c0
    have d1 : w1.cell? ⟨w.heap.size, 1, none⟩ = some (.int .i64 py) := (hb1.cell (by simp)).trans c1
    have hz1 : w.heap.size + 1 ≤ w1.heap.size := by have := hb1.size; simpa using this
    go_wp2_with fail
    refine (hoc.out _).mono ?_
    rintro e w2 ⟨rfl, hb2⟩
    have hB2 := hB1.trans (hb2.mono hB1.size)
    have e0 : w2.cell? ⟨w.heap.size, 0, none⟩ = some (.int .i64 px) := (hb2.cell (by simp; omega)).trans d0
    have e1 : w2.cell? ⟨w.heap.size, 1, none⟩ = some (.int .i64 py) := (hb2.cell (by simp; omega)).trans d1
    go_wp2_with fail
    refine (l16Distance_any _ _).mono ?_
    rintro e w' ⟨rfl, rfl⟩
    go_wp2_with fail
    refine (hnc.out w2 (hr.out.frame (good_flat _) (Below.sameB hB2 hhi)) (by have := hB2.size; omega)).mono ?_
    rintro e w3 ⟨rfl, hb3⟩
    have hB3 := hB2.trans (hb3.mono hB2.size)
    go_wp2_with fail
    go_ret
    exact ⟨rfl, hB3⟩

end Go.Proofs.YtlifiioflkhkoaaGreat

