/- Bounds of points, of a cubic: the program's side. Conditions: as each states. -/
import Derived.Deep.RegionHeld3
import Derived.Deep.DeepCutAuto
import Derived.BigQuiet
import Derived.StillTailTactics
import Derived.Test.YtpmpbfkpiocleaaQv28
import Derived.Test.YtpmpbfkpiocleaaQv38
import Derived.Test.YtpmpbfkpiocleaaQv11
import Derived.Test.YtpmpbfkpiocleaaQv36
import Derived.Test.YtpmpbfkpiocleaaQv37
namespace Go.Proofs.Ytpmpbfkpiocleaa
open Go.RowKit
set_option linter.unusedVariables false
set_option maxRecDepth 100000

/-- a box about points -/
def BoxF (L : List (Int × Int)) (k : Nat) (a b c d : Int) : Prop := (∀ j, j < k → a ≤ (ptAt L j).1 ∧ (ptAt L j).1 ≤ c ∧ b ≤ (ptAt L j).2 ∧ (ptAt L j).2 ≤ d) ∧ (∃ j, j < k ∧ a = (ptAt L j).1) ∧ (∃ j, j < k ∧ b = (ptAt L j).2) ∧ (∃ j, j < k ∧ c = (ptAt L j).1) ∧ (∃ j, j < k ∧ d = (ptAt L j).2)
theorem BoxF.one (L : List (Int × Int)) : BoxF L 1 (ptAt L 0).1 (ptAt L 0).2 (ptAt L 0).1 (ptAt L 0).2 :=
  ⟨fun j hj => by rw [show j = 0 by omega]; exact ⟨Int.le_refl _, Int.le_refl _, Int.le_refl _, Int.le_refl _⟩, ⟨0, by omega, rfl⟩, ⟨0, by omega, rfl⟩, ⟨0, by omega, rfl⟩, ⟨0, by omega, rfl⟩⟩
theorem BoxF.next {L : List (Int × Int)} {k : Nat} {a b c d a' b' c' d' x y : Int} (h : BoxF L k a b c d) (hx : (ptAt L k).1 = x) (hy : (ptAt L k).2 = y) (ha : a' = if x < a then x else a) (hb : b' = if y < b then y else b) (hc : c' = if c < x then x else c) (hd : d' = if d < y then y else d) : BoxF L (k + 1) a' b' c' d' := by
  subst hx hy
  obtain ⟨h1, ⟨j2, p2, q2⟩, ⟨j3, p3, q3⟩, ⟨j4, p4, q4⟩, ⟨j5, p5, q5⟩⟩ := h
  refine ⟨fun j hj => ?_, ?_, ?_, ?_, ?_⟩
  · rcases (show j < k ∨ j = k by omega) with hj | rfl
    · have := h1 j hj
      subst ha hb hc hd
      refine ⟨?_, ?_, ?_, ?_⟩ <;> split <;> omega
    · subst ha hb hc hd
      refine ⟨?_, ?_, ?_, ?_⟩ <;> split <;> omega
  · subst ha; split
    · exact ⟨k, by omega, rfl⟩
    · exact ⟨j2, by omega, q2⟩
  · subst hb; split
    · exact ⟨k, by omega, rfl⟩
    · exact ⟨j3, by omega, q3⟩
  · subst hc; split
    · exact ⟨k, by omega, rfl⟩
    · exact ⟨j4, by omega, q4⟩
  · subst hd; split
    · exact ⟨k, by omega, rfl⟩
    · exact ⟨j5, by omega, q5⟩

end Go.Proofs.Ytpmpbfkpiocleaa

/- What FnCubics says of numbers: the flat path is near all points, the bounds hold all points, both halves meet. Conditions: none. -/
namespace Go.Proofs.Ytpmpbfkpiocleaa
open Go.RowKit
set_option linter.unusedVariables false
set_option maxRecDepth 100000

theorem cAt_scale (q : Cb) {k n s : Int} (hn : 0 < n) (hs : 0 < s) : cAt q (k * s) (n * s) = cAt q k n := by
  unfold cAt
  rw [Int.mul_comm k s, Int.mul_comm n s, mixC_scale _ _ _ _ _ hn hs, mixC_scale _ _ _ _ _ hn hs]
theorem pow_four (l : Nat) : (4 : Int) ^ l = ((2 ^ l : Nat) : Int) * ((2 ^ l : Nat) : Int) := by
  rw [Int.natCast_pow]
  rw [show ((2 : Nat) : Int) = 2 from rfl, ← Int.mul_pow]
  rfl
end Go.Proofs.Ytpmpbfkpiocleaa

/- Points, polar forms, control points of cubics: the reference's side. Printed by mk_cv1.py. Conditions: as each states. -/
namespace Go.Proofs.Ytpmpbfkpiocleaa
open Go.RowKit
set_option linter.unusedVariables false
set_option maxRecDepth 100000

def BdI (x M : Int) : Prop := -M ≤ x ∧ x ≤ M
theorem bd_lit {n : Int} (h : 0 ≤ n) : BdI n n := ⟨by omega, Int.le_refl _⟩
theorem wmul {x y A B C : Int} (hx : BdI x A) (hy : BdI y B) (hC : C = A * B) (hs : C ≤ 9223372036854775807) : IntKind.i64.wrap (x * y) = x * y ∧ BdI (x * y) C := by
  subst hC
  have h := prod_bd hx.1 hx.2 hy.1 hy.2
  exact ⟨wi (by omega), h⟩
theorem wadd {x y A B C : Int} (hx : BdI x A) (hy : BdI y B) (hC : C = A + B) (hs : C ≤ 9223372036854775807) : IntKind.i64.wrap (x + y) = x + y ∧ BdI (x + y) C := by
  unfold BdI at *
  exact ⟨wi (by omega), by omega, by omega⟩
theorem wsub {x y A B C : Int} (hx : BdI x A) (hy : BdI y B) (hC : C = A + B) (hs : C ≤ 9223372036854775807) : IntKind.i64.wrap (x - y) = x - y ∧ BdI (x - y) C := by
  unfold BdI at *
  exact ⟨wi (by omega), by omega, by omega⟩

set_option maxHeartbeats 4000000 in
theorem l09Mix_any (a b c d k n : Int) (w : World) (ha : BdI a 262144) (hb : BdI b 262144) (hc : BdI c 262144) (hd : BdI d 262144) (h0 : 0 ≤ k) (hkn : k ≤ n) (hn1 : 0 < n) (hn2 : n ≤ 64) :
    Calls Try.prog 58 #[.int .i64 a, .int .i64 b, .int .i64 c, .int .i64 d, .int .i64 k, .int .i64 n] w fun e w' => e = .returned (.int .i64 (mixC a b c d k n)) ∧ w' = w := by
  obtain ⟨m, hme⟩ : ∃ m, m = n - k := ⟨_, rfl⟩
  have hk : BdI k 64 := ⟨by omega, by omega⟩
  have hn : BdI n 64 := ⟨by omega, by omega⟩
  have hm : BdI m 64 := ⟨by omega, by omega⟩
  have q0 : IntKind.i64.wrap (n - k) = m := by rw [wi (by omega), hme]
  obtain ⟨q1, qb1⟩ := wmul (C := 4096) hm hm (by decide) (by decide)
  obtain ⟨q2, qb2⟩ := wmul (C := 262144) qb1 hm (by decide) (by decide)
  obtain ⟨q3, qb3⟩ := wmul (C := 68719476736) qb2 ha (by decide) (by decide)
  obtain ⟨q4, qb4⟩ := wmul (C := 192) (bd_lit (n := 3) (by decide)) hm (by decide) (by decide)
  obtain ⟨q5, qb5⟩ := wmul (C := 12288) qb4 hm (by decide) (by decide)
  obtain ⟨q6, qb6⟩ := wmul (C := 786432) qb5 hk (by decide) (by decide)
  obtain ⟨q7, qb7⟩ := wmul (C := 206158430208) qb6 hb (by decide) (by decide)
  obtain ⟨q8, qb8⟩ := wadd (C := 274877906944) qb3 qb7 (by decide) (by decide)
  obtain ⟨q9, qb9⟩ := wmul (C := 12288) qb4 hk (by decide) (by decide)
  obtain ⟨q10, qb10⟩ := wmul (C := 786432) qb9 hk (by decide) (by decide)
  obtain ⟨q11, qb11⟩ := wmul (C := 206158430208) qb10 hc (by decide) (by decide)
  obtain ⟨q12, qb12⟩ := wadd (C := 481036337152) qb8 qb11 (by decide) (by decide)
  obtain ⟨q13, qb13⟩ := wmul (C := 4096) hk hk (by decide) (by decide)
  obtain ⟨q14, qb14⟩ := wmul (C := 262144) qb13 hk (by decide) (by decide)
  obtain ⟨q15, qb15⟩ := wmul (C := 68719476736) qb14 hd (by decide) (by decide)
  obtain ⟨q16, qb16⟩ := wadd (C := 549755813888) qb12 qb15 (by decide) (by decide)
  obtain ⟨r1, rb1⟩ := wmul (C := 4096) hn hn (by decide) (by decide)
  obtain ⟨r2, rb2⟩ := wmul (C := 262144) rb1 hn (by decide) (by decide)
  have hn3 : 0 < n * n * n := Int.mul_pos (Int.mul_pos hn1 hn1) hn1
  have hc0 := Lib.hid (calls_turn (l03Round_any (m * m * m * a + (3 * m * m * k * b) + (3 * m * k * k * c) + (k * k * k * d)) (n * n * n) w hn3 (by have := rb2.2; omega) (by have := qb16.1; omega) (by have := qb16.2; omega)))
  have he : rnd (m * m * m * a + (3 * m * m * k * b) + (3 * m * k * k * c) + (k * k * k * d)) (n * n * n) = mixC a b c d k n := by
    subst hme; rfl
  rw [he] at hc0
  clear qb1 qb2 qb3 qb4 qb5 qb6 qb7 qb8 qb9 qb10 qb11 qb12 qb13 qb14 qb15 qb16
  clear rb1 rb2
  clear hm hk hn ha hb hc hd he hn3
  replace hme := Lib.hid hme
  go_enter Try.func58, Try.ntmps58
  go_wp2_with fail
  refine hc0.out.mono ?_
  rintro e w' ⟨rfl, rfl⟩
  go_wp2_with fail
  go_ret
  exact ⟨rfl, rfl⟩
theorem bd_pt {x y : Int} (h : ptOk x y = true) : BdI x 262144 ∧ BdI y 262144 := ptOk_iff.1 h
theorem l09At_any (p : Nat) (q : Cb) (hq : q.ok) (k n : Int) (w : World) (hp : CB w p q.ax q.ay q.bx q.b q.cx q.cy q.dx q.dy) (h0 : 0 ≤ k) (hkn : k ≤ n) (hn1 : 0 < n) (hn2 : n ≤ 64) :
    Calls Try.prog 40 #[.pointer (some ⟨p, 0, none⟩), .int .i64 k, .int .i64 n] w fun e w' => e = .returned (.agg #[.int .i64 (cAt q k n).1, .int .i64 (cAt q k n).2]) ∧ Below w.heap.size w w' := by
  obtain ⟨a1, a2⟩ := bd_pt hq.1
  obtain ⟨b1, b2⟩ := bd_pt hq.2.1
  obtain ⟨c1, c2⟩ := bd_pt hq.2.2.1
  obtain ⟨d1, d2⟩ := bd_pt hq.2.2.2
  have j1 := Lib.hid (fun W => l09Mix_any q.ax q.bx q.cx q.dx k n W a1 b1 c1 d1 h0 hkn hn1 hn2)
  have j2 := Lib.hid (fun W => l09Mix_any q.ay q.b q.cy q.dy k n W a2 b2 c2 d2 h0 hkn hn1 hn2)
  have e1 : (cAt q k n).1 = mixC q.ax q.bx q.cx q.dx k n := rfl
  have e2 : (cAt q k n).2 = mixC q.ay q.b q.cy q.dy k n := rfl
  rw [e1, e2]
  have hl := hp.lt
  have hpV := hp.below (Go.Joins.below_alloc1 w (.cells #[.int .i64 0, .int .i64 0] 24 (0, 0)))
  have hrV : PB (w.alloc (.cells #[.int .i64 0, .int .i64 0] 24 (0, 0))) w.heap.size 0 0 := heap_alloc_new w _
  have hB0 : Below w.heap.size w (w.alloc (.cells #[.int .i64 0, .int .i64 0] 24 (0, 0))) := Go.Joins.below_alloc1 _ _
  generalize mixC q.ax q.bx q.cx q.dx k n = X at *
  generalize mixC q.ay q.b q.cy q.dy k n = Y at *
  clear a1 a2 b1 b2 c1 c2 d1 d2 hp e1 e2
  obtain ⟨ax, ay, bx, b, cx, cy, dx, dy⟩ := q
  simp only at j1 j2 hpV
  go_enter Try.func40, Try.ntmps40
  go_wp2_with fail
  generalize w.alloc (.cells #[.int .i64 0, .int .i64 0] 24 (0, 0)) = V at *
  obtain ⟨⟨k0, k1, k2, k3, k4, k5, k6, k7⟩, _, hlV⟩ := hpV.cells
  go_still_tail 47, (by kernel_rfl)
  still_call (j1.out _)
  repeat still_step
  still_call (j2.out _)
  repeat still_step
  refine wpStill_nil ?_
  replace hrV := hrV.drew
  replace hB0 := hB0.drew
  clear k0 k1 k2 k3 k4 k5 k6 k7 hlV hpV
  change wpList _ _ _ _ _ V.drew
  generalize V.drew = V4 at *
  obtain ⟨r0, r1, rf, rl⟩ := hrV.cells
  go_wp2_with fail
  refine bodyPost_ret (v := .agg #[.int .i64 X, .int .i64 Y]) (by simp [results, Try.results40, go_sem, r0, r1]) rfl ⟨rfl, ?_⟩
  exact (hB0.setCell (p := ⟨w.heap.size, 0, none⟩) (Nat.le_refl _) _).setCell (p := ⟨w.heap.size, 1, none⟩) (Nat.le_refl _) _

theorem l09Tol_yes (t : Int) (w : World) (h0 : 1 ≤ t) (h1 : t ≤ 262144) : Calls Try.prog 52 #[.int .i64 t] w fun e w' => e = .returned (.bool true) ∧ w' = w := by
  have hc := Lib.hid (l00In_any t 1 262144 w)
  have hb : inB t 1 262144 = true := inB_iff.2 ⟨h0, h1⟩
  rw [hb] at hc
  go_enter Try.func52, Try.ntmps52
  go_wp2_with fail
  refine hc.out.mono ?_
  rintro e w' ⟨rfl, rfl⟩
  go_wp2_with fail
  go_ret
  exact ⟨rfl, rfl⟩
end Go.Proofs.Ytpmpbfkpiocleaa

