/- Quadratics of a cubic: the program's side, walked. Printed by mk_cv7.py. Conditions: as each states. -/
import Derived.Test.YtpmpbfkpiocleaaQv43
namespace Go.Proofs.Ytpmpbfkpiocleaa
open Go.RowKit
set_option linter.unusedVariables false
set_option maxRecDepth 100000

theorem dot_third (q : Cb) : szI (dot4 q.ax q.bx q.cx q.dx (-1) 3 (-3) 1) (dot4 q.ay q.b q.cy q.dy (-1) 3 (-3) 1) = thirdC q := by
  unfold thirdC dot4
  congr 1 <;> omega
def QuadsTo (q : Cb) (n : Nat) (w : World) (e : Ending) (w' : World) : Prop :=
  ((∃ j0, j0 < n ∧ (∀ j, j < j0 → ptOk (quadC q j n).bx (quadC q j n).b = true) ∧ ptOk (quadC q j0 n).bx (quadC q j0 n).b = false) ∧ e = .returned (.tuple #[.slice none 0 0, .int .i64 5])) ∨
  ((∀ j, j < n → ptOk (quadC q j n).bx (quadC q j n).b = true) ∧ ∃ A c, e = .returned (.tuple #[.slice A n c, .int .i64 0]) ∧ RdS 6 (FlatR qdC) w' w.heap.size w'.heap.size A n (quadsL q n))

set_option maxHeartbeats 32000000 in
theorem quadsOfCubic_any (q : Cb) (hq : q.ok) (T : Int) (hT0 : 1 ≤ T) (hT1 : T ≤ 262144) (l n : Nat) (hl : IsLq (thirdC q) T l) (hn : n = 2 ^ l) (w : World) :
    Calls Try.prog 34 #[cbV q, .int .i64 T] w fun e w' => QuadsTo q n w e w' ∧ Below w.heap.size w w' := by
  have hpt := Lib.hid (fun W => cpoints_any q W)
  obtain ⟨a1, a2⟩ := ptOk_iff.1 hq.1
  obtain ⟨b1, b2⟩ := ptOk_iff.1 hq.2.1
  obtain ⟨c1, c2⟩ := ptOk_iff.1 hq.2.2.1
  obtain ⟨d1, d2⟩ := ptOk_iff.1 hq.2.2.2
  have hcm := Lib.hid (fun A c lo hi p c' lo' hi' W hP hh hN hh' => combine4_any A c lo hi q p c' lo' hi' (-1) 3 (-3) 1 W hP hh hN hh' ⟨s4_small a1 (by omega), s4_small a2 (by omega)⟩ ⟨s4_small b1 (by omega), s4_small b2 (by omega)⟩ ⟨s4_small c1 (by omega), s4_small c2 (by omega)⟩ ⟨s4_small d1 (by omega), s4_small d2 (by omega)⟩)
  have hsz : Hid (∀ W, Calls Try.prog 50 #[.agg #[.int .i64 (dot4 q.ax q.bx q.cx q.dx (-1) 3 (-3) 1), .int .i64 (dot4 q.ay q.b q.cy q.dy (-1) 3 (-3) 1)]] W fun e w' => e = .returned (.int .i64 (thirdC q)) ∧ Below W.heap.size W w') := Lib.hid fun W => by
    rw [← dot_third q]
    exact sizeOf_any _ _ W (by unfold dot4; omega) (by unfold dot4; omega)
  have hblo := Lib.hid (fun (N t0 t1 t2 : Int) hN h0 h1 h2 => bloAt q hq N t0 t1 t2 hN h0 h1 h2)
  have hbd : Hid (∀ (N t0 t1 t2 : Int), N ≤ 64 → (0 ≤ t0 ∧ t0 ≤ N) → (0 ≤ t1 ∧ t1 ≤ N) → (0 ≤ t2 ∧ t2 ≤ N) → BdI (bloC q.ax q.bx q.cx q.dx t0 t1 t2 N) 549755813888 ∧ BdI (bloC q.ay q.b q.cy q.dy t0 t1 t2 N) 549755813888) := Lib.hid fun N t0 t1 t2 hN h0 h1 h2 => ⟨bloC_bd a1 b1 c1 d1 h0 h1 h2 hN, bloC_bd a2 b2 c2 d2 h0 h1 h2 hN⟩
  have hat := Lib.hid (fun (k : Int) W h0 h1 h2 h3 => cubicAt_any q k n W hq h0 h1 h2 h3)
  obtain ⟨t1, t2, t3, t4⟩ := thirdC_bd hq
  have hql : q.pts.length = 4 := rfl
  obtain ⟨L, hL⟩ : ∃ L, L = q.pts := ⟨_, rfl⟩
  rw [← hL] at hpt hcm hql
  obtain ⟨D1, hD1⟩ : ∃ x, x = dot4 q.ax q.bx q.cx q.dx (-1) 3 (-3) 1 := ⟨_, rfl⟩
  obtain ⟨D2, hD2⟩ : ∃ x, x = dot4 q.ay q.b q.cy q.dy (-1) 3 (-3) 1 := ⟨_, rfl⟩
  rw [← hD1, ← hD2] at hcm hsz
  obtain ⟨B3, hB3⟩ : ∃ x, x = thirdC q := ⟨_, rfl⟩
  rw [← hB3] at hsz hl t3 t4
  obtain ⟨hl6, hl0, hl1⟩ := hl
  obtain ⟨hn1, hn64⟩ := pow_lvl (by omega) hn
  have hfin : Hid (∀ e w', QuadsTo q n w e w' → QuadsTo q n w e w') := Lib.hid fun _ _ h => h
  obtain ⟨R, hR⟩ : ∃ R, R = QuadsTo q n w := ⟨_, rfl⟩
  have hR2 : Hid (∀ e w', QuadsTo q n w e w' → R e w') := Lib.hid fun e w' h => by rw [hR]; exact h
  rw [← hR]
  clear hR hfin
  have hQD := Lib.hid (fun k (hk : k < n) => quadsL_take q hk)
  have hQl := Lib.hid (quadsL_len q n)
  unfold QuadsTo at hR2
  obtain ⟨BX, hBX⟩ : ∃ f : Int → Int, f = fun k => (quadC q k n).bx := ⟨_, rfl⟩
  obtain ⟨BY, hBY⟩ : ∃ f : Int → Int, f = fun k => (quadC q k n).b := ⟨_, rfl⟩
  have hBX2 : ∀ k : Int, (quadC q k n).bx = BX k := fun k => by rw [hBX]
  have hBY2 : ∀ k : Int, (quadC q k n).b = BY k := fun k => by rw [hBY]
  simp only [hBX2, hBY2] at hR2
  have hctl : Hid (∀ k : Int, rnd (ctlC q.ax q.bx q.cx q.dx k n) (4 * (n : Int) * n * n) = BX k ∧ rnd (ctlC q.ay q.b q.cy q.dy k n) (4 * (n : Int) * n * n) = BY k) := Lib.hid fun k => by rw [hBX, hBY]; exact ⟨rfl, rfl⟩
  obtain ⟨QL, hQLe⟩ : ∃ x, x = quadsL q n := ⟨_, rfl⟩
  rw [← hQLe] at hR2 hQD hQl
  have hQc : Hid (∀ k : Int, qdC (quadC q k n) = [.int .i64 (cAt q k n).1, .int .i64 (cAt q k n).2, .int .i64 (BX k), .int .i64 (BY k), .int .i64 (cAt q (k + 1) n).1, .int .i64 (cAt q (k + 1) n).2]) := Lib.hid fun k => by rw [hBX, hBY]; rfl
  clear hD1 hD2 hB3 hL hBX hBY hBX2 hBY2 hQLe a1 a2 b1 b2 c1 c2 d1 d2 hq t1 t2
  replace hl0 := Lib.hid hl0
  replace hl1 := Lib.hid hl1
  replace hn := Lib.hid hn
  have q20 : IntKind.i64.wrap (20 * T) = 20 * T := wi (by omega)
  obtain ⟨ax, ay, bx, b, cx, cy, dx, dy⟩ := q
  simp only [cbV] at hpt hat hblo hbd hctl hQc ⊢
  have hb0 := Go.Joins.below_alloc1 w (.cells #[.int .i64 ax, .int .i64 ay, .int .i64 bx, .int .i64 b, .int .i64 cx, .int .i64 cy, .int .i64 dx, .int .i64 dy] 26 (0, 0))
  have hP0 := heap_alloc_new w (.cells #[.int .i64 ax, .int .i64 ay, .int .i64 bx, .int .i64 b, .int .i64 cx, .int .i64 cy, .int .i64 dx, .int .i64 dy] 26 (0, 0))
  have hz0 : (w.alloc (.cells #[.int .i64 ax, .int .i64 ay, .int .i64 bx, .int .i64 b, .int .i64 cx, .int .i64 cy, .int .i64 dx, .int .i64 dy] 26 (0, 0))).heap.size = w.heap.size + 1 := by simp
  go_enter Try.func34, Try.ntmps34
  go_upto_region 1 with fail
  generalize (w.alloc (.cells #[.int .i64 ax, .int .i64 ay, .int .i64 bx, .int .i64 b, .int .i64 cx, .int .i64 cy, .int .i64 dx, .int .i64 dy] 26 (0, 0))) = w0 at *
  have hCw : Hid (∀ W, Below w0.heap.size w0 W → CB W w.heap.size ax ay bx b cx cy dx dy) := Lib.hid fun W hW => CB.below (w := w0) hP0 hW
  clear hP0
  have hzw : w.heap.size + 1 ≤ w0.heap.size := by omega
  clear hz0
  obtain ⟨⟨c0, c1, c2, c3, c4, c5, c6, c7⟩, _, cl⟩ := (hCw.out w0 (Below.refl _ _)).cells
  go_wp2_with fail
  refine (hpt.out w0).mono ?_
  rintro e w1 ⟨g, rfl, hown, hb1⟩
  have hrd := Lib.hid (rdS_own ptC_len (by omega) hown hql)
  have hz1 := hb1.size
  clear c0 c1 c2 c3 c4 c5 c6 c7 cl hown hpt
  go_wp2_with fail
  refine (hcm.out _ 4 _ _ w1.heap.size 4 _ _ _ (hrd.out.frame (good_flat _) (Below.sameB (Go.Joins.below_alloc1 _ _) (Nat.le_refl _))) (by simp) (four_ints _ _ _ _ _) (Nat.le_refl _)).mono ?_
  rintro e w2 ⟨rfl, hb2⟩
  have hb02 := (hb1.alloc hz1 (.cells #[.int .i64 (-1), .int .i64 3, .int .i64 (-3), .int .i64 1] 2 (0, 0))).trans (hb2.mono (hb1.alloc hz1 _).size)
  have hz2 := hb02.size
  clear hb1 hb2 hcm hrd
  go_wp2_with fail
  refine (hsz.out w2).mono ?_
  rintro e w3 ⟨rfl, hb3⟩
  have hb03 := hb02.trans (hb3.mono hz2)
  have hz3 := hb03.size
  have hBw := Lib.hid (hb0.trans (hb03.mono (by omega)))
  have hC3 : Hid (∀ W, Below w3.heap.size w3 W → CB W w.heap.size ax ay bx b cx cy dx dy) := Lib.hid fun W hW => hCw.out W (hb03.trans (hW.mono hz3))
  have hwl : w.heap.size < w3.heap.size := by omega
  clear hb02 hb3 hsz hb0 hb03 hCw hz1 hz2
  go_wp2_with fail
  go_loopw [7] (fun nv wr => ∃ (k N : Nat), nv = .int .i64 N ∧ N = 2 ^ k ∧ k ≤ l ∧ w3 = wr) (fun nv wr => 64 - (intOf nv).toNat)
  case atStart => exact ⟨0, 1, rfl, rfl, by omega, rfl⟩
  case round =>
  obtain ⟨k, N, rfl, hNk, hk, rfl⟩ := hrel
  obtain ⟨hN1, hN64⟩ := pow_lvl (l := k) (by omega) hNk
  have hP8 := pow8_bd (k := k) (by omega)
  obtain ⟨P8, hP8e⟩ : ∃ P : Int, P = 20 * T * (N : Int) * N * N := ⟨_, rfl⟩
  have hT20 : BdI (20 * T) 5242880 := ⟨by omega, by omega⟩
  have hNb : BdI (N : Int) 64 := ⟨by omega, by omega⟩
  obtain ⟨s1, sb1⟩ := wmul (C := 335544320) hT20 hNb (by decide) (by decide)
  obtain ⟨s2, sb2⟩ := wmul (C := 21474836480) sb1 hNb (by decide) (by decide)
  obtain ⟨s3, sb3⟩ := wmul (C := 1374389534720) sb2 hNb (by decide) (by decide)
  have hPk : P8 = 20 * T * 8 ^ k := by
    rw [hP8e, hNk]
    have e : ((2 ^ k : Nat) : Int) * ((2 ^ k : Nat) : Int) * ((2 ^ k : Nat) : Int) = 8 ^ k := by
      rw [Int.natCast_pow, show ((2 : Nat) : Int) = 2 from rfl, ← Int.mul_pow, ← Int.mul_pow]; rfl
    rw [Int.mul_assoc, Int.mul_assoc (20 * T), ← Int.mul_assoc (((2 ^ k : Nat) : Int)), e]
  replace s3 := s3.trans hP8e.symm
  have q2 : IntKind.i64.wrap ((N : Int) * 2) = ((N * 2 : Nat) : Int) := by rw [wi (by omega)]; omega
  clear sb1 sb2 sb3 hT20
  rcases Nat.lt_or_ge k l with hlt | hge
  · have hgt : P8 < B3 := by rw [hPk]; exact hl1.out k hlt
    have hN32 : N ≤ 32 := by rw [hNk]; exact Nat.le_trans (Nat.pow_le_pow_right (by omega) (show k ≤ 5 by omega)) (by decide)
    replace hPk := Lib.hid hPk
    replace hP8e := Lib.hid hP8e
    replace hNk := Lib.hid hNk
    go_wp2_with fail
    go_roundw
    case rel => exact ⟨k + 1, N * 2, by go_num, by rw [hNk.out, Nat.pow_succ], by omega, by trivial⟩
    case measure => simp [intOf]; omega
  have hkl : k = l := by omega
  have hgt : ¬ P8 < B3 := by have := hl0.out; rw [hPk, hkl]; omega
  have hNn : N = n := by rw [hNk, hn.out, hkl]
  subst hNn
  clear hPk hP8e hNk hP8 hkl hge
  go_wp2_with fail
  clear s1 s2 s3 q2 hgt q20 hl0 hl1
  have hbs := Lib.hid (fun (W : World) (h : Below w3.heap.size w3 W) => (show Below w.heap.size w W from hBw.out.trans (h.mono (by omega))))
  go_loopw [8, 9] (fun out iv wr => ∃ (j : Nat) (A : Option Addr) (c : Nat), iv = .int .i64 j ∧ j ≤ N ∧ out = .slice A j c ∧ wr.ownsRow w3.heap.size 48 6 (.slice A j c) j ((QL.take j).flatMap qdC) ∧ (∀ i, i < j → ptOk (BX (i : Nat)) (BY (i : Nat)) = true) ∧ Below w3.heap.size w3 wr) (fun out iv wr => N - (intOf iv).toNat)
  case atStart => exact ⟨0, none, 0, rfl, by omega, rfl, by simpa using World.ownsRow_nil w3 w3.heap.size 48 6, fun i hi => by omega, Below.refl _ _⟩
  case round =>
  obtain ⟨j, A, c, rfl, hjN, rfl, hown, hgood, hbel⟩ := hrel
  generalize wr = xr at *
  have hzx := hbel.size
  replace hown := Lib.hid hown
  replace hgood := Lib.hid hgood
  by_cases hlt : j < N
  rotate_left
  · have hjn : j = N := by omega
    subst hjn
    have hji : ¬ (j : Int) < (j : Int) := by omega
    have hrow := hown.out
    rw [show QL.take j = QL from List.take_of_length_le (by rw [hQl.out]; exact Nat.le_refl _)] at hrow
    have hR := hR2.out
    go_wp2_with fail
    go_ret2
    exact ⟨hR _ _ (.inr ⟨hgood.out, A, c, rfl, (rdS_own qdC_len (by omega) hrow hQl.out).wide (good_flat _) (by omega) (Nat.le_refl _)⟩), hbs.out _ hbel⟩
  obtain ⟨k, hkj⟩ : ∃ k : Int, k = (j : Int) := ⟨_, rfl⟩
  have hk0 : 0 ≤ k := by omega
  have hkN : k + 1 ≤ (N : Int) := by omega
  have hkl : k < (N : Int) := by omega
  obtain ⟨p0x, hp0x⟩ : ∃ x, x = bloC ax bx cx dx k k k N := ⟨_, rfl⟩
  obtain ⟨p0y, hp0y⟩ : ∃ x, x = bloC ay b cy dy k k k N := ⟨_, rfl⟩
  obtain ⟨p1x, hp1x⟩ : ∃ x, x = bloC ax bx cx dx k k (k + 1) N := ⟨_, rfl⟩
  obtain ⟨p1y, hp1y⟩ : ∃ x, x = bloC ay b cy dy k k (k + 1) N := ⟨_, rfl⟩
  obtain ⟨p2x, hp2x⟩ : ∃ x, x = bloC ax bx cx dx k (k + 1) (k + 1) N := ⟨_, rfl⟩
  obtain ⟨p2y, hp2y⟩ : ∃ x, x = bloC ay b cy dy k (k + 1) (k + 1) N := ⟨_, rfl⟩
  obtain ⟨p3x, hp3x⟩ : ∃ x, x = bloC ax bx cx dx (k + 1) (k + 1) (k + 1) N := ⟨_, rfl⟩
  obtain ⟨p3y, hp3y⟩ : ∃ x, x = bloC ay b cy dy (k + 1) (k + 1) (k + 1) N := ⟨_, rfl⟩
  have hc0 := Lib.hid (hblo.out N k k k (by omega) (by omega) (by omega) (by omega))
  have hc1 := Lib.hid (hblo.out N k k (k + 1) (by omega) (by omega) (by omega) (by omega))
  have hc2 := Lib.hid (hblo.out N k (k + 1) (k + 1) (by omega) (by omega) (by omega) (by omega))
  have hc3 := Lib.hid (hblo.out N (k + 1) (k + 1) (k + 1) (by omega) (by omega) (by omega) (by omega))
  obtain ⟨e0x, e0y⟩ := hbd.out N k k k (by omega) (by omega) (by omega) (by omega)
  obtain ⟨e1x, e1y⟩ := hbd.out N k k (k + 1) (by omega) (by omega) (by omega) (by omega)
  obtain ⟨e2x, e2y⟩ := hbd.out N k (k + 1) (k + 1) (by omega) (by omega) (by omega) (by omega)
  obtain ⟨e3x, e3y⟩ := hbd.out N (k + 1) (k + 1) (k + 1) (by omega) (by omega) (by omega) (by omega)
  have hct := hctl.out k
  unfold ctlC at hct
  rw [← hp0x] at hc0 e0x hct
  rw [← hp0y] at hc0 e0y hct
  rw [← hp1x] at hc1 e1x hct
  rw [← hp1y] at hc1 e1y hct
  rw [← hp2x] at hc2 e2x hct
  rw [← hp2y] at hc2 e2y hct
  rw [← hp3x] at hc3 e3x hct
  rw [← hp3y] at hc3 e3y hct
  clear hp0x hp0y hp1x hp1y hp2x hp2y hp3x hp3y hblo hbd hctl
  unfold BloAt at hc0 hc1 hc2 hc3
  simp only [cbV] at hc0 hc1 hc2 hc3
  have hC : Hid (∀ W, Below xr.heap.size xr W → CB W w.heap.size ax ay bx b cx cy dx dy) := Lib.hid fun W hW => hC3.out W (hbel.trans (hW.mono hzx))
  have hkN2 : IntKind.i64.wrap (k + 1) = k + 1 := wi (by omega)
  have hct2 := Lib.hid hct
  clear hct
  have e0 := Lib.hid (And.intro e0x e0y)
  have e1 := Lib.hid (And.intro e1x e1y)
  have e2 := Lib.hid (And.intro e2x e2y)
  have e3 := Lib.hid (And.intro e3x e3y)
  clear e0x e0y e1x e1y e2x e2y e3x e3y
  rw [← hkj]
  replace hkj := Lib.hid hkj
  go_upto_region 9 with fail
  refine wp_region_staysE 17 (fun jv => match jv with | 0 => VIs (.agg #[.int .i64 ax, .int .i64 ay, .int .i64 bx, .int .i64 b, .int .i64 cx, .int .i64 cy, .int .i64 dx, .int .i64 dy]) | 1 => VIs (.int .i64 N) | 2 => VIs (.int .i64 k) | 3 => VIs (.int .i64 k) | 4 => VIs (.int .i64 k) | 5 => VInts3 [k, k, k] | 6 => VIs (.agg #[.int .i64 p0x, .int .i64 p0y]) | 7 => VIs (.agg #[.int .i64 ax, .int .i64 ay, .int .i64 bx, .int .i64 b, .int .i64 cx, .int .i64 cy, .int .i64 dx, .int .i64 dy]) | 8 => VIs (.int .i64 N) | 9 => VIs (.int .i64 k) | 10 => VIs (.int .i64 k) | 11 => VIs (.int .i64 k) | 12 => VIs (.int .i64 (k + 1)) | 13 => VInts3 [k, k, k + 1] | 14 => VIs (.agg #[.int .i64 p1x, .int .i64 p1y]) | 15 => VBox xr.heap.size (.cells #[.int .i64 0, .int .i64 0] 24 (0, 0)) | _ => VBox xr.heap.size (.cells #[.int .i64 0, .int .i64 0] 24 (0, 0))) (E2 15 16) (E2_comm _ _) (by kernel_rfl) (by kernel_rfl) ?_ ?_ ?_
  · intro j hj
    rcases (show j = 0 ∨ j = 1 ∨ j = 2 ∨ j = 3 ∨ j = 4 ∨ j = 5 ∨ j = 6 ∨ j = 7 ∨ j = 8 ∨ j = 9 ∨ j = 10 ∨ j = 11 ∨ j = 12 ∨ j = 13 ∨ j = 14 ∨ j = 15 ∨ j = 16 by omega) with rfl | rfl | rfl | rfl | rfl | rfl | rfl | rfl | rfl | rfl | rfl | rfl | rfl | rfl | rfl | rfl | rfl <;> first | exact VIs.stays _ | exact VInts3.stays _ | exact VBox.stays _ _ | exact VQuad.stays _ _
  · intro i hi
    rcases (show i = 0 ∨ i = 1 ∨ i = 2 ∨ i = 3 ∨ i = 4 ∨ i = 5 ∨ i = 6 ∨ i = 7 ∨ i = 8 ∨ i = 9 ∨ i = 10 ∨ i = 11 ∨ i = 12 ∨ i = 13 ∨ i = 14 ∨ i = 15 ∨ i = 16 by omega) with rfl | rfl | rfl | rfl | rfl | rfl | rfl | rfl | rfl | rfl | rfl | rfl | rfl | rfl | rfl | rfl | rfl
    · intro o ho f wS K hB hd hK
      simp only [List.getElem?_cons_zero, Option.some.injEq] at ho
      subst ho
      have hB' : Below xr.heap.size xr wS := belowDr hB
      have hcc := hC.out wS hB'
      have d0 := hcc.cells.1.1
      have d1 := hcc.cells.1.2.1
      have d2 := hcc.cells.1.2.2.1
      have d3 := hcc.cells.1.2.2.2.1
      have d4 := hcc.cells.1.2.2.2.2.1
      have d5 := hcc.cells.1.2.2.2.2.2.1
      have d6 := hcc.cells.1.2.2.2.2.2.2.1
      have d7 := hcc.cells.1.2.2.2.2.2.2.2
      have dl := hcc.lt
      clear hcc
      simp only [putsL, dstL, List.getElem?_cons_zero, List.getElem?_cons_succ, Option.bind, Act.put, List.setIfInBounds_toArray, List.set_cons_zero, List.set_cons_succ] at hK ⊢
      go_simp
      exact hK _ _ rfl (Below.refl _ _) (fun j u _ _ _ h => absurd h (E2_no (by decide) (by decide)))
    · intro o ho f wS K hB hd hK
      simp only [List.getElem?_cons_zero, List.getElem?_cons_succ, Option.some.injEq] at ho
      subst ho
      have hB' : Below xr.heap.size xr wS := belowDr hB
      simp only [putsL, dstL, List.getElem?_cons_zero, List.getElem?_cons_succ, Option.bind, Act.put, List.setIfInBounds_toArray, List.set_cons_zero, List.set_cons_succ] at hK ⊢
      go_simp
      exact hK _ _ rfl (Below.refl _ _) (fun j u _ _ _ h => absurd h (E2_no (by decide) (by decide)))
    · intro o ho f wS K hB hd hK
      simp only [List.getElem?_cons_zero, List.getElem?_cons_succ, Option.some.injEq] at ho
      subst ho
      have hB' : Below xr.heap.size xr wS := belowDr hB
      simp only [putsL, dstL, List.getElem?_cons_zero, List.getElem?_cons_succ, Option.bind, Act.put, List.setIfInBounds_toArray, List.set_cons_zero, List.set_cons_succ] at hK ⊢
      go_simp
      exact hK _ _ rfl (Below.refl _ _) (fun j u _ _ _ h => absurd h (E2_no (by decide) (by decide)))
    · intro o ho f wS K hB hd hK
      simp only [List.getElem?_cons_zero, List.getElem?_cons_succ, Option.some.injEq] at ho
      subst ho
      have hB' : Below xr.heap.size xr wS := belowDr hB
      simp only [putsL, dstL, List.getElem?_cons_zero, List.getElem?_cons_succ, Option.bind, Act.put, List.setIfInBounds_toArray, List.set_cons_zero, List.set_cons_succ] at hK ⊢
      go_simp
      exact hK _ _ rfl (Below.refl _ _) (fun j u _ _ _ h => absurd h (E2_no (by decide) (by decide)))
    · intro o ho f wS K hB hd hK
      simp only [List.getElem?_cons_zero, List.getElem?_cons_succ, Option.some.injEq] at ho
      subst ho
      have hB' : Below xr.heap.size xr wS := belowDr hB
      simp only [putsL, dstL, List.getElem?_cons_zero, List.getElem?_cons_succ, Option.bind, Act.put, List.setIfInBounds_toArray, List.set_cons_zero, List.set_cons_succ] at hK ⊢
      go_simp
      exact hK _ _ rfl (Below.refl _ _) (fun j u _ _ _ h => absurd h (E2_no (by decide) (by decide)))
    · intro o ho f wS K hB hd hK
      simp only [List.getElem?_cons_zero, List.getElem?_cons_succ, Option.some.injEq] at ho
      subst ho
      have hB' : Below xr.heap.size xr wS := belowDr hB
      have e2 : f 2 = .int .i64 k := hd 2 (by rfl)
      have e3 : f 3 = .int .i64 k := hd 3 (by rfl)
      have e4 : f 4 = .int .i64 k := hd 4 (by rfl)
      simp only [putsL, dstL, List.getElem?_cons_zero, List.getElem?_cons_succ, Option.bind, Act.put, List.setIfInBounds_toArray, List.set_cons_zero, List.set_cons_succ] at hK ⊢
      simp only [e2, e3, e4] at hK ⊢
      go_simp
      exact hK _ _ (VInts3.new wS _ _ _) (Go.Joins.below_alloc1 _ _) (fun j u _ _ _ h => absurd h (E2_no (by decide) (by decide)))
    · intro o ho f wS K hB hd hK
      simp only [List.getElem?_cons_zero, List.getElem?_cons_succ, Option.some.injEq] at ho
      subst ho
      have hB' : Below xr.heap.size xr wS := belowDr hB
      have e0 : f 0 = .agg #[.int .i64 ax, .int .i64 ay, .int .i64 bx, .int .i64 b, .int .i64 cx, .int .i64 cy, .int .i64 dx, .int .i64 dy] := hd 0 (by rfl)
      have e1 : f 1 = .int .i64 N := hd 1 (by rfl)
      obtain ⟨p, lo', hi', e5, h2, h3⟩ : VInts3 [k, k, k] (f 5) wS := hd 5 (by rfl)
      simp only [putsL, dstL, List.getElem?_cons_zero, List.getElem?_cons_succ, Option.bind, Act.put, List.setIfInBounds_toArray, List.set_cons_zero, List.set_cons_succ] at hK ⊢
      simp only [e0, e1, e5] at hK ⊢
      go_simp
      go_at_call 51
      refine (hc0.out p 3 lo' hi' wS h2 h3).mono ?_
      rintro e w9 ⟨rfl, hb9⟩
      exact hK _ _ rfl hb9 (fun j u _ _ _ h => absurd h (E2_no (by decide) (by decide)))
    · intro o ho f wS K hB hd hK
      simp only [List.getElem?_cons_zero, List.getElem?_cons_succ, Option.some.injEq] at ho
      subst ho
      have hB' : Below xr.heap.size xr wS := belowDr hB
      have hcc := hC.out wS hB'
      have d0 := hcc.cells.1.1
      have d1 := hcc.cells.1.2.1
      have d2 := hcc.cells.1.2.2.1
      have d3 := hcc.cells.1.2.2.2.1
      have d4 := hcc.cells.1.2.2.2.2.1
      have d5 := hcc.cells.1.2.2.2.2.2.1
      have d6 := hcc.cells.1.2.2.2.2.2.2.1
      have d7 := hcc.cells.1.2.2.2.2.2.2.2
      have dl := hcc.lt
      clear hcc
      simp only [putsL, dstL, List.getElem?_cons_zero, List.getElem?_cons_succ, Option.bind, Act.put, List.setIfInBounds_toArray, List.set_cons_zero, List.set_cons_succ] at hK ⊢
      go_simp
      exact hK _ _ rfl (Below.refl _ _) (fun j u _ _ _ h => absurd h (E2_no (by decide) (by decide)))
    · intro o ho f wS K hB hd hK
      simp only [List.getElem?_cons_zero, List.getElem?_cons_succ, Option.some.injEq] at ho
      subst ho
      have hB' : Below xr.heap.size xr wS := belowDr hB
      simp only [putsL, dstL, List.getElem?_cons_zero, List.getElem?_cons_succ, Option.bind, Act.put, List.setIfInBounds_toArray, List.set_cons_zero, List.set_cons_succ] at hK ⊢
      go_simp
      exact hK _ _ rfl (Below.refl _ _) (fun j u _ _ _ h => absurd h (E2_no (by decide) (by decide)))
    · intro o ho f wS K hB hd hK
      simp only [List.getElem?_cons_zero, List.getElem?_cons_succ, Option.some.injEq] at ho
      subst ho
      have hB' : Below xr.heap.size xr wS := belowDr hB
      simp only [putsL, dstL, List.getElem?_cons_zero, List.getElem?_cons_succ, Option.bind, Act.put, List.setIfInBounds_toArray, List.set_cons_zero, List.set_cons_succ] at hK ⊢
      go_simp
      exact hK _ _ rfl (Below.refl _ _) (fun j u _ _ _ h => absurd h (E2_no (by decide) (by decide)))
    · intro o ho f wS K hB hd hK
      simp only [List.getElem?_cons_zero, List.getElem?_cons_succ, Option.some.injEq] at ho
      subst ho
      have hB' : Below xr.heap.size xr wS := belowDr hB
      simp only [putsL, dstL, List.getElem?_cons_zero, List.getElem?_cons_succ, Option.bind, Act.put, List.setIfInBounds_toArray, List.set_cons_zero, List.set_cons_succ] at hK ⊢
      go_simp
      exact hK _ _ rfl (Below.refl _ _) (fun j u _ _ _ h => absurd h (E2_no (by decide) (by decide)))
    · intro o ho f wS K hB hd hK
      simp only [List.getElem?_cons_zero, List.getElem?_cons_succ, Option.some.injEq] at ho
      subst ho
      have hB' : Below xr.heap.size xr wS := belowDr hB
      simp only [putsL, dstL, List.getElem?_cons_zero, List.getElem?_cons_succ, Option.bind, Act.put, List.setIfInBounds_toArray, List.set_cons_zero, List.set_cons_succ] at hK ⊢
      go_simp
      exact hK _ _ rfl (Below.refl _ _) (fun j u _ _ _ h => absurd h (E2_no (by decide) (by decide)))
    · intro o ho f wS K hB hd hK
      simp only [List.getElem?_cons_zero, List.getElem?_cons_succ, Option.some.injEq] at ho
      subst ho
      have hB' : Below xr.heap.size xr wS := belowDr hB
      have e0 : f 11 = .int .i64 k := hd 11 (by rfl)
      simp only [putsL, dstL, List.getElem?_cons_zero, List.getElem?_cons_succ, Option.bind, Act.put, List.setIfInBounds_toArray, List.set_cons_zero, List.set_cons_succ] at hK ⊢
      simp only [e0] at hK ⊢
      go_simp
      exact hK _ _ rfl (Below.refl _ _) (fun j u _ _ _ h => absurd h (E2_no (by decide) (by decide)))
    · intro o ho f wS K hB hd hK
      simp only [List.getElem?_cons_zero, List.getElem?_cons_succ, Option.some.injEq] at ho
      subst ho
      have hB' : Below xr.heap.size xr wS := belowDr hB
      have e9 : f 9 = .int .i64 k := hd 9 (by rfl)
      have e10 : f 10 = .int .i64 k := hd 10 (by rfl)
      have e12 : f 12 = .int .i64 (k + 1) := hd 12 (by rfl)
      simp only [putsL, dstL, List.getElem?_cons_zero, List.getElem?_cons_succ, Option.bind, Act.put, List.setIfInBounds_toArray, List.set_cons_zero, List.set_cons_succ] at hK ⊢
      simp only [e9, e10, e12] at hK ⊢
      go_simp
      exact hK _ _ (VInts3.new wS _ _ _) (Go.Joins.below_alloc1 _ _) (fun j u _ _ _ h => absurd h (E2_no (by decide) (by decide)))
    · intro o ho f wS K hB hd hK
      simp only [List.getElem?_cons_zero, List.getElem?_cons_succ, Option.some.injEq] at ho
      subst ho
      have hB' : Below xr.heap.size xr wS := belowDr hB
      have e0 : f 7 = .agg #[.int .i64 ax, .int .i64 ay, .int .i64 bx, .int .i64 b, .int .i64 cx, .int .i64 cy, .int .i64 dx, .int .i64 dy] := hd 7 (by rfl)
      have e1 : f 8 = .int .i64 N := hd 8 (by rfl)
      obtain ⟨p, lo', hi', e5, h2, h3⟩ : VInts3 [k, k, k + 1] (f 13) wS := hd 13 (by rfl)
      simp only [putsL, dstL, List.getElem?_cons_zero, List.getElem?_cons_succ, Option.bind, Act.put, List.setIfInBounds_toArray, List.set_cons_zero, List.set_cons_succ] at hK ⊢
      simp only [e0, e1, e5] at hK ⊢
      go_simp
      go_at_call 51
      refine (hc1.out p 3 lo' hi' wS h2 h3).mono ?_
      rintro e w9 ⟨rfl, hb9⟩
      exact hK _ _ rfl hb9 (fun j u _ _ _ h => absurd h (E2_no (by decide) (by decide)))
    · intro o ho f wS K hB hd hK
      simp only [List.getElem?_cons_zero, List.getElem?_cons_succ, Option.some.injEq] at ho
      subst ho
      have hB' : Below xr.heap.size xr wS := belowDr hB
      simp only [putsL, dstL, List.getElem?_cons_zero, List.getElem?_cons_succ, Option.bind, Act.put, List.setIfInBounds_toArray, List.set_cons_zero, List.set_cons_succ] at hK ⊢
      go_simp
      refine hK _ _ ⟨_, rfl, hB'.size, heap_alloc_new wS _⟩ (Go.Joins.below_alloc1 _ _) (fun j u _ hne hu he => ?_)
      obtain rfl : j = 16 := E2_is he (by decide)
      exact VBox.fresh hu
    · intro o ho f wS K hB hd hK
      simp only [List.getElem?_cons_zero, List.getElem?_cons_succ, Option.some.injEq] at ho
      subst ho
      have hB' : Below xr.heap.size xr wS := belowDr hB
      simp only [putsL, dstL, List.getElem?_cons_zero, List.getElem?_cons_succ, Option.bind, Act.put, List.setIfInBounds_toArray, List.set_cons_zero, List.set_cons_succ] at hK ⊢
      go_simp
      refine hK _ _ ⟨_, rfl, hB'.size, heap_alloc_new wS _⟩ (Go.Joins.below_alloc1 _ _) (fun j u _ hne hu he => ?_)
      obtain rfl : j = 15 := E2_is he (by decide)
      exact VBox.fresh hu
  intro f v' hB' hf hne
  have eA0 : f 6 = .agg #[.int .i64 p0x, .int .i64 p0y] := hf 6 (by omega)
  have eB0 : f 14 = .agg #[.int .i64 p1x, .int .i64 p1y] := hf 14 (by omega)
  obtain ⟨ba, eA, hba, xba⟩ : VBox xr.heap.size (.cells #[.int .i64 0, .int .i64 0] 24 (0, 0)) (f 15) v' := hf 15 (by omega)
  obtain ⟨bb, eB, hbb, xbb⟩ : VBox xr.heap.size (.cells #[.int .i64 0, .int .i64 0] 24 (0, 0)) (f 16) v' := hf 16 (by omega)
  have hab : ba ≠ bb := by
    intro h
    refine hne 15 16 (by omega) (by omega) (by decide) (by decide) ?_
    rw [eA, eB, h]
  simp only [List.drop_succ_cons, List.drop_zero]
  simp only [putsL, dstL, List.getElem?_cons_zero, List.getElem?_cons_succ, Option.bind, Act.put, List.setIfInBounds_toArray, List.set_cons_zero, List.set_cons_succ]
  simp only [eA, eB, eA0, eB0]
  clear hf hne eA eB eA0 eB0
  have hab2 : bb ≠ ba := hab.symm
  replace xba : PB v' ba 0 0 := xba
  replace xbb : PB v' bb 0 0 := xbb
  obtain ⟨o0, o1, of, ol⟩ := xba.cells
  obtain ⟨u0, u1, uf, ul⟩ := xbb.cells
  have hW1 : Hid (PB ((((v'.setCell ⟨ba, 0, none⟩ (.int .i64 p0x)).setCell ⟨ba, 1, none⟩ (.int .i64 p0y)).setCell ⟨bb, 0, none⟩ (.int .i64 p1x)).setCell ⟨bb, 1, none⟩ (.int .i64 p1y)) ba p0x p0y) := Lib.hid (((xba.put _ _).off hab).off hab)
  have hW2 : Hid (PB ((((v'.setCell ⟨ba, 0, none⟩ (.int .i64 p0x)).setCell ⟨ba, 1, none⟩ (.int .i64 p0y)).setCell ⟨bb, 0, none⟩ (.int .i64 p1x)).setCell ⟨bb, 1, none⟩ (.int .i64 p1y)) bb p1x p1y) := Lib.hid (((xbb.off hab2).off hab2).put _ _)
  have hW3 : Hid (Below xr.heap.size xr ((((v'.setCell ⟨ba, 0, none⟩ (.int .i64 p0x)).setCell ⟨ba, 1, none⟩ (.int .i64 p0y)).setCell ⟨bb, 0, none⟩ (.int .i64 p1x)).setCell ⟨bb, 1, none⟩ (.int .i64 p1y))) := Lib.hid ((((hB'.setCell (p := ⟨ba, 0, none⟩) hba _).setCell (p := ⟨ba, 1, none⟩) hba _).setCell (p := ⟨bb, 0, none⟩) hbb _).setCell (p := ⟨bb, 1, none⟩) hbb _)
  go_upto_region 10 with fail
  generalize ((((v'.setCell ⟨ba, 0, none⟩ (.int .i64 p0x)).setCell ⟨ba, 1, none⟩ (.int .i64 p0y)).setCell ⟨bb, 0, none⟩ (.int .i64 p1x)).setCell ⟨bb, 1, none⟩ (.int .i64 p1y)) = x9 at *
  clear o0 o1 of ol u0 u1 uf ul xba xbb hB'

  have hz9 := hW3.out.size
  have hb9 := Lib.hid (fun (W : World) (h : Below x9.heap.size x9 W) => (show Below xr.heap.size xr W from hW3.out.trans (h.mono hz9)))
  replace hC : Hid (∀ W, Below x9.heap.size x9 W → CB W w.heap.size ax ay bx b cx cy dx dy) := Lib.hid fun W hW => hC.out W (hb9.out W hW)
  have baB : Hid (∀ W, Below x9.heap.size x9 W → PB W ba p0x p0y) := Lib.hid fun W hW => hW1.out.below hW
  have bbB : Hid (∀ W, Below x9.heap.size x9 W → PB W bb p1x p1y) := Lib.hid fun W hW => hW2.out.below hW
  have hal : ba < x9.heap.size ∧ bb < x9.heap.size := ⟨hW1.out.cells.2.2.2, hW2.out.cells.2.2.2⟩
  clear hW1 hW2 hW3 hab hab2 hba hbb
  refine wp_region_staysE 21 (fun jv => match jv with | 0 => VIs (.agg #[.int .i64 ax, .int .i64 ay, .int .i64 bx, .int .i64 b, .int .i64 cx, .int .i64 cy, .int .i64 dx, .int .i64 dy]) | 1 => VIs (.int .i64 N) | 2 => VIs (.int .i64 k) | 3 => VIs (.int .i64 k) | 4 => VIs (.int .i64 (k + 1)) | 5 => VIs (.int .i64 k) | 6 => VIs (.int .i64 (k + 1)) | 7 => VInts3 [k, k + 1, k + 1] | 8 => VIs (.agg #[.int .i64 p2x, .int .i64 p2y]) | 9 => VIs (.agg #[.int .i64 ax, .int .i64 ay, .int .i64 bx, .int .i64 b, .int .i64 cx, .int .i64 cy, .int .i64 dx, .int .i64 dy]) | 10 => VIs (.int .i64 N) | 11 => VIs (.int .i64 k) | 12 => VIs (.int .i64 (k + 1)) | 13 => VIs (.int .i64 k) | 14 => VIs (.int .i64 (k + 1)) | 15 => VIs (.int .i64 k) | 16 => VIs (.int .i64 (k + 1)) | 17 => VInts3 [k + 1, k + 1, k + 1] | 18 => VIs (.agg #[.int .i64 p3x, .int .i64 p3y]) | 19 => VBox x9.heap.size (.cells #[.int .i64 0, .int .i64 0] 24 (0, 0)) | _ => VBox x9.heap.size (.cells #[.int .i64 0, .int .i64 0] 24 (0, 0))) (E2 19 20) (E2_comm _ _) (by kernel_rfl) (by kernel_rfl) ?_ ?_ ?_
  · intro j hj
    rcases (show j = 0 ∨ j = 1 ∨ j = 2 ∨ j = 3 ∨ j = 4 ∨ j = 5 ∨ j = 6 ∨ j = 7 ∨ j = 8 ∨ j = 9 ∨ j = 10 ∨ j = 11 ∨ j = 12 ∨ j = 13 ∨ j = 14 ∨ j = 15 ∨ j = 16 ∨ j = 17 ∨ j = 18 ∨ j = 19 ∨ j = 20 by omega) with rfl | rfl | rfl | rfl | rfl | rfl | rfl | rfl | rfl | rfl | rfl | rfl | rfl | rfl | rfl | rfl | rfl | rfl | rfl | rfl | rfl <;> first | exact VIs.stays _ | exact VInts3.stays _ | exact VBox.stays _ _ | exact VQuad.stays _ _
  · intro i hi
    rcases (show i = 0 ∨ i = 1 ∨ i = 2 ∨ i = 3 ∨ i = 4 ∨ i = 5 ∨ i = 6 ∨ i = 7 ∨ i = 8 ∨ i = 9 ∨ i = 10 ∨ i = 11 ∨ i = 12 ∨ i = 13 ∨ i = 14 ∨ i = 15 ∨ i = 16 ∨ i = 17 ∨ i = 18 ∨ i = 19 ∨ i = 20 by omega) with rfl | rfl | rfl | rfl | rfl | rfl | rfl | rfl | rfl | rfl | rfl | rfl | rfl | rfl | rfl | rfl | rfl | rfl | rfl | rfl | rfl
    · intro o ho f wS K hB hd hK
      simp only [List.getElem?_cons_zero, Option.some.injEq] at ho
      subst ho
      have hB' : Below x9.heap.size x9 wS := belowDr hB
      have hcc := hC.out wS hB'
      have d0 := hcc.cells.1.1
      have d1 := hcc.cells.1.2.1
      have d2 := hcc.cells.1.2.2.1
      have d3 := hcc.cells.1.2.2.2.1
      have d4 := hcc.cells.1.2.2.2.2.1
      have d5 := hcc.cells.1.2.2.2.2.2.1
      have d6 := hcc.cells.1.2.2.2.2.2.2.1
      have d7 := hcc.cells.1.2.2.2.2.2.2.2
      have dl := hcc.lt
      clear hcc
      simp only [putsL, dstL, List.getElem?_cons_zero, List.getElem?_cons_succ, Option.bind, Act.put, List.setIfInBounds_toArray, List.set_cons_zero, List.set_cons_succ] at hK ⊢
      go_simp
      exact hK _ _ rfl (Below.refl _ _) (fun j u _ _ _ h => absurd h (E2_no (by decide) (by decide)))
    · intro o ho f wS K hB hd hK
      simp only [List.getElem?_cons_zero, List.getElem?_cons_succ, Option.some.injEq] at ho
      subst ho
      have hB' : Below x9.heap.size x9 wS := belowDr hB
      simp only [putsL, dstL, List.getElem?_cons_zero, List.getElem?_cons_succ, Option.bind, Act.put, List.setIfInBounds_toArray, List.set_cons_zero, List.set_cons_succ] at hK ⊢
      go_simp
      exact hK _ _ rfl (Below.refl _ _) (fun j u _ _ _ h => absurd h (E2_no (by decide) (by decide)))
    · intro o ho f wS K hB hd hK
      simp only [List.getElem?_cons_zero, List.getElem?_cons_succ, Option.some.injEq] at ho
      subst ho
      have hB' : Below x9.heap.size x9 wS := belowDr hB
      simp only [putsL, dstL, List.getElem?_cons_zero, List.getElem?_cons_succ, Option.bind, Act.put, List.setIfInBounds_toArray, List.set_cons_zero, List.set_cons_succ] at hK ⊢
      go_simp
      exact hK _ _ rfl (Below.refl _ _) (fun j u _ _ _ h => absurd h (E2_no (by decide) (by decide)))
    · intro o ho f wS K hB hd hK
      simp only [List.getElem?_cons_zero, List.getElem?_cons_succ, Option.some.injEq] at ho
      subst ho
      have hB' : Below x9.heap.size x9 wS := belowDr hB
      simp only [putsL, dstL, List.getElem?_cons_zero, List.getElem?_cons_succ, Option.bind, Act.put, List.setIfInBounds_toArray, List.set_cons_zero, List.set_cons_succ] at hK ⊢
      go_simp
      exact hK _ _ rfl (Below.refl _ _) (fun j u _ _ _ h => absurd h (E2_no (by decide) (by decide)))
    · intro o ho f wS K hB hd hK
      simp only [List.getElem?_cons_zero, List.getElem?_cons_succ, Option.some.injEq] at ho
      subst ho
      have hB' : Below x9.heap.size x9 wS := belowDr hB
      have e0 : f 3 = .int .i64 k := hd 3 (by rfl)
      simp only [putsL, dstL, List.getElem?_cons_zero, List.getElem?_cons_succ, Option.bind, Act.put, List.setIfInBounds_toArray, List.set_cons_zero, List.set_cons_succ] at hK ⊢
      simp only [e0] at hK ⊢
      go_simp
      exact hK _ _ rfl (Below.refl _ _) (fun j u _ _ _ h => absurd h (E2_no (by decide) (by decide)))
    · intro o ho f wS K hB hd hK
      simp only [List.getElem?_cons_zero, List.getElem?_cons_succ, Option.some.injEq] at ho
      subst ho
      have hB' : Below x9.heap.size x9 wS := belowDr hB
      simp only [putsL, dstL, List.getElem?_cons_zero, List.getElem?_cons_succ, Option.bind, Act.put, List.setIfInBounds_toArray, List.set_cons_zero, List.set_cons_succ] at hK ⊢
      go_simp
      exact hK _ _ rfl (Below.refl _ _) (fun j u _ _ _ h => absurd h (E2_no (by decide) (by decide)))
    · intro o ho f wS K hB hd hK
      simp only [List.getElem?_cons_zero, List.getElem?_cons_succ, Option.some.injEq] at ho
      subst ho
      have hB' : Below x9.heap.size x9 wS := belowDr hB
      have e0 : f 5 = .int .i64 k := hd 5 (by rfl)
      simp only [putsL, dstL, List.getElem?_cons_zero, List.getElem?_cons_succ, Option.bind, Act.put, List.setIfInBounds_toArray, List.set_cons_zero, List.set_cons_succ] at hK ⊢
      simp only [e0] at hK ⊢
      go_simp
      exact hK _ _ rfl (Below.refl _ _) (fun j u _ _ _ h => absurd h (E2_no (by decide) (by decide)))
    · intro o ho f wS K hB hd hK
      simp only [List.getElem?_cons_zero, List.getElem?_cons_succ, Option.some.injEq] at ho
      subst ho
      have hB' : Below x9.heap.size x9 wS := belowDr hB
      have e2 : f 2 = .int .i64 k := hd 2 (by rfl)
      have e4 : f 4 = .int .i64 (k + 1) := hd 4 (by rfl)
      have e6 : f 6 = .int .i64 (k + 1) := hd 6 (by rfl)
      simp only [putsL, dstL, List.getElem?_cons_zero, List.getElem?_cons_succ, Option.bind, Act.put, List.setIfInBounds_toArray, List.set_cons_zero, List.set_cons_succ] at hK ⊢
      simp only [e2, e4, e6] at hK ⊢
      go_simp
      exact hK _ _ (VInts3.new wS _ _ _) (Go.Joins.below_alloc1 _ _) (fun j u _ _ _ h => absurd h (E2_no (by decide) (by decide)))
    · intro o ho f wS K hB hd hK
      simp only [List.getElem?_cons_zero, List.getElem?_cons_succ, Option.some.injEq] at ho
      subst ho
      have hB' : Below x9.heap.size x9 wS := belowDr hB
      have e0 : f 0 = .agg #[.int .i64 ax, .int .i64 ay, .int .i64 bx, .int .i64 b, .int .i64 cx, .int .i64 cy, .int .i64 dx, .int .i64 dy] := hd 0 (by rfl)
      have e1 : f 1 = .int .i64 N := hd 1 (by rfl)
      obtain ⟨p, lo', hi', e5, h2, h3⟩ : VInts3 [k, k + 1, k + 1] (f 7) wS := hd 7 (by rfl)
      simp only [putsL, dstL, List.getElem?_cons_zero, List.getElem?_cons_succ, Option.bind, Act.put, List.setIfInBounds_toArray, List.set_cons_zero, List.set_cons_succ] at hK ⊢
      simp only [e0, e1, e5] at hK ⊢
      go_simp
      go_at_call 51
      refine (hc2.out p 3 lo' hi' wS h2 h3).mono ?_
      rintro e w9 ⟨rfl, hb9⟩
      exact hK _ _ rfl hb9 (fun j u _ _ _ h => absurd h (E2_no (by decide) (by decide)))
    · intro o ho f wS K hB hd hK
      simp only [List.getElem?_cons_zero, List.getElem?_cons_succ, Option.some.injEq] at ho
      subst ho
      have hB' : Below x9.heap.size x9 wS := belowDr hB
      have hcc := hC.out wS hB'
      have d0 := hcc.cells.1.1
      have d1 := hcc.cells.1.2.1
      have d2 := hcc.cells.1.2.2.1
      have d3 := hcc.cells.1.2.2.2.1
      have d4 := hcc.cells.1.2.2.2.2.1
      have d5 := hcc.cells.1.2.2.2.2.2.1
      have d6 := hcc.cells.1.2.2.2.2.2.2.1
      have d7 := hcc.cells.1.2.2.2.2.2.2.2
      have dl := hcc.lt
      clear hcc
      simp only [putsL, dstL, List.getElem?_cons_zero, List.getElem?_cons_succ, Option.bind, Act.put, List.setIfInBounds_toArray, List.set_cons_zero, List.set_cons_succ] at hK ⊢
      go_simp
      exact hK _ _ rfl (Below.refl _ _) (fun j u _ _ _ h => absurd h (E2_no (by decide) (by decide)))
    · intro o ho f wS K hB hd hK
      simp only [List.getElem?_cons_zero, List.getElem?_cons_succ, Option.some.injEq] at ho
      subst ho
      have hB' : Below x9.heap.size x9 wS := belowDr hB
      simp only [putsL, dstL, List.getElem?_cons_zero, List.getElem?_cons_succ, Option.bind, Act.put, List.setIfInBounds_toArray, List.set_cons_zero, List.set_cons_succ] at hK ⊢
      go_simp
      exact hK _ _ rfl (Below.refl _ _) (fun j u _ _ _ h => absurd h (E2_no (by decide) (by decide)))
    · intro o ho f wS K hB hd hK
      simp only [List.getElem?_cons_zero, List.getElem?_cons_succ, Option.some.injEq] at ho
      subst ho
      have hB' : Below x9.heap.size x9 wS := belowDr hB
      simp only [putsL, dstL, List.getElem?_cons_zero, List.getElem?_cons_succ, Option.bind, Act.put, List.setIfInBounds_toArray, List.set_cons_zero, List.set_cons_succ] at hK ⊢
      go_simp
      exact hK _ _ rfl (Below.refl _ _) (fun j u _ _ _ h => absurd h (E2_no (by decide) (by decide)))
    · intro o ho f wS K hB hd hK
      simp only [List.getElem?_cons_zero, List.getElem?_cons_succ, Option.some.injEq] at ho
      subst ho
      have hB' : Below x9.heap.size x9 wS := belowDr hB
      have e0 : f 11 = .int .i64 k := hd 11 (by rfl)
      simp only [putsL, dstL, List.getElem?_cons_zero, List.getElem?_cons_succ, Option.bind, Act.put, List.setIfInBounds_toArray, List.set_cons_zero, List.set_cons_succ] at hK ⊢
      simp only [e0] at hK ⊢
      go_simp
      exact hK _ _ rfl (Below.refl _ _) (fun j u _ _ _ h => absurd h (E2_no (by decide) (by decide)))
    · intro o ho f wS K hB hd hK
      simp only [List.getElem?_cons_zero, List.getElem?_cons_succ, Option.some.injEq] at ho
      subst ho
      have hB' : Below x9.heap.size x9 wS := belowDr hB
      simp only [putsL, dstL, List.getElem?_cons_zero, List.getElem?_cons_succ, Option.bind, Act.put, List.setIfInBounds_toArray, List.set_cons_zero, List.set_cons_succ] at hK ⊢
      go_simp
      exact hK _ _ rfl (Below.refl _ _) (fun j u _ _ _ h => absurd h (E2_no (by decide) (by decide)))
    · intro o ho f wS K hB hd hK
      simp only [List.getElem?_cons_zero, List.getElem?_cons_succ, Option.some.injEq] at ho
      subst ho
      have hB' : Below x9.heap.size x9 wS := belowDr hB
      have e0 : f 13 = .int .i64 k := hd 13 (by rfl)
      simp only [putsL, dstL, List.getElem?_cons_zero, List.getElem?_cons_succ, Option.bind, Act.put, List.setIfInBounds_toArray, List.set_cons_zero, List.set_cons_succ] at hK ⊢
      simp only [e0] at hK ⊢
      go_simp
      exact hK _ _ rfl (Below.refl _ _) (fun j u _ _ _ h => absurd h (E2_no (by decide) (by decide)))
    · intro o ho f wS K hB hd hK
      simp only [List.getElem?_cons_zero, List.getElem?_cons_succ, Option.some.injEq] at ho
      subst ho
      have hB' : Below x9.heap.size x9 wS := belowDr hB
      simp only [putsL, dstL, List.getElem?_cons_zero, List.getElem?_cons_succ, Option.bind, Act.put, List.setIfInBounds_toArray, List.set_cons_zero, List.set_cons_succ] at hK ⊢
      go_simp
      exact hK _ _ rfl (Below.refl _ _) (fun j u _ _ _ h => absurd h (E2_no (by decide) (by decide)))
    · intro o ho f wS K hB hd hK
      simp only [List.getElem?_cons_zero, List.getElem?_cons_succ, Option.some.injEq] at ho
      subst ho
      have hB' : Below x9.heap.size x9 wS := belowDr hB
      have e0 : f 15 = .int .i64 k := hd 15 (by rfl)
      simp only [putsL, dstL, List.getElem?_cons_zero, List.getElem?_cons_succ, Option.bind, Act.put, List.setIfInBounds_toArray, List.set_cons_zero, List.set_cons_succ] at hK ⊢
      simp only [e0] at hK ⊢
      go_simp
      exact hK _ _ rfl (Below.refl _ _) (fun j u _ _ _ h => absurd h (E2_no (by decide) (by decide)))
    · intro o ho f wS K hB hd hK
      simp only [List.getElem?_cons_zero, List.getElem?_cons_succ, Option.some.injEq] at ho
      subst ho
      have hB' : Below x9.heap.size x9 wS := belowDr hB
      have e12 : f 12 = .int .i64 (k + 1) := hd 12 (by rfl)
      have e14 : f 14 = .int .i64 (k + 1) := hd 14 (by rfl)
      have e16 : f 16 = .int .i64 (k + 1) := hd 16 (by rfl)
      simp only [putsL, dstL, List.getElem?_cons_zero, List.getElem?_cons_succ, Option.bind, Act.put, List.setIfInBounds_toArray, List.set_cons_zero, List.set_cons_succ] at hK ⊢
      simp only [e12, e14, e16] at hK ⊢
      go_simp
      exact hK _ _ (VInts3.new wS _ _ _) (Go.Joins.below_alloc1 _ _) (fun j u _ _ _ h => absurd h (E2_no (by decide) (by decide)))
    · intro o ho f wS K hB hd hK
      simp only [List.getElem?_cons_zero, List.getElem?_cons_succ, Option.some.injEq] at ho
      subst ho
      have hB' : Below x9.heap.size x9 wS := belowDr hB
      have e0 : f 9 = .agg #[.int .i64 ax, .int .i64 ay, .int .i64 bx, .int .i64 b, .int .i64 cx, .int .i64 cy, .int .i64 dx, .int .i64 dy] := hd 9 (by rfl)
      have e1 : f 10 = .int .i64 N := hd 10 (by rfl)
      obtain ⟨p, lo', hi', e5, h2, h3⟩ : VInts3 [k + 1, k + 1, k + 1] (f 17) wS := hd 17 (by rfl)
      simp only [putsL, dstL, List.getElem?_cons_zero, List.getElem?_cons_succ, Option.bind, Act.put, List.setIfInBounds_toArray, List.set_cons_zero, List.set_cons_succ] at hK ⊢
      simp only [e0, e1, e5] at hK ⊢
      go_simp
      go_at_call 51
      refine (hc3.out p 3 lo' hi' wS h2 h3).mono ?_
      rintro e w9 ⟨rfl, hb9⟩
      exact hK _ _ rfl hb9 (fun j u _ _ _ h => absurd h (E2_no (by decide) (by decide)))
    · intro o ho f wS K hB hd hK
      simp only [List.getElem?_cons_zero, List.getElem?_cons_succ, Option.some.injEq] at ho
      subst ho
      have hB' : Below x9.heap.size x9 wS := belowDr hB
      simp only [putsL, dstL, List.getElem?_cons_zero, List.getElem?_cons_succ, Option.bind, Act.put, List.setIfInBounds_toArray, List.set_cons_zero, List.set_cons_succ] at hK ⊢
      go_simp
      refine hK _ _ ⟨_, rfl, hB'.size, heap_alloc_new wS _⟩ (Go.Joins.below_alloc1 _ _) (fun j u _ hne hu he => ?_)
      obtain rfl : j = 20 := E2_is he (by decide)
      exact VBox.fresh hu
    · intro o ho f wS K hB hd hK
      simp only [List.getElem?_cons_zero, List.getElem?_cons_succ, Option.some.injEq] at ho
      subst ho
      have hB' : Below x9.heap.size x9 wS := belowDr hB
      simp only [putsL, dstL, List.getElem?_cons_zero, List.getElem?_cons_succ, Option.bind, Act.put, List.setIfInBounds_toArray, List.set_cons_zero, List.set_cons_succ] at hK ⊢
      go_simp
      refine hK _ _ ⟨_, rfl, hB'.size, heap_alloc_new wS _⟩ (Go.Joins.below_alloc1 _ _) (fun j u _ hne hu he => ?_)
      obtain rfl : j = 19 := E2_is he (by decide)
      exact VBox.fresh hu
  intro f v' hB' hf hne
  have eA0 : f 8 = .agg #[.int .i64 p2x, .int .i64 p2y] := hf 8 (by omega)
  have eB0 : f 18 = .agg #[.int .i64 p3x, .int .i64 p3y] := hf 18 (by omega)
  obtain ⟨bc, eA, hbc, xbc⟩ : VBox x9.heap.size (.cells #[.int .i64 0, .int .i64 0] 24 (0, 0)) (f 19) v' := hf 19 (by omega)
  obtain ⟨bd, eB, hbd, xbd⟩ : VBox x9.heap.size (.cells #[.int .i64 0, .int .i64 0] 24 (0, 0)) (f 20) v' := hf 20 (by omega)
  have hab : bc ≠ bd := by
    intro h
    refine hne 19 20 (by omega) (by omega) (by decide) (by decide) ?_
    rw [eA, eB, h]
  simp only [List.drop_succ_cons, List.drop_zero]
  simp only [putsL, dstL, List.getElem?_cons_zero, List.getElem?_cons_succ, Option.bind, Act.put, List.setIfInBounds_toArray, List.set_cons_zero, List.set_cons_succ]
  simp only [eA, eB, eA0, eB0]
  clear hf hne eA eB eA0 eB0
  have hab2 : bd ≠ bc := hab.symm
  replace xbc : PB v' bc 0 0 := xbc
  replace xbd : PB v' bd 0 0 := xbd
  obtain ⟨o0, o1, of, ol⟩ := xbc.cells
  obtain ⟨u0, u1, uf, ul⟩ := xbd.cells
  have hW1 : Hid (PB ((((v'.setCell ⟨bc, 0, none⟩ (.int .i64 p2x)).setCell ⟨bc, 1, none⟩ (.int .i64 p2y)).setCell ⟨bd, 0, none⟩ (.int .i64 p3x)).setCell ⟨bd, 1, none⟩ (.int .i64 p3y)) bc p2x p2y) := Lib.hid (((xbc.put _ _).off hab).off hab)
  have hW2 : Hid (PB ((((v'.setCell ⟨bc, 0, none⟩ (.int .i64 p2x)).setCell ⟨bc, 1, none⟩ (.int .i64 p2y)).setCell ⟨bd, 0, none⟩ (.int .i64 p3x)).setCell ⟨bd, 1, none⟩ (.int .i64 p3y)) bd p3x p3y) := Lib.hid (((xbd.off hab2).off hab2).put _ _)
  have hW3 : Hid (Below x9.heap.size x9 ((((v'.setCell ⟨bc, 0, none⟩ (.int .i64 p2x)).setCell ⟨bc, 1, none⟩ (.int .i64 p2y)).setCell ⟨bd, 0, none⟩ (.int .i64 p3x)).setCell ⟨bd, 1, none⟩ (.int .i64 p3y))) := Lib.hid ((((hB'.setCell (p := ⟨bc, 0, none⟩) hbc _).setCell (p := ⟨bc, 1, none⟩) hbc _).setCell (p := ⟨bd, 0, none⟩) hbd _).setCell (p := ⟨bd, 1, none⟩) hbd _)
  go_upto_region 11 with fail
  generalize ((((v'.setCell ⟨bc, 0, none⟩ (.int .i64 p2x)).setCell ⟨bc, 1, none⟩ (.int .i64 p2y)).setCell ⟨bd, 0, none⟩ (.int .i64 p3x)).setCell ⟨bd, 1, none⟩ (.int .i64 p3y)) = x10 at *
  clear o0 o1 of ol u0 u1 uf ul xbc xbd hB'

  have hz10 := hW3.out.size
  have hb10 := Lib.hid (fun (W : World) (h : Below x10.heap.size x10 W) => (show Below x9.heap.size x9 W from hW3.out.trans (h.mono hz10)))
  have pA := baB.out x10 hW3.out
  have pB := bbB.out x10 hW3.out
  obtain ⟨o0, o1, of, ol⟩ := pA.cells
  obtain ⟨u0, u1, uf, ul⟩ := pB.cells
  obtain ⟨i0, i1, if', il⟩ := hW1.out.cells
  obtain ⟨m0, m1, mf, ml⟩ := hW2.out.cells
  obtain ⟨e0x, e0y⟩ := e0.out
  obtain ⟨e1x, e1y⟩ := e1.out
  obtain ⟨e2x, e2y⟩ := e2.out
  obtain ⟨e3x, e3y⟩ := e3.out
  unfold BdI at e0x e0y e1x e1y e2x e2y e3x e3y
  obtain ⟨s1, sb1⟩ := wmul (C := 256) (bd_lit (n := 4) (by decide)) hNb (by decide) (by decide)
  obtain ⟨s2, sb2⟩ := wmul (C := 16384) sb1 hNb (by decide) (by decide)
  obtain ⟨s3, sb3⟩ := wmul (C := 1048576) sb2 hNb (by decide) (by decide)
  have hN4 : 0 < 4 * (N : Int) * N * N := Int.mul_pos (Int.mul_pos (by omega) (by omega)) (by omega)
  unfold BdI at sb3
  have hcm := Lib.hid (combine4_any (some ⟨x10.heap.size, 0, none⟩) 4 _ _ ⟨p0x, p0y, p1x, p1y, p2x, p2y, p3x, p3y⟩ (x10.heap.size + 1) 4 _ _ (-1) 3 3 (-1) ((x10.alloc (.cells #[.int .i64 p0x, .int .i64 p0y, .int .i64 p1x, .int .i64 p1y, .int .i64 p2x, .int .i64 p2y, .int .i64 p3x, .int .i64 p3y] 24 (0, 0))).alloc (.cells #[.int .i64 (-1), .int .i64 3, .int .i64 3, .int .i64 (-1)] 2 (0, 0)))
    ((four_pts x10 ⟨p0x, p0y, p1x, p1y, p2x, p2y, p3x, p3y⟩).frame (good_flat _) (Below.sameB (Go.Joins.below_alloc1 _ _) (Nat.le_refl _))) (by simp) (by have h := four_ints (x10.alloc (.cells #[.int .i64 p0x, .int .i64 p0y, .int .i64 p1x, .int .i64 p1y, .int .i64 p2x, .int .i64 p2y, .int .i64 p3x, .int .i64 p3y] 24 (0, 0))) (-1) 3 3 (-1); simpa using h) (Nat.le_of_eq (by simp))
    (by unfold S4; simp only; omega) (by unfold S4; simp only; omega) (by unfold S4; simp only; omega) (by unfold S4; simp only; omega))
  have hd1 : dot4 p0x p1x p2x p3x (-1) 3 3 (-1) = 3 * p1x - p0x + 3 * p2x - p3x := by unfold dot4; omega
  have hd2 : dot4 p0y p1y p2y p3y (-1) 3 3 (-1) = 3 * p1y - p0y + 3 * p2y - p3y := by unfold dot4; omega
  simp only [hd1, hd2] at hcm
  have hdv := Lib.hid (fun W => divPt_any (3 * p1x - p0x + 3 * p2x - p3x) (3 * p1y - p0y + 3 * p2y - p3y) (4 * (N : Int) * N * N) W (by omega) (by omega) (by omega) (by omega) hN4 (by omega))
  rw [hct2.out.1, hct2.out.2] at hdv
  obtain ⟨MX, hMX⟩ : ∃ x, x = BX k := ⟨_, rfl⟩
  obtain ⟨MY, hMY⟩ : ∃ x, x = BY k := ⟨_, rfl⟩
  rw [← hMX, ← hMY] at hdv
  replace hMX := Lib.hid hMX
  replace hMY := Lib.hid hMY
  generalize 3 * p1x - p0x + 3 * p2x - p3x = CX at *
  generalize 3 * p1y - p0y + 3 * p2y - p3y = CY at *
  clear e0x e0y e1x e1y e2x e2y e3x e3y sb1 sb2 sb3 hd1 hd2 hN4 hct2 e0 e1 e2 e3 pA pB
  go_wp2_with fail
  refine hcm.out.mono ?_
  rintro e y1 ⟨rfl, hb1⟩
  have hy1 := (Go.Joins.below_alloc2 x10 (.cells #[.int .i64 p0x, .int .i64 p0y, .int .i64 p1x, .int .i64 p1y, .int .i64 p2x, .int .i64 p2y, .int .i64 p3x, .int .i64 p3y] 24 (0, 0)) (.cells #[.int .i64 (-1), .int .i64 3, .int .i64 3, .int .i64 (-1)] 2 (0, 0))).trans (hb1.mono (by simp; omega))
  have hzy1 := hy1.size
  clear o0 o1 of ol u0 u1 uf ul i0 i1 if' il m0 m1 mf ml hb1 hcm
  go_wp2_with fail
  refine (hdv.out y1).mono ?_
  rintro e y2 ⟨rfl, hb2⟩
  have hy2 := hy1.trans (hb2.mono hzy1)
  have hzy2 := hy2.size
  have hb3 := hy2.trans ((Go.Joins.below_alloc1 y2 (.cells #[.int .i64 MX, .int .i64 MY] 24 (0, 0))).mono hzy2)
  have hM := heap_alloc_new y2 (.cells #[.int .i64 MX, .int .i64 MY] 24 (0, 0))
  have hz3 : (y2.alloc (.cells #[.int .i64 MX, .int .i64 MY] 24 (0, 0))).heap.size = y2.heap.size + 1 := by simp
  clear hb2 hy1 hdv s1 s2 s3
  go_upto_region 12 with fail
  generalize (y2.alloc (.cells #[.int .i64 MX, .int .i64 MY] 24 (0, 0))) = x11 at *
  obtain ⟨bm, hbm⟩ : ∃ b, b = y2.heap.size := ⟨_, rfl⟩
  rw [← hbm] at hM hz3 ⊢
  have hPM : PB x11 bm MX MY := hM
  obtain ⟨m0, m1, _, ml⟩ := hPM.cells
  replace hPM := Lib.hid hPM
  have hz11 := hb3.size
  clear hM hz3 hbm hy2 hzy2 hzy1
  obtain ⟨v, hv⟩ : ∃ v, v = ptOk MX MY := ⟨_, rfl⟩
  have hvp := Lib.hid (validPt_any MX MY x11)
  rw [← hv] at hvp
  go_wp2_with fail
  refine hvp.out.mono ?_
  rintro e x12 ⟨rfl, hb4⟩
  have hb14 := hb3.trans (hb4.mono hz11)
  have hz12 := hb14.size
  have hB12 := Lib.hid (hb9.out x12 (hb10.out x12 hb14))
  have hbB : Hid (∀ W, Below x12.heap.size x12 W → PB W bm MX MY) := Lib.hid fun W hW => (hPM.out.below hb4).below hW
  replace hC : Hid (∀ W, Below x12.heap.size x12 W → CB W w.heap.size ax ay bx b cx cy dx dy) := Lib.hid fun W hW => hC.out W (hb10.out W (hb14.trans (hW.mono hz12)))
  clear m0 m1 ml hb3 hb4 hvp hPM
  have hgj : v = ptOk (BX (j : Int)) (BY (j : Int)) := by rw [hv, hMX.out, hMY.out, hkj.out]
  replace hv := Lib.hid hv
  cases v with
  | false =>
    have hR := hR2.out
    have hBe := hbs.out x12 (hbel.trans (hB12.out.mono hzx))
    replace hgj := Lib.hid hgj
    go_wp2_with fail
    go_ret2
    exact ⟨hR _ _ (.inl ⟨⟨j, hlt, hgood.out, hgj.out.symm⟩, rfl⟩), hBe⟩
  | true =>
    replace hgj := Lib.hid hgj
    have hca := Lib.hid (fun W => hat.out k W hk0 (by omega) (by omega) (by omega))
    have hcb := Lib.hid (fun W => hat.out (k + 1) W (by omega) hkN (by omega) (by omega))
    have hqc := hQc.out k
    obtain ⟨⟨X0, Y0⟩, hXY0⟩ : ∃ p, p = cAt ⟨ax, ay, bx, b, cx, cy, dx, dy⟩ k N := ⟨_, rfl⟩
    obtain ⟨⟨X2, Y2⟩, hXY2⟩ : ∃ p, p = cAt ⟨ax, ay, bx, b, cx, cy, dx, dy⟩ (k + 1) N := ⟨_, rfl⟩
    rw [← hXY0] at hca hqc
    rw [← hXY2] at hcb hqc
    rw [← hMX.out, ← hMY.out] at hqc
    simp only at hca hcb hqc
    replace hqc := Lib.hid hqc
    clear hXY0 hXY2 hat
    go_upto_region 14 with fail
    refine wp_region_stays 13 (fun jv => match jv with | 0 => VIs (.slice A j c) | 1 => VIs (.agg #[.int .i64 ax, .int .i64 ay, .int .i64 bx, .int .i64 b, .int .i64 cx, .int .i64 cy, .int .i64 dx, .int .i64 dy]) | 2 => VIs (.int .i64 k) | 3 => VIs (.int .i64 N) | 4 => VIs (.agg #[.int .i64 X0, .int .i64 Y0]) | 5 => VIs (.agg #[.int .i64 MX, .int .i64 MY]) | 6 => VIs (.agg #[.int .i64 ax, .int .i64 ay, .int .i64 bx, .int .i64 b, .int .i64 cx, .int .i64 cy, .int .i64 dx, .int .i64 dy]) | 7 => VIs (.int .i64 k) | 8 => VIs (.int .i64 (k + 1)) | 9 => VIs (.int .i64 N) | 10 => VIs (.agg #[.int .i64 X2, .int .i64 Y2]) | 11 => VIs (.agg #[.int .i64 X0, .int .i64 Y0, .int .i64 MX, .int .i64 MY, .int .i64 X2, .int .i64 Y2]) | _ => VQuad x12.heap.size ⟨X0, Y0, MX, MY, X2, Y2⟩) (by kernel_rfl) (by kernel_rfl) ?_ ?_ ?_
    · intro j hj
      rcases (show j = 0 ∨ j = 1 ∨ j = 2 ∨ j = 3 ∨ j = 4 ∨ j = 5 ∨ j = 6 ∨ j = 7 ∨ j = 8 ∨ j = 9 ∨ j = 10 ∨ j = 11 ∨ j = 12 by omega) with rfl | rfl | rfl | rfl | rfl | rfl | rfl | rfl | rfl | rfl | rfl | rfl | rfl <;> first | exact VIs.stays _ | exact VInts3.stays _ | exact VBox.stays _ _ | exact VQuad.stays _ _
    · intro i hi
      rcases (show i = 0 ∨ i = 1 ∨ i = 2 ∨ i = 3 ∨ i = 4 ∨ i = 5 ∨ i = 6 ∨ i = 7 ∨ i = 8 ∨ i = 9 ∨ i = 10 ∨ i = 11 ∨ i = 12 by omega) with rfl | rfl | rfl | rfl | rfl | rfl | rfl | rfl | rfl | rfl | rfl | rfl | rfl
      · intro o ho f wS K hB hd hK
        simp only [List.getElem?_cons_zero, Option.some.injEq] at ho
        subst ho
        have hB' : Below x12.heap.size x12 wS := belowDr hB
        simp only [putsL, dstL, List.getElem?_cons_zero, List.getElem?_cons_succ, Option.bind, Act.put, List.setIfInBounds_toArray, List.set_cons_zero, List.set_cons_succ] at hK ⊢
        go_simp
        exact hK _ _ rfl (Below.refl _ _)
      · intro o ho f wS K hB hd hK
        simp only [List.getElem?_cons_zero, List.getElem?_cons_succ, Option.some.injEq] at ho
        subst ho
        have hB' : Below x12.heap.size x12 wS := belowDr hB
        have hcc := hC.out wS hB'
        have d0 := hcc.cells.1.1
        have d1 := hcc.cells.1.2.1
        have d2 := hcc.cells.1.2.2.1
        have d3 := hcc.cells.1.2.2.2.1
        have d4 := hcc.cells.1.2.2.2.2.1
        have d5 := hcc.cells.1.2.2.2.2.2.1
        have d6 := hcc.cells.1.2.2.2.2.2.2.1
        have d7 := hcc.cells.1.2.2.2.2.2.2.2
        have dl := hcc.lt
        clear hcc
        simp only [putsL, dstL, List.getElem?_cons_zero, List.getElem?_cons_succ, Option.bind, Act.put, List.setIfInBounds_toArray, List.set_cons_zero, List.set_cons_succ] at hK ⊢
        go_simp
        exact hK _ _ rfl (Below.refl _ _)
      · intro o ho f wS K hB hd hK
        simp only [List.getElem?_cons_zero, List.getElem?_cons_succ, Option.some.injEq] at ho
        subst ho
        have hB' : Below x12.heap.size x12 wS := belowDr hB
        simp only [putsL, dstL, List.getElem?_cons_zero, List.getElem?_cons_succ, Option.bind, Act.put, List.setIfInBounds_toArray, List.set_cons_zero, List.set_cons_succ] at hK ⊢
        go_simp
        exact hK _ _ rfl (Below.refl _ _)
      · intro o ho f wS K hB hd hK
        simp only [List.getElem?_cons_zero, List.getElem?_cons_succ, Option.some.injEq] at ho
        subst ho
        have hB' : Below x12.heap.size x12 wS := belowDr hB
        simp only [putsL, dstL, List.getElem?_cons_zero, List.getElem?_cons_succ, Option.bind, Act.put, List.setIfInBounds_toArray, List.set_cons_zero, List.set_cons_succ] at hK ⊢
        go_simp
        exact hK _ _ rfl (Below.refl _ _)
      · intro o ho f wS K hB hd hK
        simp only [List.getElem?_cons_zero, List.getElem?_cons_succ, Option.some.injEq] at ho
        subst ho
        have hB' : Below x12.heap.size x12 wS := belowDr hB
        have e0 : f 1 = .agg #[.int .i64 ax, .int .i64 ay, .int .i64 bx, .int .i64 b, .int .i64 cx, .int .i64 cy, .int .i64 dx, .int .i64 dy] := hd 1 (by rfl)
        have e1 : f 2 = .int .i64 k := hd 2 (by rfl)
        have e2 : f 3 = .int .i64 N := hd 3 (by rfl)
        simp only [putsL, dstL, List.getElem?_cons_zero, List.getElem?_cons_succ, Option.bind, Act.put, List.setIfInBounds_toArray, List.set_cons_zero, List.set_cons_succ] at hK ⊢
        simp only [e0, e1, e2] at hK ⊢
        go_simp
        go_at_call 22
        refine (hca.out wS).mono ?_
        rintro e w9 ⟨rfl, hb9⟩
        exact hK _ _ rfl hb9
      · intro o ho f wS K hB hd hK
        simp only [List.getElem?_cons_zero, List.getElem?_cons_succ, Option.some.injEq] at ho
        subst ho
        have hB' : Below x12.heap.size x12 wS := belowDr hB
        have hpp := hbB.out wS hB'
        have d0 := hpp.cells.1
        have d1 := hpp.cells.2.1
        have dl := hpp.cells.2.2.2
        clear hpp
        simp only [putsL, dstL, List.getElem?_cons_zero, List.getElem?_cons_succ, Option.bind, Act.put, List.setIfInBounds_toArray, List.set_cons_zero, List.set_cons_succ] at hK ⊢
        go_simp
        exact hK _ _ rfl (Below.refl _ _)
      · intro o ho f wS K hB hd hK
        simp only [List.getElem?_cons_zero, List.getElem?_cons_succ, Option.some.injEq] at ho
        subst ho
        have hB' : Below x12.heap.size x12 wS := belowDr hB
        have hcc := hC.out wS hB'
        have d0 := hcc.cells.1.1
        have d1 := hcc.cells.1.2.1
        have d2 := hcc.cells.1.2.2.1
        have d3 := hcc.cells.1.2.2.2.1
        have d4 := hcc.cells.1.2.2.2.2.1
        have d5 := hcc.cells.1.2.2.2.2.2.1
        have d6 := hcc.cells.1.2.2.2.2.2.2.1
        have d7 := hcc.cells.1.2.2.2.2.2.2.2
        have dl := hcc.lt
        clear hcc
        simp only [putsL, dstL, List.getElem?_cons_zero, List.getElem?_cons_succ, Option.bind, Act.put, List.setIfInBounds_toArray, List.set_cons_zero, List.set_cons_succ] at hK ⊢
        go_simp
        exact hK _ _ rfl (Below.refl _ _)
      · intro o ho f wS K hB hd hK
        simp only [List.getElem?_cons_zero, List.getElem?_cons_succ, Option.some.injEq] at ho
        subst ho
        have hB' : Below x12.heap.size x12 wS := belowDr hB
        simp only [putsL, dstL, List.getElem?_cons_zero, List.getElem?_cons_succ, Option.bind, Act.put, List.setIfInBounds_toArray, List.set_cons_zero, List.set_cons_succ] at hK ⊢
        go_simp
        exact hK _ _ rfl (Below.refl _ _)
      · intro o ho f wS K hB hd hK
        simp only [List.getElem?_cons_zero, List.getElem?_cons_succ, Option.some.injEq] at ho
        subst ho
        have hB' : Below x12.heap.size x12 wS := belowDr hB
        have e0 : f 7 = .int .i64 k := hd 7 (by rfl)
        simp only [putsL, dstL, List.getElem?_cons_zero, List.getElem?_cons_succ, Option.bind, Act.put, List.setIfInBounds_toArray, List.set_cons_zero, List.set_cons_succ] at hK ⊢
        simp only [e0] at hK ⊢
        go_simp
        exact hK _ _ rfl (Below.refl _ _)
      · intro o ho f wS K hB hd hK
        simp only [List.getElem?_cons_zero, List.getElem?_cons_succ, Option.some.injEq] at ho
        subst ho
        have hB' : Below x12.heap.size x12 wS := belowDr hB
        simp only [putsL, dstL, List.getElem?_cons_zero, List.getElem?_cons_succ, Option.bind, Act.put, List.setIfInBounds_toArray, List.set_cons_zero, List.set_cons_succ] at hK ⊢
        go_simp
        exact hK _ _ rfl (Below.refl _ _)
      · intro o ho f wS K hB hd hK
        simp only [List.getElem?_cons_zero, List.getElem?_cons_succ, Option.some.injEq] at ho
        subst ho
        have hB' : Below x12.heap.size x12 wS := belowDr hB
        have e0 : f 6 = .agg #[.int .i64 ax, .int .i64 ay, .int .i64 bx, .int .i64 b, .int .i64 cx, .int .i64 cy, .int .i64 dx, .int .i64 dy] := hd 6 (by rfl)
        have e1 : f 8 = .int .i64 (k + 1) := hd 8 (by rfl)
        have e2 : f 9 = .int .i64 N := hd 9 (by rfl)
        simp only [putsL, dstL, List.getElem?_cons_zero, List.getElem?_cons_succ, Option.bind, Act.put, List.setIfInBounds_toArray, List.set_cons_zero, List.set_cons_succ] at hK ⊢
        simp only [e0, e1, e2] at hK ⊢
        go_simp
        go_at_call 22
        refine (hcb.out wS).mono ?_
        rintro e w9 ⟨rfl, hb9⟩
        exact hK _ _ rfl hb9
      · intro o ho f wS K hB hd hK
        simp only [List.getElem?_cons_zero, List.getElem?_cons_succ, Option.some.injEq] at ho
        subst ho
        have hB' : Below x12.heap.size x12 wS := belowDr hB
        have e4 : f 4 = .agg #[.int .i64 X0, .int .i64 Y0] := hd 4 (by rfl)
        have e5 : f 5 = .agg #[.int .i64 MX, .int .i64 MY] := hd 5 (by rfl)
        have e10 : f 10 = .agg #[.int .i64 X2, .int .i64 Y2] := hd 10 (by rfl)
        simp only [putsL, dstL, List.getElem?_cons_zero, List.getElem?_cons_succ, Option.bind, Act.put, List.setIfInBounds_toArray, List.set_cons_zero, List.set_cons_succ] at hK ⊢
        simp only [e4, e5, e10] at hK ⊢
        go_simp
        exact hK _ _ rfl (Below.refl _ _)
      · intro o ho f wS K hB hd hK
        simp only [List.getElem?_cons_zero, List.getElem?_cons_succ, Option.some.injEq] at ho
        subst ho
        have hB' : Below x12.heap.size x12 wS := belowDr hB
        have e0 : f 11 = .agg #[.int .i64 X0, .int .i64 Y0, .int .i64 MX, .int .i64 MY, .int .i64 X2, .int .i64 Y2] := hd 11 (by rfl)
        simp only [putsL, dstL, List.getElem?_cons_zero, List.getElem?_cons_succ, Option.bind, Act.put, List.setIfInBounds_toArray, List.set_cons_zero, List.set_cons_succ] at hK ⊢
        simp only [e0] at hK ⊢
        go_simp
        exact hK _ _ ⟨_, rfl, hB'.size, heap_alloc_new wS _⟩ (Go.Joins.below_alloc1 _ _)
    intro f v' hB' hf
    have eA0 : f 0 = .slice A j c := hf 0 (by omega)
    obtain ⟨bq, eB0, hbq, hQ⟩ : VQuad x12.heap.size ⟨X0, Y0, MX, MY, X2, Y2⟩ (f 12) v' := hf 12 (by omega)
    simp only [List.drop_succ_cons, List.drop_zero]
    simp only [putsL, dstL, List.getElem?_cons_zero, List.getElem?_cons_succ, Option.bind, Act.put, List.setIfInBounds_toArray, List.set_cons_zero, List.set_cons_succ]
    simp only [eA0, eB0]
    clear hf eA0 eB0
    have hBv := hB12.out.trans (hB'.mono hB12.out.size)
    have hzv := hBv.size
    have hown9 := Lib.hid (own_below hown.out hBv)
    have hsrc : Hid (Src v' 6 (some ⟨bq, 0, none⟩) 1 [.int .i64 X0, .int .i64 Y0, .int .i64 MX, .int .i64 MY, .int .i64 X2, .int .i64 Y2]) := by
      refine Lib.hid ⟨rfl, by simp [Value.oneCell'], fun _ => ⟨_, rfl, fun i u hu => ?_⟩⟩
      obtain ⟨r0, r1, r2, r3, r4, r5⟩ := hQ.cells
      rcases (show i = 0 ∨ i = 1 ∨ i = 2 ∨ i = 3 ∨ i = 4 ∨ i = 5 ∨ 6 ≤ i by omega) with rfl | rfl | rfl | rfl | rfl | rfl | hi
      · injection hu with hu; subst hu; exact r0
      · injection hu with hu; subst hu; exact r1
      · injection hu with hu; subst hu; exact r2
      · injection hu with hu; subst hu; exact r3
      · injection hu with hu; subst hu; exact r4
      · injection hu with hu; subst hu; exact r5
      · rw [List.getElem?_eq_none (by simp; omega)] at hu; cases hu
    have hQD9 := Lib.hid (hQD.out j hlt)
    have q7 : IntKind.i64.wrap (k + 1) = ((j + 1 : Nat) : Int) := by have := hkj.out; rw [wi (by omega)]; omega
    clear hkN2
    go_wp2_with (at_builtin; refine wpApp rfl (.tmp 88) (.tmp 100) elemQuad rfl (v := .slice A j c) (n := j) (xs := (QL.take j).flatMap qdC) rfl hown9.out rfl hsrc.out (by omega) (by omega) (by omega) (j + 1) rfl ?_; intro A9 c9 w9 ho9 hb9'; replace ho9 := Lib.hid ho9)
    go_roundw
    case rel =>
      refine ⟨j + 1, A9, c9, by go_num, by omega, rfl, ?_, fun i hi => ?_, (hbel.trans (hBv.mono hzx)).trans hb9'⟩
      · have h := ho9.out
        rw [hQD9.out, List.flatMap_append]
        rw [← hqc.out, hkj.out] at h
        simpa using h
      · rcases (show i < j ∨ i = j by omega) with h | rfl
        · exact hgood.out i h
        · exact hgj.out.symm
    case measure => have := hkj.out; simp [intOf]; omega
end Go.Proofs.Ytpmpbfkpiocleaa

