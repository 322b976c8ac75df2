/- Validity, thirds, polar forms, control points: the reference's side. Printed by mk_cv2.py. Conditions: as each states. -/
import Derived.Test.YtpmpbfkpiocleaaQv39
namespace Go.Proofs.Ytpmpbfkpiocleaa
open Go.RowKit
set_option linter.unusedVariables false
set_option maxRecDepth 100000

theorem l03Ok_yes (x y : Int) (h : ptOk x y = true) (w : World) : Calls Try.prog 30 #[.agg #[.int .i64 x, .int .i64 y]] w fun e w' => e = .returned (.bool true) ∧ Below w.heap.size w w' := by
  have := l03Ok_any x y w
  rw [h] at this
  exact this
theorem l09Ok_yes (p : Nat) (q : Cb) (hq : q.ok) (w : World) (hp : CB w p q.ax q.ay q.bx q.b q.cx q.cy q.dx q.dy) :
    Calls Try.prog 37 #[.pointer (some ⟨p, 0, none⟩)] w fun e w' => e = .returned (.bool true) ∧ Below w.heap.size w w' := by
  have j1 := Lib.hid (fun W => l03Ok_yes q.ax q.ay hq.1 W)
  have j2 := Lib.hid (fun W => l03Ok_yes q.bx q.b hq.2.1 W)
  have j3 := Lib.hid (fun W => l03Ok_yes q.cx q.cy hq.2.2.1 W)
  have j4 := Lib.hid (fun W => l03Ok_yes q.dx q.dy hq.2.2.2 W)
  clear hq
  obtain ⟨ax, ay, bx, b, cx, cy, dx, dy⟩ := q
  simp only at j1 j2 j3 j4 hp
  obtain ⟨⟨k0, k1, k2, k3, k4, k5, k6, k7⟩, _, hl⟩ := hp.cells
  have hpB := Lib.hid (fun W (hb : Below w.heap.size w W) => CB.below hp hb)
  clear hp
  go_enter Try.func37, Try.ntmps37
  go_wp2_with fail
  refine (j1.out _).mono ?_
  rintro e w1 ⟨rfl, hb1⟩
  have hz1 := hb1.size
  clear k0 k1 k2 k3 k4 k5 k6 k7
  obtain ⟨⟨k0, k1, k2, k3, k4, k5, k6, k7⟩, _, hl1⟩ := (hpB.out w1 hb1).cells
  go_wp2_with fail
  refine (j2.out _).mono ?_
  rintro e w2 ⟨rfl, hb2⟩
  replace hb2 := hb1.trans (hb2.mono hz1)
  have hz2 := hb2.size
  clear k0 k1 k2 k3 k4 k5 k6 k7 hb1
  obtain ⟨⟨k0, k1, k2, k3, k4, k5, k6, k7⟩, _, hl2⟩ := (hpB.out w2 hb2).cells
  go_wp2_with fail
  refine (j3.out _).mono ?_
  rintro e w3 ⟨rfl, hb3⟩
  replace hb3 := hb2.trans (hb3.mono hz2)
  have hz3 := hb3.size
  clear k0 k1 k2 k3 k4 k5 k6 k7 hb2
  obtain ⟨⟨k0, k1, k2, k3, k4, k5, k6, k7⟩, _, hl3⟩ := (hpB.out w3 hb3).cells
  go_wp2_with fail
  refine (j4.out _).mono ?_
  rintro e w4 ⟨rfl, hb4⟩
  replace hb4 := hb3.trans (hb4.mono hz3)
  clear k0 k1 k2 k3 k4 k5 k6 k7 hb3
  go_wp2_with fail
  go_ret
  exact ⟨rfl, hb4⟩

set_option maxHeartbeats 4000000 in
theorem l10Third_any (p : Nat) (q : Cb) (hq : q.ok) (w : World) (hp : CB w p q.ax q.ay q.bx q.b q.cx q.cy q.dx q.dy) :
    Calls Try.prog 54 #[.pointer (some ⟨p, 0, none⟩)] w fun e w' => e = .returned (.agg #[.int .i64 (q.dx - 3 * q.cx + 3 * q.bx - q.ax), .int .i64 (q.dy - 3 * q.cy + 3 * q.b - q.ay)]) ∧ Below w.heap.size w w' := by
  obtain ⟨hax, hay⟩ := bd_pt hq.1
  obtain ⟨hbx, hb⟩ := bd_pt hq.2.1
  obtain ⟨hcx, hcy⟩ := bd_pt hq.2.2.1
  obtain ⟨hdx, hdy⟩ := bd_pt hq.2.2.2
  clear hq
  obtain ⟨ax, ay, bx, b, cx, cy, dx, dy⟩ := q
  simp only at *
  obtain ⟨q1, qb1⟩ := wmul (C := 786432) (bd_lit (n := 3) (by decide)) hcx (by decide) (by decide)
  obtain ⟨q2, qb2⟩ := wsub (C := 1048576) hdx qb1 (by decide) (by decide)
  obtain ⟨q3, qb3⟩ := wmul (C := 786432) (bd_lit (n := 3) (by decide)) hbx (by decide) (by decide)
  obtain ⟨q4, qb4⟩ := wadd (C := 1835008) qb2 qb3 (by decide) (by decide)
  obtain ⟨q5, qb5⟩ := wsub (C := 2097152) qb4 hax (by decide) (by decide)
  obtain ⟨q6, qb6⟩ := wmul (C := 786432) (bd_lit (n := 3) (by decide)) hcy (by decide) (by decide)
  obtain ⟨q7, qb7⟩ := wsub (C := 1048576) hdy qb6 (by decide) (by decide)
  obtain ⟨q8, qb8⟩ := wmul (C := 786432) (bd_lit (n := 3) (by decide)) hb (by decide) (by decide)
  obtain ⟨q9, qb9⟩ := wadd (C := 1835008) qb7 qb8 (by decide) (by decide)
  obtain ⟨q10, qb10⟩ := wsub (C := 2097152) qb9 hay (by decide) (by decide)
  clear qb1 qb2 qb3 qb4 qb5 qb6 qb7 qb8 qb9 qb10
  clear hax hay hbx hb hcx hcy hdx hdy
  have hpV := hp.below (Go.Joins.below_alloc1 w (.cells #[.int .i64 0, .int .i64 0] 24 (0, 0)))
  have hrV : PB (w.alloc (.cells #[.int .i64 0, .int .i64 0] 24 (0, 0))) w.heap.size 0 0 := heap_alloc_new w _
  have hB0 : Below w.heap.size w (w.alloc (.cells #[.int .i64 0, .int .i64 0] 24 (0, 0))) := Go.Joins.below_alloc1 _ _
  clear hp
  go_enter Try.func54, Try.ntmps54
  go_wp2_with fail
  generalize w.alloc (.cells #[.int .i64 0, .int .i64 0] 24 (0, 0)) = V at *
  obtain ⟨⟨k0, k1, k2, k3, k4, k5, k6, k7⟩, _, hlV⟩ := hpV.cells
  go_still_tail 51, (by kernel_rfl)
  replace hrV := hrV.drew
  replace hB0 := hB0.drew
  clear k0 k1 k2 k3 k4 k5 k6 k7 hlV hpV
  change wpList _ _ _ _ _ V.drew
  generalize V.drew = V4 at *
  obtain ⟨r0, r1, rf, rl⟩ := hrV.cells
  go_wp2_with fail
  refine bodyPost_ret (v := .agg #[.int .i64 (dx - 3 * cx + 3 * bx - ax), .int .i64 (dy - 3 * cy + 3 * b - ay)]) (by simp [results, Try.results54, go_sem, r0, r1]) rfl ⟨rfl, ?_⟩
  exact (hB0.setCell (p := ⟨w.heap.size, 0, none⟩) (Nat.le_refl _) _).setCell (p := ⟨w.heap.size, 1, none⟩) (Nat.le_refl _) _

set_option maxHeartbeats 4000000 in
theorem l10Blossom_any (a b c d r s t n : Int) (w : World) (ha : BdI a 262144) (hb : BdI b 262144) (hc : BdI c 262144) (hd : BdI d 262144) (hr : 0 ≤ r ∧ r ≤ n) (hs : 0 ≤ s ∧ s ≤ n) (ht : 0 ≤ t ∧ t ≤ n) (hn2 : n ≤ 64) :
    Calls Try.prog 65 #[.int .i64 a, .int .i64 b, .int .i64 c, .int .i64 d, .int .i64 r, .int .i64 s, .int .i64 t, .int .i64 n] w fun e w' => e = .returned (.int .i64 (bloC a b c d r s t n)) ∧ w' = w := by
  obtain ⟨u, hue⟩ : ∃ m, m = n - r := ⟨_, rfl⟩
  obtain ⟨v, hve⟩ : ∃ m, m = n - s := ⟨_, rfl⟩
  obtain ⟨y, hye⟩ : ∃ m, m = n - t := ⟨_, rfl⟩
  have he : u * v * y * a + ((r * v * y + (u * s * y) + (u * v * t)) * b) + ((r * s * y + (r * v * t) + (u * s * t)) * c) + (r * s * t * d) = bloC a b c d r s t n := by subst hue hve hye; rfl
  have hu : BdI u 64 := ⟨by omega, by omega⟩
  have hv : BdI v 64 := ⟨by omega, by omega⟩
  have hy : BdI y 64 := ⟨by omega, by omega⟩
  have g1 : IntKind.i64.wrap (n - r) = u := by rw [wi (by omega), hue]
  have g2 : IntKind.i64.wrap (n - s) = v := by rw [wi (by omega), hve]
  have g3 : IntKind.i64.wrap (n - t) = y := by rw [wi (by omega), hye]
  replace hr : BdI r 64 := ⟨by omega, by omega⟩
  replace hs : BdI s 64 := ⟨by omega, by omega⟩
  replace ht : BdI t 64 := ⟨by omega, by omega⟩
  obtain ⟨q1, qb1⟩ := wmul (C := 4096) hu hv (by decide) (by decide)
  obtain ⟨q2, qb2⟩ := wmul (C := 262144) qb1 hy (by decide) (by decide)
  obtain ⟨q3, qb3⟩ := wmul (C := 68719476736) qb2 ha (by decide) (by decide)
  obtain ⟨q4, qb4⟩ := wmul (C := 4096) hr hv (by decide) (by decide)
  obtain ⟨q5, qb5⟩ := wmul (C := 262144) qb4 hy (by decide) (by decide)
  obtain ⟨q6, qb6⟩ := wmul (C := 4096) hu hs (by decide) (by decide)
  obtain ⟨q7, qb7⟩ := wmul (C := 262144) qb6 hy (by decide) (by decide)
  obtain ⟨q8, qb8⟩ := wadd (C := 524288) qb5 qb7 (by decide) (by decide)
  obtain ⟨q9, qb9⟩ := wmul (C := 262144) qb1 ht (by decide) (by decide)
  obtain ⟨q10, qb10⟩ := wadd (C := 786432) qb8 qb9 (by decide) (by decide)
  obtain ⟨q11, qb11⟩ := wmul (C := 206158430208) qb10 hb (by decide) (by decide)
  obtain ⟨q12, qb12⟩ := wadd (C := 274877906944) qb3 qb11 (by decide) (by decide)
  obtain ⟨q13, qb13⟩ := wmul (C := 4096) hr hs (by decide) (by decide)
  obtain ⟨q14, qb14⟩ := wmul (C := 262144) qb13 hy (by decide) (by decide)
  obtain ⟨q15, qb15⟩ := wmul (C := 262144) qb4 ht (by decide) (by decide)
  obtain ⟨q16, qb16⟩ := wadd (C := 524288) qb14 qb15 (by decide) (by decide)
  obtain ⟨q17, qb17⟩ := wmul (C := 262144) qb6 ht (by decide) (by decide)
  obtain ⟨q18, qb18⟩ := wadd (C := 786432) qb16 qb17 (by decide) (by decide)
  obtain ⟨q19, qb19⟩ := wmul (C := 206158430208) qb18 hc (by decide) (by decide)
  obtain ⟨q20, qb20⟩ := wadd (C := 481036337152) qb12 qb19 (by decide) (by decide)
  obtain ⟨q21, qb21⟩ := wmul (C := 262144) qb13 ht (by decide) (by decide)
  obtain ⟨q22, qb22⟩ := wmul (C := 68719476736) qb21 hd (by decide) (by decide)
  obtain ⟨q23, qb23⟩ := wadd (C := 549755813888) qb20 qb22 (by decide) (by decide)
  clear qb1 qb2 qb3 qb4 qb5 qb6 qb7 qb8 qb9 qb10 qb11 qb12 qb13 qb14 qb15 qb16 qb17 qb18 qb19 qb20 qb21 qb22 qb23
  clear hr hs ht hu hv hy ha hb hc hd
  replace hue := Lib.hid hue
  replace hve := Lib.hid hve
  replace hye := Lib.hid hye
  replace he := Lib.hid he
  go_enter Try.func65, Try.ntmps65
  go_wp2_with fail
  go_ret
  exact ⟨ret_int he.out, rfl⟩
theorem bloC_bd {a b c d r s t n : Int} (ha : BdI a 262144) (hb : BdI b 262144) (hc : BdI c 262144) (hd : BdI d 262144) (hr : 0 ≤ r ∧ r ≤ n) (hs : 0 ≤ s ∧ s ≤ n) (ht : 0 ≤ t ∧ t ≤ n) (hn2 : n ≤ 64) : BdI (bloC a b c d r s t n) 549755813888 := by
  obtain ⟨u, hue⟩ : ∃ m, m = n - r := ⟨_, rfl⟩
  obtain ⟨v, hve⟩ : ∃ m, m = n - s := ⟨_, rfl⟩
  obtain ⟨y, hye⟩ : ∃ m, m = n - t := ⟨_, rfl⟩
  have he : u * v * y * a + ((r * v * y + (u * s * y) + (u * v * t)) * b) + ((r * s * y + (r * v * t) + (u * s * t)) * c) + (r * s * t * d) = bloC a b c d r s t n := by subst hue hve hye; rfl
  have hu : BdI u 64 := ⟨by omega, by omega⟩
  have hv : BdI v 64 := ⟨by omega, by omega⟩
  have hy : BdI y 64 := ⟨by omega, by omega⟩
  replace hr : BdI r 64 := ⟨by omega, by omega⟩
  replace hs : BdI s 64 := ⟨by omega, by omega⟩
  replace ht : BdI t 64 := ⟨by omega, by omega⟩
  obtain ⟨q1, qb1⟩ := wmul (C := 4096) hu hv (by decide) (by decide)
  obtain ⟨q2, qb2⟩ := wmul (C := 262144) qb1 hy (by decide) (by decide)
  obtain ⟨q3, qb3⟩ := wmul (C := 68719476736) qb2 ha (by decide) (by decide)
  obtain ⟨q4, qb4⟩ := wmul (C := 4096) hr hv (by decide) (by decide)
  obtain ⟨q5, qb5⟩ := wmul (C := 262144) qb4 hy (by decide) (by decide)
  obtain ⟨q6, qb6⟩ := wmul (C := 4096) hu hs (by decide) (by decide)
  obtain ⟨q7, qb7⟩ := wmul (C := 262144) qb6 hy (by decide) (by decide)
  obtain ⟨q8, qb8⟩ := wadd (C := 524288) qb5 qb7 (by decide) (by decide)
  obtain ⟨q9, qb9⟩ := wmul (C := 262144) qb1 ht (by decide) (by decide)
  obtain ⟨q10, qb10⟩ := wadd (C := 786432) qb8 qb9 (by decide) (by decide)
  obtain ⟨q11, qb11⟩ := wmul (C := 206158430208) qb10 hb (by decide) (by decide)
  obtain ⟨q12, qb12⟩ := wadd (C := 274877906944) qb3 qb11 (by decide) (by decide)
  obtain ⟨q13, qb13⟩ := wmul (C := 4096) hr hs (by decide) (by decide)
  obtain ⟨q14, qb14⟩ := wmul (C := 262144) qb13 hy (by decide) (by decide)
  obtain ⟨q15, qb15⟩ := wmul (C := 262144) qb4 ht (by decide) (by decide)
  obtain ⟨q16, qb16⟩ := wadd (C := 524288) qb14 qb15 (by decide) (by decide)
  obtain ⟨q17, qb17⟩ := wmul (C := 262144) qb6 ht (by decide) (by decide)
  obtain ⟨q18, qb18⟩ := wadd (C := 786432) qb16 qb17 (by decide) (by decide)
  obtain ⟨q19, qb19⟩ := wmul (C := 206158430208) qb18 hc (by decide) (by decide)
  obtain ⟨q20, qb20⟩ := wadd (C := 481036337152) qb12 qb19 (by decide) (by decide)
  obtain ⟨q21, qb21⟩ := wmul (C := 262144) qb13 ht (by decide) (by decide)
  obtain ⟨q22, qb22⟩ := wmul (C := 68719476736) qb21 hd (by decide) (by decide)
  obtain ⟨q23, qb23⟩ := wadd (C := 549755813888) qb20 qb22 (by decide) (by decide)
  rw [← he]
  exact qb23
set_option maxHeartbeats 4000000 in
theorem l10Control_any (a b c d k n : Int) (w : World) (ha : BdI a 262144) (hb : BdI b 262144) (hc : BdI c 262144) (hd : BdI d 262144) (h0 : 0 ≤ k) (hk : k + 1 ≤ n) (hn2 : n ≤ 64) :
    Calls Try.prog 55 #[.int .i64 a, .int .i64 b, .int .i64 c, .int .i64 d, .int .i64 k, .int .i64 n] w fun e w' => e = .returned (.int .i64 (rnd (ctlC a b c d k n) (4 * n * n * n))) ∧ w' = w := by
  have c0 := Lib.hid (fun W => l10Blossom_any a b c d k k k n W ha hb hc hd (by omega) (by omega) (by omega) hn2)
  have c1 := Lib.hid (fun W => l10Blossom_any a b c d k k (k + 1) n W ha hb hc hd (by omega) (by omega) (by omega) hn2)
  have c2 := Lib.hid (fun W => l10Blossom_any a b c d k (k + 1) (k + 1) n W ha hb hc hd (by omega) (by omega) (by omega) hn2)
  have c3 := Lib.hid (fun W => l10Blossom_any a b c d (k + 1) (k + 1) (k + 1) n W ha hb hc hd (by omega) (by omega) (by omega) hn2)
  have h0' := bloC_bd (n := n) ha hb hc hd (r := k) (s := k) (t := k) (by omega) (by omega) (by omega) hn2
  have h1' := bloC_bd (n := n) ha hb hc hd (r := k) (s := k) (t := k + 1) (by omega) (by omega) (by omega) hn2
  have h2' := bloC_bd (n := n) ha hb hc hd (r := k) (s := k + 1) (t := k + 1) (by omega) (by omega) (by omega) hn2
  have h3' := bloC_bd (n := n) ha hb hc hd (r := k + 1) (s := k + 1) (t := k + 1) (by omega) (by omega) (by omega) hn2
  have g1 : IntKind.i64.wrap (k + 1) = k + 1 := wi (by omega)
  unfold ctlC
  have hn1 : 0 < n := by omega
  have hn3 : 0 < 4 * n * n * n := Int.mul_pos (Int.mul_pos (by omega) hn1) hn1
  have hn : BdI n 64 := ⟨by omega, by omega⟩
  generalize bloC a b c d k k k n = p0 at *
  generalize bloC a b c d k k (k + 1) n = p1 at *
  generalize bloC a b c d k (k + 1) (k + 1) n = p2 at *
  generalize bloC a b c d (k + 1) (k + 1) (k + 1) n = p3 at *
  obtain ⟨q1, qb1⟩ := wmul (C := 1649267441664) (bd_lit (n := 3) (by decide)) h1' (by decide) (by decide)
  obtain ⟨q2, qb2⟩ := wsub (C := 2199023255552) qb1 h0' (by decide) (by decide)
  obtain ⟨q3, qb3⟩ := wmul (C := 1649267441664) (bd_lit (n := 3) (by decide)) h2' (by decide) (by decide)
  obtain ⟨q4, qb4⟩ := wadd (C := 3848290697216) qb2 qb3 (by decide) (by decide)
  obtain ⟨q5, qb5⟩ := wsub (C := 4398046511104) qb4 h3' (by decide) (by decide)
  obtain ⟨r1, rb1⟩ := wmul (C := 256) (bd_lit (n := 4) (by decide)) hn (by decide) (by decide)
  obtain ⟨r2, rb2⟩ := wmul (C := 16384) rb1 hn (by decide) (by decide)
  obtain ⟨r3, rb3⟩ := wmul (C := 1048576) rb2 hn (by decide) (by decide)
  have hc0 := Lib.hid (fun W => calls_turn (l03Round_any (3 * p1 - p0 + (3 * p2) - p3) (4 * n * n * n) W hn3 (by have := rb3.2; omega) (by have := qb5.1; omega) (by have := qb5.2; omega)))
  clear qb1 qb2 qb3 qb4 qb5
  clear rb1 rb2 rb3
  clear h0' h1' h2' h3' hn ha hb hc hd hn3
  go_enter Try.func55, Try.ntmps55
  go_wp2_with fail
  refine (c0.out _).mono ?_
  rintro e w' ⟨rfl, rfl⟩
  go_wp2_with fail
  refine (c1.out _).mono ?_
  rintro e w' ⟨rfl, rfl⟩
  go_wp2_with fail
  refine (c2.out _).mono ?_
  rintro e w' ⟨rfl, rfl⟩
  go_wp2_with fail
  refine (c3.out _).mono ?_
  rintro e w' ⟨rfl, rfl⟩
  go_wp2_with fail
  refine (hc0.out _).mono ?_
  rintro e w' ⟨rfl, rfl⟩
  go_wp2_with fail
  go_ret
  exact ⟨rfl, rfl⟩
end Go.Proofs.Ytpmpbfkpiocleaa

/- Points of a cubic at level 6: the reference's side. Conditions: as each states. -/
namespace Go.Proofs.Ytpmpbfkpiocleaa
open Go.RowKit
set_option linter.unusedVariables false
set_option maxRecDepth 100000

set_option maxHeartbeats 4000000 in
theorem specCubicAt_six (q : Cb) (hq : q.ok) (k : Int) (w : World) (h0 : 0 ≤ k) (hk : k ≤ 64) :
    Calls Try.prog 17 #[cbV q, .int .i64 k, .int .i64 6] w fun e w' => e = .returned (.tuple #[.agg #[.int .i64 (cAt q k 64).1, .int .i64 (cAt q k 64).2], .int .i64 0]) ∧ Below w.heap.size w w' := by
  have hl : Hid (∀ W, Calls Try.prog 38 #[.int .i64 6] W fun e w' => e = .returned (.bool true) ∧ w' = W) := by
    refine Lib.hid fun W => ?_
    have hc := Lib.hid (l00In_any 6 0 6 W)
    have hb : inB 6 0 6 = true := inB_iff.2 (by omega)
    rw [hb] at hc
    go_enter Try.func38, Try.ntmps38
    go_wp2_with fail
    refine hc.out.mono ?_
    rintro e w' ⟨rfl, rfl⟩
    go_wp2_with fail
    go_ret
    exact ⟨rfl, rfl⟩
  have hin : Hid (∀ W, Calls Try.prog 39 #[.int .i64 k, .int .i64 0, .int .i64 64] W fun e w' => e = .returned (.bool true) ∧ w' = W) := by
    refine Lib.hid fun W => ?_
    have hb : inB k 0 64 = true := inB_iff.2 (by omega)
    have hc := calls_turn (l00In_any k 0 64 W)
    rw [hb] at hc
    exact hc
  have hok := Lib.hid (fun W p hp => l09Ok_yes p q hq W hp)
  have hat := Lib.hid (fun W p hp => l09At_any p q hq k 64 W hp h0 hk (by omega) (by omega))
  obtain ⟨X, hX⟩ : ∃ X, X = (cAt q k 64).1 := ⟨_, rfl⟩
  obtain ⟨Y, hY⟩ : ∃ Y, Y = (cAt q k 64).2 := ⟨_, rfl⟩
  rw [← hX, ← hY] at hat ⊢
  clear hX hY hq
  obtain ⟨ax, ay, bx, b, cx, cy, dx, dy⟩ := q
  simp only [cbV] at hok hat ⊢
  have hb0 := Go.Joins.below_alloc2 w (.cells #[.int .i64 ax, .int .i64 ay, .int .i64 bx, .int .i64 b, .int .i64 cx, .int .i64 cy, .int .i64 dx, .int .i64 dy] 26 (0, 0)) (.cells #[.int .i64 0, .int .i64 0] 24 (0, 0))
  have hP0 := heap_new2 w (.cells #[.int .i64 ax, .int .i64 ay, .int .i64 bx, .int .i64 b, .int .i64 cx, .int .i64 cy, .int .i64 dx, .int .i64 dy] 26 (0, 0)) (.cells #[.int .i64 0, .int .i64 0] 24 (0, 0))
  have hz0 : ((w.alloc (.cells #[.int .i64 ax, .int .i64 ay, .int .i64 bx, .int .i64 b, .int .i64 cx, .int .i64 cy, .int .i64 dx, .int .i64 dy] 26 (0, 0))).alloc (.cells #[.int .i64 0, .int .i64 0] 24 (0, 0))).heap.size = w.heap.size + 2 := by simp
  go_enter Try.func17, Try.ntmps17
  go_upto_region 1 with fail
  generalize ((w.alloc (.cells #[.int .i64 ax, .int .i64 ay, .int .i64 bx, .int .i64 b, .int .i64 cx, .int .i64 cy, .int .i64 dx, .int .i64 dy] 26 (0, 0))).alloc (.cells #[.int .i64 0, .int .i64 0] 24 (0, 0))) = w0 at *
  have hC : Hid (∀ W, Below w0.heap.size w0 W → CB W w.heap.size ax ay bx b cx cy dx dy ∧ PB W (w.heap.size + 1) 0 0) := Lib.hid fun W hW => ⟨CB.below (w := w0) hP0.1 hW, PB.below (w := w0) hP0.2 hW⟩
  clear hP0
  have hzw : w.heap.size ≤ w0.heap.size := by omega
  clear hz0
  go_wp2_with fail
  refine (hok.out w0 _ (hC.out w0 (Below.refl _ _)).1).mono ?_
  rintro e w1 ⟨rfl, hb1⟩
  go_wp2_with fail
  refine (hl.out w1).mono ?_
  rintro e w' ⟨rfl, rfl⟩
  go_wp2_with fail
  refine (hin.out _).mono ?_
  rintro e w' ⟨rfl, rfl⟩
  have hz1 := hb1.size
  go_wp2_with fail
  refine (hat.out _ _ (hC.out _ hb1).1).mono ?_
  rintro e w2 ⟨rfl, hb2⟩
  have hb02 := hb1.trans (hb2.mono hz1)
  obtain ⟨r0, r1, rf, rl⟩ := (hC.out w2 hb02).2.cells
  have hB := hb0.trans (hb02.mono hzw)
  clear hb1 hb2 hb02
  go_wp2_with fail
  refine bodyPost_ret (v := .tuple #[.agg #[.int .i64 X, .int .i64 Y], .int .i64 0]) (by simp [results, Try.results17, go_sem, r0, r1]) rfl ⟨rfl, ?_⟩
  exact (hB.setCell (p := ⟨w.heap.size + 1, 0, none⟩) (Nat.le_succ _) _).setCell (p := ⟨w.heap.size + 1, 1, none⟩) (Nat.le_succ _) _
end Go.Proofs.Ytpmpbfkpiocleaa

