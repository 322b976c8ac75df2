/- Both halves of a cubic: the program's side. Conditions: as each states. -/
import Derived.Test.YtpmpbfkpiocleaaQc33
import Derived.Test.YtpmpbfkpiocleaaQc30
namespace Go.Proofs.Ytpmpbfkpiocleaa
open Go.RowKit
set_option linter.unusedVariables false
set_option maxRecDepth 100000

set_option maxHeartbeats 16000000 in
theorem halves_any (q : Cb) (hq : q.ok) (w : World) :
    Calls Try.prog 9 #[cbV q] w fun e w' => (e = .returned (.tuple #[cbV ⟨0, 0, 0, 0, 0, 0, 0, 0⟩, cbV ⟨0, 0, 0, 0, 0, 0, 0, 0⟩, .int .i64 2]) ∨ e = .returned (.tuple #[cbV (oneC q), cbV (twoC q), .int .i64 0])) ∧ Below w.heap.size w w' := by
  have hv := Lib.hid (fun W => validCubic_yes q hq W)
  have hpt := Lib.hid (fun W => cpoints_any q W)
  obtain ⟨ha, hb, hc, hd⟩ := hq
  obtain ⟨a1, a2⟩ := ptOk_iff.1 ha
  obtain ⟨b1, b2⟩ := ptOk_iff.1 hb
  obtain ⟨c1, c2⟩ := ptOk_iff.1 hc
  obtain ⟨d1, d2⟩ := ptOk_iff.1 hd
  have hcm : Hid (∀ (x0 x1 x2 x3 : Int), (0 ≤ x0 ∧ x0 ≤ 8) → (0 ≤ x1 ∧ x1 ≤ 8) → (0 ≤ x2 ∧ x2 ≤ 8) → (0 ≤ x3 ∧ x3 ≤ 8) → ∀ A c lo hi p c' lo' hi' W, RdS 2 (FlatR ptC) W lo hi A 4 q.pts → hi ≤ W.heap.size → RdS 1 (FlatR intC) W lo' hi' (some ⟨p, 0, none⟩) 4 [x0, x1, x2, x3] → hi' ≤ W.heap.size →
      Calls Try.prog 25 #[.slice A 4 c, .slice (some ⟨p, 0, none⟩) 4 c'] W fun e w' => e = .returned (.agg #[.int .i64 (dot4 q.ax q.bx q.cx q.dx x0 x1 x2 x3), .int .i64 (dot4 q.ay q.b q.cy q.dy x0 x1 x2 x3)]) ∧ Below W.heap.size W w') := Lib.hid fun x0 x1 x2 x3 h0 h1 h2 h3 A c lo hi p c' lo' hi' W hP hh hN hh' => combine4_any A c lo hi q p c' lo' hi' x0 x1 x2 x3 W hP hh hN hh' ⟨s4_small a1 (by omega), s4_small a2 (by omega)⟩ ⟨s4_small b1 (by omega), s4_small b2 (by omega)⟩ ⟨s4_small c1 (by omega), s4_small c2 (by omega)⟩ ⟨s4_small d1 (by omega), s4_small d2 (by omega)⟩
  have hpb : ∀ p ∈ q.pts, (-262144 ≤ p.1 ∧ p.1 ≤ 262144) ∧ (-262144 ≤ p.2 ∧ p.2 ≤ 262144) := by
    intro p hp
    simp only [Cb.pts, List.mem_cons, List.not_mem_nil, or_false] at hp
    rcases hp with rfl | rfl | rfl | rfl
    · exact ⟨a1, a2⟩
    · exact ⟨b1, b2⟩
    · exact ⟨c1, c2⟩
    · exact ⟨d1, d2⟩
  clear ha hb hc hd a1 a2 b1 b2 c1 c2 d1 d2
  obtain ⟨L, hL⟩ : ∃ L, L = q.pts := ⟨_, rfl⟩
  rw [← hL] at hpt hcm hpb
  have hLl : L.length = 4 := by rw [hL]; rfl
  have hfin : Hid (∀ e : Ending, (e = .returned (.tuple #[cbV ⟨0, 0, 0, 0, 0, 0, 0, 0⟩, cbV ⟨0, 0, 0, 0, 0, 0, 0, 0⟩, .int .i64 2]) ∨ e = .returned (.tuple #[.agg #[.int .i64 (dot4 q.ax q.bx q.cx q.dx 8 0 0 0), .int .i64 (dot4 q.ay q.b q.cy q.dy 8 0 0 0), .int .i64 (dot4 q.ax q.bx q.cx q.dx 4 4 0 0), .int .i64 (dot4 q.ay q.b q.cy q.dy 4 4 0 0), .int .i64 (dot4 q.ax q.bx q.cx q.dx 2 4 2 0), .int .i64 (dot4 q.ay q.b q.cy q.dy 2 4 2 0), .int .i64 (dot4 q.ax q.bx q.cx q.dx 1 3 3 1), .int .i64 (dot4 q.ay q.b q.cy q.dy 1 3 3 1)], .agg #[.int .i64 (dot4 q.ax q.bx q.cx q.dx 1 3 3 1), .int .i64 (dot4 q.ay q.b q.cy q.dy 1 3 3 1), .int .i64 (dot4 q.ax q.bx q.cx q.dx 0 2 4 2), .int .i64 (dot4 q.ay q.b q.cy q.dy 0 2 4 2), .int .i64 (dot4 q.ax q.bx q.cx q.dx 0 0 4 4), .int .i64 (dot4 q.ay q.b q.cy q.dy 0 0 4 4), .int .i64 (dot4 q.ax q.bx q.cx q.dx 0 0 0 8), .int .i64 (dot4 q.ay q.b q.cy q.dy 0 0 0 8)], .int .i64 0])) → (e = .returned (.tuple #[cbV ⟨0, 0, 0, 0, 0, 0, 0, 0⟩, cbV ⟨0, 0, 0, 0, 0, 0, 0, 0⟩, .int .i64 2]) ∨ e = .returned (.tuple #[cbV (oneC q), cbV (twoC q), .int .i64 0]))) := Lib.hid fun _ h => h
  obtain ⟨R, hR⟩ : ∃ R : Ending → Prop, R = fun e => (e = .returned (.tuple #[cbV ⟨0, 0, 0, 0, 0, 0, 0, 0⟩, cbV ⟨0, 0, 0, 0, 0, 0, 0, 0⟩, .int .i64 2]) ∨ e = .returned (.tuple #[cbV (oneC q), cbV (twoC q), .int .i64 0])) := ⟨_, rfl⟩
  have hR2 : ∀ e, (e = .returned (.tuple #[cbV ⟨0, 0, 0, 0, 0, 0, 0, 0⟩, cbV ⟨0, 0, 0, 0, 0, 0, 0, 0⟩, .int .i64 2]) ∨ e = .returned (.tuple #[cbV (oneC q), cbV (twoC q), .int .i64 0])) = R e := fun e => by rw [hR]
  simp only [hR2] at hfin ⊢
  obtain ⟨DX, hDX⟩ : ∃ f : Int → Int → Int → Int → Int, f = fun x0 x1 x2 x3 => dot4 q.ax q.bx q.cx q.dx x0 x1 x2 x3 := ⟨_, rfl⟩
  obtain ⟨DY, hDY⟩ : ∃ f : Int → Int → Int → Int → Int, f = fun x0 x1 x2 x3 => dot4 q.ay q.b q.cy q.dy x0 x1 x2 x3 := ⟨_, rfl⟩
  have hDX2 : ∀ x0 x1 x2 x3, dot4 q.ax q.bx q.cx q.dx x0 x1 x2 x3 = DX x0 x1 x2 x3 := fun x0 x1 x2 x3 => by rw [hDX]
  have hDY2 : ∀ x0 x1 x2 x3, dot4 q.ay q.b q.cy q.dy x0 x1 x2 x3 = DY x0 x1 x2 x3 := fun x0 x1 x2 x3 => by rw [hDY]
  simp only [hDX2, hDY2] at hcm hfin
  replace hpb := Lib.hid hpb
  clear hL hR hR2 hDX hDY hDX2 hDY2
  obtain ⟨ax, ay, bx, b, cx, cy, dx, dy⟩ := q
  simp only [cbV] at hv hpt
  simp only [cbV]
  have hb0 : Below w.heap.size w (((w.alloc (.cells #[.int .i64 ax, .int .i64 ay, .int .i64 bx, .int .i64 b, .int .i64 cx, .int .i64 cy, .int .i64 dx, .int .i64 dy] 26 (0, 0))).alloc (.cells #[.int .i64 0, .int .i64 0, .int .i64 0, .int .i64 0, .int .i64 0, .int .i64 0, .int .i64 0, .int .i64 0] 26 (0, 0))).alloc (.cells #[.int .i64 0, .int .i64 0, .int .i64 0, .int .i64 0, .int .i64 0, .int .i64 0, .int .i64 0, .int .i64 0] 26 (0, 0))) := (Go.Joins.below_alloc2 w _ _).alloc (by simp; omega) _
  have hnew := heap_new0 w (.cells #[.int .i64 ax, .int .i64 ay, .int .i64 bx, .int .i64 b, .int .i64 cx, .int .i64 cy, .int .i64 dx, .int .i64 dy] 26 (0, 0)) (.cells #[.int .i64 0, .int .i64 0, .int .i64 0, .int .i64 0, .int .i64 0, .int .i64 0, .int .i64 0, .int .i64 0] 26 (0, 0)) (.cells #[.int .i64 0, .int .i64 0, .int .i64 0, .int .i64 0, .int .i64 0, .int .i64 0, .int .i64 0, .int .i64 0] 26 (0, 0))
  have hz0 : (((w.alloc (.cells #[.int .i64 ax, .int .i64 ay, .int .i64 bx, .int .i64 b, .int .i64 cx, .int .i64 cy, .int .i64 dx, .int .i64 dy] 26 (0, 0))).alloc (.cells #[.int .i64 0, .int .i64 0, .int .i64 0, .int .i64 0, .int .i64 0, .int .i64 0, .int .i64 0, .int .i64 0] 26 (0, 0))).alloc (.cells #[.int .i64 0, .int .i64 0, .int .i64 0, .int .i64 0, .int .i64 0, .int .i64 0, .int .i64 0, .int .i64 0] 26 (0, 0))).heap.size = w.heap.size + 3 := by simp
  obtain ⟨hP0, hR0, hS0⟩ := hnew
  go_enter Try.func9, Try.ntmps9
  go_upto_region 1 with fail
  generalize (((w.alloc (.cells #[.int .i64 ax, .int .i64 ay, .int .i64 bx, .int .i64 b, .int .i64 cx, .int .i64 cy, .int .i64 dx, .int .i64 dy] 26 (0, 0))).alloc (.cells #[.int .i64 0, .int .i64 0, .int .i64 0, .int .i64 0, .int .i64 0, .int .i64 0, .int .i64 0, .int .i64 0] 26 (0, 0))).alloc (.cells #[.int .i64 0, .int .i64 0, .int .i64 0, .int .i64 0, .int .i64 0, .int .i64 0, .int .i64 0, .int .i64 0] 26 (0, 0))) = w0 at *
  obtain ⟨X1, hX1⟩ : ∃ X, X = w.heap.size + 1 := ⟨_, rfl⟩
  rw [← hX1] at hR0 ⊢
  obtain ⟨X2, hX2⟩ : ∃ X, X = X1 + 1 := ⟨_, rfl⟩
  rw [show w.heap.size + 2 = X2 by omega] at hS0
  try rw [← hX2]
  try rw [show w.heap.size + 2 = X2 by omega]
  have hx1 : w.heap.size < X1 ∧ X1 < X2 ∧ X2 < w0.heap.size ∧ w.heap.size ≤ w0.heap.size := by omega
  clear hz0 hX1 hX2
  replace hR0 := Lib.hid hR0
  replace hS0 := Lib.hid hS0
  have hcs := Lib.hid (show ∀ j u, (#[Value.int .i64 ax, .int .i64 ay, .int .i64 bx, .int .i64 b, .int .i64 cx, .int .i64 cy, .int .i64 dx, .int .i64 dy] : Array Value)[j]? = some u → w0.cell? ⟨w.heap.size, j, none⟩ = some u from fun j u h => by rw [Go.Joins.cell_of_block hP0]; exact h)
  have hl0 : w.heap.size < w0.heap.size := by omega
  replace hP0 := Lib.hid hP0
  have c0 := hcs.out 0 _ rfl
  have c1 := hcs.out 1 _ rfl
  have c2 := hcs.out 2 _ rfl
  have c3 := hcs.out 3 _ rfl
  have c4 := hcs.out 4 _ rfl
  have c5 := hcs.out 5 _ rfl
  have c6 := hcs.out 6 _ rfl
  have c7 := hcs.out 7 _ rfl
  go_wp2_with fail
  refine (hv.out w0).mono ?_
  rintro e w1 ⟨rfl, hb1⟩
  have k0 := (hb1.cell (p := ⟨w.heap.size, 0, none⟩) hl0).trans c0
  have k1 := (hb1.cell (p := ⟨w.heap.size, 1, none⟩) hl0).trans c1
  have k2 := (hb1.cell (p := ⟨w.heap.size, 2, none⟩) hl0).trans c2
  have k3 := (hb1.cell (p := ⟨w.heap.size, 3, none⟩) hl0).trans c3
  have k4 := (hb1.cell (p := ⟨w.heap.size, 4, none⟩) hl0).trans c4
  have k5 := (hb1.cell (p := ⟨w.heap.size, 5, none⟩) hl0).trans c5
  have k6 := (hb1.cell (p := ⟨w.heap.size, 6, none⟩) hl0).trans c6
  have k7 := (hb1.cell (p := ⟨w.heap.size, 7, none⟩) hl0).trans c7
  have hz1 := hb1.size
  have hl1 : w.heap.size < w1.heap.size := by omega
  clear c0 c1 c2 c3 c4 c5 c6 c7
  go_wp2_with fail
  refine (hpt.out w1).mono ?_
  rintro e w2 ⟨g, rfl, ho2, hb2⟩
  have hrd := Lib.hid (rdS_own ptC_len (by omega) ho2 hLl)
  have hb02 := hb1.trans (hb2.mono hz1)
  have hz2 := hb2.size
  have hR2 := Lib.hid ((hb02.block X1 (by omega)).trans hR0.out)
  have hS2 := Lib.hid ((hb02.block X2 (by omega)).trans hS0.out)
  have hB2 := Lib.hid (hb0.trans (hb02.mono (by omega)))
  have hzX : X2 < w2.heap.size := by omega
  replace hLl := Lib.hid hLl
  clear k0 k1 k2 k3 k4 k5 k6 k7 hb1 hb2 hb02 ho2 hb0 hR0 hS0 hcs hP0
  go_wp2_with fail
  go_loopw [20] (fun iv wr => ∃ k : Nat, iv = .int .i64 k ∧ k ≤ 4 ∧ Below w2.heap.size w2 wr) (fun iv wr => 4 - (intOf iv).toNat)
  case atStart => exact ⟨0, rfl, by omega, Below.refl _ _⟩
  case round =>
  obtain ⟨k, rfl, hk, hbel⟩ := hrel
  generalize wr = xr at *
  have hzx := hbel.size
  by_cases hlt : k < 4
  · have hki : (k : Int) < 4 := by omega
    have i1 : (0 : Int) ≤ (k : Int) ∧ (k : Int) < 4 := by omega
    obtain ⟨g', og, hA, _, hg2, hgs⟩ := (hrd.out.frame (good_flat _) (Below.sameB hbel (Nat.le_refl _))).pts (by omega)
    injection hA with hA
    injection hA with e1 e2
    subst e1 e2
    obtain ⟨x0, x1⟩ := hgs k hlt
    rw [Nat.zero_add] at x0 x1
    have hpk := hpb.out (ptAt L k) (List.mem_of_getElem? (ptAt_some (by rw [hLl.out]; exact hlt)))
    generalize (ptAt L k).1 = u at *
    generalize (ptAt L k).2 = v at *
    have q1 : IntKind.i64.wrap (8 * u) = 8 * u := wi (by omega)
    have q2 : IntKind.i64.wrap (8 * v) = 8 * v := wi (by omega)
    have hgw : g < xr.heap.size := by omega
    have hRx := Lib.hid ((hbel.block X1 (by omega)).trans hR2.out)
    have hSx := Lib.hid ((hbel.block X2 (by omega)).trans hS2.out)
    have hBx := Lib.hid (hB2.out.trans (hbel.mono (by omega)))
    obtain ⟨t, ht⟩ : ∃ t, t = ptOk (8 * u) (8 * v) := ⟨_, rfl⟩
    have hvp := Lib.hid (fun W => validPt_any (8 * u) (8 * v) W)
    rw [← ht] at hvp
    clear ht hgs
    go_wp2_with fail
    refine (hvp.out _).mono ?_
    rintro e w4 ⟨rfl, hb4⟩
    have hax := Go.Joins.below_alloc1 xr (.cells #[.int .i64 u, .int .i64 v] 24 (0, 0))
    have hb5 := hax.trans (hb4.mono hax.size)
    have hbel5 := hbel.trans (hb5.mono hzx)
    have hz5 := hb5.size
    clear hb4 hax x0 x1
    cases t with
    | true =>
      go_wp2_with fail
      go_roundw
      case rel => exact ⟨k + 1, by go_num, by omega, hbel5⟩
      case measure => simp [intOf]; omega
    | false =>
      have hR5 := Lib.hid ((hb5.block X1 (by omega)).trans hRx.out)
      have hS5 := Lib.hid ((hb5.block X2 (by omega)).trans hSx.out)
      have r0 : w4.cell? ⟨X1, 0, none⟩ = some (.int .i64 0) := by rw [Go.Joins.cell_of_block hR5.out]; rfl
      have rf := Go.Joins.unfrozen_of_block hR5.out
      have sf := Go.Joins.unfrozen_of_block hS5.out
      have l1 : X1 < w4.heap.size := by omega
      have l2 : X2 < w4.heap.size := by omega
      clear r0 rf sf
      obtain ⟨⟨zc0, zc1, zc2, zc3, zc4, zc5, zc6, zc7⟩, zf, zl⟩ := cells8 hR5.out
      obtain ⟨⟨yc0, yc1, yc2, yc3, yc4, yc5, yc6, yc7⟩, yf, yl⟩ := cells8 hS5.out
      have hnx : X1 ≠ X2 ∧ X2 ≠ X1 := by omega
      obtain ⟨s1, s2, s3, _⟩ := set8 hR5.out (.int .i64 0) (.int .i64 0) (.int .i64 0) (.int .i64 0) (.int .i64 0) (.int .i64 0) (.int .i64 0) (.int .i64 0)
      obtain ⟨t1, t2, t3, _⟩ := set8 ((s3 X2 hnx.2).trans hS5.out) (.int .i64 0) (.int .i64 0) (.int .i64 0) (.int .i64 0) (.int .i64 0) (.int .i64 0) (.int .i64 0) (.int .i64 0)
      obtain ⟨v9, hv9⟩ : ∃ V, V = W8 (W8 w4 X1 (.int .i64 0) (.int .i64 0) (.int .i64 0) (.int .i64 0) (.int .i64 0) (.int .i64 0) (.int .i64 0) (.int .i64 0)) X2 (.int .i64 0) (.int .i64 0) (.int .i64 0) (.int .i64 0) (.int .i64 0) (.int .i64 0) (.int .i64 0) (.int .i64 0) := ⟨_, rfl⟩
      have f1 : v9.heap[X1]? = some (.cells #[.int .i64 0, .int .i64 0, .int .i64 0, .int .i64 0, .int .i64 0, .int .i64 0, .int .i64 0, .int .i64 0] 26 (0, 0)) := by rw [hv9]; exact (t3 X1 hnx.1).trans s1
      have f2 : v9.heap[X2]? = some (.cells #[.int .i64 0, .int .i64 0, .int .i64 0, .int .i64 0, .int .i64 0, .int .i64 0, .int .i64 0, .int .i64 0] 26 (0, 0)) := by rw [hv9]; exact t1
      have f3 : Below w.heap.size w v9 := by rw [hv9]; exact (hB2.out.trans (hbel5.mono (by omega))).trans ((s2.mono (by omega)).trans (t2.mono (by omega)))
      replace f1 := Lib.hid f1
      replace f2 := Lib.hid f2
      replace f3 := Lib.hid f3
      replace hv9 := Lib.hid hv9
      clear s1 s2 s3 t1 t2 t3
      obtain ⟨hn1, hn2⟩ := hnx
      go_wp2_with fail
      have hv9 := hv9.out
      unfold W8 at hv9
      rw [← hv9]
      clear hv9 zc0 zc1 zc2 zc3 zc4 zc5 zc6 zc7 yc0 yc1 yc2 yc3 yc4 yc5 yc6 yc7 zf yf zl yl
      obtain ⟨⟨zc0, zc1, zc2, zc3, zc4, zc5, zc6, zc7⟩, _, zl⟩ := cells8 f1.out
      obtain ⟨⟨yc0, yc1, yc2, yc3, yc4, yc5, yc6, yc7⟩, _, yl⟩ := cells8 f2.out
      refine bodyPost_ret (v := .tuple #[cbV ⟨0, 0, 0, 0, 0, 0, 0, 0⟩, cbV ⟨0, 0, 0, 0, 0, 0, 0, 0⟩, .int .i64 2]) (by simp [results, Try.results9, go_sem, zc0, zc1, zc2, zc3, zc4, zc5, zc6, zc7, yc0, yc1, yc2, yc3, yc4, yc5, yc6, yc7]) rfl ⟨hfin.out _ (.inl rfl), f3.out⟩
  · have hkn : k = 4 := by omega
    subst hkn
    have hRx := Lib.hid ((hbel.block X1 (by omega)).trans hR2.out)
    have hSx := Lib.hid ((hbel.block X2 (by omega)).trans hS2.out)
    have hBx := Lib.hid (hB2.out.trans (hbel.mono (by omega)))
    have hrx := Lib.hid (hrd.out.frame (good_flat _) (Below.sameB hbel (Nat.le_refl _)))
    have hlx : w2.heap.size ≤ xr.heap.size := hzx
    go_wp2_with fail
    refine (hcm.out 1 3 3 1 (by omega) (by omega) (by omega) (by omega) _ 4 _ _ xr.heap.size 4 _ _ _ (hrx.out.frame (good_flat _) (Below.sameB (Go.Joins.below_alloc1 _ _) hlx)) (by simp; omega) (four_ints _ _ _ _ _) (Nat.le_refl _)).mono ?_
    rintro e w6 ⟨rfl, hb6⟩
    obtain ⟨mx, hmx⟩ : ∃ m, m = DX 1 3 3 1 := ⟨_, rfl⟩
    obtain ⟨my, hmy⟩ : ∃ m, m = DY 1 3 3 1 := ⟨_, rfl⟩
    rw [← hmx, ← hmy]
    replace hmx := Lib.hid hmx
    replace hmy := Lib.hid hmy
    have hax := (Go.Joins.below_alloc1 xr (.cells #[.int .i64 1, .int .i64 3, .int .i64 3, .int .i64 1] 2 (0, 0))).trans (hb6.mono (Go.Joins.below_alloc1 xr _).size)
    have hz6 := hax.size
    have hal := Go.Joins.below_alloc1 w6 (.cells #[.int .i64 mx, .int .i64 my] 24 (0, 0))
    have hY0 := heap_alloc_new w6 (.cells #[.int .i64 mx, .int .i64 my] 24 (0, 0))
    have hzY : (w6.alloc (.cells #[.int .i64 mx, .int .i64 my] 24 (0, 0))).heap.size = w6.heap.size + 1 := by simp
    have hay := hax.trans (hal.mono hz6)
    clear hb6 hax hal
    go_upto_region 11 with fail
    generalize w6.alloc (.cells #[.int .i64 mx, .int .i64 my] 24 (0, 0)) = v at *
    obtain ⟨Y, hY⟩ : ∃ Y, Y = w6.heap.size := ⟨_, rfl⟩
    rw [← hY] at hY0 hzY ⊢
    have Yl : Y < v.heap.size := by omega
    have hYx : xr.heap.size ≤ Y := by omega
    have hzv := hay.size
    clear hzY hY
    have Y0 : v.cell? ⟨Y, 0, none⟩ = some (.int .i64 mx) := by rw [Go.Joins.cell_of_block hY0]; rfl
    have Y1 : v.cell? ⟨Y, 1, none⟩ = some (.int .i64 my) := by rw [Go.Joins.cell_of_block hY0]; rfl
    replace hY0 := Lib.hid hY0
    have hrdV : Hid (∀ W, Below v.heap.size v W → RdS 2 (FlatR ptC) W w1.heap.size w2.heap.size (some ⟨g, 0, none⟩) 4 L ∧ w2.heap.size ≤ W.heap.size) := Lib.hid fun W hB => ⟨hrx.out.frame (good_flat _) (Below.sameB (hay.trans (hB.mono hzv)) hlx), by have := hB.size; omega⟩
    have hRv := Lib.hid ((hay.block X1 (by omega)).trans hRx.out)
    have hSv := Lib.hid ((hay.block X2 (by omega)).trans hSx.out)
    have hBv := Lib.hid (hBx.out.trans (hay.mono (by omega)))
    refine wp_region_stays 12 (fun j => match j with | 0 => VIs (.slice (some ⟨g, 0, none⟩) 4 4) | 1 => VInts [8, 0, 0, 0] | 2 => VIs (.agg #[.int .i64 (DX 8 0 0 0), .int .i64 (DY 8 0 0 0)]) | 3 => VIs (.slice (some ⟨g, 0, none⟩) 4 4) | 4 => VInts [4, 4, 0, 0] | 5 => VIs (.agg #[.int .i64 (DX 4 4 0 0), .int .i64 (DY 4 4 0 0)]) | 6 => VIs (.slice (some ⟨g, 0, none⟩) 4 4) | 7 => VInts [2, 4, 2, 0] | 8 => VIs (.agg #[.int .i64 (DX 2 4 2 0), .int .i64 (DY 2 4 2 0)]) | 9 => VIs (.agg #[.int .i64 mx, .int .i64 my]) | 10 => VIs (.agg #[.int .i64 (DX 8 0 0 0), .int .i64 (DY 8 0 0 0), .int .i64 (DX 4 4 0 0), .int .i64 (DY 4 4 0 0), .int .i64 (DX 2 4 2 0), .int .i64 (DY 2 4 2 0), .int .i64 mx, .int .i64 my]) | _ => VBox v.heap.size (.cells #[.int .i64 0, .int .i64 0, .int .i64 0, .int .i64 0, .int .i64 0, .int .i64 0, .int .i64 0, .int .i64 0] 26 (0, 0))) (by kernel_rfl) (by kernel_rfl) ?_ ?_ ?_
    · intro j hj
      rcases (show j = 0 ∨ j = 1 ∨ j = 2 ∨ j = 3 ∨ j = 4 ∨ j = 5 ∨ j = 6 ∨ j = 7 ∨ j = 8 ∨ j = 9 ∨ j = 10 ∨ j = 11 by omega) with rfl | rfl | rfl | rfl | rfl | rfl | rfl | rfl | rfl | rfl | rfl | rfl <;> first | exact VIs.stays _ | exact VInts.stays _ | exact VBox.stays _ _
    · intro i hi
      rcases (show i = 0 ∨ i = 1 ∨ i = 2 ∨ i = 3 ∨ i = 4 ∨ i = 5 ∨ i = 6 ∨ i = 7 ∨ i = 8 ∨ i = 9 ∨ i = 10 ∨ i = 11 by omega) with rfl | rfl | rfl | rfl | rfl | rfl | rfl | rfl | rfl | rfl | rfl | rfl
      · intro o ho f wS K hB hd hK
        simp only [List.getElem?_cons_zero, Option.some.injEq] at ho
        subst ho
        have hB' : Below v.heap.size v wS := belowDr hB
        simp only [putsL, dstL, List.getElem?_cons_zero, List.getElem?_cons_succ, Option.bind, Act.put, List.setIfInBounds_toArray, List.set_cons_zero, List.set_cons_succ] at hK ⊢
        go_simp
        exact hK _ _ rfl (Below.refl _ _)
      · intro o ho f wS K hB hd hK
        simp only [List.getElem?_cons_zero, List.getElem?_cons_succ, Option.some.injEq] at ho
        subst ho
        have hB' : Below v.heap.size v wS := belowDr hB
        simp only [putsL, dstL, List.getElem?_cons_zero, List.getElem?_cons_succ, Option.bind, Act.put, List.setIfInBounds_toArray, List.set_cons_zero, List.set_cons_succ] at hK ⊢
        go_simp
        exact hK _ _ (VInts.new wS 8 0 0 0) (Go.Joins.below_alloc1 _ _)
      · intro o ho f wS K hB hd hK
        simp only [List.getElem?_cons_zero, List.getElem?_cons_succ, Option.some.injEq] at ho
        subst ho
        have hB' : Below v.heap.size v wS := belowDr hB
        have e0 : f 0 = .slice (some ⟨g, 0, none⟩) 4 4 := hd 0 (by rfl)
        obtain ⟨p, lo', hi', e1, h2, h3⟩ : VInts [8, 0, 0, 0] (f 1) wS := hd 1 (by rfl)
        simp only [putsL, dstL, List.getElem?_cons_zero, List.getElem?_cons_succ, Option.bind, Act.put, List.setIfInBounds_toArray, List.set_cons_zero, List.set_cons_succ] at hK ⊢
        simp only [e0, e1] at hK ⊢
        go_simp
        go_at_call 25
        refine (hcm.out 8 0 0 0 (by omega) (by omega) (by omega) (by omega) _ 4 _ _ p 4 lo' hi' wS (hrdV.out wS hB').1 (hrdV.out wS hB').2 h2 h3).mono ?_
        rintro e w9 ⟨rfl, hb9⟩
        exact hK _ _ rfl hb9
      · intro o ho f wS K hB hd hK
        simp only [List.getElem?_cons_zero, List.getElem?_cons_succ, Option.some.injEq] at ho
        subst ho
        have hB' : Below v.heap.size v wS := belowDr hB
        simp only [putsL, dstL, List.getElem?_cons_zero, List.getElem?_cons_succ, Option.bind, Act.put, List.setIfInBounds_toArray, List.set_cons_zero, List.set_cons_succ] at hK ⊢
        go_simp
        exact hK _ _ rfl (Below.refl _ _)
      · intro o ho f wS K hB hd hK
        simp only [List.getElem?_cons_zero, List.getElem?_cons_succ, Option.some.injEq] at ho
        subst ho
        have hB' : Below v.heap.size v wS := belowDr hB
        simp only [putsL, dstL, List.getElem?_cons_zero, List.getElem?_cons_succ, Option.bind, Act.put, List.setIfInBounds_toArray, List.set_cons_zero, List.set_cons_succ] at hK ⊢
        go_simp
        exact hK _ _ (VInts.new wS 4 4 0 0) (Go.Joins.below_alloc1 _ _)
      · intro o ho f wS K hB hd hK
        simp only [List.getElem?_cons_zero, List.getElem?_cons_succ, Option.some.injEq] at ho
        subst ho
        have hB' : Below v.heap.size v wS := belowDr hB
        have e0 : f 3 = .slice (some ⟨g, 0, none⟩) 4 4 := hd 3 (by rfl)
        obtain ⟨p, lo', hi', e1, h2, h3⟩ : VInts [4, 4, 0, 0] (f 4) wS := hd 4 (by rfl)
        simp only [putsL, dstL, List.getElem?_cons_zero, List.getElem?_cons_succ, Option.bind, Act.put, List.setIfInBounds_toArray, List.set_cons_zero, List.set_cons_succ] at hK ⊢
        simp only [e0, e1] at hK ⊢
        go_simp
        go_at_call 25
        refine (hcm.out 4 4 0 0 (by omega) (by omega) (by omega) (by omega) _ 4 _ _ p 4 lo' hi' wS (hrdV.out wS hB').1 (hrdV.out wS hB').2 h2 h3).mono ?_
        rintro e w9 ⟨rfl, hb9⟩
        exact hK _ _ rfl hb9
      · intro o ho f wS K hB hd hK
        simp only [List.getElem?_cons_zero, List.getElem?_cons_succ, Option.some.injEq] at ho
        subst ho
        have hB' : Below v.heap.size v wS := belowDr hB
        simp only [putsL, dstL, List.getElem?_cons_zero, List.getElem?_cons_succ, Option.bind, Act.put, List.setIfInBounds_toArray, List.set_cons_zero, List.set_cons_succ] at hK ⊢
        go_simp
        exact hK _ _ rfl (Below.refl _ _)
      · intro o ho f wS K hB hd hK
        simp only [List.getElem?_cons_zero, List.getElem?_cons_succ, Option.some.injEq] at ho
        subst ho
        have hB' : Below v.heap.size v wS := belowDr hB
        simp only [putsL, dstL, List.getElem?_cons_zero, List.getElem?_cons_succ, Option.bind, Act.put, List.setIfInBounds_toArray, List.set_cons_zero, List.set_cons_succ] at hK ⊢
        go_simp
        exact hK _ _ (VInts.new wS 2 4 2 0) (Go.Joins.below_alloc1 _ _)
      · intro o ho f wS K hB hd hK
        simp only [List.getElem?_cons_zero, List.getElem?_cons_succ, Option.some.injEq] at ho
        subst ho
        have hB' : Below v.heap.size v wS := belowDr hB
        have e0 : f 6 = .slice (some ⟨g, 0, none⟩) 4 4 := hd 6 (by rfl)
        obtain ⟨p, lo', hi', e1, h2, h3⟩ : VInts [2, 4, 2, 0] (f 7) wS := hd 7 (by rfl)
        simp only [putsL, dstL, List.getElem?_cons_zero, List.getElem?_cons_succ, Option.bind, Act.put, List.setIfInBounds_toArray, List.set_cons_zero, List.set_cons_succ] at hK ⊢
        simp only [e0, e1] at hK ⊢
        go_simp
        go_at_call 25
        refine (hcm.out 2 4 2 0 (by omega) (by omega) (by omega) (by omega) _ 4 _ _ p 4 lo' hi' wS (hrdV.out wS hB').1 (hrdV.out wS hB').2 h2 h3).mono ?_
        rintro e w9 ⟨rfl, hb9⟩
        exact hK _ _ rfl hb9
      · intro o ho f wS K hB hd hK
        simp only [List.getElem?_cons_zero, List.getElem?_cons_succ, Option.some.injEq] at ho
        subst ho
        have hB' : Below v.heap.size v wS := belowDr hB
        simp only [putsL, dstL, List.getElem?_cons_zero, List.getElem?_cons_succ, Option.bind, Act.put, List.setIfInBounds_toArray, List.set_cons_zero, List.set_cons_succ] at hK ⊢
        have d0 : wS.cell? ⟨Y, 0, none⟩ = some (.int .i64 mx) := (hB'.cell (p := ⟨Y, 0, none⟩) Yl).trans Y0
        have d1 : wS.cell? ⟨Y, 1, none⟩ = some (.int .i64 my) := (hB'.cell (p := ⟨Y, 1, none⟩) Yl).trans Y1
        have d2 : Y < wS.heap.size := Nat.lt_of_lt_of_le Yl hB'.size
        go_simp
        exact hK _ _ rfl (Below.refl _ _)
      · intro o ho f wS K hB hd hK
        simp only [List.getElem?_cons_zero, List.getElem?_cons_succ, Option.some.injEq] at ho
        subst ho
        have hB' : Below v.heap.size v wS := belowDr hB
        have e2 : f 2 = .agg #[.int .i64 (DX 8 0 0 0), .int .i64 (DY 8 0 0 0)] := hd 2 (by rfl)
        have e5 : f 5 = .agg #[.int .i64 (DX 4 4 0 0), .int .i64 (DY 4 4 0 0)] := hd 5 (by rfl)
        have e8 : f 8 = .agg #[.int .i64 (DX 2 4 2 0), .int .i64 (DY 2 4 2 0)] := hd 8 (by rfl)
        have e9 : f 9 = .agg #[.int .i64 mx, .int .i64 my] := hd 9 (by rfl)
        simp only [putsL, dstL, List.getElem?_cons_zero, List.getElem?_cons_succ, Option.bind, Act.put, List.setIfInBounds_toArray, List.set_cons_zero, List.set_cons_succ] at hK ⊢
        simp only [e2, e5, e8, e9] at hK ⊢
        go_simp
        exact hK _ _ rfl (Below.refl _ _)
      · intro o ho f wS K hB hd hK
        simp only [List.getElem?_cons_zero, List.getElem?_cons_succ, Option.some.injEq] at ho
        subst ho
        have hB' : Below v.heap.size v wS := belowDr hB
        simp only [putsL, dstL, List.getElem?_cons_zero, List.getElem?_cons_succ, Option.bind, Act.put, List.setIfInBounds_toArray, List.set_cons_zero, List.set_cons_succ] at hK ⊢
        go_simp
        exact hK _ _ ⟨_, rfl, hB'.size, heap_alloc_new wS _⟩ (Go.Joins.below_alloc1 _ _)
    intro f v' hB' hf
    have eB : f 10 = .agg #[.int .i64 (DX 8 0 0 0), .int .i64 (DY 8 0 0 0), .int .i64 (DX 4 4 0 0), .int .i64 (DY 4 4 0 0), .int .i64 (DX 2 4 2 0), .int .i64 (DY 2 4 2 0), .int .i64 mx, .int .i64 my] := hf 10 (by omega)
    obtain ⟨bq, eA, hbq, hbox⟩ : VBox v.heap.size (.cells #[.int .i64 0, .int .i64 0, .int .i64 0, .int .i64 0, .int .i64 0, .int .i64 0, .int .i64 0, .int .i64 0] 26 (0, 0)) (f 11) v' := hf 11 (by omega)
    simp only [List.drop_succ_cons, List.drop_zero]
    simp only [putsL, dstL, List.getElem?_cons_zero, List.getElem?_cons_succ, Option.bind, Act.put, List.setIfInBounds_toArray, List.set_cons_zero, List.set_cons_succ]
    simp only [eA, eB]
    clear hf eA eB
    have hbqf := Go.Joins.unfrozen_of_block hbox
    have hbql := (Array.getElem?_eq_some_iff.1 hbox).1
    have oc0 : v'.cell? ⟨bq, 0, none⟩ = some (.int .i64 0) := by rw [Go.Joins.cell_of_block hbox]; rfl
    have oc1 : v'.cell? ⟨bq, 1, none⟩ = some (.int .i64 0) := by rw [Go.Joins.cell_of_block hbox]; rfl
    have oc2 : v'.cell? ⟨bq, 2, none⟩ = some (.int .i64 0) := by rw [Go.Joins.cell_of_block hbox]; rfl
    have oc3 : v'.cell? ⟨bq, 3, none⟩ = some (.int .i64 0) := by rw [Go.Joins.cell_of_block hbox]; rfl
    have oc4 : v'.cell? ⟨bq, 4, none⟩ = some (.int .i64 0) := by rw [Go.Joins.cell_of_block hbox]; rfl
    have oc5 : v'.cell? ⟨bq, 5, none⟩ = some (.int .i64 0) := by rw [Go.Joins.cell_of_block hbox]; rfl
    have oc6 : v'.cell? ⟨bq, 6, none⟩ = some (.int .i64 0) := by rw [Go.Joins.cell_of_block hbox]; rfl
    have oc7 : v'.cell? ⟨bq, 7, none⟩ = some (.int .i64 0) := by rw [Go.Joins.cell_of_block hbox]; rfl
    go_upto_region 12 with fail
    obtain ⟨v2, hv2⟩ : ∃ V, V = W8 v' bq (.int .i64 (DX 8 0 0 0)) (.int .i64 (DY 8 0 0 0)) (.int .i64 (DX 4 4 0 0)) (.int .i64 (DY 4 4 0 0)) (.int .i64 (DX 2 4 2 0)) (.int .i64 (DY 2 4 2 0)) (.int .i64 mx) (.int .i64 my) := ⟨_, rfl⟩
    obtain ⟨s1, s2, s3, s4⟩ := set8 hbox (.int .i64 (DX 8 0 0 0)) (.int .i64 (DY 8 0 0 0)) (.int .i64 (DX 4 4 0 0)) (.int .i64 (DY 4 4 0 0)) (.int .i64 (DX 2 4 2 0)) (.int .i64 (DY 2 4 2 0)) (.int .i64 mx) (.int .i64 my)
    rw [← hv2] at s1 s2 s3 s4
    unfold W8 at hv2
    rw [← hv2]
    clear hv2 hbqf oc0 oc1 oc2 oc3 oc4 oc5 oc6 oc7
    obtain ⟨bo, hbo⟩ : ∃ x, x = bq := ⟨_, rfl⟩
    rw [← hbo] at s1 s2 s3 hbq hbox hbql ⊢
    clear hbo bq
    have hv02 : Below v.heap.size v v2 := hB'.trans (s2.mono hbq)
    have hzv2 := hv02.size
    have hay2 := hay.trans (hv02.mono hzv)
    have Z0 : v2.cell? ⟨Y, 0, none⟩ = some (.int .i64 mx) := (hv02.cell (p := ⟨Y, 0, none⟩) Yl).trans Y0
    have Z1 : v2.cell? ⟨Y, 1, none⟩ = some (.int .i64 my) := (hv02.cell (p := ⟨Y, 1, none⟩) Yl).trans Y1
    have Zl : Y < v2.heap.size := Nat.lt_of_lt_of_le Yl hzv2
    have hone := Lib.hid s1
    have hbol : bo < v2.heap.size := by omega
    have hRw := Lib.hid ((hv02.block X1 (by omega)).trans hRv.out)
    have hSw := Lib.hid ((hv02.block X2 (by omega)).trans hSv.out)
    have hBw := Lib.hid (hBv.out.trans (hv02.mono (by omega)))
    have hboX : X2 < bo := by omega
    replace hrdV : Hid (∀ W, Below v2.heap.size v2 W → RdS 2 (FlatR ptC) W w1.heap.size w2.heap.size (some ⟨g, 0, none⟩) 4 L ∧ w2.heap.size ≤ W.heap.size) := Lib.hid fun W hB => hrdV.out W (hv02.trans (hB.mono hzv2))
    clear s1 s2 s3 s4 hbox hbql hbq hB' Y0 Y1
    refine wp_region_stays 12 (fun j => match j with | 0 => VIs (.agg #[.int .i64 mx, .int .i64 my]) | 1 => VIs (.slice (some ⟨g, 0, none⟩) 4 4) | 2 => VInts [0, 2, 4, 2] | 3 => VIs (.agg #[.int .i64 (DX 0 2 4 2), .int .i64 (DY 0 2 4 2)]) | 4 => VIs (.slice (some ⟨g, 0, none⟩) 4 4) | 5 => VInts [0, 0, 4, 4] | 6 => VIs (.agg #[.int .i64 (DX 0 0 4 4), .int .i64 (DY 0 0 4 4)]) | 7 => VIs (.slice (some ⟨g, 0, none⟩) 4 4) | 8 => VInts [0, 0, 0, 8] | 9 => VIs (.agg #[.int .i64 (DX 0 0 0 8), .int .i64 (DY 0 0 0 8)]) | 10 => VIs (.agg #[.int .i64 mx, .int .i64 my, .int .i64 (DX 0 2 4 2), .int .i64 (DY 0 2 4 2), .int .i64 (DX 0 0 4 4), .int .i64 (DY 0 0 4 4), .int .i64 (DX 0 0 0 8), .int .i64 (DY 0 0 0 8)]) | _ => VBox v2.heap.size (.cells #[.int .i64 0, .int .i64 0, .int .i64 0, .int .i64 0, .int .i64 0, .int .i64 0, .int .i64 0, .int .i64 0] 26 (0, 0))) (by kernel_rfl) (by kernel_rfl) ?_ ?_ ?_
    · intro j hj
      rcases (show j = 0 ∨ j = 1 ∨ j = 2 ∨ j = 3 ∨ j = 4 ∨ j = 5 ∨ j = 6 ∨ j = 7 ∨ j = 8 ∨ j = 9 ∨ j = 10 ∨ j = 11 by omega) with rfl | rfl | rfl | rfl | rfl | rfl | rfl | rfl | rfl | rfl | rfl | rfl <;> first | exact VIs.stays _ | exact VInts.stays _ | exact VBox.stays _ _
    · intro i hi
      rcases (show i = 0 ∨ i = 1 ∨ i = 2 ∨ i = 3 ∨ i = 4 ∨ i = 5 ∨ i = 6 ∨ i = 7 ∨ i = 8 ∨ i = 9 ∨ i = 10 ∨ i = 11 by omega) with rfl | rfl | rfl | rfl | rfl | rfl | rfl | rfl | rfl | rfl | rfl | rfl
      · intro o ho f wS K hB hd hK
        simp only [List.getElem?_cons_zero, Option.some.injEq] at ho
        subst ho
        have hB' : Below v2.heap.size v2 wS := belowDr hB
        simp only [putsL, dstL, List.getElem?_cons_zero, List.getElem?_cons_succ, Option.bind, Act.put, List.setIfInBounds_toArray, List.set_cons_zero, List.set_cons_succ] at hK ⊢
        have d0 : wS.cell? ⟨Y, 0, none⟩ = some (.int .i64 mx) := (hB'.cell (p := ⟨Y, 0, none⟩) Zl).trans Z0
        have d1 : wS.cell? ⟨Y, 1, none⟩ = some (.int .i64 my) := (hB'.cell (p := ⟨Y, 1, none⟩) Zl).trans Z1
        have d2 : Y < wS.heap.size := Nat.lt_of_lt_of_le Zl hB'.size
        go_simp
        exact hK _ _ rfl (Below.refl _ _)
      · intro o ho f wS K hB hd hK
        simp only [List.getElem?_cons_zero, List.getElem?_cons_succ, Option.some.injEq] at ho
        subst ho
        have hB' : Below v2.heap.size v2 wS := belowDr hB
        simp only [putsL, dstL, List.getElem?_cons_zero, List.getElem?_cons_succ, Option.bind, Act.put, List.setIfInBounds_toArray, List.set_cons_zero, List.set_cons_succ] at hK ⊢
        go_simp
        exact hK _ _ rfl (Below.refl _ _)
      · intro o ho f wS K hB hd hK
        simp only [List.getElem?_cons_zero, List.getElem?_cons_succ, Option.some.injEq] at ho
        subst ho
        have hB' : Below v2.heap.size v2 wS := belowDr hB
        simp only [putsL, dstL, List.getElem?_cons_zero, List.getElem?_cons_succ, Option.bind, Act.put, List.setIfInBounds_toArray, List.set_cons_zero, List.set_cons_succ] at hK ⊢
        go_simp
        exact hK _ _ (VInts.new wS 0 2 4 2) (Go.Joins.below_alloc1 _ _)
      · intro o ho f wS K hB hd hK
        simp only [List.getElem?_cons_zero, List.getElem?_cons_succ, Option.some.injEq] at ho
        subst ho
        have hB' : Below v2.heap.size v2 wS := belowDr hB
        have e0 : f 1 = .slice (some ⟨g, 0, none⟩) 4 4 := hd 1 (by rfl)
        obtain ⟨p, lo', hi', e1, h2, h3⟩ : VInts [0, 2, 4, 2] (f 2) wS := hd 2 (by rfl)
        simp only [putsL, dstL, List.getElem?_cons_zero, List.getElem?_cons_succ, Option.bind, Act.put, List.setIfInBounds_toArray, List.set_cons_zero, List.set_cons_succ] at hK ⊢
        simp only [e0, e1] at hK ⊢
        go_simp
        go_at_call 25
        refine (hcm.out 0 2 4 2 (by omega) (by omega) (by omega) (by omega) _ 4 _ _ p 4 lo' hi' wS (hrdV.out wS hB').1 (hrdV.out wS hB').2 h2 h3).mono ?_
        rintro e w9 ⟨rfl, hb9⟩
        exact hK _ _ rfl hb9
      · intro o ho f wS K hB hd hK
        simp only [List.getElem?_cons_zero, List.getElem?_cons_succ, Option.some.injEq] at ho
        subst ho
        have hB' : Below v2.heap.size v2 wS := belowDr hB
        simp only [putsL, dstL, List.getElem?_cons_zero, List.getElem?_cons_succ, Option.bind, Act.put, List.setIfInBounds_toArray, List.set_cons_zero, List.set_cons_succ] at hK ⊢
        go_simp
        exact hK _ _ rfl (Below.refl _ _)
      · intro o ho f wS K hB hd hK
        simp only [List.getElem?_cons_zero, List.getElem?_cons_succ, Option.some.injEq] at ho
        subst ho
        have hB' : Below v2.heap.size v2 wS := belowDr hB
        simp only [putsL, dstL, List.getElem?_cons_zero, List.getElem?_cons_succ, Option.bind, Act.put, List.setIfInBounds_toArray, List.set_cons_zero, List.set_cons_succ] at hK ⊢
        go_simp
        exact hK _ _ (VInts.new wS 0 0 4 4) (Go.Joins.below_alloc1 _ _)
      · intro o ho f wS K hB hd hK
        simp only [List.getElem?_cons_zero, List.getElem?_cons_succ, Option.some.injEq] at ho
        subst ho
        have hB' : Below v2.heap.size v2 wS := belowDr hB
        have e0 : f 4 = .slice (some ⟨g, 0, none⟩) 4 4 := hd 4 (by rfl)
        obtain ⟨p, lo', hi', e1, h2, h3⟩ : VInts [0, 0, 4, 4] (f 5) wS := hd 5 (by rfl)
        simp only [putsL, dstL, List.getElem?_cons_zero, List.getElem?_cons_succ, Option.bind, Act.put, List.setIfInBounds_toArray, List.set_cons_zero, List.set_cons_succ] at hK ⊢
        simp only [e0, e1] at hK ⊢
        go_simp
        go_at_call 25
        refine (hcm.out 0 0 4 4 (by omega) (by omega) (by omega) (by omega) _ 4 _ _ p 4 lo' hi' wS (hrdV.out wS hB').1 (hrdV.out wS hB').2 h2 h3).mono ?_
        rintro e w9 ⟨rfl, hb9⟩
        exact hK _ _ rfl hb9
      · intro o ho f wS K hB hd hK
        simp only [List.getElem?_cons_zero, List.getElem?_cons_succ, Option.some.injEq] at ho
        subst ho
        have hB' : Below v2.heap.size v2 wS := belowDr hB
        simp only [putsL, dstL, List.getElem?_cons_zero, List.getElem?_cons_succ, Option.bind, Act.put, List.setIfInBounds_toArray, List.set_cons_zero, List.set_cons_succ] at hK ⊢
        go_simp
        exact hK _ _ rfl (Below.refl _ _)
      · intro o ho f wS K hB hd hK
        simp only [List.getElem?_cons_zero, List.getElem?_cons_succ, Option.some.injEq] at ho
        subst ho
        have hB' : Below v2.heap.size v2 wS := belowDr hB
        simp only [putsL, dstL, List.getElem?_cons_zero, List.getElem?_cons_succ, Option.bind, Act.put, List.setIfInBounds_toArray, List.set_cons_zero, List.set_cons_succ] at hK ⊢
        go_simp
        exact hK _ _ (VInts.new wS 0 0 0 8) (Go.Joins.below_alloc1 _ _)
      · intro o ho f wS K hB hd hK
        simp only [List.getElem?_cons_zero, List.getElem?_cons_succ, Option.some.injEq] at ho
        subst ho
        have hB' : Below v2.heap.size v2 wS := belowDr hB
        have e0 : f 7 = .slice (some ⟨g, 0, none⟩) 4 4 := hd 7 (by rfl)
        obtain ⟨p, lo', hi', e1, h2, h3⟩ : VInts [0, 0, 0, 8] (f 8) wS := hd 8 (by rfl)
        simp only [putsL, dstL, List.getElem?_cons_zero, List.getElem?_cons_succ, Option.bind, Act.put, List.setIfInBounds_toArray, List.set_cons_zero, List.set_cons_succ] at hK ⊢
        simp only [e0, e1] at hK ⊢
        go_simp
        go_at_call 25
        refine (hcm.out 0 0 0 8 (by omega) (by omega) (by omega) (by omega) _ 4 _ _ p 4 lo' hi' wS (hrdV.out wS hB').1 (hrdV.out wS hB').2 h2 h3).mono ?_
        rintro e w9 ⟨rfl, hb9⟩
        exact hK _ _ rfl hb9
      · intro o ho f wS K hB hd hK
        simp only [List.getElem?_cons_zero, List.getElem?_cons_succ, Option.some.injEq] at ho
        subst ho
        have hB' : Below v2.heap.size v2 wS := belowDr hB
        have e0 : f 0 = .agg #[.int .i64 mx, .int .i64 my] := hd 0 (by rfl)
        have e3 : f 3 = .agg #[.int .i64 (DX 0 2 4 2), .int .i64 (DY 0 2 4 2)] := hd 3 (by rfl)
        have e6 : f 6 = .agg #[.int .i64 (DX 0 0 4 4), .int .i64 (DY 0 0 4 4)] := hd 6 (by rfl)
        have e9 : f 9 = .agg #[.int .i64 (DX 0 0 0 8), .int .i64 (DY 0 0 0 8)] := hd 9 (by rfl)
        simp only [putsL, dstL, List.getElem?_cons_zero, List.getElem?_cons_succ, Option.bind, Act.put, List.setIfInBounds_toArray, List.set_cons_zero, List.set_cons_succ] at hK ⊢
        simp only [e0, e3, e6, e9] at hK ⊢
        go_simp
        exact hK _ _ rfl (Below.refl _ _)
      · intro o ho f wS K hB hd hK
        simp only [List.getElem?_cons_zero, List.getElem?_cons_succ, Option.some.injEq] at ho
        subst ho
        have hB' : Below v2.heap.size v2 wS := belowDr hB
        simp only [putsL, dstL, List.getElem?_cons_zero, List.getElem?_cons_succ, Option.bind, Act.put, List.setIfInBounds_toArray, List.set_cons_zero, List.set_cons_succ] at hK ⊢
        go_simp
        exact hK _ _ ⟨_, rfl, hB'.size, heap_alloc_new wS _⟩ (Go.Joins.below_alloc1 _ _)
    intro f v' hB' hf
    have eB : f 10 = .agg #[.int .i64 mx, .int .i64 my, .int .i64 (DX 0 2 4 2), .int .i64 (DY 0 2 4 2), .int .i64 (DX 0 0 4 4), .int .i64 (DY 0 0 4 4), .int .i64 (DX 0 0 0 8), .int .i64 (DY 0 0 0 8)] := hf 10 (by omega)
    obtain ⟨bq, eA, hbq, hbox⟩ : VBox v2.heap.size (.cells #[.int .i64 0, .int .i64 0, .int .i64 0, .int .i64 0, .int .i64 0, .int .i64 0, .int .i64 0, .int .i64 0] 26 (0, 0)) (f 11) v' := hf 11 (by omega)
    simp only [List.drop_succ_cons, List.drop_zero]
    simp only [putsL, dstL, List.getElem?_cons_zero, List.getElem?_cons_succ, Option.bind, Act.put, List.setIfInBounds_toArray, List.set_cons_zero, List.set_cons_succ]
    simp only [eA, eB]
    clear hf eA eB
    have hbqf := Go.Joins.unfrozen_of_block hbox
    have hbql := (Array.getElem?_eq_some_iff.1 hbox).1
    have oc0 : v'.cell? ⟨bq, 0, none⟩ = some (.int .i64 0) := by rw [Go.Joins.cell_of_block hbox]; rfl
    have oc1 : v'.cell? ⟨bq, 1, none⟩ = some (.int .i64 0) := by rw [Go.Joins.cell_of_block hbox]; rfl
    have oc2 : v'.cell? ⟨bq, 2, none⟩ = some (.int .i64 0) := by rw [Go.Joins.cell_of_block hbox]; rfl
    have oc3 : v'.cell? ⟨bq, 3, none⟩ = some (.int .i64 0) := by rw [Go.Joins.cell_of_block hbox]; rfl
    have oc4 : v'.cell? ⟨bq, 4, none⟩ = some (.int .i64 0) := by rw [Go.Joins.cell_of_block hbox]; rfl
    have oc5 : v'.cell? ⟨bq, 5, none⟩ = some (.int .i64 0) := by rw [Go.Joins.cell_of_block hbox]; rfl
    have oc6 : v'.cell? ⟨bq, 6, none⟩ = some (.int .i64 0) := by rw [Go.Joins.cell_of_block hbox]; rfl
    have oc7 : v'.cell? ⟨bq, 7, none⟩ = some (.int .i64 0) := by rw [Go.Joins.cell_of_block hbox]; rfl
    go_upto_region 13 with fail
    obtain ⟨v3, hv3⟩ : ∃ V, V = W8 v' bq (.int .i64 mx) (.int .i64 my) (.int .i64 (DX 0 2 4 2)) (.int .i64 (DY 0 2 4 2)) (.int .i64 (DX 0 0 4 4)) (.int .i64 (DY 0 0 4 4)) (.int .i64 (DX 0 0 0 8)) (.int .i64 (DY 0 0 0 8)) := ⟨_, rfl⟩
    obtain ⟨s1, s2, s3, s4⟩ := set8 hbox (.int .i64 mx) (.int .i64 my) (.int .i64 (DX 0 2 4 2)) (.int .i64 (DY 0 2 4 2)) (.int .i64 (DX 0 0 4 4)) (.int .i64 (DY 0 0 4 4)) (.int .i64 (DX 0 0 0 8)) (.int .i64 (DY 0 0 0 8))
    rw [← hv3] at s1 s2 s3 s4
    unfold W8 at hv3
    rw [← hv3]
    clear hv3 hbqf oc0 oc1 oc2 oc3 oc4 oc5 oc6 oc7
    have hv03 : Below v2.heap.size v2 v3 := hB'.trans (s2.mono hbq)
    have hzv3 := hv03.size
    have hO3 := Lib.hid ((hv03.block bo hbol).trans hone.out)
    have hT3 := Lib.hid s1
    have hR3 := (hv03.block X1 (by omega)).trans hRw.out
    have hS3 := (hv03.block X2 (by omega)).trans hSw.out
    have hB3 := Lib.hid (hBw.out.trans (hv03.mono (by omega)))
    have hX1l : X1 < v3.heap.size := by omega
    have hX2l : X2 < v3.heap.size := by omega
    have hbol3 : bo < v3.heap.size := by omega
    have hbql3 : bq < v3.heap.size := by omega
    have hne1 : bo ≠ X1 ∧ bo ≠ X2 ∧ bq ≠ X1 ∧ bq ≠ X2 ∧ X2 ≠ X1 := by omega
    refine wp_region_inv (J13 bo bq X1 X2 #[.int .i64 (DX 8 0 0 0), .int .i64 (DY 8 0 0 0), .int .i64 (DX 4 4 0 0), .int .i64 (DY 4 4 0 0), .int .i64 (DX 2 4 2 0), .int .i64 (DY 2 4 2 0), .int .i64 mx, .int .i64 my] #[.int .i64 mx, .int .i64 my, .int .i64 (DX 0 2 4 2), .int .i64 (DY 0 2 4 2), .int .i64 (DX 0 0 4 4), .int .i64 (DY 0 0 4 4), .int .i64 (DX 0 0 0 8), .int .i64 (DY 0 0 0 8)] v3)
      (V13 X1 X2 #[.int .i64 (DX 8 0 0 0), .int .i64 (DY 8 0 0 0), .int .i64 (DX 4 4 0 0), .int .i64 (DY 4 4 0 0), .int .i64 (DX 2 4 2 0), .int .i64 (DY 2 4 2 0), .int .i64 mx, .int .i64 my] #[.int .i64 mx, .int .i64 my, .int .i64 (DX 0 2 4 2), .int .i64 (DY 0 2 4 2), .int .i64 (DX 0 0 4 4), .int .i64 (DY 0 0 4 4), .int .i64 (DX 0 0 0 8), .int .i64 (DY 0 0 0 8)]) (by kernel_rfl) (by kernel_rfl) ⟨hO3.out, hT3.out, ⟨_, _, _, _, _, _, _, _, hR3⟩, ⟨_, _, _, _, _, _, _, _, hS3⟩, (Below.refl _ _).drew⟩ ?_ ?_
    · intro i hi
      have hi5 : i < 5 := hi
      clear hi
      rcases (show i = 0 ∨ i = 1 ∨ i = 2 ∨ i = 3 ∨ i = 4 by omega) with rfl | rfl | rfl | rfl | rfl
      · intro o ho f wS K hJ hd hK
        simp only [List.getElem?_cons_zero, Option.some.injEq] at ho
        subst ho
        have j1 : wS.heap[bo]? = some (.cells #[.int .i64 (DX 8 0 0 0), .int .i64 (DY 8 0 0 0), .int .i64 (DX 4 4 0 0), .int .i64 (DY 4 4 0 0), .int .i64 (DX 2 4 2 0), .int .i64 (DY 2 4 2 0), .int .i64 mx, .int .i64 my] 26 (0, 0)) := hJ.1
        obtain ⟨⟨c0, c1, c2, c3, c4, c5, c6, c7⟩, _, cl⟩ := cells8 j1
        clear j1
        simp only [putsL, dstL, List.length_cons, List.length_nil, Nat.zero_add, Nat.reduceAdd, List.getElem?_cons_zero, List.getElem?_cons_succ, Option.bind, Act.put, List.setIfInBounds_toArray, List.set_cons_zero, List.set_cons_succ] at hK ⊢
        go_simp
        exact hK _ _ hJ rfl (fun j u _ _ h => h)
      · intro o ho f wS K hJ hd hK
        simp only [List.getElem?_cons_zero, List.getElem?_cons_succ, Option.some.injEq] at ho
        subst ho
        have j1 : wS.heap[bq]? = some (.cells #[.int .i64 mx, .int .i64 my, .int .i64 (DX 0 2 4 2), .int .i64 (DY 0 2 4 2), .int .i64 (DX 0 0 4 4), .int .i64 (DY 0 0 4 4), .int .i64 (DX 0 0 0 8), .int .i64 (DY 0 0 0 8)] 26 (0, 0)) := hJ.2.1
        obtain ⟨⟨c0, c1, c2, c3, c4, c5, c6, c7⟩, _, cl⟩ := cells8 j1
        clear j1
        simp only [putsL, dstL, List.length_cons, List.length_nil, Nat.zero_add, Nat.reduceAdd, List.getElem?_cons_zero, List.getElem?_cons_succ, Option.bind, Act.put, List.setIfInBounds_toArray, List.set_cons_zero, List.set_cons_succ] at hK ⊢
        go_simp
        exact hK _ _ hJ rfl (fun j u _ _ h => h)
      · intro o ho f wS K hJ hd hK
        simp only [List.getElem?_cons_zero, List.getElem?_cons_succ, Option.some.injEq] at ho
        subst ho
        have e0 : f 0 = .agg #[.int .i64 (DX 8 0 0 0), .int .i64 (DY 8 0 0 0), .int .i64 (DX 4 4 0 0), .int .i64 (DY 4 4 0 0), .int .i64 (DX 2 4 2 0), .int .i64 (DY 2 4 2 0), .int .i64 mx, .int .i64 my] := hd 0 (by kernel_rfl)
        have hst := hJ.store1 hne1.1 hne1.2.2.1 hne1.2.2.2.2 (.int .i64 (DX 8 0 0 0)) (.int .i64 (DY 8 0 0 0)) (.int .i64 (DX 4 4 0 0)) (.int .i64 (DY 4 4 0 0)) (.int .i64 (DX 2 4 2 0)) (.int .i64 (DY 2 4 2 0)) (.int .i64 mx) (.int .i64 my)
        have j3 : CubAt wS X1 := hJ.2.2.1
        simp only [putsL, dstL, List.length_cons, List.length_nil, Nat.zero_add, Nat.reduceAdd, List.getElem?_cons_zero, List.getElem?_cons_succ, Option.bind, Act.put, List.setIfInBounds_toArray, List.set_cons_zero, List.set_cons_succ] at hK ⊢
        simp only [e0] at hK ⊢
        refine wpStore8c (.tmp 2) (.tmp 61) rfl ( (DX 8 0 0 0)) ( (DY 8 0 0 0)) ( (DX 4 4 0 0)) ( (DY 4 4 0 0)) ( (DX 2 4 2 0)) ( (DY 2 4 2 0)) ( mx) ( my) rfl rfl j3 ?_
        exact hK undef _ hst.1 hst.2.1 (V13.oth1 hne1.2.2.2.2 hst.2.2)
      · intro o ho f wS K hJ hd hK
        simp only [List.getElem?_cons_zero, List.getElem?_cons_succ, Option.some.injEq] at ho
        subst ho
        have e0 : f 1 = .agg #[.int .i64 mx, .int .i64 my, .int .i64 (DX 0 2 4 2), .int .i64 (DY 0 2 4 2), .int .i64 (DX 0 0 4 4), .int .i64 (DY 0 0 4 4), .int .i64 (DX 0 0 0 8), .int .i64 (DY 0 0 0 8)] := hd 1 (by kernel_rfl)
        have hst := hJ.store2 hne1.2.1 hne1.2.2.2.1 hne1.2.2.2.2.symm (by omega) (.int .i64 mx) (.int .i64 my) (.int .i64 (DX 0 2 4 2)) (.int .i64 (DY 0 2 4 2)) (.int .i64 (DX 0 0 4 4)) (.int .i64 (DY 0 0 4 4)) (.int .i64 (DX 0 0 0 8)) (.int .i64 (DY 0 0 0 8))
        have j3 : CubAt wS X2 := hJ.2.2.2.1
        simp only [putsL, dstL, List.length_cons, List.length_nil, Nat.zero_add, Nat.reduceAdd, List.getElem?_cons_zero, List.getElem?_cons_succ, Option.bind, Act.put, List.setIfInBounds_toArray, List.set_cons_zero, List.set_cons_succ] at hK ⊢
        simp only [e0] at hK ⊢
        refine wpStore8c (.tmp 3) (.tmp 62) rfl ( mx) ( my) ( (DX 0 2 4 2)) ( (DY 0 2 4 2)) ( (DX 0 0 4 4)) ( (DY 0 0 4 4)) ( (DX 0 0 0 8)) ( (DY 0 0 0 8)) rfl rfl j3 ?_
        exact hK undef _ hst.1 hst.2.1 (V13.oth2 hne1.2.2.2.2.symm hst.2.2)
      · intro o ho f wS K hJ hd hK
        simp only [List.getElem?_cons_zero, List.getElem?_cons_succ, Option.some.injEq] at ho
        subst ho
        simp only [putsL, dstL, List.length_cons, List.length_nil, Nat.zero_add, Nat.reduceAdd, List.getElem?_cons_zero, List.getElem?_cons_succ, Option.bind, Act.put, List.setIfInBounds_toArray, List.set_cons_zero, List.set_cons_succ] at hK ⊢
        go_simp
        exact hK _ _ hJ rfl (fun j u _ _ h => h)
    intro f v4 hJ hf
    have e0 : f 0 = .agg #[.int .i64 (DX 8 0 0 0), .int .i64 (DY 8 0 0 0), .int .i64 (DX 4 4 0 0), .int .i64 (DY 4 4 0 0), .int .i64 (DX 2 4 2 0), .int .i64 (DY 2 4 2 0), .int .i64 mx, .int .i64 my] := hf 0 (by simp)
    have e1 : f 1 = .agg #[.int .i64 mx, .int .i64 my, .int .i64 (DX 0 2 4 2), .int .i64 (DY 0 2 4 2), .int .i64 (DX 0 0 4 4), .int .i64 (DY 0 0 4 4), .int .i64 (DX 0 0 0 8), .int .i64 (DY 0 0 0 8)] := hf 1 (by simp)
    have f1 : v4.heap[X1]? = some (.cells #[.int .i64 (DX 8 0 0 0), .int .i64 (DY 8 0 0 0), .int .i64 (DX 4 4 0 0), .int .i64 (DY 4 4 0 0), .int .i64 (DX 2 4 2 0), .int .i64 (DY 2 4 2 0), .int .i64 mx, .int .i64 my] 26 (0, 0)) := hf 2 (by simp)
    have f2 : v4.heap[X2]? = some (.cells #[.int .i64 mx, .int .i64 my, .int .i64 (DX 0 2 4 2), .int .i64 (DY 0 2 4 2), .int .i64 (DX 0 0 4 4), .int .i64 (DY 0 0 4 4), .int .i64 (DX 0 0 0 8), .int .i64 (DY 0 0 0 8)] 26 (0, 0)) := hf 3 (by simp)
    have e4 : f 4 = .int .i64 0 := hf 4 (by simp)
    have f3 : Below w.heap.size w v4 := hB3.out.trans (hJ.2.2.2.2.mono (by omega))
    simp only [putsL, dstL, List.length_cons, List.length_nil, Nat.zero_add, Nat.reduceAdd, List.getElem?_cons_zero, List.getElem?_cons_succ, Option.bind, Act.put, List.setIfInBounds_toArray, List.set_cons_zero, List.set_cons_succ]
    simp only [e0, e1, e4]
    obtain ⟨⟨a0, a1, a2, a3, a4, a5, a6, a7⟩, _, a8⟩ := cells8 f1
    obtain ⟨⟨b0, b1, b2, b3, b4, b5, b6, b7⟩, _, b8⟩ := cells8 f2
    clear hf hJ e0 e1 e4
    go_wp2_with fail
    refine bodyPost_ret (v := .tuple #[.agg #[.int .i64 (DX 8 0 0 0), .int .i64 (DY 8 0 0 0), .int .i64 (DX 4 4 0 0), .int .i64 (DY 4 4 0 0), .int .i64 (DX 2 4 2 0), .int .i64 (DY 2 4 2 0), .int .i64 mx, .int .i64 my], .agg #[.int .i64 mx, .int .i64 my, .int .i64 (DX 0 2 4 2), .int .i64 (DY 0 2 4 2), .int .i64 (DX 0 0 4 4), .int .i64 (DY 0 0 4 4), .int .i64 (DX 0 0 0 8), .int .i64 (DY 0 0 0 8)], .int .i64 0]) (by simp [results, Try.results9, go_sem, a0, a1, a2, a3, a4, a5, a6, a7, b0, b1, b2, b3, b4, b5, b6, b7]) rfl ⟨hfin.out _ (.inr ?_), f3⟩
    rw [hmx.out, hmy.out]
end Go.Proofs.Ytpmpbfkpiocleaa

