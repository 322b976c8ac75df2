/- Bounds of points, of a cubic: the program's side. Conditions: as each states. -/
import Derived.Deep.RegionHeld3
import Derived.Deep.DeepCutAuto
import Derived.Test.YtpmpbfkpiocleaaQc32
namespace Go.Proofs.Ytpmpbfkpiocleaa
open Go.RowKit
set_option linter.unusedVariables false
set_option maxRecDepth 100000

/-- a box about points -/
def BoxF (L : List (Int × Int)) (k : Nat) (a b c d : Int) : Prop := (∀ j, j < k → a ≤ (ptAt L j).1 ∧ (ptAt L j).1 ≤ c ∧ b ≤ (ptAt L j).2 ∧ (ptAt L j).2 ≤ d) ∧ (∃ j, j < k ∧ a = (ptAt L j).1) ∧ (∃ j, j < k ∧ b = (ptAt L j).2) ∧ (∃ j, j < k ∧ c = (ptAt L j).1) ∧ (∃ j, j < k ∧ d = (ptAt L j).2)
theorem BoxF.one (L : List (Int × Int)) : BoxF L 1 (ptAt L 0).1 (ptAt L 0).2 (ptAt L 0).1 (ptAt L 0).2 :=
  ⟨fun j hj => by rw [show j = 0 by omega]; exact ⟨Int.le_refl _, Int.le_refl _, Int.le_refl _, Int.le_refl _⟩, ⟨0, by omega, rfl⟩, ⟨0, by omega, rfl⟩, ⟨0, by omega, rfl⟩, ⟨0, by omega, rfl⟩⟩
theorem BoxF.next {L : List (Int × Int)} {k : Nat} {a b c d a' b' c' d' x y : Int} (h : BoxF L k a b c d) (hx : (ptAt L k).1 = x) (hy : (ptAt L k).2 = y) (ha : a' = if x < a then x else a) (hb : b' = if y < b then y else b) (hc : c' = if c < x then x else c) (hd : d' = if d < y then y else d) : BoxF L (k + 1) a' b' c' d' := by
  subst hx hy
  obtain ⟨h1, ⟨j2, p2, q2⟩, ⟨j3, p3, q3⟩, ⟨j4, p4, q4⟩, ⟨j5, p5, q5⟩⟩ := h
  refine ⟨fun j hj => ?_, ?_, ?_, ?_, ?_⟩
  · rcases (show j < k ∨ j = k by omega) with hj | rfl
    · have := h1 j hj
      subst ha hb hc hd
      refine ⟨?_, ?_, ?_, ?_⟩ <;> split <;> omega
    · subst ha hb hc hd
      refine ⟨?_, ?_, ?_, ?_⟩ <;> split <;> omega
  · subst ha; split
    · exact ⟨k, by omega, rfl⟩
    · exact ⟨j2, by omega, q2⟩
  · subst hb; split
    · exact ⟨k, by omega, rfl⟩
    · exact ⟨j3, by omega, q3⟩
  · subst hc; split
    · exact ⟨k, by omega, rfl⟩
    · exact ⟨j4, by omega, q4⟩
  · subst hd; split
    · exact ⟨k, by omega, rfl⟩
    · exact ⟨j5, by omega, q5⟩

theorem drew_blk (w : World) (b : Nat) : w.drew.heap[b]? = w.heap[b]? := rfl

set_option maxHeartbeats 16000000 in
theorem boundsOf_any (g lo hi : Nat) (L : List (Int × Int)) (w : World) (hr : RdS 2 (FlatR ptC) w lo hi (some ⟨g, 0, none⟩) 4 L) (hhi : hi ≤ w.heap.size) :
    Calls Try.prog 28 #[.slice (some ⟨g, 0, none⟩) 4 4] w fun e w' => ∃ a b c d : Int, e = .returned (.tuple #[.agg #[.int .i64 a, .int .i64 b], .agg #[.int .i64 c, .int .i64 d]]) ∧ BoxF L 4 a b c d ∧ Below w.heap.size w w' := by
  have hb0 := Go.Joins.below_alloc2 w (.cells #[.int .i64 0, .int .i64 0] 24 (0, 0)) (.cells #[.int .i64 0, .int .i64 0] 24 (0, 0))
  have hnew := heap_new2 w (.cells #[.int .i64 0, .int .i64 0] 24 (0, 0)) (.cells #[.int .i64 0, .int .i64 0] 24 (0, 0))
  have hz0 : ((w.alloc (.cells #[.int .i64 0, .int .i64 0] 24 (0, 0))).alloc (.cells #[.int .i64 0, .int .i64 0] 24 (0, 0))).heap.size = w.heap.size + 2 := by simp
  have hrd := hr.frame (good_flat _) (Below.sameB hb0 hhi)
  clear hr
  go_enter Try.func28, Try.ntmps28
  go_upto_region 1 with fail
  generalize ((w.alloc (.cells #[.int .i64 0, .int .i64 0] 24 (0, 0))).alloc (.cells #[.int .i64 0, .int .i64 0] 24 (0, 0))) = w0 at *
  have hR0 : Hid (PB w0 w.heap.size 0 0) := hnew.1
  have hS0 : Hid (PB w0 (w.heap.size + 1) 0 0) := hnew.2
  obtain ⟨g', og, hA, hgl, hgh, hgs⟩ := hrd.pts (by omega)
  injection hA with hA
  injection hA with e1 e2
  subst e1 e2
  have hgw : g < w0.heap.size := by omega
  have hcs := Lib.hid (fun (W : World) (hW : Below w0.heap.size w0 W) (j : Nat) (hj : j < 4) => And.intro ((hW.cell (p := ⟨g, 0 + j * 2, none⟩) hgw).trans (hgs j hj).1) ((hW.cell (p := ⟨g, 0 + j * 2 + 1, none⟩) hgw).trans (hgs j hj).2))
  clear hgs hnew hrd
  have hx1 : w.heap.size + 2 ≤ w0.heap.size := by omega
  clear hz0
  obtain ⟨s0, s1⟩ := hcs.out w0 (Below.refl _ _) 0 (by omega)
  simp only [Nat.zero_mul, Nat.add_zero, Nat.zero_add] at s0 s1
  obtain ⟨fx, hfx⟩ : ∃ x, x = (ptAt L 0).1 := ⟨_, rfl⟩
  obtain ⟨fy, hfy⟩ : ∃ x, x = (ptAt L 0).2 := ⟨_, rfl⟩
  have hone := Lib.hid (BoxF.one L)
  rw [← hfx] at s0
  rw [← hfy] at s1
  rw [← hfx, ← hfy] at hone
  clear hfx hfy
  have hS1 := Lib.hid (fun (W : World) (hb : Below w0.heap.size w0 W) => (show W.cell? ⟨g, 0, none⟩ = some (.int .i64 fx) ∧ W.cell? ⟨g, 1, none⟩ = some (.int .i64 fy) from ⟨(hb.cell (p := ⟨g, 0, none⟩) hgw).trans s0, (hb.cell (p := ⟨g, 1, none⟩) hgw).trans s1⟩))
  go_cut [4, 5] (fun s4 s5 wx => ∃ (P Q : Nat), s4 = .pointer (some ⟨P, 0, none⟩) ∧ s5 = .pointer (some ⟨Q, 0, none⟩) ∧ wx.heap[P]? = some (.cells #[.int .i64 fx, .int .i64 fy] 24 (0, 0)) ∧ wx.heap[Q]? = some (.cells #[.int .i64 fx, .int .i64 fy] 24 (0, 0)) ∧ w0.heap.size ≤ P ∧ w0.heap.size ≤ Q ∧ P ≠ Q ∧ Below w0.heap.size w0 wx)
  case first =>
    go_region_held3 (fun w' => w'.cell? ⟨g, 0, none⟩ = some (.int .i64 fx) ∧ w'.cell? ⟨g, 1, none⟩ = some (.int .i64 fy)) (first | (refine hS1.out _ ?_; repeat (first | with_reducible exact Below.refl _ _ | with_reducible refine Below.drew ?_ | with_reducible refine Below.alloc ?_ (by simp) _ | with_reducible refine Below.setCell ?_ (by simp) _))) (fail)
    all_goals go_wp2_with fail
    all_goals go_meet
    · exact ⟨_, _, rfl, rfl, (heap_new2 w0 _ _).1, (heap_new2 w0 _ _).2, Nat.le_refl _, Nat.le_succ _, by omega, Below.drew (Go.Joins.below_alloc2 w0 _ _)⟩
    · exact ⟨_, _, rfl, rfl, (heap_new2 w0 _ _).2, (heap_new2 w0 _ _).1, Nat.le_succ _, Nat.le_refl _, by omega, Below.drew (Go.Joins.below_alloc2 w0 _ _)⟩
  obtain ⟨P, Q, rfl, rfl, hP, hQ, hPl, hQl, hPQ, hbc⟩ := hcut
  generalize wc = v at *
  have hzv := hbc.size
  replace hP : PB v P fx fy := hP
  replace hQ : PB v Q fx fy := hQ
  have hPl2 := hP.cells.2.2.2
  have hQl2 := hQ.cells.2.2.2
  replace hP := Lib.hid hP
  replace hQ := Lib.hid hQ
  have hB := Lib.hid (hb0.trans (hbc.mono (by omega)))
  have hb00 := Lib.hid hb0
  clear s0 s1 hS1 hb0
  go_wp2_with fail
  go_loopw [17] (fun iv wr => ∃ (k : Nat) (a b c d : Int), iv = .int .i64 k ∧ k ≤ 3 ∧ BoxF L (k + 1) a b c d ∧ PB wr P a b ∧ PB wr Q c d ∧ Below w0.heap.size w0 wr) (fun iv wr => 3 - (intOf iv).toNat)
  case atStart => exact ⟨0, _, _, _, _, rfl, by omega, hone.out, hP.out, hQ.out, hbc⟩
  case round =>
  obtain ⟨k, a, b, c, d, rfl, hk, hbox, hPx, hQx, hbel⟩ := hrel
  generalize wr = xr at *
  have hzx := hbel.size
  obtain ⟨a0, a1, af, al⟩ := hPx.cells
  obtain ⟨b0, b1, bf, bl⟩ := hQx.cells
  replace hbox := Lib.hid hbox
  by_cases hlt : k < 3
  · have hki : (k : Int) < 3 := by omega
    have i1 : (0 : Int) ≤ (k : Int) ∧ (k : Int) < 3 := by omega
    obtain ⟨x0, x1⟩ := hcs.out xr hbel (k + 1) (by omega)
    have hgx : g < xr.heap.size := by omega
    rw [show 0 + (k + 1) * 2 = 2 + k * 2 by omega] at x0 x1
    obtain ⟨x, hx⟩ : ∃ x, x = (ptAt L (k + 1)).1 := ⟨_, rfl⟩
    obtain ⟨y, hy⟩ : ∃ x, x = (ptAt L (k + 1)).2 := ⟨_, rfl⟩
    rw [← hx] at x0
    rw [← hy] at x1
    replace hx := Lib.hid hx
    replace hy := Lib.hid hy
    have hPQ2 : Q ≠ P := by omega
    go_wp2_with fail
    go_roundw
    case rel =>
      refine ⟨k + 1, _, _, _, _, by go_num, by omega, BoxF.next hbox.out hx.out.symm hy.out.symm rfl rfl rfl rfl, (((hPx.put _ _).off hPQ).off hPQ).alloc _, (((hQx.off hPQ2).off hPQ2).put _ _).alloc _, ?_⟩
      exact ((((hbel.setCell (p := ⟨P, 0, none⟩) hPl _).setCell (p := ⟨P, 1, none⟩) hPl _).setCell (p := ⟨Q, 0, none⟩) hQl _).setCell (p := ⟨Q, 1, none⟩) hQl _).alloc (by simp; omega) _
    case measure => simp [intOf]; omega
  · have hkn : k = 3 := by omega
    subst hkn
    have hki : ¬ ((3 : Nat) : Int) < 3 := by omega
    have hRx := Lib.hid (hR0.out.below (hbel.mono (Nat.le_refl _)))
    have hSx := Lib.hid (hS0.out.below (hbel.mono (Nat.le_refl _)))
    have hBc := Lib.hid (hb00.out.trans (hbel.mono (by omega)))
    obtain ⟨_, _, rf, rl⟩ := hRx.out.cells
    obtain ⟨_, _, sf, sl⟩ := hSx.out.cells
    have hS8 := Lib.hid (fun (W : World) (hb : W.heap[P]? = xr.heap[P]?) (hb2 : W.heap[Q]? = xr.heap[Q]?) => (show (W.cell? ⟨P, 0, none⟩ = some (.int .i64 a) ∧ W.cell? ⟨P, 1, none⟩ = some (.int .i64 b)) ∧ W.cell? ⟨Q, 0, none⟩ = some (.int .i64 c) ∧ W.cell? ⟨Q, 1, none⟩ = some (.int .i64 d) from ⟨⟨(World.cell?_of_block hb).trans a0, (World.cell?_of_block hb).trans a1⟩, (World.cell?_of_block hb2).trans b0, (World.cell?_of_block hb2).trans b1⟩))
    go_upto_region 8 with fail
    go_region_held3 (fun w' => (w'.cell? ⟨P, 0, none⟩ = some (.int .i64 a) ∧ w'.cell? ⟨P, 1, none⟩ = some (.int .i64 b)) ∧ w'.cell? ⟨Q, 0, none⟩ = some (.int .i64 c) ∧ w'.cell? ⟨Q, 1, none⟩ = some (.int .i64 d)) (first | (refine hS8.out _ ?_ ?_ <;> repeat (first | with_reducible exact rfl | with_reducible refine (drew_blk _ _).trans ?_ | with_reducible refine (Below.heap_setCell _ _ _ _ ?_).trans ?_ | (simp only; omega)))) (fail)
    obtain ⟨W9, hW9⟩ : ∃ W, W = ((((xr.setCell ⟨w.heap.size, 0, none⟩ (.int .i64 a)).setCell ⟨w.heap.size, 1, none⟩ (.int .i64 b)).setCell ⟨w.heap.size + 1, 0, none⟩ (.int .i64 c)).setCell ⟨w.heap.size + 1, 1, none⟩ (.int .i64 d)).drew := ⟨_, rfl⟩
    have f1 : PB W9 w.heap.size a b := by rw [hW9]; exact (((hRx.out.put a b).off (by omega)).off (by omega)).drew
    have f2 : PB W9 (w.heap.size + 1) c d := by rw [hW9]; exact (((hSx.out.off (by omega)).off (by omega)).put c d).drew
    have f3 : Below w.heap.size w W9 := by
      rw [hW9]
      exact (((((hBc.out.setCell (p := ⟨w.heap.size, 0, none⟩) (Nat.le_refl _) _).setCell (p := ⟨w.heap.size, 1, none⟩) (Nat.le_refl _) _).setCell (p := ⟨w.heap.size + 1, 0, none⟩) (Nat.le_succ _) _).setCell (p := ⟨w.heap.size + 1, 1, none⟩) (Nat.le_succ _) _)).drew
    rw [← hW9]
    clear hW9
    obtain ⟨y0, y1, _, _⟩ := f1.cells
    obtain ⟨z0, z1, _, _⟩ := f2.cells
    go_wp2_with fail
    refine bodyPost_ret (v := .tuple #[.agg #[.int .i64 a, .int .i64 b], .agg #[.int .i64 c, .int .i64 d]]) (by simp [results, Try.results28, go_sem, y0, y1, z0, z1]) rfl ⟨a, b, c, d, rfl, hbox.out, f3⟩

set_option maxHeartbeats 16000000 in
theorem cubicBounds_any (q : Cb) (hq : q.ok) (w : World) :
    Calls Try.prog 12 #[cbV q] w fun e w' => ∃ a b c d : Int, e = .returned (.tuple #[.agg #[.int .i64 a, .int .i64 b], .agg #[.int .i64 c, .int .i64 d], .int .i64 0]) ∧ BoxF q.pts 4 a b c d ∧ Below w.heap.size w w' := by
  have hv := Lib.hid (fun W => validCubic_yes q hq W)
  have hpt := Lib.hid (fun W => cpoints_any q W)
  clear hq
  obtain ⟨L, hL⟩ : ∃ L, L = q.pts := ⟨_, rfl⟩
  have hLl : L.length = 4 := by rw [hL]; rfl
  rw [← hL] at hpt ⊢
  have hbd := Lib.hid (fun g lo hi W hr hh => boundsOf_any g lo hi L W hr hh)
  clear hL
  obtain ⟨ax, ay, bx, b, cx, cy, dx, dy⟩ := q
  simp only [cbV] at hv hpt
  simp only [cbV]
  have hb0 : Below w.heap.size w (((w.alloc (.cells #[.int .i64 ax, .int .i64 ay, .int .i64 bx, .int .i64 b, .int .i64 cx, .int .i64 cy, .int .i64 dx, .int .i64 dy] 26 (0, 0))).alloc (.cells #[.int .i64 0, .int .i64 0] 24 (0, 0))).alloc (.cells #[.int .i64 0, .int .i64 0] 24 (0, 0))) := (Go.Joins.below_alloc2 w _ _).alloc (by simp; omega) _
  have hnew := heap_new0 w (.cells #[.int .i64 ax, .int .i64 ay, .int .i64 bx, .int .i64 b, .int .i64 cx, .int .i64 cy, .int .i64 dx, .int .i64 dy] 26 (0, 0)) (.cells #[.int .i64 0, .int .i64 0] 24 (0, 0)) (.cells #[.int .i64 0, .int .i64 0] 24 (0, 0))
  have hz0 : (((w.alloc (.cells #[.int .i64 ax, .int .i64 ay, .int .i64 bx, .int .i64 b, .int .i64 cx, .int .i64 cy, .int .i64 dx, .int .i64 dy] 26 (0, 0))).alloc (.cells #[.int .i64 0, .int .i64 0] 24 (0, 0))).alloc (.cells #[.int .i64 0, .int .i64 0] 24 (0, 0))).heap.size = w.heap.size + 3 := by simp
  obtain ⟨hP0, hR0, hS0⟩ := hnew
  go_enter Try.func12, Try.ntmps12
  go_upto_region 1 with fail
  generalize (((w.alloc (.cells #[.int .i64 ax, .int .i64 ay, .int .i64 bx, .int .i64 b, .int .i64 cx, .int .i64 cy, .int .i64 dx, .int .i64 dy] 26 (0, 0))).alloc (.cells #[.int .i64 0, .int .i64 0] 24 (0, 0))).alloc (.cells #[.int .i64 0, .int .i64 0] 24 (0, 0))) = w0 at *
  have hR0' : Hid (PB w0 (w.heap.size + 1) 0 0) := hR0
  have hS0' : Hid (PB w0 (w.heap.size + 2) 0 0) := hS0
  have hx1 : w.heap.size + 3 ≤ w0.heap.size := by omega
  clear hz0 hR0 hS0
  have hcs := Lib.hid (show ∀ W, Below w0.heap.size w0 W → ∀ j u, (#[Value.int .i64 ax, .int .i64 ay, .int .i64 bx, .int .i64 b, .int .i64 cx, .int .i64 cy, .int .i64 dx, .int .i64 dy] : Array Value)[j]? = some u → W.cell? ⟨w.heap.size, j, none⟩ = some u from fun W hW j u h => by rw [Go.Joins.cell_of_block ((hW.block w.heap.size (by omega)).trans hP0)]; exact h)
  have hl0 : w.heap.size < w0.heap.size := by omega
  clear hP0
  have c0 := hcs.out w0 (Below.refl _ _) 0 _ rfl
  have c1 := hcs.out w0 (Below.refl _ _) 1 _ rfl
  have c2 := hcs.out w0 (Below.refl _ _) 2 _ rfl
  have c3 := hcs.out w0 (Below.refl _ _) 3 _ rfl
  have c4 := hcs.out w0 (Below.refl _ _) 4 _ rfl
  have c5 := hcs.out w0 (Below.refl _ _) 5 _ rfl
  have c6 := hcs.out w0 (Below.refl _ _) 6 _ rfl
  have c7 := hcs.out w0 (Below.refl _ _) 7 _ rfl
  go_wp2_with fail
  refine (hv.out w0).mono ?_
  rintro e w1 ⟨rfl, hb1⟩
  have hz1 := hb1.size
  have hl1 : w.heap.size < w1.heap.size := by omega
  clear c0 c1 c2 c3 c4 c5 c6 c7
  have c0 := hcs.out w1 hb1 0 _ rfl
  have c1 := hcs.out w1 hb1 1 _ rfl
  have c2 := hcs.out w1 hb1 2 _ rfl
  have c3 := hcs.out w1 hb1 3 _ rfl
  have c4 := hcs.out w1 hb1 4 _ rfl
  have c5 := hcs.out w1 hb1 5 _ rfl
  have c6 := hcs.out w1 hb1 6 _ rfl
  have c7 := hcs.out w1 hb1 7 _ rfl
  go_wp2_with fail
  refine (hpt.out w1).mono ?_
  rintro e w2 ⟨g, rfl, ho2, hb2⟩
  have hrd := Lib.hid (rdS_own ptC_len (by omega) ho2 hLl)
  have hb02 := hb1.trans (hb2.mono hz1)
  have hz2 := hb2.size
  clear c0 c1 c2 c3 c4 c5 c6 c7 ho2
  go_wp2_with fail
  refine (hbd.out _ _ _ w2 hrd.out (Nat.le_refl _)).mono ?_
  rintro e w3 ⟨a, b2, c, d, rfl, hbox, hb3⟩
  have hb03 := hb02.trans (hb3.mono (by omega))
  have hz3 := hb3.size
  replace hbox := Lib.hid hbox
  have hR3 := Lib.hid (hR0'.out.below hb03)
  have hS3 := Lib.hid (hS0'.out.below hb03)
  have hB3 := Lib.hid (hb0.trans (hb03.mono (by omega)))
  have P3 := Lib.hid (heap_new2 w3 (.cells #[.int .i64 a, .int .i64 b2] 24 (0, 0)) (.cells #[.int .i64 c, .int .i64 d] 24 (0, 0)))
  clear hb1 hb2 hb3 hb02 hrd
  have hx3 : w.heap.size + 3 ≤ w3.heap.size := by omega
  have hz4 : ((w3.alloc (.cells #[.int .i64 a, .int .i64 b2] 24 (0, 0))).alloc (.cells #[.int .i64 c, .int .i64 d] 24 (0, 0))).heap.size = w3.heap.size + 2 := by simp
  have hb4 := Go.Joins.below_alloc2 w3 (.cells #[.int .i64 a, .int .i64 b2] 24 (0, 0)) (.cells #[.int .i64 c, .int .i64 d] 24 (0, 0))
  have P3' := P3.out
  go_upto_region 4 with fail
  generalize ((w3.alloc (.cells #[.int .i64 a, .int .i64 b2] 24 (0, 0))).alloc (.cells #[.int .i64 c, .int .i64 d] 24 (0, 0))) = xr at *
  obtain ⟨P, hP⟩ : ∃ P, P = w3.heap.size := ⟨_, rfl⟩
  obtain ⟨Q, hQ⟩ : ∃ Q, Q = P + 1 := ⟨_, rfl⟩
  obtain ⟨R, hR⟩ : ∃ R, R = w.heap.size + 1 := ⟨_, rfl⟩
  obtain ⟨S, hS⟩ : ∃ S, S = R + 1 := ⟨_, rfl⟩
  rw [← hP, ← hQ, ← hR, ← hS]
  have hPx : PB xr P a b2 := by rw [hP]; exact P3'.1
  have hQx : PB xr Q c d := by rw [hQ, hP]; exact P3'.2
  have hRx : Hid (PB xr R 0 0) := by rw [hR]; exact Lib.hid (hR3.out.below hb4)
  have hSx : Hid (PB xr S 0 0) := by rw [hS, hR]; exact Lib.hid (hS3.out.below hb4)
  have hBx := Lib.hid (hB3.out.trans (hb4.mono (by omega)))
  have hlt : w.heap.size ≤ R ∧ R < S ∧ S < P ∧ P < Q := by omega
  clear hP hQ hR hS P3' P3 hb4 hz4 hR3 hS3 hR0' hS0'
  obtain ⟨a0, a1, af, al⟩ := hPx.cells
  obtain ⟨b0, b1, bf, bl⟩ := hQx.cells
  obtain ⟨_, _, rf, rl⟩ := hRx.out.cells
  obtain ⟨_, _, sf, sl⟩ := hSx.out.cells
  have hS8 := Lib.hid (fun (W : World) (hb : W.heap[P]? = xr.heap[P]?) (hb2 : W.heap[Q]? = xr.heap[Q]?) => (show (W.cell? ⟨P, 0, none⟩ = some (.int .i64 a) ∧ W.cell? ⟨P, 1, none⟩ = some (.int .i64 b2)) ∧ W.cell? ⟨Q, 0, none⟩ = some (.int .i64 c) ∧ W.cell? ⟨Q, 1, none⟩ = some (.int .i64 d) from ⟨⟨(World.cell?_of_block hb).trans a0, (World.cell?_of_block hb).trans a1⟩, (World.cell?_of_block hb2).trans b0, (World.cell?_of_block hb2).trans b1⟩))
  go_region_held3 (fun w' => (w'.cell? ⟨P, 0, none⟩ = some (.int .i64 a) ∧ w'.cell? ⟨P, 1, none⟩ = some (.int .i64 b2)) ∧ w'.cell? ⟨Q, 0, none⟩ = some (.int .i64 c) ∧ w'.cell? ⟨Q, 1, none⟩ = some (.int .i64 d)) (first | (refine hS8.out _ ?_ ?_ <;> repeat (first | with_reducible exact rfl | with_reducible refine (drew_blk _ _).trans ?_ | with_reducible refine (Below.heap_setCell _ _ _ _ ?_).trans ?_ | (simp only; omega)))) (fail)
  obtain ⟨W9, hW9⟩ : ∃ W, W = ((((xr.setCell ⟨R, 0, none⟩ (.int .i64 a)).setCell ⟨R, 1, none⟩ (.int .i64 b2)).setCell ⟨S, 0, none⟩ (.int .i64 c)).setCell ⟨S, 1, none⟩ (.int .i64 d)).drew := ⟨_, rfl⟩
  have f1 : PB W9 R a b2 := by rw [hW9]; exact (((hRx.out.put a b2).off (by omega)).off (by omega)).drew
  have f2 : PB W9 S c d := by rw [hW9]; exact (((hSx.out.off (by omega)).off (by omega)).put c d).drew
  have l1 : w.heap.size ≤ R := by omega
  have l2 : w.heap.size ≤ S := by omega
  have f3 : Below w.heap.size w W9 := by
    rw [hW9]
    exact (((((hBx.out.setCell (p := ⟨R, 0, none⟩) l1 _).setCell (p := ⟨R, 1, none⟩) l1 _).setCell (p := ⟨S, 0, none⟩) l2 _).setCell (p := ⟨S, 1, none⟩) l2 _)).drew
  rw [← hW9]
  clear hW9
  obtain ⟨y0, y1, _, _⟩ := f1.cells
  obtain ⟨z0, z1, _, _⟩ := f2.cells
  go_wp2_with fail
  refine bodyPost_ret (v := .tuple #[.agg #[.int .i64 a, .int .i64 b2], .agg #[.int .i64 c, .int .i64 d], .int .i64 0]) (by simp [results, Try.results12, go_sem, y0, y1, z0, z1]) rfl ⟨a, b2, c, d, rfl, hbox.out, f3⟩
end Go.Proofs.Ytpmpbfkpiocleaa

