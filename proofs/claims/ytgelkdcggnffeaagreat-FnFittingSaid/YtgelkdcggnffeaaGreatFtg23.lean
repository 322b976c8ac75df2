/- Sums of points, sizes, levels, points of curves: the program's side. Conditions: as each states. -/
import Derived.Test.YtgelkdcggnffeaaGreatFtg22
namespace Go.Proofs.YtgelkdcggnffeaaGreat
open Go.RowKit
set_option linter.unusedVariables false
set_option maxRecDepth 100000

/-- three points in a block, three numbers in another one -/
def Pts3 (w : World) (p : Nat) (x0 y0 x1 y1 x2 y2 : Int) : Prop := w.cell? ⟨p, 0, none⟩ = some (.int .i64 x0) ∧ w.cell? ⟨p, 1, none⟩ = some (.int .i64 y0) ∧ w.cell? ⟨p, 2, none⟩ = some (.int .i64 x1) ∧ w.cell? ⟨p, 3, none⟩ = some (.int .i64 y1) ∧ w.cell? ⟨p, 4, none⟩ = some (.int .i64 x2) ∧ w.cell? ⟨p, 5, none⟩ = some (.int .i64 y2) ∧ p < w.heap.size
theorem Pts3.below {w w' : World} {p : Nat} {x0 y0 x1 y1 x2 y2 : Int} (h : Pts3 w p x0 y0 x1 y1 x2 y2) (hb : Below w.heap.size w w') : Pts3 w' p x0 y0 x1 y1 x2 y2 := by
  obtain ⟨h0, h1, h2, h3, h4, h5, hl⟩ := h
  exact ⟨(hb.cell (p := ⟨p, 0, none⟩) hl).trans h0, (hb.cell (p := ⟨p, 1, none⟩) hl).trans h1, (hb.cell (p := ⟨p, 2, none⟩) hl).trans h2, (hb.cell (p := ⟨p, 3, none⟩) hl).trans h3, (hb.cell (p := ⟨p, 4, none⟩) hl).trans h4, (hb.cell (p := ⟨p, 5, none⟩) hl).trans h5, Nat.lt_of_lt_of_le hl hb.size⟩
def Nums3 (w : World) (p : Nat) (x0 x1 x2 : Int) : Prop := w.cell? ⟨p, 0, none⟩ = some (.int .i64 x0) ∧ w.cell? ⟨p, 1, none⟩ = some (.int .i64 x1) ∧ w.cell? ⟨p, 2, none⟩ = some (.int .i64 x2) ∧ p < w.heap.size
theorem Nums3.below {w w' : World} {p : Nat} {x0 x1 x2 : Int} (h : Nums3 w p x0 x1 x2) (hb : Below w.heap.size w w') : Nums3 w' p x0 x1 x2 := by
  obtain ⟨h0, h1, h2, hl⟩ := h
  exact ⟨(hb.cell (p := ⟨p, 0, none⟩) hl).trans h0, (hb.cell (p := ⟨p, 1, none⟩) hl).trans h1, (hb.cell (p := ⟨p, 2, none⟩) hl).trans h2, Nat.lt_of_lt_of_le hl hb.size⟩
def Sm (x : Int) : Prop := -1152921504606846976 ≤ x ∧ x ≤ 1152921504606846976

theorem points_any (x0 y0 x1 y1 x2 y2 : Int) (w : World) :
    Calls Tryz.prog 89 #[.agg #[.int .i64 x0, .int .i64 y0, .int .i64 x1, .int .i64 y1, .int .i64 x2, .int .i64 y2]] w fun e w' => ∃ g : Nat, e = .returned (.slice (some ⟨g, 0, none⟩) 3 3) ∧ Pts3 w' g x0 y0 x1 y1 x2 y2 ∧ w.heap.size ≤ g ∧ Below w.heap.size w w' := by
  go_enter Tryz.func89, Tryz.ntmps89
  go_wp2_with fail
  go_ret
  refine ⟨_, rfl, ?_, ?_, ?_⟩
  · refine ⟨?_, ?_, ?_, ?_, ?_, ?_, ?_⟩
    all_goals first | (go_simp; done) | (simp; done) | (simp <;> omega) | rfl
  · simp
  · iterate 2 (refine Below.alloc ?_ (by first | exact Nat.le_refl _ | (simp <;> omega)) _)
    exact Below.refl _ _

set_option maxHeartbeats 8000000 in
theorem combine_any (p q c : Nat) (x0 y0 x1 y1 x2 y2 b0 b1 b2 : Int) (w : World) (hP : Pts3 w p x0 y0 x1 y1 x2 y2) (hN : Nums3 w q b0 b1 b2)
    (m0 : Sm (x0 * b0)) (m1 : Sm (x1 * b1)) (m2 : Sm (x2 * b2)) (n0 : Sm (y0 * b0)) (n1 : Sm (y1 * b1)) (n2 : Sm (y2 * b2)) :
    Calls Tryz.prog 88 #[.slice (some ⟨p, 0, none⟩) 3 c, .slice (some ⟨q, 0, none⟩) 3 3] w fun e w' => e = .returned (.agg #[.int .i64 (x0 * b0 + x1 * b1 + x2 * b2), .int .i64 (y0 * b0 + y1 * b1 + y2 * b2)]) ∧ Below w.heap.size w w' := by
  have hpl := hP.2.2.2.2.2.2
  have hql := hN.2.2.2
  unfold Sm at m0 m1 m2 n0 n1 n2
  replace hP := Lib.hid hP
  replace hN := Lib.hid hN
  have hnew := heap_new2 w (.cells #[.int .i64 0, .int .i64 0] 71 (0, 0)) (.cells #[.int .i64 0, .int .i64 0] 71 (0, 0))
  have hB0 : Below w.heap.size w ((w.alloc (.cells #[.int .i64 0, .int .i64 0] 71 (0, 0))).alloc (.cells #[.int .i64 0, .int .i64 0] 71 (0, 0))) := Go.Joins.below_alloc2 _ _ _
  have r0 : PB ((w.alloc (.cells #[.int .i64 0, .int .i64 0] 71 (0, 0))).alloc (.cells #[.int .i64 0, .int .i64 0] 71 (0, 0))) w.heap.size 0 0 := hnew.1
  have s0 : PB ((w.alloc (.cells #[.int .i64 0, .int .i64 0] 71 (0, 0))).alloc (.cells #[.int .i64 0, .int .i64 0] 71 (0, 0))) (w.heap.size + 1) 0 0 := hnew.2
  clear hnew
  go_enter Tryz.func88, Tryz.ntmps88
  go_wp2_with fail
  generalize ((w.alloc (.cells #[.int .i64 0, .int .i64 0] 71 (0, 0))).alloc (.cells #[.int .i64 0, .int .i64 0] 71 (0, 0))) = W0 at *
  go_loopw [10] (fun i wr => ∃ (k : Nat) (sx sy : Int), i = .int .i64 k ∧ k ≤ 3 ∧ (sx = if k = 0 then 0 else if k = 1 then x0 * b0 else if k = 2 then x0 * b0 + x1 * b1 else x0 * b0 + x1 * b1 + x2 * b2) ∧ (sy = if k = 0 then 0 else if k = 1 then y0 * b0 else if k = 2 then y0 * b0 + y1 * b1 else y0 * b0 + y1 * b1 + y2 * b2) ∧ PB wr w.heap.size 0 0 ∧ PB wr (w.heap.size + 1) sx sy ∧ Below w.heap.size w wr) (fun i wr => 3 - (intOf i).toNat)
  case atStart => exact ⟨0, 0, 0, rfl, Nat.zero_le _, rfl, rfl, r0, s0, hB0⟩
  case round =>
    obtain ⟨k, sx, sy, rfl, hk, hsx, hsy, hr, hs, hbel⟩ := hrel
    replace hr := Lib.hid hr
    rcases (show k = 0 ∨ k = 1 ∨ k = 2 ∨ k = 3 by omega) with rfl | rfl | rfl | rfl
    · replace hsx : sx = 0 := hsx
      replace hsy : sy = 0 := hsy
      have hki : (0 : Int) ≤ (0 : Int) ∧ (0 : Int) < 3 := by omega
      have cP := hP.out.below hbel
      have cN := hN.out.below hbel
      have a0 : wr.cell? ⟨p, 0, none⟩ = some (.int .i64 x0) := by unfold Pts3 at cP; simp only [cP]
      have a1 : wr.cell? ⟨p, 1, none⟩ = some (.int .i64 y0) := by unfold Pts3 at cP; simp only [cP]
      have hpw := cP.2.2.2.2.2.2
      have hz := hbel.size
      clear cP cN
      go_wp2_with fail
      have hV : Below w.heap.size w (wr.alloc (.cells #[.int .i64 x0, .int .i64 y0] 71 (0, 0))) := hbel.alloc hz _
      have hsV : PB (wr.alloc (.cells #[.int .i64 x0, .int .i64 y0] 71 (0, 0))) (w.heap.size + 1) sx sy := hs.alloc _
      have hrV := Lib.hid (show PB (wr.alloc (.cells #[.int .i64 x0, .int .i64 y0] 71 (0, 0))) w.heap.size 0 0 from hr.out.alloc _)
      have htV : PB (wr.alloc (.cells #[.int .i64 x0, .int .i64 y0] 71 (0, 0))) wr.heap.size x0 y0 := heap_alloc_new wr _
      have hst : w.heap.size + 1 < wr.heap.size := hs.cells.2.2.2
      clear hs hr a0 a1 hbel hpw
      generalize wr.alloc (.cells #[.int .i64 x0, .int .i64 y0] 71 (0, 0)) = V at *
      obtain ⟨t, ht⟩ : ∃ t, t = wr.heap.size := ⟨_, rfl⟩
      rw [← ht] at htV hst ⊢
      clear ht
      obtain ⟨u0, u1, uf, ul⟩ := hsV.cells
      obtain ⟨t0, t1, tf, tl⟩ := htV.cells
      have cN := hN.out.below hV
      have d0 : V.cell? ⟨q, 0, none⟩ = some (.int .i64 b0) := by unfold Nums3 at cN; simp only [cN]
      have hqV := cN.2.2.2
      have f1 : IntKind.i64.wrap (x0 * b0) = x0 * b0 := wi (by omega)
      have f2 : IntKind.i64.wrap (sx + x0 * b0) = sx + x0 * b0 := wi (by omega)
      have f3 : IntKind.i64.wrap (y0 * b0) = y0 * b0 := wi (by omega)
      have f4 : IntKind.i64.wrap (sy + y0 * b0) = sy + y0 * b0 := wi (by omega)
      replace hsx := Lib.hid hsx
      replace hsy := Lib.hid hsy
      clear cN
      go_still_tail 11, (by kernel_rfl)
      replace hsV := hsV.drew
      replace htV := htV.drew
      replace hV := hV.drew
      replace hrV := Lib.hid hrV.out.drew
      clear u0 u1 uf ul t0 t1 tf tl d0 hqV
      change wpList _ _ _ _ _ V.drew
      generalize V.drew = V2 at *
      obtain ⟨u0, u1, uf, ul⟩ := hsV.cells
      go_wp2_with fail
      replace htV : PB (V2.setCell ⟨w.heap.size + 1, 0, none⟩ (.int .i64 (sx + x0 * b0))) t x0 y0 := htV.off (by omega)
      replace hsV : PB (V2.setCell ⟨w.heap.size + 1, 0, none⟩ (.int .i64 (sx + x0 * b0))) (w.heap.size + 1) (sx + x0 * b0) sy := hsV.put0 _
      replace hV : Below w.heap.size w (V2.setCell ⟨w.heap.size + 1, 0, none⟩ (.int .i64 (sx + x0 * b0))) := hV.setCell (p := ⟨w.heap.size + 1, 0, none⟩) (by show w.heap.size ≤ w.heap.size + 1; omega) _
      replace hrV : Hid (PB (V2.setCell ⟨w.heap.size + 1, 0, none⟩ (.int .i64 (sx + x0 * b0))) w.heap.size 0 0) := hrV.out.off (by omega)
      clear u0 u1 uf ul
      generalize V2.setCell ⟨w.heap.size + 1, 0, none⟩ (.int .i64 (sx + x0 * b0)) = V3 at *
      obtain ⟨u0, u1, uf, ul⟩ := hsV.cells
      obtain ⟨t0, t1, tf, tl⟩ := htV.cells
      have cN := hN.out.below hV
      have d0 : V3.cell? ⟨q, 0, none⟩ = some (.int .i64 b0) := by unfold Nums3 at cN; simp only [cN]
      have hqV := cN.2.2.2
      clear cN
      go_still_tail 11, (by kernel_rfl)
      replace hsV := hsV.drew
      replace hV := hV.drew
      replace hrV := Lib.hid hrV.out.drew
      clear u0 u1 uf ul t0 t1 tf tl d0 hqV htV
      change wpList _ _ _ _ _ V3.drew
      generalize V3.drew = V4 at *
      obtain ⟨u0, u1, uf, ul⟩ := hsV.cells
      go_wp2_with fail
      go_roundw
      case rel => exact ⟨1, sx + x0 * b0, sy + y0 * b0, rfl, by omega, by rw [hsx.out]; simp, by rw [hsy.out]; simp, hrV.out.off (by omega), hsV.put1 _, hV.setCell (p := ⟨w.heap.size + 1, 1, none⟩) (by show w.heap.size ≤ w.heap.size + 1; omega) _⟩
      case measure => simp [intOf]
    · replace hsx : sx = x0 * b0 := hsx
      replace hsy : sy = y0 * b0 := hsy
      have hki : (0 : Int) ≤ (1 : Int) ∧ (1 : Int) < 3 := by omega
      have cP := hP.out.below hbel
      have cN := hN.out.below hbel
      have a0 : wr.cell? ⟨p, 2, none⟩ = some (.int .i64 x1) := by unfold Pts3 at cP; simp only [cP]
      have a1 : wr.cell? ⟨p, 3, none⟩ = some (.int .i64 y1) := by unfold Pts3 at cP; simp only [cP]
      have hpw := cP.2.2.2.2.2.2
      have hz := hbel.size
      clear cP cN
      go_wp2_with fail
      have hV : Below w.heap.size w (wr.alloc (.cells #[.int .i64 x1, .int .i64 y1] 71 (0, 0))) := hbel.alloc hz _
      have hsV : PB (wr.alloc (.cells #[.int .i64 x1, .int .i64 y1] 71 (0, 0))) (w.heap.size + 1) sx sy := hs.alloc _
      have hrV := Lib.hid (show PB (wr.alloc (.cells #[.int .i64 x1, .int .i64 y1] 71 (0, 0))) w.heap.size 0 0 from hr.out.alloc _)
      have htV : PB (wr.alloc (.cells #[.int .i64 x1, .int .i64 y1] 71 (0, 0))) wr.heap.size x1 y1 := heap_alloc_new wr _
      have hst : w.heap.size + 1 < wr.heap.size := hs.cells.2.2.2
      clear hs hr a0 a1 hbel hpw
      generalize wr.alloc (.cells #[.int .i64 x1, .int .i64 y1] 71 (0, 0)) = V at *
      obtain ⟨t, ht⟩ : ∃ t, t = wr.heap.size := ⟨_, rfl⟩
      rw [← ht] at htV hst ⊢
      clear ht
      obtain ⟨u0, u1, uf, ul⟩ := hsV.cells
      obtain ⟨t0, t1, tf, tl⟩ := htV.cells
      have cN := hN.out.below hV
      have d0 : V.cell? ⟨q, 1, none⟩ = some (.int .i64 b1) := by unfold Nums3 at cN; simp only [cN]
      have hqV := cN.2.2.2
      have f1 : IntKind.i64.wrap (x1 * b1) = x1 * b1 := wi (by omega)
      have f2 : IntKind.i64.wrap (sx + x1 * b1) = sx + x1 * b1 := wi (by omega)
      have f3 : IntKind.i64.wrap (y1 * b1) = y1 * b1 := wi (by omega)
      have f4 : IntKind.i64.wrap (sy + y1 * b1) = sy + y1 * b1 := wi (by omega)
      replace hsx := Lib.hid hsx
      replace hsy := Lib.hid hsy
      clear cN
      go_still_tail 11, (by kernel_rfl)
      replace hsV := hsV.drew
      replace htV := htV.drew
      replace hV := hV.drew
      replace hrV := Lib.hid hrV.out.drew
      clear u0 u1 uf ul t0 t1 tf tl d0 hqV
      change wpList _ _ _ _ _ V.drew
      generalize V.drew = V2 at *
      obtain ⟨u0, u1, uf, ul⟩ := hsV.cells
      go_wp2_with fail
      replace htV : PB (V2.setCell ⟨w.heap.size + 1, 0, none⟩ (.int .i64 (sx + x1 * b1))) t x1 y1 := htV.off (by omega)
      replace hsV : PB (V2.setCell ⟨w.heap.size + 1, 0, none⟩ (.int .i64 (sx + x1 * b1))) (w.heap.size + 1) (sx + x1 * b1) sy := hsV.put0 _
      replace hV : Below w.heap.size w (V2.setCell ⟨w.heap.size + 1, 0, none⟩ (.int .i64 (sx + x1 * b1))) := hV.setCell (p := ⟨w.heap.size + 1, 0, none⟩) (by show w.heap.size ≤ w.heap.size + 1; omega) _
      replace hrV : Hid (PB (V2.setCell ⟨w.heap.size + 1, 0, none⟩ (.int .i64 (sx + x1 * b1))) w.heap.size 0 0) := hrV.out.off (by omega)
      clear u0 u1 uf ul
      generalize V2.setCell ⟨w.heap.size + 1, 0, none⟩ (.int .i64 (sx + x1 * b1)) = V3 at *
      obtain ⟨u0, u1, uf, ul⟩ := hsV.cells
      obtain ⟨t0, t1, tf, tl⟩ := htV.cells
      have cN := hN.out.below hV
      have d0 : V3.cell? ⟨q, 1, none⟩ = some (.int .i64 b1) := by unfold Nums3 at cN; simp only [cN]
      have hqV := cN.2.2.2
      clear cN
      go_still_tail 11, (by kernel_rfl)
      replace hsV := hsV.drew
      replace hV := hV.drew
      replace hrV := Lib.hid hrV.out.drew
      clear u0 u1 uf ul t0 t1 tf tl d0 hqV htV
      change wpList _ _ _ _ _ V3.drew
      generalize V3.drew = V4 at *
      obtain ⟨u0, u1, uf, ul⟩ := hsV.cells
      go_wp2_with fail
      go_roundw
      case rel => exact ⟨2, sx + x1 * b1, sy + y1 * b1, rfl, by omega, by rw [hsx.out]; simp, by rw [hsy.out]; simp, hrV.out.off (by omega), hsV.put1 _, hV.setCell (p := ⟨w.heap.size + 1, 1, none⟩) (by show w.heap.size ≤ w.heap.size + 1; omega) _⟩
      case measure => simp [intOf]
    · replace hsx : sx = x0 * b0 + x1 * b1 := hsx
      replace hsy : sy = y0 * b0 + y1 * b1 := hsy
      have hki : (0 : Int) ≤ (2 : Int) ∧ (2 : Int) < 3 := by omega
      have cP := hP.out.below hbel
      have cN := hN.out.below hbel
      have a0 : wr.cell? ⟨p, 4, none⟩ = some (.int .i64 x2) := by unfold Pts3 at cP; simp only [cP]
      have a1 : wr.cell? ⟨p, 5, none⟩ = some (.int .i64 y2) := by unfold Pts3 at cP; simp only [cP]
      have hpw := cP.2.2.2.2.2.2
      have hz := hbel.size
      clear cP cN
      go_wp2_with fail
      have hV : Below w.heap.size w (wr.alloc (.cells #[.int .i64 x2, .int .i64 y2] 71 (0, 0))) := hbel.alloc hz _
      have hsV : PB (wr.alloc (.cells #[.int .i64 x2, .int .i64 y2] 71 (0, 0))) (w.heap.size + 1) sx sy := hs.alloc _
      have hrV := Lib.hid (show PB (wr.alloc (.cells #[.int .i64 x2, .int .i64 y2] 71 (0, 0))) w.heap.size 0 0 from hr.out.alloc _)
      have htV : PB (wr.alloc (.cells #[.int .i64 x2, .int .i64 y2] 71 (0, 0))) wr.heap.size x2 y2 := heap_alloc_new wr _
      have hst : w.heap.size + 1 < wr.heap.size := hs.cells.2.2.2
      clear hs hr a0 a1 hbel hpw
      generalize wr.alloc (.cells #[.int .i64 x2, .int .i64 y2] 71 (0, 0)) = V at *
      obtain ⟨t, ht⟩ : ∃ t, t = wr.heap.size := ⟨_, rfl⟩
      rw [← ht] at htV hst ⊢
      clear ht
      obtain ⟨u0, u1, uf, ul⟩ := hsV.cells
      obtain ⟨t0, t1, tf, tl⟩ := htV.cells
      have cN := hN.out.below hV
      have d0 : V.cell? ⟨q, 2, none⟩ = some (.int .i64 b2) := by unfold Nums3 at cN; simp only [cN]
      have hqV := cN.2.2.2
      have f1 : IntKind.i64.wrap (x2 * b2) = x2 * b2 := wi (by omega)
      have f2 : IntKind.i64.wrap (sx + x2 * b2) = sx + x2 * b2 := wi (by omega)
      have f3 : IntKind.i64.wrap (y2 * b2) = y2 * b2 := wi (by omega)
      have f4 : IntKind.i64.wrap (sy + y2 * b2) = sy + y2 * b2 := wi (by omega)
      replace hsx := Lib.hid hsx
      replace hsy := Lib.hid hsy
      clear cN
      go_still_tail 11, (by kernel_rfl)
      replace hsV := hsV.drew
      replace htV := htV.drew
      replace hV := hV.drew
      replace hrV := Lib.hid hrV.out.drew
      clear u0 u1 uf ul t0 t1 tf tl d0 hqV
      change wpList _ _ _ _ _ V.drew
      generalize V.drew = V2 at *
      obtain ⟨u0, u1, uf, ul⟩ := hsV.cells
      go_wp2_with fail
      replace htV : PB (V2.setCell ⟨w.heap.size + 1, 0, none⟩ (.int .i64 (sx + x2 * b2))) t x2 y2 := htV.off (by omega)
      replace hsV : PB (V2.setCell ⟨w.heap.size + 1, 0, none⟩ (.int .i64 (sx + x2 * b2))) (w.heap.size + 1) (sx + x2 * b2) sy := hsV.put0 _
      replace hV : Below w.heap.size w (V2.setCell ⟨w.heap.size + 1, 0, none⟩ (.int .i64 (sx + x2 * b2))) := hV.setCell (p := ⟨w.heap.size + 1, 0, none⟩) (by show w.heap.size ≤ w.heap.size + 1; omega) _
      replace hrV : Hid (PB (V2.setCell ⟨w.heap.size + 1, 0, none⟩ (.int .i64 (sx + x2 * b2))) w.heap.size 0 0) := hrV.out.off (by omega)
      clear u0 u1 uf ul
      generalize V2.setCell ⟨w.heap.size + 1, 0, none⟩ (.int .i64 (sx + x2 * b2)) = V3 at *
      obtain ⟨u0, u1, uf, ul⟩ := hsV.cells
      obtain ⟨t0, t1, tf, tl⟩ := htV.cells
      have cN := hN.out.below hV
      have d0 : V3.cell? ⟨q, 2, none⟩ = some (.int .i64 b2) := by unfold Nums3 at cN; simp only [cN]
      have hqV := cN.2.2.2
      clear cN
      go_still_tail 11, (by kernel_rfl)
      replace hsV := hsV.drew
      replace hV := hV.drew
      replace hrV := Lib.hid hrV.out.drew
      clear u0 u1 uf ul t0 t1 tf tl d0 hqV htV
      change wpList _ _ _ _ _ V3.drew
      generalize V3.drew = V4 at *
      obtain ⟨u0, u1, uf, ul⟩ := hsV.cells
      go_wp2_with fail
      go_roundw
      case rel => exact ⟨3, sx + x2 * b2, sy + y2 * b2, rfl, by omega, by rw [hsx.out]; simp, by rw [hsy.out]; simp, hrV.out.off (by omega), hsV.put1 _, hV.setCell (p := ⟨w.heap.size + 1, 1, none⟩) (by show w.heap.size ≤ w.heap.size + 1; omega) _⟩
      case measure => simp [intOf]
    · replace hsx : sx = x0 * b0 + x1 * b1 + x2 * b2 := hsx
      replace hsy : sy = y0 * b0 + y1 * b1 + y2 * b2 := hsy
      obtain ⟨u0, u1, uf, ul⟩ := hs.cells
      obtain ⟨v0, v1, vf, vl⟩ := hr.out.cells
      replace hsx := Lib.hid hsx
      replace hsy := Lib.hid hsy
      go_wp2_with fail
      refine bodyPost_ret (v := .agg #[.int .i64 sx, .int .i64 sy]) (by simp [results, Tryz.results88, go_sem, v0, v1]) rfl ⟨by rw [hsx.out, hsy.out], ?_⟩
      exact (hbel.setCell (p := ⟨w.heap.size, 0, none⟩) (Nat.le_refl _) _).setCell (p := ⟨w.heap.size, 1, none⟩) (Nat.le_refl _) _
end Go.Proofs.YtgelkdcggnffeaaGreat

/- Sizes, levels, points of curves: the program's side. Conditions: as each states. -/
namespace Go.Proofs.YtgelkdcggnffeaaGreat
open Go.RowKit
set_option linter.unusedVariables false
set_option maxRecDepth 100000

theorem sizeOf_any (x y : Int) (w : World) (hx : -1099511627776 ≤ x ∧ x ≤ 1099511627776) (hy : -1099511627776 ≤ y ∧ y ≤ 1099511627776) :
    Calls Tryz.prog 87 #[.agg #[.int .i64 x, .int .i64 y]] w fun e w' => e = .returned (.int .i64 (szI x y)) ∧ Below w.heap.size w w' := by
  go_enter Tryz.func87, Tryz.ntmps87
  go_wp2_with fail
  all_goals
    go_ret
    exact ⟨ret_int (by unfold szI imax; repeat' split <;> try omega), Go.Joins.below_alloc1 _ _⟩

theorem levelFor_any (b : Int) (w : World) (h0 : 0 ≤ b) (h1 : b ≤ 1099511627776) :
    Calls Tryz.prog 86 #[.int .i64 b, .int .i64 1] w fun e w' => ((∃ l : Nat, lvl b = some l ∧ e = .returned (.tuple #[.int .i64 l, .int .i64 0])) ∨ (lvl b = none ∧ e = .returned (.tuple #[.int .i64 0, .int .i64 5]))) ∧ w = w' := by
  go_enter Tryz.func86, Tryz.ntmps86
  go_wp2_with fail
  go_loop [6] (fun i => ∃ k : Nat, i = .int .i64 k ∧ k ≤ 7 ∧ ∀ j, j < k → lvlOk b j = false) (fun i => 7 - (intOf i).toNat)
  case atStart => exact ⟨0, rfl, by omega, fun j hj => by omega⟩
  case round =>
    obtain ⟨k, rfl, hk, hall⟩ := hrel
    replace hall := Lib.hid hall
    rcases (show k = 0 ∨ k = 1 ∨ k = 2 ∨ k = 3 ∨ k = 4 ∨ k = 5 ∨ k = 6 ∨ k = 7 by omega) with rfl | rfl | rfl | rfl | rfl | rfl | rfl | rfl
    · by_cases hle : b ≤ 4
      · go_wp2_with fail
        go_ret2
        exact ⟨.inl ⟨0, lvl_some (by omega) hall.out (by simp [lvlOk]; omega), rfl⟩, rfl⟩
      · go_wp2_with fail
        go_round
        case rel => exact ⟨1, rfl, by omega, fun j hj => by
          rcases Nat.lt_or_ge j 0 with h | h
          · exact hall.out j h
          · obtain rfl : j = 0 := by omega
            simp [lvlOk]; omega⟩
        case measure => simp [intOf]
    · by_cases hle : b ≤ 16
      · go_wp2_with fail
        go_ret2
        exact ⟨.inl ⟨1, lvl_some (by omega) hall.out (by simp [lvlOk]; omega), rfl⟩, rfl⟩
      · go_wp2_with fail
        go_round
        case rel => exact ⟨2, rfl, by omega, fun j hj => by
          rcases Nat.lt_or_ge j 1 with h | h
          · exact hall.out j h
          · obtain rfl : j = 1 := by omega
            simp [lvlOk]; omega⟩
        case measure => simp [intOf]
    · by_cases hle : b ≤ 64
      · go_wp2_with fail
        go_ret2
        exact ⟨.inl ⟨2, lvl_some (by omega) hall.out (by simp [lvlOk]; omega), rfl⟩, rfl⟩
      · go_wp2_with fail
        go_round
        case rel => exact ⟨3, rfl, by omega, fun j hj => by
          rcases Nat.lt_or_ge j 2 with h | h
          · exact hall.out j h
          · obtain rfl : j = 2 := by omega
            simp [lvlOk]; omega⟩
        case measure => simp [intOf]
    · by_cases hle : b ≤ 256
      · go_wp2_with fail
        go_ret2
        exact ⟨.inl ⟨3, lvl_some (by omega) hall.out (by simp [lvlOk]; omega), rfl⟩, rfl⟩
      · go_wp2_with fail
        go_round
        case rel => exact ⟨4, rfl, by omega, fun j hj => by
          rcases Nat.lt_or_ge j 3 with h | h
          · exact hall.out j h
          · obtain rfl : j = 3 := by omega
            simp [lvlOk]; omega⟩
        case measure => simp [intOf]
    · by_cases hle : b ≤ 1024
      · go_wp2_with fail
        go_ret2
        exact ⟨.inl ⟨4, lvl_some (by omega) hall.out (by simp [lvlOk]; omega), rfl⟩, rfl⟩
      · go_wp2_with fail
        go_round
        case rel => exact ⟨5, rfl, by omega, fun j hj => by
          rcases Nat.lt_or_ge j 4 with h | h
          · exact hall.out j h
          · obtain rfl : j = 4 := by omega
            simp [lvlOk]; omega⟩
        case measure => simp [intOf]
    · by_cases hle : b ≤ 4096
      · go_wp2_with fail
        go_ret2
        exact ⟨.inl ⟨5, lvl_some (by omega) hall.out (by simp [lvlOk]; omega), rfl⟩, rfl⟩
      · go_wp2_with fail
        go_round
        case rel => exact ⟨6, rfl, by omega, fun j hj => by
          rcases Nat.lt_or_ge j 5 with h | h
          · exact hall.out j h
          · obtain rfl : j = 5 := by omega
            simp [lvlOk]; omega⟩
        case measure => simp [intOf]
    · by_cases hle : b ≤ 16384
      · go_wp2_with fail
        go_ret2
        exact ⟨.inl ⟨6, lvl_some (by omega) hall.out (by simp [lvlOk]; omega), rfl⟩, rfl⟩
      · go_wp2_with fail
        go_round
        case rel => exact ⟨7, rfl, by omega, fun j hj => by
          rcases Nat.lt_or_ge j 6 with h | h
          · exact hall.out j h
          · obtain rfl : j = 6 := by omega
            simp [lvlOk]; omega⟩
        case measure => simp [intOf]
    · go_wp2_with fail
      go_ret2
      exact ⟨.inr ⟨lvl_none hall.out, rfl⟩, rfl⟩

/-- a curve as a value -/
abbrev qV (q : Qd) : Value := .agg #[.int .i64 q.ax, .int .i64 q.ay, .int .i64 q.bx, .int .i64 q.b, .int .i64 q.cx, .int .i64 q.cy]
theorem num_comm (a b c u k n : Int) (hu : u = n - k) : a * (u * u) + b * (2 * u * k) + c * (k * k) = numI a b c k n := by
  unfold numI; rw [← hu]; grind
theorem mul_sm {x y : Int} (hx : -262144 ≤ x ∧ x ≤ 262144) (hy : 0 ≤ y ∧ y ≤ 8192) : Sm (x * y) := by
  have h := prod_bd (x := x) (y := y) (A := 262144) (B := 8192) hx.1 hx.2 (by omega) hy.2
  unfold Sm; omega

set_option maxHeartbeats 4000000 in
theorem quadAt_any (ax ay bx b cx cy k n : Int) (w : World) (ha : ptOk ax ay = true) (hb : ptOk bx b = true) (hc : ptOk cx cy = true) (h0 : 0 ≤ k) (hkn : k ≤ n) (hn1 : 0 < n) (hn2 : n ≤ 64) :
    Calls Tryz.prog 90 #[qV ⟨ax, ay, bx, b, cx, cy⟩, .int .i64 k, .int .i64 n] w fun e w' => e = .returned (.agg #[.int .i64 (mixI ax bx cx k n), .int .i64 (mixI ay b cy k n)]) ∧ Below w.heap.size w w' := by
  obtain ⟨a1, a2⟩ := ptOk_iff.1 ha
  obtain ⟨b1, b2⟩ := ptOk_iff.1 hb
  obtain ⟨c1, c2⟩ := ptOk_iff.1 hc
  obtain ⟨u, hu⟩ : ∃ u, u = n - k := ⟨_, rfl⟩
  have huu := df64 (x := u) (y := u) (by omega) (by omega) (by omega) (by omega)
  have hkk := df64 (x := k) (y := k) (by omega) (by omega) (by omega) (by omega)
  have huk := df64 (x := u) (y := k) (by omega) (by omega) (by omega) (by omega)
  have hnn := df64 (x := n) (y := n) (by omega) (by omega) (by omega) (by omega)
  have hnn1 : 0 < n * n := Int.mul_pos hn1 hn1
  have e1 : 2 * u * k = 2 * (u * k) := by rw [Int.mul_assoc]
  have q0 : IntKind.i64.wrap (n - k) = u := by rw [wi (by omega), hu]
  have q1 : IntKind.i64.wrap (u * u) = u * u := wi (by omega)
  have q3 : IntKind.i64.wrap (2 * u) = 2 * u := wi (by omega)
  have q4 : IntKind.i64.wrap (2 * u * k) = 2 * u * k := wi (by omega)
  have q7 : IntKind.i64.wrap (k * k) = k * k := wi (by omega)
  have q10 : IntKind.i64.wrap (n * n) = n * n := wi (by omega)
  have x1 := num_bd a1 b1 c1 h0 hkn
  have x2 := num_bd a2 b2 c2 h0 hkn
  have n1 := num_comm ax bx cx u k n hu
  have n2 := num_comm ay b cy u k n hu
  have m0 := mul_sm (x := ax) (y := u * u) a1 (by omega)
  have m1 := mul_sm (x := bx) (y := 2 * u * k) b1 (by omega)
  have m2 := mul_sm (x := cx) (y := k * k) c1 (by omega)
  have m3 := mul_sm (x := ay) (y := u * u) a2 (by omega)
  have m4 := mul_sm (x := b) (y := 2 * u * k) b2 (by omega)
  have m5 := mul_sm (x := cy) (y := k * k) c2 (by omega)
  have hcm := Lib.hid (fun p q c W hP hN => combine_any p q c ax ay bx b cx cy (u * u) (2 * u * k) (k * k) W hP hN m0 m1 m2 m3 m4 m5)
  have hdv := Lib.hid (fun W => divPt_any (numI ax bx cx k n) (numI ay b cy k n) (n * n) W (by omega) (by omega) (by omega) (by omega) hnn1 (by omega))
  rw [n1, n2] at hcm
  have hpt := Lib.hid (fun W => points_any ax ay bx b cx cy W)
  replace hu := Lib.hid hu
  have hM1 : mixI ax bx cx k n = rnd (numI ax bx cx k n) (n * n) := rfl
  have hM2 : mixI ay b cy k n = rnd (numI ay b cy k n) (n * n) := rfl
  rw [hM1, hM2]
  clear x1 x2 n1 n2 m0 m1 m2 m3 m4 m5 huu hkk huk hnn hnn1 e1 hM1 hM2
  generalize numI ax bx cx k n = X at *
  generalize numI ay b cy k n = Y at *
  have hnew := heap_new2 w (.cells #[.int .i64 ax, .int .i64 ay, .int .i64 bx, .int .i64 b, .int .i64 cx, .int .i64 cy] 87 (0, 0)) (.cells #[.int .i64 0, .int .i64 0] 71 (0, 0))
  have hB0 : Below w.heap.size w ((w.alloc (.cells #[.int .i64 ax, .int .i64 ay, .int .i64 bx, .int .i64 b, .int .i64 cx, .int .i64 cy] 87 (0, 0))).alloc (.cells #[.int .i64 0, .int .i64 0] 71 (0, 0))) := Go.Joins.below_alloc2 _ _ _
  have r0 : PB ((w.alloc (.cells #[.int .i64 ax, .int .i64 ay, .int .i64 bx, .int .i64 b, .int .i64 cx, .int .i64 cy] 87 (0, 0))).alloc (.cells #[.int .i64 0, .int .i64 0] 71 (0, 0))) (w.heap.size + 1) 0 0 := hnew.2
  clear hnew
  go_enter Tryz.func90, Tryz.ntmps90
  go_wp2_with fail
  refine (hpt.out _).mono ?_
  rintro e w1 ⟨g, rfl, hP1, hg1, hb1⟩
  replace r0 := r0.below hb1
  have hB1 := hB0.trans (hb1.mono hB0.size)
  have hz1 := hB1.size
  clear hb1 hB0
  go_wp2_with fail
  refine (hcm.out g w1.heap.size 3 _ (hP1.below (Go.Joins.below_alloc1 _ _)) ⟨by go_simp, by go_simp, by go_simp, by simp⟩).mono ?_
  rintro e w2 ⟨rfl, hb2⟩
  replace r0 := (r0.alloc _).below hb2
  have hB2 := (hB1.alloc hz1 _).trans (hb2.mono (hB1.alloc hz1 _).size)
  clear hb2 hB1 hP1
  go_wp2_with fail
  refine (hdv.out w2).mono ?_
  rintro e w3 ⟨rfl, hb3⟩
  replace r0 := r0.below hb3
  have hB3 := hB2.trans (hb3.mono hB2.size)
  clear hb3 hB2
  obtain ⟨v0, v1, vf, vl⟩ := r0.cells
  go_wp2_with fail
  refine bodyPost_ret (v := .agg #[.int .i64 (rnd X (n * n)), .int .i64 (rnd Y (n * n))]) (by simp [results, Tryz.results90, go_sem, v0, v1]) rfl ⟨rfl, ?_⟩
  exact (hB3.setCell (p := ⟨w.heap.size + 1, 0, none⟩) (by show w.heap.size ≤ w.heap.size + 1; omega) _).setCell (p := ⟨w.heap.size + 1, 1, none⟩) (by show w.heap.size ≤ w.heap.size + 1; omega) _

/-- the path along a curve, made by the call -/
def FlatTo (q : Qd) (w : World) (e : Ending) (w' : World) (bad good : Value) : Prop :=
  (lvl (bendQ q) = none ∧ e = .returned (.tuple #[.slice none 0 0, bad]) ∧ Below w.heap.size w w') ∨
  ∃ (l : Nat) (A : Option Addr) (c : Nat), lvl (bendQ q) = some l ∧ e = .returned (.tuple #[.slice A (2 ^ l + 1) c, good]) ∧ RdS 2 (FlatR ptC) w' w.heap.size w'.heap.size A (2 ^ l + 1) (flatL q (2 ^ l)) ∧ Below w.heap.size w w'
theorem bendQ_bd {q : Qd} (h : q.ok) : 0 ≤ bendQ q ∧ bendQ q ≤ 2097152 ∧ (-1048576 ≤ q.ax - 2 * q.bx + q.cx ∧ q.ax - 2 * q.bx + q.cx ≤ 1048576) ∧ (-1048576 ≤ q.ay - 2 * q.b + q.cy ∧ q.ay - 2 * q.b + q.cy ≤ 1048576) := by
  obtain ⟨h1, h2, h3⟩ := h
  obtain ⟨a1, a2⟩ := ptOk_iff.1 h1
  obtain ⟨b1, b2⟩ := ptOk_iff.1 h2
  obtain ⟨c1, c2⟩ := ptOk_iff.1 h3
  unfold bendQ szI imax
  refine ⟨?_, ?_, by omega, by omega⟩
  · repeat' split
    all_goals omega
  · repeat' split
    all_goals omega
theorem ptC_flat_snoc (L : List (Int × Int)) (p : Int × Int) : (L ++ [p]).flatMap ptC = L.flatMap ptC ++ ptC p := by simp

set_option maxHeartbeats 4000000 in
theorem flattenQuad_any (q : Qd) (hq : q.ok) (w : World) :
    Calls Tryz.prog 72 #[qV q, .int .i64 1] w fun e w' => FlatTo q w e w' (.int .i64 5) (.int .i64 0) := by
  obtain ⟨s1, s2, s3, s4⟩ := bendQ_bd hq
  obtain ⟨ax, ay, bx, b, cx, cy⟩ := q
  obtain ⟨ha, hb, hc⟩ := hq
  simp only at ha hb hc s3 s4
  obtain ⟨a1, a2⟩ := ptOk_iff.1 ha
  obtain ⟨b1, b2⟩ := ptOk_iff.1 hb
  obtain ⟨c1, c2⟩ := ptOk_iff.1 hc
  have hbq : bendQ ⟨ax, ay, bx, b, cx, cy⟩ = szI (ax - 2 * bx + cx) (ay - 2 * b + cy) := rfl
  have hpt := Lib.hid (fun W => points_any ax ay bx b cx cy W)
  have hcm := Lib.hid (fun p q c W hP hN => combine_any p q c ax ay bx b cx cy 1 (-2) 1 W hP hN (by unfold Sm; omega) (by unfold Sm; omega) (by unfold Sm; omega) (by unfold Sm; omega) (by unfold Sm; omega) (by unfold Sm; omega))
  rw [show ax * 1 + bx * -2 + cx * 1 = ax - 2 * bx + cx by omega, show ay * 1 + b * -2 + cy * 1 = ay - 2 * b + cy by omega] at hcm
  have hsz := Lib.hid (fun W => sizeOf_any (ax - 2 * bx + cx) (ay - 2 * b + cy) W (by omega) (by omega))
  rw [← hbq] at hsz
  obtain ⟨B, hB⟩ : ∃ B, B = bendQ ⟨ax, ay, bx, b, cx, cy⟩ := ⟨_, rfl⟩
  rw [← hB] at hsz s1 s2
  have hlv := Lib.hid (fun W => levelFor_any B W (by omega) (by omega))
  have hqa := Lib.hid (fun (k n : Int) W h0 hk h1 h2 => quadAt_any ax ay bx b cx cy k n W ha hb hc h0 hk h1 h2)
  generalize ax - 2 * bx + cx = X at *
  generalize ay - 2 * b + cy = Y at *
  replace hB := Lib.hid hB
  clear hbq a1 a2 b1 b2 c1 c2 ha hb hc s3 s4
  go_enter Tryz.func72, Tryz.ntmps72
  go_wp2_with fail
  refine (hpt.out _).mono ?_
  rintro e w1 ⟨g, rfl, hP1, hg1, hb1⟩
  have hB1 := (Go.Joins.below_alloc1 w (.cells #[.int .i64 ax, .int .i64 ay, .int .i64 bx, .int .i64 b, .int .i64 cx, .int .i64 cy] 87 (0, 0))).trans (hb1.mono (by simp))
  have hz1 := hB1.size
  have hq1 : w1.heap[w.heap.size]? = some (.cells #[.int .i64 ax, .int .i64 ay, .int .i64 bx, .int .i64 b, .int .i64 cx, .int .i64 cy] 87 (0, 0)) := (hb1.block w.heap.size (by simp)).trans (heap_alloc_new w _)
  clear hb1
  go_wp2_with fail
  refine (hcm.out g w1.heap.size 3 _ (hP1.below (Go.Joins.below_alloc1 _ _)) ⟨by go_simp, by go_simp, by go_simp, by simp⟩).mono ?_
  rintro e w2 ⟨rfl, hb2⟩
  have hbw : Below w1.heap.size w1 w2 := (Go.Joins.below_alloc1 w1 _).trans (hb2.mono (by simp))
  have hB2 := hB1.trans (hbw.mono hz1)
  have hq2 := (hbw.block w.heap.size (Array.getElem?_eq_some_iff.1 hq1).1).trans hq1
  clear hb2 hB1 hP1 hbw hq1
  go_wp2_with fail
  refine (hsz.out w2).mono ?_
  rintro e w3 ⟨rfl, hb3⟩
  have hB3 := hB2.trans (hb3.mono hB2.size)
  have hq3 := (hb3.block w.heap.size (Array.getElem?_eq_some_iff.1 hq2).1).trans hq2
  clear hb3 hB2 hq2
  go_wp2_with fail
  refine (hlv.out w3).mono ?_
  rintro e w' ⟨⟨l, hl, rfl⟩ | ⟨hl, rfl⟩, rfl⟩
  rotate_left
  · have hl' := Lib.hid (hB.out ▸ hl)
    clear hl
    go_wp2_with fail
    go_ret2
    exact .inl ⟨hl'.out, rfl, hB3⟩
  have hl7 := lvl_lt hl
  have hl' : Hid (lvl (bendQ ⟨ax, ay, bx, b, cx, cy⟩) = some l) := hB.out ▸ hl
  have hq0 : w3.cell? ⟨w.heap.size, 0, none⟩ = some (.int .i64 ax) ∧ w3.cell? ⟨w.heap.size, 1, none⟩ = some (.int .i64 ay) ∧ w3.cell? ⟨w.heap.size, 2, none⟩ = some (.int .i64 bx) ∧ w3.cell? ⟨w.heap.size, 3, none⟩ = some (.int .i64 b) ∧ w3.cell? ⟨w.heap.size, 4, none⟩ = some (.int .i64 cx) ∧ w3.cell? ⟨w.heap.size, 5, none⟩ = some (.int .i64 cy) := by
    refine ⟨?_, ?_, ?_, ?_, ?_, ?_⟩ <;> (rw [Go.Joins.cell_of_block hq3]; rfl)
  replace hq0 := Lib.hid hq0
  have hl0 : w.heap.size < w3.heap.size := (Array.getElem?_eq_some_iff.1 hq3).1
  clear hl hq3 hpt hcm hsz hlv
  obtain ⟨n, hn⟩ : ∃ n, n = 2 ^ l := ⟨_, rfl⟩
  have hn1 : 1 ≤ n := by rw [hn]; exact Nat.one_le_two_pow
  have hn64 : n ≤ 64 := by
    rw [hn]
    exact Nat.le_trans (Nat.pow_le_pow_right (by omega) (show l ≤ 6 by omega)) (by decide)
  have hsh : wrap64 ((2 : Int) ^ l) = (n : Int) := by
    rw [hn]
    rcases (show l = 0 ∨ l = 1 ∨ l = 2 ∨ l = 3 ∨ l = 4 ∨ l = 5 ∨ l = 6 by omega) with rfl | rfl | rfl | rfl | rfl | rfl | rfl <;> decide +kernel
  replace hn := Lib.hid hn
  go_wp2_with fail
  rw [hsh]
  clear hsh
  go_loopw [9, 10] (fun out kv wr => ∃ (k : Nat) (A : Option Addr) (c : Nat), kv = .int .i64 k ∧ k ≤ n + 1 ∧ out = .slice A k c ∧ wr.ownsRow w3.heap.size 71 2 (.slice A k c) k (((flatL ⟨ax, ay, bx, b, cx, cy⟩ n).take k).flatMap ptC) ∧ Below w3.heap.size w3 wr) (fun out kv wr => n + 1 - (intOf kv).toNat)
  case atStart => exact ⟨0, none, 0, rfl, Nat.zero_le _, rfl, World.ownsRow_nil _ _ _ _, Below.refl _ _⟩
  case round =>
    obtain ⟨k, A, c, rfl, hk, rfl, hown, hbel⟩ := hrel
    have hz := hbel.size
    replace hown := Lib.hid hown
    by_cases hlt : k ≤ n
    · have hki : (k : Int) ≤ (n : Int) := by omega
      obtain ⟨r0, r1, r2, r3, r4, r5⟩ := hq0.out
      have k0 := (hbel.cell (p := ⟨w.heap.size, 0, none⟩) hl0).trans r0
      have k1 := (hbel.cell (p := ⟨w.heap.size, 1, none⟩) hl0).trans r1
      have k2 := (hbel.cell (p := ⟨w.heap.size, 2, none⟩) hl0).trans r2
      have k3 := (hbel.cell (p := ⟨w.heap.size, 3, none⟩) hl0).trans r3
      have k4 := (hbel.cell (p := ⟨w.heap.size, 4, none⟩) hl0).trans r4
      have k5 := (hbel.cell (p := ⟨w.heap.size, 5, none⟩) hl0).trans r5
      have hcl := Lib.hid (hqa.out (k : Int) (n : Int) wr (by omega) (by omega) (by omega) (by omega))
      have hst := Lib.hid (flatL_take ⟨ax, ay, bx, b, cx, cy⟩ n k hlt)
      have hwr : w.heap.size < wr.heap.size := by omega
      clear r0 r1 r2 r3 r4 r5
      go_wp2_with fail
      refine hcl.out.mono ?_
      rintro e w4 ⟨rfl, hb4⟩
      obtain ⟨P, hP⟩ : ∃ P, P = mixI ax bx cx k n := ⟨_, rfl⟩
      obtain ⟨Q, hQ⟩ : ∃ Q, Q = mixI ay b cy k n := ⟨_, rfl⟩
      rw [← hP, ← hQ]
      replace hP := Lib.hid hP
      replace hQ := Lib.hid hQ
      have hown4 := Lib.hid (own_below hown.out hb4)
      have hbel4 := hbel.trans (hb4.mono hz)
      have hz4 := hbel4.size
      clear hb4 hcl
      go_wp2_with (at_builtin; refine wpApp rfl (.tmp 31) (.tmp 36) elemPt rfl (v := .slice A k c) (n := k) (xs := ((flatL ⟨ax, ay, bx, b, cx, cy⟩ n).take k).flatMap ptC) rfl (hown4.out.alloc _) rfl (src_at (cs := [.int .i64 P, .int .i64 Q]) rfl (by simp [Value.oneCell']) rfl) (by omega) (by omega) (by simp; omega) (k + 1) rfl ?_; intro A' c' w5 hown5 hb5; replace hown5 := Lib.hid hown5)
      have hbel5 := (hbel4.alloc hz4 _).trans hb5
      clear hb5
      go_roundw
      case rel => exact ⟨k + 1, A', c', by go_num, by omega, rfl, by rw [hst.out, ptC_flat_snoc]; have h := hown5.out; rw [hP.out, hQ.out] at h; exact h, hbel5⟩
      case measure => simp [intOf]; omega
    · have hkn : k = n + 1 := by omega
      subst hkn
      have hki : ¬ (((n + 1 : Nat) : Int) ≤ (n : Int)) := by omega
      have hrd : RdS 2 (FlatR ptC) wr w3.heap.size wr.heap.size A (n + 1) (flatL ⟨ax, ay, bx, b, cx, cy⟩ n) := by
        have h := hown.out
        rw [List.take_of_length_le (by rw [flatL_len]; omega)] at h
        exact rdS_own ptC_len (by omega) h (by rw [flatL_len])
      have hrd' : RdS 2 (FlatR ptC) wr w.heap.size wr.heap.size A (n + 1) (flatL ⟨ax, ay, bx, b, cx, cy⟩ n) := hrd.wide (good_flat _) (by omega) (Nat.le_refl _)
      replace hrd' := Lib.hid hrd'
      clear hrd
      go_wp2_with fail
      go_ret2
      refine .inr ⟨l, A, c, hl'.out, ?_, ?_, hB3.trans (hbel.mono hB3.size)⟩
      · rw [← hn.out]; rfl
      · rw [← hn.out]; exact hrd'.out
end Go.Proofs.YtgelkdcggnffeaaGreat

