/- Sums of points, sizes, levels, points of curves: the program's side. Conditions: as each states. -/
import Derived.Test.YtgelkdcggnffeaaFer16
namespace Go.Proofs.Ytgelkdcggnffeaa
open Go.RowKit
set_option linter.unusedVariables false
set_option maxRecDepth 100000

/-- three points in a block, three numbers in another one -/
def Pts3 (w : World) (p : Nat) (x0 y0 x1 y1 x2 y2 : Int) : Prop := w.cell? ⟨p, 0, none⟩ = some (.int .i64 x0) ∧ w.cell? ⟨p, 1, none⟩ = some (.int .i64 y0) ∧ w.cell? ⟨p, 2, none⟩ = some (.int .i64 x1) ∧ w.cell? ⟨p, 3, none⟩ = some (.int .i64 y1) ∧ w.cell? ⟨p, 4, none⟩ = some (.int .i64 x2) ∧ w.cell? ⟨p, 5, none⟩ = some (.int .i64 y2) ∧ p < w.heap.size
theorem Pts3.below {w w' : World} {p : Nat} {x0 y0 x1 y1 x2 y2 : Int} (h : Pts3 w p x0 y0 x1 y1 x2 y2) (hb : Below w.heap.size w w') : Pts3 w' p x0 y0 x1 y1 x2 y2 := by
  obtain ⟨h0, h1, h2, h3, h4, h5, hl⟩ := h
  exact ⟨(hb.cell (p := ⟨p, 0, none⟩) hl).trans h0, (hb.cell (p := ⟨p, 1, none⟩) hl).trans h1, (hb.cell (p := ⟨p, 2, none⟩) hl).trans h2, (hb.cell (p := ⟨p, 3, none⟩) hl).trans h3, (hb.cell (p := ⟨p, 4, none⟩) hl).trans h4, (hb.cell (p := ⟨p, 5, none⟩) hl).trans h5, Nat.lt_of_lt_of_le hl hb.size⟩
def Nums3 (w : World) (p : Nat) (x0 x1 x2 : Int) : Prop := w.cell? ⟨p, 0, none⟩ = some (.int .i64 x0) ∧ w.cell? ⟨p, 1, none⟩ = some (.int .i64 x1) ∧ w.cell? ⟨p, 2, none⟩ = some (.int .i64 x2) ∧ p < w.heap.size
theorem Nums3.below {w w' : World} {p : Nat} {x0 x1 x2 : Int} (h : Nums3 w p x0 x1 x2) (hb : Below w.heap.size w w') : Nums3 w' p x0 x1 x2 := by
  obtain ⟨h0, h1, h2, hl⟩ := h
  exact ⟨(hb.cell (p := ⟨p, 0, none⟩) hl).trans h0, (hb.cell (p := ⟨p, 1, none⟩) hl).trans h1, (hb.cell (p := ⟨p, 2, none⟩) hl).trans h2, Nat.lt_of_lt_of_le hl hb.size⟩
def Sm (x : Int) : Prop := -1152921504606846976 ≤ x ∧ x ≤ 1152921504606846976

theorem points_any (x0 y0 x1 y1 x2 y2 : Int) (w : World) :
    Calls Try.prog 137 #[.agg #[.int .i64 x0, .int .i64 y0, .int .i64 x1, .int .i64 y1, .int .i64 x2, .int .i64 y2]] w fun e w' => ∃ g : Nat, e = .returned (.slice (some ⟨g, 0, none⟩) 3 3) ∧ Pts3 w' g x0 y0 x1 y1 x2 y2 ∧ w.heap.size ≤ g ∧ Below w.heap.size w w' := by
  go_enter Try.func137, Try.ntmps137
  go_wp2_with fail
  go_ret
  refine ⟨_, rfl, ?_, ?_, ?_⟩
  · refine ⟨?_, ?_, ?_, ?_, ?_, ?_, ?_⟩
    all_goals first | (go_simp; done) | (simp; done) | (simp <;> omega) | rfl
  · simp
  · iterate 2 (refine Below.alloc ?_ (by first | exact Nat.le_refl _ | (simp <;> omega)) _)
    exact Below.refl _ _

set_option maxHeartbeats 8000000 in
theorem combine_any (p q c : Nat) (x0 y0 x1 y1 x2 y2 b0 b1 b2 : Int) (w : World) (hP : Pts3 w p x0 y0 x1 y1 x2 y2) (hN : Nums3 w q b0 b1 b2)
    (m0 : Sm (x0 * b0)) (m1 : Sm (x1 * b1)) (m2 : Sm (x2 * b2)) (n0 : Sm (y0 * b0)) (n1 : Sm (y1 * b1)) (n2 : Sm (y2 * b2)) :
    Calls Try.prog 34 #[.slice (some ⟨p, 0, none⟩) 3 c, .slice (some ⟨q, 0, none⟩) 3 3] w fun e w' => e = .returned (.agg #[.int .i64 (x0 * b0 + x1 * b1 + x2 * b2), .int .i64 (y0 * b0 + y1 * b1 + y2 * b2)]) ∧ Below w.heap.size w w' := by
  have hpl := hP.2.2.2.2.2.2
  have hql := hN.2.2.2
  unfold Sm at m0 m1 m2 n0 n1 n2
  replace hP := Lib.hid hP
  replace hN := Lib.hid hN
  have hnew := heap_new2 w (.cells #[.int .i64 0, .int .i64 0] 24 (0, 0)) (.cells #[.int .i64 0, .int .i64 0] 24 (0, 0))
  have hB0 : Below w.heap.size w ((w.alloc (.cells #[.int .i64 0, .int .i64 0] 24 (0, 0))).alloc (.cells #[.int .i64 0, .int .i64 0] 24 (0, 0))) := Go.Joins.below_alloc2 _ _ _
  have r0 : PB ((w.alloc (.cells #[.int .i64 0, .int .i64 0] 24 (0, 0))).alloc (.cells #[.int .i64 0, .int .i64 0] 24 (0, 0))) w.heap.size 0 0 := hnew.1
  have s0 : PB ((w.alloc (.cells #[.int .i64 0, .int .i64 0] 24 (0, 0))).alloc (.cells #[.int .i64 0, .int .i64 0] 24 (0, 0))) (w.heap.size + 1) 0 0 := hnew.2
  clear hnew
  go_enter Try.func34, Try.ntmps34
  go_wp2_with fail
  generalize ((w.alloc (.cells #[.int .i64 0, .int .i64 0] 24 (0, 0))).alloc (.cells #[.int .i64 0, .int .i64 0] 24 (0, 0))) = W0 at *
  go_loopw [10] (fun i wr => ∃ (k : Nat) (sx sy : Int), i = .int .i64 k ∧ k ≤ 3 ∧ (sx = if k = 0 then 0 else if k = 1 then x0 * b0 else if k = 2 then x0 * b0 + x1 * b1 else x0 * b0 + x1 * b1 + x2 * b2) ∧ (sy = if k = 0 then 0 else if k = 1 then y0 * b0 else if k = 2 then y0 * b0 + y1 * b1 else y0 * b0 + y1 * b1 + y2 * b2) ∧ PB wr w.heap.size 0 0 ∧ PB wr (w.heap.size + 1) sx sy ∧ Below w.heap.size w wr) (fun i wr => 3 - (intOf i).toNat)
  case atStart => exact ⟨0, 0, 0, rfl, Nat.zero_le _, rfl, rfl, r0, s0, hB0⟩
  case round =>
    obtain ⟨k, sx, sy, rfl, hk, hsx, hsy, hr, hs, hbel⟩ := hrel
    replace hr := Lib.hid hr
    rcases (show k = 0 ∨ k = 1 ∨ k = 2 ∨ k = 3 by omega) with rfl | rfl | rfl | rfl
    · replace hsx : sx = 0 := hsx
      replace hsy : sy = 0 := hsy
      have hki : (0 : Int) ≤ (0 : Int) ∧ (0 : Int) < 3 := by omega
      have cP := hP.out.below hbel
      have cN := hN.out.below hbel
      have a0 : wr.cell? ⟨p, 0, none⟩ = some (.int .i64 x0) := by unfold Pts3 at cP; simp only [cP]
      have a1 : wr.cell? ⟨p, 1, none⟩ = some (.int .i64 y0) := by unfold Pts3 at cP; simp only [cP]
      have hpw := cP.2.2.2.2.2.2
      have hz := hbel.size
      clear cP cN
      go_wp2_with fail
      have hV : Below w.heap.size w (wr.alloc (.cells #[.int .i64 x0, .int .i64 y0] 24 (0, 0))) := hbel.alloc hz _
      have hsV : PB (wr.alloc (.cells #[.int .i64 x0, .int .i64 y0] 24 (0, 0))) (w.heap.size + 1) sx sy := hs.alloc _
      have hrV := Lib.hid (show PB (wr.alloc (.cells #[.int .i64 x0, .int .i64 y0] 24 (0, 0))) w.heap.size 0 0 from hr.out.alloc _)
      have htV : PB (wr.alloc (.cells #[.int .i64 x0, .int .i64 y0] 24 (0, 0))) wr.heap.size x0 y0 := heap_alloc_new wr _
      have hst : w.heap.size + 1 < wr.heap.size := hs.cells.2.2.2
      clear hs hr a0 a1 hbel hpw
      generalize wr.alloc (.cells #[.int .i64 x0, .int .i64 y0] 24 (0, 0)) = V at *
      obtain ⟨t, ht⟩ : ∃ t, t = wr.heap.size := ⟨_, rfl⟩
      rw [← ht] at htV hst ⊢
      clear ht
      obtain ⟨u0, u1, uf, ul⟩ := hsV.cells
      obtain ⟨t0, t1, tf, tl⟩ := htV.cells
      have cN := hN.out.below hV
      have d0 : V.cell? ⟨q, 0, none⟩ = some (.int .i64 b0) := by unfold Nums3 at cN; simp only [cN]
      have hqV := cN.2.2.2
      have f1 : IntKind.i64.wrap (x0 * b0) = x0 * b0 := wi (by omega)
      have f2 : IntKind.i64.wrap (sx + x0 * b0) = sx + x0 * b0 := wi (by omega)
      have f3 : IntKind.i64.wrap (y0 * b0) = y0 * b0 := wi (by omega)
      have f4 : IntKind.i64.wrap (sy + y0 * b0) = sy + y0 * b0 := wi (by omega)
      replace hsx := Lib.hid hsx
      replace hsy := Lib.hid hsy
      clear cN
      go_still_tail 11, (by kernel_rfl)
      replace hsV := hsV.drew
      replace htV := htV.drew
      replace hV := hV.drew
      replace hrV := Lib.hid hrV.out.drew
      clear u0 u1 uf ul t0 t1 tf tl d0 hqV
      change wpList _ _ _ _ _ V.drew
      generalize V.drew = V2 at *
      obtain ⟨u0, u1, uf, ul⟩ := hsV.cells
      go_wp2_with fail
      replace htV : PB (V2.setCell ⟨w.heap.size + 1, 0, none⟩ (.int .i64 (sx + x0 * b0))) t x0 y0 := htV.off (by omega)
      replace hsV : PB (V2.setCell ⟨w.heap.size + 1, 0, none⟩ (.int .i64 (sx + x0 * b0))) (w.heap.size + 1) (sx + x0 * b0) sy := hsV.put0 _
      replace hV : Below w.heap.size w (V2.setCell ⟨w.heap.size + 1, 0, none⟩ (.int .i64 (sx + x0 * b0))) := hV.setCell (p := ⟨w.heap.size + 1, 0, none⟩) (by show w.heap.size ≤ w.heap.size + 1; omega) _
      replace hrV : Hid (PB (V2.setCell ⟨w.heap.size + 1, 0, none⟩ (.int .i64 (sx + x0 * b0))) w.heap.size 0 0) := hrV.out.off (by omega)
      clear u0 u1 uf ul
      generalize V2.setCell ⟨w.heap.size + 1, 0, none⟩ (.int .i64 (sx + x0 * b0)) = V3 at *
      obtain ⟨u0, u1, uf, ul⟩ := hsV.cells
      obtain ⟨t0, t1, tf, tl⟩ := htV.cells
      have cN := hN.out.below hV
      have d0 : V3.cell? ⟨q, 0, none⟩ = some (.int .i64 b0) := by unfold Nums3 at cN; simp only [cN]
      have hqV := cN.2.2.2
      clear cN
      go_still_tail 11, (by kernel_rfl)
      replace hsV := hsV.drew
      replace hV := hV.drew
      replace hrV := Lib.hid hrV.out.drew
      clear u0 u1 uf ul t0 t1 tf tl d0 hqV htV
      change wpList _ _ _ _ _ V3.drew
      generalize V3.drew = V4 at *
      obtain ⟨u0, u1, uf, ul⟩ := hsV.cells
      go_wp2_with fail
      go_roundw
      case rel => exact ⟨1, sx + x0 * b0, sy + y0 * b0, rfl, by omega, by rw [hsx.out]; simp, by rw [hsy.out]; simp, hrV.out.off (by omega), hsV.put1 _, hV.setCell (p := ⟨w.heap.size + 1, 1, none⟩) (by show w.heap.size ≤ w.heap.size + 1; omega) _⟩
      case measure => simp [intOf]
    · replace hsx : sx = x0 * b0 := hsx
      replace hsy : sy = y0 * b0 := hsy
      have hki : (0 : Int) ≤ (1 : Int) ∧ (1 : Int) < 3 := by omega
      have cP := hP.out.below hbel
      have cN := hN.out.below hbel
      have a0 : wr.cell? ⟨p, 2, none⟩ = some (.int .i64 x1) := by unfold Pts3 at cP; simp only [cP]
      have a1 : wr.cell? ⟨p, 3, none⟩ = some (.int .i64 y1) := by unfold Pts3 at cP; simp only [cP]
      have hpw := cP.2.2.2.2.2.2
      have hz := hbel.size
      clear cP cN
      go_wp2_with fail
      have hV : Below w.heap.size w (wr.alloc (.cells #[.int .i64 x1, .int .i64 y1] 24 (0, 0))) := hbel.alloc hz _
      have hsV : PB (wr.alloc (.cells #[.int .i64 x1, .int .i64 y1] 24 (0, 0))) (w.heap.size + 1) sx sy := hs.alloc _
      have hrV := Lib.hid (show PB (wr.alloc (.cells #[.int .i64 x1, .int .i64 y1] 24 (0, 0))) w.heap.size 0 0 from hr.out.alloc _)
      have htV : PB (wr.alloc (.cells #[.int .i64 x1, .int .i64 y1] 24 (0, 0))) wr.heap.size x1 y1 := heap_alloc_new wr _
      have hst : w.heap.size + 1 < wr.heap.size := hs.cells.2.2.2
      clear hs hr a0 a1 hbel hpw
      generalize wr.alloc (.cells #[.int .i64 x1, .int .i64 y1] 24 (0, 0)) = V at *
      obtain ⟨t, ht⟩ : ∃ t, t = wr.heap.size := ⟨_, rfl⟩
      rw [← ht] at htV hst ⊢
      clear ht
      obtain ⟨u0, u1, uf, ul⟩ := hsV.cells
      obtain ⟨t0, t1, tf, tl⟩ := htV.cells
      have cN := hN.out.below hV
      have d0 : V.cell? ⟨q, 1, none⟩ = some (.int .i64 b1) := by unfold Nums3 at cN; simp only [cN]
      have hqV := cN.2.2.2
      have f1 : IntKind.i64.wrap (x1 * b1) = x1 * b1 := wi (by omega)
      have f2 : IntKind.i64.wrap (sx + x1 * b1) = sx + x1 * b1 := wi (by omega)
      have f3 : IntKind.i64.wrap (y1 * b1) = y1 * b1 := wi (by omega)
      have f4 : IntKind.i64.wrap (sy + y1 * b1) = sy + y1 * b1 := wi (by omega)
      replace hsx := Lib.hid hsx
      replace hsy := Lib.hid hsy
      clear cN
      go_still_tail 11, (by kernel_rfl)
      replace hsV := hsV.drew
      replace htV := htV.drew
      replace hV := hV.drew
      replace hrV := Lib.hid hrV.out.drew
      clear u0 u1 uf ul t0 t1 tf tl d0 hqV
      change wpList _ _ _ _ _ V.drew
      generalize V.drew = V2 at *
      obtain ⟨u0, u1, uf, ul⟩ := hsV.cells
      go_wp2_with fail
      replace htV : PB (V2.setCell ⟨w.heap.size + 1, 0, none⟩ (.int .i64 (sx + x1 * b1))) t x1 y1 := htV.off (by omega)
      replace hsV : PB (V2.setCell ⟨w.heap.size + 1, 0, none⟩ (.int .i64 (sx + x1 * b1))) (w.heap.size + 1) (sx + x1 * b1) sy := hsV.put0 _
      replace hV : Below w.heap.size w (V2.setCell ⟨w.heap.size + 1, 0, none⟩ (.int .i64 (sx + x1 * b1))) := hV.setCell (p := ⟨w.heap.size + 1, 0, none⟩) (by show w.heap.size ≤ w.heap.size + 1; omega) _
      replace hrV : Hid (PB (V2.setCell ⟨w.heap.size + 1, 0, none⟩ (.int .i64 (sx + x1 * b1))) w.heap.size 0 0) := hrV.out.off (by omega)
      clear u0 u1 uf ul
      generalize V2.setCell ⟨w.heap.size + 1, 0, none⟩ (.int .i64 (sx + x1 * b1)) = V3 at *
      obtain ⟨u0, u1, uf, ul⟩ := hsV.cells
      obtain ⟨t0, t1, tf, tl⟩ := htV.cells
      have cN := hN.out.below hV
      have d0 : V3.cell? ⟨q, 1, none⟩ = some (.int .i64 b1) := by unfold Nums3 at cN; simp only [cN]
      have hqV := cN.2.2.2
      clear cN
      go_still_tail 11, (by kernel_rfl)
      replace hsV := hsV.drew
      replace hV := hV.drew
      replace hrV := Lib.hid hrV.out.drew
      clear u0 u1 uf ul t0 t1 tf tl d0 hqV htV
      change wpList _ _ _ _ _ V3.drew
      generalize V3.drew = V4 at *
      obtain ⟨u0, u1, uf, ul⟩ := hsV.cells
      go_wp2_with fail
      go_roundw
      case rel => exact ⟨2, sx + x1 * b1, sy + y1 * b1, rfl, by omega, by rw [hsx.out]; simp, by rw [hsy.out]; simp, hrV.out.off (by omega), hsV.put1 _, hV.setCell (p := ⟨w.heap.size + 1, 1, none⟩) (by show w.heap.size ≤ w.heap.size + 1; omega) _⟩
      case measure => simp [intOf]
    · replace hsx : sx = x0 * b0 + x1 * b1 := hsx
      replace hsy : sy = y0 * b0 + y1 * b1 := hsy
      have hki : (0 : Int) ≤ (2 : Int) ∧ (2 : Int) < 3 := by omega
      have cP := hP.out.below hbel
      have cN := hN.out.below hbel
      have a0 : wr.cell? ⟨p, 4, none⟩ = some (.int .i64 x2) := by unfold Pts3 at cP; simp only [cP]
      have a1 : wr.cell? ⟨p, 5, none⟩ = some (.int .i64 y2) := by unfold Pts3 at cP; simp only [cP]
      have hpw := cP.2.2.2.2.2.2
      have hz := hbel.size
      clear cP cN
      go_wp2_with fail
      have hV : Below w.heap.size w (wr.alloc (.cells #[.int .i64 x2, .int .i64 y2] 24 (0, 0))) := hbel.alloc hz _
      have hsV : PB (wr.alloc (.cells #[.int .i64 x2, .int .i64 y2] 24 (0, 0))) (w.heap.size + 1) sx sy := hs.alloc _
      have hrV := Lib.hid (show PB (wr.alloc (.cells #[.int .i64 x2, .int .i64 y2] 24 (0, 0))) w.heap.size 0 0 from hr.out.alloc _)
      have htV : PB (wr.alloc (.cells #[.int .i64 x2, .int .i64 y2] 24 (0, 0))) wr.heap.size x2 y2 := heap_alloc_new wr _
      have hst : w.heap.size + 1 < wr.heap.size := hs.cells.2.2.2
      clear hs hr a0 a1 hbel hpw
      generalize wr.alloc (.cells #[.int .i64 x2, .int .i64 y2] 24 (0, 0)) = V at *
      obtain ⟨t, ht⟩ : ∃ t, t = wr.heap.size := ⟨_, rfl⟩
      rw [← ht] at htV hst ⊢
      clear ht
      obtain ⟨u0, u1, uf, ul⟩ := hsV.cells
      obtain ⟨t0, t1, tf, tl⟩ := htV.cells
      have cN := hN.out.below hV
      have d0 : V.cell? ⟨q, 2, none⟩ = some (.int .i64 b2) := by unfold Nums3 at cN; simp only [cN]
      have hqV := cN.2.2.2
      have f1 : IntKind.i64.wrap (x2 * b2) = x2 * b2 := wi (by omega)
      have f2 : IntKind.i64.wrap (sx + x2 * b2) = sx + x2 * b2 := wi (by omega)
      have f3 : IntKind.i64.wrap (y2 * b2) = y2 * b2 := wi (by omega)
      have f4 : IntKind.i64.wrap (sy + y2 * b2) = sy + y2 * b2 := wi (by omega)
      replace hsx := Lib.hid hsx
      replace hsy := Lib.hid hsy
      clear cN
      go_still_tail 11, (by kernel_rfl)
      replace hsV := hsV.drew
      replace htV := htV.drew
      replace hV := hV.drew
      replace hrV := Lib.hid hrV.out.drew
      clear u0 u1 uf ul t0 t1 tf tl d0 hqV
      change wpList _ _ _ _ _ V.drew
      generalize V.drew = V2 at *
      obtain ⟨u0, u1, uf, ul⟩ := hsV.cells
      go_wp2_with fail
      replace htV : PB (V2.setCell ⟨w.heap.size + 1, 0, none⟩ (.int .i64 (sx + x2 * b2))) t x2 y2 := htV.off (by omega)
      replace hsV : PB (V2.setCell ⟨w.heap.size + 1, 0, none⟩ (.int .i64 (sx + x2 * b2))) (w.heap.size + 1) (sx + x2 * b2) sy := hsV.put0 _
      replace hV : Below w.heap.size w (V2.setCell ⟨w.heap.size + 1, 0, none⟩ (.int .i64 (sx + x2 * b2))) := hV.setCell (p := ⟨w.heap.size + 1, 0, none⟩) (by show w.heap.size ≤ w.heap.size + 1; omega) _
      replace hrV : Hid (PB (V2.setCell ⟨w.heap.size + 1, 0, none⟩ (.int .i64 (sx + x2 * b2))) w.heap.size 0 0) := hrV.out.off (by omega)
      clear u0 u1 uf ul
      generalize V2.setCell ⟨w.heap.size + 1, 0, none⟩ (.int .i64 (sx + x2 * b2)) = V3 at *
      obtain ⟨u0, u1, uf, ul⟩ := hsV.cells
      obtain ⟨t0, t1, tf, tl⟩ := htV.cells
      have cN := hN.out.below hV
      have d0 : V3.cell? ⟨q, 2, none⟩ = some (.int .i64 b2) := by unfold Nums3 at cN; simp only [cN]
      have hqV := cN.2.2.2
      clear cN
      go_still_tail 11, (by kernel_rfl)
      replace hsV := hsV.drew
      replace hV := hV.drew
      replace hrV := Lib.hid hrV.out.drew
      clear u0 u1 uf ul t0 t1 tf tl d0 hqV htV
      change wpList _ _ _ _ _ V3.drew
      generalize V3.drew = V4 at *
      obtain ⟨u0, u1, uf, ul⟩ := hsV.cells
      go_wp2_with fail
      go_roundw
      case rel => exact ⟨3, sx + x2 * b2, sy + y2 * b2, rfl, by omega, by rw [hsx.out]; simp, by rw [hsy.out]; simp, hrV.out.off (by omega), hsV.put1 _, hV.setCell (p := ⟨w.heap.size + 1, 1, none⟩) (by show w.heap.size ≤ w.heap.size + 1; omega) _⟩
      case measure => simp [intOf]
    · replace hsx : sx = x0 * b0 + x1 * b1 + x2 * b2 := hsx
      replace hsy : sy = y0 * b0 + y1 * b1 + y2 * b2 := hsy
      obtain ⟨u0, u1, uf, ul⟩ := hs.cells
      obtain ⟨v0, v1, vf, vl⟩ := hr.out.cells
      replace hsx := Lib.hid hsx
      replace hsy := Lib.hid hsy
      go_wp2_with fail
      refine bodyPost_ret (v := .agg #[.int .i64 sx, .int .i64 sy]) (by simp [results, Try.results34, go_sem, v0, v1]) rfl ⟨by rw [hsx.out, hsy.out], ?_⟩
      exact (hbel.setCell (p := ⟨w.heap.size, 0, none⟩) (Nat.le_refl _) _).setCell (p := ⟨w.heap.size, 1, none⟩) (Nat.le_refl _) _
end Go.Proofs.Ytgelkdcggnffeaa

