/- Corners of a path: both sides, walked. Conditions: as each states. -/
import Derived.BigRegion
import Derived.Lib.QuietBelow
import Derived.Deep.RegionHeld3
import Derived.Test.YtmpnefjljmdflaaFg16
import Derived.Test.YtmpnefjljmdflaaFg22
namespace Go.Proofs.Ytmpnefjljmdflaa
open Go.RowKit
set_option linter.unusedVariables false
set_option maxRecDepth 100000

theorem l11Dot_any (ux uy vx vy : Int) (w : World) (h1 : -524288 ≤ ux ∧ ux ≤ 524288) (h2 : -524288 ≤ uy ∧ uy ≤ 524288) (h3 : -524288 ≤ vx ∧ vx ≤ 524288) (h4 : -524288 ≤ vy ∧ vy ≤ 524288) :
    Calls Try.prog 151 #[.agg #[.int .i64 ux, .int .i64 uy], .agg #[.int .i64 vx, .int .i64 vy]] w fun e w' => e = .returned (.int .i64 (ux * vx + uy * vy)) ∧ Below w.heap.size w w' := by
  obtain ⟨c1, c2⟩ := df_bd (x := ux) (y := vx) (u := 0) (v := 0) (by omega) (by omega)
  obtain ⟨c3, c4⟩ := df_bd (x := uy) (y := vy) (u := 0) (v := 0) (by omega) (by omega)
  go_enter Try.func151, Try.ntmps151
  go_wp2_with fail
  go_ret
  exact ⟨rfl, Go.Joins.below_alloc2 _ _ _⟩

/-- the numbers of a corner -/
theorem corn_bd {ax ay px py bx b : Int} (ha : ptOk ax ay = true) (hp : ptOk px py = true) (hb : ptOk bx b = true) :
    (-524288 ≤ px - ax ∧ px - ax ≤ 524288) ∧ (-524288 ≤ py - ay ∧ py - ay ≤ 524288) ∧ (-524288 ≤ bx - px ∧ bx - px ≤ 524288) ∧ (-524288 ≤ b - py ∧ b - py ≤ 524288) := by
  have := pt_bd ha
  have := pt_bd hp
  have := pt_bd hb
  omega

set_option maxHeartbeats 2000000 in
theorem l16Corner_any (ax ay px py bx b : Int) (v : Bool) (hv : v = cornB (ax, ay) (px, py) (bx, b)) (w : World) (ha : ptOk ax ay = true) (hp : ptOk px py = true) (hb : ptOk bx b = true) :
    Calls Try.prog 117 #[.agg #[.int .i64 ax, .int .i64 ay], .agg #[.int .i64 px, .int .i64 py], .agg #[.int .i64 bx, .int .i64 b]] w fun e w' => e = .returned (.bool v) ∧ Below w.heap.size w w' := by
  obtain ⟨d1, d2, d3, d4⟩ := corn_bd ha hp hb
  unfold cornB at hv
  simp only at hv
  obtain ⟨X, hX⟩ : ∃ X, X = px - ax := ⟨_, rfl⟩
  obtain ⟨Y, hY⟩ : ∃ Y, Y = py - ay := ⟨_, rfl⟩
  obtain ⟨Z, hZ⟩ : ∃ Z, Z = bx - px := ⟨_, rfl⟩
  obtain ⟨U, hU⟩ : ∃ U, U = b - py := ⟨_, rfl⟩
  have e1 : IntKind.i64.wrap (px - ax) = X := by rw [wi (by omega), hX]
  have e2 : IntKind.i64.wrap (py - ay) = Y := by rw [wi (by omega), hY]
  have e3 : IntKind.i64.wrap (bx - px) = Z := by rw [wi (by omega), hZ]
  have e4 : IntKind.i64.wrap (b - py) = U := by rw [wi (by omega), hU]
  rw [← hX] at d1 hv
  rw [← hY] at d2 hv
  rw [← hZ] at d3 hv
  rw [← hU] at d4 hv
  replace hX := Lib.hid hX
  replace hY := Lib.hid hY
  replace hZ := Lib.hid hZ
  replace hU := Lib.hid hU
  obtain ⟨c1, c2⟩ := df_bd (x := X) (y := U) (u := 0) (v := 0) (by omega) (by omega)
  obtain ⟨c3, c4⟩ := df_bd (x := Y) (y := Z) (u := 0) (v := 0) (by omega) (by omega)
  obtain ⟨c5, c6⟩ := df_bd (x := X) (y := Z) (u := 0) (v := 0) (by omega) (by omega)
  obtain ⟨c7, c8⟩ := df_bd (x := Y) (y := U) (u := 0) (v := 0) (by omega) (by omega)
  have m1 : IntKind.i64.wrap (X * U) = X * U := wi (by omega)
  have m2 : IntKind.i64.wrap (Y * Z) = Y * Z := wi (by omega)
  obtain ⟨C, hC⟩ : ∃ C, C = X * U - Y * Z := ⟨_, rfl⟩
  have hCb : -549755813888 ≤ C ∧ C ≤ 549755813888 := by omega
  obtain ⟨D, hD⟩ : ∃ D, D = X * Z + Y * U := ⟨_, rfl⟩
  have hDb : -549755813888 ≤ D ∧ D ≤ 549755813888 := by omega
  rw [← hC] at hv
  have m3 : IntKind.i64.wrap (X * U - Y * Z) = C := by rw [wi (by omega), hC]
  rw [← hD] at hv
  have m4 : IntKind.i64.wrap (-C) = -C := wi (by omega)
  obtain ⟨M, hM⟩ : ∃ M, M = imax C (-C) := ⟨_, rfl⟩
  have hMb : 0 ≤ M ∧ M ≤ 549755813888 := by rw [hM]; unfold imax; split <;> omega
  have m5 : IntKind.i64.wrap (2 * M) = 2 * M := wi (by omega)
  rw [← hM] at hv
  have hdot := Lib.hid (fun W => l11Dot_any X Y Z U W d1 d2 d3 d4)
  rw [← hD] at hdot
  have hmx := Lib.hid (fun W => l00Max_any C (-C) W)
  rw [← hM] at hmx
  replace hC := Lib.hid hC
  replace hD := Lib.hid hD
  replace hM := Lib.hid hM
  clear c1 c2 c3 c4 c5 c6 c7 c8 ha hp hb
  go_enter Try.func117, Try.ntmps117
  go_wp2_with fail
  have hB0 : Below w.heap.size w (((((w.alloc (.cells #[.int .i64 ax, .int .i64 ay] 24 (0, 0))).alloc (.cells #[.int .i64 px, .int .i64 py] 24 (0, 0))).alloc (.cells #[.int .i64 bx, .int .i64 b] 24 (0, 0))).alloc (.cells #[.int .i64 X, .int .i64 Y] 24 (0, 0))).alloc (.cells #[.int .i64 Z, .int .i64 U] 24 (0, 0))) :=
    (Go.Joins.below_alloc2 w _ _).alloc (by simp; omega) _ |>.alloc (by simp; omega) _ |>.alloc (by simp; omega) _
  have p7 : PB (((((w.alloc (.cells #[.int .i64 ax, .int .i64 ay] 24 (0, 0))).alloc (.cells #[.int .i64 px, .int .i64 py] 24 (0, 0))).alloc (.cells #[.int .i64 bx, .int .i64 b] 24 (0, 0))).alloc (.cells #[.int .i64 X, .int .i64 Y] 24 (0, 0))).alloc (.cells #[.int .i64 Z, .int .i64 U] 24 (0, 0))) (w.heap.size + 3) X Y := by
    have h := heap_new2 (((w.alloc (.cells #[.int .i64 ax, .int .i64 ay] 24 (0, 0))).alloc (.cells #[.int .i64 px, .int .i64 py] 24 (0, 0))).alloc (.cells #[.int .i64 bx, .int .i64 b] 24 (0, 0))) (.cells #[.int .i64 X, .int .i64 Y] 24 (0, 0)) (.cells #[.int .i64 Z, .int .i64 U] 24 (0, 0))
    have e : (((w.alloc (.cells #[.int .i64 ax, .int .i64 ay] 24 (0, 0))).alloc (.cells #[.int .i64 px, .int .i64 py] 24 (0, 0))).alloc (.cells #[.int .i64 bx, .int .i64 b] 24 (0, 0))).heap.size = w.heap.size + 3 := by simp
    rw [e] at h; exact h.1
  have p8 : PB (((((w.alloc (.cells #[.int .i64 ax, .int .i64 ay] 24 (0, 0))).alloc (.cells #[.int .i64 px, .int .i64 py] 24 (0, 0))).alloc (.cells #[.int .i64 bx, .int .i64 b] 24 (0, 0))).alloc (.cells #[.int .i64 X, .int .i64 Y] 24 (0, 0))).alloc (.cells #[.int .i64 Z, .int .i64 U] 24 (0, 0))) (w.heap.size + 4) Z U := by
    have h := heap_new2 (((w.alloc (.cells #[.int .i64 ax, .int .i64 ay] 24 (0, 0))).alloc (.cells #[.int .i64 px, .int .i64 py] 24 (0, 0))).alloc (.cells #[.int .i64 bx, .int .i64 b] 24 (0, 0))) (.cells #[.int .i64 X, .int .i64 Y] 24 (0, 0)) (.cells #[.int .i64 Z, .int .i64 U] 24 (0, 0))
    have e : (((w.alloc (.cells #[.int .i64 ax, .int .i64 ay] 24 (0, 0))).alloc (.cells #[.int .i64 px, .int .i64 py] 24 (0, 0))).alloc (.cells #[.int .i64 bx, .int .i64 b] 24 (0, 0))).heap.size = w.heap.size + 3 := by simp
    rw [e] at h; exact h.2
  generalize (((((w.alloc (.cells #[.int .i64 ax, .int .i64 ay] 24 (0, 0))).alloc (.cells #[.int .i64 px, .int .i64 py] 24 (0, 0))).alloc (.cells #[.int .i64 bx, .int .i64 b] 24 (0, 0))).alloc (.cells #[.int .i64 X, .int .i64 Y] 24 (0, 0))).alloc (.cells #[.int .i64 Z, .int .i64 U] 24 (0, 0))) = V at *
  obtain ⟨x0, x1, xf, xl⟩ := p7.cells
  obtain ⟨y0, y1, yf, yl⟩ := p8.cells
  have cA := Lib.hid (fun dr os => Calls.regrown_of ((hmx.out (Go.Sort.grow (redrawn V dr) os)).mono fun e w' ⟨h1, h2⟩ => ⟨h1, h2 ▸ Below.refl _ _⟩))
  have cB := Lib.hid (fun dr os => Calls.regrown_of (hdot.out (Go.Sort.grow (redrawn V dr) os)))
  have g0 : ∀ dr os, (Go.Sort.grow (redrawn V dr) os).cell? ⟨w.heap.size + 3, 0, none⟩ = some (.int .i64 X) := cell_regrown x0
  have g1 : ∀ dr os, (Go.Sort.grow (redrawn V dr) os).cell? ⟨w.heap.size + 3, 1, none⟩ = some (.int .i64 Y) := cell_regrown x1
  have g2 : ∀ dr os, (Go.Sort.grow (redrawn V dr) os).cell? ⟨w.heap.size + 4, 0, none⟩ = some (.int .i64 Z) := cell_regrown y0
  have g3 : ∀ dr os, (Go.Sort.grow (redrawn V dr) os).cell? ⟨w.heap.size + 4, 1, none⟩ = some (.int .i64 U) := cell_regrown y1
  clear p7 p8 xf yf x0 x1 y0 y1 hmx hdot e1 e2 e3 e4 m1 m2 m3 d1 d2 d3 d4
  refine wp_region_quiet_below (by kernel_rfl) (by kernel_rfl) ?_
  repeat (go_big_quiet_step (first | exact cA.out _ _ | exact cB.out _ _))
  refine wpQuiet_nil ?_
  intro _ hw'
  obtain ⟨⟨dq, osq⟩, hw''⟩ := hw'
  subst hw''
  have hB1 := hB0.trans ((below_regrown V dq osq).mono hB0.size)
  generalize Go.Sort.grow (redrawn V dq) osq = w1 at hB1 ⊢
  clear g0 g1 g2 g3 cA cB
  replace hv := Lib.hid hv
  go_wp2_with fail
  go_ret
  exact ⟨ret_bool (by rw [hv.out]), hB1⟩

end Go.Proofs.Ytmpnefjljmdflaa

/- Corners of a path: the program's side, walked. Conditions: as each states. -/
namespace Go.Proofs.Ytmpnefjljmdflaa
open Go.RowKit
set_option linter.unusedVariables false
set_option maxRecDepth 100000

set_option maxHeartbeats 2000000 in
theorem isCorner_any (ax ay px py bx b : Int) (v : Bool) (hv : v = cornB (ax, ay) (px, py) (bx, b)) (w : World) (ha : ptOk ax ay = true) (hp : ptOk px py = true) (hb : ptOk bx b = true) :
    Calls Try.prog 72 #[.agg #[.int .i64 ax, .int .i64 ay], .agg #[.int .i64 px, .int .i64 py], .agg #[.int .i64 bx, .int .i64 b]] w fun e w' => e = .returned (.bool v) ∧ Below w.heap.size w w' := by
  obtain ⟨d1, d2, d3, d4⟩ := corn_bd ha hp hb
  unfold cornB at hv
  simp only at hv
  obtain ⟨X, hX⟩ : ∃ X, X = px - ax := ⟨_, rfl⟩
  obtain ⟨Y, hY⟩ : ∃ Y, Y = py - ay := ⟨_, rfl⟩
  obtain ⟨Z, hZ⟩ : ∃ Z, Z = bx - px := ⟨_, rfl⟩
  obtain ⟨U, hU⟩ : ∃ U, U = b - py := ⟨_, rfl⟩
  have e1 : IntKind.i64.wrap (px - ax) = X := by rw [wi (by omega), hX]
  have e2 : IntKind.i64.wrap (py - ay) = Y := by rw [wi (by omega), hY]
  have e3 : IntKind.i64.wrap (bx - px) = Z := by rw [wi (by omega), hZ]
  have e4 : IntKind.i64.wrap (b - py) = U := by rw [wi (by omega), hU]
  rw [← hX] at d1 hv
  rw [← hY] at d2 hv
  rw [← hZ] at d3 hv
  rw [← hU] at d4 hv
  replace hX := Lib.hid hX
  replace hY := Lib.hid hY
  replace hZ := Lib.hid hZ
  replace hU := Lib.hid hU
  obtain ⟨c1, c2⟩ := df_bd (x := X) (y := U) (u := 0) (v := 0) (by omega) (by omega)
  obtain ⟨c3, c4⟩ := df_bd (x := Y) (y := Z) (u := 0) (v := 0) (by omega) (by omega)
  obtain ⟨c5, c6⟩ := df_bd (x := X) (y := Z) (u := 0) (v := 0) (by omega) (by omega)
  obtain ⟨c7, c8⟩ := df_bd (x := Y) (y := U) (u := 0) (v := 0) (by omega) (by omega)
  have m1 : IntKind.i64.wrap (X * U) = X * U := wi (by omega)
  have m2 : IntKind.i64.wrap (Y * Z) = Y * Z := wi (by omega)
  obtain ⟨C, hC⟩ : ∃ C, C = X * U - Y * Z := ⟨_, rfl⟩
  have hCb : -549755813888 ≤ C ∧ C ≤ 549755813888 := by omega
  obtain ⟨D, hD⟩ : ∃ D, D = X * Z + Y * U := ⟨_, rfl⟩
  have hDb : -549755813888 ≤ D ∧ D ≤ 549755813888 := by omega
  rw [← hC] at hv
  have m3 : IntKind.i64.wrap (X * U - Y * Z) = C := by rw [wi (by omega), hC]
  rw [← hD] at hv
  have m4 : IntKind.i64.wrap (-C) = -C := wi (by omega)
  obtain ⟨M, hM⟩ : ∃ M, M = imax C (-C) := ⟨_, rfl⟩
  have hMb : 0 ≤ M ∧ M ≤ 549755813888 := by rw [hM]; unfold imax; split <;> omega
  have m5 : IntKind.i64.wrap (2 * M) = 2 * M := wi (by omega)
  rw [← hM] at hv
  have m6 : IntKind.i64.wrap (X * Z) = X * Z := wi (by omega)
  have m7 : IntKind.i64.wrap (Y * U) = Y * U := wi (by omega)
  have m8 : IntKind.i64.wrap (X * Z + Y * U) = D := by rw [wi (by omega), hD]
  replace hC := Lib.hid hC
  replace hD := Lib.hid hD
  replace hM := Lib.hid hM
  clear c1 c2 c3 c4 c5 c6 c7 c8 ha hp hb
  go_enter Try.func72, Try.ntmps72
  go_upto_region 1 with fail
  have hB0 : Below w.heap.size w (((w.alloc (.cells #[.int .i64 ax, .int .i64 ay] 24 (0, 0))).alloc (.cells #[.int .i64 px, .int .i64 py] 24 (0, 0))).alloc (.cells #[.int .i64 bx, .int .i64 b] 24 (0, 0))) :=
    (Go.Joins.below_alloc2 w _ _).alloc (by simp; omega) _
  have hn := heap_new0 w (.cells #[.int .i64 ax, .int .i64 ay] 24 (0, 0)) (.cells #[.int .i64 px, .int .i64 py] 24 (0, 0)) (.cells #[.int .i64 bx, .int .i64 b] 24 (0, 0))
  generalize ((w.alloc (.cells #[.int .i64 ax, .int .i64 ay] 24 (0, 0))).alloc (.cells #[.int .i64 px, .int .i64 py] 24 (0, 0))).alloc (.cells #[.int .i64 bx, .int .i64 b] 24 (0, 0)) = V at *
  have p0 : PB V w.heap.size ax ay := hn.1
  have p1 : PB V (w.heap.size + 1) px py := hn.2.1
  have p2 : PB V (w.heap.size + 2) bx b := hn.2.2
  obtain ⟨x0, x1, xf, xl⟩ := p0.cells
  obtain ⟨y0, y1, yf, yl⟩ := p1.cells
  obtain ⟨z0, z1, zf, zl⟩ := p2.cells
  have hz := hB0.size
  clear hn
  have hS := Lib.hid (fun (W : World) (hb : Below V.heap.size V W) => (show W.cell? ⟨w.heap.size, 0, none⟩ = some (.int .i64 ax) ∧ W.cell? ⟨w.heap.size, 1, none⟩ = some (.int .i64 ay) ∧ W.cell? ⟨w.heap.size + 1, 0, none⟩ = some (.int .i64 px) ∧ W.cell? ⟨w.heap.size + 1, 1, none⟩ = some (.int .i64 py) ∧ W.cell? ⟨w.heap.size + 2, 0, none⟩ = some (.int .i64 bx) ∧ W.cell? ⟨w.heap.size + 2, 1, none⟩ = some (.int .i64 b) from ⟨(hb.cell (p := ⟨w.heap.size, 0, none⟩) xl).trans x0, (hb.cell (p := ⟨w.heap.size, 1, none⟩) xl).trans x1, (hb.cell (p := ⟨w.heap.size + 1, 0, none⟩) yl).trans y0, (hb.cell (p := ⟨w.heap.size + 1, 1, none⟩) yl).trans y1, (hb.cell (p := ⟨w.heap.size + 2, 0, none⟩) zl).trans z0, (hb.cell (p := ⟨w.heap.size + 2, 1, none⟩) zl).trans z1⟩))
  go_region_held3 (fun w' => w'.cell? ⟨w.heap.size, 0, none⟩ = some (.int .i64 ax) ∧ w'.cell? ⟨w.heap.size, 1, none⟩ = some (.int .i64 ay) ∧ w'.cell? ⟨w.heap.size + 1, 0, none⟩ = some (.int .i64 px) ∧ w'.cell? ⟨w.heap.size + 1, 1, none⟩ = some (.int .i64 py) ∧ w'.cell? ⟨w.heap.size + 2, 0, none⟩ = some (.int .i64 bx) ∧ w'.cell? ⟨w.heap.size + 2, 1, none⟩ = some (.int .i64 b)) (first | (refine hS.out _ ?_; repeat (first | with_reducible exact Below.refl _ _ | with_reducible refine Below.drew ?_ | with_reducible refine Below.alloc ?_ (by simp) _ | with_reducible refine Below.setCell ?_ (by simp) _))) (fail)
  · have hn := heap_new2 V (.cells #[.int .i64 X, .int .i64 Y] 24 (0, 0)) (.cells #[.int .i64 Z, .int .i64 U] 24 (0, 0))
    have hB1 : Below w.heap.size w (((V.alloc (.cells #[.int .i64 X, .int .i64 Y] 24 (0, 0))).alloc (.cells #[.int .i64 Z, .int .i64 U] 24 (0, 0))).drew) := Below.drew ((hB0.alloc hz (.cells #[.int .i64 X, .int .i64 Y] 24 (0, 0))).alloc (by simp; omega) (.cells #[.int .i64 Z, .int .i64 U] 24 (0, 0)))
    have p7 : PB (((V.alloc (.cells #[.int .i64 X, .int .i64 Y] 24 (0, 0))).alloc (.cells #[.int .i64 Z, .int .i64 U] 24 (0, 0))).drew) (V.heap.size) X Y := hn.1
    have p8 : PB (((V.alloc (.cells #[.int .i64 X, .int .i64 Y] 24 (0, 0))).alloc (.cells #[.int .i64 Z, .int .i64 U] 24 (0, 0))).drew) (V.heap.size + 1) Z U := hn.2
    clear hn hS x0 x1 y0 y1 z0 z1 xf yf zf xl yl zl hz
    generalize ((V.alloc (.cells #[.int .i64 X, .int .i64 Y] 24 (0, 0))).alloc (.cells #[.int .i64 Z, .int .i64 U] 24 (0, 0))).drew = W1 at *
    obtain ⟨x0, x1, xf, xl⟩ := p7.cells
    obtain ⟨y0, y1, yf, yl⟩ := p8.cells
    clear p7 p8 xf yf e1 e2 e3 e4 hB0
    replace hB1 := Lib.hid hB1
    replace hv := Lib.hid hv
    go_wp2_with fail
    all_goals
      go_ret
      exact ⟨ret_bool (by rw [hv.out, decide_eq_decide]; have hm := hM.out; unfold imax at hm; split at hm <;> omega), hB1.out⟩
  · have hn := heap_new2 V (.cells #[.int .i64 Z, .int .i64 U] 24 (0, 0)) (.cells #[.int .i64 X, .int .i64 Y] 24 (0, 0))
    have hB1 : Below w.heap.size w (((V.alloc (.cells #[.int .i64 Z, .int .i64 U] 24 (0, 0))).alloc (.cells #[.int .i64 X, .int .i64 Y] 24 (0, 0))).drew) := Below.drew ((hB0.alloc hz (.cells #[.int .i64 Z, .int .i64 U] 24 (0, 0))).alloc (by simp; omega) (.cells #[.int .i64 X, .int .i64 Y] 24 (0, 0)))
    have p7 : PB (((V.alloc (.cells #[.int .i64 Z, .int .i64 U] 24 (0, 0))).alloc (.cells #[.int .i64 X, .int .i64 Y] 24 (0, 0))).drew) (V.heap.size + 1) X Y := hn.2
    have p8 : PB (((V.alloc (.cells #[.int .i64 Z, .int .i64 U] 24 (0, 0))).alloc (.cells #[.int .i64 X, .int .i64 Y] 24 (0, 0))).drew) (V.heap.size) Z U := hn.1
    clear hn hS x0 x1 y0 y1 z0 z1 xf yf zf xl yl zl hz
    generalize ((V.alloc (.cells #[.int .i64 Z, .int .i64 U] 24 (0, 0))).alloc (.cells #[.int .i64 X, .int .i64 Y] 24 (0, 0))).drew = W1 at *
    obtain ⟨x0, x1, xf, xl⟩ := p7.cells
    obtain ⟨y0, y1, yf, yl⟩ := p8.cells
    clear p7 p8 xf yf e1 e2 e3 e4 hB0
    replace hB1 := Lib.hid hB1
    replace hv := Lib.hid hv
    go_wp2_with fail
    all_goals
      go_ret
      exact ⟨ret_bool (by rw [hv.out, decide_eq_decide]; have hm := hM.out; unfold imax at hm; split at hm <;> omega), hB1.out⟩
end Go.Proofs.Ytmpnefjljmdflaa

