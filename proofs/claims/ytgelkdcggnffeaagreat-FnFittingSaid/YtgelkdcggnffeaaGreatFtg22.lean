/- The common point of two lines, both sides: the callers. Conditions: as each states. -/
import Derived.Deep.RegionLaw
import Derived.Test.YtgelkdcggnffeaaGreatFtg21
namespace Go.Proofs.YtgelkdcggnffeaaGreat
open Go.RowKit
set_option linter.unusedVariables false
set_option maxRecDepth 100000

theorem rnd_big {x d : Int} (hd : 0 < d) (hx : -288230376151711744 ≤ x ∧ x ≤ 288230376151711744) : -288230376151711744 ≤ rnd x d ∧ rnd x d ≤ 288230376151711744 := by
  have h : 288230376151711744 * 1 ≤ 288230376151711744 * d := Int.mul_le_mul_of_nonneg_left (by omega) (by omega)
  exact rnd_mid hd (by omega) (by omega)
set_option maxHeartbeats 8000000 in
theorem linesMeet_zero (ax ay bx b cx cy dx dy : Int) (w : World) (ha : ptOk ax ay = true) (hb : ptOk bx b = true) (hc : ptOk cx cy = true) (hd : ptOk dx dy = true) (hne : lnM ax ay bx b cx cy dx dy = 0) :
    Calls Tryz.prog 80 #[.agg #[.int .i64 ax, .int .i64 ay], .agg #[.int .i64 bx, .int .i64 b], .agg #[.int .i64 cx, .int .i64 cy], .agg #[.int .i64 dx, .int .i64 dy]] w fun e w' => e = .returned (.tuple #[.agg #[.int .i64 0, .int .i64 0], .bool false]) ∧ Below w.heap.size w w' := by
  obtain ⟨a1, a2, a3, a4⟩ := pt_bd ha
  obtain ⟨b1, b2, b3, b4⟩ := pt_bd hb
  obtain ⟨c1, c2, c3, c4⟩ := pt_bd hc
  obtain ⟨d1, d2, d3, d4⟩ := pt_bd hd
  have m1 := df2 (x := bx - ax) (y := dy - cy) (by omega) (by omega)
  have m2 := df2 (x := b - ay) (y := dx - cx) (by omega) (by omega)
  have e1 := den_eq ax ay bx b cx cy dx dy
  have q1 : IntKind.i64.wrap (bx - ax) = bx - ax := wi (by omega)
  have q2 : IntKind.i64.wrap (dy - cy) = dy - cy := wi (by omega)
  have q3 : IntKind.i64.wrap (b - ay) = b - ay := wi (by omega)
  have q4 : IntKind.i64.wrap (dx - cx) = dx - cx := wi (by omega)
  have q7 : IntKind.i64.wrap ((bx - ax) * (dy - cy)) = (bx - ax) * (dy - cy) := wi (by omega)
  have q8 : IntKind.i64.wrap ((b - ay) * (dx - cx)) = (b - ay) * (dx - cx) := wi (by omega)
  have hz : (((bx - ax) * (dy - cy)) == ((b - ay) * (dx - cx))) = true := by rw [beq_iff_eq]; omega
  clear e1 m1 m2 hne
  obtain ⟨n0, n1, n2, n3, n4⟩ := heap_new5 w (.cells #[.int .i64 ax, .int .i64 ay] 71 (0, 0)) (.cells #[.int .i64 bx, .int .i64 b] 71 (0, 0)) (.cells #[.int .i64 cx, .int .i64 cy] 71 (0, 0)) (.cells #[.int .i64 dx, .int .i64 dy] 71 (0, 0)) (.cells #[.int .i64 0, .int .i64 0] 71 (0, 0))
  have hB0 : Below w.heap.size w (((((w.alloc (.cells #[.int .i64 ax, .int .i64 ay] 71 (0, 0))).alloc (.cells #[.int .i64 bx, .int .i64 b] 71 (0, 0))).alloc (.cells #[.int .i64 cx, .int .i64 cy] 71 (0, 0))).alloc (.cells #[.int .i64 dx, .int .i64 dy] 71 (0, 0))).alloc (.cells #[.int .i64 0, .int .i64 0] 71 (0, 0))) := by
    iterate 5 (refine Below.alloc ?_ (by first | exact Nat.le_refl _ | (simp <;> omega)) _)
    exact Below.refl _ _
  have s5 : (((((w.alloc (.cells #[.int .i64 ax, .int .i64 ay] 71 (0, 0))).alloc (.cells #[.int .i64 bx, .int .i64 b] 71 (0, 0))).alloc (.cells #[.int .i64 cx, .int .i64 cy] 71 (0, 0))).alloc (.cells #[.int .i64 dx, .int .i64 dy] 71 (0, 0))).alloc (.cells #[.int .i64 0, .int .i64 0] 71 (0, 0))).heap.size = w.heap.size + 5 := by simp
  go_enter Tryz.func80, Tryz.ntmps80
  go_upto_region 1 with fail
  generalize hW : (((((w.alloc (.cells #[.int .i64 ax, .int .i64 ay] 71 (0, 0))).alloc (.cells #[.int .i64 bx, .int .i64 b] 71 (0, 0))).alloc (.cells #[.int .i64 cx, .int .i64 cy] 71 (0, 0))).alloc (.cells #[.int .i64 dx, .int .i64 dy] 71 (0, 0))).alloc (.cells #[.int .i64 0, .int .i64 0] 71 (0, 0))) = W at *
  clear hW
  have p0 : PB W w.heap.size ax ay := n0
  have p1 : PB W (w.heap.size + 1) bx b := n1
  have p2 : PB W (w.heap.size + 2) cx cy := n2
  have p3 : PB W (w.heap.size + 3) dx dy := n3
  have p4 : PB W (w.heap.size + 4) 0 0 := n4
  clear n0 n1 n2 n3 n4
  obtain ⟨x0, x1, xf, xl⟩ := p0.cells
  obtain ⟨y0, y1, yf, yl⟩ := p1.cells
  obtain ⟨z0, z1, zf, zl⟩ := p2.cells
  obtain ⟨v0, v1, vf, vl⟩ := p3.cells
  obtain ⟨r0, r1, rf, rl⟩ := p4.cells
  go_wp2_with fail
  refine bodyPost_ret (v := .tuple #[.agg #[.int .i64 0, .int .i64 0], .bool false]) (by simp [results, Tryz.results80, go_sem, r0, r1]) rfl ⟨rfl, ?_⟩
  exact (hB0.setCell (p := ⟨w.heap.size + 4, 0, none⟩) (by show w.heap.size ≤ w.heap.size + 4; omega) _).setCell (p := ⟨w.heap.size + 4, 1, none⟩) (by show w.heap.size ≤ w.heap.size + 4; omega) _

set_option maxHeartbeats 8000000 in
theorem linesMeet_pt (ax ay bx b cx cy dx dy : Int) (w : World) (ha : ptOk ax ay = true) (hb : ptOk bx b = true) (hc : ptOk cx cy = true) (hd : ptOk dx dy = true) (hne : lnM ax ay bx b cx cy dx dy ≠ 0) (px py : Int) (hp : lnP ax ay bx b cx cy dx dy = (px, py)) :
    Calls Tryz.prog 80 #[.agg #[.int .i64 ax, .int .i64 ay], .agg #[.int .i64 bx, .int .i64 b], .agg #[.int .i64 cx, .int .i64 cy], .agg #[.int .i64 dx, .int .i64 dy]] w fun e w' => e = .returned (.tuple #[.agg #[.int .i64 px, .int .i64 py], .bool (ptOk px py)]) ∧ Below w.heap.size w w' := by
  have hcr := Lib.hid (fun W => crossing_any ax ay bx b cx cy dx dy W ha hb hc hd hne px py hp)
  obtain ⟨a1, a2, a3, a4⟩ := pt_bd ha
  obtain ⟨b1, b2, b3, b4⟩ := pt_bd hb
  obtain ⟨c1, c2, c3, c4⟩ := pt_bd hc
  obtain ⟨d1, d2, d3, d4⟩ := pt_bd hd
  have m1 := df2 (x := bx - ax) (y := dy - cy) (by omega) (by omega)
  have m2 := df2 (x := b - ay) (y := dx - cx) (by omega) (by omega)
  have e1 := den_eq ax ay bx b cx cy dx dy
  have q1 : IntKind.i64.wrap (bx - ax) = bx - ax := wi (by omega)
  have q2 : IntKind.i64.wrap (dy - cy) = dy - cy := wi (by omega)
  have q3 : IntKind.i64.wrap (b - ay) = b - ay := wi (by omega)
  have q4 : IntKind.i64.wrap (dx - cx) = dx - cx := wi (by omega)
  have q7 : IntKind.i64.wrap ((bx - ax) * (dy - cy)) = (bx - ax) * (dy - cy) := wi (by omega)
  have q8 : IntKind.i64.wrap ((b - ay) * (dx - cx)) = (b - ay) * (dx - cx) := wi (by omega)
  have hz : (((bx - ax) * (dy - cy)) == ((b - ay) * (dx - cx))) = false := by rw [beq_eq_false_iff_ne]; omega
  clear e1 m1 m2 hne hp
  obtain ⟨n0, n1, n2, n3, n4⟩ := heap_new5 w (.cells #[.int .i64 ax, .int .i64 ay] 71 (0, 0)) (.cells #[.int .i64 bx, .int .i64 b] 71 (0, 0)) (.cells #[.int .i64 cx, .int .i64 cy] 71 (0, 0)) (.cells #[.int .i64 dx, .int .i64 dy] 71 (0, 0)) (.cells #[.int .i64 0, .int .i64 0] 71 (0, 0))
  have hB0 : Below w.heap.size w (((((w.alloc (.cells #[.int .i64 ax, .int .i64 ay] 71 (0, 0))).alloc (.cells #[.int .i64 bx, .int .i64 b] 71 (0, 0))).alloc (.cells #[.int .i64 cx, .int .i64 cy] 71 (0, 0))).alloc (.cells #[.int .i64 dx, .int .i64 dy] 71 (0, 0))).alloc (.cells #[.int .i64 0, .int .i64 0] 71 (0, 0))) := by
    iterate 5 (refine Below.alloc ?_ (by first | exact Nat.le_refl _ | (simp <;> omega)) _)
    exact Below.refl _ _
  have s5 : (((((w.alloc (.cells #[.int .i64 ax, .int .i64 ay] 71 (0, 0))).alloc (.cells #[.int .i64 bx, .int .i64 b] 71 (0, 0))).alloc (.cells #[.int .i64 cx, .int .i64 cy] 71 (0, 0))).alloc (.cells #[.int .i64 dx, .int .i64 dy] 71 (0, 0))).alloc (.cells #[.int .i64 0, .int .i64 0] 71 (0, 0))).heap.size = w.heap.size + 5 := by simp
  go_enter Tryz.func80, Tryz.ntmps80
  go_upto_region 1 with fail
  generalize hW : (((((w.alloc (.cells #[.int .i64 ax, .int .i64 ay] 71 (0, 0))).alloc (.cells #[.int .i64 bx, .int .i64 b] 71 (0, 0))).alloc (.cells #[.int .i64 cx, .int .i64 cy] 71 (0, 0))).alloc (.cells #[.int .i64 dx, .int .i64 dy] 71 (0, 0))).alloc (.cells #[.int .i64 0, .int .i64 0] 71 (0, 0))) = W at *
  clear hW
  have p0 : PB W w.heap.size ax ay := n0
  have p1 : PB W (w.heap.size + 1) bx b := n1
  have p2 : PB W (w.heap.size + 2) cx cy := n2
  have p3 : PB W (w.heap.size + 3) dx dy := n3
  have p4 : PB W (w.heap.size + 4) 0 0 := n4
  clear n0 n1 n2 n3 n4
  obtain ⟨x0, x1, xf, xl⟩ := p0.cells
  obtain ⟨y0, y1, yf, yl⟩ := p1.cells
  obtain ⟨z0, z1, zf, zl⟩ := p2.cells
  obtain ⟨v0, v1, vf, vl⟩ := p3.cells
  replace p4 := Lib.hid p4
  go_wp2_with fail
  refine (hcr.out W).mono ?_
  rintro e w2 ⟨rfl, hb2⟩
  have hz2 := hb2.size
  obtain ⟨V, hV⟩ : ∃ V, V = w2.alloc (.cells #[.int .i64 px, .int .i64 py] 71 (0, 0)) := ⟨_, rfl⟩
  have hxV := Lib.hid (show PB V (w.heap.size + 4) 0 0 from hV ▸ (p4.out.below hb2).alloc _)
  have hhV := Lib.hid (show PB V w2.heap.size px py from hV ▸ heap_alloc_new w2 _)
  have hBV := Lib.hid (show Below w.heap.size w V from hV ▸ (hB0.trans (hb2.mono hB0.size)).alloc (by omega) _)
  clear p0 p1 p2 p3 p4 x0 x1 xf xl y0 y1 yf yl z0 z1 zf zl v0 v1 vf vl hb2 hB0 q1 q2 q3 q4 q7 q8 hz
  obtain ⟨x0, x1, xf, xl⟩ := hxV.out.cells
  obtain ⟨h0, h1, hf', hl⟩ := hhV.out.cells
  have hne : w.heap.size + 4 ≠ w2.heap.size := by omega
  have hne2 : w2.heap.size ≠ w.heap.size + 4 := by omega
  go_upto_region 4 with fail
  rw [← hV]
  clear hV
  go_region_law (go_simp; go_at_call 70; refine (validPt_any _ _ _).mono ?_; rintro e w' ⟨rfl, hbw⟩; (first | (have hle : w.heap.size ≤ V.drew.heap.size := (by show w.heap.size ≤ V.heap.size; omega); have hB' : Below w.heap.size w w' := (Below.drew hBV.out).trans (hbw.mono hle); have hx' : PB w' (w.heap.size + 4) 0 0 := PB.below (PB.drew hxV.out) hbw; have hh' : PB w' (w2.heap.size) px py := PB.below (PB.drew hhV.out) hbw) | (have hle : w.heap.size ≤ ((V.drew.setCell ⟨w.heap.size + 4, 0, none⟩ (.int .i64 px)).setCell ⟨w.heap.size + 4, 1, none⟩ (.int .i64 py)).heap.size := (by simp; omega); have hB' : Below w.heap.size w w' := (((Below.drew hBV.out).setCell (p := ⟨w.heap.size + 4, 0, none⟩) (by show w.heap.size ≤ w.heap.size + 4; omega) _).setCell (p := ⟨w.heap.size + 4, 1, none⟩) (by show w.heap.size ≤ w.heap.size + 4; omega) _).trans (hbw.mono hle); have hx' : PB w' (w.heap.size + 4) px py := PB.below (PB.put (PB.drew hxV.out) _ _) hbw; have hh' : PB w' (w2.heap.size) px py := PB.below (((PB.drew hhV.out).off hne2).off hne2) hbw)); obtain ⟨x0', x1', xf', xl'⟩ := hx'.cells; obtain ⟨h0', h1', hf'', hl'⟩ := hh'.cells; replace hx' := Lib.hid hx'; replace hh' := Lib.hid hh'; replace hB' := Lib.hid hB'; clear hbw hle; dsimp only)
  all_goals
    go_wp2_with fail
    refine bodyPost_ret (v := .tuple #[.agg #[.int .i64 px, .int .i64 py], .bool (ptOk px py)]) (by simp [results, Tryz.results80, go_sem, x0', x1']) rfl ⟨rfl, ?_⟩
    first
      | with_reducible exact hB'.out
      | exact (hB'.out.setCell (p := ⟨w.heap.size + 4, 0, none⟩) (by show w.heap.size ≤ w.heap.size + 4; omega) _).setCell (p := ⟨w.heap.size + 4, 1, none⟩) (by show w.heap.size ≤ w.heap.size + 4; omega) _

abbrev Four (w : World) (a b : Nat) (x0 x1 y0 y1 : Int) : Prop := w.cell? ⟨a, 0, none⟩ = some (.int .i64 x0) ∧ w.cell? ⟨a, 1, none⟩ = some (.int .i64 x1) ∧ w.cell? ⟨b, 0, none⟩ = some (.int .i64 y0) ∧ w.cell? ⟨b, 1, none⟩ = some (.int .i64 y1)
theorem Four.alloc {w : World} {a b : Nat} {x0 x1 y0 y1 : Int} (h : Four w a b x0 x1 y0 y1) (ha : a < w.heap.size) (hb : b < w.heap.size) {o : Obj} : Four (w.alloc o) a b x0 x1 y0 y1 :=
  ⟨(World.cell?_alloc_lt _ _ _ ha).trans h.1, (World.cell?_alloc_lt _ _ _ ha).trans h.2.1, (World.cell?_alloc_lt _ _ _ hb).trans h.2.2.1, (World.cell?_alloc_lt _ _ _ hb).trans h.2.2.2⟩
set_option maxHeartbeats 8000000 in
theorem l16Lines_zero (ax ay bx b cx cy dx dy : Int) (w : World) (ha : ptOk ax ay = true) (hb : ptOk bx b = true) (hc : ptOk cx cy = true) (hd : ptOk dx dy = true) (hne : lnM ax ay bx b cx cy dx dy = 0) :
    Calls Tryz.prog 83 #[.agg #[.int .i64 ax, .int .i64 ay], .agg #[.int .i64 bx, .int .i64 b], .agg #[.int .i64 cx, .int .i64 cy], .agg #[.int .i64 dx, .int .i64 dy]] w fun e w' => e = .returned (.tuple #[.agg #[.int .i64 0, .int .i64 0], .bool false]) ∧ Below w.heap.size w w' := by
  obtain ⟨N, hN⟩ : ∃ N, N = lnN ax ay cx cy dx dy := ⟨_, rfl⟩
  obtain ⟨T, hT⟩ : ∃ T, T = turnI cx cy dx dy bx b := ⟨_, rfl⟩
  have k1 := Lib.hid (fun W => l03Turn_any cx cy dx dy ax ay W hc hd ha)
  have k2 := Lib.hid (fun W => l03Turn_any cx cy dx dy bx b W hc hd hb)
  have hTb := turn_bd hc hd hb
  have hNT : N - T = 0 := by rw [hN, hT]; exact hne
  have hNe : turnI cx cy dx dy ax ay = N := hN.symm
  rw [hNe] at k1
  rw [← hT] at k2 hTb
  obtain ⟨hT1, hT2⟩ := hTb
  have q1 : IntKind.i64.wrap (N - T) = 0 := by rw [hNT]; rfl
  replace hN := Lib.hid hN
  replace hT := Lib.hid hT
  replace hNe := Lib.hid hNe
  replace hNT := Lib.hid hNT
  clear hne
  obtain ⟨n0, n1, n2, n3, n4⟩ := heap_new5 w (.cells #[.int .i64 ax, .int .i64 ay] 71 (0, 0)) (.cells #[.int .i64 bx, .int .i64 b] 71 (0, 0)) (.cells #[.int .i64 cx, .int .i64 cy] 71 (0, 0)) (.cells #[.int .i64 dx, .int .i64 dy] 71 (0, 0)) (.cells #[.int .i64 0, .int .i64 0] 71 (0, 0))
  have hB0 : Below w.heap.size w (((((w.alloc (.cells #[.int .i64 ax, .int .i64 ay] 71 (0, 0))).alloc (.cells #[.int .i64 bx, .int .i64 b] 71 (0, 0))).alloc (.cells #[.int .i64 cx, .int .i64 cy] 71 (0, 0))).alloc (.cells #[.int .i64 dx, .int .i64 dy] 71 (0, 0))).alloc (.cells #[.int .i64 0, .int .i64 0] 71 (0, 0))) := by
    iterate 5 (refine Below.alloc ?_ (by first | exact Nat.le_refl _ | (simp <;> omega)) _)
    exact Below.refl _ _
  have s5 : (((((w.alloc (.cells #[.int .i64 ax, .int .i64 ay] 71 (0, 0))).alloc (.cells #[.int .i64 bx, .int .i64 b] 71 (0, 0))).alloc (.cells #[.int .i64 cx, .int .i64 cy] 71 (0, 0))).alloc (.cells #[.int .i64 dx, .int .i64 dy] 71 (0, 0))).alloc (.cells #[.int .i64 0, .int .i64 0] 71 (0, 0))).heap.size = w.heap.size + 5 := by simp
  go_enter Tryz.func83, Tryz.ntmps83
  go_upto_region 1 with fail
  generalize hW : (((((w.alloc (.cells #[.int .i64 ax, .int .i64 ay] 71 (0, 0))).alloc (.cells #[.int .i64 bx, .int .i64 b] 71 (0, 0))).alloc (.cells #[.int .i64 cx, .int .i64 cy] 71 (0, 0))).alloc (.cells #[.int .i64 dx, .int .i64 dy] 71 (0, 0))).alloc (.cells #[.int .i64 0, .int .i64 0] 71 (0, 0))) = W at *
  clear hW
  have p0 : PB W w.heap.size ax ay := n0
  have p1 : PB W (w.heap.size + 1) bx b := n1
  have p2 : PB W (w.heap.size + 2) cx cy := n2
  have p3 : PB W (w.heap.size + 3) dx dy := n3
  have p4 : PB W (w.heap.size + 4) 0 0 := n4
  clear n0 n1 n2 n3 n4
  obtain ⟨x0, x1, xf, xl⟩ := p0.cells
  obtain ⟨z0, z1, zf, zl⟩ := p2.cells
  obtain ⟨v0, v1, vf, vl⟩ := p3.cells
  go_wp2_with fail
  refine (k1.out W).mono ?_
  rintro e w1 ⟨rfl, hb1⟩
  replace p1 := p1.below hb1
  replace p2 := p2.below hb1
  replace p3 := p3.below hb1
  replace p4 := p4.below hb1
  have hB1 := hB0.trans (hb1.mono hB0.size)
  clear x0 x1 xf xl z0 z1 zf zl v0 v1 vf vl hb1 hB0 p0
  obtain ⟨y0, y1, yf, yl⟩ := p1.cells
  obtain ⟨z0, z1, zf, zl⟩ := p2.cells
  obtain ⟨v0, v1, vf, vl⟩ := p3.cells
  go_wp2_with fail
  refine (k2.out w1).mono ?_
  rintro e w2 ⟨rfl, hb2⟩
  replace p4 := p4.below hb2
  have hB2 := hB1.trans (hb2.mono hB1.size)
  clear y0 y1 yf yl z0 z1 zf zl v0 v1 vf vl hb2 hB1 p1 p2 p3
  obtain ⟨r0, r1, rf, rl⟩ := p4.cells
  go_wp2_with fail
  refine bodyPost_ret (v := .tuple #[.agg #[.int .i64 0, .int .i64 0], .bool false]) (by simp [results, Tryz.results83, go_sem, r0, r1]) rfl ⟨rfl, ?_⟩
  exact (hB2.setCell (p := ⟨w.heap.size + 4, 0, none⟩) (by show w.heap.size ≤ w.heap.size + 4; omega) _).setCell (p := ⟨w.heap.size + 4, 1, none⟩) (by show w.heap.size ≤ w.heap.size + 4; omega) _

set_option maxHeartbeats 8000000 in
theorem l16Lines_pt (ax ay bx b cx cy dx dy : Int) (w : World) (ha : ptOk ax ay = true) (hb : ptOk bx b = true) (hc : ptOk cx cy = true) (hd : ptOk dx dy = true) (hne : lnM ax ay bx b cx cy dx dy ≠ 0) (px py : Int) (hp : lnP ax ay bx b cx cy dx dy = (px, py)) :
    Calls Tryz.prog 83 #[.agg #[.int .i64 ax, .int .i64 ay], .agg #[.int .i64 bx, .int .i64 b], .agg #[.int .i64 cx, .int .i64 cy], .agg #[.int .i64 dx, .int .i64 dy]] w fun e w' => e = .returned (.tuple #[.agg #[.int .i64 px, .int .i64 py], .bool (ptOk px py)]) ∧ Below w.heap.size w w' := by
  obtain ⟨a1, a2, a3, a4⟩ := pt_bd ha
  obtain ⟨b1, b2, b3, b4⟩ := pt_bd hb
  obtain ⟨c1, c2, c3, c4⟩ := pt_bd hc
  obtain ⟨d1, d2, d3, d4⟩ := pt_bd hd
  obtain ⟨N, hN⟩ : ∃ N, N = lnN ax ay cx cy dx dy := ⟨_, rfl⟩
  obtain ⟨T, hT⟩ : ∃ T, T = turnI cx cy dx dy bx b := ⟨_, rfl⟩
  obtain ⟨M, hM⟩ : ∃ M, M = lnM ax ay bx b cx cy dx dy := ⟨_, rfl⟩
  have k1 := Lib.hid (fun W => l03Turn_any cx cy dx dy ax ay W hc hd ha)
  have k2 := Lib.hid (fun W => l03Turn_any cx cy dx dy bx b W hc hd hb)
  have hTb := turn_bd hc hd hb
  have hNb : -549755813888 ≤ N ∧ N ≤ 549755813888 := by rw [hN]; exact turn_bd hc hd ha
  have m1 := df2 (x := bx - ax) (y := dy - cy) (by omega) (by omega)
  have m2 := df2 (x := b - ay) (y := dx - cx) (by omega) (by omega)
  have e1 := den_eq ax ay bx b cx cy dx dy
  have hNT : N - T = M := by rw [hN, hT, hM]; rfl
  have hNe : turnI cx cy dx dy ax ay = N := hN.symm
  unfold lnP at hp
  rw [← hM] at hp hne e1
  rw [← hN] at hp
  rw [hNe] at k1
  rw [← hT] at k2 hTb
  have hMb : -549755813888 ≤ M ∧ M ≤ 549755813888 := by omega
  have q0 : IntKind.i64.wrap (N - T) = M := by rw [hNT]; exact wi (by omega)
  have q13 : IntKind.i64.wrap (-M) = -M := wi (by omega)
  have q14 : IntKind.i64.wrap (-N) = -N := wi (by omega)
  have q1 : IntKind.i64.wrap (bx - ax) = bx - ax := wi (by omega)
  have q3 : IntKind.i64.wrap (b - ay) = b - ay := wi (by omega)
  clear m1 m2 e1 hNT hNe hN hT hM
  obtain ⟨m, n, hmn, hm1, hm2, hn1, hn2, hsg⟩ : ∃ m n : Int, (px = ax + rnd ((bx - ax) * n) m ∧ py = ay + rnd ((b - ay) * n) m) ∧ 0 < m ∧ m ≤ 549755813888 ∧ -549755813888 ≤ n ∧ n ≤ 549755813888 ∧ ((M < 0 ∧ m = -M ∧ n = -N) ∨ (¬ M < 0 ∧ m = M ∧ n = N)) := by
    by_cases h : M < 0
    · rw [if_pos h] at hp
      injection hp with h1 h2
      exact ⟨-M, -N, ⟨h1.symm, h2.symm⟩, by omega, by omega, by omega, by omega, .inl ⟨h, rfl, rfl⟩⟩
    · rw [if_neg h] at hp
      injection hp with h1 h2
      exact ⟨M, N, ⟨h1.symm, h2.symm⟩, by omega, by omega, by omega, by omega, .inr ⟨h, rfl, rfl⟩⟩
  have z2 := big_bd (x := bx - ax) (y := n) (by omega) (by omega)
  have z4 := big_bd (x := b - ay) (y := n) (by omega) (by omega)
  have u2 : IntKind.i64.wrap ((bx - ax) * n) = (bx - ax) * n := wi (by omega)
  have u4 : IntKind.i64.wrap ((b - ay) * n) = (b - ay) * n := wi (by omega)
  have g1 := rnd_big (x := (bx - ax) * n) (d := m) hm1 (by omega)
  have g2 := rnd_big (x := (b - ay) * n) (d := m) hm1 (by omega)
  have j1 := Lib.hid (fun W => calls_turn (l03Round_any ((bx - ax) * n) m W hm1 (by omega) (by omega) (by omega)))
  have j2 := Lib.hid (fun W => calls_turn (l03Round_any ((b - ay) * n) m W hm1 (by omega) (by omega) (by omega)))
  have u5 : IntKind.i64.wrap (ax + rnd ((bx - ax) * n) m) = px := by rw [hmn.1]; exact wi (by omega)
  have u6 : IntKind.i64.wrap (ay + rnd ((b - ay) * n) m) = py := by rw [hmn.2]; exact wi (by omega)
  have hM0 : (M == 0) = false := by rw [beq_eq_false_iff_ne]; exact hne
  have hm0 : (m == 0) = false := by rw [beq_eq_false_iff_ne]; omega
  have hMn0 : (-M == 0) = false := by rw [beq_eq_false_iff_ne]; omega
  have hMz : ¬ M = 0 := hne
  clear hmn hp z2 z4 g1 g2 hne
  obtain ⟨n0, n1, n2, n3, n4⟩ := heap_new5 w (.cells #[.int .i64 ax, .int .i64 ay] 71 (0, 0)) (.cells #[.int .i64 bx, .int .i64 b] 71 (0, 0)) (.cells #[.int .i64 cx, .int .i64 cy] 71 (0, 0)) (.cells #[.int .i64 dx, .int .i64 dy] 71 (0, 0)) (.cells #[.int .i64 0, .int .i64 0] 71 (0, 0))
  have hB0 : Below w.heap.size w (((((w.alloc (.cells #[.int .i64 ax, .int .i64 ay] 71 (0, 0))).alloc (.cells #[.int .i64 bx, .int .i64 b] 71 (0, 0))).alloc (.cells #[.int .i64 cx, .int .i64 cy] 71 (0, 0))).alloc (.cells #[.int .i64 dx, .int .i64 dy] 71 (0, 0))).alloc (.cells #[.int .i64 0, .int .i64 0] 71 (0, 0))) := by
    iterate 5 (refine Below.alloc ?_ (by first | exact Nat.le_refl _ | (simp <;> omega)) _)
    exact Below.refl _ _
  have s5 : (((((w.alloc (.cells #[.int .i64 ax, .int .i64 ay] 71 (0, 0))).alloc (.cells #[.int .i64 bx, .int .i64 b] 71 (0, 0))).alloc (.cells #[.int .i64 cx, .int .i64 cy] 71 (0, 0))).alloc (.cells #[.int .i64 dx, .int .i64 dy] 71 (0, 0))).alloc (.cells #[.int .i64 0, .int .i64 0] 71 (0, 0))).heap.size = w.heap.size + 5 := by simp
  rcases hsg with ⟨hs, hm, hn⟩ | ⟨hs, hm, hn⟩
  all_goals
    go_enter Tryz.func83, Tryz.ntmps83
    go_upto_region 1 with fail
    generalize hW : (((((w.alloc (.cells #[.int .i64 ax, .int .i64 ay] 71 (0, 0))).alloc (.cells #[.int .i64 bx, .int .i64 b] 71 (0, 0))).alloc (.cells #[.int .i64 cx, .int .i64 cy] 71 (0, 0))).alloc (.cells #[.int .i64 dx, .int .i64 dy] 71 (0, 0))).alloc (.cells #[.int .i64 0, .int .i64 0] 71 (0, 0))) = W at *
    clear hW
    have p0 : PB W w.heap.size ax ay := n0
    have p1 : PB W (w.heap.size + 1) bx b := n1
    have p2 : PB W (w.heap.size + 2) cx cy := n2
    have p3 : PB W (w.heap.size + 3) dx dy := n3
    have p4 : PB W (w.heap.size + 4) 0 0 := n4
    clear n0 n1 n2 n3 n4
    obtain ⟨x0, x1, xf, xl⟩ := p0.cells
    obtain ⟨z0, z1, zf, zl⟩ := p2.cells
    obtain ⟨v0, v1, vf, vl⟩ := p3.cells
    go_wp2_with fail
    refine (k1.out W).mono ?_
    rintro e w1 ⟨rfl, hb1⟩
    replace p0 := p0.below hb1
    replace p1 := p1.below hb1
    replace p2 := p2.below hb1
    replace p3 := p3.below hb1
    replace p4 := p4.below hb1
    have hB1 := hB0.trans (hb1.mono hB0.size)
    have hz1 := hb1.size
    clear x0 x1 xf xl z0 z1 zf zl v0 v1 vf vl hb1 hB0
    obtain ⟨y0, y1, yf, yl⟩ := p1.cells
    obtain ⟨z0, z1, zf, zl⟩ := p2.cells
    obtain ⟨v0, v1, vf, vl⟩ := p3.cells
    go_wp2_with fail
    refine (k2.out w1).mono ?_
    rintro e w2 ⟨rfl, hb2⟩
    replace p0 := p0.below hb2
    replace p1 := p1.below hb2
    replace p4 := p4.below hb2
    have hB2 := hB1.trans (hb2.mono hB1.size)
    have hz2 := hb2.size
    clear y0 y1 yf yl z0 z1 zf zl v0 v1 vf vl hb2 hB1 p2 p3 k1 k2
    go_upto_region 8 with fail
    rw [← hm, ← hn]
    clear hm hn q0 q13 q14
    obtain ⟨x0, x1, xf, xl⟩ := p0.cells
    obtain ⟨y0, y1, yf, yl⟩ := p1.cells
    have s0 := Lib.hid (show Four w2.drew w.heap.size (w.heap.size + 1) ax ay bx b from ⟨x0, x1, y0, y1⟩)
    have s1 := Lib.hid (show Four (w2.alloc (.cells #[.int .i64 0, .int .i64 0] 71 (0, 0))).drew w.heap.size (w.heap.size + 1) ax ay bx b from Four.alloc (w := w2) ⟨x0, x1, y0, y1⟩ xl yl)
    have s2 := Lib.hid (show Four (w2.alloc (.cells #[.int .i64 px, .int .i64 py] 71 (0, 0))).drew w.heap.size (w.heap.size + 1) ax ay bx b from Four.alloc (w := w2) ⟨x0, x1, y0, y1⟩ xl yl)
    go_region_held3 (fun w' => w'.cell? ⟨w.heap.size, 0, none⟩ = some (.int .i64 ax) ∧ w'.cell? ⟨w.heap.size, 1, none⟩ = some (.int .i64 ay) ∧ w'.cell? ⟨w.heap.size + 1, 0, none⟩ = some (.int .i64 bx) ∧ w'.cell? ⟨w.heap.size + 1, 1, none⟩ = some (.int .i64 b)) (first | (with_reducible exact s0.out) | (with_reducible exact s1.out) | (with_reducible exact s2.out)) (first | (go_at_call 95; (with_reducible refine (j1.out _).mono ?_); rintro e w' ⟨rfl, hw⟩; subst hw) | (go_at_call 95; (with_reducible refine (j2.out _).mono ?_); rintro e w' ⟨rfl, hw⟩; subst hw))
    all_goals
      obtain ⟨V, hV⟩ : ∃ V, V = (w2.alloc (.cells #[.int .i64 px, .int .i64 py] 71 (0, 0))).drew := ⟨_, rfl⟩
      have hxV := Lib.hid (show PB V (w.heap.size + 4) 0 0 from hV ▸ (p4.alloc _).drew)
      have hhV := Lib.hid (show PB V w2.heap.size px py from hV ▸ PB.drew (heap_alloc_new w2 _))
      have hBV := Lib.hid (show Below w.heap.size w V from hV ▸ Below.drew (hB2.alloc hB2.size _))
      clear p0 p1 p4 x0 x1 xf xl y0 y1 yf yl s0 s1 s2 hB2
      obtain ⟨x0, x1, xf, xl⟩ := hxV.out.cells
      obtain ⟨h0, h1, hf', hl⟩ := hhV.out.cells
      have hne : w.heap.size + 4 ≠ w2.heap.size := by omega
      have hne2 : w2.heap.size ≠ w.heap.size + 4 := by omega
      rw [← hV]
      clear hV
      go_upto_region 9 with fail
      go_region_law (go_simp; go_at_call 66; refine (l03Ok_any _ _ _).mono ?_; rintro e w' ⟨rfl, hbw⟩; (first | (have hle : w.heap.size ≤ V.drew.heap.size := (by show w.heap.size ≤ V.heap.size; omega); have hB' : Below w.heap.size w w' := (Below.drew hBV.out).trans (hbw.mono hle); have hx' : PB w' (w.heap.size + 4) 0 0 := PB.below (PB.drew hxV.out) hbw; have hh' : PB w' (w2.heap.size) px py := PB.below (PB.drew hhV.out) hbw) | (have hle : w.heap.size ≤ ((V.drew.setCell ⟨w.heap.size + 4, 0, none⟩ (.int .i64 px)).setCell ⟨w.heap.size + 4, 1, none⟩ (.int .i64 py)).heap.size := (by simp; omega); have hB' : Below w.heap.size w w' := (((Below.drew hBV.out).setCell (p := ⟨w.heap.size + 4, 0, none⟩) (by show w.heap.size ≤ w.heap.size + 4; omega) _).setCell (p := ⟨w.heap.size + 4, 1, none⟩) (by show w.heap.size ≤ w.heap.size + 4; omega) _).trans (hbw.mono hle); have hx' : PB w' (w.heap.size + 4) px py := PB.below (PB.put (PB.drew hxV.out) _ _) hbw; have hh' : PB w' (w2.heap.size) px py := PB.below (((PB.drew hhV.out).off hne2).off hne2) hbw)); obtain ⟨x0', x1', xf', xl'⟩ := hx'.cells; obtain ⟨h0', h1', hf'', hl'⟩ := hh'.cells; replace hx' := Lib.hid hx'; replace hh' := Lib.hid hh'; replace hB' := Lib.hid hB'; clear hbw hle; dsimp only)
      all_goals
        go_wp2_with fail
        refine bodyPost_ret (v := .tuple #[.agg #[.int .i64 px, .int .i64 py], .bool (ptOk px py)]) (by simp [results, Tryz.results83, go_sem, x0', x1']) rfl ⟨rfl, ?_⟩
        first
          | with_reducible exact hB'.out
          | exact (hB'.out.setCell (p := ⟨w.heap.size + 4, 0, none⟩) (by show w.heap.size ≤ w.heap.size + 4; omega) _).setCell (p := ⟨w.heap.size + 4, 1, none⟩) (by show w.heap.size ≤ w.heap.size + 4; omega) _

end Go.Proofs.YtgelkdcggnffeaaGreat

