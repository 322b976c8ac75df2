/- How segments meet: the program's side. Printed by mk_me2.py. Conditions: as each states. -/
import Derived.Test.YtlifiioflkhkoaaGreatFr25
namespace Go.Proofs.YtlifiioflkhkoaaGreat
open Go.RowKit
set_option linter.unusedVariables false
set_option maxRecDepth 100000
set_option linter.unusedSimpArgs false

/-- do two segments cross -/
def crossB (a b c d : Pnt) : Bool := decide (sgnI (tn a b c) * sgnI (tn a b d) < 0) && decide (sgnI (tn c d a) * sgnI (tn c d b) < 0)
theorem sgn_bd (n : Int) : -1 ≤ sgnI n ∧ sgnI n ≤ 1 := by
  unfold sgnI
  split
  · omega
  · split <;> omega

set_option maxHeartbeats 16000000 in
theorem meeting_any (a b c d : Pnt) (w : World) (ha : pt2Ok a = true) (hb : pt2Ok b = true) (hc : pt2Ok c = true) (hd : pt2Ok d = true) :
    Calls Tryz.prog 91 #[.agg #[.int .i64 a.1, .int .i64 a.2], .agg #[.int .i64 b.1, .int .i64 b.2], .agg #[.int .i64 c.1, .int .i64 c.2], .agg #[.int .i64 d.1, .int .i64 d.2]] w fun e w' => ∃ (k : Int) (p : Pnt), e = .returned (.tuple #[.int .i64 k, .agg #[.int .i64 p.1, .int .i64 p.2]]) ∧ (k = 2 ↔ crossB a b c d = true) ∧ Below w.heap.size w w' := by
  have hb0 : Below w.heap.size w (((((w.alloc (.cells #[.int .i64 a.1, .int .i64 a.2] 28 (0, 0))).alloc (.cells #[.int .i64 b.1, .int .i64 b.2] 28 (0, 0))).alloc (.cells #[.int .i64 c.1, .int .i64 c.2] 28 (0, 0))).alloc (.cells #[.int .i64 d.1, .int .i64 d.2] 28 (0, 0))).alloc (.cells #[.int .i64 0, .int .i64 0] 28 (0, 0))) := ((((Go.Joins.below_alloc2 w _ _).alloc (by simp; omega) _).alloc (by simp; omega) _).alloc (by simp; omega) _)
  have hz0 : (((((w.alloc (.cells #[.int .i64 a.1, .int .i64 a.2] 28 (0, 0))).alloc (.cells #[.int .i64 b.1, .int .i64 b.2] 28 (0, 0))).alloc (.cells #[.int .i64 c.1, .int .i64 c.2] 28 (0, 0))).alloc (.cells #[.int .i64 d.1, .int .i64 d.2] 28 (0, 0))).alloc (.cells #[.int .i64 0, .int .i64 0] 28 (0, 0))).heap.size = w.heap.size + 5 := by simp
  have hA : Hid (PB (((((w.alloc (.cells #[.int .i64 a.1, .int .i64 a.2] 28 (0, 0))).alloc (.cells #[.int .i64 b.1, .int .i64 b.2] 28 (0, 0))).alloc (.cells #[.int .i64 c.1, .int .i64 c.2] 28 (0, 0))).alloc (.cells #[.int .i64 d.1, .int .i64 d.2] 28 (0, 0))).alloc (.cells #[.int .i64 0, .int .i64 0] 28 (0, 0))) w.heap.size a.1 a.2) := Lib.hid (((((show PB (w.alloc (.cells #[.int .i64 a.1, .int .i64 a.2] 28 (0, 0))) w.heap.size a.1 a.2 from heap_alloc_new w _).alloc _).alloc _).alloc _).alloc _)
  have hB : Hid (PB (((((w.alloc (.cells #[.int .i64 a.1, .int .i64 a.2] 28 (0, 0))).alloc (.cells #[.int .i64 b.1, .int .i64 b.2] 28 (0, 0))).alloc (.cells #[.int .i64 c.1, .int .i64 c.2] 28 (0, 0))).alloc (.cells #[.int .i64 d.1, .int .i64 d.2] 28 (0, 0))).alloc (.cells #[.int .i64 0, .int .i64 0] 28 (0, 0))) (w.heap.size + 1) b.1 b.2) := Lib.hid ((((show PB ((w.alloc (.cells #[.int .i64 a.1, .int .i64 a.2] 28 (0, 0))).alloc (.cells #[.int .i64 b.1, .int .i64 b.2] 28 (0, 0))) (w.heap.size + 1) b.1 b.2 from by have := heap_alloc_new (w.alloc (.cells #[.int .i64 a.1, .int .i64 a.2] 28 (0, 0))) (.cells #[.int .i64 b.1, .int .i64 b.2] 28 (0, 0)); rw [show (w.alloc (.cells #[.int .i64 a.1, .int .i64 a.2] 28 (0, 0))).heap.size = w.heap.size + 1 by simp] at this; exact this).alloc _).alloc _).alloc _)
  have hC : Hid (PB (((((w.alloc (.cells #[.int .i64 a.1, .int .i64 a.2] 28 (0, 0))).alloc (.cells #[.int .i64 b.1, .int .i64 b.2] 28 (0, 0))).alloc (.cells #[.int .i64 c.1, .int .i64 c.2] 28 (0, 0))).alloc (.cells #[.int .i64 d.1, .int .i64 d.2] 28 (0, 0))).alloc (.cells #[.int .i64 0, .int .i64 0] 28 (0, 0))) (w.heap.size + 2) c.1 c.2) := Lib.hid (((show PB (((w.alloc (.cells #[.int .i64 a.1, .int .i64 a.2] 28 (0, 0))).alloc (.cells #[.int .i64 b.1, .int .i64 b.2] 28 (0, 0))).alloc (.cells #[.int .i64 c.1, .int .i64 c.2] 28 (0, 0))) (w.heap.size + 2) c.1 c.2 from by have := heap_alloc_new ((w.alloc (.cells #[.int .i64 a.1, .int .i64 a.2] 28 (0, 0))).alloc (.cells #[.int .i64 b.1, .int .i64 b.2] 28 (0, 0))) (.cells #[.int .i64 c.1, .int .i64 c.2] 28 (0, 0)); rw [show ((w.alloc (.cells #[.int .i64 a.1, .int .i64 a.2] 28 (0, 0))).alloc (.cells #[.int .i64 b.1, .int .i64 b.2] 28 (0, 0))).heap.size = w.heap.size + 2 by simp] at this; exact this).alloc _).alloc _)
  have hD : Hid (PB (((((w.alloc (.cells #[.int .i64 a.1, .int .i64 a.2] 28 (0, 0))).alloc (.cells #[.int .i64 b.1, .int .i64 b.2] 28 (0, 0))).alloc (.cells #[.int .i64 c.1, .int .i64 c.2] 28 (0, 0))).alloc (.cells #[.int .i64 d.1, .int .i64 d.2] 28 (0, 0))).alloc (.cells #[.int .i64 0, .int .i64 0] 28 (0, 0))) (w.heap.size + 3) d.1 d.2) := Lib.hid ((show PB ((((w.alloc (.cells #[.int .i64 a.1, .int .i64 a.2] 28 (0, 0))).alloc (.cells #[.int .i64 b.1, .int .i64 b.2] 28 (0, 0))).alloc (.cells #[.int .i64 c.1, .int .i64 c.2] 28 (0, 0))).alloc (.cells #[.int .i64 d.1, .int .i64 d.2] 28 (0, 0))) (w.heap.size + 3) d.1 d.2 from by have := heap_alloc_new (((w.alloc (.cells #[.int .i64 a.1, .int .i64 a.2] 28 (0, 0))).alloc (.cells #[.int .i64 b.1, .int .i64 b.2] 28 (0, 0))).alloc (.cells #[.int .i64 c.1, .int .i64 c.2] 28 (0, 0))) (.cells #[.int .i64 d.1, .int .i64 d.2] 28 (0, 0)); rw [show (((w.alloc (.cells #[.int .i64 a.1, .int .i64 a.2] 28 (0, 0))).alloc (.cells #[.int .i64 b.1, .int .i64 b.2] 28 (0, 0))).alloc (.cells #[.int .i64 c.1, .int .i64 c.2] 28 (0, 0))).heap.size = w.heap.size + 3 by simp] at this; exact this).alloc _)
  have hR : Hid (PB (((((w.alloc (.cells #[.int .i64 a.1, .int .i64 a.2] 28 (0, 0))).alloc (.cells #[.int .i64 b.1, .int .i64 b.2] 28 (0, 0))).alloc (.cells #[.int .i64 c.1, .int .i64 c.2] 28 (0, 0))).alloc (.cells #[.int .i64 d.1, .int .i64 d.2] 28 (0, 0))).alloc (.cells #[.int .i64 0, .int .i64 0] 28 (0, 0))) (w.heap.size + 4) 0 0) := by have := heap_alloc_new ((((w.alloc (.cells #[.int .i64 a.1, .int .i64 a.2] 28 (0, 0))).alloc (.cells #[.int .i64 b.1, .int .i64 b.2] 28 (0, 0))).alloc (.cells #[.int .i64 c.1, .int .i64 c.2] 28 (0, 0))).alloc (.cells #[.int .i64 d.1, .int .i64 d.2] 28 (0, 0))) (.cells #[.int .i64 0, .int .i64 0] 28 (0, 0)); rw [show ((((w.alloc (.cells #[.int .i64 a.1, .int .i64 a.2] 28 (0, 0))).alloc (.cells #[.int .i64 b.1, .int .i64 b.2] 28 (0, 0))).alloc (.cells #[.int .i64 c.1, .int .i64 c.2] 28 (0, 0))).alloc (.cells #[.int .i64 d.1, .int .i64 d.2] 28 (0, 0))).heap.size = w.heap.size + 4 by simp] at this; exact this
  obtain ⟨t1, g1⟩ : ∃ t, t = tn a b c := ⟨_, rfl⟩
  obtain ⟨t2, g2⟩ : ∃ t, t = tn a b d := ⟨_, rfl⟩
  obtain ⟨t3, g3⟩ : ∃ t, t = tn c d a := ⟨_, rfl⟩
  obtain ⟨t4, g4⟩ : ∃ t, t = tn c d b := ⟨_, rfl⟩
  have hT1 := Lib.hid (fun W dr os => Calls.regrown_of (w := W) (d := dr) (os := os) (turn_any a.1 a.2 b.1 b.2 c.1 c.2 (Go.Sort.grow (redrawn W dr) os) ha hb hc))
  have hT2 := Lib.hid (fun W dr os => Calls.regrown_of (w := W) (d := dr) (os := os) (turn_any a.1 a.2 b.1 b.2 d.1 d.2 (Go.Sort.grow (redrawn W dr) os) ha hb hd))
  have hT3 := Lib.hid (fun W dr os => Calls.regrown_of (w := W) (d := dr) (os := os) (turn_any c.1 c.2 d.1 d.2 a.1 a.2 (Go.Sort.grow (redrawn W dr) os) hc hd ha))
  have hT4 := Lib.hid (fun W dr os => Calls.regrown_of (w := W) (d := dr) (os := os) (turn_any c.1 c.2 d.1 d.2 b.1 b.2 (Go.Sort.grow (redrawn W dr) os) hc hd hb))
  rw [show turnI a.1 a.2 b.1 b.2 c.1 c.2 = t1 from g1.symm] at hT1
  rw [show turnI a.1 a.2 b.1 b.2 d.1 d.2 = t2 from g2.symm] at hT2
  rw [show turnI c.1 c.2 d.1 d.2 a.1 a.2 = t3 from g3.symm] at hT3
  rw [show turnI c.1 c.2 d.1 d.2 b.1 b.2 = t4 from g4.symm] at hT4
  obtain ⟨d1, f1⟩ : ∃ t, t = sgnI t1 := ⟨_, rfl⟩
  obtain ⟨d2, f2⟩ : ∃ t, t = sgnI t2 := ⟨_, rfl⟩
  obtain ⟨d3, f3⟩ : ∃ t, t = sgnI t3 := ⟨_, rfl⟩
  obtain ⟨d4, f4⟩ : ∃ t, t = sgnI t4 := ⟨_, rfl⟩
  have hS1 := Lib.hid (fun W dr os => calls_kept (fun W => sign_any t1 W d1 f1) W dr os)
  have hS2 := Lib.hid (fun W dr os => calls_kept (fun W => sign_any t2 W d2 f2) W dr os)
  have hS3 := Lib.hid (fun W dr os => calls_kept (fun W => sign_any t3 W d3 f3) W dr os)
  have hS4 := Lib.hid (fun W dr os => calls_kept (fun W => sign_any t4 W d4 f4) W dr os)
  have u1 : -1 ≤ d1 ∧ d1 ≤ 1 := f1 ▸ sgn_bd t1
  have u2 : -1 ≤ d2 ∧ d2 ≤ 1 := f2 ▸ sgn_bd t2
  have u3 : -1 ≤ d3 ∧ d3 ≤ 1 := f3 ▸ sgn_bd t3
  have u4 : -1 ≤ d4 ∧ d4 ≤ 1 := f4 ▸ sgn_bd t4
  obtain ⟨m12, e12⟩ : ∃ m, m = d1 * d2 := ⟨_, rfl⟩
  obtain ⟨m34, e34⟩ : ∃ m, m = d3 * d4 := ⟨_, rfl⟩
  have v12 : -1 ≤ m12 ∧ m12 ≤ 1 := by
    have h : d1 = -1 ∨ d1 = 0 ∨ d1 = 1 := by omega
    rcases h with h | h | h <;> rw [e12, h] <;> omega
  have v34 : -1 ≤ m34 ∧ m34 ≤ 1 := by
    have h : d3 = -1 ∨ d3 = 0 ∨ d3 = 1 := by omega
    rcases h with h | h | h <;> rw [e34, h] <;> omega
  have w12 : IntKind.i64.wrap (d1 * d2) = m12 := by rw [← e12]; exact wi (by omega)
  have w34 : IntKind.i64.wrap (d3 * d4) = m34 := by rw [← e34]; exact wi (by omega)
  obtain ⟨z, hz⟩ : ∃ z : Bool, Hid (z = (decide (d1 = 0) && (decide (d2 = 0) && (decide (d3 = 0) && decide (d4 = 0))))) := ⟨_, rfl⟩
  obtain ⟨x, hx⟩ : ∃ x : Bool, Hid (x = (decide (m12 < 0) && decide (m34 < 0))) := ⟨_, rfl⟩
  have hxc : Hid (crossB a b c d = x) := by
    show _ = _
    rw [hx.out, e12, e34, f1, f2, f3, f4, g1, g2, g3, g4]; rfl
  have hzx : Hid (z = true → x = false) := fun h => by
    rw [hz.out] at h
    simp only [Bool.and_eq_true, decide_eq_true_eq] at h
    rw [hx.out, e12, h.1]
    simp
  rw [hxc.out]
  have hcL := Lib.hid (fun W => lesserPt_any a b _ W rfl ha hb)
  have hcL2 := Lib.hid (fun W => lesserPt_any c d _ W rfl hc hd)
  have hcG := Lib.hid (fun W => greaterPt_any a b _ W rfl ha hb)
  have hcG2 := Lib.hid (fun W => greaterPt_any c d _ W rfl hc hd)
  have okL : pt2Ok (lesPt a b) = true ∧ pt2Ok (lesPt c d) = true ∧ pt2Ok (grePt a b) = true ∧ pt2Ok (grePt c d) = true := by
    refine ⟨?_, ?_, ?_, ?_⟩
    · rcases les_or a b with h | h <;> rw [h] <;> assumption
    · rcases les_or c d with h | h <;> rw [h] <;> assumption
    · rcases gre_or a b with h | h <;> rw [h] <;> assumption
    · rcases gre_or c d with h | h <;> rw [h] <;> assumption
  have hcM := Lib.hid (fun W => greaterPt_any (lesPt a b) (lesPt c d) _ W rfl okL.1 okL.2.1)
  have hcN := Lib.hid (fun W => lesserPt_any (grePt a b) (grePt c d) _ W rfl okL.2.2.1 okL.2.2.2)
  obtain ⟨lo, hlo⟩ : ∃ p, p = grePt (lesPt a b) (lesPt c d) := ⟨_, rfl⟩
  obtain ⟨up, hup⟩ : ∃ p, p = lesPt (grePt a b) (grePt c d) := ⟨_, rfl⟩
  have oklo : pt2Ok lo = true := by rw [hlo]; rcases gre_or (lesPt a b) (lesPt c d) with h | h <;> rw [h] <;> simp [okL]
  have okup : pt2Ok up = true := by rw [hup]; rcases les_or (grePt a b) (grePt c d) with h | h <;> rw [h] <;> simp [okL]
  rw [← hlo] at hcM
  rw [← hup] at hcN
  generalize lesPt a b = p1 at *
  generalize lesPt c d = p2 at *
  generalize grePt a b = p3 at *
  generalize grePt c d = p4 at *
  have hcC := Lib.hid (fun W => comparePt_any lo.1 lo.2 up.1 up.2 _ rfl W oklo okup)
  generalize cmpXY (lo.1, lo.2) (up.1, up.2) = cc at *
  have hO1 := Lib.hid (fun W => onSegment_any a.1 a.2 b.1 b.2 c.1 c.2 _ rfl W ha hb hc)
  have hO2 := Lib.hid (fun W => onSegment_any a.1 a.2 b.1 b.2 d.1 d.2 _ rfl W ha hb hd)
  have hO3 := Lib.hid (fun W => onSegment_any c.1 c.2 d.1 d.2 a.1 a.2 _ rfl W hc hd ha)
  have hO4 := Lib.hid (fun W => onSegment_any c.1 c.2 d.1 d.2 b.1 b.2 _ rfl W hc hd hb)
  generalize onSg (a.1, a.2) (b.1, b.2) (c.1, c.2) = o1 at *
  generalize onSg (a.1, a.2) (b.1, b.2) (d.1, d.2) = o2 at *
  generalize onSg (c.1, c.2) (d.1, d.2) (a.1, a.2) = o3 at *
  generalize onSg (c.1, c.2) (d.1, d.2) (b.1, b.2) = o4 at *
  clear g1 g2 g3 g4 f1 f2 f3 f4 ha hb hc hd okL oklo okup hlo hup e12 e34 u1 u2 u3 u4 v12 v34
  obtain ⟨ax, ay⟩ := a
  obtain ⟨bx, ey⟩ := b
  obtain ⟨cx, cy⟩ := c
  obtain ⟨dx, dy⟩ := d
  obtain ⟨lx, ly⟩ := lo
  obtain ⟨ux, uy⟩ := up
  obtain ⟨p1x, p1y⟩ := p1
  obtain ⟨p2x, p2y⟩ := p2
  obtain ⟨p3x, p3y⟩ := p3
  obtain ⟨p4x, p4y⟩ := p4
  dsimp only at *
  go_enter Tryz.func91, Tryz.ntmps91
  go_upto_region 1 with fail
  generalize (((((w.alloc (.cells #[.int .i64 ax, .int .i64 ay] 28 (0, 0))).alloc (.cells #[.int .i64 bx, .int .i64 ey] 28 (0, 0))).alloc (.cells #[.int .i64 cx, .int .i64 cy] 28 (0, 0))).alloc (.cells #[.int .i64 dx, .int .i64 dy] 28 (0, 0))).alloc (.cells #[.int .i64 0, .int .i64 0] 28 (0, 0))) = W at *
  obtain ⟨a0, a1, _, _⟩ := hA.out.cells
  obtain ⟨b0, b1, _, _⟩ := hB.out.cells
  obtain ⟨c0, c1, _, _⟩ := hC.out.cells
  obtain ⟨d0, d1', _, _⟩ := hD.out.cells
  obtain ⟨r0, r1, rf, rl⟩ := hR.out.cells
  have ka0 := fun dr os => cell_regrown a0 dr os
  have ka1 := fun dr os => cell_regrown a1 dr os
  have kb0 := fun dr os => cell_regrown b0 dr os
  have kb1 := fun dr os => cell_regrown b1 dr os
  have kc0 := fun dr os => cell_regrown c0 dr os
  have kc1 := fun dr os => cell_regrown c1 dr os
  have kd0 := fun dr os => cell_regrown d0 dr os
  have kd1 := fun dr os => cell_regrown d1' dr os
  refine wp_region_quiet_below (by kernel_rfl) (by kernel_rfl) ?_
  repeat (go_big_quiet_step (first | (with_reducible exact hT1.out _ _ _) | (with_reducible exact hT2.out _ _ _) | (with_reducible exact hT3.out _ _ _) | (with_reducible exact hT4.out _ _ _) | (with_reducible exact hS1.out _ _ _) | (with_reducible exact hS2.out _ _ _) | (with_reducible exact hS3.out _ _ _) | (with_reducible exact hS4.out _ _ _)))
  refine wpQuiet_nil ?_
  intro _ hw'
  obtain ⟨⟨dq, osq⟩, hw''⟩ := hw'
  subst hw''
  have hb1 := below_regrown W dq osq
  replace hA := Lib.hid (hA.out.below hb1)
  replace hB := Lib.hid (hB.out.below hb1)
  replace hC := Lib.hid (hC.out.below hb1)
  replace hD := Lib.hid (hD.out.below hb1)
  replace hR := Lib.hid (hR.out.below hb1)
  have hBv := Lib.hid (hb0.trans (hb1.mono hb0.size))
  clear ka0 ka1 kb0 kb1 kc0 kc1 kd0 kd1 a0 a1 b0 b1 c0 c1 d0 d1' r0 r1 rf rl hT1 hT2 hT3 hT4 hS1 hS2 hS3 hS4 hb0
  have hzW : w.heap.size + 5 ≤ (Go.Sort.grow (redrawn W dq) osq).heap.size := by have := hb1.size; omega
  clear hb1 hz0
  generalize Go.Sort.grow (redrawn W dq) osq = V at *
  go_upto_region 2 with fail
  go_cut [49] (fun sb wx => sb = .bool z ∧ V = wx)
  case first =>
    by_cases h0 : d1 = 0
    rotate_left
    · have tb : (d1 == 0) = false := by simp [h0]
      go_wp2_with fail
      go_meet
      case rel => exact ⟨by rw [hz.out, decide_eq_false (show ¬ d1 = 0 by omega)]; simp, rfl⟩
    by_cases h1 : d2 = 0
    rotate_left
    · have tb : (d2 == 0) = false := by simp [h1]
      have tb0 : (d1 == 0) = true := by simp [h0]
      go_wp2_with fail
      go_meet
      case rel => exact ⟨by rw [hz.out, decide_eq_true (show d1 = 0 by omega), decide_eq_false (show ¬ d2 = 0 by omega)]; simp, rfl⟩
    by_cases h2 : d3 = 0
    rotate_left
    · have tb : (d3 == 0) = false := by simp [h2]
      have tb0 : (d1 == 0) = true := by simp [h0]
      have tb1 : (d2 == 0) = true := by simp [h1]
      go_wp2_with fail
      go_meet
      case rel => exact ⟨by rw [hz.out, decide_eq_true (show d1 = 0 by omega), decide_eq_true (show d2 = 0 by omega), decide_eq_false (show ¬ d3 = 0 by omega)]; simp, rfl⟩
    by_cases h3 : d4 = 0
    rotate_left
    · have tb : (d4 == 0) = false := by simp [h3]
      have tb0 : (d1 == 0) = true := by simp [h0]
      have tb1 : (d2 == 0) = true := by simp [h1]
      have tb2 : (d3 == 0) = true := by simp [h2]
      go_wp2_with fail
      go_meet
      case rel => exact ⟨by rw [hz.out, decide_eq_true (show d1 = 0 by omega), decide_eq_true (show d2 = 0 by omega), decide_eq_true (show d3 = 0 by omega), decide_eq_false (show ¬ d4 = 0 by omega)]; simp, rfl⟩
    have tb0 : (d1 == 0) = true := by simp [h0]
    have tb1 : (d2 == 0) = true := by simp [h1]
    have tb2 : (d3 == 0) = true := by simp [h2]
    have tb3 : (d4 == 0) = true := by simp [h3]
    go_wp2_with fail
    go_meet
    case rel => exact ⟨by rw [hz.out, decide_eq_true (show d1 = 0 by omega), decide_eq_true (show d2 = 0 by omega), decide_eq_true (show d3 = 0 by omega), decide_eq_true (show d4 = 0 by omega)]; simp, rfl⟩
  obtain ⟨rfl, hwx⟩ := hcut
  subst hwx
  cases z with
  | false =>
    clear hz hzx hcL hcL2 hcG hcG2 hcM hcN hcC
    go_upto_region 11 with fail
    go_cut [83] (fun sb wx => sb = .bool x ∧ V = wx)
    case first =>
      by_cases h0 : m12 < 0
      rotate_left
      · go_wp2_with fail
        go_meet
        case rel => exact ⟨by rw [hx.out, decide_eq_false (show ¬ m12 < 0 by omega)]; simp, rfl⟩
      by_cases h1 : m34 < 0
      rotate_left
      · go_wp2_with fail
        go_meet
        case rel => exact ⟨by rw [hx.out, decide_eq_true (show m12 < 0 by omega), decide_eq_false (show ¬ m34 < 0 by omega)]; simp, rfl⟩
      go_wp2_with fail
      go_meet
      case rel => exact ⟨by rw [hx.out, decide_eq_true (show m12 < 0 by omega), decide_eq_true (show m34 < 0 by omega)]; simp, rfl⟩
    obtain ⟨rfl, hwx⟩ := hcut
    subst hwx
    cases x with
    | true =>
      obtain ⟨r0, r1, rf, rl⟩ := hR.out.cells
      go_wp2_with fail
      obtain ⟨s0, s1, _, _⟩ := (hR.out.put 0 0).cells
      have hBf := hBv.out
      refine bodyPost_ret (v := .tuple #[.int .i64 2, .agg #[.int .i64 0, .int .i64 0]]) (by simp [results, Tryz.results91, go_sem, s0, s1]) rfl ?_
      first | refine ⟨2, (0, 0), rfl, by simp, ?_⟩ | refine ⟨2, ⟨0, 0, rfl⟩, by simp, ?_⟩
      first | (refine Below.setCell (Below.setCell hBf ?_ _) ?_ _ <;> exact Nat.le_add_right _ 4) | (refine Below.setCell (Below.setCell hBf.drew ?_ _) ?_ _ <;> exact Nat.le_add_right _ 4) | (trace_state; fail)
    | false =>
      obtain ⟨a0, a1, _, _⟩ := hA.out.cells
      obtain ⟨b0, b1, _, _⟩ := hB.out.cells
      obtain ⟨c0, c1, _, _⟩ := hC.out.cells
      obtain ⟨d0, d1', _, _⟩ := hD.out.cells
      obtain ⟨r0, r1, rf, rl⟩ := hR.out.cells
      go_wp2_with fail
      refine (hO1.out _).mono ?_
      rintro e w1 ⟨rfl, hb1⟩
      clear a0 a1 b0 b1 c0 c1 d0 d1' r0 r1 rf rl
      have hz_w1 : w.heap.size + 5 ≤ w1.heap.size := by have := hb1.size; omega
      replace hA := Lib.hid (hA.out.below hb1)
      replace hB := Lib.hid (hB.out.below hb1)
      replace hC := Lib.hid (hC.out.below hb1)
      replace hD := Lib.hid (hD.out.below hb1)
      replace hR := Lib.hid (hR.out.below hb1)
      replace hBv := Lib.hid (hBv.out.trans (hb1.mono (by omega)))
      clear hb1
      cases o1 with
      | true =>
        obtain ⟨a0, a1, _, _⟩ := hA.out.cells
        obtain ⟨b0, b1, _, _⟩ := hB.out.cells
        obtain ⟨c0, c1, _, _⟩ := hC.out.cells
        obtain ⟨d0, d1', _, _⟩ := hD.out.cells
        obtain ⟨r0, r1, rf, rl⟩ := hR.out.cells
        go_upto_region 14 with fail
        go_region
        all_goals go_wp2_with fail
        all_goals
          obtain ⟨s0, s1, _, _⟩ := (hR.out.put cx cy).cells
          have hBf := hBv.out
          refine bodyPost_ret (v := .tuple #[.int .i64 1, .agg #[.int .i64 cx, .int .i64 cy]]) (by simp [results, Tryz.results91, go_sem, s0, s1]) rfl ?_
          first | refine ⟨1, (cx, cy), rfl, by simp, ?_⟩ | refine ⟨1, ⟨cx, cy, rfl⟩, by simp, ?_⟩
          first | (refine Below.setCell (Below.setCell hBf ?_ _) ?_ _ <;> exact Nat.le_add_right _ 4) | (refine Below.setCell (Below.setCell hBf.drew ?_ _) ?_ _ <;> exact Nat.le_add_right _ 4) | (trace_state; fail)
      | false =>
        obtain ⟨a0, a1, _, _⟩ := hA.out.cells
        obtain ⟨b0, b1, _, _⟩ := hB.out.cells
        obtain ⟨c0, c1, _, _⟩ := hC.out.cells
        obtain ⟨d0, d1', _, _⟩ := hD.out.cells
        obtain ⟨r0, r1, rf, rl⟩ := hR.out.cells
        go_wp2_with fail
        refine (hO2.out _).mono ?_
        rintro e w2 ⟨rfl, hb1⟩
        clear a0 a1 b0 b1 c0 c1 d0 d1' r0 r1 rf rl
        have hz_w2 : w.heap.size + 5 ≤ w2.heap.size := by have := hb1.size; omega
        replace hA := Lib.hid (hA.out.below hb1)
        replace hB := Lib.hid (hB.out.below hb1)
        replace hC := Lib.hid (hC.out.below hb1)
        replace hD := Lib.hid (hD.out.below hb1)
        replace hR := Lib.hid (hR.out.below hb1)
        replace hBv := Lib.hid (hBv.out.trans (hb1.mono (by omega)))
        clear hb1
        cases o2 with
        | true =>
          obtain ⟨a0, a1, _, _⟩ := hA.out.cells
          obtain ⟨b0, b1, _, _⟩ := hB.out.cells
          obtain ⟨c0, c1, _, _⟩ := hC.out.cells
          obtain ⟨d0, d1', _, _⟩ := hD.out.cells
          obtain ⟨r0, r1, rf, rl⟩ := hR.out.cells
          go_upto_region 16 with fail
          go_region
          all_goals go_wp2_with fail
          all_goals
            obtain ⟨s0, s1, _, _⟩ := (hR.out.put dx dy).cells
            have hBf := hBv.out
            refine bodyPost_ret (v := .tuple #[.int .i64 1, .agg #[.int .i64 dx, .int .i64 dy]]) (by simp [results, Tryz.results91, go_sem, s0, s1]) rfl ?_
            first | refine ⟨1, (dx, dy), rfl, by simp, ?_⟩ | refine ⟨1, ⟨dx, dy, rfl⟩, by simp, ?_⟩
            first | (refine Below.setCell (Below.setCell hBf ?_ _) ?_ _ <;> exact Nat.le_add_right _ 4) | (refine Below.setCell (Below.setCell hBf.drew ?_ _) ?_ _ <;> exact Nat.le_add_right _ 4) | (trace_state; fail)
        | false =>
          obtain ⟨a0, a1, _, _⟩ := hA.out.cells
          obtain ⟨b0, b1, _, _⟩ := hB.out.cells
          obtain ⟨c0, c1, _, _⟩ := hC.out.cells
          obtain ⟨d0, d1', _, _⟩ := hD.out.cells
          obtain ⟨r0, r1, rf, rl⟩ := hR.out.cells
          go_wp2_with fail
          refine (hO3.out _).mono ?_
          rintro e w3 ⟨rfl, hb1⟩
          clear a0 a1 b0 b1 c0 c1 d0 d1' r0 r1 rf rl
          have hz_w3 : w.heap.size + 5 ≤ w3.heap.size := by have := hb1.size; omega
          replace hA := Lib.hid (hA.out.below hb1)
          replace hB := Lib.hid (hB.out.below hb1)
          replace hC := Lib.hid (hC.out.below hb1)
          replace hD := Lib.hid (hD.out.below hb1)
          replace hR := Lib.hid (hR.out.below hb1)
          replace hBv := Lib.hid (hBv.out.trans (hb1.mono (by omega)))
          clear hb1
          cases o3 with
          | true =>
            obtain ⟨a0, a1, _, _⟩ := hA.out.cells
            obtain ⟨b0, b1, _, _⟩ := hB.out.cells
            obtain ⟨c0, c1, _, _⟩ := hC.out.cells
            obtain ⟨d0, d1', _, _⟩ := hD.out.cells
            obtain ⟨r0, r1, rf, rl⟩ := hR.out.cells
            go_upto_region 18 with fail
            go_region
            all_goals go_wp2_with fail
            all_goals
              obtain ⟨s0, s1, _, _⟩ := (hR.out.put ax ay).cells
              have hBf := hBv.out
              refine bodyPost_ret (v := .tuple #[.int .i64 1, .agg #[.int .i64 ax, .int .i64 ay]]) (by simp [results, Tryz.results91, go_sem, s0, s1]) rfl ?_
              first | refine ⟨1, (ax, ay), rfl, by simp, ?_⟩ | refine ⟨1, ⟨ax, ay, rfl⟩, by simp, ?_⟩
              first | (refine Below.setCell (Below.setCell hBf ?_ _) ?_ _ <;> exact Nat.le_add_right _ 4) | (refine Below.setCell (Below.setCell hBf.drew ?_ _) ?_ _ <;> exact Nat.le_add_right _ 4) | (trace_state; fail)
          | false =>
            obtain ⟨a0, a1, _, _⟩ := hA.out.cells
            obtain ⟨b0, b1, _, _⟩ := hB.out.cells
            obtain ⟨c0, c1, _, _⟩ := hC.out.cells
            obtain ⟨d0, d1', _, _⟩ := hD.out.cells
            obtain ⟨r0, r1, rf, rl⟩ := hR.out.cells
            go_wp2_with fail
            refine (hO4.out _).mono ?_
            rintro e w4 ⟨rfl, hb1⟩
            clear a0 a1 b0 b1 c0 c1 d0 d1' r0 r1 rf rl
            have hz_w4 : w.heap.size + 5 ≤ w4.heap.size := by have := hb1.size; omega
            replace hA := Lib.hid (hA.out.below hb1)
            replace hB := Lib.hid (hB.out.below hb1)
            replace hC := Lib.hid (hC.out.below hb1)
            replace hD := Lib.hid (hD.out.below hb1)
            replace hR := Lib.hid (hR.out.below hb1)
            replace hBv := Lib.hid (hBv.out.trans (hb1.mono (by omega)))
            clear hb1
            cases o4 with
            | true =>
              obtain ⟨a0, a1, _, _⟩ := hA.out.cells
              obtain ⟨b0, b1, _, _⟩ := hB.out.cells
              obtain ⟨c0, c1, _, _⟩ := hC.out.cells
              obtain ⟨d0, d1', _, _⟩ := hD.out.cells
              obtain ⟨r0, r1, rf, rl⟩ := hR.out.cells
              go_upto_region 20 with fail
              go_region
              all_goals go_wp2_with fail
              all_goals
                obtain ⟨s0, s1, _, _⟩ := (hR.out.put bx ey).cells
                have hBf := hBv.out
                refine bodyPost_ret (v := .tuple #[.int .i64 1, .agg #[.int .i64 bx, .int .i64 ey]]) (by simp [results, Tryz.results91, go_sem, s0, s1]) rfl ?_
                first | refine ⟨1, (bx, ey), rfl, by simp, ?_⟩ | refine ⟨1, ⟨bx, ey, rfl⟩, by simp, ?_⟩
                first | (refine Below.setCell (Below.setCell hBf ?_ _) ?_ _ <;> exact Nat.le_add_right _ 4) | (refine Below.setCell (Below.setCell hBf.drew ?_ _) ?_ _ <;> exact Nat.le_add_right _ 4) | (trace_state; fail)
            | false =>
              obtain ⟨r0, r1, rf, rl⟩ := hR.out.cells
              go_wp2_with fail
              obtain ⟨s0, s1, _, _⟩ := (hR.out.put 0 0).cells
              have hBf := hBv.out
              refine bodyPost_ret (v := .tuple #[.int .i64 0, .agg #[.int .i64 0, .int .i64 0]]) (by simp [results, Tryz.results91, go_sem, s0, s1]) rfl ?_
              first | refine ⟨0, (0, 0), rfl, by simp, ?_⟩ | refine ⟨0, ⟨0, 0, rfl⟩, by simp, ?_⟩
              first | (refine Below.setCell (Below.setCell hBf ?_ _) ?_ _ <;> exact Nat.le_add_right _ 4) | (refine Below.setCell (Below.setCell hBf.drew ?_ _) ?_ _ <;> exact Nat.le_add_right _ 4) | (trace_state; fail)
  | true =>
    have hxf := hzx.out rfl
    subst hxf
    clear hz hzx hx hxc hO1 hO2 hO3 hO4
    have hS := Lib.hid (fun (W : World) (hb : Below V.heap.size V W) => (show W.cell? ⟨w.heap.size, 0, none⟩ = some (.int .i64 ax) ∧ W.cell? ⟨w.heap.size, 1, none⟩ = some (.int .i64 ay) ∧ W.cell? ⟨w.heap.size + 1, 0, none⟩ = some (.int .i64 bx) ∧ W.cell? ⟨w.heap.size + 1, 1, none⟩ = some (.int .i64 ey) ∧ W.cell? ⟨w.heap.size + 2, 0, none⟩ = some (.int .i64 cx) ∧ W.cell? ⟨w.heap.size + 2, 1, none⟩ = some (.int .i64 cy) ∧ W.cell? ⟨w.heap.size + 3, 0, none⟩ = some (.int .i64 dx) ∧ W.cell? ⟨w.heap.size + 3, 1, none⟩ = some (.int .i64 dy) from ⟨(hA.out.below hb).cells.1, (hA.out.below hb).cells.2.1, (hB.out.below hb).cells.1, (hB.out.below hb).cells.2.1, (hC.out.below hb).cells.1, (hC.out.below hb).cells.2.1, (hD.out.below hb).cells.1, (hD.out.below hb).cells.2.1⟩))
    have hQ : Hid (Below V.heap.size V V.drew) := Below.drew (Below.refl _ _)
    go_upto_region 3 with fail
    go_cut [14] (fun s wx => ∃ X, s = .pointer (some ⟨X, 0, none⟩) ∧ PB wx X lx ly ∧ V.heap.size ≤ X ∧ Below V.heap.size V wx)
    case first =>
      go_region_held3 (fun w' => w'.cell? ⟨w.heap.size, 0, none⟩ = some (.int .i64 ax) ∧ w'.cell? ⟨w.heap.size, 1, none⟩ = some (.int .i64 ay) ∧ w'.cell? ⟨w.heap.size + 1, 0, none⟩ = some (.int .i64 bx) ∧ w'.cell? ⟨w.heap.size + 1, 1, none⟩ = some (.int .i64 ey) ∧ w'.cell? ⟨w.heap.size + 2, 0, none⟩ = some (.int .i64 cx) ∧ w'.cell? ⟨w.heap.size + 2, 1, none⟩ = some (.int .i64 cy) ∧ w'.cell? ⟨w.heap.size + 3, 0, none⟩ = some (.int .i64 dx) ∧ w'.cell? ⟨w.heap.size + 3, 1, none⟩ = some (.int .i64 dy)) (first | (refine hS.out _ ?_; first | exact Below.refl _ _ | exact hQ.out | exact hQ.out.alloc hQ.out.size _ | (refine Below.setCell (Below.setCell ?_ hXV.out _) hXV.out _; first | exact hQ.out | exact hQ.out.alloc hQ.out.size _) | (refine Below.setCell (Below.setCell (hQ.out.alloc hQ.out.size _) hQ.out.size _) hQ.out.size _))) (first | (go_at_call 102; (with_reducible refine (hcL.out _).mono ?_); rintro e w4 ⟨rfl, hb4⟩; (have hQ1 := (by first | exact Lib.hid (hQ.out.trans (hb4.mono hQ.out.size)) | exact Lib.hid ((hQ.out.alloc hQ.out.size _).trans (hb4.mono (hQ.out.alloc hQ.out.size _).size)) : Hid (Below V.heap.size V w4)); (first | (have hX1 := Lib.hid ((hb4.block _ (by have := hX.out; exact (Array.getElem?_eq_some_iff.1 this).1)).trans hX.out); clear hX; have hX := hX1; clear hX1; obtain ⟨x0, x1, xf, xl⟩ := PB.cells hX.out) | (have hX := Lib.hid ((hb4.block _ (by simp)).trans (heap_alloc_new _ _)); have hXV := Lib.hid (hQ.out.size); obtain ⟨x0, x1, xf, xl⟩ := PB.cells hX.out) | skip); clear hQ hb4; have hQ := hQ1; clear hQ1; dsimp only)) | (go_at_call 102; (with_reducible refine (hcL2.out _).mono ?_); rintro e w4 ⟨rfl, hb4⟩; (have hQ1 := (by first | exact Lib.hid (hQ.out.trans (hb4.mono hQ.out.size)) | exact Lib.hid ((hQ.out.alloc hQ.out.size _).trans (hb4.mono (hQ.out.alloc hQ.out.size _).size)) : Hid (Below V.heap.size V w4)); (first | (have hX1 := Lib.hid ((hb4.block _ (by have := hX.out; exact (Array.getElem?_eq_some_iff.1 this).1)).trans hX.out); clear hX; have hX := hX1; clear hX1; obtain ⟨x0, x1, xf, xl⟩ := PB.cells hX.out) | (have hX := Lib.hid ((hb4.block _ (by simp)).trans (heap_alloc_new _ _)); have hXV := Lib.hid (hQ.out.size); obtain ⟨x0, x1, xf, xl⟩ := PB.cells hX.out) | skip); clear hQ hb4; have hQ := hQ1; clear hQ1; dsimp only)) | (go_at_call 101; (with_reducible refine (hcM.out _).mono ?_); rintro e w4 ⟨rfl, hb4⟩; (have hQ1 := (by first | exact Lib.hid (hQ.out.trans (hb4.mono hQ.out.size)) | exact Lib.hid ((hQ.out.alloc hQ.out.size _).trans (hb4.mono (hQ.out.alloc hQ.out.size _).size)) : Hid (Below V.heap.size V w4)); (first | (have hX1 := Lib.hid ((hb4.block _ (by have := hX.out; exact (Array.getElem?_eq_some_iff.1 this).1)).trans hX.out); clear hX; have hX := hX1; clear hX1; obtain ⟨x0, x1, xf, xl⟩ := PB.cells hX.out) | (have hX := Lib.hid ((hb4.block _ (by simp)).trans (heap_alloc_new _ _)); have hXV := Lib.hid (hQ.out.size); obtain ⟨x0, x1, xf, xl⟩ := PB.cells hX.out) | skip); clear hQ hb4; have hQ := hQ1; clear hQ1; dsimp only)))
      all_goals go_wp2_with fail
      all_goals go_meet
      all_goals exact ⟨_, rfl, by first | exact PB.put hX.out _ _ | exact heap_alloc_new _ _, by first | exact hXV.out | exact hQ.out.size, by first | exact Below.setCell (Below.setCell hQ.out hXV.out _) hXV.out _ | exact hQ.out.alloc hQ.out.size _⟩
    obtain ⟨w1X, rfl, hP1, hw1V, hb1⟩ := hcut
    generalize wc = w1 at *
    replace hP1 := Lib.hid hP1
    clear hQ hS
    have hz_w1 : w.heap.size + 5 ≤ w1.heap.size := by have := hb1.size; omega
    replace hA := Lib.hid (hA.out.below hb1)
    replace hB := Lib.hid (hB.out.below hb1)
    replace hC := Lib.hid (hC.out.below hb1)
    replace hD := Lib.hid (hD.out.below hb1)
    replace hR := Lib.hid (hR.out.below hb1)
    replace hBv := Lib.hid (hBv.out.trans (hb1.mono (by omega)))
    clear hb1
    have hv1 := hw1V
    have hS := Lib.hid (fun (W : World) (hb : Below w1.heap.size w1 W) => (show W.cell? ⟨w.heap.size, 0, none⟩ = some (.int .i64 ax) ∧ W.cell? ⟨w.heap.size, 1, none⟩ = some (.int .i64 ay) ∧ W.cell? ⟨w.heap.size + 1, 0, none⟩ = some (.int .i64 bx) ∧ W.cell? ⟨w.heap.size + 1, 1, none⟩ = some (.int .i64 ey) ∧ W.cell? ⟨w.heap.size + 2, 0, none⟩ = some (.int .i64 cx) ∧ W.cell? ⟨w.heap.size + 2, 1, none⟩ = some (.int .i64 cy) ∧ W.cell? ⟨w.heap.size + 3, 0, none⟩ = some (.int .i64 dx) ∧ W.cell? ⟨w.heap.size + 3, 1, none⟩ = some (.int .i64 dy) from ⟨(hA.out.below hb).cells.1, (hA.out.below hb).cells.2.1, (hB.out.below hb).cells.1, (hB.out.below hb).cells.2.1, (hC.out.below hb).cells.1, (hC.out.below hb).cells.2.1, (hD.out.below hb).cells.1, (hD.out.below hb).cells.2.1⟩))
    have hQ : Hid (Below w1.heap.size w1 w1.drew) := Below.drew (Below.refl _ _)
    go_upto_region 4 with fail
    go_cut [15] (fun s wx => ∃ X, s = .pointer (some ⟨X, 0, none⟩) ∧ PB wx X ux uy ∧ w1.heap.size ≤ X ∧ Below w1.heap.size w1 wx)
    case first =>
      go_region_held3 (fun w' => w'.cell? ⟨w.heap.size, 0, none⟩ = some (.int .i64 ax) ∧ w'.cell? ⟨w.heap.size, 1, none⟩ = some (.int .i64 ay) ∧ w'.cell? ⟨w.heap.size + 1, 0, none⟩ = some (.int .i64 bx) ∧ w'.cell? ⟨w.heap.size + 1, 1, none⟩ = some (.int .i64 ey) ∧ w'.cell? ⟨w.heap.size + 2, 0, none⟩ = some (.int .i64 cx) ∧ w'.cell? ⟨w.heap.size + 2, 1, none⟩ = some (.int .i64 cy) ∧ w'.cell? ⟨w.heap.size + 3, 0, none⟩ = some (.int .i64 dx) ∧ w'.cell? ⟨w.heap.size + 3, 1, none⟩ = some (.int .i64 dy)) (first | (refine hS.out _ ?_; first | exact Below.refl _ _ | exact hQ.out | exact hQ.out.alloc hQ.out.size _ | (refine Below.setCell (Below.setCell ?_ hXV.out _) hXV.out _; first | exact hQ.out | exact hQ.out.alloc hQ.out.size _) | (refine Below.setCell (Below.setCell (hQ.out.alloc hQ.out.size _) hQ.out.size _) hQ.out.size _))) (first | (go_at_call 101; (with_reducible refine (hcG.out _).mono ?_); rintro e w4 ⟨rfl, hb4⟩; (have hQ1 := (by first | exact Lib.hid (hQ.out.trans (hb4.mono hQ.out.size)) | exact Lib.hid ((hQ.out.alloc hQ.out.size _).trans (hb4.mono (hQ.out.alloc hQ.out.size _).size)) : Hid (Below w1.heap.size w1 w4)); (first | (have hX1 := Lib.hid ((hb4.block _ (by have := hX.out; exact (Array.getElem?_eq_some_iff.1 this).1)).trans hX.out); clear hX; have hX := hX1; clear hX1; obtain ⟨x0, x1, xf, xl⟩ := PB.cells hX.out) | (have hX := Lib.hid ((hb4.block _ (by simp)).trans (heap_alloc_new _ _)); have hXV := Lib.hid (hQ.out.size); obtain ⟨x0, x1, xf, xl⟩ := PB.cells hX.out) | skip); clear hQ hb4; have hQ := hQ1; clear hQ1; dsimp only)) | (go_at_call 101; (with_reducible refine (hcG2.out _).mono ?_); rintro e w4 ⟨rfl, hb4⟩; (have hQ1 := (by first | exact Lib.hid (hQ.out.trans (hb4.mono hQ.out.size)) | exact Lib.hid ((hQ.out.alloc hQ.out.size _).trans (hb4.mono (hQ.out.alloc hQ.out.size _).size)) : Hid (Below w1.heap.size w1 w4)); (first | (have hX1 := Lib.hid ((hb4.block _ (by have := hX.out; exact (Array.getElem?_eq_some_iff.1 this).1)).trans hX.out); clear hX; have hX := hX1; clear hX1; obtain ⟨x0, x1, xf, xl⟩ := PB.cells hX.out) | (have hX := Lib.hid ((hb4.block _ (by simp)).trans (heap_alloc_new _ _)); have hXV := Lib.hid (hQ.out.size); obtain ⟨x0, x1, xf, xl⟩ := PB.cells hX.out) | skip); clear hQ hb4; have hQ := hQ1; clear hQ1; dsimp only)) | (go_at_call 102; (with_reducible refine (hcN.out _).mono ?_); rintro e w4 ⟨rfl, hb4⟩; (have hQ1 := (by first | exact Lib.hid (hQ.out.trans (hb4.mono hQ.out.size)) | exact Lib.hid ((hQ.out.alloc hQ.out.size _).trans (hb4.mono (hQ.out.alloc hQ.out.size _).size)) : Hid (Below w1.heap.size w1 w4)); (first | (have hX1 := Lib.hid ((hb4.block _ (by have := hX.out; exact (Array.getElem?_eq_some_iff.1 this).1)).trans hX.out); clear hX; have hX := hX1; clear hX1; obtain ⟨x0, x1, xf, xl⟩ := PB.cells hX.out) | (have hX := Lib.hid ((hb4.block _ (by simp)).trans (heap_alloc_new _ _)); have hXV := Lib.hid (hQ.out.size); obtain ⟨x0, x1, xf, xl⟩ := PB.cells hX.out) | skip); clear hQ hb4; have hQ := hQ1; clear hQ1; dsimp only)))
      all_goals go_wp2_with fail
      all_goals go_meet
      all_goals exact ⟨_, rfl, by first | exact PB.put hX.out _ _ | exact heap_alloc_new _ _, by first | exact hXV.out | exact hQ.out.size, by first | exact Below.setCell (Below.setCell hQ.out hXV.out _) hXV.out _ | exact hQ.out.alloc hQ.out.size _⟩
    obtain ⟨w2X, rfl, hP2, hw2V, hb1⟩ := hcut
    generalize wc = w2 at *
    replace hP2 := Lib.hid hP2
    clear hQ hS
    have hz_w2 : w.heap.size + 5 ≤ w2.heap.size := by have := hb1.size; omega
    replace hA := Lib.hid (hA.out.below hb1)
    replace hB := Lib.hid (hB.out.below hb1)
    replace hC := Lib.hid (hC.out.below hb1)
    replace hD := Lib.hid (hD.out.below hb1)
    replace hR := Lib.hid (hR.out.below hb1)
    replace hBv := Lib.hid (hBv.out.trans (hb1.mono (by omega)))
    replace hP1 := Lib.hid (hP1.out.below hb1)
    clear hb1
    obtain ⟨x0, x1, xf, xl⟩ := PB.cells hP1.out
    obtain ⟨y0, y1, yf, yl⟩ := PB.cells hP2.out
    go_wp2_with fail
    refine (hcC.out _).mono ?_
    rintro e w3 ⟨rfl, q, os, rfl⟩
    have hb1 : Below w2.heap.size w2 (Go.Sort.grow (w2.drewN q) os) := below_drewN_grow w2 q os
    generalize Go.Sort.grow (w2.drewN q) os = w3 at *
    replace hP1 := Lib.hid (hP1.out.below hb1)
    have hz_w3 : w.heap.size + 5 ≤ w3.heap.size := by have := hb1.size; omega
    replace hA := Lib.hid (hA.out.below hb1)
    replace hB := Lib.hid (hB.out.below hb1)
    replace hC := Lib.hid (hC.out.below hb1)
    replace hD := Lib.hid (hD.out.below hb1)
    replace hR := Lib.hid (hR.out.below hb1)
    replace hBv := Lib.hid (hBv.out.trans (hb1.mono (by omega)))
    clear hb1
    clear x0 x1 xf xl y0 y1 yf yl
    obtain ⟨x0, x1, xf, xl⟩ := PB.cells hP1.out
    obtain ⟨r0, r1, rf, rl⟩ := hR.out.cells
    by_cases q0 : cc = 0
    · go_upto_region 7 with fail
      go_region
      all_goals go_wp2_with fail
      all_goals
        obtain ⟨s0, s1, _, _⟩ := (hR.out.put lx ly).cells
        have hBf := hBv.out
        refine bodyPost_ret (v := .tuple #[.int .i64 1, .agg #[.int .i64 lx, .int .i64 ly]]) (by simp [results, Tryz.results91, go_sem, s0, s1]) rfl ?_
        first | refine ⟨1, (lx, ly), rfl, by simp, ?_⟩ | refine ⟨1, ⟨lx, ly, rfl⟩, by simp, ?_⟩
        first | (refine Below.setCell (Below.setCell hBf ?_ _) ?_ _ <;> exact Nat.le_add_right _ 4) | (refine Below.setCell (Below.setCell hBf.drew ?_ _) ?_ _ <;> exact Nat.le_add_right _ 4) | (trace_state; fail)
    · by_cases q1 : cc = -1
      · go_upto_region 9 with fail
        go_region
        all_goals go_wp2_with fail
        all_goals
          obtain ⟨s0, s1, _, _⟩ := (hR.out.put lx ly).cells
          have hBf := hBv.out
          refine bodyPost_ret (v := .tuple #[.int .i64 3, .agg #[.int .i64 lx, .int .i64 ly]]) (by simp [results, Tryz.results91, go_sem, s0, s1]) rfl ?_
          first | refine ⟨3, (lx, ly), rfl, by simp, ?_⟩ | refine ⟨3, ⟨lx, ly, rfl⟩, by simp, ?_⟩
          first | (refine Below.setCell (Below.setCell hBf ?_ _) ?_ _ <;> exact Nat.le_add_right _ 4) | (refine Below.setCell (Below.setCell hBf.drew ?_ _) ?_ _ <;> exact Nat.le_add_right _ 4) | (trace_state; fail)
      · go_wp2_with fail
        obtain ⟨s0, s1, _, _⟩ := (hR.out.put 0 0).cells
        have hBf := hBv.out
        refine bodyPost_ret (v := .tuple #[.int .i64 0, .agg #[.int .i64 0, .int .i64 0]]) (by simp [results, Tryz.results91, go_sem, s0, s1]) rfl ?_
        first | refine ⟨0, (0, 0), rfl, by simp, ?_⟩ | refine ⟨0, ⟨0, 0, rfl⟩, by simp, ?_⟩
        first | (refine Below.setCell (Below.setCell hBf ?_ _) ?_ _ <;> exact Nat.le_add_right _ 4) | (refine Below.setCell (Below.setCell hBf.drew ?_ _) ?_ _ <;> exact Nat.le_add_right _ 4) | (trace_state; fail)
end Go.Proofs.YtlifiioflkhkoaaGreat

