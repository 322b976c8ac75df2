/- A point on a segment: the reference. Printed by mk_wd1.py. Conditions: as each states. -/
import Derived.Deep.RegionHeld3
import Derived.Deep.DeepCutAuto
import Derived.Test.YtlifiioflkhkoaaGreatFr27
import Derived.Test.YtlifiioflkhkoaaGreatFr15
import Derived.Test.YtlifiioflkhkoaaGreatFr18
import Derived.Test.YtlifiioflkhkoaaGreatFr37
namespace Go.Proofs.YtlifiioflkhkoaaGreat
open Go.RowKit
set_option linter.unusedVariables false
set_option maxRecDepth 100000
set_option linter.unusedSimpArgs false

theorem l00Min_k (a b : Int) (m : Int) (hm : m = min a b) (w : World) : Calls Tryz.prog 75 #[.int .i64 a, .int .i64 b] w fun e w' => e = .returned (.int .i64 m) ∧ w' = w := by
  by_cases h : a < b
  · have hma : m = a := by omega
    subst hma
    clear hm
    go_enter Tryz.func75, Tryz.ntmps75
    go_wp2_with fail
    go_ret
    exact ⟨rfl, rfl⟩
  · have hma : m = b := by omega
    subst hma
    clear hm
    go_enter Tryz.func75, Tryz.ntmps75
    go_wp2_with fail
    go_ret
    exact ⟨rfl, rfl⟩
theorem l00Max_k (a b : Int) (m : Int) (hm : m = max a b) (w : World) : Calls Tryz.prog 76 #[.int .i64 a, .int .i64 b] w fun e w' => e = .returned (.int .i64 m) ∧ w' = w := by
  by_cases h : b < a
  · have hma : m = a := by omega
    subst hma
    clear hm
    go_enter Tryz.func76, Tryz.ntmps76
    go_wp2_with fail
    go_ret
    exact ⟨rfl, rfl⟩
  · have hma : m = b := by omega
    subst hma
    clear hm
    go_enter Tryz.func76, Tryz.ntmps76
    go_wp2_with fail
    go_ret
    exact ⟨rfl, rfl⟩
/-- a point in the box of two points -/
def bxB (ax ay bx ey px py : Int) : Bool := decide (min ax bx ≤ px) && decide (px ≤ max ax bx) && decide (min ay ey ≤ py) && decide (py ≤ max ay ey)
def onB (ax ay bx ey px py : Int) : Bool := decide (turnI ax ay bx ey px py = 0) && bxB ax ay bx ey px py
theorem onB_iff {a b p : Pnt} : onB a.1 a.2 b.1 b.2 p.1 p.2 = true ↔ onE a b p := by
  unfold onB bxB onE tn
  simp only [Bool.and_eq_true, decide_eq_true_eq, and_assoc]

set_option maxHeartbeats 4000000 in
theorem l03Box_any (ax ay bx ey px py : Int) (v : Bool) (hv : v = bxB ax ay bx ey px py) (w : World) :
    Calls Tryz.prog 64 #[.agg #[.int .i64 ax, .int .i64 ay], .agg #[.int .i64 bx, .int .i64 ey], .agg #[.int .i64 px, .int .i64 py]] w fun e w' => e = .returned (.bool v) ∧ Below w.heap.size w w' := by
  have hB0 : Below w.heap.size w (((w.alloc (.cells #[.int .i64 ax, .int .i64 ay] 28 (0, 0))).alloc (.cells #[.int .i64 bx, .int .i64 ey] 28 (0, 0))).alloc (.cells #[.int .i64 px, .int .i64 py] 28 (0, 0))) := ((Go.Joins.below_alloc2 w _ _).alloc (by simp; omega) _)
  have hnew := heap_new0 w (.cells #[.int .i64 ax, .int .i64 ay] 28 (0, 0)) (.cells #[.int .i64 bx, .int .i64 ey] 28 (0, 0)) (.cells #[.int .i64 px, .int .i64 py] 28 (0, 0))
  obtain ⟨n0, n1, n2⟩ := hnew
  have k0 : (((w.alloc (.cells #[.int .i64 ax, .int .i64 ay] 28 (0, 0))).alloc (.cells #[.int .i64 bx, .int .i64 ey] 28 (0, 0))).alloc (.cells #[.int .i64 px, .int .i64 py] 28 (0, 0))).cell? ⟨w.heap.size, 0, none⟩ = some (.int .i64 ax) := by rw [Go.Joins.cell_of_block n0]; rfl
  have k1 : (((w.alloc (.cells #[.int .i64 ax, .int .i64 ay] 28 (0, 0))).alloc (.cells #[.int .i64 bx, .int .i64 ey] 28 (0, 0))).alloc (.cells #[.int .i64 px, .int .i64 py] 28 (0, 0))).cell? ⟨w.heap.size, 1, none⟩ = some (.int .i64 ay) := by rw [Go.Joins.cell_of_block n0]; rfl
  have k2 : (((w.alloc (.cells #[.int .i64 ax, .int .i64 ay] 28 (0, 0))).alloc (.cells #[.int .i64 bx, .int .i64 ey] 28 (0, 0))).alloc (.cells #[.int .i64 px, .int .i64 py] 28 (0, 0))).cell? ⟨w.heap.size + 1, 0, none⟩ = some (.int .i64 bx) := by rw [Go.Joins.cell_of_block n1]; rfl
  have k3 : (((w.alloc (.cells #[.int .i64 ax, .int .i64 ay] 28 (0, 0))).alloc (.cells #[.int .i64 bx, .int .i64 ey] 28 (0, 0))).alloc (.cells #[.int .i64 px, .int .i64 py] 28 (0, 0))).cell? ⟨w.heap.size + 1, 1, none⟩ = some (.int .i64 ey) := by rw [Go.Joins.cell_of_block n1]; rfl
  have k4 : (((w.alloc (.cells #[.int .i64 ax, .int .i64 ay] 28 (0, 0))).alloc (.cells #[.int .i64 bx, .int .i64 ey] 28 (0, 0))).alloc (.cells #[.int .i64 px, .int .i64 py] 28 (0, 0))).cell? ⟨w.heap.size + 2, 0, none⟩ = some (.int .i64 px) := by rw [Go.Joins.cell_of_block n2]; rfl
  have k5 : (((w.alloc (.cells #[.int .i64 ax, .int .i64 ay] 28 (0, 0))).alloc (.cells #[.int .i64 bx, .int .i64 ey] 28 (0, 0))).alloc (.cells #[.int .i64 px, .int .i64 py] 28 (0, 0))).cell? ⟨w.heap.size + 2, 1, none⟩ = some (.int .i64 py) := by rw [Go.Joins.cell_of_block n2]; rfl
  obtain ⟨m1, hm1⟩ : ∃ m, Hid (m = min ax bx) := ⟨_, rfl⟩
  obtain ⟨m2, hm2⟩ : ∃ m, Hid (m = max ax bx) := ⟨_, rfl⟩
  obtain ⟨m3, hm3⟩ : ∃ m, Hid (m = min ay ey) := ⟨_, rfl⟩
  obtain ⟨m4, hm4⟩ : ∃ m, Hid (m = max ay ey) := ⟨_, rfl⟩
  have hc1 := Lib.hid (fun W dr os => calls_kept (l00Min_k ax bx m1 hm1.out) W dr os)
  have hc2 := Lib.hid (fun W dr os => calls_kept (l00Max_k ax bx m2 hm2.out) W dr os)
  have hc3 := Lib.hid (fun W dr os => calls_kept (l00Min_k ay ey m3 hm3.out) W dr os)
  have hc4 := Lib.hid (fun W dr os => calls_kept (l00Max_k ay ey m4 hm4.out) W dr os)
  replace hv := Lib.hid hv
  clear n0 n1 n2
  cases t0 : decide (m1 ≤ px) with
  | false =>
    have f0 : ¬ (m1 ≤ px) := of_decide_eq_false t0
    have hvf : v = false := by rw [hv.out]; simp only [bxB, ← hm1.out, ← hm2.out, ← hm3.out, ← hm4.out, t0, Bool.and_false, Bool.false_and]
    subst hvf
    clear hv
    go_enter Tryz.func64, Tryz.ntmps64
    go_upto_region 1 with fail
    generalize ((w.alloc (.cells #[.int .i64 ax, .int .i64 ay] 28 (0, 0))).alloc (.cells #[.int .i64 bx, .int .i64 ey] 28 (0, 0))).alloc (.cells #[.int .i64 px, .int .i64 py] 28 (0, 0)) = W at *
    have kg0 := fun dr os => cell_regrown k0 dr os
    have kg1 := fun dr os => cell_regrown k1 dr os
    have kg2 := fun dr os => cell_regrown k2 dr os
    have kg3 := fun dr os => cell_regrown k3 dr os
    have kg4 := fun dr os => cell_regrown k4 dr os
    have kg5 := fun dr os => cell_regrown k5 dr os
    refine wp_region_quiet_below (by kernel_rfl) (by kernel_rfl) ?_
    repeat (go_big_quiet_step (first | (with_reducible exact hc1.out _ _ _) | (with_reducible exact hc2.out _ _ _) | (with_reducible exact hc3.out _ _ _) | (with_reducible exact hc4.out _ _ _)))
    refine wpQuiet_nil ?_
    intro _ hw'
    obtain ⟨⟨dq, osq⟩, hw''⟩ := hw'
    subst hw''
    go_wp2_with fail
    go_ret
    exact ⟨rfl, hB0.trans ((below_regrown W dq osq).mono hB0.size)⟩
  | true =>
  have f0 : m1 ≤ px := of_decide_eq_true t0
  cases t1 : decide (px ≤ m2) with
  | false =>
    have f1 : ¬ (px ≤ m2) := of_decide_eq_false t1
    have hvf : v = false := by rw [hv.out]; simp only [bxB, ← hm1.out, ← hm2.out, ← hm3.out, ← hm4.out, t1, Bool.and_false, Bool.false_and]
    subst hvf
    clear hv
    go_enter Tryz.func64, Tryz.ntmps64
    go_upto_region 1 with fail
    generalize ((w.alloc (.cells #[.int .i64 ax, .int .i64 ay] 28 (0, 0))).alloc (.cells #[.int .i64 bx, .int .i64 ey] 28 (0, 0))).alloc (.cells #[.int .i64 px, .int .i64 py] 28 (0, 0)) = W at *
    have kg0 := fun dr os => cell_regrown k0 dr os
    have kg1 := fun dr os => cell_regrown k1 dr os
    have kg2 := fun dr os => cell_regrown k2 dr os
    have kg3 := fun dr os => cell_regrown k3 dr os
    have kg4 := fun dr os => cell_regrown k4 dr os
    have kg5 := fun dr os => cell_regrown k5 dr os
    refine wp_region_quiet_below (by kernel_rfl) (by kernel_rfl) ?_
    repeat (go_big_quiet_step (first | (with_reducible exact hc1.out _ _ _) | (with_reducible exact hc2.out _ _ _) | (with_reducible exact hc3.out _ _ _) | (with_reducible exact hc4.out _ _ _)))
    refine wpQuiet_nil ?_
    intro _ hw'
    obtain ⟨⟨dq, osq⟩, hw''⟩ := hw'
    subst hw''
    go_wp2_with fail
    go_ret
    exact ⟨rfl, hB0.trans ((below_regrown W dq osq).mono hB0.size)⟩
  | true =>
  have f1 : px ≤ m2 := of_decide_eq_true t1
  cases t2 : decide (m3 ≤ py) with
  | false =>
    have f2 : ¬ (m3 ≤ py) := of_decide_eq_false t2
    have hvf : v = false := by rw [hv.out]; simp only [bxB, ← hm1.out, ← hm2.out, ← hm3.out, ← hm4.out, t2, Bool.and_false, Bool.false_and]
    subst hvf
    clear hv
    go_enter Tryz.func64, Tryz.ntmps64
    go_upto_region 1 with fail
    generalize ((w.alloc (.cells #[.int .i64 ax, .int .i64 ay] 28 (0, 0))).alloc (.cells #[.int .i64 bx, .int .i64 ey] 28 (0, 0))).alloc (.cells #[.int .i64 px, .int .i64 py] 28 (0, 0)) = W at *
    have kg0 := fun dr os => cell_regrown k0 dr os
    have kg1 := fun dr os => cell_regrown k1 dr os
    have kg2 := fun dr os => cell_regrown k2 dr os
    have kg3 := fun dr os => cell_regrown k3 dr os
    have kg4 := fun dr os => cell_regrown k4 dr os
    have kg5 := fun dr os => cell_regrown k5 dr os
    refine wp_region_quiet_below (by kernel_rfl) (by kernel_rfl) ?_
    repeat (go_big_quiet_step (first | (with_reducible exact hc1.out _ _ _) | (with_reducible exact hc2.out _ _ _) | (with_reducible exact hc3.out _ _ _) | (with_reducible exact hc4.out _ _ _)))
    refine wpQuiet_nil ?_
    intro _ hw'
    obtain ⟨⟨dq, osq⟩, hw''⟩ := hw'
    subst hw''
    go_wp2_with fail
    go_ret
    exact ⟨rfl, hB0.trans ((below_regrown W dq osq).mono hB0.size)⟩
  | true =>
  have f2 : m3 ≤ py := of_decide_eq_true t2
  cases t3 : decide (py ≤ m4) with
  | false =>
    have f3 : ¬ (py ≤ m4) := of_decide_eq_false t3
    have hvf : v = false := by rw [hv.out]; simp only [bxB, ← hm1.out, ← hm2.out, ← hm3.out, ← hm4.out, t3, Bool.and_false, Bool.false_and]
    subst hvf
    clear hv
    go_enter Tryz.func64, Tryz.ntmps64
    go_upto_region 1 with fail
    generalize ((w.alloc (.cells #[.int .i64 ax, .int .i64 ay] 28 (0, 0))).alloc (.cells #[.int .i64 bx, .int .i64 ey] 28 (0, 0))).alloc (.cells #[.int .i64 px, .int .i64 py] 28 (0, 0)) = W at *
    have kg0 := fun dr os => cell_regrown k0 dr os
    have kg1 := fun dr os => cell_regrown k1 dr os
    have kg2 := fun dr os => cell_regrown k2 dr os
    have kg3 := fun dr os => cell_regrown k3 dr os
    have kg4 := fun dr os => cell_regrown k4 dr os
    have kg5 := fun dr os => cell_regrown k5 dr os
    refine wp_region_quiet_below (by kernel_rfl) (by kernel_rfl) ?_
    repeat (go_big_quiet_step (first | (with_reducible exact hc1.out _ _ _) | (with_reducible exact hc2.out _ _ _) | (with_reducible exact hc3.out _ _ _) | (with_reducible exact hc4.out _ _ _)))
    refine wpQuiet_nil ?_
    intro _ hw'
    obtain ⟨⟨dq, osq⟩, hw''⟩ := hw'
    subst hw''
    go_wp2_with fail
    go_ret
    exact ⟨rfl, hB0.trans ((below_regrown W dq osq).mono hB0.size)⟩
  | true =>
  have f3 : py ≤ m4 := of_decide_eq_true t3
  have hvf : v = true := by rw [hv.out]; simp only [bxB, ← hm1.out, ← hm2.out, ← hm3.out, ← hm4.out, t0, t1, t2, t3]; rfl
  subst hvf
  clear hv
  go_enter Tryz.func64, Tryz.ntmps64
  go_upto_region 1 with fail
  generalize ((w.alloc (.cells #[.int .i64 ax, .int .i64 ay] 28 (0, 0))).alloc (.cells #[.int .i64 bx, .int .i64 ey] 28 (0, 0))).alloc (.cells #[.int .i64 px, .int .i64 py] 28 (0, 0)) = W at *
  have kg0 := fun dr os => cell_regrown k0 dr os
  have kg1 := fun dr os => cell_regrown k1 dr os
  have kg2 := fun dr os => cell_regrown k2 dr os
  have kg3 := fun dr os => cell_regrown k3 dr os
  have kg4 := fun dr os => cell_regrown k4 dr os
  have kg5 := fun dr os => cell_regrown k5 dr os
  refine wp_region_quiet_below (by kernel_rfl) (by kernel_rfl) ?_
  repeat (go_big_quiet_step (first | (with_reducible exact hc1.out _ _ _) | (with_reducible exact hc2.out _ _ _) | (with_reducible exact hc3.out _ _ _) | (with_reducible exact hc4.out _ _ _)))
  refine wpQuiet_nil ?_
  intro _ hw'
  obtain ⟨⟨dq, osq⟩, hw''⟩ := hw'
  subst hw''
  go_wp2_with fail
  go_ret
  exact ⟨rfl, hB0.trans ((below_regrown W dq osq).mono hB0.size)⟩

set_option maxHeartbeats 4000000 in
theorem l03On_any (ax ay bx ey px py : Int) (v : Bool) (hv : v = onB ax ay bx ey px py) (w : World) (ha : ptOk ax ay = true) (hb : ptOk bx ey = true) (hp : ptOk px py = true) :
    Calls Tryz.prog 45 #[.agg #[.int .i64 ax, .int .i64 ay], .agg #[.int .i64 bx, .int .i64 ey], .agg #[.int .i64 px, .int .i64 py]] w fun e w' => e = .returned (.bool v) ∧ Below w.heap.size w w' := by
  have hB0 : Below w.heap.size w (((w.alloc (.cells #[.int .i64 ax, .int .i64 ay] 28 (0, 0))).alloc (.cells #[.int .i64 bx, .int .i64 ey] 28 (0, 0))).alloc (.cells #[.int .i64 px, .int .i64 py] 28 (0, 0))) := ((Go.Joins.below_alloc2 w _ _).alloc (by simp; omega) _)
  have hbx := Box3.new w ax ay bx ey px py 28
  have hct := Lib.hid (fun W => l03Turn_any ax ay bx ey px py W ha hb hp)
  obtain ⟨t, ht⟩ : ∃ t, t = turnI ax ay bx ey px py := ⟨_, rfl⟩
  have hv2 : v = (decide (t = 0) && bxB ax ay bx ey px py) := by rw [hv, ht]; rfl
  rw [← ht] at hct
  clear hv ht
  by_cases h0 : t = 0
  · have hb0 : (t == 0) = true := by simp [h0]
    have hv3 : v = bxB ax ay bx ey px py := by rw [hv2, decide_eq_true h0]; rfl
    have hcb := Lib.hid (fun W => l03Box_any ax ay bx ey px py v hv3 W)
    replace h0 := Lib.hid h0
    clear hv2 hv3
    go_enter Tryz.func45, Tryz.ntmps45
    go_upto_region 1 with fail
    generalize ((w.alloc (.cells #[.int .i64 ax, .int .i64 ay] 28 (0, 0))).alloc (.cells #[.int .i64 bx, .int .i64 ey] 28 (0, 0))).alloc (.cells #[.int .i64 px, .int .i64 py] 28 (0, 0)) = W at *
    obtain ⟨X, hX⟩ : ∃ X, X = w.heap.size := ⟨_, rfl⟩
    rw [← hX] at hbx ⊢
    replace hX := Lib.hid hX
    obtain ⟨s0, c0, c1, c2, c3, c4, c5⟩ := hbx
    have hbxH : Hid (Box3 W X ax ay bx ey px py) := ⟨s0, c0, c1, c2, c3, c4, c5⟩
    go_wp2_with fail
    refine (hct.out _).mono ?_
    rintro e w1 ⟨rfl, hb1⟩
    obtain ⟨s0', d0, d1, d2, d3, d4, d5⟩ := hbxH.out.below hb1
    clear c0 c1 c2 c3 c4 c5
    go_wp2_with fail
    refine (hcb.out _).mono ?_
    rintro e w2 ⟨rfl, hb2⟩
    go_wp2_with fail
    go_ret
    exact ⟨rfl, (hB0.trans (hb1.mono (by have := hX.out; omega))).trans (hb2.mono (by have := hX.out; omega))⟩
  · have hb0 : (t == 0) = false := by simp [h0]
    have hv3 : v = false := by rw [hv2, decide_eq_false h0]; rfl
    replace h0 := Lib.hid h0
    clear hv2
    subst hv3
    go_enter Tryz.func45, Tryz.ntmps45
    go_upto_region 1 with fail
    generalize ((w.alloc (.cells #[.int .i64 ax, .int .i64 ay] 28 (0, 0))).alloc (.cells #[.int .i64 bx, .int .i64 ey] 28 (0, 0))).alloc (.cells #[.int .i64 px, .int .i64 py] 28 (0, 0)) = W at *
    obtain ⟨X, hX⟩ : ∃ X, X = w.heap.size := ⟨_, rfl⟩
    rw [← hX] at hbx ⊢
    replace hX := Lib.hid hX
    obtain ⟨s0, c0, c1, c2, c3, c4, c5⟩ := hbx
    go_wp2_with fail
    refine (hct.out _).mono ?_
    rintro e w1 ⟨rfl, hb1⟩
    go_wp2_with fail
    go_ret
    exact ⟨rfl, hB0.trans (hb1.mono (by have := hX.out; omega))⟩
end Go.Proofs.YtlifiioflkhkoaaGreat

/- The winding number: the reference. Conditions: as each states. -/
namespace Go.Proofs.YtlifiioflkhkoaaGreat
open Go.RowKit
set_option linter.unusedVariables false
set_option maxRecDepth 100000

/-- an edge goes through a point -/
def thrB (px py : Int) (e : Pnt × Pnt) : Bool := onB e.1.1 e.1.2 e.2.1 e.2.2 px py

set_option maxHeartbeats 8000000 in
theorem l14OnAny_any (A : Option Addr) (n c lo hi : Nat) (E : List (Pnt × Pnt)) (px py : Int) (v : Bool) (hv : v = E.any (thrB px py)) (w : World) (hr : RdS 4 (FlatR edgeC) w lo hi A n E) (hhi : hi ≤ w.heap.size) (hn : n ≤ 20000) (hok : EOk E) (hp : ptOk px py = true) :
    Calls Tryz.prog 25 #[.slice A n c, .agg #[.int .i64 px, .int .i64 py]] w fun e w' => e = .returned (.bool v) ∧ Below w.heap.size w w' := by
  have hll := Lib.hid hr.1
  have hb0 := Go.Joins.below_alloc1 w (.cells #[.int .i64 px, .int .i64 py] 28 (0, 0))
  have hP0 := heap_alloc_new w (.cells #[.int .i64 px, .int .i64 py] 28 (0, 0))
  have hz0 : (w.alloc (.cells #[.int .i64 px, .int .i64 py] 28 (0, 0))).heap.size = w.heap.size + 1 := by simp
  replace hr := Lib.hid (hr.frame (good_flat _) (Below.sameB hb0 hhi))
  replace hok := Lib.hid hok
  replace hv := Lib.hid hv
  go_enter Tryz.func25, Tryz.ntmps25
  go_upto_region 1 with fail
  generalize w.alloc (.cells #[.int .i64 px, .int .i64 py] 28 (0, 0)) = W at *
  obtain ⟨Y, hY⟩ : ∃ Y, Y = w.heap.size := ⟨_, rfl⟩
  rw [← hY] at hP0 hz0 ⊢
  have hYv : Y < W.heap.size := by omega
  have hzv : Y + 1 ≤ W.heap.size ∧ W.heap.size ≤ Y + 1 ∧ hi ≤ W.heap.size := by omega
  have hYH := Lib.hid hY
  have hB0 := Lib.hid hb0
  have hPH := Lib.hid hP0
  clear hz0 hY hb0 hP0
  go_wp2_with fail
  go_loopg [5] n (fun kx s5 wr => ∃ (k : Nat), s5 = .int .i64 k ∧ k ≤ n ∧ n - k ≤ kx ∧ Hid (∀ e ∈ E.take k, thrB px py e = false) ∧ Below W.heap.size W wr)
  case atStart => exact ⟨0, rfl, Nat.zero_le _, Nat.le_refl _, fun e he => by simp at he, Below.refl _ _⟩
  case round =>
  obtain ⟨k, rfl, hk, hkx, hno, hbel⟩ := hrel
  have hz := hbel.size
  by_cases hlt : k < n
  rotate_left
  · have hki : ¬ (k : Int) < (n : Int) := by omega
    have hvf : v = false := by
      rw [hv.out, List.any_eq_false]
      intro e he
      rw [hno.out e (by rw [List.take_of_length_le (by have := hll.out; omega)]; exact he)]; simp
    clear hv
    subst hvf
    go_wp2_with fail
    go_ret
    exact ⟨rfl, hB0.out.trans (hbel.mono (by have := hYH.out; omega))⟩
  have hki : (k : Int) < (n : Int) := by omega
  obtain ⟨b, off, ax, ay, bx, ey, rfl, _, hb, hja, c0, c1, c2, c3⟩ := legAt (hr.out.frame (good_flat _) (Below.sameB hbel hzv.2.2)) hlt
  obtain ⟨ok1, ok2⟩ := hok.out _ (List.mem_of_getElem? hja)
  have hYb := (hbel.block Y hYv).trans hPH.out
  have y0 : wr.cell? ⟨Y, 0, none⟩ = some (.int .i64 px) := by rw [Go.Joins.cell_of_block hYb]; rfl
  have y1 : wr.cell? ⟨Y, 1, none⟩ = some (.int .i64 py) := by rw [Go.Joins.cell_of_block hYb]; rfl
  have hbw : b < wr.heap.size := by omega
  obtain ⟨t, ht⟩ : ∃ t, t = onB ax ay bx ey px py := ⟨_, rfl⟩
  have hcall := Lib.hid (fun dr os => Calls.regrown_of (w := wr) (d := dr) (os := os) (l03On_any ax ay bx ey px py t ht (Go.Sort.grow (redrawn wr dr) os) ok1 ok2 hp))
  have i1 : (0 : Int) ≤ (k : Int) ∧ (k : Int) < (n : Int) := by omega
  have kc0 := fun dr os => cell_regrown c0 dr os
  have kc1 := fun dr os => cell_regrown c1 dr os
  have kc2 := fun dr os => cell_regrown c2 dr os
  have kc3 := fun dr os => cell_regrown c3 dr os
  have ky0 := fun dr os => cell_regrown y0 dr os
  have ky1 := fun dr os => cell_regrown y1 dr os
  have hYr : Y < wr.heap.size := by omega
  have htH : Hid (thrB px py ((ax, ay), (bx, ey)) = t) := ht.symm
  have hjH := Lib.hid hja
  have hbelH := Lib.hid hbel
  clear ht hja ok1 ok2 hYb c0 c1 c2 c3 y0 y1 hb hbel
  cases t with
  | true =>
    have hvt : v = true := by
      rw [hv.out, List.any_eq_true]
      exact ⟨_, List.mem_of_getElem? hjH.out, htH.out⟩
    clear hv
    subst hvt
    go_wp2_with fail
    refine wp_region_quiet_below (by kernel_rfl) (by kernel_rfl) ?_
    repeat (go_big_quiet_step (first | (with_reducible exact hcall.out _ _)))
    refine wpQuiet_nil ?_
    intro _ hw'
    obtain ⟨⟨dq, osq⟩, hw''⟩ := hw'
    subst hw''
    have hb9 := Lib.hid (below_regrown wr dq osq)
    generalize Go.Sort.grow (redrawn wr dq) osq = w9 at *
    go_wp2_with fail
    go_ret
    exact ⟨rfl, hB0.out.trans ((hbelH.out.trans (hb9.out.mono hz)).mono (by have := hYH.out; omega))⟩
  | false =>
    go_wp2_with fail
    refine wp_region_quiet_below (by kernel_rfl) (by kernel_rfl) ?_
    repeat (go_big_quiet_step (first | (with_reducible exact hcall.out _ _)))
    refine wpQuiet_nil ?_
    intro _ hw'
    obtain ⟨⟨dq, osq⟩, hw''⟩ := hw'
    subst hw''
    have hb9 := Lib.hid (below_regrown wr dq osq)
    generalize Go.Sort.grow (redrawn wr dq) osq = w9 at *
    go_wp2_with fail
    go_roundg (n - (k + 1))
    case measure => omega
    case rel =>
      refine ⟨k + 1, by go_num, by omega, Nat.le_refl _, fun e he => ?_, hbelH.out.trans (hb9.out.mono hz)⟩
      rw [List.take_add_one, hjH.out] at he
      rcases List.mem_append.1 he with he | he
      · exact hno.out e he
      · simp at he; rw [he]; exact htH.out

theorem wnd_up {px py ax ay bx ey : Int} (h1 : ay ≤ py) (h2 : py < ey) : wndE (px, py) ((ax, ay), (bx, ey)) = if 0 < turnI ax ay bx ey px py then 1 else 0 := by
  unfold wndE tn
  simp only
  by_cases h : 0 < turnI ax ay bx ey px py
  · rw [if_pos ⟨h1, h2, h⟩, if_pos h]
  · rw [if_neg (fun a => h a.2.2), if_neg (fun a => by omega), if_neg h]
theorem wnd_dn {px py ax ay bx ey : Int} (h1 : ey ≤ py) (h2 : py < ay) : wndE (px, py) ((ax, ay), (bx, ey)) = if turnI ax ay bx ey px py < 0 then -1 else 0 := by
  unfold wndE tn
  simp only
  rw [if_neg (fun a => by omega)]
  by_cases h : turnI ax ay bx ey px py < 0
  · rw [if_pos ⟨h1, h2, h⟩, if_pos h]
  · rw [if_neg (fun a => h a.2.2), if_neg h]
theorem wnd_no {px py ax ay bx ey : Int} (h1 : ¬ (ay ≤ py ∧ py < ey)) (h2 : ¬ (ey ≤ py ∧ py < ay)) : wndE (px, py) ((ax, ay), (bx, ey)) = 0 := by
  unfold wndE
  simp only
  rw [if_neg (fun a => h1 ⟨a.1, a.2.1⟩), if_neg (fun a => h2 ⟨a.1, a.2.1⟩)]

set_option maxHeartbeats 16000000 in
theorem l14Winding_any (A : Option Addr) (n c lo hi : Nat) (E : List (Pnt × Pnt)) (px py : Int) (w : World) (hr : RdS 4 (FlatR edgeC) w lo hi A n E) (hhi : hi ≤ w.heap.size) (hn : n ≤ 20000) (hok : EOk E) (hp : ptOk px py = true) :
    Calls Tryz.prog 26 #[.slice A n c, .agg #[.int .i64 px, .int .i64 py]] w fun e w' => e = .returned (.int .i64 (sumE (wndE (px, py)) E)) ∧ Below w.heap.size w w' := by
  have hll := Lib.hid hr.1
  have hb0 := Go.Joins.below_alloc1 w (.cells #[.int .i64 px, .int .i64 py] 28 (0, 0))
  have hP0 := heap_alloc_new w (.cells #[.int .i64 px, .int .i64 py] 28 (0, 0))
  have hz0 : (w.alloc (.cells #[.int .i64 px, .int .i64 py] 28 (0, 0))).heap.size = w.heap.size + 1 := by simp
  replace hr := Lib.hid (hr.frame (good_flat _) (Below.sameB hb0 hhi))
  replace hok := Lib.hid hok
  go_enter Tryz.func26, Tryz.ntmps26
  go_upto_region 1 with fail
  generalize w.alloc (.cells #[.int .i64 px, .int .i64 py] 28 (0, 0)) = W at *
  obtain ⟨Y, hY⟩ : ∃ Y, Y = w.heap.size := ⟨_, rfl⟩
  rw [← hY] at hP0 hz0 ⊢
  have hYv : Y < W.heap.size := by omega
  have hzv : Y + 1 ≤ W.heap.size ∧ W.heap.size ≤ Y + 1 ∧ hi ≤ W.heap.size := by omega
  have hYH := Lib.hid hY
  have hB0 := Lib.hid hb0
  have hPH := Lib.hid hP0
  clear hz0 hY hb0 hP0
  go_wp2_with fail
  go_loopg [5, 6, 7, 8] n (fun kx s5 s6 s7 s8 wr => ∃ (k : Nat) (s : Int), s6 = .int .i64 k ∧ k ≤ n ∧ n - k ≤ kx ∧ s5 = .int .i64 s ∧ Hid (s = sumE (wndE (px, py)) (E.take k)) ∧ -(k : Int) ≤ s ∧ s ≤ k ∧ Below W.heap.size W wr)
  case atStart => exact ⟨0, 0, rfl, Nat.zero_le _, Nat.le_refl _, rfl, rfl, by omega, by omega, Below.refl _ _⟩
  case round =>
  obtain ⟨k, s, rfl, hk, hkx, rfl, hs, hs1, hs2, hbel⟩ := hrel
  have hz := hbel.size
  by_cases hlt : k < n
  rotate_left
  · have hki : ¬ (k : Int) < (n : Int) := by omega
    have hfin : s = sumE (wndE (px, py)) E := by
      rw [hs.out, List.take_of_length_le (by have := hll.out; omega)]
    clear hs
    subst hfin
    go_wp2_with fail
    go_ret
    exact ⟨rfl, hB0.out.trans (hbel.mono (by have := hYH.out; omega))⟩
  have hki : (k : Int) < (n : Int) := by omega
  obtain ⟨b, off, ax, ay, bx, ey, rfl, _, hb, hja, c0, c1, c2, c3⟩ := legAt (hr.out.frame (good_flat _) (Below.sameB hbel hzv.2.2)) hlt
  obtain ⟨ok1, ok2⟩ := hok.out _ (List.mem_of_getElem? hja)
  have hYb := (hbel.block Y hYv).trans hPH.out
  have y0 : wr.cell? ⟨Y, 0, none⟩ = some (.int .i64 px) := by rw [Go.Joins.cell_of_block hYb]; rfl
  have y1 : wr.cell? ⟨Y, 1, none⟩ = some (.int .i64 py) := by rw [Go.Joins.cell_of_block hYb]; rfl
  have hbw : b < wr.heap.size := by omega
  have hst := sumE_step (f := wndE (px, py)) hja
  rw [← hs.out] at hst
  have i1 : (0 : Int) ≤ (k : Int) ∧ (k : Int) < (n : Int) := by omega
  have hYr : Y < wr.heap.size := by omega
  have hbelH := Lib.hid hbel
  have hbA := Go.Joins.below_alloc2 wr (.cells #[.int .i64 ax, .int .i64 ay] 28 (0, 0)) (.cells #[.int .i64 bx, .int .i64 ey] 28 (0, 0))
  have hnA := heap_new2 wr (.cells #[.int .i64 ax, .int .i64 ay] 28 (0, 0)) (.cells #[.int .i64 bx, .int .i64 ey] 28 (0, 0))
  have hzA : ((wr.alloc (.cells #[.int .i64 ax, .int .i64 ay] 28 (0, 0))).alloc (.cells #[.int .i64 bx, .int .i64 ey] 28 (0, 0))).heap.size = wr.heap.size + 2 := by simp
  go_upto_region 7 with fail
  have hbAH := Lib.hid hbA
  have yA := (hbA.block Y hYr).trans hYb
  clear y0 y1 c0 c1 c2 c3 hja hb hbel hYb hbA
  generalize (wr.alloc (.cells #[.int .i64 ax, .int .i64 ay] 28 (0, 0))).alloc (.cells #[.int .i64 bx, .int .i64 ey] 28 (0, 0)) = V at *
  obtain ⟨X, hX⟩ : ∃ X, X = wr.heap.size := ⟨_, rfl⟩
  rw [← hX] at hnA hzA ⊢
  obtain ⟨nA, nB⟩ := hnA
  have hXV : X + 2 ≤ V.heap.size := by omega
  have hX1 : X < V.heap.size := by omega
  have hX2 : X + 1 < V.heap.size := by omega
  have hYV : Y < V.heap.size := by omega
  have a0 : V.cell? ⟨X, 0, none⟩ = some (.int .i64 ax) := by rw [Go.Joins.cell_of_block nA]; rfl
  have a1 : V.cell? ⟨X, 1, none⟩ = some (.int .i64 ay) := by rw [Go.Joins.cell_of_block nA]; rfl
  have b0 : V.cell? ⟨X + 1, 0, none⟩ = some (.int .i64 bx) := by rw [Go.Joins.cell_of_block nB]; rfl
  have b1 : V.cell? ⟨X + 1, 1, none⟩ = some (.int .i64 ey) := by rw [Go.Joins.cell_of_block nB]; rfl
  have y0 : V.cell? ⟨Y, 0, none⟩ = some (.int .i64 px) := by rw [Go.Joins.cell_of_block yA]; rfl
  have y1 : V.cell? ⟨Y, 1, none⟩ = some (.int .i64 py) := by rw [Go.Joins.cell_of_block yA]; rfl
  have hzV : W.heap.size ≤ V.heap.size := by omega
  have hBV := Lib.hid (hbelH.out.trans (hbAH.out.mono hz))
  obtain ⟨t, ht⟩ : ∃ t, t = turnI ax ay bx ey px py := ⟨_, rfl⟩
  have hct := Lib.hid (l03Turn_any ax ay bx ey px py V ok1 ok2 hp)
  rw [← ht] at hct
  have hcell : Hid (∀ U, Below V.heap.size V U → (U.cell? ⟨X, 0, none⟩ = some (.int .i64 ax) ∧ U.cell? ⟨X, 1, none⟩ = some (.int .i64 ay) ∧ U.cell? ⟨X + 1, 0, none⟩ = some (.int .i64 bx) ∧ U.cell? ⟨X + 1, 1, none⟩ = some (.int .i64 ey) ∧ U.cell? ⟨Y, 0, none⟩ = some (.int .i64 px) ∧ U.cell? ⟨Y, 1, none⟩ = some (.int .i64 py)) ∧ X < U.heap.size ∧ X + 1 < U.heap.size ∧ Y < U.heap.size) := fun U hU => ⟨⟨(hU.cell (p := ⟨X, 0, none⟩) hX1).trans a0, (hU.cell (p := ⟨X, 1, none⟩) hX1).trans a1, (hU.cell (p := ⟨X + 1, 0, none⟩) hX2).trans b0, (hU.cell (p := ⟨X + 1, 1, none⟩) hX2).trans b1, (hU.cell (p := ⟨Y, 0, none⟩) hYV).trans y0, (hU.cell (p := ⟨Y, 1, none⟩) hYV).trans y1⟩, by have := hU.size; omega, by have := hU.size; omega, by have := hU.size; omega⟩
  have hXH := Lib.hid hX
  have hkn : k ≤ 20000 := by omega
  clear hX hzA nA nB yA ok1 ok2 hbAH
  by_cases g1 : ay ≤ py
  · by_cases g2 : ey ≤ py
    · have g3 : ¬ py < ey := by omega
      have g4 : ¬ py < ay := by omega
      rw [wnd_no (by omega) (by omega)] at hst
      replace hst := Lib.hid hst
      clear ht
      go_wp2_with fail
      go_roundg (n - (k + 1))
      case measure => omega
      case rel => exact ⟨k + 1, s, by go_num, by omega, Nat.le_refl _, rfl, by show _ = _; rw [hst.out]; omega, by omega, by omega, hBV.out⟩
    · have g3 : py < ey := by omega
      rw [wnd_up g1 g3, ← ht] at hst
      by_cases g5 : 0 < t
      · rw [if_pos g5] at hst
        have m1 : IntKind.i64.wrap (s + 1) = s + 1 := wi (by omega)
        have hbnd : -((k + 1 : Nat) : Int) ≤ s + 1 ∧ s + 1 ≤ ((k + 1 : Nat) : Int) := by omega
        replace hst := Lib.hid hst
        replace hs := Lib.hid hs
        clear ht hs1 hs2
        go_wp2_with fail
        refine hct.out.mono ?_
        rintro e w1 ⟨rfl, hb1⟩
        go_wp2_with fail
        go_roundg (n - (k + 1))
        case measure => omega
        case rel => exact ⟨k + 1, s + 1, by go_num, by omega, Nat.le_refl _, rfl, hst.out.symm, hbnd.1, hbnd.2, hBV.out.trans (hb1.mono hzV)⟩
      · rw [if_neg g5] at hst
        have hbnd : -((k + 1 : Nat) : Int) ≤ s ∧ s ≤ ((k + 1 : Nat) : Int) := by omega
        replace hst := Lib.hid hst
        replace hs := Lib.hid hs
        clear ht hs1 hs2
        go_wp2_with fail
        refine hct.out.mono ?_
        rintro e w1 ⟨rfl, hb1⟩
        obtain ⟨⟨a0', a1', b0', b1', y0', y1'⟩, z1, z2, z3⟩ := hcell.out w1 hb1
        clear a0 a1 b0 b1 y0 y1
        go_wp2_with fail
        go_roundg (n - (k + 1))
        case measure => omega
        case rel => exact ⟨k + 1, s, by go_num, by omega, Nat.le_refl _, rfl, by show _ = _; rw [hst.out]; omega, hbnd.1, hbnd.2, hBV.out.trans (hb1.mono hzV)⟩
  · by_cases g2 : ey ≤ py
    · have g3 : py < ay := by omega
      rw [wnd_dn g2 g3, ← ht] at hst
      by_cases g5 : t < 0
      · rw [if_pos g5] at hst
        have m1 : IntKind.i64.wrap (s - 1) = s - 1 := wi (by omega)
        have hbnd : -((k + 1 : Nat) : Int) ≤ s - 1 ∧ s - 1 ≤ ((k + 1 : Nat) : Int) := by omega
        replace hst := Lib.hid hst
        replace hs := Lib.hid hs
        clear ht hs1 hs2
        go_wp2_with fail
        refine hct.out.mono ?_
        rintro e w1 ⟨rfl, hb1⟩
        go_wp2_with fail
        go_roundg (n - (k + 1))
        case measure => omega
        case rel => exact ⟨k + 1, s - 1, by go_num, by omega, Nat.le_refl _, rfl, by show _ = _; rw [hst.out]; omega, hbnd.1, hbnd.2, hBV.out.trans (hb1.mono hzV)⟩
      · rw [if_neg g5] at hst
        have hbnd : -((k + 1 : Nat) : Int) ≤ s ∧ s ≤ ((k + 1 : Nat) : Int) := by omega
        replace hst := Lib.hid hst
        replace hs := Lib.hid hs
        clear ht hs1 hs2
        go_wp2_with fail
        refine hct.out.mono ?_
        rintro e w1 ⟨rfl, hb1⟩
        go_wp2_with fail
        go_roundg (n - (k + 1))
        case measure => omega
        case rel => exact ⟨k + 1, s, by go_num, by omega, Nat.le_refl _, rfl, by show _ = _; rw [hst.out]; omega, hbnd.1, hbnd.2, hBV.out.trans (hb1.mono hzV)⟩
    · rw [wnd_no (by omega) (by omega)] at hst
      replace hst := Lib.hid hst
      clear ht
      go_wp2_with fail
      go_roundg (n - (k + 1))
      case measure => omega
      case rel => exact ⟨k + 1, s, by go_num, by omega, Nat.le_refl _, rfl, by show _ = _; rw [hst.out]; omega, by omega, by omega, hBV.out⟩
end Go.Proofs.YtlifiioflkhkoaaGreat

/- A region that draws its order, whose first operations only make memory and whose values are told by predicates that stay true where memory grows: each operation by itself, once, in whatever order they come up. No program in sight. Conditions: as each states. -/
namespace Go.Proofs.YtlifiioflkhkoaaGreat
open Go.RowKit
set_option linter.unusedVariables false
set_option maxRecDepth 100000

/-- a predicate on a value that stays true where the memory only grows -/
def Stays (V : Value → World → Prop) : Prop := ∀ v w w', V v w → Below w.heap.size w w' → V v w'
def dstL (l : List Oper) (j : Nat) : Option Tmp := (l[j]?).bind (·.dst)
/-- the frame, with the values f j in the slots of the first n operations -/
def putsL (l : List Oper) (a : Act) (f : Nat → Value) : Nat → Act
  | 0 => a
  | n + 1 => (putsL l a f n).put (dstL l n) (f n)
def dstB (l : List Oper) (n : Nat) : Bool := (List.range n).all fun i => (List.range n).all fun j => i == j || (dstL l i).isNone || dstL l i != dstL l j
def upd (f : Nat → Value) (i : Nat) (v : Value) : Nat → Value := fun j => if j = i then v else f j
theorem dst_ne {l : List Oper} {n i j : Nat} (h : dstB l n = true) (hi : i < n) (hj : j < n) (hij : i ≠ j) : dstL l i = none ∨ dstL l i ≠ dstL l j := by
  have h1 := List.all_eq_true.1 (List.all_eq_true.1 h i (List.mem_range.2 hi)) j (List.mem_range.2 hj)
  simp only [Bool.or_eq_true, beq_iff_eq, Option.isNone_iff_eq_none, bne_iff_ne, ne_eq] at h1
  rcases h1 with (h1 | h1) | h1
  · exact absurd h1 hij
  · exact .inl h1
  · exact .inr h1
theorem put_put (a : Act) (d : Option Tmp) (u v : Value) : (a.put d u).put d v = a.put d v := by
  cases d with
  | none => rfl
  | some d => simp [Act.put]
theorem put_comm (a : Act) (d e : Option Tmp) (u v : Value) (h : d = none ∨ d ≠ e) : (a.put e u).put d v = (a.put d v).put e u := by
  cases d with
  | none => rfl
  | some d =>
    cases e with
    | none => rfl
    | some e =>
      have hne : d ≠ e := by
        rcases h with h | h
        · cases h
        · exact fun h2 => h (by rw [h2])
      simp only [Act.put]
      rw [Array.setIfInBounds_comm _ _ (Ne.symm hne)]
theorem putsL_congr {l : List Oper} {a : Act} {f g : Nat → Value} : ∀ {n : Nat}, (∀ j, j < n → f j = g j) → putsL l a f n = putsL l a g n := by
  intro n
  induction n with
  | zero => intro _; rfl
  | succ n ih => intro h; simp only [putsL]; rw [ih fun j hj => h j (by omega), h n (by omega)]
theorem putsL_put {l : List Oper} {a : Act} {m : Nat} (hd : dstB l m = true) {i : Nat} {v : Value} {f : Nat → Value} : ∀ {n : Nat}, n ≤ m → i < n → (putsL l a f n).put (dstL l i) v = putsL l a (upd f i v) n := by
  intro n
  induction n with
  | zero => intro _ hi; omega
  | succ n ih =>
    intro hn hi
    simp only [putsL]
    by_cases hin : i = n
    · subst hin
      rw [put_put, putsL_congr (f := f) (g := upd f i v) fun j hj => by unfold upd; rw [if_neg (by omega)]]
      simp [upd]
    · rw [put_comm _ _ _ _ _ (dst_ne hd (by omega) (by omega) hin), ih (by omega) (by omega)]
      simp [upd, Ne.symm hin]
theorem putsL_self (l : List Oper) (a : Act) : ∀ n : Nat, putsL l a (fun j => match dstL l j with | some d => a.tmps.getD d undef | none => undef) n = a := by
  intro n
  induction n with
  | zero => rfl
  | succ n ih =>
    simp only [putsL]
    rw [ih]
    cases hd : dstL l n with
    | none => rfl
    | some d =>
      simp only [Act.put]
      have : a.tmps.setIfInBounds d (a.tmps.getD d undef) = a.tmps := by
        refine Array.ext_getElem? fun k => ?_
        rw [Array.getElem?_setIfInBounds]
        by_cases hk : d = k
        · subst hk
          rw [if_pos rfl]
          by_cases hlt : d < a.tmps.size
          · simp [Array.getD, hlt]
          · simp [hlt]
        · rw [if_neg hk]
      rw [this]

theorem countP_less {p q : Nat → Bool} {i : Nat} : ∀ {L : List Nat}, i ∈ L → p i = true → q i = false → (∀ j, q j = true → p j = true) → L.countP q + 1 ≤ L.countP p := by
  intro L hi hp hq hqp
  have hle : ∀ (M : List Nat), M.countP q ≤ M.countP p := fun M => List.countP_mono_left fun j _ h => hqp j h
  induction L with
  | nil => cases hi
  | cons a L ih =>
    rw [List.countP_cons, List.countP_cons]
    rcases List.mem_cons.1 hi with rfl | hi
    · have := hle L
      simp [hp, hq]; omega
    · have h1 := ih hi
      have h2 : (if q a = true then 1 else 0) ≤ (if p a = true then 1 else 0) := by
        cases hqa : q a with
        | false => simp
        | true => simp [hqp a hqa]
      omega

theorem belowDr {w w' : World} (h : Below w.drew.heap.size w.drew w') : Below w.heap.size w w' := (Below.drew (Below.refl w.heap.size w)).trans h
/-- one operation: its value meets its predicate, memory only grows -/
def StepOf (P : Program) (Q : Exit → Act → World → Prop) (l : List Oper) (n : Nat) (a0 : Act) (w0 : World) (V : Nat → Value → World → Prop) (i : Nat) : Prop :=
  ∀ o, l[i]? = some o → ∀ (f : Nat → Value) (w : World) (K : Act → World → Prop), Below w0.heap.size w0 w → (∀ k, o.after.toList.any (fun e => Region.binds .any e && e.on == k) = true → V k (f k) w) →
    (∀ v w', V i v w' → Below w.heap.size w w' → K ((putsL l a0 f n).put o.dst v) w') → Oper.wp P o (putsL l a0 f n) w K Q

theorem wpAny_stays {P : Program} {Q : Exit → Act → World → Prop} {l : List Oper} {n : Nat} (hn : n ≤ l.length) (hb : backRB l n = true) (hd : dstB l n = true) {a0 : Act} {w0 : World} {V : Nat → Value → World → Prop} (hV : ∀ j, j < n → Stays (V j))
    (step : ∀ i, i < n → StepOf P Q l n a0 w0 V i) (fin : ∀ f w, Below w0.heap.size w0 w → (∀ j, j < n → V j (f j) w) → Q .normal (putsL l a0 f n) w) :
    ∀ (fuel : Nat) (listed : Array Bool) (f : Nat → Value) (w : World), listed.size = n → (∀ j, j < n → listed.getD j false = true → V j (f j) w) → Below w0.heap.size w0 w →
      (List.range n).countP (fun j => !listed.getD j true) ≤ fuel → wpAny P .any (l.take n).toArray Q fuel listed (putsL l a0 f n) w := by
  have hall : ∀ (listed : Array Bool), listed.size = n → Region.ready .any (l.take n).toArray listed = [] → ∀ j, j < n → listed.getD j true = true := by
    intro listed hs h0 j hj
    cases hv : listed.getD j true with
    | true => rfl
    | false =>
      obtain ⟨i, hi, hpi, hmin⟩ := leastN (p := fun j => j < n ∧ listed.getD j true = false) (fun j => Classical.em _) j ⟨hj, hv⟩
      obtain ⟨o, ho, hon, _⟩ := back_specR hb hpi.1
      have hr : i ∈ Region.ready .any (l.take n).toArray listed := mem_ready.2 ⟨hpi.2, o, by simpa [List.getElem?_take, hpi.1] using ho, fun e he _ => by
        have h1 := hon e he
        have h2 := hmin e.on h1
        rw [getD_two (by have := hpi.1; omega)]
        cases hv : listed.getD e.on true with
        | true => rfl
        | false => exact absurd ⟨by have := hpi.1; omega, hv⟩ h2⟩
      rw [h0] at hr
      cases hr
  have hend : ∀ (listed : Array Bool) (f : Nat → Value) (w : World), listed.size = n → (∀ j, j < n → listed.getD j true = true) → (∀ j, j < n → listed.getD j false = true → V j (f j) w) → Below w0.heap.size w0 w → Q .normal (putsL l a0 f n) w := by
    intro listed f w hs ha hf hB
    exact fin f w hB fun j hj => hf j hj (by rw [getD_two (by omega)]; exact ha j hj)
  intro fuel
  induction fuel with
  | zero =>
    intro listed f w hs hf hB hc
    have ha : ∀ j, j < n → listed.getD j true = true := by
      intro j hj
      cases hv : listed.getD j true with
      | true => rfl
      | false =>
        have h1 : 0 < (List.range n).countP (fun j => !listed.getD j true) := List.countP_pos_iff.2 ⟨j, List.mem_range.2 hj, by simp only [hv]; rfl⟩
        omega
    refine ⟨?_, hend listed f w hs ha hf hB⟩
    cases hr : Region.ready .any (l.take n).toArray listed with
    | nil => rfl
    | cons x xs =>
      exfalso
      have hx : x ∈ Region.ready .any (l.take n).toArray listed := by rw [hr]; exact List.mem_cons_self
      obtain ⟨h1, o, h2, _⟩ := mem_ready.1 hx
      have hxn : x < n := by
        have h3 := (Array.getElem?_eq_some_iff.1 h2).1
        simp at h3; omega
      rw [ha x hxn] at h1; cases h1
  | succ fuel ih =>
    intro listed f w hs hf hB hc
    refine ⟨fun h0 => hend listed f w hs (hall listed hs h0) hf hB, fun i hi => ?_⟩
    obtain ⟨h1, o, h2, h3⟩ := mem_ready.1 hi
    have hin : i < n := by
      have h4 := (Array.getElem?_eq_some_iff.1 h2).1
      simp at h4; omega
    obtain ⟨o', ho', _, hgd⟩ := back_specR hb hin
    have e1 : (l.take n).toArray[i]? = some o' := by simpa [List.getElem?_take, hin] using ho'
    have eo : o = o' := by rw [e1] at h2; exact (Option.some.inj h2).symm
    subst eo
    have hw : ∀ y, Region.wanted o y = true := fun y => by simp [Region.wanted, hgd]
    unfold wpOp
    rw [e1]
    simp only [hw, if_true]
    refine .inl (step i hin o ho' f w _ hB ?_ ?_)
    · intro k hk
      obtain ⟨e, he, hbe⟩ := List.any_eq_true.1 hk
      have he := Array.mem_toList_iff.1 he
      simp only [Bool.and_eq_true, beq_iff_eq] at hbe
      have hl := h3 e he hbe.1
      rw [hbe.2] at hl
      have hkn : k < n := by
        rcases Nat.lt_or_ge k n with h | h
        · exact h
        · rw [getD_out (by omega)] at hl; cases hl
      exact hf k hkn hl
    · intro v w' hv hbw
      have hdst : o.dst = dstL l i := by unfold dstL; rw [ho']; rfl
      rw [hdst, putsL_put hd (Nat.le_refl n) hin]
      refine ih _ _ _ (by simp [hs]) ?_ (hB.trans (hbw.mono hB.size)) ?_
      · intro j hj hl
        unfold upd
        by_cases hji : j = i
        · subst hji; rw [if_pos rfl]; exact hv
        · rw [if_neg hji]
          rw [getD_set_ne false (Ne.symm hji)] at hl
          exact hV j hj _ _ _ (hf j hj hl) hbw
      · have := countP_less (p := fun j => !listed.getD j true) (q := fun j => !(listed.setIfInBounds i true).getD j true) (i := i) (L := List.range n) (List.mem_range.2 hin) (by simp only [h1]; rfl) (by simp [hs, hin]) (fun j hj => by
          by_cases hji : j = i
          · subst hji; simp only [h1]; rfl
          · rw [getD_set_ne true (Ne.symm hji)] at hj; exact hj)
        omega

/-- a region that draws: its first n operations each by itself, the others in order -/
theorem wp_region_stays {P : Program} {Q : Exit → Act → World → Prop} {id : Nat} {a : Act} {w : World} {l : List Oper} (n : Nat) (V : Nat → Value → World → Prop) (hm : P.follows .mixedOrders = true) (hB : (headRB l n && dstB l n) = true) (hV : ∀ j, j < n → Stays (V j))
    (step : ∀ i, i < n → StepOf P (QTail P l.toArray (l.drop n) Q) l n a w.drew V i) (fin : ∀ f w', Below w.heap.size w w' → (∀ j, j < n → V j (f j) w') → wpList P l.toArray Q (l.drop n) (putsL l a f n) w') : (Code.region id l.toArray true).wp P Q a w := by
  rw [Bool.and_eq_true] at hB
  obtain ⟨hB, hd⟩ := hB
  simp only [headRB, Bool.and_eq_true, decide_eq_true_eq] at hB
  obtain ⟨⟨⟨⟨hn, hs⟩, hc⟩, hb⟩, hq⟩ := hB
  have inv0 : HeadInv .any l.toArray n (Array.replicate l.length false) :=
    ⟨by simp, fun j oj _ hl => (by rw [getD_replicate_false] at hl; cases hl), fun t _ ht => getD_in (by simpa using ht) (getD_replicate_false _ _)⟩
  have r0 : HRel n l (Array.replicate n false) (Array.replicate l.length false) :=
    ⟨by simp, by simp, hn, fun j hj => by rw [getD_in (by simp; omega) (getD_replicate_false _ _), getD_in (by simp; omega) (getD_replicate_false _ _)], fun t _ ht => getD_in (by simpa using ht) (getD_replicate_false _ _)⟩
  refine wp_region_any hm ?_
  have h1 := wpAny_stays (P := P) (Q := QTail P l.toArray (l.drop n) Q) (Nat.le_of_lt hn) hb hd hV step (fun f w' hB hf => fin f w' ((Below.drew (Below.refl _ w)).trans hB) hf) n (Array.replicate n false) (fun j => match dstL l j with | some d => a.tmps.getD d undef | none => undef) w.drew (by simp) (fun j hj hl => by rw [getD_replicate_false] at hl; cases hl) (Below.refl _ _) (Nat.le_trans List.countP_le_length (by simp))
  rw [putsL_self] at h1
  have := wpAny_of_take hs hc hb hq n _ _ a _ r0 inv0 h1
  rw [show n + (l.length - n) = l.toArray.size by simp; omega] at this
  simpa using this
/-! ### the whole region, with an invariant of its own in the place of Below -/
end Go.Proofs.YtlifiioflkhkoaaGreat

/- Winding numbers of doubled edges: the program's side. Conditions: as each states. -/
namespace Go.Proofs.YtlifiioflkhkoaaGreat
open Go.RowKit
set_option linter.unusedVariables false
set_option maxRecDepth 100000
set_option linter.unusedSimpArgs false

/-- a value that does not hang on memory -/
def VEq (u : Value) (v : Value) (w : World) : Prop := v = u
theorem VEq.stays (u : Value) : Stays (VEq u) := fun v w w' h _ => h
def dbl (p : Pnt) : Pnt := (2 * p.1, 2 * p.2)
/-- winding numbers at a point of the doubled grid -/
def windF (E : List Leg) (p : Pnt) : Int := sumE (fun e => wndE p (dbl e.1, dbl e.2)) E
def Dbl (x : Int) : Prop := -524288 ≤ x ∧ x ≤ 524288

set_option maxHeartbeats 4000000 in
theorem turnD_any (ax ay bx b px py : Int) (w : World) (ha : Dbl ax ∧ Dbl ay) (hb : Dbl bx ∧ Dbl b) (hp : Dbl px ∧ Dbl py) :
    Calls Tryz.prog 54 #[.agg #[.int .i64 ax, .int .i64 ay], .agg #[.int .i64 bx, .int .i64 b], .agg #[.int .i64 px, .int .i64 py]] w fun e w' => e = .returned (.int .i64 (turnI ax ay bx b px py)) ∧ Below w.heap.size w w' := by
  unfold Dbl at *
  have m1 := prod_bd (x := bx - ax) (y := py - ay) (A := 1048576) (B := 1048576) (by omega) (by omega) (by omega) (by omega)
  have m2 := prod_bd (x := b - ay) (y := px - ax) (A := 1048576) (B := 1048576) (by omega) (by omega) (by omega) (by omega)
  have q1 : IntKind.i64.wrap (bx - ax) = bx - ax := wi (by omega)
  have q2 : IntKind.i64.wrap (py - ay) = py - ay := wi (by omega)
  have q3 : IntKind.i64.wrap (b - ay) = b - ay := wi (by omega)
  have q4 : IntKind.i64.wrap (px - ax) = px - ax := wi (by omega)
  have q5 : IntKind.i64.wrap ((bx - ax) * (py - ay)) = (bx - ax) * (py - ay) := wi (by omega)
  have q6 : IntKind.i64.wrap ((b - ay) * (px - ax)) = (b - ay) * (px - ax) := wi (by omega)
  have q7 : IntKind.i64.wrap ((bx - ax) * (py - ay) - (b - ay) * (px - ax)) = turnI ax ay bx b px py := by rw [wi (by omega)]; rfl
  clear ha hb hp m1 m2
  go_enter Tryz.func54, Tryz.ntmps54
  go_wp2_with fail
  go_ret
  exact ⟨rfl, (((Below.refl _ _).alloc (Nat.le_refl _) _).alloc (by simp) _).alloc (by simp; omega) _⟩

set_option maxHeartbeats 4000000 in
theorem double_any (ax ay ux uy : Int) (hx : ux = 2 * ax) (hy : uy = 2 * ay) (w : World) (ha : pt2Ok (ax, ay) = true) :
    Calls Tryz.prog 135 #[.agg #[.int .i64 ax, .int .i64 ay]] w fun e w' => e = .returned (.agg #[.int .i64 ux, .int .i64 uy]) ∧ Below w.heap.size w w' := by
  obtain ⟨a1, a2, a3, a4⟩ := pt_bd ha
  have q1 : IntKind.i64.wrap (2 * ax) = ux := by rw [← hx]; exact wi (by omega)
  have q2 : IntKind.i64.wrap (2 * ay) = uy := by rw [← hy]; exact wi (by omega)
  clear a1 a2 a3 a4 ha hx hy
  have hb0 := Go.Joins.below_alloc2 w (.cells #[.int .i64 ax, .int .i64 ay] 28 (0, 0)) (.cells #[.int .i64 0, .int .i64 0] 28 (0, 0))
  have hnew := heap_new2 w (.cells #[.int .i64 ax, .int .i64 ay] 28 (0, 0)) (.cells #[.int .i64 0, .int .i64 0] 28 (0, 0))
  go_enter Tryz.func135, Tryz.ntmps135
  go_upto_region 1 with fail
  generalize (w.alloc (.cells #[.int .i64 ax, .int .i64 ay] 28 (0, 0))).alloc (.cells #[.int .i64 0, .int .i64 0] 28 (0, 0)) = V at *
  obtain ⟨hP, hQ⟩ := hnew
  replace hQ : PB V (w.heap.size + 1) 0 0 := hQ
  replace hP : PB V w.heap.size ax ay := hP
  obtain ⟨p0, p1, _, _⟩ := hP.cells
  obtain ⟨r0, r1, rf, rl⟩ := hQ.cells
  have hQH := Lib.hid hQ
  clear hP hQ
  go_wp2_with fail
  obtain ⟨y0, y1, _, _⟩ := (hQH.out.put ux uy).cells
  refine bodyPost_ret (v := .agg #[.int .i64 ux, .int .i64 uy]) (by simp [results, Tryz.results135, go_sem, y0, y1]) rfl ⟨rfl, ?_⟩
  exact (hb0.setCell (p := ⟨w.heap.size + 1, 0, none⟩) (Nat.le_succ _) _).setCell (p := ⟨w.heap.size + 1, 1, none⟩) (Nat.le_succ _) _

set_option maxHeartbeats 16000000 in
theorem windingOf_any (A : Option Addr) (n c lo hi : Nat) (E : List Leg) (px py : Int) (v : Int) (hv : v = windF E (px, py)) (w : World) (hr : RdS 4 (FlatR edgeC) w lo hi A n E) (hhi : hi ≤ w.heap.size) (hn : n ≤ 1000) (hok : EOk E) (hp : Dbl px ∧ Dbl py) :
    Calls Tryz.prog 119 #[.slice A n c, .agg #[.int .i64 px, .int .i64 py], .bool true] w fun e w' => e = .returned (.int .i64 v) ∧ -(n : Int) ≤ v ∧ v ≤ n ∧ Below w.heap.size w w' := by
  have hll := Lib.hid hr.1
  have hb0 := Go.Joins.below_alloc1 w (.cells #[.int .i64 px, .int .i64 py] 28 (0, 0))
  have hP0 := heap_alloc_new w (.cells #[.int .i64 px, .int .i64 py] 28 (0, 0))
  have hz0 : (w.alloc (.cells #[.int .i64 px, .int .i64 py] 28 (0, 0))).heap.size = w.heap.size + 1 := by simp
  replace hr := Lib.hid (hr.frame (good_flat _) (Below.sameB hb0 hhi))
  replace hok := Lib.hid hok
  replace hv := Lib.hid hv
  replace hp := Lib.hid hp
  go_enter Tryz.func119, Tryz.ntmps119
  go_upto_region 1 with fail
  generalize w.alloc (.cells #[.int .i64 px, .int .i64 py] 28 (0, 0)) = W at *
  obtain ⟨Y, hY⟩ : ∃ Y, Y = w.heap.size := ⟨_, rfl⟩
  rw [← hY] at hP0 hz0 ⊢
  replace hP0 : PB W Y px py := hP0
  have hYv : Y < W.heap.size := by omega
  have hzv : Y + 1 ≤ W.heap.size ∧ W.heap.size ≤ Y + 1 ∧ hi ≤ W.heap.size := by omega
  have hYH := Lib.hid hY
  have hB0 := Lib.hid hb0
  have hPH := Lib.hid hP0
  clear hz0 hY hb0 hP0
  go_wp2_with fail
  go_loopg [7, 14] n (fun kx s7 s14 wr => ∃ (k : Nat) (s : Int), s14 = .int .i64 k ∧ k ≤ n ∧ n - k ≤ kx ∧ s7 = .int .i64 s ∧ Hid (s = windF (E.take k) (px, py)) ∧ -(k : Int) ≤ s ∧ s ≤ k ∧ Below W.heap.size W wr)
  case atStart => exact ⟨0, 0, rfl, Nat.zero_le _, Nat.le_refl _, rfl, rfl, by omega, by omega, Below.refl _ _⟩
  case round =>
  obtain ⟨k, s, rfl, hk, hkx, rfl, hs, hs1, hs2, hbel⟩ := hrel
  generalize wr = xr at *
  have hz := hbel.size
  by_cases hlt : k < n
  rotate_left
  · have hki : ¬ (k : Int) < (n : Int) := by omega
    have hfin : s = v := by
      rw [hs.out, List.take_of_length_le (by have := hll.out; omega), hv.out]
    clear hs
    have hbd : -(n : Int) ≤ v ∧ v ≤ n := by omega
    replace hfin := Lib.hid hfin
    replace hbd := Lib.hid hbd
    clear hs1 hs2
    go_wp2_with fail
    go_ret
    exact ⟨by rw [← hfin.out]; rfl, hbd.out.1, hbd.out.2, hB0.out.trans (hbel.mono (by have := hYH.out; omega))⟩
  have hki : (k : Int) < (n : Int) := by omega
  have i1 : (0 : Int) ≤ (k : Int) ∧ (k : Int) < (n : Int) := by omega
  obtain ⟨b, off, ax, ay, bx, ey, rfl, _, hb, hja, c0, c1, c2, c3⟩ := legAt (hr.out.frame (good_flat _) (Below.sameB hbel hzv.2.2)) hlt
  obtain ⟨ok1, ok2⟩ := hok.out _ (List.mem_of_getElem? hja)
  dsimp only at ok1 ok2
  have hst := sumE_step (f := fun e : Leg => wndE (px, py) (dbl e.1, dbl e.2)) hja
  replace hst : windF (E.take (k + 1)) (px, py) = windF (E.take k) (px, py) + wndE (px, py) (dbl (ax, ay), dbl (bx, ey)) := hst
  rw [← hs.out] at hst
  obtain ⟨x1, hx1⟩ : ∃ x, x = 2 * ax := ⟨_, rfl⟩
  obtain ⟨x2, hx2⟩ : ∃ x, x = 2 * ay := ⟨_, rfl⟩
  obtain ⟨z1, hz1⟩ : ∃ x, x = 2 * bx := ⟨_, rfl⟩
  obtain ⟨z2, hz2⟩ : ∃ x, x = 2 * ey := ⟨_, rfl⟩
  have hst : windF (E.take (k + 1)) (px, py) = s + wndE (px, py) ((x1, x2), (z1, z2)) := by rw [hst]; unfold dbl; rw [hx1, hx2, hz1, hz2]
  obtain ⟨o1, o2, o3, o4⟩ := pt_bd ok1
  obtain ⟨o5, o6, o7, o8⟩ := pt_bd ok2
  have hD1 : Hid (Dbl x1 ∧ Dbl x2) := Lib.hid (by unfold Dbl; omega)
  have hD2 : Hid (Dbl z1 ∧ Dbl z2) := Lib.hid (by unfold Dbl; omega)
  have hdA := Lib.hid (fun U => double_any ax ay x1 x2 hx1 hx2 U ok1)
  have hdB := Lib.hid (fun U => double_any bx ey z1 z2 hz1 hz2 U ok2)
  clear hx1 hx2 hz1 hz2 o1 o2 o3 o4 o5 o6 o7 o8 ok1 ok2 hja
  have hbw : b < xr.heap.size := by omega
  have hYx := (hPH.out.below hbel)
  have hbxn := heap_alloc_new xr (.cells #[.int .i64 ax, .int .i64 ay, .int .i64 bx, .int .i64 ey] 78 (0, 0))
  have hal := Go.Joins.below_alloc1 xr (.cells #[.int .i64 ax, .int .i64 ay, .int .i64 bx, .int .i64 ey] 78 (0, 0))
  have hz7 : (xr.alloc (.cells #[.int .i64 ax, .int .i64 ay, .int .i64 bx, .int .i64 ey] 78 (0, 0))).heap.size = xr.heap.size + 1 := by simp
  have hY7 := Lib.hid (hYx.below hal)
  have hb7 := Lib.hid (hbel.trans (hal.mono hz))
  clear hal hYx hbel
  go_upto_region 5 with fail
  clear c0 c1 c2 c3
  generalize xr.alloc (.cells #[.int .i64 ax, .int .i64 ay, .int .i64 bx, .int .i64 ey] 78 (0, 0)) = V at *
  obtain ⟨X, hX⟩ : ∃ P, P = xr.heap.size := ⟨_, rfl⟩
  rw [← hX] at hbxn hz7 hz hbw ⊢
  obtain ⟨e0, e1, e2, e3⟩ := leg_cells hbxn
  have hXl : X < V.heap.size := by omega
  have hs7 := hb7.out.size
  replace hX := Lib.hid hX
  have hS1 : Hid (∀ U, Below V.heap.size V U → U.cell? ⟨X, 0, none⟩ = some (.int .i64 ax) ∧ U.cell? ⟨X, 1, none⟩ = some (.int .i64 ay) ∧ U.cell? ⟨X, 2, none⟩ = some (.int .i64 bx) ∧ U.cell? ⟨X, 3, none⟩ = some (.int .i64 ey)) := Lib.hid fun U h => ⟨(h.cell (p := ⟨X, 0, none⟩) hXl).trans e0, (h.cell (p := ⟨X, 1, none⟩) hXl).trans e1, (h.cell (p := ⟨X, 2, none⟩) hXl).trans e2, (h.cell (p := ⟨X, 3, none⟩) hXl).trans e3⟩
  clear hbxn hz7
  go_cut [10, 11] (fun s10 s11 wx => ∃ (P Q : Nat), s10 = .pointer (some ⟨P, 0, none⟩) ∧ s11 = .pointer (some ⟨Q, 0, none⟩) ∧ PB wx P ax ay ∧ PB wx Q bx ey ∧ V.heap.size ≤ P ∧ V.heap.size ≤ Q ∧ P ≠ Q ∧ Below V.heap.size V wx)
  case first =>
    go_region_held3 (fun w' => w'.cell? ⟨X, 0, none⟩ = some (.int .i64 ax) ∧ w'.cell? ⟨X, 1, none⟩ = some (.int .i64 ay) ∧ w'.cell? ⟨X, 2, none⟩ = some (.int .i64 bx) ∧ w'.cell? ⟨X, 3, none⟩ = some (.int .i64 ey)) (first | (refine hS1.out _ ?_; repeat (first | with_reducible exact Below.refl _ _ | with_reducible refine Below.drew ?_ | with_reducible refine Below.alloc ?_ (by simp) _ | with_reducible refine Below.setCell ?_ (by simp) _))) (fail)
    all_goals go_wp2_with fail
    all_goals go_meet
    · exact ⟨_, _, rfl, rfl, (heap_new2 V _ _).1, (heap_new2 V _ _).2, Nat.le_refl _, Nat.le_succ _, by omega, Below.drew (Go.Joins.below_alloc2 V _ _)⟩
    · exact ⟨_, _, rfl, rfl, (heap_new2 V _ _).2, (heap_new2 V _ _).1, Nat.le_succ _, Nat.le_refl _, by omega, Below.drew (Go.Joins.below_alloc2 V _ _)⟩
  obtain ⟨P, Q, rfl, rfl, hP, hQ, hPl, hQl, hPQ, hbc⟩ := hcut
  generalize wc = U at *
  obtain ⟨p0, p1, pf, pl⟩ := hP.cells
  obtain ⟨q0, q1, qf, ql⟩ := hQ.cells
  have hbcH := Lib.hid hbc
  have hPH2 := Lib.hid hP
  have hQH2 := Lib.hid hQ
  have hUs := hbc.size
  clear hS1 e0 e1 e2 e3 hbc hP hQ
  go_upto_region 7 with fail
  have hS2 : Hid (∀ T, Below U.heap.size U T → T.cell? ⟨P, 0, none⟩ = some (.int .i64 ax) ∧ T.cell? ⟨P, 1, none⟩ = some (.int .i64 ay) ∧ T.cell? ⟨Q, 0, none⟩ = some (.int .i64 bx) ∧ T.cell? ⟨Q, 1, none⟩ = some (.int .i64 ey)) := Lib.hid fun T h => ⟨(h.cell (p := ⟨P, 0, none⟩) pl).trans p0, (h.cell (p := ⟨P, 1, none⟩) pl).trans p1, (h.cell (p := ⟨Q, 0, none⟩) ql).trans q0, (h.cell (p := ⟨Q, 1, none⟩) ql).trans q1⟩
  go_cut [10] (fun s10 wx => s10 = .pointer (some ⟨P, 0, none⟩) ∧ PB wx P x1 x2 ∧ PB wx Q z1 z2 ∧ Below V.heap.size V wx)
  case first =>
    refine wp_region_stays 4 (fun j => match j with | 0 => VEq (.agg #[.int .i64 ax, .int .i64 ay]) | 1 => VEq (.agg #[.int .i64 x1, .int .i64 x2]) | 2 => VEq (.agg #[.int .i64 bx, .int .i64 ey]) | 3 => VEq (.agg #[.int .i64 z1, .int .i64 z2]) | _ => VEq (.bool false)) (by kernel_rfl) (by kernel_rfl) ?_ ?_ ?_
    · intro j hj
      rcases (show j = 0 ∨ j = 1 ∨ j = 2 ∨ j = 3 by omega) with rfl | rfl | rfl | rfl <;> exact VEq.stays _
    · intro i hi
      rcases (show i = 0 ∨ i = 1 ∨ i = 2 ∨ i = 3 by omega) with rfl | rfl | rfl | rfl
      · intro o ho f wS K hB hd hK
        simp only [List.getElem?_cons_zero, List.getElem?_cons_succ, Option.some.injEq] at ho
        subst ho
        have hB' : Below U.heap.size U wS := belowDr hB
        simp only [putsL, dstL, List.getElem?_cons_zero, List.getElem?_cons_succ, Option.bind, Act.put, List.setIfInBounds_toArray, List.set_cons_zero, List.set_cons_succ] at hK ⊢
        obtain ⟨d0, d1, d2, d3⟩ := hS2.out wS hB'
        have dl : P < wS.heap.size := Nat.lt_of_lt_of_le pl hB'.size
        go_simp
        exact hK _ _ rfl (Below.refl _ _)
      · intro o ho f wS K hB hd hK
        simp only [List.getElem?_cons_zero, List.getElem?_cons_succ, Option.some.injEq] at ho
        subst ho
        have hB' : Below U.heap.size U wS := belowDr hB
        simp only [putsL, dstL, List.getElem?_cons_zero, List.getElem?_cons_succ, Option.bind, Act.put, List.setIfInBounds_toArray, List.set_cons_zero, List.set_cons_succ] at hK ⊢
        have e0 : f 0 = .agg #[.int .i64 ax, .int .i64 ay] := hd 0 (by rfl)
        simp only [e0] at hK ⊢
        go_simp
        go_at_call 135
        refine (hdA.out wS).mono ?_
        rintro e w9 ⟨rfl, hb9⟩
        exact hK _ _ rfl hb9
      · intro o ho f wS K hB hd hK
        simp only [List.getElem?_cons_zero, List.getElem?_cons_succ, Option.some.injEq] at ho
        subst ho
        have hB' : Below U.heap.size U wS := belowDr hB
        simp only [putsL, dstL, List.getElem?_cons_zero, List.getElem?_cons_succ, Option.bind, Act.put, List.setIfInBounds_toArray, List.set_cons_zero, List.set_cons_succ] at hK ⊢
        obtain ⟨d0, d1, d2, d3⟩ := hS2.out wS hB'
        have dl : Q < wS.heap.size := Nat.lt_of_lt_of_le ql hB'.size
        go_simp
        exact hK _ _ rfl (Below.refl _ _)
      · intro o ho f wS K hB hd hK
        simp only [List.getElem?_cons_zero, List.getElem?_cons_succ, Option.some.injEq] at ho
        subst ho
        have hB' : Below U.heap.size U wS := belowDr hB
        simp only [putsL, dstL, List.getElem?_cons_zero, List.getElem?_cons_succ, Option.bind, Act.put, List.setIfInBounds_toArray, List.set_cons_zero, List.set_cons_succ] at hK ⊢
        have e2 : f 2 = .agg #[.int .i64 bx, .int .i64 ey] := hd 2 (by rfl)
        simp only [e2] at hK ⊢
        go_simp
        go_at_call 135
        refine (hdB.out wS).mono ?_
        rintro e w9 ⟨rfl, hb9⟩
        exact hK _ _ rfl hb9
    · intro f w9 hb9' hv
      have hb9 : Below U.heap.size U w9 := hb9'
      have e0 : f 0 = .agg #[.int .i64 ax, .int .i64 ay] := hv 0 (by omega)
      have e1 : f 1 = .agg #[.int .i64 x1, .int .i64 x2] := hv 1 (by omega)
      have e2 : f 2 = .agg #[.int .i64 bx, .int .i64 ey] := hv 2 (by omega)
      have e3 : f 3 = .agg #[.int .i64 z1, .int .i64 z2] := hv 3 (by omega)
      simp only [putsL, dstL, List.getElem?_cons_zero, List.getElem?_cons_succ, Option.bind, Act.put, List.setIfInBounds_toArray, List.set_cons_zero, List.set_cons_succ, List.drop_succ_cons, List.drop_zero]
      simp only [e0, e1, e2, e3]
      clear hv hb9' e0 e1 e2 e3
      have hP9 := hPH2.out.below hb9
      have hQ9 := hQH2.out.below hb9
      obtain ⟨g0, g1, gf, gl⟩ := hP9.cells
      obtain ⟨j0, j1, jf, jl⟩ := hQ9.cells
      go_wp2_with fail
      go_meet
      case rel => exact ⟨rfl, ((hP9.put x1 x2).off hPQ).off hPQ, ((hQ9.off (Ne.symm hPQ)).off (Ne.symm hPQ)).put z1 z2, ((((hbcH.out.trans (hb9.mono hUs)).setCell (p := ⟨P, 0, none⟩) hPl _).setCell (p := ⟨P, 1, none⟩) hPl _).setCell (p := ⟨Q, 0, none⟩) hQl _).setCell (p := ⟨Q, 1, none⟩) hQl _⟩
  obtain ⟨hs10, hP, hQ, hbT⟩ := hcut
  subst hs10
  generalize wc = T at *
  have hY8 : PB T Y px py := hY7.out.below hbT
  have hBT := Lib.hid (hb7.out.trans (hbT.mono hs7))
  have hTs := hBT.out.size
  obtain ⟨p0, p1, _, pl⟩ := hP.cells
  obtain ⟨q0, q1, _, ql⟩ := hQ.cells
  obtain ⟨y0, y1, _, yl⟩ := hY8.cells
  have hPH3 := Lib.hid hP
  have hQH3 := Lib.hid hQ
  have hYH3 := Lib.hid hY8
  obtain ⟨t, ht⟩ : ∃ t, t = turnI x1 x2 z1 z2 px py := ⟨_, rfl⟩
  have hct := Lib.hid (fun W => turnD_any x1 x2 z1 z2 px py W hD1.out hD2.out hp.out)
  rw [← ht] at hct
  clear hP hQ hY8 hbT hbcH hPH2 hQH2 hdA hdB hY7 hPH
  by_cases g1 : x2 ≤ py
  · by_cases g2 : z2 ≤ py
    · have g3 : ¬ py < z2 := by omega
      have g4 : ¬ py < x2 := by omega
      rw [wnd_no (by omega) (by omega)] at hst
      have hst2 : s = windF (E.take (k + 1)) (px, py) := by omega
      have hbnd : -((k + 1 : Nat) : Int) ≤ s ∧ s ≤ ((k + 1 : Nat) : Int) := by omega
      replace hst := Lib.hid hst
      replace hst2 := Lib.hid hst2
      clear ht hs1 hs2
      go_wp2_with fail
      go_roundg (n - (k + 1))
      case measure => omega
      case rel => exact ⟨k + 1, s, by go_num, by omega, Nat.le_refl _, rfl, hst2, hbnd.1, hbnd.2, hBT.out⟩
    · have g3 : py < z2 := by omega
      rw [wnd_up g1 g3, ← ht] at hst
      by_cases g5 : 0 < t
      · rw [if_pos g5] at hst
        have m1 : IntKind.i64.wrap (s + 1) = s + 1 := wi (by omega)
        have hbnd : -((k + 1 : Nat) : Int) ≤ s + 1 ∧ s + 1 ≤ ((k + 1 : Nat) : Int) := by omega
        have hst2 : s + 1 = windF (E.take (k + 1)) (px, py) := hst.symm
        replace hst := Lib.hid hst
        replace hst2 := Lib.hid hst2
        replace hs := Lib.hid hs
        clear ht hs1 hs2
        go_wp2_with (go_at_call 54; refine (hct.out _).mono ?_; rintro e w8 ⟨rfl, hb1⟩; obtain ⟨p0', p1', _, pl'⟩ := PB.cells (hPH3.out.below hb1); obtain ⟨q0', q1', _, ql'⟩ := PB.cells (hQH3.out.below hb1); obtain ⟨y0', y1', _, yl'⟩ := PB.cells (hYH3.out.below hb1); clear p0 p1 pl q0 q1 ql y0 y1 yl; replace hb1 := Lib.hid hb1)
        go_roundg (n - (k + 1))
        case measure => omega
        case rel => exact ⟨k + 1, s + 1, by go_num, by omega, Nat.le_refl _, rfl, hst2, hbnd.1, hbnd.2, hBT.out.trans (hb1.out.mono hTs)⟩
      · rw [if_neg g5] at hst
        have hbnd : -((k + 1 : Nat) : Int) ≤ s ∧ s ≤ ((k + 1 : Nat) : Int) := by omega
        have hst2 : s = windF (E.take (k + 1)) (px, py) := by omega
        replace hst := Lib.hid hst
        replace hst2 := Lib.hid hst2
        replace hs := Lib.hid hs
        clear ht hs1 hs2
        go_wp2_with (go_at_call 54; refine (hct.out _).mono ?_; rintro e w8 ⟨rfl, hb1⟩; obtain ⟨p0', p1', _, pl'⟩ := PB.cells (hPH3.out.below hb1); obtain ⟨q0', q1', _, ql'⟩ := PB.cells (hQH3.out.below hb1); obtain ⟨y0', y1', _, yl'⟩ := PB.cells (hYH3.out.below hb1); clear p0 p1 pl q0 q1 ql y0 y1 yl; replace hb1 := Lib.hid hb1)
        go_roundg (n - (k + 1))
        case measure => omega
        case rel => exact ⟨k + 1, s, by go_num, by omega, Nat.le_refl _, rfl, hst2, hbnd.1, hbnd.2, hBT.out.trans (hb1.out.mono hTs)⟩
  · by_cases g2 : z2 ≤ py
    · have g3 : py < x2 := by omega
      rw [wnd_dn g2 g3, ← ht] at hst
      by_cases g5 : t < 0
      · rw [if_pos g5] at hst
        have m1 : IntKind.i64.wrap (s - 1) = s - 1 := wi (by omega)
        have hbnd : -((k + 1 : Nat) : Int) ≤ s - 1 ∧ s - 1 ≤ ((k + 1 : Nat) : Int) := by omega
        have hst2 : s - 1 = windF (E.take (k + 1)) (px, py) := by omega
        replace hst := Lib.hid hst
        replace hst2 := Lib.hid hst2
        replace hs := Lib.hid hs
        clear ht hs1 hs2
        go_wp2_with (go_at_call 54; refine (hct.out _).mono ?_; rintro e w8 ⟨rfl, hb1⟩; obtain ⟨p0', p1', _, pl'⟩ := PB.cells (hPH3.out.below hb1); obtain ⟨q0', q1', _, ql'⟩ := PB.cells (hQH3.out.below hb1); obtain ⟨y0', y1', _, yl'⟩ := PB.cells (hYH3.out.below hb1); clear p0 p1 pl q0 q1 ql y0 y1 yl; replace hb1 := Lib.hid hb1)
        go_roundg (n - (k + 1))
        case measure => omega
        case rel => exact ⟨k + 1, s - 1, by go_num, by omega, Nat.le_refl _, rfl, hst2, hbnd.1, hbnd.2, hBT.out.trans (hb1.out.mono hTs)⟩
      · rw [if_neg g5] at hst
        have hbnd : -((k + 1 : Nat) : Int) ≤ s ∧ s ≤ ((k + 1 : Nat) : Int) := by omega
        have hst2 : s = windF (E.take (k + 1)) (px, py) := by omega
        replace hst := Lib.hid hst
        replace hst2 := Lib.hid hst2
        replace hs := Lib.hid hs
        clear ht hs1 hs2
        go_wp2_with (go_at_call 54; refine (hct.out _).mono ?_; rintro e w8 ⟨rfl, hb1⟩; obtain ⟨p0', p1', _, pl'⟩ := PB.cells (hPH3.out.below hb1); obtain ⟨q0', q1', _, ql'⟩ := PB.cells (hQH3.out.below hb1); obtain ⟨y0', y1', _, yl'⟩ := PB.cells (hYH3.out.below hb1); clear p0 p1 pl q0 q1 ql y0 y1 yl; replace hb1 := Lib.hid hb1)
        go_roundg (n - (k + 1))
        case measure => omega
        case rel => exact ⟨k + 1, s, by go_num, by omega, Nat.le_refl _, rfl, hst2, hbnd.1, hbnd.2, hBT.out.trans (hb1.out.mono hTs)⟩
    · rw [wnd_no (by omega) (by omega)] at hst
      have hbnd : -((k + 1 : Nat) : Int) ≤ s ∧ s ≤ ((k + 1 : Nat) : Int) := by omega
      have hst2 : s = windF (E.take (k + 1)) (px, py) := by omega
      replace hst := Lib.hid hst
      replace hst2 := Lib.hid hst2
      clear ht hs1 hs2
      go_wp2_with fail
      go_roundg (n - (k + 1))
      case measure => omega
      case rel => exact ⟨k + 1, s, by go_num, by omega, Nat.le_refl _, rfl, hst2, hbnd.1, hbnd.2, hBT.out⟩
end Go.Proofs.YtlifiioflkhkoaaGreat

