/- Whether two glyphs are the same: both sides. Conditions: as each states. -/
import Derived.BigQuiet
import Derived.Lib.QuietBelow
import Derived.Test.YtgfbcbbcnineiaaGreatSc13
import Derived.Test.YtgfbcbbcnineiaaGreatSc05
import Derived.Test.YtgfbcbbcnineiaaGreatSc33
namespace Go.Proofs.YtgfbcbbcnineiaaGreat
open Go.RowKit
set_option linter.unusedVariables false
set_option maxRecDepth 100000

theorem gl_neq (x0 y0 : ByteArray) (x1 y1 x2 y2 : Int) (x3 y3 : List (List Knot)) (x4 y4 : List Part) (x5 y5 : List Anch) (x6 y6 : ByteArray) (A3 B3 A4 B4 A5 B5 : Option Addr) (n3 c3 m3 k3 n4 c4 m4 k4 n5 c5 m5 k5 lo hi lo' hi' : Nat) (f : Nat) (h : match f with | 0 => x0 ≠ y0 | 1 => x1 ≠ y1 | 2 => x2 ≠ y2 | 3 => x3 ≠ y3 | 4 => x4 ≠ y4 | 5 => x5 ≠ y5 | 6 => x6 ≠ y6 | _ => False) : decide ((⟨x0, x1, x2, x3, x4, x5, x6⟩ : Gl) = ⟨y0, y1, y2, y3, y4, y5, y6⟩) = false := by
  rw [decide_eq_false_iff_not]
  intro e
  simp only [Gl.mk.injEq] at e
  obtain ⟨e0, e1, e2, e3, e4, e5, e6⟩ := e
  match f, h with
  | 0, h => exact h e0
  | 1, h => exact h e1
  | 2, h => exact h e2
  | 3, h => exact h e3
  | 4, h => exact h e4
  | 5, h => exact h e5
  | 6, h => exact h e6

set_option maxHeartbeats 2000000 in
theorem l17Same_n0 (p1 o1 p2 o2 : Nat) (x0 y0 : ByteArray) (x1 y1 x2 y2 : Int) (x6 y6 : ByteArray) (A3 B3 A4 B4 A5 B5 : Option Addr) (n3 c3 m3 k3 n4 c4 m4 k4 n5 c5 m5 k5 : Nat) (w : World)
    (q0 : w.cell? ⟨p1, o1, none⟩ = some (.string x0)) (r0 : w.cell? ⟨p2, o2, none⟩ = some (.string y0))
    (q1 : w.cell? ⟨p1, o1 + 1, none⟩ = some (.int .i64 x1)) (r1 : w.cell? ⟨p2, o2 + 1, none⟩ = some (.int .i64 y1))
    (q2 : w.cell? ⟨p1, o1 + 2, none⟩ = some (.int .i64 x2)) (r2 : w.cell? ⟨p2, o2 + 2, none⟩ = some (.int .i64 y2))
    (q3 : w.cell? ⟨p1, o1 + 3, none⟩ = some (.slice A3 n3 c3)) (r3 : w.cell? ⟨p2, o2 + 3, none⟩ = some (.slice B3 m3 k3))
    (q4 : w.cell? ⟨p1, o1 + 4, none⟩ = some (.slice A4 n4 c4)) (r4 : w.cell? ⟨p2, o2 + 4, none⟩ = some (.slice B4 m4 k4))
    (q5 : w.cell? ⟨p1, o1 + 5, none⟩ = some (.slice A5 n5 c5)) (r5 : w.cell? ⟨p2, o2 + 5, none⟩ = some (.slice B5 m5 k5))
    (q6 : w.cell? ⟨p1, o1 + 6, none⟩ = some (.string x6)) (r6 : w.cell? ⟨p2, o2 + 6, none⟩ = some (.string y6))
     (e0 : x0 ≠ y0) :
    Calls Tryz.prog 17 #[.pointer (some ⟨p1, o1, none⟩), .pointer (some ⟨p2, o2, none⟩)] w fun e w' => e = .returned (.bool false) ∧ Below w.heap.size w w' := by

  have u0 : (x0.toList == y0.toList) = false := bytes_neq e0
  clear e0
  go_enter Tryz.func17, Tryz.ntmps17
  go_wp2_with fail
  refine wp_region_quiet_lit (by kernel_rfl) (by kernel_rfl) ?_
  simp only [List.append]
  repeat (go_big_quiet_step (fail))
  refine wpQuiet_nil ?_
  intro _ hw'
  obtain ⟨nq, hw''⟩ := hw'
  subst hw''
  go_wp2_with fail
  go_ret
  exact ⟨rfl, below_drewN (Below.refl _ _) _⟩

set_option maxHeartbeats 2000000 in
theorem l17Same_n1 (p1 o1 p2 o2 : Nat) (x0 y0 : ByteArray) (x1 y1 x2 y2 : Int) (x6 y6 : ByteArray) (A3 B3 A4 B4 A5 B5 : Option Addr) (n3 c3 m3 k3 n4 c4 m4 k4 n5 c5 m5 k5 : Nat) (w : World)
    (q0 : w.cell? ⟨p1, o1, none⟩ = some (.string x0)) (r0 : w.cell? ⟨p2, o2, none⟩ = some (.string y0))
    (q1 : w.cell? ⟨p1, o1 + 1, none⟩ = some (.int .i64 x1)) (r1 : w.cell? ⟨p2, o2 + 1, none⟩ = some (.int .i64 y1))
    (q2 : w.cell? ⟨p1, o1 + 2, none⟩ = some (.int .i64 x2)) (r2 : w.cell? ⟨p2, o2 + 2, none⟩ = some (.int .i64 y2))
    (q3 : w.cell? ⟨p1, o1 + 3, none⟩ = some (.slice A3 n3 c3)) (r3 : w.cell? ⟨p2, o2 + 3, none⟩ = some (.slice B3 m3 k3))
    (q4 : w.cell? ⟨p1, o1 + 4, none⟩ = some (.slice A4 n4 c4)) (r4 : w.cell? ⟨p2, o2 + 4, none⟩ = some (.slice B4 m4 k4))
    (q5 : w.cell? ⟨p1, o1 + 5, none⟩ = some (.slice A5 n5 c5)) (r5 : w.cell? ⟨p2, o2 + 5, none⟩ = some (.slice B5 m5 k5))
    (q6 : w.cell? ⟨p1, o1 + 6, none⟩ = some (.string x6)) (r6 : w.cell? ⟨p2, o2 + 6, none⟩ = some (.string y6))
    (e0 : x0 = y0) (e1 : x1 ≠ y1) :
    Calls Tryz.prog 17 #[.pointer (some ⟨p1, o1, none⟩), .pointer (some ⟨p2, o2, none⟩)] w fun e w' => e = .returned (.bool false) ∧ Below w.heap.size w w' := by
  subst e0
  have u1 : (x1 == y1) = false := by simp [e1]
  have v1 : (x1 != y1) = true := by simp [e1]
  clear e1
  go_enter Tryz.func17, Tryz.ntmps17
  go_wp2_with fail
  refine wp_region_quiet_lit (by kernel_rfl) (by kernel_rfl) ?_
  simp only [List.append]
  repeat (go_big_quiet_step (fail))
  refine wpQuiet_nil ?_
  intro _ hw'
  obtain ⟨nq, hw''⟩ := hw'
  subst hw''
  go_wp2_with fail
  go_ret
  exact ⟨rfl, below_drewN (Below.refl _ _) _⟩

set_option maxHeartbeats 2000000 in
theorem l17Same_n2 (p1 o1 p2 o2 : Nat) (x0 y0 : ByteArray) (x1 y1 x2 y2 : Int) (x6 y6 : ByteArray) (A3 B3 A4 B4 A5 B5 : Option Addr) (n3 c3 m3 k3 n4 c4 m4 k4 n5 c5 m5 k5 : Nat) (w : World)
    (q0 : w.cell? ⟨p1, o1, none⟩ = some (.string x0)) (r0 : w.cell? ⟨p2, o2, none⟩ = some (.string y0))
    (q1 : w.cell? ⟨p1, o1 + 1, none⟩ = some (.int .i64 x1)) (r1 : w.cell? ⟨p2, o2 + 1, none⟩ = some (.int .i64 y1))
    (q2 : w.cell? ⟨p1, o1 + 2, none⟩ = some (.int .i64 x2)) (r2 : w.cell? ⟨p2, o2 + 2, none⟩ = some (.int .i64 y2))
    (q3 : w.cell? ⟨p1, o1 + 3, none⟩ = some (.slice A3 n3 c3)) (r3 : w.cell? ⟨p2, o2 + 3, none⟩ = some (.slice B3 m3 k3))
    (q4 : w.cell? ⟨p1, o1 + 4, none⟩ = some (.slice A4 n4 c4)) (r4 : w.cell? ⟨p2, o2 + 4, none⟩ = some (.slice B4 m4 k4))
    (q5 : w.cell? ⟨p1, o1 + 5, none⟩ = some (.slice A5 n5 c5)) (r5 : w.cell? ⟨p2, o2 + 5, none⟩ = some (.slice B5 m5 k5))
    (q6 : w.cell? ⟨p1, o1 + 6, none⟩ = some (.string x6)) (r6 : w.cell? ⟨p2, o2 + 6, none⟩ = some (.string y6))
    (e0 : x0 = y0) (e1 : x1 = y1) (e2 : x2 ≠ y2) :
    Calls Tryz.prog 17 #[.pointer (some ⟨p1, o1, none⟩), .pointer (some ⟨p2, o2, none⟩)] w fun e w' => e = .returned (.bool false) ∧ Below w.heap.size w w' := by
  subst e0
  subst e1
  have u2 : (x2 == y2) = false := by simp [e2]
  have v2 : (x2 != y2) = true := by simp [e2]
  clear e2
  go_enter Tryz.func17, Tryz.ntmps17
  go_wp2_with fail
  refine wp_region_quiet_lit (by kernel_rfl) (by kernel_rfl) ?_
  simp only [List.append]
  repeat (go_big_quiet_step (fail))
  refine wpQuiet_nil ?_
  intro _ hw'
  obtain ⟨nq, hw''⟩ := hw'
  subst hw''
  go_wp2_with fail
  go_ret
  exact ⟨rfl, below_drewN (Below.refl _ _) _⟩

set_option maxHeartbeats 2000000 in
theorem l17Same_n6 (p1 o1 p2 o2 : Nat) (x0 y0 : ByteArray) (x1 y1 x2 y2 : Int) (x6 y6 : ByteArray) (A3 B3 A4 B4 A5 B5 : Option Addr) (n3 c3 m3 k3 n4 c4 m4 k4 n5 c5 m5 k5 : Nat) (w : World)
    (q0 : w.cell? ⟨p1, o1, none⟩ = some (.string x0)) (r0 : w.cell? ⟨p2, o2, none⟩ = some (.string y0))
    (q1 : w.cell? ⟨p1, o1 + 1, none⟩ = some (.int .i64 x1)) (r1 : w.cell? ⟨p2, o2 + 1, none⟩ = some (.int .i64 y1))
    (q2 : w.cell? ⟨p1, o1 + 2, none⟩ = some (.int .i64 x2)) (r2 : w.cell? ⟨p2, o2 + 2, none⟩ = some (.int .i64 y2))
    (q3 : w.cell? ⟨p1, o1 + 3, none⟩ = some (.slice A3 n3 c3)) (r3 : w.cell? ⟨p2, o2 + 3, none⟩ = some (.slice B3 m3 k3))
    (q4 : w.cell? ⟨p1, o1 + 4, none⟩ = some (.slice A4 n4 c4)) (r4 : w.cell? ⟨p2, o2 + 4, none⟩ = some (.slice B4 m4 k4))
    (q5 : w.cell? ⟨p1, o1 + 5, none⟩ = some (.slice A5 n5 c5)) (r5 : w.cell? ⟨p2, o2 + 5, none⟩ = some (.slice B5 m5 k5))
    (q6 : w.cell? ⟨p1, o1 + 6, none⟩ = some (.string x6)) (r6 : w.cell? ⟨p2, o2 + 6, none⟩ = some (.string y6))
    (e0 : x0 = y0) (e1 : x1 = y1) (e2 : x2 = y2) (e6 : x6 ≠ y6) :
    Calls Tryz.prog 17 #[.pointer (some ⟨p1, o1, none⟩), .pointer (some ⟨p2, o2, none⟩)] w fun e w' => e = .returned (.bool false) ∧ Below w.heap.size w w' := by
  subst e0
  subst e1
  subst e2
  have u6 : (x6.toList == y6.toList) = false := bytes_neq e6
  clear e6
  go_enter Tryz.func17, Tryz.ntmps17
  go_wp2_with fail
  refine wp_region_quiet_lit (by kernel_rfl) (by kernel_rfl) ?_
  simp only [List.append]
  repeat (go_big_quiet_step (fail))
  refine wpQuiet_nil ?_
  intro _ hw'
  obtain ⟨nq, hw''⟩ := hw'
  subst hw''
  go_wp2_with fail
  go_ret
  exact ⟨rfl, below_drewN (Below.refl _ _) _⟩

set_option maxHeartbeats 8000000 in
theorem l17Same_any (p1 o1 p2 o2 : Nat) (x0 y0 : ByteArray) (x1 y1 x2 y2 : Int) (x3 y3 : List (List Knot)) (x4 y4 : List Part) (x5 y5 : List Anch) (x6 y6 : ByteArray) (A3 B3 A4 B4 A5 B5 : Option Addr) (n3 c3 m3 k3 n4 c4 m4 k4 n5 c5 m5 k5 lo hi lo' hi' : Nat) (b : Bool) (hb : b = decide ((⟨x0, x1, x2, x3, x4, x5, x6⟩ : Gl) = ⟨y0, y1, y2, y3, y4, y5, y6⟩)) (w : World) (hw1 : p1 < w.heap.size) (hw2 : p2 < w.heap.size)
    (q0 : w.cell? ⟨p1, o1, none⟩ = some (.string x0)) (r0 : w.cell? ⟨p2, o2, none⟩ = some (.string y0))
    (q1 : w.cell? ⟨p1, o1 + 1, none⟩ = some (.int .i64 x1)) (r1 : w.cell? ⟨p2, o2 + 1, none⟩ = some (.int .i64 y1))
    (q2 : w.cell? ⟨p1, o1 + 2, none⟩ = some (.int .i64 x2)) (r2 : w.cell? ⟨p2, o2 + 2, none⟩ = some (.int .i64 y2))
    (q3 : w.cell? ⟨p1, o1 + 3, none⟩ = some (.slice A3 n3 c3)) (r3 : w.cell? ⟨p2, o2 + 3, none⟩ = some (.slice B3 m3 k3))
    (q4 : w.cell? ⟨p1, o1 + 4, none⟩ = some (.slice A4 n4 c4)) (r4 : w.cell? ⟨p2, o2 + 4, none⟩ = some (.slice B4 m4 k4))
    (q5 : w.cell? ⟨p1, o1 + 5, none⟩ = some (.slice A5 n5 c5)) (r5 : w.cell? ⟨p2, o2 + 5, none⟩ = some (.slice B5 m5 k5))
    (q6 : w.cell? ⟨p1, o1 + 6, none⟩ = some (.string x6)) (r6 : w.cell? ⟨p2, o2 + 6, none⟩ = some (.string y6))
    (ho1 : OutRd w lo hi A3 n3 x3) (ho2 : OutRd w lo' hi' B3 m3 y3) (hp1 : RdS 3 (FlatR partC) w lo hi A4 n4 x4) (hp2 : RdS 3 (FlatR partC) w lo' hi' B4 m4 y4) (ha1 : RdS 3 (FlatR anchC) w lo hi A5 n5 x5) (ha2 : RdS 3 (FlatR anchC) w lo' hi' B5 m5 y5) (hh1 : hi ≤ w.heap.size) (hh2 : hi' ≤ w.heap.size) (s1 : Gl.small ⟨x0, x1, x2, x3, x4, x5, x6⟩ 1000000000) (s2 : Gl.small ⟨y0, y1, y2, y3, y4, y5, y6⟩ 1000000000) :
    Calls Tryz.prog 17 #[.pointer (some ⟨p1, o1, none⟩), .pointer (some ⟨p2, o2, none⟩)] w fun e w' => e = .returned (.bool b) ∧ Below w.heap.size w w' := by
  have hne := Lib.hid (gl_neq x0 y0 x1 y1 x2 y2 x3 y3 x4 y4 x5 y5 x6 y6 A3 B3 A4 B4 A5 B5 n3 c3 m3 k3 n4 c4 m4 k4 n5 c5 m5 k5 lo hi lo' hi')
  replace hb := Lib.hid hb
  by_cases e0 : x0 = y0
  rotate_left
  · have hbf : b = false := by rw [hb.out]; exact hne.out 0 e0
    subst hbf
    exact l17Same_n0 _ _ _ _ _ _ _ _ _ _ _ _ _ _ _ _ _ _ _ _ _ _ _ _ _ _ _ _ _ _ w q0 r0 q1 r1 q2 r2 q3 r3 q4 r4 q5 r5 q6 r6  e0
  subst e0
  by_cases e1 : x1 = y1
  rotate_left
  · have hbf : b = false := by rw [hb.out]; exact hne.out 1 e1
    subst hbf
    exact l17Same_n1 _ _ _ _ _ _ _ _ _ _ _ _ _ _ _ _ _ _ _ _ _ _ _ _ _ _ _ _ _ _ w q0 r0 q1 r1 q2 r2 q3 r3 q4 r4 q5 r5 q6 r6 rfl e1
  subst e1
  by_cases e2 : x2 = y2
  rotate_left
  · have hbf : b = false := by rw [hb.out]; exact hne.out 2 e2
    subst hbf
    exact l17Same_n2 _ _ _ _ _ _ _ _ _ _ _ _ _ _ _ _ _ _ _ _ _ _ _ _ _ _ _ _ _ _ w q0 r0 q1 r1 q2 r2 q3 r3 q4 r4 q5 r5 q6 r6 rfl rfl e2
  subst e2
  by_cases e6 : x6 = y6
  rotate_left
  · have hbf : b = false := by rw [hb.out]; exact hne.out 6 e6
    subst hbf
    exact l17Same_n6 _ _ _ _ _ _ _ _ _ _ _ _ _ _ _ _ _ _ _ _ _ _ _ _ _ _ _ _ _ _ w q0 r0 q1 r1 q2 r2 q3 r3 q4 r4 q5 r5 q6 r6 rfl rfl rfl e6
  subst e6
  obtain ⟨t, ht⟩ : ∃ t, t = decide (x3 = y3) := ⟨_, rfl⟩
  have hso := Lib.hid (fun d os => Calls.regrown_of (specSameO_any A3 B3 n3 c3 m3 k3 lo hi lo' hi' x3 y3 t ht (Go.Sort.grow (redrawn w d) os) (ho1.frame good_loop (Below.sameB (below_regrown w d os) hh1)) (ho2.frame good_loop (Below.sameB (below_regrown w d os) hh2)) (Nat.le_trans hh1 (below_regrown w d os).size) (Nat.le_trans hh2 (below_regrown w d os).size) (by rw [← ho1.1]; exact s1.o) (by rw [← ho2.1]; exact s2.o) s1.k s2.k))
  replace ht := Lib.hid ht
  have n4b : n4 ≤ 1000000000 := by rw [← hp1.1]; exact s1.p
  have m4b : m4 ≤ 1000000000 := by rw [← hp2.1]; exact s2.p
  have n5b : n5 ≤ 1000000000 := by rw [← ha1.1]; exact s1.a
  have m5b : m5 ≤ 1000000000 := by rw [← ha2.1]; exact s2.a
  clear ho1 ho2
  have cq0 : ∀ d os, (Go.Sort.grow (redrawn w d) os).cell? ⟨p1, o1, none⟩ = some (.string x0) := cell_regrown q0
  have cr0 : ∀ d os, (Go.Sort.grow (redrawn w d) os).cell? ⟨p2, o2, none⟩ = some (.string x0) := cell_regrown r0
  have cq1 : ∀ d os, (Go.Sort.grow (redrawn w d) os).cell? ⟨p1, o1 + 1, none⟩ = some (.int .i64 x1) := cell_regrown q1
  have cr1 : ∀ d os, (Go.Sort.grow (redrawn w d) os).cell? ⟨p2, o2 + 1, none⟩ = some (.int .i64 x1) := cell_regrown r1
  have cq2 : ∀ d os, (Go.Sort.grow (redrawn w d) os).cell? ⟨p1, o1 + 2, none⟩ = some (.int .i64 x2) := cell_regrown q2
  have cr2 : ∀ d os, (Go.Sort.grow (redrawn w d) os).cell? ⟨p2, o2 + 2, none⟩ = some (.int .i64 x2) := cell_regrown r2
  have cq3 : ∀ d os, (Go.Sort.grow (redrawn w d) os).cell? ⟨p1, o1 + 3, none⟩ = some (.slice A3 n3 c3) := cell_regrown q3
  have cr3 : ∀ d os, (Go.Sort.grow (redrawn w d) os).cell? ⟨p2, o2 + 3, none⟩ = some (.slice B3 m3 k3) := cell_regrown r3
  have cq4 : ∀ d os, (Go.Sort.grow (redrawn w d) os).cell? ⟨p1, o1 + 4, none⟩ = some (.slice A4 n4 c4) := cell_regrown q4
  have cr4 : ∀ d os, (Go.Sort.grow (redrawn w d) os).cell? ⟨p2, o2 + 4, none⟩ = some (.slice B4 m4 k4) := cell_regrown r4
  have cq5 : ∀ d os, (Go.Sort.grow (redrawn w d) os).cell? ⟨p1, o1 + 5, none⟩ = some (.slice A5 n5 c5) := cell_regrown q5
  have cr5 : ∀ d os, (Go.Sort.grow (redrawn w d) os).cell? ⟨p2, o2 + 5, none⟩ = some (.slice B5 m5 k5) := cell_regrown r5
  have cq6 : ∀ d os, (Go.Sort.grow (redrawn w d) os).cell? ⟨p1, o1 + 6, none⟩ = some (.string x6) := cell_regrown q6
  have cr6 : ∀ d os, (Go.Sort.grow (redrawn w d) os).cell? ⟨p2, o2 + 6, none⟩ = some (.string x6) := cell_regrown r6
  cases t with
  | false =>
    have hbf : b = false := by rw [hb.out]; exact hne.out 3 (of_decide_eq_false ht.out.symm)
    subst hbf
    clear hp1 hp2 ha1 ha2
    go_enter Tryz.func17, Tryz.ntmps17
    go_wp2_with fail
    refine wp_region_quiet_below (by kernel_rfl) (by kernel_rfl) ?_
    simp only [List.append]
    repeat (go_big_quiet_step (exact hso.out _ _))
    refine wpQuiet_nil ?_
    intro _ hw'
    obtain ⟨⟨dq, osq⟩, hw''⟩ := hw'
    subst hw''
    have hb1 : Below w.heap.size w (Go.Sort.grow (redrawn w dq) osq) := below_regrown w dq osq
    generalize Go.Sort.grow (redrawn w dq) osq = w1 at hb1 ⊢
    go_wp2_with fail
    go_ret
    exact ⟨rfl, hb1⟩
  | true =>
    by_cases l4 : n4 = m4
    rotate_left
    · have hbf : b = false := by rw [hb.out]; exact hne.out 4 (by rintro rfl; exact l4 (hp1.1.symm.trans hp2.1))
      have g1 : ((n4 : Int) == (m4 : Int)) = false := by simp; omega
      have g2 : ((n4 : Int) != (m4 : Int)) = true := by simp; omega
      subst hbf
      clear l4 hp1 hp2 ha1 ha2
      go_enter Tryz.func17, Tryz.ntmps17
      go_wp2_with fail
      refine wp_region_quiet_below (by kernel_rfl) (by kernel_rfl) ?_
      simp only [List.append]
      repeat (go_big_quiet_step (exact hso.out _ _))
      refine wpQuiet_nil ?_
      intro _ hw'
      obtain ⟨⟨dq, osq⟩, hw''⟩ := hw'
      subst hw''
      have hb1 : Below w.heap.size w (Go.Sort.grow (redrawn w dq) osq) := below_regrown w dq osq
      generalize Go.Sort.grow (redrawn w dq) osq = w1 at hb1 ⊢
      have zq4 : w1.cell? ⟨p1, o1 + 4, none⟩ = some (.slice A4 n4 c4) := (hb1.cell (by simp; omega)).trans q4
      have zr4 : w1.cell? ⟨p2, o2 + 4, none⟩ = some (.slice B4 m4 k4) := (hb1.cell (by simp; omega)).trans r4
      have zq5 : w1.cell? ⟨p1, o1 + 5, none⟩ = some (.slice A5 n5 c5) := (hb1.cell (by simp; omega)).trans q5
      have zr5 : w1.cell? ⟨p2, o2 + 5, none⟩ = some (.slice B5 m5 k5) := (hb1.cell (by simp; omega)).trans r5
      clear q0 q1 q2 q3 q4 q5 q6 r0 r1 r2 r3 r4 r5 r6
      go_wp2_with fail
      go_ret
      exact ⟨rfl, hb1⟩
    subst l4
    by_cases l5 : n5 = m5
    rotate_left
    · have hbf : b = false := by rw [hb.out]; exact hne.out 5 (by rintro rfl; exact l5 (ha1.1.symm.trans ha2.1))
      have g1 : ((n5 : Int) == (m5 : Int)) = false := by simp; omega
      have g2 : ((n5 : Int) != (m5 : Int)) = true := by simp; omega
      subst hbf
      clear l5 hp1 hp2 ha1 ha2
      go_enter Tryz.func17, Tryz.ntmps17
      go_wp2_with fail
      refine wp_region_quiet_below (by kernel_rfl) (by kernel_rfl) ?_
      simp only [List.append]
      repeat (go_big_quiet_step (exact hso.out _ _))
      refine wpQuiet_nil ?_
      intro _ hw'
      obtain ⟨⟨dq, osq⟩, hw''⟩ := hw'
      subst hw''
      have hb1 : Below w.heap.size w (Go.Sort.grow (redrawn w dq) osq) := below_regrown w dq osq
      generalize Go.Sort.grow (redrawn w dq) osq = w1 at hb1 ⊢
      have zq4 : w1.cell? ⟨p1, o1 + 4, none⟩ = some (.slice A4 n4 c4) := (hb1.cell (by simp; omega)).trans q4
      have zr4 : w1.cell? ⟨p2, o2 + 4, none⟩ = some (.slice B4 n4 k4) := (hb1.cell (by simp; omega)).trans r4
      have zq5 : w1.cell? ⟨p1, o1 + 5, none⟩ = some (.slice A5 n5 c5) := (hb1.cell (by simp; omega)).trans q5
      have zr5 : w1.cell? ⟨p2, o2 + 5, none⟩ = some (.slice B5 m5 k5) := (hb1.cell (by simp; omega)).trans r5
      clear q0 q1 q2 q3 q4 q5 q6 r0 r1 r2 r3 r4 r5 r6
      go_wp2_with fail
      go_ret
      exact ⟨rfl, hb1⟩
    subst l5
    have hfin4 := Lib.hid (fun h => take_eq_done (n := n4) h hp1.1 hp2.1)
    have hfin5 := Lib.hid (fun h => take_eq_done (n := n5) h ha1.1 ha2.1)
    go_enter Tryz.func17, Tryz.ntmps17
    go_wp2_with fail
    refine wp_region_quiet_below (by kernel_rfl) (by kernel_rfl) ?_
    simp only [List.append]
    repeat (go_big_quiet_step (exact hso.out _ _))
    refine wpQuiet_nil ?_
    intro _ hw'
    obtain ⟨⟨dq, osq⟩, hw''⟩ := hw'
    subst hw''
    have hb1 : Below w.heap.size w (Go.Sort.grow (redrawn w dq) osq) := below_regrown w dq osq
    generalize Go.Sort.grow (redrawn w dq) osq = w1 at hb1 ⊢
    have zq4 : w1.cell? ⟨p1, o1 + 4, none⟩ = some (.slice A4 n4 c4) := (hb1.cell (by simp; omega)).trans q4
    have zr4 : w1.cell? ⟨p2, o2 + 4, none⟩ = some (.slice B4 n4 k4) := (hb1.cell (by simp; omega)).trans r4
    have zq5 : w1.cell? ⟨p1, o1 + 5, none⟩ = some (.slice A5 n5 c5) := (hb1.cell (by simp; omega)).trans q5
    have zr5 : w1.cell? ⟨p2, o2 + 5, none⟩ = some (.slice B5 n5 k5) := (hb1.cell (by simp; omega)).trans r5
    clear q0 q1 q2 q3 q4 q5 q6 r0 r1 r2 r3 r4 r5 r6
    replace hp1 := Lib.hid (hp1.frame (good_flat _) (Below.sameB hb1 hh1))
    replace hp2 := Lib.hid (hp2.frame (good_flat _) (Below.sameB hb1 hh2))
    replace ha1 := Lib.hid (ha1.frame (good_flat _) (Below.sameB hb1 hh1))
    replace ha2 := Lib.hid (ha2.frame (good_flat _) (Below.sameB hb1 hh2))
    go_wp2_with fail
    go_loopw [5] (fun i wr => ∃ k q : Nat, i = .int .i64 k ∧ k ≤ n4 ∧ x4.take k = y4.take k ∧ wr = w1.drewN q) (fun i wr => n4 - (intOf i).toNat)
    case atStart => exact ⟨0, 0, rfl, Nat.zero_le _, rfl, rfl⟩
    case round =>
      obtain ⟨k, q, rfl, hk, htk, rfl⟩ := hrel
      replace htk := Lib.hid htk
      by_cases hlt : k < n4
      · obtain ⟨b1, f1, ⟨a0, a1, a2⟩, rfl, hb0, hbw, hja, hcs⟩ := hp1.out.at hlt
        obtain ⟨b2, f2, ⟨d0, d1, d2⟩, rfl, hb0', hbw', hja', hcs'⟩ := hp2.out.at hlt
        have q0 := hcs 0 _ rfl
        have r0 := hcs' 0 _ rfl
        have q1 := hcs 1 _ rfl
        have r1 := hcs' 1 _ rfl
        have q2 := hcs 2 _ rfl
        have r2 := hcs' 2 _ rfl
        simp only [Nat.add_zero] at q0 r0 q1 r1 q2 r2
        have hi : (0 : Int) ≤ (k : Int) ∧ (k : Int) < (n4 : Int) := by omega
        clear hcs hcs' hb0 hb0' hbw hbw'
        by_cases e0 : a0 = d0
        rotate_left
        · have hbf : b = false := by rw [hb.out]; exact hne.out 4 (ne_of_at hja hja' (by simp [e0]))
          have t0 : (a0 == d0) = false := by simp [e0]
          subst hbf
          clear e0 hja hja'
          go_wp2_with fail
          go_quiet (fail)
          go_wp2_with fail
          go_ret
          exact ⟨rfl, by first | exact below_drewN hb1 _ | (rw [World.drewN_drewN]; exact below_drewN hb1 _)⟩
        subst e0
        by_cases e1 : a1 = d1
        rotate_left
        · have hbf : b = false := by rw [hb.out]; exact hne.out 4 (ne_of_at hja hja' (by simp [e1]))
          have t1 : (a1 == d1) = false := by simp [e1]
          subst hbf
          clear e1 hja hja'
          go_wp2_with fail
          go_quiet (fail)
          go_wp2_with fail
          go_ret
          exact ⟨rfl, by first | exact below_drewN hb1 _ | (rw [World.drewN_drewN]; exact below_drewN hb1 _)⟩
        subst e1
        by_cases e2 : a2 = d2
        rotate_left
        · have hbf : b = false := by rw [hb.out]; exact hne.out 4 (ne_of_at hja hja' (by simp [e2]))
          have t2 : (a2 == d2) = false := by simp [e2]
          subst hbf
          clear e2 hja hja'
          go_wp2_with fail
          go_quiet (fail)
          go_wp2_with fail
          go_ret
          exact ⟨rfl, by first | exact below_drewN hb1 _ | (rw [World.drewN_drewN]; exact below_drewN hb1 _)⟩
        subst e2
        replace hja := Lib.hid hja
        replace hja' := Lib.hid hja'
        go_wp2_with fail
        go_quiet (fail)
        go_wp2_with fail
        go_roundw
        case rel => exact ⟨k + 1, _, by go_num, by omega, take_eq_step htk.out hja.out hja'.out, rfl⟩
        case measure => simp [intOf]; omega
      · have hkn : k = n4 := by omega
        have hfin4e := hfin4.out (by rw [← hkn]; exact htk.out)
        replace hfin4e := Lib.hid hfin4e
        replace hkn := Lib.hid hkn
        go_wp2_with fail
        go_loopw [6] (fun i wr => ∃ k q : Nat, i = .int .i64 k ∧ k ≤ n5 ∧ x5.take k = y5.take k ∧ wr = w1.drewN q) (fun i wr => n5 - (intOf i).toNat)
        case atStart => exact ⟨0, _, rfl, Nat.zero_le _, rfl, rfl⟩
        case round =>
          obtain ⟨k, q, rfl, hk, htk, rfl⟩ := hrel
          replace htk := Lib.hid htk
          by_cases hlt : k < n5
          · obtain ⟨b1, f1, ⟨a0, a1, a2⟩, rfl, hb0, hbw, hja, hcs⟩ := ha1.out.at hlt
            obtain ⟨b2, f2, ⟨d0, d1, d2⟩, rfl, hb0', hbw', hja', hcs'⟩ := ha2.out.at hlt
            have q0 := hcs 0 _ rfl
            have r0 := hcs' 0 _ rfl
            have q1 := hcs 1 _ rfl
            have r1 := hcs' 1 _ rfl
            have q2 := hcs 2 _ rfl
            have r2 := hcs' 2 _ rfl
            simp only [Nat.add_zero] at q0 r0 q1 r1 q2 r2
            have hi : (0 : Int) ≤ (k : Int) ∧ (k : Int) < (n5 : Int) := by omega
            clear hcs hcs' hb0 hb0' hbw hbw'
            by_cases e0 : a0 = d0
            rotate_left
            · have hbf : b = false := by rw [hb.out]; exact hne.out 5 (ne_of_at hja hja' (by simp [e0]))
              have u0 : (a0.toList == d0.toList) = false := bytes_neq e0
              subst hbf
              clear e0 hja hja'
              go_wp2_with fail
              go_quiet (fail)
              go_wp2_with fail
              go_ret
              exact ⟨rfl, by first | exact below_drewN hb1 _ | (rw [World.drewN_drewN]; exact below_drewN hb1 _)⟩
            subst e0
            by_cases e1 : a1 = d1
            rotate_left
            · have hbf : b = false := by rw [hb.out]; exact hne.out 5 (ne_of_at hja hja' (by simp [e1]))
              have t1 : (a1 == d1) = false := by simp [e1]
              subst hbf
              clear e1 hja hja'
              go_wp2_with fail
              go_quiet (fail)
              go_wp2_with fail
              go_ret
              exact ⟨rfl, by first | exact below_drewN hb1 _ | (rw [World.drewN_drewN]; exact below_drewN hb1 _)⟩
            subst e1
            by_cases e2 : a2 = d2
            rotate_left
            · have hbf : b = false := by rw [hb.out]; exact hne.out 5 (ne_of_at hja hja' (by simp [e2]))
              have t2 : (a2 == d2) = false := by simp [e2]
              subst hbf
              clear e2 hja hja'
              go_wp2_with fail
              go_quiet (fail)
              go_wp2_with fail
              go_ret
              exact ⟨rfl, by first | exact below_drewN hb1 _ | (rw [World.drewN_drewN]; exact below_drewN hb1 _)⟩
            subst e2
            replace hja := Lib.hid hja
            replace hja' := Lib.hid hja'
            go_wp2_with fail
            go_quiet (fail)
            go_wp2_with fail
            go_roundw
            case rel => exact ⟨k + 1, _, by go_num, by omega, take_eq_step htk.out hja.out hja'.out, rfl⟩
            case measure => simp [intOf]; omega
          · have hkn : k = n5 := by omega
            have hfin5e := hfin5.out (by rw [← hkn]; exact htk.out)
            have hbt : b = true := by rw [hb.out, decide_eq_true_iff, hfin4e.out, hfin5e, of_decide_eq_true ht.out.symm]
            subst hbt
            replace hkn := Lib.hid hkn
            go_wp2_with fail
            go_ret
            exact ⟨rfl, below_drewN hb1 _⟩
end Go.Proofs.YtgfbcbbcnineiaaGreat

