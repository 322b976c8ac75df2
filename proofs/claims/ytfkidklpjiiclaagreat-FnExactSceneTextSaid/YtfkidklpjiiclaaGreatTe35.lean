/- Whether two glyphs are the same: both sides. Conditions: as each states. -/
import Derived.BigQuiet
import Derived.Lib.QuietBelow
import Derived.Test.YtfkidklpjiiclaaGreatTe34
import Derived.Test.YtfkidklpjiiclaaGreatTe08
import Derived.Test.YtfkidklpjiiclaaGreatTe25
namespace Go.Proofs.YtfkidklpjiiclaaGreat
open Go.RowKit
set_option linter.unusedVariables false
set_option maxRecDepth 100000

theorem gl_neq (x0 y0 : ByteArray) (x1 y1 x2 y2 : Int) (x3 y3 : List (List Knot)) (x4 y4 : List Part) (x5 y5 : List Anch) (x6 y6 : ByteArray) (A3 B3 A4 B4 A5 B5 : Option Addr) (n3 c3 m3 k3 n4 c4 m4 k4 n5 c5 m5 k5 lo hi lo' hi' : Nat) (f : Nat) (h : match f with | 0 => x0 ≠ y0 | 1 => x1 ≠ y1 | 2 => x2 ≠ y2 | 3 => x3 ≠ y3 | 4 => x4 ≠ y4 | 5 => x5 ≠ y5 | 6 => x6 ≠ y6 | _ => False) : decide ((⟨x0, x1, x2, x3, x4, x5, x6⟩ : Gl) = ⟨y0, y1, y2, y3, y4, y5, y6⟩) = false := by
  rw [decide_eq_false_iff_not]
  intro e
  simp only [Gl.mk.injEq] at e
  obtain ⟨e0, e1, e2, e3, e4, e5, e6⟩ := e
  match f, h with
  | 0, h => exact h e0
  | 1, h => exact h e1
  | 2, h => exact h e2
  | 3, h => exact h e3
  | 4, h => exact h e4
  | 5, h => exact h e5
  | 6, h => exact h e6

set_option maxHeartbeats 2000000 in
theorem l17Same_n0 (p1 o1 p2 o2 : Nat) (x0 y0 : ByteArray) (x1 y1 x2 y2 : Int) (x6 y6 : ByteArray) (A3 B3 A4 B4 A5 B5 : Option Addr) (n3 c3 m3 k3 n4 c4 m4 k4 n5 c5 m5 k5 : Nat) (w : World)
    (q0 : w.cell? ⟨p1, o1, none⟩ = some (.string x0)) (r0 : w.cell? ⟨p2, o2, none⟩ = some (.string y0))
    (q1 : w.cell? ⟨p1, o1 + 1, none⟩ = some (.int .i64 x1)) (r1 : w.cell? ⟨p2, o2 + 1, none⟩ = some (.int .i64 y1))
    (q2 : w.cell? ⟨p1, o1 + 2, none⟩ = some (.int .i64 x2)) (r2 : w.cell? ⟨p2, o2 + 2, none⟩ = some (.int .i64 y2))
    (q3 : w.cell? ⟨p1, o1 + 3, none⟩ = some (.slice A3 n3 c3)) (r3 : w.cell? ⟨p2, o2 + 3, none⟩ = some (.slice B3 m3 k3))
    (q4 : w.cell? ⟨p1, o1 + 4, none⟩ = some (.slice A4 n4 c4)) (r4 : w.cell? ⟨p2, o2 + 4, none⟩ = some (.slice B4 m4 k4))
    (q5 : w.cell? ⟨p1, o1 + 5, none⟩ = some (.slice A5 n5 c5)) (r5 : w.cell? ⟨p2, o2 + 5, none⟩ = some (.slice B5 m5 k5))
    (q6 : w.cell? ⟨p1, o1 + 6, none⟩ = some (.string x6)) (r6 : w.cell? ⟨p2, o2 + 6, none⟩ = some (.string y6))
     (e0 : x0 ≠ y0) :
    Calls Tryz.prog 56 #[.pointer (some ⟨p1, o1, none⟩), .pointer (some ⟨p2, o2, none⟩)] w fun e w' => e = .returned (.bool false) ∧ Below w.heap.size w w' := by

  have u0 : (x0.toList == y0.toList) = false := bytes_neq e0
  clear e0
  go_enter Tryz.func56, Tryz.ntmps56
  go_wp2_with fail
  refine wp_region_quiet_lit (by kernel_rfl) (by kernel_rfl) ?_
  simp only [List.append]
  repeat (go_big_quiet_step (fail))
  refine wpQuiet_nil ?_
  intro _ hw'
  obtain ⟨nq, hw''⟩ := hw'
  subst hw''
  go_wp2_with fail
  go_ret
  exact ⟨rfl, below_drewN (Below.refl _ _) _⟩

set_option maxHeartbeats 2000000 in
theorem l17Same_n1 (p1 o1 p2 o2 : Nat) (x0 y0 : ByteArray) (x1 y1 x2 y2 : Int) (x6 y6 : ByteArray) (A3 B3 A4 B4 A5 B5 : Option Addr) (n3 c3 m3 k3 n4 c4 m4 k4 n5 c5 m5 k5 : Nat) (w : World)
    (q0 : w.cell? ⟨p1, o1, none⟩ = some (.string x0)) (r0 : w.cell? ⟨p2, o2, none⟩ = some (.string y0))
    (q1 : w.cell? ⟨p1, o1 + 1, none⟩ = some (.int .i64 x1)) (r1 : w.cell? ⟨p2, o2 + 1, none⟩ = some (.int .i64 y1))
    (q2 : w.cell? ⟨p1, o1 + 2, none⟩ = some (.int .i64 x2)) (r2 : w.cell? ⟨p2, o2 + 2, none⟩ = some (.int .i64 y2))
    (q3 : w.cell? ⟨p1, o1 + 3, none⟩ = some (.slice A3 n3 c3)) (r3 : w.cell? ⟨p2, o2 + 3, none⟩ = some (.slice B3 m3 k3))
    (q4 : w.cell? ⟨p1, o1 + 4, none⟩ = some (.slice A4 n4 c4)) (r4 : w.cell? ⟨p2, o2 + 4, none⟩ = some (.slice B4 m4 k4))
    (q5 : w.cell? ⟨p1, o1 + 5, none⟩ = some (.slice A5 n5 c5)) (r5 : w.cell? ⟨p2, o2 + 5, none⟩ = some (.slice B5 m5 k5))
    (q6 : w.cell? ⟨p1, o1 + 6, none⟩ = some (.string x6)) (r6 : w.cell? ⟨p2, o2 + 6, none⟩ = some (.string y6))
    (e0 : x0 = y0) (e1 : x1 ≠ y1) :
    Calls Tryz.prog 56 #[.pointer (some ⟨p1, o1, none⟩), .pointer (some ⟨p2, o2, none⟩)] w fun e w' => e = .returned (.bool false) ∧ Below w.heap.size w w' := by
  subst e0
  have u1 : (x1 == y1) = false := by simp [e1]
  have v1 : (x1 != y1) = true := by simp [e1]
  clear e1
  go_enter Tryz.func56, Tryz.ntmps56
  go_wp2_with fail
  refine wp_region_quiet_lit (by kernel_rfl) (by kernel_rfl) ?_
  simp only [List.append]
  repeat (go_big_quiet_step (fail))
  refine wpQuiet_nil ?_
  intro _ hw'
  obtain ⟨nq, hw''⟩ := hw'
  subst hw''
  go_wp2_with fail
  go_ret
  exact ⟨rfl, below_drewN (Below.refl _ _) _⟩

set_option maxHeartbeats 2000000 in
theorem l17Same_n2 (p1 o1 p2 o2 : Nat) (x0 y0 : ByteArray) (x1 y1 x2 y2 : Int) (x6 y6 : ByteArray) (A3 B3 A4 B4 A5 B5 : Option Addr) (n3 c3 m3 k3 n4 c4 m4 k4 n5 c5 m5 k5 : Nat) (w : World)
    (q0 : w.cell? ⟨p1, o1, none⟩ = some (.string x0)) (r0 : w.cell? ⟨p2, o2, none⟩ = some (.string y0))
    (q1 : w.cell? ⟨p1, o1 + 1, none⟩ = some (.int .i64 x1)) (r1 : w.cell? ⟨p2, o2 + 1, none⟩ = some (.int .i64 y1))
    (q2 : w.cell? ⟨p1, o1 + 2, none⟩ = some (.int .i64 x2)) (r2 : w.cell? ⟨p2, o2 + 2, none⟩ = some (.int .i64 y2))
    (q3 : w.cell? ⟨p1, o1 + 3, none⟩ = some (.slice A3 n3 c3)) (r3 : w.cell? ⟨p2, o2 + 3, none⟩ = some (.slice B3 m3 k3))
    (q4 : w.cell? ⟨p1, o1 + 4, none⟩ = some (.slice A4 n4 c4)) (r4 : w.cell? ⟨p2, o2 + 4, none⟩ = some (.slice B4 m4 k4))
    (q5 : w.cell? ⟨p1, o1 + 5, none⟩ = some (.slice A5 n5 c5)) (r5 : w.cell? ⟨p2, o2 + 5, none⟩ = some (.slice B5 m5 k5))
    (q6 : w.cell? ⟨p1, o1 + 6, none⟩ = some (.string x6)) (r6 : w.cell? ⟨p2, o2 + 6, none⟩ = some (.string y6))
    (e0 : x0 = y0) (e1 : x1 = y1) (e2 : x2 ≠ y2) :
    Calls Tryz.prog 56 #[.pointer (some ⟨p1, o1, none⟩), .pointer (some ⟨p2, o2, none⟩)] w fun e w' => e = .returned (.bool false) ∧ Below w.heap.size w w' := by
  subst e0
  subst e1
  have u2 : (x2 == y2) = false := by simp [e2]
  have v2 : (x2 != y2) = true := by simp [e2]
  clear e2
  go_enter Tryz.func56, Tryz.ntmps56
  go_wp2_with fail
  refine wp_region_quiet_lit (by kernel_rfl) (by kernel_rfl) ?_
  simp only [List.append]
  repeat (go_big_quiet_step (fail))
  refine wpQuiet_nil ?_
  intro _ hw'
  obtain ⟨nq, hw''⟩ := hw'
  subst hw''
  go_wp2_with fail
  go_ret
  exact ⟨rfl, below_drewN (Below.refl _ _) _⟩

set_option maxHeartbeats 2000000 in
theorem l17Same_n6 (p1 o1 p2 o2 : Nat) (x0 y0 : ByteArray) (x1 y1 x2 y2 : Int) (x6 y6 : ByteArray) (A3 B3 A4 B4 A5 B5 : Option Addr) (n3 c3 m3 k3 n4 c4 m4 k4 n5 c5 m5 k5 : Nat) (w : World)
    (q0 : w.cell? ⟨p1, o1, none⟩ = some (.string x0)) (r0 : w.cell? ⟨p2, o2, none⟩ = some (.string y0))
    (q1 : w.cell? ⟨p1, o1 + 1, none⟩ = some (.int .i64 x1)) (r1 : w.cell? ⟨p2, o2 + 1, none⟩ = some (.int .i64 y1))
    (q2 : w.cell? ⟨p1, o1 + 2, none⟩ = some (.int .i64 x2)) (r2 : w.cell? ⟨p2, o2 + 2, none⟩ = some (.int .i64 y2))
    (q3 : w.cell? ⟨p1, o1 + 3, none⟩ = some (.slice A3 n3 c3)) (r3 : w.cell? ⟨p2, o2 + 3, none⟩ = some (.slice B3 m3 k3))
    (q4 : w.cell? ⟨p1, o1 + 4, none⟩ = some (.slice A4 n4 c4)) (r4 : w.cell? ⟨p2, o2 + 4, none⟩ = some (.slice B4 m4 k4))
    (q5 : w.cell? ⟨p1, o1 + 5, none⟩ = some (.slice A5 n5 c5)) (r5 : w.cell? ⟨p2, o2 + 5, none⟩ = some (.slice B5 m5 k5))
    (q6 : w.cell? ⟨p1, o1 + 6, none⟩ = some (.string x6)) (r6 : w.cell? ⟨p2, o2 + 6, none⟩ = some (.string y6))
    (e0 : x0 = y0) (e1 : x1 = y1) (e2 : x2 = y2) (e6 : x6 ≠ y6) :
    Calls Tryz.prog 56 #[.pointer (some ⟨p1, o1, none⟩), .pointer (some ⟨p2, o2, none⟩)] w fun e w' => e = .returned (.bool false) ∧ Below w.heap.size w w' := by
  subst e0
  subst e1
  subst e2
  have u6 : (x6.toList == y6.toList) = false := bytes_neq e6
  clear e6
  go_enter Tryz.func56, Tryz.ntmps56
  go_wp2_with fail
  refine wp_region_quiet_lit (by kernel_rfl) (by kernel_rfl) ?_
  simp only [List.append]
  repeat (go_big_quiet_step (fail))
  refine wpQuiet_nil ?_
  intro _ hw'
  obtain ⟨nq, hw''⟩ := hw'
  subst hw''
  go_wp2_with fail
  go_ret
  exact ⟨rfl, below_drewN (Below.refl _ _) _⟩

set_option maxHeartbeats 8000000 in
theorem l17Same_any (p1 o1 p2 o2 : Nat) (x0 y0 : ByteArray) (x1 y1 x2 y2 : Int) (x3 y3 : List (List Knot)) (x4 y4 : List Part) (x5 y5 : List Anch) (x6 y6 : ByteArray) (A3 B3 A4 B4 A5 B5 : Option Addr) (n3 c3 m3 k3 n4 c4 m4 k4 n5 c5 m5 k5 lo hi lo' hi' : Nat) (b : Bool) (hb : b = decide ((⟨x0, x1, x2, x3, x4, x5, x6⟩ : Gl) = ⟨y0, y1, y2, y3, y4, y5, y6⟩)) (w : World) (hw1 : p1 < w.heap.size) (hw2 : p2 < w.heap.size)
    (q0 : w.cell? ⟨p1, o1, none⟩ = some (.string x0)) (r0 : w.cell? ⟨p2, o2, none⟩ = some (.string y0))
    (q1 : w.cell? ⟨p1, o1 + 1, none⟩ = some (.int .i64 x1)) (r1 : w.cell? ⟨p2, o2 + 1, none⟩ = some (.int .i64 y1))
    (q2 : w.cell? ⟨p1, o1 + 2, none⟩ = some (.int .i64 x2)) (r2 : w.cell? ⟨p2, o2 + 2, none⟩ = some (.int .i64 y2))
    (q3 : w.cell? ⟨p1, o1 + 3, none⟩ = some (.slice A3 n3 c3)) (r3 : w.cell? ⟨p2, o2 + 3, none⟩ = some (.slice B3 m3 k3))
    (q4 : w.cell? ⟨p1, o1 + 4, none⟩ = some (.slice A4 n4 c4)) (r4 : w.cell? ⟨p2, o2 + 4, none⟩ = some (.slice B4 m4 k4))
    (q5 : w.cell? ⟨p1, o1 + 5, none⟩ = some (.slice A5 n5 c5)) (r5 : w.cell? ⟨p2, o2 + 5, none⟩ = some (.slice B5 m5 k5))
    (q6 : w.cell? ⟨p1, o1 + 6, none⟩ = some (.string x6)) (r6 : w.cell? ⟨p2, o2 + 6, none⟩ = some (.string y6))
    (ho1 : OutRd w lo hi A3 n3 x3) (ho2 : OutRd w lo' hi' B3 m3 y3) (hp1 : RdS 3 (FlatR partC) w lo hi A4 n4 x4) (hp2 : RdS 3 (FlatR partC) w lo' hi' B4 m4 y4) (ha1 : RdS 3 (FlatR anchC) w lo hi A5 n5 x5) (ha2 : RdS 3 (FlatR anchC) w lo' hi' B5 m5 y5) (hh1 : hi ≤ w.heap.size) (hh2 : hi' ≤ w.heap.size) (s1 : Gl.small ⟨x0, x1, x2, x3, x4, x5, x6⟩ 1000000000) (s2 : Gl.small ⟨y0, y1, y2, y3, y4, y5, y6⟩ 1000000000) :
    Calls Tryz.prog 56 #[.pointer (some ⟨p1, o1, none⟩), .pointer (some ⟨p2, o2, none⟩)] w fun e w' => e = .returned (.bool b) ∧ Below w.heap.size w w' := by
  have hne := Lib.hid (gl_neq x0 y0 x1 y1 x2 y2 x3 y3 x4 y4 x5 y5 x6 y6 A3 B3 A4 B4 A5 B5 n3 c3 m3 k3 n4 c4 m4 k4 n5 c5 m5 k5 lo hi lo' hi')
  replace hb := Lib.hid hb
  by_cases e0 : x0 = y0
  rotate_left
  · have hbf : b = false := by rw [hb.out]; exact hne.out 0 e0
    subst hbf
    exact l17Same_n0 _ _ _ _ _ _ _ _ _ _ _ _ _ _ _ _ _ _ _ _ _ _ _ _ _ _ _ _ _ _ w q0 r0 q1 r1 q2 r2 q3 r3 q4 r4 q5 r5 q6 r6  e0
  subst e0
  by_cases e1 : x1 = y1
  rotate_left
  · have hbf : b = false := by rw [hb.out]; exact hne.out 1 e1
    subst hbf
    exact l17Same_n1 _ _ _ _ _ _ _ _ _ _ _ _ _ _ _ _ _ _ _ _ _ _ _ _ _ _ _ _ _ _ w q0 r0 q1 r1 q2 r2 q3 r3 q4 r4 q5 r5 q6 r6 rfl e1
  subst e1
  by_cases e2 : x2 = y2
  rotate_left
  · have hbf : b = false := by rw [hb.out]; exact hne.out 2 e2
    subst hbf
    exact l17Same_n2 _ _ _ _ _ _ _ _ _ _ _ _ _ _ _ _ _ _ _ _ _ _ _ _ _ _ _ _ _ _ w q0 r0 q1 r1 q2 r2 q3 r3 q4 r4 q5 r5 q6 r6 rfl rfl e2
  subst e2
  by_cases e6 : x6 = y6
  rotate_left
  · have hbf : b = false := by rw [hb.out]; exact hne.out 6 e6
    subst hbf
    exact l17Same_n6 _ _ _ _ _ _ _ _ _ _ _ _ _ _ _ _ _ _ _ _ _ _ _ _ _ _ _ _ _ _ w q0 r0 q1 r1 q2 r2 q3 r3 q4 r4 q5 r5 q6 r6 rfl rfl rfl e6
  subst e6
  obtain ⟨t, ht⟩ : ∃ t, t = decide (x3 = y3) := ⟨_, rfl⟩
  have hso := Lib.hid (fun d os => Calls.regrown_of (specSameO_any A3 B3 n3 c3 m3 k3 lo hi lo' hi' x3 y3 t ht (Go.Sort.grow (redrawn w d) os) (ho1.frame good_loop (Below.sameB (below_regrown w d os) hh1)) (ho2.frame good_loop (Below.sameB (below_regrown w d os) hh2)) (Nat.le_trans hh1 (below_regrown w d os).size) (Nat.le_trans hh2 (below_regrown w d os).size) (by rw [← ho1.1]; exact s1.o) (by rw [← ho2.1]; exact s2.o) s1.k s2.k))
  replace ht := Lib.hid ht
  have n4b : n4 ≤ 1000000000 := by rw [← hp1.1]; exact s1.p
  have m4b : m4 ≤ 1000000000 := by rw [← hp2.1]; exact s2.p
  have n5b : n5 ≤ 1000000000 := by rw [← ha1.1]; exact s1.a
  have m5b : m5 ≤ 1000000000 := by rw [← ha2.1]; exact s2.a
  clear ho1 ho2
  have cq0 : ∀ d os, (Go.Sort.grow (redrawn w d) os).cell? ⟨p1, o1, none⟩ = some (.string x0) := cell_regrown q0
  have cr0 : ∀ d os, (Go.Sort.grow (redrawn w d) os).cell? ⟨p2, o2, none⟩ = some (.string x0) := cell_regrown r0
  have cq1 : ∀ d os, (Go.Sort.grow (redrawn w d) os).cell? ⟨p1, o1 + 1, none⟩ = some (.int .i64 x1) := cell_regrown q1
  have cr1 : ∀ d os, (Go.Sort.grow (redrawn w d) os).cell? ⟨p2, o2 + 1, none⟩ = some (.int .i64 x1) := cell_regrown r1
  have cq2 : ∀ d os, (Go.Sort.grow (redrawn w d) os).cell? ⟨p1, o1 + 2, none⟩ = some (.int .i64 x2) := cell_regrown q2
  have cr2 : ∀ d os, (Go.Sort.grow (redrawn w d) os).cell? ⟨p2, o2 + 2, none⟩ = some (.int .i64 x2) := cell_regrown r2
  have cq3 : ∀ d os, (Go.Sort.grow (redrawn w d) os).cell? ⟨p1, o1 + 3, none⟩ = some (.slice A3 n3 c3) := cell_regrown q3
  have cr3 : ∀ d os, (Go.Sort.grow (redrawn w d) os).cell? ⟨p2, o2 + 3, none⟩ = some (.slice B3 m3 k3) := cell_regrown r3
  have cq4 : ∀ d os, (Go.Sort.grow (redrawn w d) os).cell? ⟨p1, o1 + 4, none⟩ = some (.slice A4 n4 c4) := cell_regrown q4
  have cr4 : ∀ d os, (Go.Sort.grow (redrawn w d) os).cell? ⟨p2, o2 + 4, none⟩ = some (.slice B4 m4 k4) := cell_regrown r4
  have cq5 : ∀ d os, (Go.Sort.grow (redrawn w d) os).cell? ⟨p1, o1 + 5, none⟩ = some (.slice A5 n5 c5) := cell_regrown q5
  have cr5 : ∀ d os, (Go.Sort.grow (redrawn w d) os).cell? ⟨p2, o2 + 5, none⟩ = some (.slice B5 m5 k5) := cell_regrown r5
  have cq6 : ∀ d os, (Go.Sort.grow (redrawn w d) os).cell? ⟨p1, o1 + 6, none⟩ = some (.string x6) := cell_regrown q6
  have cr6 : ∀ d os, (Go.Sort.grow (redrawn w d) os).cell? ⟨p2, o2 + 6, none⟩ = some (.string x6) := cell_regrown r6
  cases t with
  | false =>
    have hbf : b = false := by rw [hb.out]; exact hne.out 3 (of_decide_eq_false ht.out.symm)
    subst hbf
    clear hp1 hp2 ha1 ha2
    go_enter Tryz.func56, Tryz.ntmps56
    go_wp2_with fail
    refine wp_region_quiet_below (by kernel_rfl) (by kernel_rfl) ?_
    simp only [List.append]
    repeat (go_big_quiet_step (exact hso.out _ _))
    refine wpQuiet_nil ?_
    intro _ hw'
    obtain ⟨⟨dq, osq⟩, hw''⟩ := hw'
    subst hw''
    have hb1 : Below w.heap.size w (Go.Sort.grow (redrawn w dq) osq) := below_regrown w dq osq
    generalize Go.Sort.grow (redrawn w dq) osq = w1 at hb1 ⊢
    go_wp2_with fail
    go_ret
    exact ⟨rfl, hb1⟩
  | true =>
    by_cases l4 : n4 = m4
    rotate_left
    · have hbf : b = false := by rw [hb.out]; exact hne.out 4 (by rintro rfl; exact l4 (hp1.1.symm.trans hp2.1))
      have g1 : ((n4 : Int) == (m4 : Int)) = false := by simp; omega
      have g2 : ((n4 : Int) != (m4 : Int)) = true := by simp; omega
      subst hbf
      clear l4 hp1 hp2 ha1 ha2
      go_enter Tryz.func56, Tryz.ntmps56
      go_wp2_with fail
      refine wp_region_quiet_below (by kernel_rfl) (by kernel_rfl) ?_
      simp only [List.append]
      repeat (go_big_quiet_step (exact hso.out _ _))
      refine wpQuiet_nil ?_
      intro _ hw'
      obtain ⟨⟨dq, osq⟩, hw''⟩ := hw'
      subst hw''
      have hb1 : Below w.heap.size w (Go.Sort.grow (redrawn w dq) osq) := below_regrown w dq osq
      generalize Go.Sort.grow (redrawn w dq) osq = w1 at hb1 ⊢
      have zq4 : w1.cell? ⟨p1, o1 + 4, none⟩ = some (.slice A4 n4 c4) := (hb1.cell (by simp; omega)).trans q4
      have zr4 : w1.cell? ⟨p2, o2 + 4, none⟩ = some (.slice B4 m4 k4) := (hb1.cell (by simp; omega)).trans r4
      have zq5 : w1.cell? ⟨p1, o1 + 5, none⟩ = some (.slice A5 n5 c5) := (hb1.cell (by simp; omega)).trans q5
      have zr5 : w1.cell? ⟨p2, o2 + 5, none⟩ = some (.slice B5 m5 k5) := (hb1.cell (by simp; omega)).trans r5
      clear q0 q1 q2 q3 q4 q5 q6 r0 r1 r2 r3 r4 r5 r6
      go_wp2_with fail
      go_ret
      exact ⟨rfl, hb1⟩
    subst l4
    by_cases l5 : n5 = m5
    rotate_left
    · have hbf : b = false := by rw [hb.out]; exact hne.out 5 (by rintro rfl; exact l5 (ha1.1.symm.trans ha2.1))
      have g1 : ((n5 : Int) == (m5 : Int)) = false := by simp; omega
      have g2 : ((n5 : Int) != (m5 : Int)) = true := by simp; omega
      subst hbf
      clear l5 hp1 hp2 ha1 ha2
      go_enter Tryz.func56, Tryz.ntmps56
      go_wp2_with fail
      refine wp_region_quiet_below (by kernel_rfl) (by kernel_rfl) ?_
      simp only [List.append]
      repeat (go_big_quiet_step (exact hso.out _ _))
      refine wpQuiet_nil ?_
      intro _ hw'
      obtain ⟨⟨dq, osq⟩, hw''⟩ := hw'
      subst hw''
      have hb1 : Below w.heap.size w (Go.Sort.grow (redrawn w dq) osq) := below_regrown w dq osq
      generalize Go.Sort.grow (redrawn w dq) osq = w1 at hb1 ⊢
      have zq4 : w1.cell? ⟨p1, o1 + 4, none⟩ = some (.slice A4 n4 c4) := (hb1.cell (by simp; omega)).trans q4
      have zr4 : w1.cell? ⟨p2, o2 + 4, none⟩ = some (.slice B4 n4 k4) := (hb1.cell (by simp; omega)).trans r4
      have zq5 : w1.cell? ⟨p1, o1 + 5, none⟩ = some (.slice A5 n5 c5) := (hb1.cell (by simp; omega)).trans q5
      have zr5 : w1.cell? ⟨p2, o2 + 5, none⟩ = some (.slice B5 m5 k5) := (hb1.cell (by simp; omega)).trans r5
      clear q0 q1 q2 q3 q4 q5 q6 r0 r1 r2 r3 r4 r5 r6
      go_wp2_with fail
      go_ret
      exact ⟨rfl, hb1⟩
    subst l5
    have hfin4 := Lib.hid (fun h => take_eq_done (n := n4) h hp1.1 hp2.1)
    have hfin5 := Lib.hid (fun h => take_eq_done (n := n5) h ha1.1 ha2.1)
    go_enter Tryz.func56, Tryz.ntmps56
    go_wp2_with fail
    refine wp_region_quiet_below (by kernel_rfl) (by kernel_rfl) ?_
    simp only [List.append]
    repeat (go_big_quiet_step (exact hso.out _ _))
    refine wpQuiet_nil ?_
    intro _ hw'
    obtain ⟨⟨dq, osq⟩, hw''⟩ := hw'
    subst hw''
    have hb1 : Below w.heap.size w (Go.Sort.grow (redrawn w dq) osq) := below_regrown w dq osq
    generalize Go.Sort.grow (redrawn w dq) osq = w1 at hb1 ⊢
    have zq4 : w1.cell? ⟨p1, o1 + 4, none⟩ = some (.slice A4 n4 c4) := (hb1.cell (by simp; omega)).trans q4
    have zr4 : w1.cell? ⟨p2, o2 + 4, none⟩ = some (.slice B4 n4 k4) := (hb1.cell (by simp; omega)).trans r4
    have zq5 : w1.cell? ⟨p1, o1 + 5, none⟩ = some (.slice A5 n5 c5) := (hb1.cell (by simp; omega)).trans q5
    have zr5 : w1.cell? ⟨p2, o2 + 5, none⟩ = some (.slice B5 n5 k5) := (hb1.cell (by simp; omega)).trans r5
    clear q0 q1 q2 q3 q4 q5 q6 r0 r1 r2 r3 r4 r5 r6
    replace hp1 := Lib.hid (hp1.frame (good_flat _) (Below.sameB hb1 hh1))
    replace hp2 := Lib.hid (hp2.frame (good_flat _) (Below.sameB hb1 hh2))
    replace ha1 := Lib.hid (ha1.frame (good_flat _) (Below.sameB hb1 hh1))
    replace ha2 := Lib.hid (ha2.frame (good_flat _) (Below.sameB hb1 hh2))
    go_wp2_with fail
    go_loopw [5] (fun i wr => ∃ k q : Nat, i = .int .i64 k ∧ k ≤ n4 ∧ x4.take k = y4.take k ∧ wr = w1.drewN q) (fun i wr => n4 - (intOf i).toNat)
    case atStart => exact ⟨0, 0, rfl, Nat.zero_le _, rfl, rfl⟩
    case round =>
      obtain ⟨k, q, rfl, hk, htk, rfl⟩ := hrel
      replace htk := Lib.hid htk
      by_cases hlt : k < n4
      · obtain ⟨b1, f1, ⟨a0, a1, a2⟩, rfl, hb0, hbw, hja, hcs⟩ := hp1.out.at hlt
        obtain ⟨b2, f2, ⟨d0, d1, d2⟩, rfl, hb0', hbw', hja', hcs'⟩ := hp2.out.at hlt
        have q0 := hcs 0 _ rfl
        have r0 := hcs' 0 _ rfl
        have q1 := hcs 1 _ rfl
        have r1 := hcs' 1 _ rfl
        have q2 := hcs 2 _ rfl
        have r2 := hcs' 2 _ rfl
        simp only [Nat.add_zero] at q0 r0 q1 r1 q2 r2
        have hi : (0 : Int) ≤ (k : Int) ∧ (k : Int) < (n4 : Int) := by omega
        clear hcs hcs' hb0 hb0' hbw hbw'
        by_cases e0 : a0 = d0
        rotate_left
        · have hbf : b = false := by rw [hb.out]; exact hne.out 4 (ne_of_at hja hja' (by simp [e0]))
          have t0 : (a0 == d0) = false := by simp [e0]
          subst hbf
          clear e0 hja hja'
          go_wp2_with fail
          go_quiet (fail)
          go_wp2_with fail
          go_ret
          exact ⟨rfl, by first | exact below_drewN hb1 _ | (rw [World.drewN_drewN]; exact below_drewN hb1 _)⟩
        subst e0
        by_cases e1 : a1 = d1
        rotate_left
        · have hbf : b = false := by rw [hb.out]; exact hne.out 4 (ne_of_at hja hja' (by simp [e1]))
          have t1 : (a1 == d1) = false := by simp [e1]
          subst hbf
          clear e1 hja hja'
          go_wp2_with fail
          go_quiet (fail)
          go_wp2_with fail
          go_ret
          exact ⟨rfl, by first | exact below_drewN hb1 _ | (rw [World.drewN_drewN]; exact below_drewN hb1 _)⟩
        subst e1
        by_cases e2 : a2 = d2
        rotate_left
        · have hbf : b = false := by rw [hb.out]; exact hne.out 4 (ne_of_at hja hja' (by simp [e2]))
          have t2 : (a2 == d2) = false := by simp [e2]
          subst hbf
          clear e2 hja hja'
          go_wp2_with fail
          go_quiet (fail)
          go_wp2_with fail
          go_ret
          exact ⟨rfl, by first | exact below_drewN hb1 _ | (rw [World.drewN_drewN]; exact below_drewN hb1 _)⟩
        subst e2
        replace hja := Lib.hid hja
        replace hja' := Lib.hid hja'
        go_wp2_with fail
        go_quiet (fail)
        go_wp2_with fail
        go_roundw
        case rel => exact ⟨k + 1, _, by go_num, by omega, take_eq_step htk.out hja.out hja'.out, rfl⟩
        case measure => simp [intOf]; omega
      · have hkn : k = n4 := by omega
        have hfin4e := hfin4.out (by rw [← hkn]; exact htk.out)
        replace hfin4e := Lib.hid hfin4e
        replace hkn := Lib.hid hkn
        go_wp2_with fail
        go_loopw [6] (fun i wr => ∃ k q : Nat, i = .int .i64 k ∧ k ≤ n5 ∧ x5.take k = y5.take k ∧ wr = w1.drewN q) (fun i wr => n5 - (intOf i).toNat)
        case atStart => exact ⟨0, _, rfl, Nat.zero_le _, rfl, rfl⟩
        case round =>
          obtain ⟨k, q, rfl, hk, htk, rfl⟩ := hrel
          replace htk := Lib.hid htk
          by_cases hlt : k < n5
          · obtain ⟨b1, f1, ⟨a0, a1, a2⟩, rfl, hb0, hbw, hja, hcs⟩ := ha1.out.at hlt
            obtain ⟨b2, f2, ⟨d0, d1, d2⟩, rfl, hb0', hbw', hja', hcs'⟩ := ha2.out.at hlt
            have q0 := hcs 0 _ rfl
            have r0 := hcs' 0 _ rfl
            have q1 := hcs 1 _ rfl
            have r1 := hcs' 1 _ rfl
            have q2 := hcs 2 _ rfl
            have r2 := hcs' 2 _ rfl
            simp only [Nat.add_zero] at q0 r0 q1 r1 q2 r2
            have hi : (0 : Int) ≤ (k : Int) ∧ (k : Int) < (n5 : Int) := by omega
            clear hcs hcs' hb0 hb0' hbw hbw'
            by_cases e0 : a0 = d0
            rotate_left
            · have hbf : b = false := by rw [hb.out]; exact hne.out 5 (ne_of_at hja hja' (by simp [e0]))
              have u0 : (a0.toList == d0.toList) = false := bytes_neq e0
              subst hbf
              clear e0 hja hja'
              go_wp2_with fail
              go_quiet (fail)
              go_wp2_with fail
              go_ret
              exact ⟨rfl, by first | exact below_drewN hb1 _ | (rw [World.drewN_drewN]; exact below_drewN hb1 _)⟩
            subst e0
            by_cases e1 : a1 = d1
            rotate_left
            · have hbf : b = false := by rw [hb.out]; exact hne.out 5 (ne_of_at hja hja' (by simp [e1]))
              have t1 : (a1 == d1) = false := by simp [e1]
              subst hbf
              clear e1 hja hja'
              go_wp2_with fail
              go_quiet (fail)
              go_wp2_with fail
              go_ret
              exact ⟨rfl, by first | exact below_drewN hb1 _ | (rw [World.drewN_drewN]; exact below_drewN hb1 _)⟩
            subst e1
            by_cases e2 : a2 = d2
            rotate_left
            · have hbf : b = false := by rw [hb.out]; exact hne.out 5 (ne_of_at hja hja' (by simp [e2]))
              have t2 : (a2 == d2) = false := by simp [e2]
              subst hbf
              clear e2 hja hja'
              go_wp2_with fail
              go_quiet (fail)
              go_wp2_with fail
              go_ret
              exact ⟨rfl, by first | exact below_drewN hb1 _ | (rw [World.drewN_drewN]; exact below_drewN hb1 _)⟩
            subst e2
            replace hja := Lib.hid hja
            replace hja' := Lib.hid hja'
            go_wp2_with fail
            go_quiet (fail)
            go_wp2_with fail
            go_roundw
            case rel => exact ⟨k + 1, _, by go_num, by omega, take_eq_step htk.out hja.out hja'.out, rfl⟩
            case measure => simp [intOf]; omega
          · have hkn : k = n5 := by omega
            have hfin5e := hfin5.out (by rw [← hkn]; exact htk.out)
            have hbt : b = true := by rw [hb.out, decide_eq_true_iff, hfin4e.out, hfin5e, of_decide_eq_true ht.out.symm]
            subst hbt
            replace hkn := Lib.hid hkn
            go_wp2_with fail
            go_ret
            exact ⟨rfl, below_drewN hb1 _⟩
end Go.Proofs.YtfkidklpjiiclaaGreat

/- Whether two glyphs are the same: the program's side; and two lists of glyphs. Conditions: as each states. -/
namespace Go.Proofs.YtfkidklpjiiclaaGreat
open Go.RowKit
set_option linter.unusedVariables false
set_option maxRecDepth 100000

set_option maxHeartbeats 8000000 in
theorem implSameG_any (d d' : Gl) (h h' : GlH) (b : Bool) (hb : b = decide (d = d')) (lo hi lo' hi' : Nat) (w : World) (hr : GlRd w lo hi d h) (hr' : GlRd w lo' hi' d' h') (hhi : hi ≤ w.heap.size) (hhi' : hi' ≤ w.heap.size) (hm : d.small 1000000000) (hm' : d'.small 1000000000) :
    Calls Tryz.prog 34 #[glV d h, glV d' h'] w fun e w' => e = .returned (.bool b) ∧ Below w.heap.size w w' := by
  have hnew := heap_new2 w (.cells #[.string d.name, .int .i64 d.code, .int .i64 d.adv, .slice h.out.A h.out.n h.out.c, .slice h.parts.A h.parts.n h.parts.c, .slice h.anchors.A h.anchors.n h.anchors.c, .string d.hints] 58 (0, 0)) (.cells #[.string d'.name, .int .i64 d'.code, .int .i64 d'.adv, .slice h'.out.A h'.out.n h'.out.c, .slice h'.parts.A h'.parts.n h'.parts.c, .slice h'.anchors.A h'.anchors.n h'.anchors.c, .string d'.hints] 58 (0, 0))
  have hB0 : Below w.heap.size w ((w.alloc (.cells #[.string d.name, .int .i64 d.code, .int .i64 d.adv, .slice h.out.A h.out.n h.out.c, .slice h.parts.A h.parts.n h.parts.c, .slice h.anchors.A h.anchors.n h.anchors.c, .string d.hints] 58 (0, 0))).alloc (.cells #[.string d'.name, .int .i64 d'.code, .int .i64 d'.adv, .slice h'.out.A h'.out.n h'.out.c, .slice h'.parts.A h'.parts.n h'.parts.c, .slice h'.anchors.A h'.anchors.n h'.anchors.c, .string d'.hints] 58 (0, 0))) := Go.Joins.below_alloc2 _ _ _
  have k0 : ((w.alloc (.cells #[.string d.name, .int .i64 d.code, .int .i64 d.adv, .slice h.out.A h.out.n h.out.c, .slice h.parts.A h.parts.n h.parts.c, .slice h.anchors.A h.anchors.n h.anchors.c, .string d.hints] 58 (0, 0))).alloc (.cells #[.string d'.name, .int .i64 d'.code, .int .i64 d'.adv, .slice h'.out.A h'.out.n h'.out.c, .slice h'.parts.A h'.parts.n h'.parts.c, .slice h'.anchors.A h'.anchors.n h'.anchors.c, .string d'.hints] 58 (0, 0))).cell? ⟨w.heap.size, 0, none⟩ = some (.string d.name) := by simp only [World.cell?, hnew.1]; rfl
  have m0 : ((w.alloc (.cells #[.string d.name, .int .i64 d.code, .int .i64 d.adv, .slice h.out.A h.out.n h.out.c, .slice h.parts.A h.parts.n h.parts.c, .slice h.anchors.A h.anchors.n h.anchors.c, .string d.hints] 58 (0, 0))).alloc (.cells #[.string d'.name, .int .i64 d'.code, .int .i64 d'.adv, .slice h'.out.A h'.out.n h'.out.c, .slice h'.parts.A h'.parts.n h'.parts.c, .slice h'.anchors.A h'.anchors.n h'.anchors.c, .string d'.hints] 58 (0, 0))).cell? ⟨w.heap.size + 1, 0, none⟩ = some (.string d'.name) := by simp only [World.cell?, hnew.2]; rfl
  have k1 : ((w.alloc (.cells #[.string d.name, .int .i64 d.code, .int .i64 d.adv, .slice h.out.A h.out.n h.out.c, .slice h.parts.A h.parts.n h.parts.c, .slice h.anchors.A h.anchors.n h.anchors.c, .string d.hints] 58 (0, 0))).alloc (.cells #[.string d'.name, .int .i64 d'.code, .int .i64 d'.adv, .slice h'.out.A h'.out.n h'.out.c, .slice h'.parts.A h'.parts.n h'.parts.c, .slice h'.anchors.A h'.anchors.n h'.anchors.c, .string d'.hints] 58 (0, 0))).cell? ⟨w.heap.size, 1, none⟩ = some (.int .i64 d.code) := by simp only [World.cell?, hnew.1]; rfl
  have m1 : ((w.alloc (.cells #[.string d.name, .int .i64 d.code, .int .i64 d.adv, .slice h.out.A h.out.n h.out.c, .slice h.parts.A h.parts.n h.parts.c, .slice h.anchors.A h.anchors.n h.anchors.c, .string d.hints] 58 (0, 0))).alloc (.cells #[.string d'.name, .int .i64 d'.code, .int .i64 d'.adv, .slice h'.out.A h'.out.n h'.out.c, .slice h'.parts.A h'.parts.n h'.parts.c, .slice h'.anchors.A h'.anchors.n h'.anchors.c, .string d'.hints] 58 (0, 0))).cell? ⟨w.heap.size + 1, 1, none⟩ = some (.int .i64 d'.code) := by simp only [World.cell?, hnew.2]; rfl
  have k2 : ((w.alloc (.cells #[.string d.name, .int .i64 d.code, .int .i64 d.adv, .slice h.out.A h.out.n h.out.c, .slice h.parts.A h.parts.n h.parts.c, .slice h.anchors.A h.anchors.n h.anchors.c, .string d.hints] 58 (0, 0))).alloc (.cells #[.string d'.name, .int .i64 d'.code, .int .i64 d'.adv, .slice h'.out.A h'.out.n h'.out.c, .slice h'.parts.A h'.parts.n h'.parts.c, .slice h'.anchors.A h'.anchors.n h'.anchors.c, .string d'.hints] 58 (0, 0))).cell? ⟨w.heap.size, 2, none⟩ = some (.int .i64 d.adv) := by simp only [World.cell?, hnew.1]; rfl
  have m2 : ((w.alloc (.cells #[.string d.name, .int .i64 d.code, .int .i64 d.adv, .slice h.out.A h.out.n h.out.c, .slice h.parts.A h.parts.n h.parts.c, .slice h.anchors.A h.anchors.n h.anchors.c, .string d.hints] 58 (0, 0))).alloc (.cells #[.string d'.name, .int .i64 d'.code, .int .i64 d'.adv, .slice h'.out.A h'.out.n h'.out.c, .slice h'.parts.A h'.parts.n h'.parts.c, .slice h'.anchors.A h'.anchors.n h'.anchors.c, .string d'.hints] 58 (0, 0))).cell? ⟨w.heap.size + 1, 2, none⟩ = some (.int .i64 d'.adv) := by simp only [World.cell?, hnew.2]; rfl
  have k3 : ((w.alloc (.cells #[.string d.name, .int .i64 d.code, .int .i64 d.adv, .slice h.out.A h.out.n h.out.c, .slice h.parts.A h.parts.n h.parts.c, .slice h.anchors.A h.anchors.n h.anchors.c, .string d.hints] 58 (0, 0))).alloc (.cells #[.string d'.name, .int .i64 d'.code, .int .i64 d'.adv, .slice h'.out.A h'.out.n h'.out.c, .slice h'.parts.A h'.parts.n h'.parts.c, .slice h'.anchors.A h'.anchors.n h'.anchors.c, .string d'.hints] 58 (0, 0))).cell? ⟨w.heap.size, 3, none⟩ = some (.slice h.out.A h.out.n h.out.c) := by simp only [World.cell?, hnew.1]; rfl
  have m3 : ((w.alloc (.cells #[.string d.name, .int .i64 d.code, .int .i64 d.adv, .slice h.out.A h.out.n h.out.c, .slice h.parts.A h.parts.n h.parts.c, .slice h.anchors.A h.anchors.n h.anchors.c, .string d.hints] 58 (0, 0))).alloc (.cells #[.string d'.name, .int .i64 d'.code, .int .i64 d'.adv, .slice h'.out.A h'.out.n h'.out.c, .slice h'.parts.A h'.parts.n h'.parts.c, .slice h'.anchors.A h'.anchors.n h'.anchors.c, .string d'.hints] 58 (0, 0))).cell? ⟨w.heap.size + 1, 3, none⟩ = some (.slice h'.out.A h'.out.n h'.out.c) := by simp only [World.cell?, hnew.2]; rfl
  have k4 : ((w.alloc (.cells #[.string d.name, .int .i64 d.code, .int .i64 d.adv, .slice h.out.A h.out.n h.out.c, .slice h.parts.A h.parts.n h.parts.c, .slice h.anchors.A h.anchors.n h.anchors.c, .string d.hints] 58 (0, 0))).alloc (.cells #[.string d'.name, .int .i64 d'.code, .int .i64 d'.adv, .slice h'.out.A h'.out.n h'.out.c, .slice h'.parts.A h'.parts.n h'.parts.c, .slice h'.anchors.A h'.anchors.n h'.anchors.c, .string d'.hints] 58 (0, 0))).cell? ⟨w.heap.size, 4, none⟩ = some (.slice h.parts.A h.parts.n h.parts.c) := by simp only [World.cell?, hnew.1]; rfl
  have m4 : ((w.alloc (.cells #[.string d.name, .int .i64 d.code, .int .i64 d.adv, .slice h.out.A h.out.n h.out.c, .slice h.parts.A h.parts.n h.parts.c, .slice h.anchors.A h.anchors.n h.anchors.c, .string d.hints] 58 (0, 0))).alloc (.cells #[.string d'.name, .int .i64 d'.code, .int .i64 d'.adv, .slice h'.out.A h'.out.n h'.out.c, .slice h'.parts.A h'.parts.n h'.parts.c, .slice h'.anchors.A h'.anchors.n h'.anchors.c, .string d'.hints] 58 (0, 0))).cell? ⟨w.heap.size + 1, 4, none⟩ = some (.slice h'.parts.A h'.parts.n h'.parts.c) := by simp only [World.cell?, hnew.2]; rfl
  have k5 : ((w.alloc (.cells #[.string d.name, .int .i64 d.code, .int .i64 d.adv, .slice h.out.A h.out.n h.out.c, .slice h.parts.A h.parts.n h.parts.c, .slice h.anchors.A h.anchors.n h.anchors.c, .string d.hints] 58 (0, 0))).alloc (.cells #[.string d'.name, .int .i64 d'.code, .int .i64 d'.adv, .slice h'.out.A h'.out.n h'.out.c, .slice h'.parts.A h'.parts.n h'.parts.c, .slice h'.anchors.A h'.anchors.n h'.anchors.c, .string d'.hints] 58 (0, 0))).cell? ⟨w.heap.size, 5, none⟩ = some (.slice h.anchors.A h.anchors.n h.anchors.c) := by simp only [World.cell?, hnew.1]; rfl
  have m5 : ((w.alloc (.cells #[.string d.name, .int .i64 d.code, .int .i64 d.adv, .slice h.out.A h.out.n h.out.c, .slice h.parts.A h.parts.n h.parts.c, .slice h.anchors.A h.anchors.n h.anchors.c, .string d.hints] 58 (0, 0))).alloc (.cells #[.string d'.name, .int .i64 d'.code, .int .i64 d'.adv, .slice h'.out.A h'.out.n h'.out.c, .slice h'.parts.A h'.parts.n h'.parts.c, .slice h'.anchors.A h'.anchors.n h'.anchors.c, .string d'.hints] 58 (0, 0))).cell? ⟨w.heap.size + 1, 5, none⟩ = some (.slice h'.anchors.A h'.anchors.n h'.anchors.c) := by simp only [World.cell?, hnew.2]; rfl
  have k6 : ((w.alloc (.cells #[.string d.name, .int .i64 d.code, .int .i64 d.adv, .slice h.out.A h.out.n h.out.c, .slice h.parts.A h.parts.n h.parts.c, .slice h.anchors.A h.anchors.n h.anchors.c, .string d.hints] 58 (0, 0))).alloc (.cells #[.string d'.name, .int .i64 d'.code, .int .i64 d'.adv, .slice h'.out.A h'.out.n h'.out.c, .slice h'.parts.A h'.parts.n h'.parts.c, .slice h'.anchors.A h'.anchors.n h'.anchors.c, .string d'.hints] 58 (0, 0))).cell? ⟨w.heap.size, 6, none⟩ = some (.string d.hints) := by simp only [World.cell?, hnew.1]; rfl
  have m6 : ((w.alloc (.cells #[.string d.name, .int .i64 d.code, .int .i64 d.adv, .slice h.out.A h.out.n h.out.c, .slice h.parts.A h.parts.n h.parts.c, .slice h.anchors.A h.anchors.n h.anchors.c, .string d.hints] 58 (0, 0))).alloc (.cells #[.string d'.name, .int .i64 d'.code, .int .i64 d'.adv, .slice h'.out.A h'.out.n h'.out.c, .slice h'.parts.A h'.parts.n h'.parts.c, .slice h'.anchors.A h'.anchors.n h'.anchors.c, .string d'.hints] 58 (0, 0))).cell? ⟨w.heap.size + 1, 6, none⟩ = some (.string d'.hints) := by simp only [World.cell?, hnew.2]; rfl
  clear hnew
  obtain ⟨t3, ht3⟩ : ∃ t, t = decide (d.out = d'.out) := ⟨_, rfl⟩
  obtain ⟨t4, ht4⟩ : ∃ t, t = decide (d.parts = d'.parts) := ⟨_, rfl⟩
  obtain ⟨t5, ht5⟩ : ∃ t, t = decide (d.anchors = d'.anchors) := ⟨_, rfl⟩
  have c3 := fun (W : World) (hB : Below w.heap.size w W) => implSameO_any h.out.A h'.out.A h.out.n h.out.c h'.out.n h'.out.c lo hi lo' hi' d.out d'.out t3 ht3 W (hr.1.frame good_loop (Below.sameB hB hhi)) (hr'.1.frame good_loop (Below.sameB hB hhi')) (Nat.le_trans hhi hB.size) (Nat.le_trans hhi' hB.size) (hm.out hr.1.1).1 (hm'.out hr'.1.1).1 hm.k hm'.k
  have c4 := fun (W : World) (hB : Below w.heap.size w W) => equalPart_any h.parts.A h'.parts.A h.parts.n h.parts.c h'.parts.n h'.parts.c lo hi lo' hi' d.parts d'.parts t4 ht4 W (hr.2.1.frame (good_flat _) (Below.sameB hB hhi)) (hr'.2.1.frame (good_flat _) (Below.sameB hB hhi')) (Nat.le_trans hhi hB.size) (Nat.le_trans hhi' hB.size) (hm.parts hr.2.1.1) (hm'.parts hr'.2.1.1)
  have c5 := fun (W : World) (hB : Below w.heap.size w W) => equalAnchor_any h.anchors.A h'.anchors.A h.anchors.n h.anchors.c h'.anchors.n h'.anchors.c lo hi lo' hi' d.anchors d'.anchors t5 ht5 W (hr.2.2.frame (good_flat _) (Below.sameB hB hhi)) (hr'.2.2.frame (good_flat _) (Below.sameB hB hhi')) (Nat.le_trans hhi hB.size) (Nat.le_trans hhi' hB.size) (hm.anchors hr.2.2.1) (hm'.anchors hr'.2.2.1)
  clear hr hr' hm hm' hhi hhi'
  replace c3 := Lib.hid c3
  replace c4 := Lib.hid c4
  replace c5 := Lib.hid c5
  have hne : Hid (∀ q : Prop, [Decidable q] → false = decide q → (d = d' → q) → b = false) := fun q _ h1 h2 => by
    rw [hb, decide_eq_false_iff_not]; intro e; have := h2 e; simp [this] at h1
  obtain ⟨x0, x1, x2, x3, x4, x5, x6⟩ := d
  obtain ⟨y0, y1, y2, y3, y4, y5, y6⟩ := d'
  dsimp only at *
  have hyes : Hid (x0 = y0 → x1 = y1 → x2 = y2 → true = t3 → true = t4 → true = t5 → x6 = y6 → b = true) := fun h0 h1 h2 h3 h4 h5 h6 => by
    rw [hb, decide_eq_true_iff]
    have e3 := of_decide_eq_true (h3.trans ht3).symm
    have e4 := of_decide_eq_true (h4.trans ht4).symm
    have e5 := of_decide_eq_true (h5.trans ht5).symm
    subst h0; subst h1; subst h2; subst e3; subst e4; subst e5; subst h6; rfl
  replace hb := Lib.hid hb
  replace ht3 := Lib.hid ht3
  replace ht4 := Lib.hid ht4
  replace ht5 := Lib.hid ht5
  have hwalk : Hid (∀ (g : Bool), b = g → True) := fun _ _ => trivial
  clear hwalk
  by_cases e0 : x0 = y0
  rotate_left
  · have hbf := hne.out (x0 = y0) (by simp [e0]) (fun e => by injection e)
    have u0 : (x0.toList == y0.toList) = false := bytes_neq e0
    subst hbf
    clear e0
    go_enter Tryz.func34, Tryz.ntmps34
    go_wp2_with fail
    go_ret
    exact ⟨rfl, hB0⟩
  subst e0
  by_cases e1 : x1 = y1
  rotate_left
  · have hbf := hne.out (x1 = y1) (by simp [e1]) (fun e => by injection e)
    have u1 : (x1 == y1) = false := by simp [e1]
    subst hbf
    clear e1
    go_enter Tryz.func34, Tryz.ntmps34
    go_wp2_with fail
    go_ret
    exact ⟨rfl, hB0⟩
  subst e1
  by_cases e2 : x2 = y2
  rotate_left
  · have hbf := hne.out (x2 = y2) (by simp [e2]) (fun e => by injection e)
    have u2 : (x2 == y2) = false := by simp [e2]
    subst hbf
    clear e2
    go_enter Tryz.func34, Tryz.ntmps34
    go_wp2_with fail
    go_ret
    exact ⟨rfl, hB0⟩
  subst e2
  cases t3
  · have hbf := hne.out _ ht3.out (fun e => by injection e)
    subst hbf
    go_enter Tryz.func34, Tryz.ntmps34
    go_wp2_with fail
    refine (c3.out _ hB0).mono ?_
    rintro e w1 ⟨rfl, hb1⟩
    have hB1 := hB0.trans (hb1.mono hB0.size)
    have K4 := (hb1.cell (by simp <;> omega)).trans k4
    have M4 := (hb1.cell (by simp <;> omega)).trans m4
    have K5 := (hb1.cell (by simp <;> omega)).trans k5
    have M5 := (hb1.cell (by simp <;> omega)).trans m5
    have K6 := (hb1.cell (by simp <;> omega)).trans k6
    have M6 := (hb1.cell (by simp <;> omega)).trans m6
    clear k0 k1 k2 k3 k4 k5 k6 m0 m1 m2 m3 m4 m5 m6 hb1
    go_wp2_with fail
    go_ret
    exact ⟨rfl, hB1⟩
  cases t4
  · have hbf := hne.out _ ht4.out (fun e => by injection e)
    subst hbf
    go_enter Tryz.func34, Tryz.ntmps34
    go_wp2_with fail
    refine (c3.out _ hB0).mono ?_
    rintro e w1 ⟨rfl, hb1⟩
    have hB1 := hB0.trans (hb1.mono hB0.size)
    have K4 := (hb1.cell (by simp <;> omega)).trans k4
    have M4 := (hb1.cell (by simp <;> omega)).trans m4
    have K5 := (hb1.cell (by simp <;> omega)).trans k5
    have M5 := (hb1.cell (by simp <;> omega)).trans m5
    have K6 := (hb1.cell (by simp <;> omega)).trans k6
    have M6 := (hb1.cell (by simp <;> omega)).trans m6
    clear k0 k1 k2 k3 k4 k5 k6 m0 m1 m2 m3 m4 m5 m6 hb1
    go_wp2_with fail
    refine (c4.out _ hB1).mono ?_
    rintro e w2 ⟨rfl, q2, rfl⟩
    have hB2 := below_drewN hB1 q2
    go_wp2_with fail
    go_ret
    exact ⟨rfl, hB2⟩
  cases t5
  · have hbf := hne.out _ ht5.out (fun e => by injection e)
    subst hbf
    go_enter Tryz.func34, Tryz.ntmps34
    go_wp2_with fail
    refine (c3.out _ hB0).mono ?_
    rintro e w1 ⟨rfl, hb1⟩
    have hB1 := hB0.trans (hb1.mono hB0.size)
    have K4 := (hb1.cell (by simp <;> omega)).trans k4
    have M4 := (hb1.cell (by simp <;> omega)).trans m4
    have K5 := (hb1.cell (by simp <;> omega)).trans k5
    have M5 := (hb1.cell (by simp <;> omega)).trans m5
    have K6 := (hb1.cell (by simp <;> omega)).trans k6
    have M6 := (hb1.cell (by simp <;> omega)).trans m6
    clear k0 k1 k2 k3 k4 k5 k6 m0 m1 m2 m3 m4 m5 m6 hb1
    go_wp2_with fail
    refine (c4.out _ hB1).mono ?_
    rintro e w2 ⟨rfl, q2, rfl⟩
    have hB2 := below_drewN hB1 q2
    go_wp2_with fail
    refine (c5.out _ hB2).mono ?_
    rintro e w3 ⟨rfl, q3, rfl⟩
    have hB3 := below_drewN hB2 q3
    go_wp2_with fail
    go_ret
    exact ⟨rfl, by simpa only [World.drewN_drewN] using hB3⟩
  by_cases e6 : x6 = y6
  rotate_left
  · have hbf := hne.out (x6 = y6) (by simp [e6]) (fun e => by injection e)
    have u6 : (x6.toList == y6.toList) = false := bytes_neq e6
    subst hbf
    clear e6
    go_enter Tryz.func34, Tryz.ntmps34
    go_wp2_with fail
    refine (c3.out _ hB0).mono ?_
    rintro e w1 ⟨rfl, hb1⟩
    have hB1 := hB0.trans (hb1.mono hB0.size)
    have K4 := (hb1.cell (by simp <;> omega)).trans k4
    have M4 := (hb1.cell (by simp <;> omega)).trans m4
    have K5 := (hb1.cell (by simp <;> omega)).trans k5
    have M5 := (hb1.cell (by simp <;> omega)).trans m5
    have K6 := (hb1.cell (by simp <;> omega)).trans k6
    have M6 := (hb1.cell (by simp <;> omega)).trans m6
    clear k0 k1 k2 k3 k4 k5 k6 m0 m1 m2 m3 m4 m5 m6 hb1
    go_wp2_with fail
    refine (c4.out _ hB1).mono ?_
    rintro e w2 ⟨rfl, q2, rfl⟩
    have hB2 := below_drewN hB1 q2
    go_wp2_with fail
    refine (c5.out _ hB2).mono ?_
    rintro e w3 ⟨rfl, q3, rfl⟩
    have hB3 := below_drewN hB2 q3
    go_wp2_with fail
    go_ret
    exact ⟨rfl, by simpa only [World.drewN_drewN] using hB3⟩
  subst e6
  have hbt := hyes.out rfl rfl rfl rfl rfl rfl rfl
  subst hbt
  clear hyes
  go_enter Tryz.func34, Tryz.ntmps34
  go_wp2_with fail
  refine (c3.out _ hB0).mono ?_
  rintro e w1 ⟨rfl, hb1⟩
  have hB1 := hB0.trans (hb1.mono hB0.size)
  have K4 := (hb1.cell (by simp <;> omega)).trans k4
  have M4 := (hb1.cell (by simp <;> omega)).trans m4
  have K5 := (hb1.cell (by simp <;> omega)).trans k5
  have M5 := (hb1.cell (by simp <;> omega)).trans m5
  have K6 := (hb1.cell (by simp <;> omega)).trans k6
  have M6 := (hb1.cell (by simp <;> omega)).trans m6
  clear k0 k1 k2 k3 k4 k5 k6 m0 m1 m2 m3 m4 m5 m6 hb1
  go_wp2_with fail
  refine (c4.out _ hB1).mono ?_
  rintro e w2 ⟨rfl, q2, rfl⟩
  have hB2 := below_drewN hB1 q2
  go_wp2_with fail
  refine (c5.out _ hB2).mono ?_
  rintro e w3 ⟨rfl, q3, rfl⟩
  have hB3 := below_drewN hB2 q3
  go_wp2_with fail
  go_ret
  exact ⟨rfl, by simpa only [World.drewN_drewN] using hB3⟩
end Go.Proofs.YtfkidklpjiiclaaGreat

/- Whether two sets of glyphs are the same: both sides. Conditions: as each states. -/
namespace Go.Proofs.YtfkidklpjiiclaaGreat
open Go.RowKit
set_option linter.unusedVariables false
set_option maxRecDepth 100000

theorem l17Same_gl (p1 o1 p2 o2 : Nat) (d d' : Gl) (h h' : GlH) (b : Bool) (hb : b = decide (d = d')) (lo hi lo' hi' : Nat) (w : World) (hw1 : p1 < w.heap.size) (hw2 : p2 < w.heap.size)
    (c1 : ∀ i u, (glC d h)[i]? = some u → w.cell? ⟨p1, o1 + i, none⟩ = some u) (c2 : ∀ i u, (glC d' h')[i]? = some u → w.cell? ⟨p2, o2 + i, none⟩ = some u)
    (hr : GlRd w lo hi d h) (hr' : GlRd w lo' hi' d' h') (hhi : hi ≤ w.heap.size) (hhi' : hi' ≤ w.heap.size) (hm : d.small 1000000000) (hm' : d'.small 1000000000) :
    Calls Tryz.prog 56 #[.pointer (some ⟨p1, o1, none⟩), .pointer (some ⟨p2, o2, none⟩)] w fun e w' => e = .returned (.bool b) ∧ Below w.heap.size w w' :=
  l17Same_any p1 o1 p2 o2 d.name d'.name d.code d'.code d.adv d'.adv d.out d'.out d.parts d'.parts d.anchors d'.anchors d.hints d'.hints h.out.A h'.out.A h.parts.A h'.parts.A h.anchors.A h'.anchors.A h.out.n h.out.c h'.out.n h'.out.c h.parts.n h.parts.c h'.parts.n h'.parts.c h.anchors.n h.anchors.c h'.anchors.n h'.anchors.c lo hi lo' hi' b hb w hw1 hw2
    (c1 0 _ rfl) (c2 0 _ rfl) (c1 1 _ rfl) (c2 1 _ rfl) (c1 2 _ rfl) (c2 2 _ rfl) (c1 3 _ rfl) (c2 3 _ rfl) (c1 4 _ rfl) (c2 4 _ rfl) (c1 5 _ rfl) (c2 5 _ rfl) (c1 6 _ rfl) (c2 6 _ rfl)
    hr.1 hr'.1 hr.2.1 hr'.2.1 hr.2.2 hr'.2.2 hhi hhi' hm hm'
end Go.Proofs.YtfkidklpjiiclaaGreat

