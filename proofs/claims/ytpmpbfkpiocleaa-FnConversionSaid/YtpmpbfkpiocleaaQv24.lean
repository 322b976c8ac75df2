/- Points of cubics: the program's side. Conditions: as each states. -/
import Derived.Test.YtpmpbfkpiocleaaQv23
import Derived.Test.YtpmpbfkpiocleaaQv13
import Derived.Test.YtpmpbfkpiocleaaQv17
namespace Go.Proofs.Ytpmpbfkpiocleaa
open Go.RowKit
set_option linter.unusedVariables false
set_option maxRecDepth 100000

/-- a cubic as a value -/
abbrev cbV (q : Cb) : Value := .agg #[.int .i64 q.ax, .int .i64 q.ay, .int .i64 q.bx, .int .i64 q.b, .int .i64 q.cx, .int .i64 q.cy, .int .i64 q.dx, .int .i64 q.dy]
def Cb.ok (q : Cb) : Prop := ptOk q.ax q.ay = true ∧ ptOk q.bx q.b = true ∧ ptOk q.cx q.cy = true ∧ ptOk q.dx q.dy = true
def Cb.pts (q : Cb) : List (Int × Int) := [(q.ax, q.ay), (q.bx, q.b), (q.cx, q.cy), (q.dx, q.dy)]
theorem four_own (w : World) (q : Cb) : (w.alloc (.cells #[.int .i64 q.ax, .int .i64 q.ay, .int .i64 q.bx, .int .i64 q.b, .int .i64 q.cx, .int .i64 q.cy, .int .i64 q.dx, .int .i64 q.dy] 24 (0, 0))).ownsRow w.heap.size 24 2 (.slice (some ⟨w.heap.size, 0, none⟩) 4 4) 4 (q.pts.flatMap ptC) := World.ownsRow_lit w #[.int .i64 q.ax, .int .i64 q.ay, .int .i64 q.bx, .int .i64 q.b, .int .i64 q.cx, .int .i64 q.cy, .int .i64 q.dx, .int .i64 q.dy] 4 (Nat.le_refl _) (by decide) (by simp)
theorem four_pts (w : World) (q : Cb) : RdS 2 (FlatR ptC) (w.alloc (.cells #[.int .i64 q.ax, .int .i64 q.ay, .int .i64 q.bx, .int .i64 q.b, .int .i64 q.cx, .int .i64 q.cy, .int .i64 q.dx, .int .i64 q.dy] 24 (0, 0))) w.heap.size (w.alloc (.cells #[.int .i64 q.ax, .int .i64 q.ay, .int .i64 q.bx, .int .i64 q.b, .int .i64 q.cx, .int .i64 q.cy, .int .i64 q.dx, .int .i64 q.dy] 24 (0, 0))).heap.size (some ⟨w.heap.size, 0, none⟩) 4 q.pts := by
  exact rdS_own ptC_len (by omega) (four_own w q) rfl
theorem four_ints (w : World) (a b c d : Int) : RdS 1 (FlatR intC) (w.alloc (.cells #[.int .i64 a, .int .i64 b, .int .i64 c, .int .i64 d] 2 (0, 0))) w.heap.size (w.alloc (.cells #[.int .i64 a, .int .i64 b, .int .i64 c, .int .i64 d] 2 (0, 0))).heap.size (some ⟨w.heap.size, 0, none⟩) 4 [a, b, c, d] := by
  have h : (w.alloc (.cells #[.int .i64 a, .int .i64 b, .int .i64 c, .int .i64 d] 2 (0, 0))).ownsRow w.heap.size 2 1 (.slice (some ⟨w.heap.size, 0, none⟩) 4 4) 4 [.int .i64 a, .int .i64 b, .int .i64 c, .int .i64 d] := World.ownsRow_lit w #[.int .i64 a, .int .i64 b, .int .i64 c, .int .i64 d] 4 (Nat.le_refl _) (by decide) (by simp)
  exact rdS_own intC_len (by omega) h rfl

theorem cpoints_any (q : Cb) (w : World) :
    Calls Try.prog 23 #[cbV q] w fun e w' => ∃ g : Nat, e = .returned (.slice (some ⟨g, 0, none⟩) 4 4) ∧ w'.ownsRow w.heap.size 24 2 (.slice (some ⟨g, 0, none⟩) 4 4) 4 (q.pts.flatMap ptC) ∧ Below w.heap.size w w' := by
  obtain ⟨ax, ay, bx, b, cx, cy, dx, dy⟩ := q
  simp only [cbV]
  go_enter Try.func23, Try.ntmps23
  go_wp2_with fail
  go_ret
  refine ⟨_, rfl, ?_, ?_⟩
  · have h := four_own (w.alloc (.cells #[.int .i64 ax, .int .i64 ay, .int .i64 bx, .int .i64 b, .int .i64 cx, .int .i64 cy, .int .i64 dx, .int .i64 dy] 26 (0, 0))) ⟨ax, ay, bx, b, cx, cy, dx, dy⟩
    have h2 := own_lower h (show w.heap.size ≤ _ by simp)
    simpa using h2
  · iterate 2 (refine Below.alloc ?_ (by first | exact Nat.le_refl _ | (simp <;> omega)) _)
    exact Below.refl _ _

/-- four points times four numbers -/
def dot4 (x0 x1 x2 x3 b0 b1 b2 b3 : Int) : Int := x0 * b0 + x1 * b1 + x2 * b2 + x3 * b3
def S4 (x b : Int) : Prop := -288230376151711744 ≤ x * b ∧ x * b ≤ 288230376151711744
theorem s4_of {x y : Int} (hx : -262144 ≤ x ∧ x ≤ 262144) (hy : 0 ≤ y ∧ y ≤ 1048576) : S4 x y := by
  have h := prod_bd (x := x) (y := y) (A := 262144) (B := 1048576) hx.1 hx.2 (by omega) hy.2
  unfold S4; omega
theorem s4_small {x y : Int} (hx : -262144 ≤ x ∧ x ≤ 262144) (hy : -8 ≤ y ∧ y ≤ 8) : S4 x y := by
  have h := prod_bd (x := x) (y := y) (A := 262144) (B := 8) hx.1 hx.2 hy.1 hy.2
  unfold S4; omega
set_option maxHeartbeats 2000000 in
theorem combine4_any (A : Option Addr) (c lo hi : Nat) (q : Cb) (p c' lo' hi' : Nat) (b0 b1 b2 b3 : Int) (w : World) (hP : RdS 2 (FlatR ptC) w lo hi A 4 q.pts) (hhi : hi ≤ w.heap.size) (hN : RdS 1 (FlatR intC) w lo' hi' (some ⟨p, 0, none⟩) 4 [b0, b1, b2, b3]) (hhi' : hi' ≤ w.heap.size)
    (m0 : S4 q.ax b0 ∧ S4 q.ay b0) (m1 : S4 q.bx b1 ∧ S4 q.b b1) (m2 : S4 q.cx b2 ∧ S4 q.cy b2) (m3 : S4 q.dx b3 ∧ S4 q.dy b3) :
    Calls Try.prog 25 #[.slice A 4 c, .slice (some ⟨p, 0, none⟩) 4 c'] w fun e w' => e = .returned (.agg #[.int .i64 (dot4 q.ax q.bx q.cx q.dx b0 b1 b2 b3), .int .i64 (dot4 q.ay q.b q.cy q.dy b0 b1 b2 b3)]) ∧ Below w.heap.size w w' := by
  obtain ⟨ax, ay, bx, b, cx, cy, dx, dy⟩ := q
  simp only [Cb.pts] at *
  unfold S4 at m0 m1 m2 m3
  refine (combineN_any A 4 c lo hi _ p 4 c' lo' hi' [b0, b1, b2, b3] w hP hhi hN hhi' (by omega) (by omega) (by omega) ?_ ?_).mono ?_
  · intro k hk
    rcases (show k = 0 ∨ k = 1 ∨ k = 2 ∨ k = 3 ∨ k = 4 by omega) with rfl | rfl | rfl | rfl | rfl
    all_goals
      simp [dotTo, ptAt, Sm]
      try omega
  · intro k hk
    rcases (show k = 0 ∨ k = 1 ∨ k = 2 ∨ k = 3 by omega) with rfl | rfl | rfl | rfl
    all_goals
      simp [ptAt, Sm]
      try omega
  · rintro e w' ⟨rfl, hb⟩
    refine ⟨?_, hb⟩
    simp [dotTo, ptAt, dot4]

theorem cubW_sum {u k n : Int} (hu : u = n - k) : u * u * u + 3 * u * u * k + 3 * u * k * k + k * k * k = n * n * n := by subst hu; grind
theorem numC_is (a b c d u k n : Int) (hu : u = n - k) : dot4 a b c d (u * u * u) (3 * u * u * k) (3 * u * k * k) (k * k * k) = numC a b c d k n := by
  subst hu; unfold dot4 numC; grind
theorem numC_bd {a b c d k n M : Int} (ha : -M ≤ a ∧ a ≤ M) (hb : -M ≤ b ∧ b ≤ M) (hc : -M ≤ c ∧ c ≤ M) (hd : -M ≤ d ∧ d ≤ M) (h0 : 0 ≤ k) (hn : k ≤ n) : -(M * (n * n * n)) ≤ numC a b c d k n ∧ numC a b c d k n ≤ M * (n * n * n) := by
  obtain ⟨u, hu⟩ : ∃ u, u = n - k := ⟨_, rfl⟩
  have hs := cubW_sum hu
  have hx := numC_is a b c d u k n hu
  have hu0 : 0 ≤ u := by omega
  have uu : 0 ≤ u * u := Int.mul_nonneg hu0 hu0
  have w0 : 0 ≤ u * u * u := Int.mul_nonneg uu hu0
  have w1 : 0 ≤ 3 * u * u * k := Int.mul_nonneg (Int.mul_nonneg (Int.mul_nonneg (by omega) hu0) hu0) h0
  have w2 : 0 ≤ 3 * u * k * k := Int.mul_nonneg (Int.mul_nonneg (Int.mul_nonneg (by omega) hu0) h0) h0
  have w3 : 0 ≤ k * k * k := Int.mul_nonneg (Int.mul_nonneg h0 h0) h0
  rw [← hx, ← hs]
  unfold dot4
  generalize u * u * u = p0 at *
  generalize 3 * u * u * k = p1 at *
  generalize 3 * u * k * k = p2 at *
  generalize k * k * k = p3 at *
  have a1 := Int.mul_le_mul_of_nonneg_right ha.1 w0
  have a2 := Int.mul_le_mul_of_nonneg_right ha.2 w0
  have b1 := Int.mul_le_mul_of_nonneg_right hb.1 w1
  have b2 := Int.mul_le_mul_of_nonneg_right hb.2 w1
  have c1 := Int.mul_le_mul_of_nonneg_right hc.1 w2
  have c2 := Int.mul_le_mul_of_nonneg_right hc.2 w2
  have d1 := Int.mul_le_mul_of_nonneg_right hd.1 w3
  have d2 := Int.mul_le_mul_of_nonneg_right hd.2 w3
  rw [Int.neg_mul] at a1 b1 c1 d1
  have e : M * (p0 + p1 + p2 + p3) = M * p0 + M * p1 + M * p2 + M * p3 := by rw [Int.mul_add, Int.mul_add, Int.mul_add]
  rw [e]
  omega
theorem cAt_ok {q : Cb} (h : q.ok) {k n : Int} (h0 : 0 ≤ k) (hk : k ≤ n) (hn : 0 < n) : ptOk (cAt q k n).1 (cAt q k n).2 = true := by
  obtain ⟨ha, hb, hc, hd⟩ := h
  obtain ⟨a1, a2⟩ := ptOk_iff.1 ha
  obtain ⟨b1, b2⟩ := ptOk_iff.1 hb
  obtain ⟨c1, c2⟩ := ptOk_iff.1 hc
  obtain ⟨d1, d2⟩ := ptOk_iff.1 hd
  have hn3 : 0 < n * n * n := Int.mul_pos (Int.mul_pos hn hn) hn
  obtain ⟨x1, x2⟩ := numC_bd a1 b1 c1 d1 h0 hk
  obtain ⟨y1, y2⟩ := numC_bd a2 b2 c2 d2 h0 hk
  exact ptOk_iff.2 ⟨rnd_mid hn3 x1 x2, rnd_mid hn3 y1 y2⟩

theorem mul64 {x y : Int} (hx : 0 ≤ x ∧ x ≤ 64) (hy : 0 ≤ y ∧ y ≤ 12288) : 0 ≤ y * x ∧ y * x ≤ 786432 :=
  ⟨Int.mul_nonneg hy.1 hx.1, by have := Int.mul_le_mul hy.2 hx.2 hx.1 (by omega); omega⟩
set_option maxHeartbeats 4000000 in
theorem cubicAt_any (q : Cb) (k n : Int) (w : World) (hq : q.ok) (h0 : 0 ≤ k) (hkn : k ≤ n) (hn1 : 0 < n) (hn2 : n ≤ 64) :
    Calls Try.prog 22 #[cbV q, .int .i64 k, .int .i64 n] w fun e w' => e = .returned (.agg #[.int .i64 (cAt q k n).1, .int .i64 (cAt q k n).2]) ∧ Below w.heap.size w w' := by
  obtain ⟨ha, hb, hc, hd⟩ := hq
  obtain ⟨a1, a2⟩ := ptOk_iff.1 ha
  obtain ⟨b1, b2⟩ := ptOk_iff.1 hb
  obtain ⟨c1, c2⟩ := ptOk_iff.1 hc
  obtain ⟨d1, d2⟩ := ptOk_iff.1 hd
  obtain ⟨u, hu⟩ : ∃ u, u = n - k := ⟨_, rfl⟩
  have huu := df64 (x := u) (y := u) (by omega) (by omega) (by omega) (by omega)
  have hkk := df64 (x := k) (y := k) (by omega) (by omega) (by omega) (by omega)
  have hnn := df64 (x := n) (y := n) (by omega) (by omega) (by omega) (by omega)
  have huk := df64 (x := u) (y := k) (by omega) (by omega) (by omega) (by omega)
  have e1 : 3 * u * u = 3 * (u * u) := by rw [Int.mul_assoc]
  have e2 : 3 * u * k = 3 * (u * k) := by rw [Int.mul_assoc]
  have w0 := mul64 (x := u) (y := u * u) (by omega) (by omega)
  have w1 := mul64 (x := k) (y := 3 * u * u) (by omega) (by omega)
  have w2 := mul64 (x := k) (y := 3 * u * k) (by omega) (by omega)
  have w3 := mul64 (x := k) (y := k * k) (by omega) (by omega)
  have w4 := mul64 (x := n) (y := n * n) (by omega) (by omega)
  have q0 : IntKind.i64.wrap (n - k) = u := by rw [wi (by omega), hu]
  have q1 : IntKind.i64.wrap (u * u) = u * u := wi (by omega)
  have q2 : IntKind.i64.wrap (u * u * u) = u * u * u := wi (by omega)
  have q3 : IntKind.i64.wrap (3 * u) = 3 * u := wi (by omega)
  have q4 : IntKind.i64.wrap (3 * u * u) = 3 * u * u := wi (by omega)
  have q5 : IntKind.i64.wrap (3 * u * u * k) = 3 * u * u * k := wi (by omega)
  have q6 : IntKind.i64.wrap (3 * u * k) = 3 * u * k := wi (by omega)
  have q7 : IntKind.i64.wrap (3 * u * k * k) = 3 * u * k * k := wi (by omega)
  have q8 : IntKind.i64.wrap (k * k) = k * k := wi (by omega)
  have q9 : IntKind.i64.wrap (k * k * k) = k * k * k := wi (by omega)
  have q10 : IntKind.i64.wrap (n * n) = n * n := wi (by omega)
  have q11 : IntKind.i64.wrap (n * n * n) = n * n * n := wi (by omega)
  have x1 := numC_bd a1 b1 c1 d1 h0 hkn
  have x2 := numC_bd a2 b2 c2 d2 h0 hkn
  have hcm := Lib.hid (fun A c lo hi p c' lo' hi' W hP h1 hN h2 => combine4_any A c lo hi q p c' lo' hi' (u * u * u) (3 * u * u * k) (3 * u * k * k) (k * k * k) W hP h1 hN h2 ⟨s4_of a1 (by omega), s4_of a2 (by omega)⟩ ⟨s4_of b1 (by omega), s4_of b2 (by omega)⟩ ⟨s4_of c1 (by omega), s4_of c2 (by omega)⟩ ⟨s4_of d1 (by omega), s4_of d2 (by omega)⟩)
  have hn3 : 0 < n * n * n := Int.mul_pos (Int.mul_pos hn1 hn1) hn1
  have hdv := Lib.hid (fun W => divPt_any (numC q.ax q.bx q.cx q.dx k n) (numC q.ay q.b q.cy q.dy k n) (n * n * n) W (by omega) (by omega) (by omega) (by omega) hn3 (by omega))
  rw [numC_is _ _ _ _ u k n hu, numC_is _ _ _ _ u k n hu] at hcm
  have hpt := Lib.hid (fun W => cpoints_any q W)
  have hM1 : (cAt q k n).1 = rnd (numC q.ax q.bx q.cx q.dx k n) (n * n * n) := rfl
  have hM2 : (cAt q k n).2 = rnd (numC q.ay q.b q.cy q.dy k n) (n * n * n) := rfl
  rw [hM1, hM2]
  obtain ⟨L, hL⟩ : ∃ L, L = q.pts := ⟨_, rfl⟩
  rw [← hL] at hcm hpt
  replace hu := Lib.hid hu
  clear x1 x2 huu hkk huk hnn e1 e2 w0 w1 w2 w3 w4 hM1 hM2 ha hb hc hd a1 a2 b1 b2 c1 c2 d1 d2
  generalize numC q.ax q.bx q.cx q.dx k n = X at *
  generalize numC q.ay q.b q.cy q.dy k n = Y at *
  obtain ⟨ax, ay, bx, b, cx, cy, dx, dy⟩ := q
  simp only [cbV] at hpt
  simp only [cbV]
  replace hL := Lib.hid hL
  have hB0 : Below w.heap.size w ((w.alloc (.cells #[.int .i64 ax, .int .i64 ay, .int .i64 bx, .int .i64 b, .int .i64 cx, .int .i64 cy, .int .i64 dx, .int .i64 dy] 26 (0, 0))).alloc (.cells #[.int .i64 0, .int .i64 0] 24 (0, 0))) := Go.Joins.below_alloc2 _ _ _
  have r0 : PB ((w.alloc (.cells #[.int .i64 ax, .int .i64 ay, .int .i64 bx, .int .i64 b, .int .i64 cx, .int .i64 cy, .int .i64 dx, .int .i64 dy] 26 (0, 0))).alloc (.cells #[.int .i64 0, .int .i64 0] 24 (0, 0))) (w.heap.size + 1) 0 0 := (heap_new2 w _ _).2
  go_enter Try.func22, Try.ntmps22
  go_wp2_with fail
  refine (hpt.out _).mono ?_
  rintro e w1 ⟨g, rfl, hP1, hb1⟩
  replace r0 := r0.below hb1
  have hB1 := hB0.trans (hb1.mono hB0.size)
  have hz1 := hB1.size
  have hrd1 := Lib.hid (rdS_own ptC_len (by omega) hP1 (by rw [hL.out]; rfl))
  clear hb1 hB0 hP1
  go_wp2_with fail
  refine (hcm.out _ _ _ _ w1.heap.size 4 _ _ _ (hrd1.out.frame (good_flat _) (Below.sameB (Go.Joins.below_alloc1 _ _) (Nat.le_refl _))) (by simp) (four_ints _ _ _ _ _) (Nat.le_refl _)).mono ?_
  rintro e w2 ⟨rfl, hb2⟩
  replace r0 := (r0.alloc _).below hb2
  have hB2 := (hB1.alloc hz1 _).trans (hb2.mono (hB1.alloc hz1 _).size)
  clear hb2 hB1 hrd1
  go_wp2_with fail
  refine (hdv.out w2).mono ?_
  rintro e w3 ⟨rfl, hb3⟩
  replace r0 := r0.below hb3
  have hB3 := hB2.trans (hb3.mono hB2.size)
  clear hb3 hB2
  obtain ⟨v0, v1, vf, vl⟩ := r0.cells
  go_wp2_with fail
  refine bodyPost_ret (v := .agg #[.int .i64 (rnd X (n * n * n)), .int .i64 (rnd Y (n * n * n))]) (by simp [results, Try.results22, go_sem, v0, v1]) rfl ⟨rfl, ?_⟩
  exact (hB3.setCell (p := ⟨w.heap.size + 1, 0, none⟩) (by show w.heap.size ≤ w.heap.size + 1; omega) _).setCell (p := ⟨w.heap.size + 1, 1, none⟩) (by show w.heap.size ≤ w.heap.size + 1; omega) _
end Go.Proofs.Ytpmpbfkpiocleaa

/- Levels of cubics, their paths, ends and bounds: the program's side. Printed by mk_cu2.py. Conditions: as each states. -/
namespace Go.Proofs.Ytpmpbfkpiocleaa
open Go.RowKit
set_option linter.unusedVariables false
set_option maxRecDepth 100000

end Go.Proofs.Ytpmpbfkpiocleaa

/- Validity, bends, levels, single points of cubics: the program's side. Conditions: as each states. -/
namespace Go.Proofs.Ytpmpbfkpiocleaa
open Go.RowKit
set_option linter.unusedVariables false
set_option maxRecDepth 100000

theorem Cb.all {q : Cb} (h : q.ok) : true = q.pts.all pt2Ok := by
  obtain ⟨h1, h2, h3, h4⟩ := h
  simp [Cb.pts, pt2Ok, h1, h2, h3, h4]
theorem validCubic_yes (q : Cb) (hq : q.ok) (w : World) : Calls Try.prog 21 #[cbV q] w fun e w' => e = .returned (.bool true) ∧ Below w.heap.size w w' := by
  have hc := Lib.hid (fun A n c lo hi W hr h1 h2 => validPts_any A n c lo hi q.pts true (Cb.all hq) W hr h1 h2)
  have hz : (w.alloc (.cells #[.int .i64 q.ax, .int .i64 q.ay, .int .i64 q.bx, .int .i64 q.b, .int .i64 q.cx, .int .i64 q.cy, .int .i64 q.dx, .int .i64 q.dy] 26 (0, 0))).heap.size = w.heap.size + 1 := by simp
  have hf := four_pts (w.alloc (.cells #[.int .i64 q.ax, .int .i64 q.ay, .int .i64 q.bx, .int .i64 q.b, .int .i64 q.cx, .int .i64 q.cy, .int .i64 q.dx, .int .i64 q.dy] 26 (0, 0))) q
  rw [hz] at hf
  replace hf := Lib.hid hf
  clear hz hq
  obtain ⟨L, hL⟩ : ∃ L, L = q.pts := ⟨_, rfl⟩
  rw [← hL] at hc hf
  clear hL
  obtain ⟨ax, ay, bx, b, cx, cy, dx, dy⟩ := q
  simp only at hf
  simp only [cbV]
  go_enter Try.func21, Try.ntmps21
  go_wp2_with fail
  refine (hc.out _ 4 4 _ _ _ hf.out (Nat.le_refl _) (by omega)).mono ?_
  rintro e w1 ⟨rfl, hb1⟩
  have hB1 := (Go.Joins.below_alloc2 w (.cells #[.int .i64 ax, .int .i64 ay, .int .i64 bx, .int .i64 b, .int .i64 cx, .int .i64 cy, .int .i64 dx, .int .i64 dy] 26 (0, 0)) (.cells #[.int .i64 ax, .int .i64 ay, .int .i64 bx, .int .i64 b, .int .i64 cx, .int .i64 cy, .int .i64 dx, .int .i64 dy] 24 (0, 0))).trans (hb1.mono (Go.Joins.below_alloc2 w _ _).size)
  clear hb1
  go_wp2_with fail
  go_ret
  exact ⟨rfl, hB1⟩

end Go.Proofs.Ytpmpbfkpiocleaa

