/- The law on FitError. Conditions: as it states. -/
import Derived.Deep.RegionHeld3
import Derived.Test.YtgelkdcggnffeaaFer43
import Derived.Test.YtgelkdcggnffeaaFer44
import Derived.Test.YtgelkdcggnffeaaFer32
import Derived.Test.YtgelkdcggnffeaaFer04
import Derived.Test.YtgelkdcggnffeaaFer05
namespace Go.Proofs.Ytgelkdcggnffeaa
open Go.RowKit
set_option linter.unusedVariables false
set_option maxRecDepth 100000

theorem sumMemFe {L : List Nat} {a : Nat} (h : a ∈ L) : a ≤ L.sum := by
  induction L with
  | nil => cases h
  | cons b L ih =>
    rw [List.sum_cons]
    rcases List.mem_cons.1 h with rfl | h
    · omega
    · have := ih h; omega
set_option maxHeartbeats 16000000 in
theorem lawFitError_walk (A : Option Addr) (n c : Nat) (Rs : List (List Pnt)) (B : Option Addr) (m c' : Nat) (Ls : List (List Knot)) {w : World} (hr : RegRd w 0 w.heap.size A n Rs) (hn : n ≤ maxLen) (hm : m ≤ maxLen) (ho : OutRd w 0 w.heap.size B m Ls) :
    Calls Try.prog 5 #[.agg #[.slice A n c], .agg #[.slice B m c']] w fun e w' => e = .returned (.bool true) ∧ Below w.heap.size w w' := by
  unfold maxLen at hn hm
  have hll := hr.1
  have hlo := ho.1
  obtain ⟨x, hx⟩ : ∃ x, x = (feR Rs Ls (outOk Ls)).1 := ⟨_, rfl⟩
  obtain ⟨y, hy⟩ : ∃ y, y = (feR Rs Ls (outOk Ls)).2 := ⟨_, rfl⟩
  have hv : feR Rs Ls (outOk Ls) = (x, y) := by rw [hx, hy]
  have hspec := Lib.hid (fun A B n c m c' lo hi lo' hi' w hr ho h1 h2 h3 h4 h5 h6 => specFitError_any A B n c m c' lo hi lo' hi' Rs Ls x y hv w hr ho h1 h2 h3 h4 h5 h6)
  have himpl := Lib.hid (fun A B n c m c' lo hi lo' hi' w hr ho h1 h2 h3 h4 h5 h6 => implFitError_any A B n c m c' lo hi lo' hi' Rs Ls x y hv w hr ho h1 h2 h3 h4 h5 h6)
  have hB0 := Go.Joins.below_alloc2 w (.cells #[.slice A n c] 53 (0, 0)) (.cells #[.slice B m c'] 56 (0, 0))
  have hz0 : ((w.alloc (.cells #[.slice A n c] 53 (0, 0))).alloc (.cells #[.slice B m c'] 56 (0, 0))).heap.size = w.heap.size + 2 := by simp
  have hnew := heap_new2 w (.cells #[.slice A n c] 53 (0, 0)) (.cells #[.slice B m c'] 56 (0, 0))
  have hr0 := Lib.hid (hr.frame good_ring (Below.sameB hB0 (Nat.le_refl _)))
  have ho0 := Lib.hid (ho.frame good_loop (Below.sameB hB0 (Nat.le_refl _)))
  have hP0 := Lib.hid hnew.1
  have hQ0 := Lib.hid hnew.2
  clear hr ho hnew hv hx hy
  go_enter Try.func5, Try.ntmps5
  go_upto_region 1 with fail
  generalize ((w.alloc (.cells #[.slice A n c] 53 (0, 0))).alloc (.cells #[.slice B m c'] 56 (0, 0))) = w0 at *
  obtain ⟨Q, hQ⟩ : ∃ Q, Q = w.heap.size + 1 := ⟨_, rfl⟩
  rw [← hQ] at hQ0 ⊢
  have hPl : w.heap.size < w0.heap.size := by omega
  have hQl : Q < w0.heap.size := by omega
  have hzw : w.heap.size ≤ w0.heap.size := by omega
  clear hz0 hQ
  have p0 : w0.cell? ⟨w.heap.size, 0, none⟩ = some (.slice A n c) := by rw [Go.Joins.cell_of_block hP0.out]; rfl
  have q0 : w0.cell? ⟨Q, 0, none⟩ = some (.slice B m c') := by rw [Go.Joins.cell_of_block hQ0.out]; rfl
  have hcs := Lib.hid (fun (W : World) (hB : Below w0.heap.size w0 W) => And.intro ((hB.cell (p := ⟨w.heap.size, 0, none⟩) hPl).trans p0) ((hB.cell (p := ⟨Q, 0, none⟩) hQl).trans q0))
  have hrW : Hid (∀ W, Below w0.heap.size w0 W → RegRd W 0 w.heap.size A n Rs) := Lib.hid fun W hB => hr0.out.frame good_ring (Below.sameB hB hzw)
  have hoW : Hid (∀ W, Below w0.heap.size w0 W → OutRd W 0 w.heap.size B m Ls) := Lib.hid fun W hB => ho0.out.frame good_loop (Below.sameB hB hzw)
  clear hP0 hQ0 hr0 ho0
  go_wp2_with fail
  refine (szRegion_any A n c 0 w.heap.size Rs 1048576 w0 (hrW.out _ (Below.refl _ _)) hzw (by omega) (by omega) (by omega)).mono ?_
  rintro e w1 ⟨rz, rfl, hrz, hb1⟩
  obtain ⟨p1, q1⟩ := hcs.out _ hb1
  have hz1 := hb1.size
  have hpl1 : w.heap.size < w1.heap.size := by omega
  have hql1 : Q < w1.heap.size := by omega
  clear p0 q0
  rcases hrz with hn1 | ⟨hn1, hl1⟩
  · go_wp2_with fail
    go_ret
    exact ⟨rfl, hB0.trans (hb1.mono hzw)⟩
  have hgn : n ≤ 1048576 := by unfold regSize at hl1; omega
  have hss : ∀ L ∈ Rs, L.length ≤ 1048576 := fun L hL => by
    have h := sumMemFe (List.mem_map_of_mem (f := List.length) hL)
    unfold regSize at hl1; omega
  have hrz1 : rz ≤ 1048576 := by omega
  have hn1' : ¬ rz < 0 := by omega
  replace hl1 := Lib.hid hl1
  go_wp2_with fail
  refine (szOutline_any B m c' 0 w.heap.size Ls rz w1 (hoW.out _ hb1) (by omega) (by omega) hn1 hrz1).mono ?_
  rintro e w2 ⟨ry, rfl, hry, hb2⟩
  have hb02 := hb1.trans (hb2.mono hz1)
  obtain ⟨p2, q2⟩ := hcs.out _ hb02
  have hz2 := hb02.size
  have hpl2 : w.heap.size < w2.heap.size := by omega
  have hql2 : Q < w2.heap.size := by omega
  clear p1 q1 hb1 hb2
  rcases hry with hm1 | ⟨hm1, hl2⟩
  · go_wp2_with fail
    go_ret
    exact ⟨rfl, hB0.trans (hb02.mono hzw)⟩
  have hgm : m ≤ 1048576 := by unfold outSize at hl2; omega
  have hss' : ∀ K ∈ Ls, K.length ≤ 1048576 := fun K hK => by
    have h := sumMemFe (List.mem_map_of_mem (f := List.length) hK)
    unfold outSize at hl2; omega
  have hm1' : ¬ ry < 0 := by omega
  replace hl2 := Lib.hid hl2
  replace hll := Lib.hid hll
  replace hlo := Lib.hid hlo
  replace hss := Lib.hid hss
  replace hss' := Lib.hid hss'
  clear hrz1
  have hrV : Hid (∀ W, Below w2.heap.size w2 W → RegRd W 0 w.heap.size A n Rs) := Lib.hid fun W hB => hrW.out _ (hb02.trans (hB.mono hz2))
  have hoV : Hid (∀ W, Below w2.heap.size w2 W → OutRd W 0 w.heap.size B m Ls) := Lib.hid fun W hB => hoW.out _ (hb02.trans (hB.mono hz2))
  have hS := Lib.hid (fun (W : World) (hB : Below w2.heap.size w2 W) => (show W.cell? ⟨w.heap.size, 0, none⟩ = some (.slice A n c) ∧ W.cell? ⟨Q, 0, none⟩ = some (.slice B m c') from hcs.out _ (hb02.trans (hB.mono hz2))))
  have hcA : Hid (∀ W, Below w2.heap.size w2 W → Calls Try.prog 22 #[.agg #[.slice A n c]] W fun e w' => ∃ A', e = .returned (.agg #[.slice A' n n]) ∧ RegRd w' w2.heap.size w'.heap.size A' n Rs ∧ Below w2.heap.size w2 w' ∧ Below W.heap.size W w') := by
    refine Lib.hid fun W hB => (toRegion_any A n c 0 w.heap.size Rs W (hrV.out _ hB) (by have := hB.size; omega) hgn hss.out).mono ?_
    rintro e w' ⟨A', he, ho', hb⟩
    have h := ho'.rd (fun K hK => Nat.le_trans (hss.out K hK) (by decide))
    exact ⟨A', he, h.wide good_ring hB.size (Nat.le_refl _), hB.trans (hb.mono hB.size), hb⟩
  have hcB : Hid (∀ W, Below w2.heap.size w2 W → Calls Try.prog 23 #[.agg #[.slice B m c']] W fun e w' => ∃ A', e = .returned (.agg #[.slice A' m m]) ∧ OutRd w' w2.heap.size w'.heap.size A' m Ls ∧ Below w2.heap.size w2 w' ∧ Below W.heap.size W w') := by
    refine Lib.hid fun W hB => (toOutline_any B m c' 0 w.heap.size Ls W (hoV.out _ hB) (by have := hB.size; omega) hgm hss'.out).mono ?_
    rintro e w' ⟨A', he, ho', hb⟩
    have h := ho'.rd (fun K hK => Nat.le_trans (hss'.out K hK) (by decide))
    exact ⟨A', he, h.wide good_loop hB.size (Nat.le_refl _), hB.trans (hb.mono hB.size), hb⟩
  have hcF : Hid (∀ W A2 A3, Below w2.heap.size w2 W → RegRd W w2.heap.size W.heap.size A2 n Rs → OutRd W w2.heap.size W.heap.size A3 m Ls → Calls Try.prog 21 #[.agg #[.slice A2 n n], .agg #[.slice A3 m m]] W fun e w' => e = .returned (.tuple #[.int .i64 x, .int .i64 y]) ∧ Below w2.heap.size w2 w') := Lib.hid fun W A2 A3 hB h1 h2 => (hspec.out A2 A3 n n m m _ _ _ _ W h1 h2 (Nat.le_refl _) (Nat.le_refl _) hgn hgm hss.out hss'.out).mono fun e w' ⟨he, hb⟩ => ⟨he, hB.trans (hb.mono hB.size)⟩
  clear hspec
  go_upto_region 8 with fail
  go_cut [6, 7] (fun s6 s7 wx => s6 = .int .i64 x ∧ s7 = .int .i64 y ∧ Below w2.heap.size w2 wx)
  case first =>
    go_region_held3 (fun w' => w'.cell? ⟨w.heap.size, 0, none⟩ = some (.slice A n c) ∧ w'.cell? ⟨Q, 0, none⟩ = some (.slice B m c')) (first | (exact hS.out _ (Below.drew (Below.refl _ _))) | (with_reducible exact sF.out) | (with_reducible exact sQ.out)) (first
      | (go_at_call 22; (with_reducible refine (hcA.out _ ?_).mono ?_); (first | exact Below.drew (Below.refl _ _) | exact hbB.out); rintro e wA ⟨A6, rfl, hr6, hbA, hxA⟩; have sQ := Lib.hid (hS.out wA hbA); replace hr6 := Lib.hid hr6; replace hbA := Lib.hid hbA; replace hxA := Lib.hid hxA)
      | (go_at_call 23; (with_reducible refine (hcB.out _ ?_).mono ?_); (first | exact Below.drew (Below.refl _ _) | exact hbA.out); rintro e wB ⟨A7, rfl, hr7, hbB, hxB⟩; have sQ := Lib.hid (hS.out wB hbB); replace hr7 := Lib.hid hr7; replace hbB := Lib.hid hbB; replace hxB := Lib.hid hxB)
      | (go_at_call 21; (with_reducible refine (hcF.out _ _ _ ?_ ?_ ?_).mono ?_); (first | exact hbB.out | exact hbA.out); (first | exact hr6.out | exact (hr6.out.frame good_ring (Below.sameB hxB.out (Nat.le_refl _))).wide good_ring (Nat.le_refl _) hxB.out.size); (first | exact hr7.out | exact (hr7.out.frame good_loop (Below.sameB hxA.out (Nat.le_refl _))).wide good_loop (Nat.le_refl _) hxA.out.size); rintro e wF ⟨rfl, hbF⟩; have sF := Lib.hid (hS.out wF hbF); replace hbF := Lib.hid hbF))
    all_goals
      go_wp2_with fail
      go_meet
      exact ⟨rfl, rfl, hbF.out⟩
  obtain ⟨rfl, rfl, hbc⟩ := hcut
  generalize wc = v at *
  have hzv := hbc.size
  obtain ⟨pv, qv⟩ := hS.out v hbc
  have hplv : w.heap.size < v.heap.size := by omega
  have hqlv : Q < v.heap.size := by omega
  clear p2 q2 hcF
  go_wp2_with fail
  refine (hcA.out v hbc).mono ?_
  rintro e w3 ⟨A2, rfl, hr3, hb3, hx3⟩
  have hz3 := hb3.size
  have hal := Go.Joins.below_alloc1 w3 (.cells #[.slice A2 n n] 63 (0, 0))
  have hX0 := Lib.hid (heap_alloc_new w3 (.cells #[.slice A2 n n] 63 (0, 0)))
  have hza : (w3.alloc (.cells #[.slice A2 n n] 63 (0, 0))).heap.size = w3.heap.size + 1 := by simp
  have hb4 := hb3.trans (hal.mono hz3)
  have hr4 := Lib.hid (hr3.frame good_ring (Below.sameB hal (Nat.le_refl _)))
  clear hr3 hx3 hal hb3 pv qv
  go_upto_region 10 with fail
  generalize w3.alloc (.cells #[.slice A2 n n] 63 (0, 0)) = w4 at *
  obtain ⟨X, hX⟩ : ∃ X, X = w3.heap.size := ⟨_, rfl⟩
  rw [← hX] at hX0 hr4 ⊢
  have hXl : X < w4.heap.size := by omega
  have hXl2 : w2.heap.size ≤ X := by omega
  clear hza hX
  obtain ⟨p4, q4⟩ := hS.out w4 hb4
  have hz4 := hb4.size
  have hpl4 : w.heap.size < w4.heap.size := by omega
  have hql4 : Q < w4.heap.size := by omega
  go_wp2_with fail
  refine (hcB.out w4 hb4).mono ?_
  rintro e w5 ⟨A3, rfl, ho5, hb5, hx5⟩
  have hz5 := hx5.size
  have hX5 := Lib.hid ((hx5.block X hXl).trans hX0.out)
  have hr5 := Lib.hid (hr4.out.frame good_ring (Below.sameB hx5 (by omega)))
  have hal := Go.Joins.below_alloc1 w5 (.cells #[.slice A3 m m] 67 (0, 0))
  have hY0 := Lib.hid (heap_alloc_new w5 (.cells #[.slice A3 m m] 67 (0, 0)))
  have hza : (w5.alloc (.cells #[.slice A3 m m] 67 (0, 0))).heap.size = w5.heap.size + 1 := by simp
  have hb6 := hb5.trans (hal.mono hb5.size)
  have hX6 := Lib.hid ((hal.block X (by omega)).trans hX5.out)
  have hr6 := Lib.hid (hr5.out.frame good_ring (Below.sameB hal (by omega)))
  have ho6 := Lib.hid (ho5.frame good_loop (Below.sameB hal (Nat.le_refl _)))
  clear ho5 hb5 hx5 hal hX5 hr5 hX0 hr4 p4 q4
  go_upto_region 11 with fail
  generalize w5.alloc (.cells #[.slice A3 m m] 67 (0, 0)) = w6 at *
  obtain ⟨Y, hY⟩ : ∃ Y, Y = w5.heap.size := ⟨_, rfl⟩
  rw [← hY] at hY0 ho6 ⊢
  have hYl : Y < w6.heap.size := by omega
  have hXY : X < Y := by omega
  clear hza hY
  have x6 : w6.cell? ⟨X, 0, none⟩ = some (.slice A2 n n) := by rw [Go.Joins.cell_of_block hX6.out]; rfl
  have y6 : w6.cell? ⟨Y, 0, none⟩ = some (.slice A3 m m) := by rw [Go.Joins.cell_of_block hY0.out]; rfl
  have hXl6 : X < w6.heap.size := by omega
  have hz62 := hb6.size
  go_wp2_with fail
  refine (himpl.out A2 A3 n n m m _ _ _ _ w6 hr6.out ho6.out (by omega) (by omega) hgn hgm hss.out hss'.out).mono ?_
  rintro e w7 ⟨rfl, hb7⟩
  have hz7 := hb7.size
  have hb7c := hb6.trans (hb7.mono hz62)
  have hS7 := Lib.hid (fun (W : World) (hB : Below w7.heap.size w7 W) => (show W.cell? ⟨X, 0, none⟩ = some (.slice A2 n n) ∧ W.cell? ⟨Y, 0, none⟩ = some (.slice A3 m m) ∧ W.cell? ⟨w.heap.size, 0, none⟩ = some (.slice A n c) ∧ W.cell? ⟨Q, 0, none⟩ = some (.slice B m c') from ⟨((hb7.trans (hB.mono hz7)).cell (p := ⟨X, 0, none⟩) hXl6).trans x6, ((hb7.trans (hB.mono hz7)).cell (p := ⟨Y, 0, none⟩) hYl).trans y6, hS.out _ (hb7c.trans (hB.mono hb7c.size))⟩))
  have hr7 : Hid (∀ W, Below w7.heap.size w7 W → RegRd W w2.heap.size X A2 n Rs) := Lib.hid fun W hB => hr6.out.frame good_ring (Below.sameB (hb7.trans (hB.mono hz7)) (by omega))
  have ho7 : Hid (∀ W, Below w7.heap.size w7 W → OutRd W w2.heap.size Y A3 m Ls) := Lib.hid fun W hB => ho6.out.frame good_loop (Below.sameB (hb7.trans (hB.mono hz7)) (by omega))
  have hz72 := hb7c.size
  have hcA7 : Hid (∀ W, Below w7.heap.size w7 W → Calls Try.prog 22 #[.agg #[.slice A n c]] W fun e w' => ∃ A', e = .returned (.agg #[.slice A' n n]) ∧ RegRd w' w2.heap.size w'.heap.size A' n Rs ∧ Below w7.heap.size w7 w') := Lib.hid fun W hB => (hcA.out W (hb7c.trans (hB.mono hz72))).mono fun e w' ⟨A', he, h1, h2, h3⟩ => ⟨A', he, h1, hB.trans (h3.mono hB.size)⟩
  have hcB7 : Hid (∀ W, Below w7.heap.size w7 W → Calls Try.prog 23 #[.agg #[.slice B m c']] W fun e w' => ∃ A', e = .returned (.agg #[.slice A' m m]) ∧ OutRd w' w2.heap.size w'.heap.size A' m Ls ∧ Below w7.heap.size w7 w') := Lib.hid fun W hB => (hcB.out W (hb7c.trans (hB.mono hz72))).mono fun e w' ⟨A', he, h1, h2, h3⟩ => ⟨A', he, h1, hB.trans (h3.mono hB.size)⟩
  have hE7 : Hid (∀ W A', Below w7.heap.size w7 W → RegRd W w2.heap.size W.heap.size A' n Rs → Calls Try.prog 25 #[.agg #[.slice A2 n n], .agg #[.slice A' n n]] W fun e w' => e = .returned (.bool true) ∧ Below w7.heap.size w7 w') := Lib.hid fun W A' hB h => (eqRegion_any A2 A' n n n n _ _ _ _ Rs W (hr7.out W hB) h (by have := hB.size; omega) (Nat.le_refl _) (by omega) (fun K hK => by have := hss.out K hK; omega)).mono fun e w' ⟨he, hb⟩ => ⟨he, hB.trans (hb.mono hB.size)⟩
  have hF7 : Hid (∀ W A', Below w7.heap.size w7 W → OutRd W w2.heap.size W.heap.size A' m Ls → Calls Try.prog 26 #[.agg #[.slice A3 m m], .agg #[.slice A' m m]] W fun e w' => e = .returned (.bool true) ∧ Below w7.heap.size w7 w') := Lib.hid fun W A' hB h => (eqOutline_any A3 A' m m m m _ _ _ _ Ls W (ho7.out W hB) h (by have := hB.size; omega) (Nat.le_refl _) (by omega) (fun K hK => by have := hss'.out K hK; omega)).mono fun e w' ⟨he, hb⟩ => ⟨he, hB.trans (hb.mono hB.size)⟩
  have hBfin := Lib.hid (hB0.trans (hb02.mono hzw))
  have hz2w : w.heap.size ≤ w2.heap.size := by omega
  clear x6 y6 hcA hcB hS
  go_upto_region 14 with fail
  go_region_held3 (fun w' => w'.cell? ⟨X, 0, none⟩ = some (.slice A2 n n) ∧ w'.cell? ⟨Y, 0, none⟩ = some (.slice A3 m m) ∧ w'.cell? ⟨w.heap.size, 0, none⟩ = some (.slice A n c) ∧ w'.cell? ⟨Q, 0, none⟩ = some (.slice B m c')) (first | (exact hS7.out _ (Below.drew (Below.refl _ _))) | (with_reducible exact s9.out) | (with_reducible exact s8.out)) (first
      | (go_at_call 22; (with_reducible refine (hcA7.out _ ?_).mono ?_); (exact Below.drew (Below.refl _ _)); rintro e w8 ⟨A8, rfl, hr8, hb8⟩; have s8 := Lib.hid (hS7.out w8 hb8); replace hr8 := Lib.hid hr8; replace hb8 := Lib.hid hb8)
      | (go_at_call 25; (with_reducible refine (hE7.out _ _ hb8.out hr8.out).mono ?_); rintro e w9 ⟨rfl, hb9⟩; have s9 := Lib.hid (hS7.out w9 hb9); replace hb9 := Lib.hid hb9))
  have hz9 := hb9.out.size
  clear s8 s9 hr8 hb8 hcA7 hE7
  go_upto_region 16 with fail
  have hN := Lib.hid (fun (W : World) (hB : Below w9.heap.size w9 W) => hb9.out.trans (hB.mono hz9))
  go_region_held3 (fun w' => w'.cell? ⟨X, 0, none⟩ = some (.slice A2 n n) ∧ w'.cell? ⟨Y, 0, none⟩ = some (.slice A3 m m) ∧ w'.cell? ⟨w.heap.size, 0, none⟩ = some (.slice A n c) ∧ w'.cell? ⟨Q, 0, none⟩ = some (.slice B m c')) (first | (exact hS7.out _ (hN.out _ (Below.drew (Below.refl _ _)))) | (with_reducible exact s11.out) | (with_reducible exact s10.out)) (first
      | (go_at_call 23; (with_reducible refine (hcB7.out _ ?_).mono ?_); (exact hN.out _ (Below.drew (Below.refl _ _))); rintro e w10 ⟨A8, rfl, hr8, hb10⟩; have s10 := Lib.hid (hS7.out w10 hb10); replace hr8 := Lib.hid hr8; replace hb10 := Lib.hid hb10)
      | (go_at_call 26; (with_reducible refine (hF7.out _ _ hb10.out hr8.out).mono ?_); rintro e w11 ⟨rfl, hb11⟩; have s11 := Lib.hid (hS7.out w11 hb11); replace hb11 := Lib.hid hb11))
  go_wp2_with fail
  go_ret
  exact ⟨rfl, hBfin.out.trans ((hb7c.trans (hb11.out.mono hz72)).mono hz2w)⟩
end Go.Proofs.Ytgelkdcggnffeaa

/- A state of the hint machine that came in, opened. No walk in sight. Conditions: none. -/
namespace Go.Proofs.Ytgelkdcggnffeaa
open Go.RowKit Go.ChangeShapes Go.WideShapes Go.Deep
set_option linter.unusedVariables false
set_option maxRecDepth 100000

theorem opens_lPt : Opens Try.prog 197 (FlatR ptC) := by
  intro H enc w fuel cs x h
  obtain ⟨hl, hf⟩ := struct_fields Try.underlying197 h
  have hc : Try.prog.cellsOf 197 = 2 := by kernel_rfl
  have hi : Try.prog.cellsOf 2 = 1 := by kernel_rfl
  rw [hc] at hl
  match cs, hl with
  | [c0, c1], _ =>
    obtain ⟨n0, y0, h0⟩ := struct_field hf 0 2 0 1 rfl rfl rfl hi
    obtain ⟨n1, y1, h1⟩ := struct_field hf 1 2 1 1 rfl rfl rfl hi
    obtain ⟨x0, e0⟩ := opens_int Try.underlying2 h0
    obtain ⟨x1, e1⟩ := opens_int Try.underlying2 h1
    simp [FlatR] at e0 e1
    subst e0 e1
    exact ⟨(x0, x1), rfl⟩

end Go.Proofs.Ytgelkdcggnffeaa

/- A ring and a region that came in, opened. No walk in sight. Conditions: none. -/
namespace Go.Proofs.Ytgelkdcggnffeaa
open Go.RowKit Go.ChangeShapes Go.WideShapes Go.Deep
set_option linter.unusedVariables false
set_option maxRecDepth 100000

theorem opens_lRing : Opens Try.prog 135 ringR := by
  have hk : Try.prog.cellsOf 197 = 2 := by kernel_rfl
  intro H enc w fuel cs x h
  exact opens_struct1 (k := 1) Try.underlying135 (by kernel_rfl) (opens_slice Try.underlying133 hk (by omega) opens_lPt (good_flat _)) h
theorem opens_Region {H : Type} {enc : TypeId × Value → H} {w : World} {fuel : Nat} {cs : List Value} {x : DataW H × List MemPlace} (h : DataW.trod enc Try.prog w 0 (fun _ => true) true fuel 53 cs = some x) :
    ∃ A n c Rs, cs = [.slice A n c] ∧ RegRd w 0 w.heap.size A n Rs ∧ n ≤ maxLen := by
  have hk : Try.prog.cellsOf 135 = 1 := by kernel_rfl
  obtain ⟨Ls, A, n, c, h1, h2, h3⟩ := opens_struct1 (k := 1) Try.underlying53 (by kernel_rfl) (opens_slice Try.underlying51 hk (by omega) opens_lRing good_ring) h
  exact ⟨A, n, c, Ls, h1, h3, h2⟩
end Go.Proofs.Ytgelkdcggnffeaa

