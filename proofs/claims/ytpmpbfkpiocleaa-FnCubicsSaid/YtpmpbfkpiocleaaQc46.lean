/- The law FnCubics, walked. Conditions: as each states. -/
import Derived.BigQuiet
import Derived.StillTailTactics
import Derived.Lib.QuietBelow
import Derived.Test.YtpmpbfkpiocleaaQc36
import Derived.Test.YtpmpbfkpiocleaaQc45
import Derived.Test.YtpmpbfkpiocleaaQc12
namespace Go.Proofs.Ytpmpbfkpiocleaa
open Go.RowKit
set_option linter.unusedVariables false
set_option maxRecDepth 100000

theorem specDiv_pos (n d : Int) (w : World) (hd : 0 < d) (hd2 : d ≤ 4611686018427387904) (h1 : -4611686018427387904 ≤ n) (h2 : n ≤ 4611686018427387904) :
    Calls Try.prog 10 #[.int .i64 n, .int .i64 d] w fun e w' => e = .returned (.int .i64 (rnd n d)) ∧ Below w.heap.size w w' := by
  have hc := Lib.hid (l03Round_any n d w hd hd2 h1 h2)
  have hdn : ¬ d ≤ 0 := by omega
  go_enter Try.func10, Try.ntmps10
  go_wp2_with fail
  refine hc.out.mono ?_
  rintro e w' ⟨rfl, rfl⟩
  go_wp2_with fail
  go_ret
  exact ⟨rfl, Below.refl _ _⟩
/-- what the law says of the halves: a code 2, or halves that meet -/
def HalfOk (q : Cb) (e : Ending) : Prop := e = .returned (.tuple #[cbV ⟨0, 0, 0, 0, 0, 0, 0, 0⟩, cbV ⟨0, 0, 0, 0, 0, 0, 0, 0⟩, .int .i64 2]) ∨
  ∃ o1 o2 o3 o4 o5 t2 t3 t4 t5 t6 mx my : Int, e = .returned (.tuple #[.agg #[.int .i64 (8 * q.ax), .int .i64 o1, .int .i64 o2, .int .i64 o3, .int .i64 o4, .int .i64 o5, .int .i64 mx, .int .i64 my], .agg #[.int .i64 mx, .int .i64 my, .int .i64 t2, .int .i64 t3, .int .i64 t4, .int .i64 t5, .int .i64 t6, .int .i64 (8 * q.dy)], .int .i64 0]) ∧ rnd mx 8 = (cAt q 1 2).1 ∧ rnd my 8 = (cAt q 1 2).2 ∧ (-4000000 ≤ mx ∧ mx ≤ 4000000) ∧ (-4000000 ≤ my ∧ my ≤ 4000000)
theorem halves_law (q : Cb) (hq : q.ok) (w : World) : Calls Try.prog 9 #[cbV q] w fun e w' => HalfOk q e ∧ Below w.heap.size w w' := by
  refine (halves_any q hq w).mono ?_
  rintro e w' ⟨h, hb⟩
  refine ⟨?_, hb⟩
  rcases h with rfl | rfl
  · exact .inl rfl
  · refine .inr ⟨(oneC q).ay, (oneC q).bx, (oneC q).b, (oneC q).cx, (oneC q).cy, (twoC q).bx, (twoC q).b, (twoC q).cx, (twoC q).cy, (twoC q).dx, dot4 q.ax q.bx q.cx q.dx 1 3 3 1, dot4 q.ay q.b q.cy q.dy 1 3 3 1, ?_, ?_, ?_, ?_, ?_⟩
    · have e1 : 8 * q.ax = dot4 q.ax q.bx q.cx q.dx 8 0 0 0 := by unfold dot4; omega
      have e2 : 8 * q.dy = dot4 q.ay q.b q.cy q.dy 0 0 0 8 := by unfold dot4; omega
      rw [e1, e2]
      rfl
    · unfold cAt mixC numC dot4
      congr 1
      omega
    · unfold cAt mixC numC dot4
      congr 1
      omega
    · obtain ⟨h1, h2, h3, h4⟩ := hq
      obtain ⟨a1, a2⟩ := ptOk_iff.1 h1
      obtain ⟨b1, b2⟩ := ptOk_iff.1 h2
      obtain ⟨c1, c2⟩ := ptOk_iff.1 h3
      obtain ⟨d1, d2⟩ := ptOk_iff.1 h4
      unfold dot4; omega
    · obtain ⟨h1, h2, h3, h4⟩ := hq
      obtain ⟨a1, a2⟩ := ptOk_iff.1 h1
      obtain ⟨b1, b2⟩ := ptOk_iff.1 h2
      obtain ⟨c1, c2⟩ := ptOk_iff.1 h3
      obtain ⟨d1, d2⟩ := ptOk_iff.1 h4
      unfold dot4; omega

set_option maxHeartbeats 16000000 in
theorem lawCubics_walk (A : Option Addr) (n c : Nat) (L : List Int) {w : World} (hr : RdS 1 u8R w 0 w.heap.size A n L) (hm : n ≤ maxLen) :
    Calls Try.prog 3 #[.slice A n c] w fun e w' => e = .returned (.bool true) ∧ Below w.heap.size w w' := by
  unfold maxLen at hm
  by_cases hn : 1048576 < n
  · have hni : (1048576 : Int) < (n : Int) := by omega
    clear hr
    go_enter Try.func3, Try.ntmps3
    go_wp2_with fail
    go_ret
    exact ⟨rfl, Below.refl _ _⟩
  have hni : ¬ (1048576 : Int) < (n : Int) := by omega
  have hc0 := Lib.hid (E8Cubic_any A n c 0 w.heap.size L w hr (Nat.le_refl _) (by omega))
  have hat0 := Lib.hid (fun (W : World) (hb : Below w.heap.size w W) => e8At_any A n c 0 w.heap.size L 0 7 W (hr.frame good_u8 (Below.sameB hb (Nat.le_refl _))) (by omega) (by omega) (by omega) (by omega))
  have hat1 := Lib.hid (fun (m : Int) (h1 : 1 < m) (h2 : m ≤ 1000) (W : World) (hb : Below w.heap.size w W) => e8At_any A n c 0 w.heap.size L 1 m W (hr.frame good_u8 (Below.sameB hb (Nat.le_refl _))) (by omega) (by omega) h1 (by omega))
  clear hr hm
  go_enter Try.func3, Try.ntmps3
  go_wp2_with fail
  refine hc0.out.mono ?_
  rintro e w1 ⟨q, T, rfl, hq, hT0, hT1, hb1⟩
  have hal := Go.Joins.below_alloc1 w1 (.cells #[.int .i64 q.ax, .int .i64 q.ay, .int .i64 q.bx, .int .i64 q.b, .int .i64 q.cx, .int .i64 q.cy, .int .i64 q.dx, .int .i64 q.dy] 26 (0, 0))
  have hC0 := heap_alloc_new w1 (.cells #[.int .i64 q.ax, .int .i64 q.ay, .int .i64 q.bx, .int .i64 q.b, .int .i64 q.cx, .int .i64 q.cy, .int .i64 q.dx, .int .i64 q.dy] 26 (0, 0))
  have hz2 : (w1.alloc (.cells #[.int .i64 q.ax, .int .i64 q.ay, .int .i64 q.bx, .int .i64 q.b, .int .i64 q.cx, .int .i64 q.cy, .int .i64 q.dx, .int .i64 q.dy] 26 (0, 0))).heap.size = w1.heap.size + 1 := by simp
  have hB2 := hb1.trans (hal.mono hb1.size)
  have hrev := Lib.hid (fun W => revCubic_any q W)
  have hat := Lib.hid (fun (k : Int) (l n : Nat) hl hn h0 hk W => CubicAt_any q hq k l n hl hn h0 hk W)
  have hatr := Lib.hid (fun (k : Int) (l n : Nat) hl hn h0 hk W => CubicAt_any ⟨q.dx, q.dy, q.cx, q.cy, q.bx, q.b, q.ax, q.ay⟩ (Cb.ok_rev hq) k l n hl hn h0 hk W)
  have hhv := Lib.hid (fun W => halves_law q hq W)
  have hfl := Lib.hid (fun W => FlattenCubic_any q hq T hT0 (by omega) W)
  have hbd := Lib.hid (fun W => cubicBounds_any q hq W)
  have hrv := Lib.hid (cAt_rev q)
  have hin := Lib.hid (fun a b c d k n (h : BoxF q.pts 4 a b c d) h0 hk hn => bounds_in (q := q) h (k := k) (n := n) h0 hk hn)
  have hnr := Lib.hid (fun l (h : lvt (3 * bendC q) T = some l) (k n : Nat) hk hn => flat_near hq h hT0 (by omega) (k := k) (n := n) hk hn)
  have hst := Lib.hid (fun n (h : (0 : Int) < n) => cAt_start q h)
  have hen := Lib.hid (fun n (h : (0 : Int) < n) => cAt_end q h)
  have hsm : (-262144 ≤ q.ax ∧ q.ax ≤ 262144) ∧ -262144 ≤ q.dy ∧ q.dy ≤ 262144 := ⟨(ptOk_iff.1 hq.1).1, (ptOk_iff.1 hq.2.2.2).2⟩
  have hok := Lib.hid (fun k n (h0 : 0 ≤ k) (hk : k ≤ n) hn => cAt_ok hq (k := k) (n := n) h0 hk hn)
  obtain ⟨F, hF⟩ : ∃ F : Nat → List (Int × Int), F = fun m => flatC q m := ⟨_, rfl⟩
  have hF2 : ∀ m, flatC q m = F m := fun m => by rw [hF]
  have hFl : Hid (∀ m, (F m).length = m + 1) := Lib.hid fun m => by rw [hF]; exact flatC_len q m
  have hFa : Hid (∀ m k, k ≤ m → ptAt (F m) k = cAt q (k : Int) (m : Int)) := Lib.hid fun m k h => by rw [hF]; exact ptAt_eq (flatC_at q h)
  simp only [FlatCT, hF2] at hfl hnr
  clear hF hF2
  obtain ⟨G, hG⟩ : ∃ G : Int → Int → Int × Int, G = fun k n => cAt q k n := ⟨_, rfl⟩
  have hG2 : ∀ k n, cAt q k n = G k n := fun k n => by rw [hG]
  simp only [HalfOk] at hhv
  simp only [hG2] at hat hhv hrv hin hnr hst hen hok hFa
  clear hG hG2
  obtain ⟨B3, hB3⟩ : ∃ B, B = 3 * bendC q := ⟨_, rfl⟩
  obtain ⟨PT, hPT⟩ : ∃ B, B = q.pts := ⟨_, rfl⟩
  simp only [← hB3] at hfl hnr
  simp only [← hPT] at hbd hin
  clear hB3 hPT hq
  obtain ⟨ax, ay, ex, ey, cx, cy, dx, dy⟩ := q
  simp only [cbV] at hal hC0 hz2 hB2 hrev hat hatr hhv hfl hbd hst hen hsm hrv ⊢
  go_upto_region 4 with fail
  generalize (w1.alloc (.cells #[.int .i64 ax, .int .i64 ay, .int .i64 ex, .int .i64 ey, .int .i64 cx, .int .i64 cy, .int .i64 dx, .int .i64 dy] 26 (0, 0))) = w2 at *
  obtain ⟨C, hCe⟩ : ∃ C, C = w1.heap.size := ⟨_, rfl⟩
  rw [← hCe] at hC0 hz2 ⊢
  have hC : Hid (∀ W, Below w2.heap.size w2 W → CB W C ax ay ex ey cx cy dx dy) := Lib.hid fun W hW => CB.below (w := w2) hC0 hW
  have hCl : C < w2.heap.size := by omega
  clear hC0 hCe hz2 hal hb1
  have hB2s := hB2.size
  replace hB2 := Lib.hid hB2
  go_wp2_with fail
  refine (hat0.out w2 hB2.out).mono ?_
  rintro e w' ⟨l0, rfl, hl0, hl7, rfl⟩
  obtain ⟨l, rfl⟩ : ∃ l : Nat, l0 = l := ⟨l0.toNat, by omega⟩
  have hl : l < 7 := by omega
  obtain ⟨N, hN⟩ : ∃ N, N = 2 ^ l := ⟨_, rfl⟩
  have hsh := shl_lvl hl hN
  obtain ⟨hN1, hN64⟩ := pow_lvl hl hN
  replace hN := Lib.hid hN
  clear hl0 hl7
  go_upto_region 6 with fail
  rw [hsh]
  clear hsh
  have hq1 : IntKind.i64.wrap ((N : Int) + 1) = (N : Int) + 1 := wi (by omega)
  go_wp2_with fail
  refine (hat1.out ((N : Int) + 1) (by omega) (by omega) w2 hB2.out).mono ?_
  rintro e w' ⟨k0, rfl, hk0, hkN, rfl⟩
  obtain ⟨k, rfl⟩ : ∃ k : Nat, k0 = k := ⟨k0.toNat, by omega⟩
  have hk : k ≤ N := by omega
  have hp := Lib.hid (fun W => hat.out k l N hl hN.out (by omega) (by omega) W)
  have hpr := Lib.hid (fun W => hatr.out ((N : Int) - k) l N hl hN.out (by omega) (by omega) W)
  simp only [hrv.out] at hpr
  obtain ⟨⟨X, Y⟩, hXY⟩ : ∃ p, p = G k N := ⟨_, rfl⟩
  rw [← hXY] at hp hpr
  simp only at hp hpr
  clear hk0 hkN hq1 hat0 hat1 hatr hrv
  obtain ⟨⟨c0, c1, c2, c3, c4, c5, c6, c7⟩, _, cl⟩ := (hC.out w2 (Below.refl _ _)).cells
  go_wp2_with fail
  refine (hp.out w2).mono ?_
  rintro e w3 ⟨rfl, hb3⟩
  clear c0 c1 c2 c3 c4 c5 c6 c7 cl
  have hP := heap_alloc_new w3 (.cells #[.int .i64 X, .int .i64 Y] 24 (0, 0))
  have hb4 := hb3.trans ((Go.Joins.below_alloc1 w3 (.cells #[.int .i64 X, .int .i64 Y] 24 (0, 0))).mono hb3.size)
  have hz4 : (w3.alloc (.cells #[.int .i64 X, .int .i64 Y] 24 (0, 0))).heap.size = w3.heap.size + 1 := by simp
  have hz3 := hb3.size
  go_upto_region 8 with fail
  generalize (w3.alloc (.cells #[.int .i64 X, .int .i64 Y] 24 (0, 0))) = w4 at *
  obtain ⟨bp, hbp⟩ : ∃ b, b = w3.heap.size := ⟨_, rfl⟩
  rw [← hbp] at hP hz4 ⊢
  have hPl : bp < w4.heap.size := by omega
  have hz4' := hb4.size
  have hpB : Hid (∀ W, Below w4.heap.size w4 W → PB W bp X Y) := Lib.hid fun W hW => PB.below (w := w4) hP hW
  have hB4 : Hid (Below w2.heap.size w2 w4) := Lib.hid hb4
  clear hP hz4 hz3 hbp hb3 hb4 hp
  obtain ⟨⟨c0, c1, c2, c3, c4, c5, c6, c7⟩, _, cl⟩ := (hC.out w4 hB4.out).cells
  have q1 : IntKind.i64.wrap ((N : Int) - k) = (N : Int) - k := wi (by omega)
  go_wp2_with fail
  refine (hrev.out w4).mono ?_
  rintro e w5 ⟨rfl, hb5⟩
  clear c0 c1 c2 c3 c4 c5 c6 c7 cl
  have hz5 := hb5.size
  go_wp2_with fail
  refine (hpr.out w5).mono ?_
  rintro e w6 ⟨rfl, hb6⟩
  have hb46 := hb5.trans (hb6.mono hz5)
  have hQ := heap_alloc_new w6 (.cells #[.int .i64 X, .int .i64 Y] 24 (0, 0))
  have hb7 := hb46.trans ((Go.Joins.below_alloc1 w6 (.cells #[.int .i64 X, .int .i64 Y] 24 (0, 0))).mono hb46.size)
  have hz7 : (w6.alloc (.cells #[.int .i64 X, .int .i64 Y] 24 (0, 0))).heap.size = w6.heap.size + 1 := by simp
  have hz6 := hb46.size
  go_upto_region 9 with fail
  generalize (w6.alloc (.cells #[.int .i64 X, .int .i64 Y] 24 (0, 0))) = w7 at *
  obtain ⟨bq, hbq⟩ : ∃ b, b = w6.heap.size := ⟨_, rfl⟩
  rw [← hbq] at hQ hz7 ⊢
  have hQl : bq < w7.heap.size := by omega
  have hPl7 : bp < w7.heap.size := by omega
  have hz7' := hb7.size
  have hQ7 : PB w7 bq X Y := hQ
  have hP7 := hpB.out w7 hb7
  obtain ⟨p0, p1, _, _⟩ := hP7.cells
  obtain ⟨s0, s1, _, _⟩ := hQ7.cells
  have hB7 : Hid (Below w4.heap.size w4 w7) := Lib.hid hb7
  have hB27 : Hid (Below w2.heap.size w2 w7) := Lib.hid (hB4.out.trans (hb7.mono hz4'))
  clear hQ hz7 hz6 hbq hb5 hb6 hb46 hb7 hpr hrev q1 hQ7 hP7
  -- region 11
  obtain ⟨⟨c0, c1, c2, c3, c4, c5, c6, c7⟩, _, cl⟩ := (hC.out w7 hB27.out).cells
  go_wp2_with fail
  refine (hhv.out w7).mono ?_
  rintro e w8 ⟨hh, hb8⟩
  clear c0 c1 c2 c3 c4 c5 c6 c7 cl
  clear p0 p1 s0 s1
  have hz8 := hb8.size
  have hB28 : Hid (Below w2.heap.size w2 w8) := Lib.hid (hB27.out.trans (hb8.mono (by omega)))
  have hB48 : Hid (Below w4.heap.size w4 w8) := Lib.hid (hB7.out.trans (hb8.mono (by omega)))
  clear hhv hb8
  rcases hh with rfl | ⟨o1, o2, o3, o4, o5, t2, t3, t4, t5, t6, mx, my, rfl, hmx, hmy, hmb, hmc⟩
  · have hb9 := Go.Joins.below_alloc2 w8 (.cells #[.int .i64 0, .int .i64 0, .int .i64 0, .int .i64 0, .int .i64 0, .int .i64 0, .int .i64 0, .int .i64 0] 26 (0, 0)) (.cells #[.int .i64 0, .int .i64 0, .int .i64 0, .int .i64 0, .int .i64 0, .int .i64 0, .int .i64 0, .int .i64 0] 26 (0, 0))
    have hO9 := heap_new2 w8 (.cells #[.int .i64 0, .int .i64 0, .int .i64 0, .int .i64 0, .int .i64 0, .int .i64 0, .int .i64 0, .int .i64 0] 26 (0, 0)) (.cells #[.int .i64 0, .int .i64 0, .int .i64 0, .int .i64 0, .int .i64 0, .int .i64 0, .int .i64 0, .int .i64 0] 26 (0, 0))
    have hz9 : ((w8.alloc (.cells #[.int .i64 0, .int .i64 0, .int .i64 0, .int .i64 0, .int .i64 0, .int .i64 0, .int .i64 0, .int .i64 0] 26 (0, 0))).alloc (.cells #[.int .i64 0, .int .i64 0, .int .i64 0, .int .i64 0, .int .i64 0, .int .i64 0, .int .i64 0, .int .i64 0] 26 (0, 0))).heap.size = w8.heap.size + 2 := by simp
    go_upto_region 12 with fail
    generalize ((w8.alloc (.cells #[.int .i64 0, .int .i64 0, .int .i64 0, .int .i64 0, .int .i64 0, .int .i64 0, .int .i64 0, .int .i64 0] 26 (0, 0))).alloc (.cells #[.int .i64 0, .int .i64 0, .int .i64 0, .int .i64 0, .int .i64 0, .int .i64 0, .int .i64 0, .int .i64 0] 26 (0, 0))) = w9 at *
    obtain ⟨bo, hbo⟩ : ∃ b, b = w8.heap.size := ⟨_, rfl⟩
    obtain ⟨bt, hbt⟩ : ∃ b, b = bo + 1 := ⟨_, rfl⟩
    rw [← hbo] at hO9 hz9 ⊢
    rw [← hbt] at hO9 ⊢
    have hol : bo < w9.heap.size ∧ bt < w9.heap.size := by omega
    have hB29 : Hid (Below w2.heap.size w2 w9) := Lib.hid (hB28.out.trans (hb9.mono (by omega)))
    have hB49 : Hid (Below w4.heap.size w4 w9) := Lib.hid (hB48.out.trans (hb9.mono (by omega)))
    have hs29 := hB29.out.size
    have hs49 := hB49.out.size
    have hOo : Hid (w9.heap[bo]? = some (.cells #[.int .i64 0, .int .i64 0, .int .i64 0, .int .i64 0, .int .i64 0, .int .i64 0, .int .i64 0, .int .i64 0] 26 (0, 0))) := Lib.hid hO9.1
    have hOt : Hid (w9.heap[bt]? = some (.cells #[.int .i64 0, .int .i64 0, .int .i64 0, .int .i64 0, .int .i64 0, .int .i64 0, .int .i64 0, .int .i64 0] 26 (0, 0))) := Lib.hid hO9.2
    have hm := hat.out 1 1 2 (by omega) (by decide) (by omega) (by omega)
    rw [show ((2 : Nat) : Int) = 2 from rfl, show ((1 : Nat) : Int) = 1 from rfl] at hm
    obtain ⟨⟨U, V⟩, hUV⟩ : ∃ p, p = G 1 2 := ⟨_, rfl⟩
    rw [← hUV] at hm
    simp only at hm
    replace hm := Lib.hid hm
    clear hO9 hbo hbt hz9 hb9 hUV
    obtain ⟨⟨c0, c1, c2, c3, c4, c5, c6, c7⟩, _, cl⟩ := (hC.out w9 hB29.out).cells
    go_wp2_with fail
    refine (hm.out w9).mono ?_
    rintro e w10 ⟨rfl, hb10⟩
    clear c0 c1 c2 c3 c4 c5 c6 c7 cl
    have hz10 := hb10.size
    have hb11 := hb10.trans ((Go.Joins.below_alloc1 w10 (.cells #[.int .i64 U, .int .i64 V] 24 (0, 0))).mono hz10)
    have hM11 := heap_alloc_new w10 (.cells #[.int .i64 U, .int .i64 V] 24 (0, 0))
    have hz11 : (w10.alloc (.cells #[.int .i64 U, .int .i64 V] 24 (0, 0))).heap.size = w10.heap.size + 1 := by simp
    go_upto_region 13 with fail
    generalize (w10.alloc (.cells #[.int .i64 U, .int .i64 V] 24 (0, 0))) = w11 at *
    obtain ⟨bm, hbm⟩ : ∃ b, b = w10.heap.size := ⟨_, rfl⟩
    rw [← hbm] at hM11 hz11 ⊢
    have hM : PB w11 bm U V := hM11
    have hz11' := hb11.size
    have hB2b : Hid (Below w2.heap.size w2 w11) := Lib.hid (hB29.out.trans (hb11.mono (by omega)))
    have hB4b : Hid (Below w4.heap.size w4 w11) := Lib.hid (hB49.out.trans (hb11.mono (by omega)))
    have hOo11 := Lib.hid ((hb11.block bo hol.1).trans hOo.out)
    have hOt11 := Lib.hid ((hb11.block bt hol.2).trans hOt.out)
    clear hM11 hz11 hbm hb10 hb11 hm hOo hOt
    refine wp_region_quiet_below (by kernel_rfl) (by kernel_rfl) ?_
    repeat (go_big_quiet_step (fail))
    refine wpQuiet_nil ?_
    intro _ hw'
    obtain ⟨⟨dq, osq⟩, hw''⟩ := hw'
    subst hw''
    have hb12 := below_regrown w11 dq osq
    generalize Go.Sort.grow (redrawn w11 dq) osq = w12 at hb12 ⊢
    have hz12 := hb12.size
    have hB2c : Hid (Below w2.heap.size w2 w12) := Lib.hid (hB2b.out.trans (hb12.mono (by omega)))
    have hB4c : Hid (Below w4.heap.size w4 w12) := Lib.hid (hB4b.out.trans (hb12.mono (by omega)))
    clear hb12 hOo11 hOt11 hM
    obtain ⟨⟨c0, c1, c2, c3, c4, c5, c6, c7⟩, _, cl⟩ := (hC.out w12 hB2c.out).cells
    go_wp2_with fail
    refine (hfl.out w12).mono ?_
    rintro e w13 ⟨hF, hb13⟩
    clear c0 c1 c2 c3 c4 c5 c6 c7 cl
    have hz13 := hb13.size
    have hs2c := hB2c.out.size
    have hs4c := hB4c.out.size
    have hB2d : Hid (Below w2.heap.size w2 w13) := Lib.hid (hB2c.out.trans (hb13.mono (by omega)))
    have hB4d : Hid (Below w4.heap.size w4 w13) := Lib.hid (hB4c.out.trans (hb13.mono (by omega)))
    clear hb13
    rcases hF with ⟨hno, rfl⟩ | ⟨l1, FA, fc, hsome, rfl, hFr⟩
    · clear hno
      go_wp2_with fail
      go_ret
      exact ⟨rfl, hB2.out.trans (hB2d.out.mono (by omega))⟩
    obtain ⟨m, hm⟩ : ∃ m, m = 2 ^ l1 := ⟨_, rfl⟩
    have hm1 : 1 ≤ m ∧ m ≤ 64 := pow_lvl (lvt_is hsome).1 hm
    have hnear := Lib.hid (hnr.out l1 hsome k N hk (by omega))
    rw [← hm] at hFr hnear ⊢
    rw [← hXY] at hnear
    clear hsome hm
    obtain ⟨n1, hn1⟩ : ∃ n1, n1 = m + 1 := ⟨_, rfl⟩
    rw [← hn1] at hFr ⊢
    have hn2 : n1 ≤ m + 1 ∧ m + 1 ≤ n1 := by omega
    clear hn1
    have hFr' := Lib.hid hFr
    obtain ⟨g, og, rfl, hgl, hgh, hgs⟩ := hFr.pts (by omega)
    obtain ⟨x0, x1⟩ := hgs 0 (by omega)
    obtain ⟨y0, y1⟩ := hgs m (by omega)
    rw [hFa.out m 0 (by omega), show ((0 : Nat) : Int) = 0 from rfl, hst.out m (by omega)] at x0 x1
    rw [hFa.out m m (by omega), hen.out m (by omega)] at y0 y1
    simp only [Nat.zero_mul, Nat.add_zero] at x0 x1
    simp only at y0 y1
    clear hgs hFr
    go_upto_region 18 with fail
    have z1 : decide ((n1 : Int) < 2) = false := by simp; omega
    have z2 : IntKind.i64.wrap ((n1 : Int) - 1) = (m : Int) := by rw [wi (by omega)]; omega
    have z3 : (0 : Int) ≤ (m : Int) ∧ (m : Int) < (n1 : Int) := by omega
    have z4 : (0 : Int) < (n1 : Int) ∧ 0 < n1 := by omega
    have z5 : g < w13.heap.size := hgh
    obtain ⟨⟨c0, c1, c2, c3, c4, c5, c6, c7⟩, _, cl⟩ := (hC.out w13 hB2d.out).cells
    go_big_quiet (fail)
    go_wp2_with fail
    have hb14 : Below w13.heap.size w13 (w13.drewN nq) := ⟨rfl, rfl, rfl, Nat.le_refl _, fun _ _ => rfl⟩
    generalize w13.drewN nq = w14 at *
    refine (hbd.out w14).mono ?_
    rintro e w15 ⟨lx, ly, hx, hy, rfl, hbox, hb15⟩
    clear c0 c1 c2 c3 c4 c5 c6 c7 cl x0 x1 y0 y1 z1 z2 z3 z5
    have hi := hin.out lx ly hx hy k N hbox (by omega) (by omega) (by omega)
    rw [← hXY] at hi
    obtain ⟨i1, i2, i3, i4⟩ := hi
    simp only at i1 i2 i3 i4
    have hz14 := hb14.size
    have hz15 := hb15.size
    have hb16 := (hb14.trans (hb15.mono hz14)).trans ((Go.Joins.below_alloc2 w15 (.cells #[.int .i64 lx, .int .i64 ly] 24 (0, 0)) (.cells #[.int .i64 hx, .int .i64 hy] 24 (0, 0))).mono (by omega))
    have hB4e := hB4d.out.trans ((hb14.trans (hb15.mono hz14)).mono (by have := hB4d.out.size; omega))
    obtain ⟨p0, p1, _, pl⟩ := (hpB.out w15 hB4e).cells
    have q3 : IntKind.i64.wrap (T + 2) = T + 2 := wi (by omega)
    have hnp := Lib.hid (specNearPath_any (some ⟨g, og, none⟩) n1 fc _ _ _ X Y (T + 2) true hnear.out.symm _ (hFr'.out.frame (good_flat _) (Below.sameB hb16 (Nat.le_refl _))) hb16.size (by omega))
    have hBf := Lib.hid (hB2.out.trans ((hB2d.out.trans (hb16.mono (by have := hB2d.out.size; omega))).mono (by omega)))
    clear hbox hb14 hb15 hb16 hB4e hnear hFr'
    go_wp2_with fail
    refine hnp.out.mono ?_
    rintro e w17 ⟨rfl, hb17⟩
    have hBg := Lib.hid (hBf.out.trans (hb17.mono hBf.out.size))
    clear hb17 hnp
    go_wp2_with fail
    go_ret
    exact ⟨rfl, hBg.out⟩
  · have hb9 := Go.Joins.below_alloc2 w8 (.cells #[.int .i64 (8 * ax), .int .i64 o1, .int .i64 o2, .int .i64 o3, .int .i64 o4, .int .i64 o5, .int .i64 mx, .int .i64 my] 26 (0, 0)) (.cells #[.int .i64 mx, .int .i64 my, .int .i64 t2, .int .i64 t3, .int .i64 t4, .int .i64 t5, .int .i64 t6, .int .i64 (8 * dy)] 26 (0, 0))
    have hO9 := heap_new2 w8 (.cells #[.int .i64 (8 * ax), .int .i64 o1, .int .i64 o2, .int .i64 o3, .int .i64 o4, .int .i64 o5, .int .i64 mx, .int .i64 my] 26 (0, 0)) (.cells #[.int .i64 mx, .int .i64 my, .int .i64 t2, .int .i64 t3, .int .i64 t4, .int .i64 t5, .int .i64 t6, .int .i64 (8 * dy)] 26 (0, 0))
    have hz9 : ((w8.alloc (.cells #[.int .i64 (8 * ax), .int .i64 o1, .int .i64 o2, .int .i64 o3, .int .i64 o4, .int .i64 o5, .int .i64 mx, .int .i64 my] 26 (0, 0))).alloc (.cells #[.int .i64 mx, .int .i64 my, .int .i64 t2, .int .i64 t3, .int .i64 t4, .int .i64 t5, .int .i64 t6, .int .i64 (8 * dy)] 26 (0, 0))).heap.size = w8.heap.size + 2 := by simp
    go_upto_region 12 with fail
    generalize ((w8.alloc (.cells #[.int .i64 (8 * ax), .int .i64 o1, .int .i64 o2, .int .i64 o3, .int .i64 o4, .int .i64 o5, .int .i64 mx, .int .i64 my] 26 (0, 0))).alloc (.cells #[.int .i64 mx, .int .i64 my, .int .i64 t2, .int .i64 t3, .int .i64 t4, .int .i64 t5, .int .i64 t6, .int .i64 (8 * dy)] 26 (0, 0))) = w9 at *
    obtain ⟨bo, hbo⟩ : ∃ b, b = w8.heap.size := ⟨_, rfl⟩
    obtain ⟨bt, hbt⟩ : ∃ b, b = bo + 1 := ⟨_, rfl⟩
    rw [← hbo] at hO9 hz9 ⊢
    rw [← hbt] at hO9 ⊢
    have hol : bo < w9.heap.size ∧ bt < w9.heap.size := by omega
    have hB29 : Hid (Below w2.heap.size w2 w9) := Lib.hid (hB28.out.trans (hb9.mono (by omega)))
    have hB49 : Hid (Below w4.heap.size w4 w9) := Lib.hid (hB48.out.trans (hb9.mono (by omega)))
    have hs29 := hB29.out.size
    have hs49 := hB49.out.size
    have hOo : Hid (w9.heap[bo]? = some (.cells #[.int .i64 (8 * ax), .int .i64 o1, .int .i64 o2, .int .i64 o3, .int .i64 o4, .int .i64 o5, .int .i64 mx, .int .i64 my] 26 (0, 0))) := Lib.hid hO9.1
    have hOt : Hid (w9.heap[bt]? = some (.cells #[.int .i64 mx, .int .i64 my, .int .i64 t2, .int .i64 t3, .int .i64 t4, .int .i64 t5, .int .i64 t6, .int .i64 (8 * dy)] 26 (0, 0))) := Lib.hid hO9.2
    have hm := hat.out 1 1 2 (by omega) (by decide) (by omega) (by omega)
    rw [show ((2 : Nat) : Int) = 2 from rfl, show ((1 : Nat) : Int) = 1 from rfl] at hm
    obtain ⟨⟨U, V⟩, hUV⟩ : ∃ p, p = G 1 2 := ⟨_, rfl⟩
    rw [← hUV] at hm hmx hmy
    simp only at hm hmx hmy
    replace hm := Lib.hid hm
    clear hO9 hbo hbt hz9 hb9 hUV
    obtain ⟨⟨c0, c1, c2, c3, c4, c5, c6, c7⟩, _, cl⟩ := (hC.out w9 hB29.out).cells
    go_wp2_with fail
    refine (hm.out w9).mono ?_
    rintro e w10 ⟨rfl, hb10⟩
    clear c0 c1 c2 c3 c4 c5 c6 c7 cl
    have hz10 := hb10.size
    have hb11 := hb10.trans ((Go.Joins.below_alloc1 w10 (.cells #[.int .i64 U, .int .i64 V] 24 (0, 0))).mono hz10)
    have hM11 := heap_alloc_new w10 (.cells #[.int .i64 U, .int .i64 V] 24 (0, 0))
    have hz11 : (w10.alloc (.cells #[.int .i64 U, .int .i64 V] 24 (0, 0))).heap.size = w10.heap.size + 1 := by simp
    go_upto_region 13 with fail
    generalize (w10.alloc (.cells #[.int .i64 U, .int .i64 V] 24 (0, 0))) = w11 at *
    obtain ⟨bm, hbm⟩ : ∃ b, b = w10.heap.size := ⟨_, rfl⟩
    rw [← hbm] at hM11 hz11 ⊢
    have hM : PB w11 bm U V := hM11
    have hz11' := hb11.size
    have hB2b : Hid (Below w2.heap.size w2 w11) := Lib.hid (hB29.out.trans (hb11.mono (by omega)))
    have hB4b : Hid (Below w4.heap.size w4 w11) := Lib.hid (hB49.out.trans (hb11.mono (by omega)))
    have hOo11 := Lib.hid ((hb11.block bo hol.1).trans hOo.out)
    have hOt11 := Lib.hid ((hb11.block bt hol.2).trans hOt.out)
    clear hM11 hz11 hbm hb10 hb11 hm hOo hOt
    obtain ⟨⟨a0, a1, a2, a3, a4, a5, a6, a7⟩, _, _⟩ := cells8 hOo11.out
    obtain ⟨⟨b0, b1, b2, b3, b4, b5, b6, b7⟩, _, _⟩ := cells8 hOt11.out
    obtain ⟨m0, m1, _, _⟩ := hM.cells
    obtain ⟨⟨c0, c1, c2, c3, c4, c5, c6, c7⟩, _, cl⟩ := (hC.out w11 hB2b.out).cells
    have d0 := Lib.hid (fun dr os => Calls.regrown_of (specDiv_pos mx 8 (Go.Sort.grow (redrawn w11 dr) os) (by omega) (by omega) (by omega) (by omega)))
    have d1 := Lib.hid (fun dr os => Calls.regrown_of (specDiv_pos my 8 (Go.Sort.grow (redrawn w11 dr) os) (by omega) (by omega) (by omega) (by omega)))
    rw [hmx] at d0
    rw [hmy] at d1
    clear hmx hmy
    have q1 : IntKind.i64.wrap (8 * ax) = 8 * ax := wi (by omega)
    have q2 : IntKind.i64.wrap (8 * dy) = 8 * dy := wi (by omega)
    have ga6 : ∀ dr os, (Go.Sort.grow (redrawn w11 dr) os).cell? ⟨bo, 6, none⟩ = some (.int .i64 (mx)) := cell_regrown a6
    have ga7 : ∀ dr os, (Go.Sort.grow (redrawn w11 dr) os).cell? ⟨bo, 7, none⟩ = some (.int .i64 (my)) := cell_regrown a7
    have ga0 : ∀ dr os, (Go.Sort.grow (redrawn w11 dr) os).cell? ⟨bo, 0, none⟩ = some (.int .i64 (8 * ax)) := cell_regrown a0
    have gb0 : ∀ dr os, (Go.Sort.grow (redrawn w11 dr) os).cell? ⟨bt, 0, none⟩ = some (.int .i64 (mx)) := cell_regrown b0
    have gb1 : ∀ dr os, (Go.Sort.grow (redrawn w11 dr) os).cell? ⟨bt, 1, none⟩ = some (.int .i64 (my)) := cell_regrown b1
    have gb7 : ∀ dr os, (Go.Sort.grow (redrawn w11 dr) os).cell? ⟨bt, 7, none⟩ = some (.int .i64 (8 * dy)) := cell_regrown b7
    have gm0 : ∀ dr os, (Go.Sort.grow (redrawn w11 dr) os).cell? ⟨bm, 0, none⟩ = some (.int .i64 (U)) := cell_regrown m0
    have gm1 : ∀ dr os, (Go.Sort.grow (redrawn w11 dr) os).cell? ⟨bm, 1, none⟩ = some (.int .i64 (V)) := cell_regrown m1
    have gc0 : ∀ dr os, (Go.Sort.grow (redrawn w11 dr) os).cell? ⟨C, 0, none⟩ = some (.int .i64 (ax)) := cell_regrown c0
    have gc7 : ∀ dr os, (Go.Sort.grow (redrawn w11 dr) os).cell? ⟨C, 7, none⟩ = some (.int .i64 (dy)) := cell_regrown c7
    clear a0 a1 a2 a3 a4 a5 a6 a7 b0 b1 b2 b3 b4 b5 b6 b7 m0 m1 c0 c1 c2 c3 c4 c5 c6 c7 cl
    refine wp_region_quiet_below (by kernel_rfl) (by kernel_rfl) ?_
    repeat (go_big_quiet_step (first | with_reducible exact d0.out _ _ | with_reducible exact d1.out _ _))
    refine wpQuiet_nil ?_
    intro _ hw'
    obtain ⟨⟨dq, osq⟩, hw''⟩ := hw'
    subst hw''
    have hb12 := below_regrown w11 dq osq
    clear ga6 ga7 ga0 gb0 gb1 gb7 gm0 gm1 gc0 gc7 d0 d1 q1 q2
    generalize Go.Sort.grow (redrawn w11 dq) osq = w12 at hb12 ⊢
    have hz12 := hb12.size
    have hB2c : Hid (Below w2.heap.size w2 w12) := Lib.hid (hB2b.out.trans (hb12.mono (by omega)))
    have hB4c : Hid (Below w4.heap.size w4 w12) := Lib.hid (hB4b.out.trans (hb12.mono (by omega)))
    clear hb12 hOo11 hOt11 hM
    obtain ⟨⟨c0, c1, c2, c3, c4, c5, c6, c7⟩, _, cl⟩ := (hC.out w12 hB2c.out).cells
    go_wp2_with fail
    refine (hfl.out w12).mono ?_
    rintro e w13 ⟨hF, hb13⟩
    clear c0 c1 c2 c3 c4 c5 c6 c7 cl
    have hz13 := hb13.size
    have hs2c := hB2c.out.size
    have hs4c := hB4c.out.size
    have hB2d : Hid (Below w2.heap.size w2 w13) := Lib.hid (hB2c.out.trans (hb13.mono (by omega)))
    have hB4d : Hid (Below w4.heap.size w4 w13) := Lib.hid (hB4c.out.trans (hb13.mono (by omega)))
    clear hb13
    rcases hF with ⟨hno, rfl⟩ | ⟨l1, FA, fc, hsome, rfl, hFr⟩
    · clear hno
      go_wp2_with fail
      go_ret
      exact ⟨rfl, hB2.out.trans (hB2d.out.mono (by omega))⟩
    obtain ⟨m, hm⟩ : ∃ m, m = 2 ^ l1 := ⟨_, rfl⟩
    have hm1 : 1 ≤ m ∧ m ≤ 64 := pow_lvl (lvt_is hsome).1 hm
    have hnear := Lib.hid (hnr.out l1 hsome k N hk (by omega))
    rw [← hm] at hFr hnear ⊢
    rw [← hXY] at hnear
    clear hsome hm
    obtain ⟨n1, hn1⟩ : ∃ n1, n1 = m + 1 := ⟨_, rfl⟩
    rw [← hn1] at hFr ⊢
    have hn2 : n1 ≤ m + 1 ∧ m + 1 ≤ n1 := by omega
    clear hn1
    have hFr' := Lib.hid hFr
    obtain ⟨g, og, rfl, hgl, hgh, hgs⟩ := hFr.pts (by omega)
    obtain ⟨x0, x1⟩ := hgs 0 (by omega)
    obtain ⟨y0, y1⟩ := hgs m (by omega)
    rw [hFa.out m 0 (by omega), show ((0 : Nat) : Int) = 0 from rfl, hst.out m (by omega)] at x0 x1
    rw [hFa.out m m (by omega), hen.out m (by omega)] at y0 y1
    simp only [Nat.zero_mul, Nat.add_zero] at x0 x1
    simp only at y0 y1
    clear hgs hFr
    go_upto_region 18 with fail
    have z1 : decide ((n1 : Int) < 2) = false := by simp; omega
    have z2 : IntKind.i64.wrap ((n1 : Int) - 1) = (m : Int) := by rw [wi (by omega)]; omega
    have z3 : (0 : Int) ≤ (m : Int) ∧ (m : Int) < (n1 : Int) := by omega
    have z4 : (0 : Int) < (n1 : Int) ∧ 0 < n1 := by omega
    have z5 : g < w13.heap.size := hgh
    obtain ⟨⟨c0, c1, c2, c3, c4, c5, c6, c7⟩, _, cl⟩ := (hC.out w13 hB2d.out).cells
    go_big_quiet (fail)
    go_wp2_with fail
    have hb14 : Below w13.heap.size w13 (w13.drewN nq) := ⟨rfl, rfl, rfl, Nat.le_refl _, fun _ _ => rfl⟩
    generalize w13.drewN nq = w14 at *
    refine (hbd.out w14).mono ?_
    rintro e w15 ⟨lx, ly, hx, hy, rfl, hbox, hb15⟩
    clear c0 c1 c2 c3 c4 c5 c6 c7 cl x0 x1 y0 y1 z1 z2 z3 z5
    have hi := hin.out lx ly hx hy k N hbox (by omega) (by omega) (by omega)
    rw [← hXY] at hi
    obtain ⟨i1, i2, i3, i4⟩ := hi
    simp only at i1 i2 i3 i4
    have hz14 := hb14.size
    have hz15 := hb15.size
    have hb16 := (hb14.trans (hb15.mono hz14)).trans ((Go.Joins.below_alloc2 w15 (.cells #[.int .i64 lx, .int .i64 ly] 24 (0, 0)) (.cells #[.int .i64 hx, .int .i64 hy] 24 (0, 0))).mono (by omega))
    have hB4e := hB4d.out.trans ((hb14.trans (hb15.mono hz14)).mono (by have := hB4d.out.size; omega))
    obtain ⟨p0, p1, _, pl⟩ := (hpB.out w15 hB4e).cells
    have q3 : IntKind.i64.wrap (T + 2) = T + 2 := wi (by omega)
    have hnp := Lib.hid (specNearPath_any (some ⟨g, og, none⟩) n1 fc _ _ _ X Y (T + 2) true hnear.out.symm _ (hFr'.out.frame (good_flat _) (Below.sameB hb16 (Nat.le_refl _))) hb16.size (by omega))
    have hBf := Lib.hid (hB2.out.trans ((hB2d.out.trans (hb16.mono (by have := hB2d.out.size; omega))).mono (by omega)))
    clear hbox hb14 hb15 hb16 hB4e hnear hFr'
    go_wp2_with fail
    refine hnp.out.mono ?_
    rintro e w17 ⟨rfl, hb17⟩
    have hBg := Lib.hid (hBf.out.trans (hb17.mono hBf.out.size))
    clear hb17 hnp
    go_wp2_with fail
    go_ret
    exact ⟨rfl, hBg.out⟩
end Go.Proofs.Ytpmpbfkpiocleaa

