/- The law FnConversion, walked. Printed by mk_cvl.py. Conditions: as each states. -/
import Derived.BigQuiet
import Derived.StillTailTactics
import Derived.Lib.QuietBelow
import Derived.Deep.RegionHeld3
import Derived.Deep.DeepCutAuto
import Derived.Test.YtpmpbfkpiocleaaQv45
import Derived.Test.YtpmpbfkpiocleaaQv36
import Derived.Test.YtpmpbfkpiocleaaQv11
namespace Go.Proofs.Ytpmpbfkpiocleaa
open Go.RowKit
set_option linter.unusedVariables false
set_option maxRecDepth 100000

theorem bel_step {x W w9 : World} (h : Below x.heap.size x W) (hb : Below W.heap.size W w9) : Below x.heap.size x w9 := h.trans (hb.mono h.size)
theorem pb_step1 {x w9 : World} (hb : Below (x.alloc (.cells #[.int .i64 0, .int .i64 0] 24 (0, 0))).drew.heap.size (x.alloc (.cells #[.int .i64 0, .int .i64 0] 24 (0, 0))).drew w9) : PB w9 x.heap.size 0 0 := (hb.block x.heap.size (by show x.heap.size < (x.alloc _).heap.size; simp)).trans (heap_alloc_new x _)
def VInt65 (v : Value) (w : World) : Prop := ∃ r : Nat, v = .int .i64 (r : Int) ∧ r ≤ 64
theorem VInt65.stays : Stays VInt65 := fun v w w' h _ => h
def VPtT (G : Nat → Int × Int) (v : Value) (w : World) : Prop := ∃ r : Nat, v = .tuple #[.agg #[.int .i64 (G r).1, .int .i64 (G r).2], .int .i64 0] ∧ r ≤ 64
theorem VPtT.stays (G : Nat → Int × Int) : Stays (VPtT G) := fun v w w' h _ => h
def VPtA (G : Nat → Int × Int) (v : Value) (w : World) : Prop := ∃ r : Nat, v = .agg #[.int .i64 (G r).1, .int .i64 (G r).2] ∧ r ≤ 64
theorem VPtA.stays (G : Nat → Int × Int) : Stays (VPtA G) := fun v w w' h _ => h

set_option maxHeartbeats 16000000 in
theorem lawConversion_walk (A : Option Addr) (n c : Nat) (L : List Int) {w : World} (hr : RdS 1 u8R w 0 w.heap.size A n L) (hm : n ≤ maxLen) :
    Calls Try.prog 4 #[.slice A n c] w fun e w' => e = .returned (.bool true) ∧ Below w.heap.size w w' := by
  unfold maxLen at hm
  by_cases hn : 1048576 < n
  · have hni : (1048576 : Int) < (n : Int) := by omega
    clear hr
    go_enter Try.func4, Try.ntmps4
    go_wp2_with fail
    go_ret
    exact ⟨rfl, Below.refl _ _⟩
  have hni : ¬ (1048576 : Int) < (n : Int) := by omega
  have hc0 := Lib.hid (E8Cubic_any A n c 0 w.heap.size L w hr (Nat.le_refl _) (by omega))
  have hat0 := Lib.hid (fun (W : World) (hb : Below w.heap.size w W) => e8At_any A n c 0 w.heap.size L 0 65 W (hr.frame good_u8 (Below.sameB hb (Nat.le_refl _))) (by omega) (by omega) (by omega) (by omega))
  clear hr hm
  go_enter Try.func4, Try.ntmps4
  go_wp2_with fail
  refine hc0.out.mono ?_
  rintro e w1 ⟨q, T, rfl, hq, hT0, hT1, hb1⟩
  obtain ⟨l, hl⟩ := isLq_ex (b := thirdC q) (T := T) hT0 (thirdC_bd hq).2.2.2
  obtain ⟨N, hN⟩ : ∃ N, N = 2 ^ l := ⟨_, rfl⟩
  obtain ⟨hN1, hN64⟩ := pow_lvl (l := l) (by have := hl.1; omega) hN
  have hqs := Lib.hid (fun W => implQuads_any q hq T hT0 (by omega) l N hl hN W)
  simp only [QuadsTo] at hqs
  have hbadS := Lib.hid (fun j0 hj hg hb W => specQuads_bad q hq T hT0 (by omega) l N j0 hl hN hj hg hb W)
  have hlaw := Lib.hid (fun hg hlv hlen K hK => conv_law hq hl hN hT0 (by omega) hg hlv hlen (K := K) hK)
  have hqok := Lib.hid (fun hg => quads_all_ok hq (n := N) hg)
  have hca := Lib.hid (fun (k : Int) W h0 hk => specCubicAt_six q hq k W h0 hk)
  have hQf := Lib.hid (quads_first q (n := N) (by omega))
  have hQl := Lib.hid (quads_last q (n := N) (by omega))
  have hQn := Lib.hid (fun i (h : i + 1 < N) => quads_next q h)
  have hlen := Lib.hid (quadsL_len q N)
  clear hl hN
  obtain ⟨QL, hQL⟩ : ∃ x, x = quadsL q N := ⟨_, rfl⟩
  rw [← hQL] at hqs hlaw hqok hQf hQl hQn hlen
  obtain ⟨G, hG⟩ : ∃ G : Nat → Int × Int, G = fun K : Nat => cAt q ((K : Nat) : Int) 64 := ⟨_, rfl⟩
  have hca2 : Hid (∀ (k : Nat) W, k ≤ 64 → Calls Try.prog 17 #[cbV q, .int .i64 (k : Int), .int .i64 6] W fun e w' => e = .returned (.tuple #[.agg #[.int .i64 (G k).1, .int .i64 (G k).2], .int .i64 0]) ∧ Below W.heap.size W w') := Lib.hid fun k W h => by rw [hG]; exact hca.out k W (by omega) (by omega)
  have hlaw2 : Hid ((∀ j, j < N → ptOk (quadC q j N).bx (quadC q j N).b = true) → (∀ x ∈ QL, ∃ l, lvl (bendQ x) = some l) → (1 ≤ (QL.flatMap pathQ).length ∧ (QL.flatMap pathQ).length ≤ 400) → ∀ K, K ≤ 64 → nearOk (QL.flatMap pathQ) (G K).1 (G K).2 (T + 5) = true) := Lib.hid fun h1 h2 h3 K hK => by rw [hG]; exact hlaw.out h1 h2 h3 K hK
  clear hQL hG hca hlaw hq
  obtain ⟨ax, ay, bx, b, cx, cy, dx, dy⟩ := q
  simp only [cbV] at hqs hbadS hca2 hQf hQl ⊢
  have hal := Go.Joins.below_alloc1 w1 (.cells #[.int .i64 ax, .int .i64 ay, .int .i64 bx, .int .i64 b, .int .i64 cx, .int .i64 cy, .int .i64 dx, .int .i64 dy] 26 (0, 0))
  have hC0 := heap_alloc_new w1 (.cells #[.int .i64 ax, .int .i64 ay, .int .i64 bx, .int .i64 b, .int .i64 cx, .int .i64 cy, .int .i64 dx, .int .i64 dy] 26 (0, 0))
  have hz2 : (w1.alloc (.cells #[.int .i64 ax, .int .i64 ay, .int .i64 bx, .int .i64 b, .int .i64 cx, .int .i64 cy, .int .i64 dx, .int .i64 dy] 26 (0, 0))).heap.size = w1.heap.size + 1 := by simp
  have hB2 := hb1.trans (hal.mono hb1.size)
  go_upto_region 4 with fail
  generalize (w1.alloc (.cells #[.int .i64 ax, .int .i64 ay, .int .i64 bx, .int .i64 b, .int .i64 cx, .int .i64 cy, .int .i64 dx, .int .i64 dy] 26 (0, 0))) = w2 at *
  obtain ⟨C, hCe⟩ : ∃ C, C = w1.heap.size := ⟨_, rfl⟩
  rw [← hCe] at hC0 hz2 ⊢
  have hC : Hid (∀ W, Below w2.heap.size w2 W → CB W C ax ay bx b cx cy dx dy) := Lib.hid fun W hW => CB.below (w := w2) hC0 hW
  have hB2s := hB2.size
  replace hB2 := Lib.hid hB2
  clear hC0 hCe hz2 hal hb1 hc0
  obtain ⟨⟨c0, c1, c2, c3, c4, c5, c6, c7⟩, _, cl⟩ := (hC.out w2 (Below.refl _ _)).cells
  go_wp2_with fail
  refine (hqs.out w2).mono ?_
  rintro e w3 ⟨⟨v1, hv1, hcase⟩, hb3⟩
  clear c0 c1 c2 c3 c4 c5 c6 c7 cl
  have hz3 := hb3.size
  have hB3 := Lib.hid (hB2.out.trans (hb3.mono hB2s))
  clear hqs
  rcases hcase with ⟨⟨j0, hj0, hg0, hbad0⟩, rfl⟩ | ⟨hg, QA, qc, rfl, hQr⟩
  · have hsb := Lib.hid (hbadS.out j0 hj0 hg0 hbad0)
    clear hg0 hbad0 hbadS
    obtain ⟨⟨c0, c1, c2, c3, c4, c5, c6, c7⟩, _, cl⟩ := (hC.out w3 hb3).cells
    go_wp2_with fail
    refine (hsb.out w3).mono ?_
    rintro e w4 ⟨rfl, hb4⟩
    have hB4 := Lib.hid (hB3.out.trans (hb4.mono hB3.out.size))
    clear c0 c1 c2 c3 c4 c5 c6 c7 cl hb4
    go_wp2_with fail
    go_ret
    exact ⟨rfl, hB4.out⟩
  have hQrH := Lib.hid (fun (W : World) (h : Below w3.heap.size w3 W) => hQr.frame (good_flat _) (Below.sameB h (Nat.le_refl _)))
  replace hg := Lib.hid hg
  obtain ⟨xf, hxf, hxf1, hxf2⟩ := hQf.out
  obtain ⟨xl, hxl, hxl1, hxl2⟩ := hQl.out
  obtain ⟨qb, qo, x0, hQA, hqb, hqh, hx0, f0, f1, _, _, _, _⟩ := qd_at hQr (j := 0) (by omega)
  obtain ⟨qb', qo', x1, hQA', _, _, hx1, _, _, _, _, g4, g5⟩ := qd_at hQr (j := N - 1) (by omega)
  subst hQA
  injection hQA' with hQA'
  injection hQA' with ea eb
  subst ea eb
  rw [hxf] at hx0
  rw [hxl] at hx1
  injection hx0 with hx0
  injection hx1 with hx1
  subst hx0 hx1
  rw [hxf1] at f0
  rw [hxf2] at f1
  rw [hxl1] at g4
  rw [hxl2] at g5
  simp only [Nat.zero_mul, Nat.add_zero] at f0 f1
  clear hxf1 hxf2 hxl1 hxl2 hxf hxl hQf hQl hbadS hQr
  obtain ⟨N1, hN1e⟩ : ∃ m, m = N - 1 := ⟨_, rfl⟩
  rw [← hN1e] at g4 g5
  have z2 : IntKind.i64.wrap ((N : Int) - 1) = (N1 : Int) := by rw [wi (by omega)]; omega
  have z3 : (0 : Int) ≤ (N1 : Int) ∧ (N1 : Int) < (N : Int) := by omega
  have z4 : (0 : Int) < (N : Int) ∧ 0 < N := by omega
  have z5 : qb < w3.heap.size := hqh
  have z1 : ((N : Int) == 0) = false := by simp; omega
  clear hN1e
  obtain ⟨⟨c0, c1, c2, c3, c4, c5, c6, c7⟩, _, cl⟩ := (hC.out w3 hb3).cells
  go_upto_region 9 with fail
  go_big_quiet (fail)
  go_wp2_with fail
  have hb4 : Below w3.heap.size w3 (w3.drewN nq) := ⟨rfl, rfl, rfl, Nat.le_refl _, fun _ _ => rfl⟩
  generalize w3.drewN nq = w4 at *
  clear c0 c1 c2 c3 c4 c5 c6 c7 cl f0 f1 g4 g5 z1 z2 z3 z5
  go_loopw [10] (fun iv wr => ∃ i : Nat, iv = .int .i64 i ∧ 1 ≤ i ∧ i ≤ N ∧ Below w3.heap.size w3 wr) (fun iv wr => N - (intOf iv).toNat)
  case atStart => exact ⟨1, rfl, by omega, by omega, hb4⟩
  case round =>
  clear hb4
  obtain ⟨i, rfl, hi1, hiN, hbel⟩ := hrel
  generalize wr = xr at *
  have hzx := hbel.size
  by_cases hlt : i < N
  · have hii : (i : Int) < (N : Int) := by omega
    have hi0 : (0 : Int) ≤ (i : Int) ∧ (i : Int) < (N : Int) := by omega
    obtain ⟨i1, hi1e⟩ : ∃ m, m = i - 1 := ⟨_, rfl⟩
    have q1 : IntKind.i64.wrap ((i : Int) - 1) = (i1 : Int) := by rw [wi (by omega)]; omega
    have hi2 : (0 : Int) ≤ (i1 : Int) ∧ (i1 : Int) < (N : Int) := by omega
    have hnx := hQn.out i1 (by omega)
    rw [show i1 + 1 = i by omega] at hnx
    obtain ⟨x, y, hx, hy, hxy1, hxy2⟩ := hnx
    have hQx := hQrH.out xr hbel
    obtain ⟨b1, o1, x1, hA1, _, _, hx1, _, _, _, _, g4, g5⟩ := qd_at hQx (j := i1) (by omega)
    obtain ⟨b2, o2, y1, hA2, _, _, hy1, f0, f1, _, _, _, _⟩ := qd_at hQx (j := i) hlt
    injection hA1 with hA1
    injection hA1 with ea eb
    subst ea eb
    injection hA2 with hA2
    injection hA2 with ea eb
    subst ea eb
    rw [hx] at hx1
    rw [hy] at hy1
    injection hx1 with hx1
    injection hy1 with hy1
    subst hx1 hy1
    rw [hxy1] at g4
    rw [hxy2] at g5
    generalize y.ax = yx at *
    generalize y.ay = yy at *
    have z5 : qb < xr.heap.size := by omega
    have q2 : IntKind.i64.wrap ((i : Int) + 1) = ((i + 1 : Nat) : Int) := by rw [wi (by omega)]; omega
    clear hx hy hxy1 hxy2 hQx hi1e
    go_upto_region 14 with fail
    go_big_quiet (fail)
    go_wp2_with fail
    have hb5 : Below w3.heap.size w3 (xr.drewN nq) := hbel.trans ⟨rfl, rfl, rfl, Nat.le_refl _, fun _ _ => rfl⟩
    go_roundw
    case rel => exact ⟨i + 1, by go_num, by omega, by omega, hb5⟩
    case measure => simp [intOf]; omega
  have hiN' : i = N := by omega
  subst hiN'
  have hii : ¬ (i : Int) < (i : Int) := by omega
  have hQx := Lib.hid (hQrH.out xr hbel)
  have hB3x := Lib.hid (hB3.out.trans (hbel.mono hB3.out.size))
  have hjn := Lib.hid (e8Joined_any _ i qc _ _ QL xr hQx.out (Nat.le_trans (Nat.le_refl _) hzx) (hqok.out hg.out) hN64)
  go_wp2_with fail
  refine hjn.out.mono ?_
  rintro e x2 ⟨⟨bb, PA, m, pc, rfl, hj⟩, hb6⟩
  have hz6 := hb6.size
  have hB6 := Lib.hid (hB3x.out.trans (hb6.mono hB3x.out.size))
  have hb36 := hbel.trans (hb6.mono hzx)
  clear hjn
  cases bb with
  | false =>
    clear hj
    go_wp2_with fail
    go_ret
    exact ⟨rfl, hB6.out⟩
  | true =>
  obtain ⟨hm1, hm4, hlv, hPr⟩ := hj rfl
  have hlenP := hPr.1
  have hnear := Lib.hid (hlaw2.out hg.out hlv (by omega))
  replace hPr := Lib.hid hPr
  clear hj hlv hlenP hlaw2 hQx hb6
  have hCx : Hid (∀ W, Below x2.heap.size x2 W → CB W C ax ay bx b cx cy dx dy) := Lib.hid fun W hW => hC.out W (hb3.trans ((hb36.trans (hW.mono (by omega))).mono hz3))
  have hatx : Hid (∀ W : World, Below x2.heap.size x2 W → Calls Try.prog 6 #[.slice A n c, .int .i64 0, .int .i64 65] W fun e w' => ∃ r : Int, e = .returned (.int .i64 r) ∧ 0 ≤ r ∧ r < 65 ∧ W = w') := Lib.hid (fun W h => hat0.out W (hB6.out.trans (h.mono hB6.out.size)))
  have hT5 : IntKind.i64.wrap (T + 5) = T + 5 := wi (by omega)
  go_upto_region 19 with fail
  have hS : Hid (∀ W : World, Below x2.heap.size x2 W → ((W.cell? ⟨C, 0, none⟩ = some (.int .i64 ax) ∧ W.cell? ⟨C, 1, none⟩ = some (.int .i64 ay) ∧ W.cell? ⟨C, 2, none⟩ = some (.int .i64 bx) ∧ W.cell? ⟨C, 3, none⟩ = some (.int .i64 b)) ∧ W.cell? ⟨C, 4, none⟩ = some (.int .i64 cx) ∧ W.cell? ⟨C, 5, none⟩ = some (.int .i64 cy) ∧ W.cell? ⟨C, 6, none⟩ = some (.int .i64 dx) ∧ W.cell? ⟨C, 7, none⟩ = some (.int .i64 dy))) := by
    refine Lib.hid (fun W hW => ?_)
    obtain ⟨⟨c0, c1, c2, c3, c4, c5, c6, c7⟩, _, _⟩ := (hCx.out W hW).cells
    exact ⟨⟨c0, c1, c2, c3⟩, c4, c5, c6, c7⟩
  go_cut [13] (fun s13 wx => ∃ (bp K : Nat), s13 = .pointer (some ⟨bp, 0, none⟩) ∧ K ≤ 64 ∧ PB wx bp (G K).1 (G K).2 ∧ Below x2.heap.size x2 wx)
  case first =>
    have hCl := (hCx.out x2 (Below.refl _ _)).lt
    go_region_held3 (fun w' => ((w'.cell? ⟨C, 0, none⟩ = some (.int .i64 ax) ∧ w'.cell? ⟨C, 1, none⟩ = some (.int .i64 ay) ∧ w'.cell? ⟨C, 2, none⟩ = some (.int .i64 bx) ∧ w'.cell? ⟨C, 3, none⟩ = some (.int .i64 b)) ∧ w'.cell? ⟨C, 4, none⟩ = some (.int .i64 cx) ∧ w'.cell? ⟨C, 5, none⟩ = some (.int .i64 cy) ∧ w'.cell? ⟨C, 6, none⟩ = some (.int .i64 dx) ∧ w'.cell? ⟨C, 7, none⟩ = some (.int .i64 dy))) (first | (refine hS.out _ ?_; (repeat (first | with_reducible exact Below.refl _ _ | with_reducible exact hbK | with_reducible refine Below.drew ?_ | with_reducible refine Below.alloc ?_ (by simp) _ | with_reducible refine Below.alloc ?_ hsK _ | with_reducible refine Below.setCell ?_ (by simp) _ | with_reducible refine Below.setCell ?_ hsK _)))) (first | (go_at_call 6; (with_reducible refine (hatx.out _ ?_).mono ?_); (repeat (first | with_reducible exact Below.refl _ _ | with_reducible exact hbK | with_reducible refine Below.drew ?_ | with_reducible refine Below.alloc ?_ (by simp) _ | with_reducible refine Below.alloc ?_ hsK _ | with_reducible refine Below.setCell ?_ (by simp) _ | with_reducible refine Below.setCell ?_ hsK _)); rintro e w' ⟨r, rfl, hr0, hr1, rfl⟩; obtain ⟨K, rfl⟩ : ∃ K : Nat, r = K := ⟨r.toNat, by omega⟩; have hK64 : K ≤ 64 := by omega) | (go_at_call 17; (with_reducible refine (hca2.out K _ hK64).mono ?_); rintro e w9 ⟨rfl, hb9⟩; have hbK : Below x2.heap.size x2 w9 := bel_step (by (repeat (first | with_reducible exact Below.refl _ _ | with_reducible exact hbK | with_reducible refine Below.drew ?_ | with_reducible refine Below.alloc ?_ (by simp) _ | with_reducible refine Below.alloc ?_ hsK _ | with_reducible refine Below.setCell ?_ (by simp) _ | with_reducible refine Below.setCell ?_ hsK _))) hb9; have hsK : x2.heap.size ≤ w9.heap.size := hbK.size; (first | (have hbx : PB w9 x2.heap.size 0 0 := pb_step1 hb9; obtain ⟨y0, y1, yf, yl⟩ := hbx.cells) | skip)))
    all_goals clear hS
    all_goals go_wp2_with fail
    all_goals go_meet
    · exact ⟨_, K, rfl, hK64, heap_alloc_new w9 _, hbK.alloc hsK _⟩
    · exact ⟨_, K, rfl, hK64, hbx.put _ _, (hbK.setCell (p := ⟨x2.heap.size, 0, none⟩) (Nat.le_refl _) _).setCell (p := ⟨x2.heap.size, 1, none⟩) (Nat.le_refl _) _⟩
    · exact ⟨_, K, rfl, hK64, hbx.put _ _, (hbK.setCell (p := ⟨x2.heap.size, 0, none⟩) (Nat.le_refl _) _).setCell (p := ⟨x2.heap.size, 1, none⟩) (Nat.le_refl _) _⟩
  obtain ⟨bp, K, rfl, hK, hbox, hbc⟩ := hcut
  generalize wc = x7 at *
  obtain ⟨⟨X, Y⟩, hXY⟩ : ∃ p, p = G K := ⟨_, rfl⟩
  have hnK := Lib.hid (hnear.out K hK)
  rw [← hXY] at hnK hbox
  simp only at hbox
  have hW1 := Lib.hid hbox
  have hW3 := Lib.hid hbc
  clear hXY hnear hbox hbc
  go_upto_region 20 with fail
  obtain ⟨o0, o1, _, ol⟩ := hW1.out.cells
  have hz7 := hW3.out.size
  have hnp := Lib.hid (specNearPath_any PA m pc _ _ _ X Y (T + 5) true hnK.out.symm x7 (hPr.out.frame (good_flat _) (Below.sameB hW3.out (Nat.le_refl _))) hz7 (by omega))
  have hB7 := Lib.hid (hB6.out.trans (hW3.out.mono hB6.out.size))
  go_wp2_with fail
  refine hnp.out.mono ?_
  rintro e x8 ⟨rfl, hb8⟩
  have hB8 := Lib.hid (hB7.out.trans (hb8.mono hB7.out.size))
  clear hb8 hnp o0 o1 ol
  go_wp2_with fail
  go_ret
  exact ⟨rfl, hB8.out⟩
end Go.Proofs.Ytpmpbfkpiocleaa

