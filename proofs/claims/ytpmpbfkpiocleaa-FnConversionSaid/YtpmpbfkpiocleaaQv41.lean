/- A cubic that has no quadratics: the reference's side. Printed by mk_cv4.py. Conditions: as each states. -/
import Derived.Test.YtpmpbfkpiocleaaQv40
namespace Go.Proofs.Ytpmpbfkpiocleaa
open Go.RowKit
set_option linter.unusedVariables false
set_option maxRecDepth 100000

theorem elemQuad : Elem Try.prog 44 48 6 48 := elem_mk (z := .agg #[.int .i64 0, .int .i64 0, .int .i64 0, .int .i64 0, .int .i64 0, .int .i64 0]) Try.underlying44 (by kernel_rfl) rfl (by omega)
/-- the least level at which a size is at most 20 T 8^level -/
def IsLq (b T : Int) (l : Nat) : Prop := l ≤ 6 ∧ b ≤ 20 * T * 8 ^ l ∧ ∀ j, j < l → 20 * T * 8 ^ j < b
theorem isLq_ex {b T : Int} (hT : 1 ≤ T) (hb : b ≤ 4194304) : ∃ l, IsLq b T l := by
  rcases leastN (p := fun l => b ≤ 20 * T * 8 ^ l) (fun _ => Classical.em _) 6 (by show b ≤ 20 * T * 8 ^ 6; omega) with ⟨l, h1, h2, h3⟩
  refine ⟨l, ?_, h2, fun j hj => ?_⟩
  · exact h1
  · have := h3 j hj
    omega
theorem thirdC_bd {q : Cb} (h : q.ok) : (-2097152 ≤ q.dx - 3 * q.cx + 3 * q.bx - q.ax ∧ q.dx - 3 * q.cx + 3 * q.bx - q.ax ≤ 2097152) ∧ (-2097152 ≤ q.dy - 3 * q.cy + 3 * q.b - q.ay ∧ q.dy - 3 * q.cy + 3 * q.b - q.ay ≤ 2097152) ∧ 0 ≤ thirdC q ∧ thirdC q ≤ 4194304 := by
  obtain ⟨h1, h2, h3, h4⟩ := h
  obtain ⟨a1, a2⟩ := ptOk_iff.1 h1
  obtain ⟨b1, b2⟩ := ptOk_iff.1 h2
  obtain ⟨c1, c2⟩ := ptOk_iff.1 h3
  obtain ⟨d1, d2⟩ := ptOk_iff.1 h4
  have hx : -2097152 ≤ q.dx - 3 * q.cx + 3 * q.bx - q.ax ∧ q.dx - 3 * q.cx + 3 * q.bx - q.ax ≤ 2097152 := by omega
  have hy : -2097152 ≤ q.dy - 3 * q.cy + 3 * q.b - q.ay ∧ q.dy - 3 * q.cy + 3 * q.b - q.ay ≤ 2097152 := by omega
  refine ⟨hx, hy, ?_, szI_le (by omega) (by omega) (by omega) (by omega)⟩
  have := szI_cases (q.dx - 3 * q.cx + 3 * q.bx - q.ax) (q.dy - 3 * q.cy + 3 * q.b - q.ay)
  unfold thirdC
  omega
theorem pow_eight (k : Nat) : (2 : Int) ^ (3 * k) = 8 ^ k := by rw [Int.pow_mul]; rfl
theorem pow8_bd {k : Nat} (hk : k ≤ 6) : (1 : Int) ≤ 8 ^ k ∧ (8 : Int) ^ k ≤ 262144 := by
  rcases (show k = 0 ∨ k = 1 ∨ k = 2 ∨ k = 3 ∨ k = 4 ∨ k = 5 ∨ k = 6 by omega) with rfl | rfl | rfl | rfl | rfl | rfl | rfl <;> decide

set_option maxHeartbeats 16000000 in
theorem l10Convert_bad (p : Nat) (q : Cb) (hq : q.ok) (T : Int) (hT0 : 1 ≤ T) (hT1 : T ≤ 262144) (l n j0 : Nat) (hl : IsLq (thirdC q) T l) (hn : n = 2 ^ l) (hj : j0 < n)
    (hgood : ∀ j, j < j0 → ptOk (quadC q j n).bx (quadC q j n).b = true) (hbad : ptOk (quadC q j0 n).bx (quadC q j0 n).b = false) (w : World) (hp : CB w p q.ax q.ay q.bx q.b q.cx q.cy q.dx q.dy) :
    Calls Try.prog 35 #[.pointer (some ⟨p, 0, none⟩), .int .i64 T] w fun e w' => e = .returned (.tuple #[.slice none 0 0, .int .i64 5]) ∧ Below w.heap.size w w' := by
  have hpl := hp.lt
  have hok := Lib.hid (fun W hp => l09Ok_yes p q hq W hp)
  have htol := Lib.hid (fun W => l09Tol_yes T W hT0 hT1)
  have hthi := Lib.hid (fun W hp => l10Third_any p q hq W hp)
  obtain ⟨t1, t2, t3, t4⟩ := thirdC_bd hq
  have hsz := Lib.hid (fun W => l09Size_any (q.dx - 3 * q.cx + 3 * q.bx - q.ax) (q.dy - 3 * q.cy + 3 * q.b - q.ay) W (by omega) (by omega))
  have he : szI (q.dx - 3 * q.cx + 3 * q.bx - q.ax) (q.dy - 3 * q.cy + 3 * q.b - q.ay) = thirdC q := rfl
  rw [he] at hsz
  clear he
  have hat := Lib.hid (fun k W hp h0 hk h1 h2 => l09At_any p q hq k n W hp h0 hk h1 h2)
  obtain ⟨a1, a2⟩ := bd_pt hq.1
  obtain ⟨b1, b2⟩ := bd_pt hq.2.1
  obtain ⟨c1, c2⟩ := bd_pt hq.2.2.1
  obtain ⟨d1, d2⟩ := bd_pt hq.2.2.2
  obtain ⟨X, hX⟩ : ∃ f : Int → Int, f = fun k => (quadC q k n).bx := ⟨_, rfl⟩
  obtain ⟨Y, hY⟩ : ∃ f : Int → Int, f = fun k => (quadC q k n).b := ⟨_, rfl⟩
  have hX2 : ∀ k : Int, (quadC q k n).bx = X k := fun k => by rw [hX]
  have hY2 : ∀ k : Int, (quadC q k n).b = Y k := fun k => by rw [hY]
  have hcx : Hid (∀ k : Int, 0 ≤ k → k + 1 ≤ (n : Int) → (n : Int) ≤ 64 → ∀ W, Calls Try.prog 55 #[.int .i64 q.ax, .int .i64 q.bx, .int .i64 q.cx, .int .i64 q.dx, .int .i64 k, .int .i64 n] W fun e w' => e = .returned (.int .i64 (X k)) ∧ w' = W) := Lib.hid fun k h0 h1 h2 W => by rw [← hX2 k]; exact l10Control_any q.ax q.bx q.cx q.dx k n W a1 b1 c1 d1 h0 h1 h2
  have hcy : Hid (∀ k : Int, 0 ≤ k → k + 1 ≤ (n : Int) → (n : Int) ≤ 64 → ∀ W, Calls Try.prog 55 #[.int .i64 q.ay, .int .i64 q.b, .int .i64 q.cy, .int .i64 q.dy, .int .i64 k, .int .i64 n] W fun e w' => e = .returned (.int .i64 (Y k)) ∧ w' = W) := Lib.hid fun k h0 h1 h2 W => by rw [← hY2 k]; exact l10Control_any q.ay q.b q.cy q.dy k n W a2 b2 c2 d2 h0 h1 h2
  simp only [hX2, hY2] at hgood hbad
  have hpv := Lib.hid (fun x y (v : Bool) (h : v = ptOk x y) W => (show Calls Try.prog 30 #[.agg #[.int .i64 x, .int .i64 y]] W fun e w' => e = .returned (.bool v) ∧ Below W.heap.size W w' from h ▸ l03Ok_any x y W))
  replace hgood := Lib.hid hgood
  replace hbad := Lib.hid hbad
  obtain ⟨G, hG⟩ : ∃ G : Int → Int × Int, G = fun k => cAt q k n := ⟨_, rfl⟩
  have hG2 : ∀ k, cAt q k n = G k := fun k => by rw [hG]
  simp only [hG2] at hat
  clear hX hY hX2 hY2 hG hG2 a1 a2 b1 b2 c1 c2 d1 d2 t1 t2
  obtain ⟨B3, hB3⟩ : ∃ B, B = thirdC q := ⟨_, rfl⟩
  rw [← hB3] at hl hsz t3 t4
  clear hB3 hq
  obtain ⟨hl6, hl0, hl1⟩ := hl
  have hsh := shl_lvl (by omega) hn
  obtain ⟨hn1, hn64⟩ := pow_lvl (by omega) hn
  replace hn := Lib.hid hn
  replace hl0 := Lib.hid hl0
  replace hl1 := Lib.hid hl1
  obtain ⟨ax, ay, bx, b, cx, cy, dx, dy⟩ := q
  simp only at hp hok hthi hsz hat hcx hcy
  have hpB := Lib.hid (fun W (hb : Below w.heap.size w W) => CB.below hp hb)
  have q20 : IntKind.i64.wrap (20 * T) = 20 * T := wi (by omega)
  clear hp
  go_enter Try.func35, Try.ntmps35
  go_wp2_with fail
  refine (hok.out w (hpB.out w (Below.refl _ _))).mono ?_
  rintro e w1 ⟨rfl, hb1⟩
  go_wp2_with fail
  refine (htol.out w1).mono ?_
  rintro e w' ⟨rfl, rfl⟩
  go_wp2_with fail
  go_loopw [6] (fun iv wr => ∃ k : Nat, iv = .int .i64 k ∧ k ≤ l ∧ Below w.heap.size w wr) (fun iv wr => l - (intOf iv).toNat)
  case atStart => exact ⟨0, rfl, by omega, hb1⟩
  case round =>
  obtain ⟨k, rfl, hk, hbel⟩ := hrel
  generalize wr = xr at *
  have hzx := hbel.size
  go_wp2_with fail
  refine (hthi.out xr (hpB.out xr hbel)).mono ?_
  rintro e w3 ⟨rfl, hb3⟩
  go_wp2_with fail
  refine (hsz.out w3).mono ?_
  rintro e w4 ⟨rfl, hb4⟩
  have hB4 := hbel.trans ((hb3.trans (hb4.mono hb3.size)).mono hzx)
  clear hb3 hb4 hbel hb1
  obtain ⟨K3, hK3⟩ : ∃ K, K = 3 * k := ⟨_, rfl⟩
  have q3 : IntKind.i64.wrap (3 * (k : Int)) = (K3 : Int) := by rw [wi (by omega)]; omega
  have hP8 := pow8_bd (k := k) (by omega)
  obtain ⟨P8, hP8e⟩ : ∃ P : Int, P = 20 * T * 8 ^ k := ⟨_, rfl⟩
  have hs8 : wrap64 (20 * T * 2 ^ K3) = P8 := by
    rw [hK3, pow_eight, hP8e]
    have := Int.mul_le_mul (show 20 * T ≤ 5242880 by omega) hP8.2 (by omega) (by omega)
    have h0 := Int.mul_nonneg (show 0 ≤ 20 * T by omega) (show (0 : Int) ≤ 8 ^ k by omega)
    exact IntWalk.wrap64_in _ (by omega)
  have hK6 : K3 ≤ 18 := by omega
  have q4 : IntKind.i64.wrap ((k : Int) + 1) = ((k + 1 : Nat) : Int) := by rw [wi (by omega)]; omega
  rcases Nat.lt_or_ge k l with hlt | hge
  · have hgt : P8 < B3 := by rw [hP8e]; exact hl1.out k hlt
    clear hP8 hP8e hK3
    go_wp2_with fail
    go_roundw
    case rel => exact ⟨k + 1, by go_num, by omega, hB4⟩
    case measure => simp [intOf]; omega
  · have hkl : k = l := by omega
    have hgt : ¬ P8 < B3 := by have := hl0.out; rw [hP8e, hkl]; omega
    clear hP8 hP8e hK3
    subst hkl
    go_upto_region 9 with fail
    try rw [hsh]
    clear hsh
    go_wp2_with fail
    have hz4 := hB4.size
    have hownS : (w4.alloc (.cells #[] 48 (0, 0))).ownsRow w4.heap.size 48 6 (.slice (some ⟨w4.heap.size, 0, none⟩) 0 0) 0 [] := World.ownsRow_lit w4 #[] 0 (Nat.le_refl _) (by decide) (by simp)
    have hBS := Go.Joins.below_alloc1 w4 (.cells #[] 48 (0, 0))
    replace hB4 := Lib.hid hB4
    clear hgt hs8 q3 q4 hK6 hl0 hl1 hsz hthi htol hok q20
    go_loopw [8, 9] (fun out iv wr => ∃ (j : Nat) (A : Option Addr) (c : Nat) (xs : List Value), iv = .int .i64 j ∧ j ≤ j0 ∧ out = .slice A j c ∧ wr.ownsRow w4.heap.size 48 6 (.slice A j c) j xs ∧ Below w4.heap.size w4 wr) (fun out iv wr => n - (intOf iv).toNat)
    case atStart => exact ⟨0, _, _, _, rfl, by omega, rfl, hownS, hBS⟩
    case round =>
    obtain ⟨j, A, c, xs, rfl, hjj, rfl, hown, hbel⟩ := hrel
    clear hownS hBS
    generalize wr = yr at *
    have hzy := hbel.size
    have hBy := hB4.out.trans (hbel.mono hz4)
    have hzwy := hBy.size
    replace hown := Lib.hid hown
    have hjn : (j : Int) < (n : Int) := by omega
    have q5 : IntKind.i64.wrap ((j : Int) + 1) = (j : Int) + 1 := wi (by omega)
    go_wp2_with fail
    refine (hat.out (j : Int) yr (hpB.out yr hBy) (by omega) (by omega) (by omega) (by omega)).mono ?_
    rintro e y1 ⟨rfl, hb1⟩
    have hB1 := hBy.trans (hb1.mono hzwy)
    have hz1 := hb1.size
    go_wp2_with fail
    refine (hat.out ((j : Int) + 1) y1 (hpB.out y1 hB1) (by omega) (by omega) (by omega) (by omega)).mono ?_
    rintro e y2 ⟨rfl, hb2⟩
    have hb02 := hb1.trans (hb2.mono hz1)
    have hz2 := hb02.size
    obtain ⟨⟨X0, Y0⟩, hXY0⟩ : ∃ p, p = G (j : Int) := ⟨_, rfl⟩
    obtain ⟨⟨X2, Y2⟩, hXY2⟩ : ∃ p, p = G ((j : Int) + 1) := ⟨_, rfl⟩
    rw [← hXY0, ← hXY2]
    simp only
    have hb03 := hb02.trans ((Go.Joins.below_alloc1 y2 (.cells #[.int .i64 X0, .int .i64 Y0, .int .i64 0, .int .i64 0, .int .i64 X2, .int .i64 Y2] 48 (0, 0))).mono hz2)
    have hQ3 := heap_alloc_new y2 (.cells #[.int .i64 X0, .int .i64 Y0, .int .i64 0, .int .i64 0, .int .i64 X2, .int .i64 Y2] 48 (0, 0))
    have hz3 : (y2.alloc (.cells #[.int .i64 X0, .int .i64 Y0, .int .i64 0, .int .i64 0, .int .i64 X2, .int .i64 Y2] 48 (0, 0))).heap.size = y2.heap.size + 1 := by simp
    go_upto_region 14 with fail
    generalize (y2.alloc (.cells #[.int .i64 X0, .int .i64 Y0, .int .i64 0, .int .i64 0, .int .i64 X2, .int .i64 Y2] 48 (0, 0))) = V at *
    obtain ⟨bq, hbq⟩ : ∃ b, b = y2.heap.size := ⟨_, rfl⟩
    rw [← hbq] at hQ3 hz3 ⊢
    have hbqy : yr.heap.size ≤ bq := by omega
    clear hb1 hb2 hb02 hB1 hXY0 hXY2 hbq
    have hzV := hb03.size
    have hBV := hBy.trans (hb03.mono hzwy)
    have hj1 := Lib.hid (hcx.out (j : Int) (by omega) (by omega) (by omega))
    have hj2 := Lib.hid (hcy.out (j : Int) (by omega) (by omega) (by omega))
    obtain ⟨⟨k0, k1, k2, k3, k4, k5, k6, k7⟩, _, hlV⟩ := (hpB.out V hBV).cells
    have hQV : QB V.drew bq ⟨X0, Y0, 0, 0, X2, Y2⟩ := hQ3
    have hbV := hb03.drew
    clear hQ3 hb03
    obtain ⟨XX, hXX⟩ : ∃ x, x = X (j : Int) := ⟨_, rfl⟩
    obtain ⟨YY, hYY⟩ : ∃ x, x = Y (j : Int) := ⟨_, rfl⟩
    rw [← hXX] at hj1
    rw [← hYY] at hj2
    replace hXX := Lib.hid hXX
    replace hYY := Lib.hid hYY
    go_still_tail 48, (by kernel_rfl)
    still_call (hj1.out _)
    repeat still_step
    still_call (hj2.out _)
    repeat still_step
    refine wpStill_nil ?_
    clear k0 k1 k2 k3 k4 k5 k6 k7 hlV hj1 hj2
    change wpList _ _ _ _ _ V.drew
    have hzd : V.drew.heap.size = V.heap.size := rfl
    generalize V.drew = V4 at *
    obtain ⟨q0, q1, q2, q3, q4, q6⟩ := hQV.cells
    have qf := Go.Joins.unfrozen_of_block hQV
    have ql := hQV.lt
    have hQ5 : Hid (QB ((V4.setCell ⟨bq, 2, none⟩ (.int .i64 XX)).setCell ⟨bq, 3, none⟩ (.int .i64 YY)) bq ⟨X0, Y0, XX, YY, X2, Y2⟩) := Lib.hid (Go.Joins.block_setCell (Go.Joins.block_setCell hQV (.int .i64 XX)) (.int .i64 YY))
    have hb5 := (hbV.setCell (p := ⟨bq, 2, none⟩) hbqy (.int .i64 XX)).setCell (p := ⟨bq, 3, none⟩) hbqy (.int .i64 YY)
    have hz5 : ((V4.setCell ⟨bq, 2, none⟩ (.int .i64 XX)).setCell ⟨bq, 3, none⟩ (.int .i64 YY)).heap.size = V4.heap.size := by simp
    go_upto_region 15 with fail
    generalize ((V4.setCell ⟨bq, 2, none⟩ (.int .i64 XX)).setCell ⟨bq, 3, none⟩ (.int .i64 YY)) = V5 at *
    clear q0 q1 q2 q3 q4 q6 qf ql hQV hbV hz5 hzd
    obtain ⟨q0, q1, q2, q3, q4, q6⟩ := hQ5.out.cells
    simp only at q0 q1 q2 q3 q4 q6
    have ql := hQ5.out.lt
    obtain ⟨v, hv⟩ : ∃ v, v = ptOk XX YY := ⟨_, rfl⟩
    have hvc := Lib.hid (hpv.out XX YY v hv V5)
    rw [hXX.out, hYY.out] at hv
    go_wp2_with fail
    refine hvc.out.mono ?_
    rintro e V6 ⟨rfl, hb6⟩
    have hz5 := hb5.size
    have hb06 := hb5.trans (hb6.mono hz5)
    have hz6 := hb06.size
    have hB06 := Lib.hid (hBy.trans (hb06.mono hzwy))
    have hQ6 := Lib.hid (hQ5.out.below hb6)
    clear hb6 q0 q1 q2 q3 q4 q6 ql hvc hQ5
    rcases Nat.lt_or_ge j j0 with hlt | hge
    · rw [hgood.out j hlt] at hv
      subst hv
      obtain ⟨q0, q1, q2, q3, q4, q6⟩ := hQ6.out.cells
      simp only at q0 q1 q2 q3 q4 q6
      have ql := hQ6.out.lt
      have hown6 := Lib.hid (own_below hown.out hb06)
      have q7 : IntKind.i64.wrap ((j : Int) + 1) = (j : Int) + 1 := wi (by omega)
      go_wp2_with (at_builtin; refine wpApp rfl (.tmp 100) (.tmp 102) elemQuad rfl (v := .slice A j c) (n := j) (xs := xs) rfl (hown6.out.alloc _) rfl (src_at (cs := [.int .i64 X0, .int .i64 Y0, .int .i64 XX, .int .i64 YY, .int .i64 X2, .int .i64 Y2]) rfl (by simp [Value.oneCell']) rfl) (by omega) (by omega) (by simp; omega) (j + 1) rfl ?_; intro A9 c9 w9 ho9 hb9; replace ho9 := Lib.hid ho9)
      go_roundw
      case rel => exact ⟨j + 1, A9, c9, _, by go_num, by omega, rfl, ho9.out, (((hbel.trans (hb06.mono hzy)).alloc (by omega) _).trans hb9)⟩
      case measure => simp [intOf]; omega
    · have hjj0 : j = j0 := by omega
      subst hjj0
      rw [hbad.out] at hv
      subst hv
      go_wp2_with fail
      go_ret2
      exact ⟨rfl, hB06.out⟩

theorem specQuads_bad (q : Cb) (hq : q.ok) (T : Int) (hT0 : 1 ≤ T) (hT1 : T ≤ 262144) (l n j0 : Nat) (hl : IsLq (thirdC q) T l) (hn : n = 2 ^ l) (hj : j0 < n)
    (hgood : ∀ j, j < j0 → ptOk (quadC q j n).bx (quadC q j n).b = true) (hbad : ptOk (quadC q j0 n).bx (quadC q j0 n).b = false) (w : World) :
    Calls Try.prog 15 #[cbV q, .int .i64 T] w fun e w' => e = .returned (.tuple #[.slice none 0 0, .int .i64 5]) ∧ Below w.heap.size w w' := by
  have hc := Lib.hid (fun p W hp => l10Convert_bad p q hq T hT0 hT1 l n j0 hl hn hj hgood hbad W hp)
  clear hl hn hj hgood hbad hq
  obtain ⟨ax, ay, bx, b, cx, cy, dx, dy⟩ := q
  simp only [cbV] at hc ⊢
  have hb0 := Go.Joins.below_alloc1 w (.cells #[.int .i64 ax, .int .i64 ay, .int .i64 bx, .int .i64 b, .int .i64 cx, .int .i64 cy, .int .i64 dx, .int .i64 dy] 26 (0, 0))
  have hP0 := Lib.hid (heap_alloc_new w (.cells #[.int .i64 ax, .int .i64 ay, .int .i64 bx, .int .i64 b, .int .i64 cx, .int .i64 cy, .int .i64 dx, .int .i64 dy] 26 (0, 0)))
  go_enter Try.func15, Try.ntmps15
  go_wp2_with fail
  refine (hc.out _ _ hP0.out).mono ?_
  rintro e w1 ⟨rfl, hb1⟩
  have hB1 := hb0.trans (hb1.mono hb0.size)
  clear hb0 hb1 hP0
  go_wp2_with fail
  go_ret2
  exact ⟨rfl, hB1⟩
end Go.Proofs.Ytpmpbfkpiocleaa

