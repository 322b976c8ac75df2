/- The first corner of a ring, parts of a path: the reference's side. Conditions: as each states. -/
import Derived.Test.YtpmpbfkpiocleaaQv19
import Derived.Test.YtpmpbfkpiocleaaQv20
import Derived.Test.YtpmpbfkpiocleaaQv22
import Derived.Test.YtpmpbfkpiocleaaQv04
namespace Go.Proofs.Ytpmpbfkpiocleaa
open Go.RowKit
set_option linter.unusedVariables false
set_option maxRecDepth 100000

theorem RdS.pts {w : World} {lo hi : Nat} {A : Option Addr} {n : Nat} {L : List (Int × Int)} (h : RdS 2 (FlatR ptC) w lo hi A n L) (hn : 0 < n) :
    ∃ b off, A = some ⟨b, off, none⟩ ∧ lo ≤ b ∧ b < hi ∧ ∀ j, j < n → w.cell? ⟨b, off + j * 2, none⟩ = some (.int .i64 (ptAt L j).1) ∧ w.cell? ⟨b, off + j * 2 + 1, none⟩ = some (.int .i64 (ptAt L j).2) := by
  obtain ⟨b, off, a, hA, h1, h2, _, _⟩ := h.at hn
  refine ⟨b, off, hA, h1, h2, fun j hj => ?_⟩
  obtain ⟨b', off', a', hA', _, _, h3, h4⟩ := h.at hj
  rw [hA] at hA'
  injection hA' with hA'
  injection hA' with e1 e2
  subst e1 e2
  rw [ptAt_eq h3]
  exact ⟨by have := h4 0 _ rfl; simpa using this, h4 1 _ rfl⟩
end Go.Proofs.Ytpmpbfkpiocleaa

/- Sums of points times numbers, of however many: the program's side. Conditions: as each states. -/
namespace Go.Proofs.Ytpmpbfkpiocleaa
open Go.RowKit
set_option linter.unusedVariables false
set_option maxRecDepth 100000

/-- the sum of coordinates times numbers, up to k -/
def dotTo (f : Int × Int → Int) (L : List (Int × Int)) (B : List Int) : Nat → Int
  | 0 => 0
  | k + 1 => dotTo f L B k + f (ptAt L k) * B.getD k 0
theorem RdS.ints {w : World} {lo hi : Nat} {A : Option Addr} {n : Nat} {B : List Int} (h : RdS 1 (FlatR intC) w lo hi A n B) (hn : 0 < n) :
    ∃ b off, A = some ⟨b, off, none⟩ ∧ lo ≤ b ∧ b < hi ∧ ∀ j, j < n → w.cell? ⟨b, off + j, none⟩ = some (.int .i64 (B.getD j 0)) := by
  obtain ⟨b, off, a, hA, h1, h2, _, _⟩ := h.at hn
  refine ⟨b, off, hA, h1, h2, fun j hj => ?_⟩
  obtain ⟨b', off', a', hA', _, _, h3, h4⟩ := h.at hj
  rw [hA] at hA'
  injection hA' with hA'
  injection hA' with e1 e2
  subst e1 e2
  have e : B.getD j 0 = a' := by rw [List.getD_eq_getElem?_getD, h3]; rfl
  rw [e]
  have := h4 0 _ rfl
  simpa using this

set_option maxHeartbeats 8000000 in
theorem combineN_any (A : Option Addr) (n c lo hi : Nat) (L : List (Int × Int)) (q m c' lo' hi' : Nat) (B : List Int) (w : World) (hP : RdS 2 (FlatR ptC) w lo hi A n L) (hhi : hi ≤ w.heap.size) (hN : RdS 1 (FlatR intC) w lo' hi' (some ⟨q, 0, none⟩) m B) (hhi' : hi' ≤ w.heap.size) (h0 : 0 < n) (hnm : n ≤ m) (hm : m ≤ 1000)
    (hb : ∀ k, k ≤ n → Sm (dotTo (·.1) L B k) ∧ Sm (dotTo (·.2) L B k)) (hx : ∀ k, k < n → Sm ((ptAt L k).1 * B.getD k 0) ∧ Sm ((ptAt L k).2 * B.getD k 0)) :
    Calls Try.prog 25 #[.slice A n c, .slice (some ⟨q, 0, none⟩) m c'] w fun e w' => e = .returned (.agg #[.int .i64 (dotTo (·.1) L B n), .int .i64 (dotTo (·.2) L B n)]) ∧ Below w.heap.size w w' := by
  replace hP := Lib.hid hP
  replace hN := Lib.hid hN
  replace hb := Lib.hid hb
  replace hx := Lib.hid hx
  have hnew := heap_new2 w (.cells #[.int .i64 0, .int .i64 0] 24 (0, 0)) (.cells #[.int .i64 0, .int .i64 0] 24 (0, 0))
  have hB0 : Below w.heap.size w ((w.alloc (.cells #[.int .i64 0, .int .i64 0] 24 (0, 0))).alloc (.cells #[.int .i64 0, .int .i64 0] 24 (0, 0))) := Go.Joins.below_alloc2 _ _ _
  have r0 : PB ((w.alloc (.cells #[.int .i64 0, .int .i64 0] 24 (0, 0))).alloc (.cells #[.int .i64 0, .int .i64 0] 24 (0, 0))) w.heap.size 0 0 := hnew.1
  have s0 : PB ((w.alloc (.cells #[.int .i64 0, .int .i64 0] 24 (0, 0))).alloc (.cells #[.int .i64 0, .int .i64 0] 24 (0, 0))) (w.heap.size + 1) 0 0 := hnew.2
  clear hnew
  go_enter Try.func25, Try.ntmps25
  go_wp2_with fail
  generalize ((w.alloc (.cells #[.int .i64 0, .int .i64 0] 24 (0, 0))).alloc (.cells #[.int .i64 0, .int .i64 0] 24 (0, 0))) = W0 at *
  go_loopw [10] (fun i wr => ∃ (k : Nat) (sx sy : Int), i = .int .i64 k ∧ k ≤ n ∧ sx = dotTo (·.1) L B k ∧ sy = dotTo (·.2) L B k ∧ PB wr w.heap.size 0 0 ∧ PB wr (w.heap.size + 1) sx sy ∧ Below w.heap.size w wr) (fun i wr => n - (intOf i).toNat)
  case atStart => exact ⟨0, 0, 0, rfl, Nat.zero_le _, rfl, rfl, r0, s0, hB0⟩
  case round =>
    obtain ⟨k, sx, sy, rfl, hk, hsx, hsy, hr, hs, hbel⟩ := hrel
    replace hr := Lib.hid hr
    have hz := hbel.size
    by_cases hlt : k < n
    rotate_left
    · have hkn : k = n := by omega
      subst hkn
      obtain ⟨u0, u1, uf, ul⟩ := hs.cells
      obtain ⟨v0, v1, vf, vl⟩ := hr.out.cells
      have hki : ¬ (k : Int) < (k : Int) := by omega
      replace hsx := Lib.hid hsx
      replace hsy := Lib.hid hsy
      clear hs hr
      go_wp2_with fail
      refine bodyPost_ret (v := .agg #[.int .i64 sx, .int .i64 sy]) (by simp [results, Try.results25, go_sem, v0, v1]) rfl ⟨by rw [hsx.out, hsy.out], ?_⟩
      exact (hbel.setCell (p := ⟨w.heap.size, 0, none⟩) (Nat.le_refl _) _).setCell (p := ⟨w.heap.size, 1, none⟩) (Nat.le_refl _) _
    obtain ⟨b, off, rfl, hb0, hbh, hcs⟩ := (hP.out.frame (good_flat _) (Below.sameB hbel hhi)).pts h0
    obtain ⟨a0, a1⟩ := hcs k hlt
    obtain ⟨g, og, hgA, hg0, hgh, hgs⟩ := (hN.out.frame (good_flat _) (Below.sameB hbel hhi')).ints (by omega)
    injection hgA with hgA
    injection hgA with e1 e2
    subst e1 e2
    have d0 := hgs k (by omega)
    rw [Nat.zero_add] at d0
    obtain ⟨m1, m2⟩ := hx.out k hlt
    obtain ⟨n1, n2⟩ := hb.out k hk
    obtain ⟨l1, l2⟩ := hb.out (k + 1) hlt
    have e3 : dotTo (·.1) L B (k + 1) = dotTo (·.1) L B k + (ptAt L k).1 * B.getD k 0 := rfl
    have e4 : dotTo (·.2) L B (k + 1) = dotTo (·.2) L B k + (ptAt L k).2 * B.getD k 0 := rfl
    rw [e3, ← hsx] at l1
    rw [e4, ← hsy] at l2
    rw [← hsx] at n1 e3
    rw [← hsy] at n2 e4
    generalize (ptAt L k).1 = x at *
    generalize (ptAt L k).2 = y at *
    generalize B.getD k 0 = v at *
    unfold Sm at m1 m2 n1 n2 l1 l2
    have hki : (k : Int) < (n : Int) := by omega
    have i1 : (0 : Int) ≤ (k : Int) ∧ (k : Int) < (n : Int) := by omega
    have i2 : (0 : Int) ≤ (k : Int) ∧ (k : Int) < (m : Int) := by omega
    have hpw : b < wr.heap.size := by omega
    have hqw : q < wr.heap.size := by omega
    replace hsx := Lib.hid hsx
    replace hsy := Lib.hid hsy
    replace e3 := Lib.hid e3
    replace e4 := Lib.hid e4
    clear hcs hgs hb0 hbh hg0 hgh
    go_wp2_with fail
    have hV : Below w.heap.size w (wr.alloc (.cells #[.int .i64 x, .int .i64 y] 24 (0, 0))) := hbel.alloc hz _
    have hsV : PB (wr.alloc (.cells #[.int .i64 x, .int .i64 y] 24 (0, 0))) (w.heap.size + 1) sx sy := hs.alloc _
    have hrV := Lib.hid (show PB (wr.alloc (.cells #[.int .i64 x, .int .i64 y] 24 (0, 0))) w.heap.size 0 0 from hr.out.alloc _)
    have htV : PB (wr.alloc (.cells #[.int .i64 x, .int .i64 y] 24 (0, 0))) wr.heap.size x y := heap_alloc_new wr _
    have d1 : (wr.alloc (.cells #[.int .i64 x, .int .i64 y] 24 (0, 0))).cell? ⟨q, k, none⟩ = some (.int .i64 v) := ((Go.Joins.below_alloc1 wr _).cell (p := ⟨q, k, none⟩) hqw).trans d0
    have hqV : q < (wr.alloc (.cells #[.int .i64 x, .int .i64 y] 24 (0, 0))).heap.size := by simp; omega
    have hst : w.heap.size + 1 < wr.heap.size := hs.cells.2.2.2
    have hqt : q < wr.heap.size := hqw
    have hq1 : q ≠ w.heap.size + 1 := by have := hN.out.2 (by omega); obtain ⟨b', o', h1, _, h2, _⟩ := this; injection h1 with h1; injection h1 with h1; subst h1; omega
    clear hs hr a0 a1 hbel hpw hqw d0
    generalize wr.alloc (.cells #[.int .i64 x, .int .i64 y] 24 (0, 0)) = V at *
    obtain ⟨t, ht⟩ : ∃ t, t = wr.heap.size := ⟨_, rfl⟩
    rw [← ht] at htV hst hqt ⊢
    clear ht
    obtain ⟨u0, u1, uf, ul⟩ := hsV.cells
    obtain ⟨t0, t1, tf, tl⟩ := htV.cells
    have f1 : IntKind.i64.wrap (x * v) = x * v := wi (by omega)
    have f2 : IntKind.i64.wrap (sx + x * v) = sx + x * v := wi (by omega)
    have f3 : IntKind.i64.wrap (y * v) = y * v := wi (by omega)
    have f4 : IntKind.i64.wrap (sy + y * v) = sy + y * v := wi (by omega)
    clear m1 m2 n1 n2 l1 l2
    go_still_tail 11, (by kernel_rfl)
    replace hsV := hsV.drew
    replace htV := htV.drew
    replace hV := hV.drew
    replace hrV := Lib.hid hrV.out.drew
    replace d1 : V.drew.cell? ⟨q, k, none⟩ = some (.int .i64 v) := d1
    replace hqV : q < V.drew.heap.size := hqV
    clear u0 u1 uf ul t0 t1 tf tl
    change wpList _ _ _ _ _ V.drew
    generalize V.drew = V2 at *
    obtain ⟨u0, u1, uf, ul⟩ := hsV.cells
    go_wp2_with fail
    replace htV : PB (V2.setCell ⟨w.heap.size + 1, 0, none⟩ (.int .i64 (sx + x * v))) t x y := htV.off (by omega)
    replace hsV : PB (V2.setCell ⟨w.heap.size + 1, 0, none⟩ (.int .i64 (sx + x * v))) (w.heap.size + 1) (sx + x * v) sy := hsV.put0 _
    replace hV : Below w.heap.size w (V2.setCell ⟨w.heap.size + 1, 0, none⟩ (.int .i64 (sx + x * v))) := hV.setCell (p := ⟨w.heap.size + 1, 0, none⟩) (by show w.heap.size ≤ w.heap.size + 1; omega) _
    replace hrV : Hid (PB (V2.setCell ⟨w.heap.size + 1, 0, none⟩ (.int .i64 (sx + x * v))) w.heap.size 0 0) := hrV.out.off (by omega)
    replace d1 : (V2.setCell ⟨w.heap.size + 1, 0, none⟩ (.int .i64 (sx + x * v))).cell? ⟨q, k, none⟩ = some (.int .i64 v) := (World.cell?_of_block (w := V2) (Below.heap_setCell _ _ _ _ (by show q ≠ w.heap.size + 1; exact hq1))).trans d1
    replace hqV : q < (V2.setCell ⟨w.heap.size + 1, 0, none⟩ (.int .i64 (sx + x * v))).heap.size := by simpa using hqV
    clear u0 u1 uf ul
    generalize V2.setCell ⟨w.heap.size + 1, 0, none⟩ (.int .i64 (sx + x * v)) = V3 at *
    obtain ⟨u0, u1, uf, ul⟩ := hsV.cells
    obtain ⟨t0, t1, tf, tl⟩ := htV.cells
    go_still_tail 11, (by kernel_rfl)
    replace hsV := hsV.drew
    replace hV := hV.drew
    replace hrV := Lib.hid hrV.out.drew
    clear u0 u1 uf ul t0 t1 tf tl d1 hqV htV
    change wpList _ _ _ _ _ V3.drew
    generalize V3.drew = V4 at *
    obtain ⟨u0, u1, uf, ul⟩ := hsV.cells
    go_wp2_with fail
    go_roundw
    case rel => exact ⟨k + 1, sx + x * v, sy + y * v, by go_num, by omega, e3.out.symm, e4.out.symm, hrV.out.off (by omega), hsV.put1 _, hV.setCell (p := ⟨w.heap.size + 1, 1, none⟩) (by show w.heap.size ≤ w.heap.size + 1; omega) _⟩
    case measure => simp [intOf]; omega
end Go.Proofs.Ytpmpbfkpiocleaa

