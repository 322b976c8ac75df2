/- The law on ScaleOutline. Conditions: as it states. -/
import Derived.Test.YtpjmpbdbfldnaaaScaleS
import Derived.Test.YtpjmpbdbfldnaaaOutSm2
import Derived.Test.YtpjmpbdbfldnaaaOutE
import Derived.Deep.RegionHeld3
import Derived.Deep.DeepCutAuto
namespace Go.Proofs.Ytpjmpbdbfldnaaa
open Go.RowKit
set_option linter.unusedVariables false
set_option maxRecDepth 100000

set_option maxHeartbeats 16000000 in
theorem lawScale_walk (A : Option Addr) (n c : Nat) (Ls : List (List Knot)) (x y : Int) {w : World} (hm : n ≤ maxLen) (hr : OutRd w 0 w.heap.size A n Ls) (_ : (Lit.int .i64 x).wf = true) (_ : (Lit.int .i64 y).wf = true) :
    Calls Try.prog 7 #[.agg #[.slice A n c], .int .i64 x, .int .i64 y] w fun e w' => e = .returned (.bool true) ∧ Below w.heap.size w w' := by
  have hll := Lib.hid hr.1
  unfold maxLen at hm
  obtain ⟨R, hR⟩ : ∃ R, R = (scaleOf x y Ls).1 := ⟨_, rfl⟩
  obtain ⟨code, hcode⟩ : ∃ z, z = (scaleOf x y Ls).2 := ⟨_, rfl⟩
  have hsm : outSize Ls ≤ 1048576 → OutSm Ls ∧ OutSm R := fun h => by
    have h1 : OutSm Ls := by unfold outSize at h; exact ⟨by omega, by unfold kN; omega⟩
    exact ⟨h1, hR ▸ outScaleSm h1⟩
  have hspec := Lib.hid (fun (A' : Option Addr) (n' c' lo hi : Nat) (W : World) (h1 : OutRd W lo hi A' n' Ls) (h2 : hi ≤ W.heap.size) (h3 : OutSm Ls) => specScale_any A' n' c' lo hi Ls x y W h1 h2 (by rw [← h1.1]; exact h3.1) h3.k)
  have himpl := Lib.hid (fun (A' : Option Addr) (n' c' lo hi : Nat) (W : World) (h1 : OutRd W lo hi A' n' Ls) (h2 : hi ≤ W.heap.size) (h3 : OutSm Ls) => implScale_any A' n' c' lo hi Ls x y W h1 h2 (by rw [← h1.1]; exact h3.1) h3.k)
  rw [← hR, ← hcode] at hspec himpl
  replace hsm := Lib.hid hsm
  replace hr := Lib.hid hr
  clear hR hcode
  have hs0 : Hid ((w.alloc (.cells #[.slice A n c] 37 (0, 0))).cell? ⟨w.heap.size, 0, none⟩ = some (.slice A n c)) := by show _ = _; rw [Go.Joins.cell_of_block (heap_alloc_new w _)]; rfl
  go_enter Try.func7, Try.ntmps7
  go_wp2_with fail
  refine (szOutline_any A n c 0 w.heap.size Ls 1048576 _ (hr.out.frame good_loop ((SameB.refl _ _ w).alloc (Nat.le_refl _) _)) (by first | omega | (simp <;> omega)) hm (by omega) (by omega)).mono ?_
  rintro e w1 ⟨r1, rfl, hr1, hc1⟩
  have hz1 : w.heap.size + 1 ≤ w1.heap.size := by have := hc1.size; simp at this; omega
  have hB1 : Below w.heap.size w w1 := (Go.Joins.below_alloc1 _ _).trans (hc1.mono (by first | omega | (simp <;> omega)))
  have hs1 : Hid (w1.cell? ⟨w.heap.size, 0, none⟩ = some (.slice A n c)) := (hc1.cell (by first | omega | (simp <;> omega))).trans hs0.out
  rcases hr1 with hn1 | ⟨hn1, he1⟩
  · clear hs0 hs1
    go_wp2_with fail
    go_ret
    exact ⟨rfl, hB1⟩
  obtain ⟨sL, sR⟩ := hsm.out (by omega)
  have hn : n ≤ 1048576 := by rw [← hll.out]; exact sL.1
  have hRn := sR.1
  replace sL := Lib.hid sL
  replace sR := Lib.hid sR
  clear hc1 hs0 he1 hsm
  have s10 := hs1.out
  go_wp2_with fail
  refine (toOutline_any A n c 0 w.heap.size Ls _ ?_ ?_ hn sL.out.k).mono ?_
  · exact (hr.out.frame good_loop (Below.sameB hB1 (Nat.le_refl _)))
  · exact hB1.size
  rintro e w3 ⟨A3, rfl, ho3, hc3⟩
  have hy3 : w1.heap.size ≤ w3.heap.size := hc3.size
  have hB3 : Below w.heap.size w w3 := hB1.trans (hc3.mono hB1.size)
  have hs3 : Hid (w3.cell? ⟨w.heap.size, 0, none⟩ = some (.slice A n c)) := (hc3.cell (by first | omega | (simp <;> omega))).trans hs1.out
  replace ho3 := Lib.hid ho3
  go_wp2_with fail
  refine (hspec.out A3 n n w1.heap.size w3.heap.size _ ?_ (Nat.le_refl _) sL.out).mono ?_
  · exact ho3.out.rd (fun K h => by have := sL.out.k K h; unfold maxLen; omega)
  rintro e w5 ⟨A5, n5, c5, rfl, ho5, hc5⟩
  have hy5 : w3.heap.size ≤ w5.heap.size := hc5.size
  have hB5 : Below w.heap.size w w5 := hB3.trans (hc5.mono hB3.size)
  have hs5 : Hid (w5.cell? ⟨w.heap.size, 0, none⟩ = some (.slice A n c)) := (hc5.cell (by first | omega | (simp <;> omega))).trans hs3.out
  have t6 : (w5.alloc (.cells #[.slice A5 n5 c5] 41 (0, 0))).cell? ⟨w5.heap.size, 0, none⟩ = some (.slice A5 n5 c5) := by rw [Go.Joins.cell_of_block (heap_alloc_new w5 _)]; rfl
  have rdw : OutRd (w5.alloc (.cells #[.slice A5 n5 c5] 41 (0, 0))) 0 (w5.alloc (.cells #[.slice A5 n5 c5] 41 (0, 0))).heap.size A5 n5 R := (((ho5.rd (fun K h => by have := sR.out.k K h; unfold maxLen; omega)).frame good_loop ((SameB.refl _ _ _).alloc (Nat.le_refl _) _)).wide good_loop (Nat.zero_le _) (by simp))
  have hl6 : w5.heap.size < (w5.alloc (.cells #[.slice A5 n5 c5] 41 (0, 0))).heap.size := by simp
  have hb6 : Below w1.heap.size w1 (w5.alloc (.cells #[.slice A5 n5 c5] 41 (0, 0))) := (hc3.trans (hc5.mono hc3.size)).alloc (Nat.le_trans hc3.size hc5.size) _
  clear ho3 ho5 hc3 hc5 hs3 s10
  have s50 := hs5.out
  have hx5 : w.heap.size < w5.heap.size := by omega
  go_wp2_with fail
  clear s50 hx5 hs5
  generalize w5.alloc (.cells #[.slice A5 n5 c5] 41 (0, 0)) = w6 at *
  have hy6 := hb6.size
  have hB6 : Below w.heap.size w w6 := hB1.trans (hb6.mono hB1.size)
  have hs6 : Hid (w6.cell? ⟨w.heap.size, 0, none⟩ = some (.slice A n c) ∧ w6.cell? ⟨w5.heap.size, 0, none⟩ = some (.slice A5 n5 c5)) := ⟨(hb6.cell (by first | omega | (simp <;> omega))).trans hs1.out, t6⟩
  replace rdw := Lib.hid rdw
  have hn5 : n5 ≤ 1048576 := by rw [← rdw.out.1]; exact hRn
  clear hb6 t6
  clear hs1
  obtain ⟨s60, s61⟩ := hs6.out
  skip
  refine (toOutline_any A n c 0 w.heap.size Ls _ (hr.out.frame good_loop (Below.sameB hB6 (Nat.le_refl _))) hB6.size hn sL.out.k).mono ?_
  rintro e w7 ⟨A7, rfl, ho7, hc7⟩
  obtain ⟨ys7, in7⟩ := ho7.in
  clear ho7
  have hy7 := hc7.size
  (try simp at hy7)
  have hB7 : Below w.heap.size w w7 := hB6.trans (hc7.mono hB6.size)
  have hs7 : Hid (w7.cell? ⟨w.heap.size, 0, none⟩ = some (.slice A n c) ∧ w7.cell? ⟨w5.heap.size, 0, none⟩ = some (.slice A5 n5 c5)) := ⟨(hc7.cell (by first | omega | (simp <;> omega))).trans hs6.out.1, (hc7.cell (by first | omega | (simp <;> omega))).trans hs6.out.2⟩
  replace rdw := Lib.hid (rdw.out.frame good_loop (Below.sameB hc7 (by first | omega | (simp <;> omega))))
  clear s60 s61 hs6
  clear hc7
  have hB8 : Below w.heap.size w (w7.alloc (.cells #[.slice A7 n n] 41 (0, 0))) := hB7.alloc hB7.size _
  have hs8 : Hid ((w7.alloc (.cells #[.slice A7 n n] 41 (0, 0))).cell? ⟨w.heap.size, 0, none⟩ = some (.slice A n c) ∧ (w7.alloc (.cells #[.slice A7 n n] 41 (0, 0))).cell? ⟨w5.heap.size, 0, none⟩ = some (.slice A5 n5 c5) ∧ (w7.alloc (.cells #[.slice A7 n n] 41 (0, 0))).cell? ⟨w7.heap.size, 0, none⟩ = some (.slice A7 n n)) := ⟨Lib.cell?_alloc_some _ (hs7.out.1), Lib.cell?_alloc_some _ (hs7.out.2), by rw [Go.Joins.cell_of_block (heap_alloc_new w7 _)]; rfl⟩
  have inx : Hid (OutIn (w7.alloc (.cells #[.slice A7 n n] 41 (0, 0))) w6.heap.size w7.heap.size A7 n n ys7 Ls) := in7.same ((SameB.refl _ _ _).alloc (Nat.le_refl _) _)
  replace rdw := Lib.hid (rdw.out.frame good_loop ((SameB.refl _ _ _).alloc hy7 (.cells #[.slice A7 n n] 41 (0, 0))))
  have hy8 : w7.heap.size < (w7.alloc (.cells #[.slice A7 n n] 41 (0, 0))).heap.size := by simp
  clear in7
  obtain ⟨s80, s81, s82⟩ := hs8.out
  go_wp2_with fail
  generalize w7.alloc (.cells #[.slice A7 n n] 41 (0, 0)) = w8 at *
  go_wp2_with fail
  refine (himpl.out A7 n n w6.heap.size w7.heap.size w8 (inx.out.rdIn sL.out) (by omega) sL.out).mono ?_
  rintro e w10 ⟨A9, n9, c9, rfl, ho10, hc10⟩
  have hy10 : w8.heap.size ≤ w10.heap.size := hc10.size
  have hB10 : Below w.heap.size w w10 := hB8.trans (hc10.mono hB8.size)
  have hs10 : Hid (w10.cell? ⟨w.heap.size, 0, none⟩ = some (.slice A n c) ∧ w10.cell? ⟨w5.heap.size, 0, none⟩ = some (.slice A5 n5 c5) ∧ w10.cell? ⟨w7.heap.size, 0, none⟩ = some (.slice A7 n n)) := ⟨(hc10.cell (by first | omega | (simp <;> omega))).trans hs8.out.1, (hc10.cell (by first | omega | (simp <;> omega))).trans hs8.out.2.1, (hc10.cell (by first | omega | (simp <;> omega))).trans hs8.out.2.2⟩
  obtain ⟨ys9, in9⟩ := ho10.in
  obtain ⟨lo9, hlo9⟩ : ∃ v, v = w8.heap.size := ⟨_, rfl⟩
  obtain ⟨hi9, hhi9⟩ : ∃ v, v = w10.heap.size := ⟨_, rfl⟩
  rw [← hlo9, ← hhi9] at in9
  have t9 : (w10.alloc (.cells #[.slice A9 n9 c9] 41 (0, 0))).cell? ⟨w10.heap.size, 0, none⟩ = some (.slice A9 n9 c9) := by rw [Go.Joins.cell_of_block (heap_alloc_new w10 _)]; rfl
  have hz11 : w10.heap.size < (w10.alloc (.cells #[.slice A9 n9 c9] 41 (0, 0))).heap.size := by simp
  have ing : OutIn (w10.alloc (.cells #[.slice A9 n9 c9] 41 (0, 0))) lo9 hi9 A9 n9 c9 ys9 R := in9.same ((SameB.refl _ _ _).alloc (by omega) _)
  have hb11 : Below w8.heap.size w8 (w10.alloc (.cells #[.slice A9 n9 c9] 41 (0, 0))) := hc10.alloc hc10.size _
  have hl9 : w8.heap.size ≤ lo9 := by omega
  have hg9 : lo9 ≤ (w10.alloc (.cells #[.slice A9 n9 c9] 41 (0, 0))).heap.size := by omega
  have hh9 : hi9 ≤ (w10.alloc (.cells #[.slice A9 n9 c9] 41 (0, 0))).heap.size := by omega
  have hb9l : w8.heap.size ≤ w10.heap.size := by omega
  have hb9h : w10.heap.size < (w10.alloc (.cells #[.slice A9 n9 c9] 41 (0, 0))).heap.size := by omega
  have hb9o : w10.heap.size < lo9 ∨ hi9 ≤ w10.heap.size := by omega
  clear ho10 in9 hc10 hlo9 hhi9
  obtain ⟨s100, s101, s102⟩ := hs10.out
  have hx1 : w5.heap.size < w10.heap.size := by omega
  have hx2 : w7.heap.size < w10.heap.size := by omega
  have hx3 : w.heap.size < w10.heap.size := by omega
  go_wp2_with fail
  clear s100 s101 s102 hs10 hx1 hx2 hx3
  generalize w10.alloc (.cells #[.slice A9 n9 c9] 41 (0, 0)) = w11 at *
  have hy11 := hb11.size
  have hB11 : Below w.heap.size w w11 := hB8.trans (hb11.mono hB8.size)
  have hs11 : Hid (w11.cell? ⟨w.heap.size, 0, none⟩ = some (.slice A n c) ∧ w11.cell? ⟨w5.heap.size, 0, none⟩ = some (.slice A5 n5 c5) ∧ w11.cell? ⟨w7.heap.size, 0, none⟩ = some (.slice A7 n n) ∧ w11.cell? ⟨w10.heap.size, 0, none⟩ = some (.slice A9 n9 c9)) := ⟨(hb11.cell (by first | omega | (simp <;> omega))).trans (hs8.out.1), (hb11.cell (by first | omega | (simp <;> omega))).trans (hs8.out.2.1), (hb11.cell (by first | omega | (simp <;> omega))).trans (hs8.out.2.2), t9⟩
  replace ing := Lib.hid ing
  replace rdw := Lib.hid (rdw.out.frame good_loop (Below.sameB hb11 (by first | omega | (simp <;> omega))))
  replace inx := Lib.hid (inx.out.same (Below.sameB hb11 (by first | omega | (simp <;> omega))))
  have hn9 : n9 ≤ 1048576 := by rw [← ing.out.1]; exact hRn
  clear hb11 t9 hs7
  clear s80 s81 s82 hs8
  obtain ⟨s110, s111, s112, s113⟩ := hs11.out
  skip
  refine (eqOutline_any A9 A5 n9 c9 n5 c5 lo9 hi9 0 w6.heap.size R _ (ing.out.rdIn sR.out) rdw.out (by first | omega | (simp <;> omega)) (by first | omega | (simp <;> omega)) (by omega) (fun K h => by have := sR.out.k K h; omega)).mono ?_
  rintro e w12 ⟨rfl, hc12⟩
  have hy12 := hc12.size
  (try simp at hy12)
  have hB12 : Below w.heap.size w w12 := hB11.trans (hc12.mono hB11.size)
  have hs12 : Hid (w12.cell? ⟨w.heap.size, 0, none⟩ = some (.slice A n c) ∧ w12.cell? ⟨w5.heap.size, 0, none⟩ = some (.slice A5 n5 c5) ∧ w12.cell? ⟨w7.heap.size, 0, none⟩ = some (.slice A7 n n) ∧ w12.cell? ⟨w10.heap.size, 0, none⟩ = some (.slice A9 n9 c9)) := ⟨(hc12.cell (by first | omega | (simp <;> omega))).trans hs11.out.1, (hc12.cell (by first | omega | (simp <;> omega))).trans hs11.out.2.1, (hc12.cell (by first | omega | (simp <;> omega))).trans hs11.out.2.2.1, (hc12.cell (by first | omega | (simp <;> omega))).trans hs11.out.2.2.2⟩
  replace rdw := Lib.hid (rdw.out.frame good_loop (Below.sameB hc12 (by first | omega | (simp <;> omega))))
  replace inx := Lib.hid (inx.out.same (Below.sameB hc12 (by first | omega | (simp <;> omega))))
  replace ing := Lib.hid (ing.out.same (Below.sameB hc12 (by first | omega | (simp <;> omega))))
  clear s110 s111 s112 s113 hs11
  clear hc12
  go_upto_region 10 with fail
  go_region_held3 (fun w' => w'.cell? ⟨w.heap.size, 0, none⟩ = some (.slice A n c) ∧ w'.cell? ⟨w7.heap.size, 0, none⟩ = some (.slice A7 n n)) (first | exact ⟨hs12.out.1, hs12.out.2.2.1⟩ | exact ⟨hs13.out.1, hs13.out.2.2.1⟩ | exact ⟨hs14.out.1, hs14.out.2.2.1⟩)
    (first | (go_at_call 30; (with_reducible refine (toOutline_any A n c 0 w.heap.size Ls _ ?_ ?_ hn sL.out.k).mono ?_); exact (hr.out.frame good_loop (Below.sameB hB12.drew (Nat.le_refl _))); exact hB12.size; rintro e w13 ⟨A13, rfl, ho13, hc13⟩; have hy13 := hc13.size; (try simp at hy13); have hB13 : Below w.heap.size w w13 := hB12.drew.trans (hc13.mono hB12.size); have hb13 : Below w12.heap.size w12 w13 := (Below.refl _ _).drew.trans hc13; have hs13 : Hid (w13.cell? ⟨w.heap.size, 0, none⟩ = some (.slice A n c) ∧ w13.cell? ⟨w5.heap.size, 0, none⟩ = some (.slice A5 n5 c5) ∧ w13.cell? ⟨w7.heap.size, 0, none⟩ = some (.slice A7 n n) ∧ w13.cell? ⟨w10.heap.size, 0, none⟩ = some (.slice A9 n9 c9)) := ⟨(hb13.cell (by first | omega | (simp <;> omega))).trans hs12.out.1, (hb13.cell (by first | omega | (simp <;> omega))).trans hs12.out.2.1, (hb13.cell (by first | omega | (simp <;> omega))).trans hs12.out.2.2.1, (hb13.cell (by first | omega | (simp <;> omega))).trans hs12.out.2.2.2⟩; replace rdw := Lib.hid (rdw.out.frame good_loop (Below.sameB hb13 (by first | omega | (simp <;> omega)))); replace inx := Lib.hid (inx.out.same (Below.sameB hb13 (by first | omega | (simp <;> omega)))); replace ing := Lib.hid (ing.out.same (Below.sameB hb13 (by first | omega | (simp <;> omega)))); clear hc13 hb13; replace ho13 := Lib.hid ho13) | (go_at_call 32; (with_reducible refine (eqOutline_any A7 A13 n n n n w6.heap.size w7.heap.size w12.heap.size w13.heap.size Ls _ ?_ ?_ ?_ ?_ ?_ ?_).mono ?_); exact (inx.out.rdIn sL.out); exact (ho13.out.rd (fun K h => by have := sL.out.k K h; unfold maxLen; omega)); (first | omega | (simp <;> omega)); exact Nat.le_refl _; omega; (intro K h; have := sL.out.k K h; omega); rintro e w14 ⟨rfl, hc14⟩; have hy14 := hc14.size; have hB14 : Below w.heap.size w w14 := hB13.trans (hc14.mono hB13.size); have hs14 : Hid (w14.cell? ⟨w.heap.size, 0, none⟩ = some (.slice A n c) ∧ w14.cell? ⟨w5.heap.size, 0, none⟩ = some (.slice A5 n5 c5) ∧ w14.cell? ⟨w7.heap.size, 0, none⟩ = some (.slice A7 n n) ∧ w14.cell? ⟨w10.heap.size, 0, none⟩ = some (.slice A9 n9 c9)) := ⟨(hc14.cell (by first | omega | (simp <;> omega))).trans hs13.out.1, (hc14.cell (by first | omega | (simp <;> omega))).trans hs13.out.2.1, (hc14.cell (by first | omega | (simp <;> omega))).trans hs13.out.2.2.1, (hc14.cell (by first | omega | (simp <;> omega))).trans hs13.out.2.2.2⟩; replace rdw := Lib.hid (rdw.out.frame good_loop (Below.sameB hc14 (by first | omega | (simp <;> omega)))); replace inx := Lib.hid (inx.out.same (Below.sameB hc14 (by first | omega | (simp <;> omega)))); replace ing := Lib.hid (ing.out.same (Below.sameB hc14 (by first | omega | (simp <;> omega)))); clear hc14))
  clear hs12 hs13 ho13
  obtain ⟨s140, s141, s142, s143⟩ := hs14.out
  go_wp2_with fail
  refine (markOutline_any A7 n n w6.heap.size w7.heap.size ys7 Ls 1 _ inx.out (by first | omega | (simp <;> omega)) (by first | omega | (simp <;> omega)) (by omega) (by omega) hn sL.out.2).mono ?_
  rintro e w15 ⟨rfl, hbm, hsm, inx'⟩
  have hy15 := hbm.size
  have hB15 : Below w.heap.size w w15 := hB14.trans (hbm.mono (by have := hB6.size; omega))
  have hs15 : Hid (w15.cell? ⟨w.heap.size, 0, none⟩ = some (.slice A n c) ∧ w15.cell? ⟨w5.heap.size, 0, none⟩ = some (.slice A5 n5 c5) ∧ w15.cell? ⟨w7.heap.size, 0, none⟩ = some (.slice A7 n n) ∧ w15.cell? ⟨w10.heap.size, 0, none⟩ = some (.slice A9 n9 c9)) := ⟨(hbm.cell (by have := hB6.size; first | omega | (simp <;> omega))).trans (hs14.out.1), (hbm.cell (by have := hB6.size; first | omega | (simp <;> omega))).trans (hs14.out.2.1), (hsm.cell (by first | omega | (simp <;> omega)) (by first | omega | (simp <;> omega))).trans (hs14.out.2.2.1), (hsm.cell (by first | omega | (simp <;> omega)) (by first | omega | (simp <;> omega))).trans (hs14.out.2.2.2)⟩
  replace rdw := Lib.hid (rdw.out.frame good_loop (Below.sameB hbm (Nat.le_refl _)))
  replace ing := Lib.hid (ing.out.same (hsm.mono (by first | omega | (simp <;> omega)) (by first | omega | (simp <;> omega))))
  clear hbm hsm inx inx'
  clear s140 s141 s142 s143 hs14
  have hk0 : (0 : Int) ≤ 1 + 3 * (kN Ls : Int) := by omega
  obtain ⟨s150, s151, s152, s153⟩ := hs15.out
  go_wp2_with fail
  refine (eqOutline_any A9 A5 n9 c9 n5 c5 lo9 hi9 0 w6.heap.size R _ (ing.out.rdIn sR.out) rdw.out (by first | omega | (simp <;> omega)) (by first | omega | (simp <;> omega)) (by omega) (fun K h => by have := sR.out.k K h; omega)).mono ?_
  rintro e w16 ⟨rfl, hc16⟩
  have hy16 := hc16.size
  (try simp at hy16)
  have hB16 : Below w.heap.size w w16 := hB15.trans (hc16.mono hB15.size)
  have hs16 : Hid (w16.cell? ⟨w.heap.size, 0, none⟩ = some (.slice A n c) ∧ w16.cell? ⟨w5.heap.size, 0, none⟩ = some (.slice A5 n5 c5) ∧ w16.cell? ⟨w7.heap.size, 0, none⟩ = some (.slice A7 n n) ∧ w16.cell? ⟨w10.heap.size, 0, none⟩ = some (.slice A9 n9 c9)) := ⟨(hc16.cell (by first | omega | (simp <;> omega))).trans hs15.out.1, (hc16.cell (by first | omega | (simp <;> omega))).trans hs15.out.2.1, (hc16.cell (by first | omega | (simp <;> omega))).trans hs15.out.2.2.1, (hc16.cell (by first | omega | (simp <;> omega))).trans hs15.out.2.2.2⟩
  replace rdw := Lib.hid (rdw.out.frame good_loop (Below.sameB hc16 (by first | omega | (simp <;> omega))))
  replace ing := Lib.hid (ing.out.same (Below.sameB hc16 (by first | omega | (simp <;> omega))))
  clear s150 s151 s152 s153 hs15
  clear hc16
  obtain ⟨s160, s161, s162, s163⟩ := hs16.out
  go_wp2_with fail
  refine (markOutline_any A9 n9 c9 lo9 hi9 ys9 R 1 _ ing.out (by first | omega | (simp <;> omega)) (by first | omega | (simp <;> omega)) (by omega) (by omega) hn9 sR.out.2).mono ?_
  rintro e w17 ⟨rfl, hbm, hsm, ing'⟩
  have hy17 := hbm.size
  have hB17 : Below w.heap.size w w17 := hB16.trans (hbm.mono (by have := hB6.size; omega))
  have hc9 : w17.cell? ⟨w10.heap.size, 0, none⟩ = some (.slice A9 n9 c9) := by
    rcases hb9o with hb9o | hb9o
    · exact (hbm.cell (by first | omega | (simp <;> omega))).trans (hs16.out.2.2.2)
    · exact (hsm.cell (by first | omega | (simp <;> omega)) (by first | omega | (simp <;> omega))).trans (hs16.out.2.2.2)
  have hs17 : Hid (w17.cell? ⟨w.heap.size, 0, none⟩ = some (.slice A n c) ∧ w17.cell? ⟨w5.heap.size, 0, none⟩ = some (.slice A5 n5 c5) ∧ w17.cell? ⟨w7.heap.size, 0, none⟩ = some (.slice A7 n n) ∧ w17.cell? ⟨w10.heap.size, 0, none⟩ = some (.slice A9 n9 c9)) := ⟨(hbm.cell (by have := hB6.size; first | omega | (simp <;> omega))).trans (hs16.out.1), (hbm.cell (by have := hB6.size; first | omega | (simp <;> omega))).trans (hs16.out.2.1), (hbm.cell (by have := hB6.size; first | omega | (simp <;> omega))).trans (hs16.out.2.2.1), hc9⟩
  replace rdw := Lib.hid (rdw.out.frame good_loop (Below.sameB hbm (by first | omega | (simp <;> omega))))
  replace ing := Lib.hid ing'
  have hkR : (0 : Int) ≤ 1 + 3 * (kN R : Int) := by omega
  clear hbm hsm hc9 ing'
  clear s160 s161 s162 s163 hs16
  obtain ⟨s170, s171, s172, s173⟩ := hs17.out
  go_wp2_with fail
  refine (heldOutline_any A9 n9 c9 lo9 hi9 R 1 _ (ing.out.rdIn (sR.out.mk 1)) (by first | omega | (simp <;> omega)) (by omega) (by omega) hn9 sR.out.2).mono ?_
  rintro e w18 ⟨rfl, hc18⟩
  have hy18 := hc18.size
  (try simp at hy18)
  have hB18 : Below w.heap.size w w18 := hB17.trans (hc18.mono hB17.size)
  have hs18 : Hid (w18.cell? ⟨w.heap.size, 0, none⟩ = some (.slice A n c) ∧ w18.cell? ⟨w5.heap.size, 0, none⟩ = some (.slice A5 n5 c5) ∧ w18.cell? ⟨w7.heap.size, 0, none⟩ = some (.slice A7 n n) ∧ w18.cell? ⟨w10.heap.size, 0, none⟩ = some (.slice A9 n9 c9)) := ⟨(hc18.cell (by first | omega | (simp <;> omega))).trans hs17.out.1, (hc18.cell (by first | omega | (simp <;> omega))).trans hs17.out.2.1, (hc18.cell (by first | omega | (simp <;> omega))).trans hs17.out.2.2.1, (hc18.cell (by first | omega | (simp <;> omega))).trans hs17.out.2.2.2⟩
  replace rdw := Lib.hid (rdw.out.frame good_loop (Below.sameB hc18 (by first | omega | (simp <;> omega))))
  replace ing := Lib.hid (ing.out.same (Below.sameB hc18 (by first | omega | (simp <;> omega))))
  clear s170 s171 s172 s173 hs17
  clear hc18
  obtain ⟨s180, s181, s182, s183⟩ := hs18.out
  go_wp2_with fail
  refine (toOutline_any A n c 0 w.heap.size Ls _ ?_ ?_ hn sL.out.k).mono ?_
  · exact (hr.out.frame good_loop (Below.sameB hB18 (Nat.le_refl _)))
  · exact hB18.size
  rintro e w20 ⟨A20, rfl, ho20, hc20⟩
  have hy20 : w18.heap.size ≤ w20.heap.size := hc20.size
  have hB20 : Below w.heap.size w w20 := hB18.trans (hc20.mono hB18.size)
  have hs20 : Hid (w20.cell? ⟨w.heap.size, 0, none⟩ = some (.slice A n c) ∧ w20.cell? ⟨w5.heap.size, 0, none⟩ = some (.slice A5 n5 c5) ∧ w20.cell? ⟨w7.heap.size, 0, none⟩ = some (.slice A7 n n) ∧ w20.cell? ⟨w10.heap.size, 0, none⟩ = some (.slice A9 n9 c9)) := ⟨(hc20.cell (by first | omega | (simp <;> omega))).trans hs18.out.1, (hc20.cell (by first | omega | (simp <;> omega))).trans hs18.out.2.1, (hc20.cell (by first | omega | (simp <;> omega))).trans hs18.out.2.2.1, (hc20.cell (by first | omega | (simp <;> omega))).trans hs18.out.2.2.2⟩
  replace ho20 := Lib.hid ho20
  go_wp2_with fail
  refine (himpl.out A20 n n w18.heap.size w20.heap.size _ ?_ (Nat.le_refl _) sL.out).mono ?_
  · exact ho20.out.rd (fun K h => by have := sL.out.k K h; unfold maxLen; omega)
  rintro e w22 ⟨A22, n22, c22, rfl, ho22, hc22⟩
  have hy22 : w20.heap.size ≤ w22.heap.size := hc22.size
  have hB22 : Below w.heap.size w w22 := hB20.trans (hc22.mono hB20.size)
  have hs22 : Hid (w22.cell? ⟨w.heap.size, 0, none⟩ = some (.slice A n c) ∧ w22.cell? ⟨w5.heap.size, 0, none⟩ = some (.slice A5 n5 c5) ∧ w22.cell? ⟨w7.heap.size, 0, none⟩ = some (.slice A7 n n) ∧ w22.cell? ⟨w10.heap.size, 0, none⟩ = some (.slice A9 n9 c9)) := ⟨(hc22.cell (by first | omega | (simp <;> omega))).trans hs20.out.1, (hc22.cell (by first | omega | (simp <;> omega))).trans hs20.out.2.1, (hc22.cell (by first | omega | (simp <;> omega))).trans hs20.out.2.2.1, (hc22.cell (by first | omega | (simp <;> omega))).trans hs20.out.2.2.2⟩
  have t14 : (w22.alloc (.cells #[.slice A22 n22 c22] 41 (0, 0))).cell? ⟨w22.heap.size, 0, none⟩ = some (.slice A22 n22 c22) := by rw [Go.Joins.cell_of_block (heap_alloc_new w22 _)]; rfl
  have rdh : OutRd (w22.alloc (.cells #[.slice A22 n22 c22] 41 (0, 0))) 0 (w22.alloc (.cells #[.slice A22 n22 c22] 41 (0, 0))).heap.size A22 n22 R := (((ho22.rd (fun K h => by have := sR.out.k K h; unfold maxLen; omega)).frame good_loop ((SameB.refl _ _ _).alloc (Nat.le_refl _) _)).wide good_loop (Nat.zero_le _) (by simp))
  have hl14 : w22.heap.size < (w22.alloc (.cells #[.slice A22 n22 c22] 41 (0, 0))).heap.size := by simp
  have hb23 : Below w18.heap.size w18 (w22.alloc (.cells #[.slice A22 n22 c22] 41 (0, 0))) := (hc20.trans (hc22.mono hc20.size)).alloc (Nat.le_trans hc20.size hc22.size) _
  clear ho20 ho22 hc20 hc22 hs20
  obtain ⟨s220, s221, s222, s223⟩ := hs22.out
  have hx1 : w5.heap.size < w22.heap.size := by omega
  have hx2 : w7.heap.size < w22.heap.size := by omega
  have hx3 : w.heap.size < w22.heap.size := by omega
  have hx4 : w10.heap.size < w22.heap.size := by omega
  go_wp2_with fail
  clear s220 s221 s222 s223 hs22 hx1 hx2 hx3 hx4
  generalize w22.alloc (.cells #[.slice A22 n22 c22] 41 (0, 0)) = w23 at *
  have hn22 : n22 ≤ 1048576 := by rw [← rdh.1]; exact hRn
  replace rdh := Lib.hid rdh
  have hy23 := hb23.size
  (try simp at hy23)
  have hB23 : Below w.heap.size w w23 := hB18.trans (hb23.mono hB18.size)
  have hs23 : Hid (w23.cell? ⟨w.heap.size, 0, none⟩ = some (.slice A n c) ∧ w23.cell? ⟨w5.heap.size, 0, none⟩ = some (.slice A5 n5 c5) ∧ w23.cell? ⟨w7.heap.size, 0, none⟩ = some (.slice A7 n n) ∧ w23.cell? ⟨w10.heap.size, 0, none⟩ = some (.slice A9 n9 c9)) := ⟨(hb23.cell (by first | omega | (simp <;> omega))).trans hs18.out.1, (hb23.cell (by first | omega | (simp <;> omega))).trans hs18.out.2.1, (hb23.cell (by first | omega | (simp <;> omega))).trans hs18.out.2.2.1, (hb23.cell (by first | omega | (simp <;> omega))).trans hs18.out.2.2.2⟩
  replace rdw := Lib.hid (rdw.out.frame good_loop (Below.sameB hb23 (by first | omega | (simp <;> omega))))
  replace ing := Lib.hid (ing.out.same (Below.sameB hb23 (by first | omega | (simp <;> omega))))
  clear s180 s181 s182 s183 hs18
  clear hb23
  obtain ⟨s230, s231, s232, s233⟩ := hs23.out
  skip
  refine (eqOutline_any A22 A5 n22 c22 n5 c5 0 w23.heap.size 0 w6.heap.size R _ rdh.out rdw.out (Nat.le_refl _) (by first | omega | (simp <;> omega)) (by omega) (fun K h => by have := sR.out.k K h; omega)).mono ?_
  rintro e w24 ⟨rfl, hc24⟩
  have hy24 := hc24.size
  (try simp at hy24)
  have hB24 : Below w.heap.size w w24 := hB23.trans (hc24.mono hB23.size)
  have hs24 : Hid (w24.cell? ⟨w.heap.size, 0, none⟩ = some (.slice A n c) ∧ w24.cell? ⟨w5.heap.size, 0, none⟩ = some (.slice A5 n5 c5) ∧ w24.cell? ⟨w7.heap.size, 0, none⟩ = some (.slice A7 n n) ∧ w24.cell? ⟨w10.heap.size, 0, none⟩ = some (.slice A9 n9 c9)) := ⟨(hc24.cell (by first | omega | (simp <;> omega))).trans hs23.out.1, (hc24.cell (by first | omega | (simp <;> omega))).trans hs23.out.2.1, (hc24.cell (by first | omega | (simp <;> omega))).trans hs23.out.2.2.1, (hc24.cell (by first | omega | (simp <;> omega))).trans hs23.out.2.2.2⟩
  replace rdw := Lib.hid (rdw.out.frame good_loop (Below.sameB hc24 (by first | omega | (simp <;> omega))))
  replace ing := Lib.hid (ing.out.same (Below.sameB hc24 (by first | omega | (simp <;> omega))))
  clear s230 s231 s232 s233 hs23
  clear hc24 rdh t14
  obtain ⟨s240, s241, s242, s243⟩ := hs24.out
  go_wp2_with fail
  refine (heldOutline_any A9 n9 c9 lo9 hi9 R 1 _ (ing.out.rdIn (sR.out.mk 1)) (by first | omega | (simp <;> omega)) (by omega) (by omega) hn9 sR.out.2).mono ?_
  rintro e w25 ⟨rfl, hc25⟩
  have hy25 := hc25.size
  (try simp at hy25)
  have hB25 : Below w.heap.size w w25 := hB24.trans (hc25.mono hB24.size)
  have hs25 : Hid (w25.cell? ⟨w.heap.size, 0, none⟩ = some (.slice A n c) ∧ w25.cell? ⟨w5.heap.size, 0, none⟩ = some (.slice A5 n5 c5) ∧ w25.cell? ⟨w7.heap.size, 0, none⟩ = some (.slice A7 n n) ∧ w25.cell? ⟨w10.heap.size, 0, none⟩ = some (.slice A9 n9 c9)) := ⟨(hc25.cell (by first | omega | (simp <;> omega))).trans hs24.out.1, (hc25.cell (by first | omega | (simp <;> omega))).trans hs24.out.2.1, (hc25.cell (by first | omega | (simp <;> omega))).trans hs24.out.2.2.1, (hc25.cell (by first | omega | (simp <;> omega))).trans hs24.out.2.2.2⟩
  replace rdw := Lib.hid (rdw.out.frame good_loop (Below.sameB hc25 (by first | omega | (simp <;> omega))))
  replace ing := Lib.hid (ing.out.same (Below.sameB hc25 (by first | omega | (simp <;> omega))))
  clear s240 s241 s242 s243 hs24
  clear hc25
  go_wp2_with fail
  go_ret
  exact ⟨rfl, hB25⟩
end Go.Proofs.Ytpjmpbdbfldnaaa
