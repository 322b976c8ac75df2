/- The union of a region with nothing, under its names; a region has its own shape: the program's side. Printed by mk_ss1.py. Conditions: as each states. -/
import Derived.Deep.LoopGhost
import Derived.Test.YtlifiioflkhkoaaGreatFr42
import Derived.Test.YtlifiioflkhkoaaGreatFr36
import Derived.Test.YtlifiioflkhkoaaGreatFr18
namespace Go.Proofs.YtlifiioflkhkoaaGreat
open Go.RowKit
set_option linter.unusedVariables false
set_option maxRecDepth 100000
set_option linter.unusedSimpArgs false

set_option maxHeartbeats 8000000 in
theorem unionOf_any (A : Option Addr) (n c lo hi : Nat) (Rs : List (List Pnt)) (w : World) (hr : RegRd w lo hi A n Rs) (hhi : hi ≤ w.heap.size) (hv : regOk Rs = true) (he : edgeN Rs ≤ 30) :
    Calls Tryz.prog 47 #[.agg #[.slice A n c], .agg #[.slice none 0 0]] w fun e w' => ∃ X, RovTo Rs X ∧ Below w.heap.size w w' ∧ (X = none → e = .returned (.tuple #[.agg #[.slice none 0 0], .int .i64 5])) ∧ ∀ S, X = some S → ∃ (A' : Option Addr) (n' c' lo' hi' : Nat), e = .returned (.tuple #[.agg #[.slice A' n' c'], .int .i64 0]) ∧ RegRd w' lo' hi' A' n' S ∧ hi' ≤ w'.heap.size ∧ w.heap.size ≤ lo' := by
  have hb0 : Below w.heap.size w (((w.alloc (.cells #[.slice A n c] 26 (0, 0))).alloc (.cells #[.slice none 0 0] 26 (0, 0))).alloc (.cells #[.slice none 0 0] 26 (0, 0))) := (Go.Joins.below_alloc2 w _ _).alloc (by simp; omega) _
  have hz0 : (((w.alloc (.cells #[.slice A n c] 26 (0, 0))).alloc (.cells #[.slice none 0 0] 26 (0, 0))).alloc (.cells #[.slice none 0 0] 26 (0, 0))).heap.size = w.heap.size + 3 := by simp
  have hr0 := Lib.hid (hr.frame good_ring (Below.sameB hb0 hhi))
  have hnew := heap_new0 w (.cells #[.slice A n c] 26 (0, 0)) (.cells #[.slice none 0 0] 26 (0, 0)) (.cells #[.slice none 0 0] 26 (0, 0))
  go_enter Tryz.func47, Tryz.ntmps47
  go_upto_region 1 with fail
  generalize ((w.alloc (.cells #[.slice A n c] 26 (0, 0))).alloc (.cells #[.slice none 0 0] 26 (0, 0))).alloc (.cells #[.slice none 0 0] 26 (0, 0)) = v0 at *
  obtain ⟨Y, hY⟩ : ∃ Y, Y = w.heap.size := ⟨_, rfl⟩
  rw [← hY] at hnew hz0 hhi ⊢
  obtain ⟨hA0, hZ0, hR0⟩ := hnew
  have a0 : v0.cell? ⟨Y, 0, none⟩ = some (.slice A n c) := by rw [Go.Joins.cell_of_block hA0]; rfl
  have b0 : v0.cell? ⟨Y + 1, 0, none⟩ = some (.slice none 0 0) := by rw [Go.Joins.cell_of_block hZ0]; rfl
  have al : Y < v0.heap.size := by omega
  have bl : Y + 1 < v0.heap.size := by omega
  clear hA0 hZ0
  have hRH := Lib.hid hR0
  have hB0 := Lib.hid hb0
  have hYH := Lib.hid hY
  have hv0 : Y + 3 ≤ v0.heap.size := by omega
  have hcall := Lib.hid (unionNil_any A n c lo hi Rs v0 hr0.out (by omega) hv he)
  clear hb0 hY hz0 hR0 hr hv he
  go_wp2_with fail
  refine hcall.out.mono ?_
  rintro e w1 ⟨X, hX, hb1, hno, hyes⟩
  have hs1 := hb1.size
  have hR1 := (hb1.block (Y + 2) (by omega)).trans hRH.out
  have r1 : w1.cell? ⟨Y + 2, 0, none⟩ = some (.slice none 0 0) := by rw [Go.Joins.cell_of_block hR1]; rfl
  have rf := Go.Joins.unfrozen_of_block hR1
  have rl : Y + 2 < w1.heap.size := by omega
  have hwY : w.heap.size ≤ Y + 2 := by have := hYH.out; omega
  have hB1 := Lib.hid (hB0.out.trans (hb1.mono (by have := hYH.out; omega)))
  have hR1H := Lib.hid hR1
  replace hX := Lib.hid hX
  clear hR1 hb1 hcall a0 b0 al bl
  cases X with
  | none =>
    obtain rfl := hno rfl
    clear hno hyes
    go_wp2_with fail
    refine bodyPost_ret (v := .tuple #[.agg #[.slice none 0 0], .int .i64 5]) ?_ rfl ⟨none, hX.out, hB1.out.setCell hwY _, fun _ => rfl, (fun S h => by cases h)⟩
    have r3 : (w1.setCell ⟨Y + 2, 0, none⟩ (.slice none 0 0)).cell? ⟨Y + 2, 0, none⟩ = some (.slice none 0 0) := by rw [Go.Joins.cell_of_block (Go.Joins.block_setCell hR1H.out _)]; rfl
    simp [results, Tryz.results47, go_sem, r3]
  | some S =>
    obtain ⟨A', n', c', lo', hi', rfl, hrd, hhi', hlo'⟩ := hyes S rfl
    clear hno hyes
    go_wp2_with fail
    refine bodyPost_ret (v := .tuple #[.agg #[.slice A' n' c'], .int .i64 0]) ?_ rfl ⟨some S, hX.out, hB1.out.setCell hwY _, (fun h => by cases h), fun S' h => ?_⟩
    · have r3 : (w1.setCell ⟨Y + 2, 0, none⟩ (.slice A' n' c')).cell? ⟨Y + 2, 0, none⟩ = some (.slice A' n' c') := by rw [Go.Joins.cell_of_block (Go.Joins.block_setCell hR1H.out _)]; rfl
      simp [results, Tryz.results47, go_sem, r3]
    · injection h with h
      subst h
      refine ⟨A', n', c', lo', hi', rfl, ?_, by simp; omega, by have := hYH.out; omega⟩
      exact hrd.frame good_ring (fun j h1 h2 => Below.heap_setCell _ _ _ _ (by show j ≠ Y + 2; omega))

set_option maxHeartbeats 8000000 in
theorem removeOverlap_any (A : Option Addr) (n c lo hi : Nat) (Rs : List (List Pnt)) (w : World) (hr : RegRd w lo hi A n Rs) (hhi : hi ≤ w.heap.size) (hv : regOk Rs = true) (he : edgeN Rs ≤ 30) :
    Calls Tryz.prog 27 #[.agg #[.slice A n c]] w fun e w' => ∃ X, RovTo Rs X ∧ Below w.heap.size w w' ∧ (X = none → e = .returned (.tuple #[.agg #[.slice none 0 0], .int .i64 5])) ∧ ∀ S, X = some S → ∃ (A' : Option Addr) (n' c' lo' hi' : Nat), e = .returned (.tuple #[.agg #[.slice A' n' c'], .int .i64 0]) ∧ RegRd w' lo' hi' A' n' S ∧ hi' ≤ w'.heap.size ∧ w.heap.size ≤ lo' := by
  have hb0 : Below w.heap.size w ((w.alloc (.cells #[.slice A n c] 26 (0, 0))).alloc (.cells #[.slice none 0 0] 26 (0, 0))) := Go.Joins.below_alloc2 w _ _
  have hz0 : ((w.alloc (.cells #[.slice A n c] 26 (0, 0))).alloc (.cells #[.slice none 0 0] 26 (0, 0))).heap.size = w.heap.size + 2 := by simp
  have hr0 := Lib.hid (hr.frame good_ring (Below.sameB hb0 hhi))
  have hnew := heap_new2 w (.cells #[.slice A n c] 26 (0, 0)) (.cells #[.slice none 0 0] 26 (0, 0))
  go_enter Tryz.func27, Tryz.ntmps27
  go_upto_region 1 with fail
  generalize (w.alloc (.cells #[.slice A n c] 26 (0, 0))).alloc (.cells #[.slice none 0 0] 26 (0, 0)) = v0 at *
  obtain ⟨Y, hY⟩ : ∃ Y, Y = w.heap.size := ⟨_, rfl⟩
  rw [← hY] at hnew hz0 hhi ⊢
  obtain ⟨hA0, hR0⟩ := hnew
  have a0 : v0.cell? ⟨Y, 0, none⟩ = some (.slice A n c) := by rw [Go.Joins.cell_of_block hA0]; rfl
  have al : Y < v0.heap.size := by omega
  clear hA0
  have hRH := Lib.hid hR0
  have hB0 := Lib.hid hb0
  have hYH := Lib.hid hY
  have hv0 : Y + 2 ≤ v0.heap.size := by omega
  have hcall := Lib.hid (unionOf_any A n c lo hi Rs v0 hr0.out (by omega) hv he)
  clear hb0 hY hz0 hR0 hr hv he
  go_wp2_with fail
  refine hcall.out.mono ?_
  rintro e w1 ⟨X, hX, hb1, hno, hyes⟩
  have hs1 := hb1.size
  have hR1 := (hb1.block (Y + 1) (by omega)).trans hRH.out
  have r1 : w1.cell? ⟨Y + 1, 0, none⟩ = some (.slice none 0 0) := by rw [Go.Joins.cell_of_block hR1]; rfl
  have rf := Go.Joins.unfrozen_of_block hR1
  have rl : Y + 1 < w1.heap.size := by omega
  have hwY : w.heap.size ≤ Y + 1 := by have := hYH.out; omega
  have hB1 := Lib.hid (hB0.out.trans (hb1.mono (by have := hYH.out; omega)))
  have hR1H := Lib.hid hR1
  replace hX := Lib.hid hX
  clear hR1 hb1 hcall a0 al
  cases X with
  | none =>
    obtain rfl := hno rfl
    clear hno hyes
    go_wp2_with fail
    refine bodyPost_ret (v := .tuple #[.agg #[.slice none 0 0], .int .i64 5]) ?_ rfl ⟨none, hX.out, hB1.out.setCell hwY _, fun _ => rfl, (fun S h => by cases h)⟩
    have r3 : (w1.setCell ⟨Y + 1, 0, none⟩ (.slice none 0 0)).cell? ⟨Y + 1, 0, none⟩ = some (.slice none 0 0) := by rw [Go.Joins.cell_of_block (Go.Joins.block_setCell hR1H.out _)]; rfl
    simp [results, Tryz.results27, go_sem, r3]
  | some S =>
    obtain ⟨A', n', c', lo', hi', rfl, hrd, hhi', hlo'⟩ := hyes S rfl
    clear hno hyes
    go_wp2_with fail
    refine bodyPost_ret (v := .tuple #[.agg #[.slice A' n' c'], .int .i64 0]) ?_ rfl ⟨some S, hX.out, hB1.out.setCell hwY _, (fun h => by cases h), fun S' h => ?_⟩
    · have r3 : (w1.setCell ⟨Y + 1, 0, none⟩ (.slice A' n' c')).cell? ⟨Y + 1, 0, none⟩ = some (.slice A' n' c') := by rw [Go.Joins.cell_of_block (Go.Joins.block_setCell hR1H.out _)]; rfl
      simp [results, Tryz.results27, go_sem, r3]
    · injection h with h
      subst h
      refine ⟨A', n', c', lo', hi', rfl, ?_, by simp; omega, by have := hYH.out; omega⟩
      exact hrd.frame good_ring (fun j h1 h2 => Below.heap_setCell _ _ _ _ (by show j ≠ Y + 1; omega))

def VTd (Ls : List (List Pnt)) (v : Value) (w : World) : Prop := ∃ A n c lo hi, v = .agg #[.slice A n c] ∧ RegRd w lo hi A n Ls ∧ hi ≤ w.heap.size
theorem VTd.stays (Ls : List (List Pnt)) : Stays (VTd Ls) := fun v w w' ⟨A, n, c, lo, hi, h1, h2, h3⟩ hb => ⟨A, n, c, lo, hi, h1, h2.frame good_ring (Below.sameB hb h3), Nat.le_trans h3 hb.size⟩

set_option maxHeartbeats 32000000 in
theorem sameShape_any (A : Option Addr) (n c lo hi : Nat) (Rs : List (List Pnt)) (w : World) (hr : RegRd w lo hi A n Rs) (hhi : hi ≤ w.heap.size) (hv : regOk Rs = true) (he : edgeN Rs ≤ 30) :
    Calls Tryz.prog 10 #[.agg #[.slice A n c], .agg #[.slice A n c]] w fun e w' => ∃ (b : Bool) (k : Int), e = .returned (.tuple #[.bool b, .int .i64 k]) ∧ (k = 0 → b = true) ∧ Below w.heap.size w w' := by
  have hn : n ≤ 40 := by rw [← hr.1]; exact (regOk_is hv).1
  have hRl : Hid (∀ L ∈ Rs, L.length ≤ 1048576) := Lib.hid fun L hL => by have := (path_len ((regOk_is hv).2.1 L hL)).2; omega
  have hb0 := Go.Joins.below_alloc2 w (.cells #[.slice A n c] 26 (0, 0)) (.cells #[.slice A n c] 26 (0, 0))
  have hz0 : ((w.alloc (.cells #[.slice A n c] 26 (0, 0))).alloc (.cells #[.slice A n c] 26 (0, 0))).heap.size = w.heap.size + 2 := by simp
  have hnew := heap_new2 w (.cells #[.slice A n c] 26 (0, 0)) (.cells #[.slice A n c] 26 (0, 0))
  have hr0 := Lib.hid (hr.frame good_ring (Below.sameB hb0 hhi))
  replace hv := Lib.hid hv
  go_enter Tryz.func10, Tryz.ntmps10
  go_upto_region 1 with fail
  generalize (w.alloc (.cells #[.slice A n c] 26 (0, 0))).alloc (.cells #[.slice A n c] 26 (0, 0)) = v0 at *
  obtain ⟨Y, hY⟩ : ∃ Y, Y = w.heap.size := ⟨_, rfl⟩
  rw [← hY] at hnew hz0 hhi ⊢
  obtain ⟨hA0, hZ0⟩ := hnew
  have a0 : v0.cell? ⟨Y, 0, none⟩ = some (.slice A n c) := by rw [Go.Joins.cell_of_block hA0]; rfl
  have al : Y < v0.heap.size := by omega
  have hA := Lib.hid hA0
  have hZ := Lib.hid hZ0
  have hB0 := Lib.hid hb0
  have hYH := Lib.hid hY
  have hv0 : Y + 2 ≤ v0.heap.size := by omega
  have hva := Lib.hid (validRegion_any A n c lo hi Rs true hv.out.symm v0 hr0.out (by omega) (by omega) hRl.out)
  clear hA0 hZ0 hb0 hY hz0 hr
  go_wp2_with (go_at_call 17; refine hva.out.mono ?_; rintro e w1 ⟨rfl, hb1⟩; have z1 : w1.cell? ⟨Y + 1, 0, none⟩ = some (.slice A n c) := (by rw [Go.Joins.cell_of_block ((hb1.block (Y + 1) (by omega)).trans hZ.out)]; rfl); have zl1 : Y + 1 < w1.heap.size := (by have := hb1.size; omega); have hb1H := Lib.hid hb1; clear a0 al hb1; replace hva := hb1H)
  have hs1 := hb1H.out.size
  have hr1 := Lib.hid (hr0.out.frame good_ring (Below.sameB hb1H.out (by omega)))
  have hvb := Lib.hid (validRegion_any A n c lo hi Rs true hv.out.symm w1 hr1.out (by omega) (by omega) hRl.out)
  go_wp2_with (go_at_call 17; refine hvb.out.mono ?_; rintro e w2 ⟨rfl, hb2⟩; have hb2H := Lib.hid (hb1H.out.trans (hb2.mono hs1)); have a2 : w2.cell? ⟨Y, 0, none⟩ = some (.slice A n c) := (by rw [Go.Joins.cell_of_block ((hb2H.out.block Y (by omega)).trans hA.out)]; rfl); have al2 : Y < w2.heap.size := (by have := hb2.size; omega); clear z1 zl1 hb2; replace hvb := hb2H)
  have hs2 := hb2H.out.size
  have hr2 := Lib.hid (hr0.out.frame good_ring (Below.sameB hb2H.out (by omega)))
  have hro := Lib.hid (removeOverlap_any A n c lo hi Rs w2 hr2.out (by omega) hv.out he)
  have hA2 := Lib.hid ((hb2H.out.block Y (by omega)).trans hA.out)
  have hZ2 := Lib.hid ((hb2H.out.block (Y + 1) (by omega)).trans hZ.out)
  have hB2 := Lib.hid (hB0.out.trans (hb2H.out.mono (by have := hYH.out; omega)))
  clear hA hZ hB0 hb2H hr0 hr1 hb1H hvb hva
  refine hro.out.mono ?_
  rintro e w3 ⟨X1, hX1, hb3, hno1, hyes1⟩
  have hs3 := hb3.size
  have hA3 := (hb3.block Y al2).trans hA2.out
  have hZ3 := Lib.hid ((hb3.block (Y + 1) (by omega)).trans hZ2.out)
  have a3 : w3.cell? ⟨Y, 0, none⟩ = some (.slice A n c) := by rw [Go.Joins.cell_of_block hA3]; rfl
  have af3 := Go.Joins.unfrozen_of_block hA3
  have al3 : Y < w3.heap.size := by omega
  have hr3 := Lib.hid (hr2.out.frame good_ring (Below.sameB hb3 (by omega)))
  have hB3 := Lib.hid (hB2.out.trans (hb3.mono (by have := hYH.out; omega)))
  have hA3H := Lib.hid hA3
  replace hX1 := Lib.hid hX1
  clear a2 al2 hA2 hZ2 hb3 hro hr2 hB2 hA3
  cases X1 with
  | none =>
    obtain rfl := hno1 rfl
    clear hno1 hyes1
    have hr4 := Lib.hid (hr3.out.frame good_ring (show SameB lo hi w3 (w3.setCell ⟨Y, 0, none⟩ (.slice none 0 0)) from fun j h1 h2 => Below.heap_setCell _ _ _ _ (by show j ≠ Y; omega)))
    have hZ4 := Lib.hid ((Below.heap_setCell w3 ⟨Y, 0, none⟩ (.slice none 0 0) (Y + 1) (by show Y + 1 ≠ Y; omega)).trans hZ3.out)
    have hA4 := Lib.hid (Go.Joins.block_setCell hA3H.out (i := 0) (.slice none 0 0))
    have hB4 := Lib.hid (hB3.out.setCell (p := ⟨Y, 0, none⟩) (by show w.heap.size ≤ Y; have := hYH.out; omega) (.slice none 0 0))
    have hz4 : (w3.setCell ⟨Y, 0, none⟩ (.slice none 0 0)).heap.size = w3.heap.size := by simp
    go_upto_region 4 with fail
    clear a3 af3 hA3H hZ3 hB3
    generalize w3.setCell ⟨Y, 0, none⟩ (.slice none 0 0) = w4 at *
    have zl4 : Y + 1 < w4.heap.size := by omega
    have hs4 : w3.heap.size ≤ w4.heap.size := by omega
    clear hz4
    have z4 : w4.cell? ⟨Y + 1, 0, none⟩ = some (.slice A n c) := by rw [Go.Joins.cell_of_block hZ4.out]; rfl
    have hro2 := Lib.hid (removeOverlap_any A n c lo hi Rs w4 hr4.out (by omega) hv.out he)
    go_wp2_with fail
    refine hro2.out.mono ?_
    rintro e w5 ⟨X2, hX2, hb5, hno2, hyes2⟩
    have hX := hX2.unique hX1.out
    subst hX
    obtain rfl := hno2 rfl
    clear hno2 hyes2
    have hZ5 := (hb5.block (Y + 1) zl4).trans hZ4.out
    have z5 : w5.cell? ⟨Y + 1, 0, none⟩ = some (.slice A n c) := by rw [Go.Joins.cell_of_block hZ5]; rfl
    have zf5 := Go.Joins.unfrozen_of_block hZ5
    have zl5 : Y + 1 < w5.heap.size := by have := hb5.size; omega
    have hB5 := Lib.hid ((hB4.out.trans (hb5.mono (by have := hYH.out; omega))).setCell (p := ⟨Y + 1, 0, none⟩) (by show w.heap.size ≤ Y + 1; have := hYH.out; omega) (.slice none 0 0))
    clear z4 hro2 hb5 hZ5
    go_wp2_with fail
    go_ret2
    exact ⟨false, 5, rfl, (fun h => absurd h (by decide)), hB5.out⟩
  | some S =>
    obtain ⟨A1, n1, c1, lo1, hi1, rfl, hrd1, hhi1, hlo1⟩ := hyes1 S rfl
    clear hno1 hyes1
    have hrd1' := Lib.hid (hrd1.frame good_ring (show SameB lo1 hi1 w3 (w3.setCell ⟨Y, 0, none⟩ (.slice A1 n1 c1)) from fun j h1 h2 => Below.heap_setCell _ _ _ _ (by show j ≠ Y; omega)))
    have hr4 := Lib.hid (hr3.out.frame good_ring (show SameB lo hi w3 (w3.setCell ⟨Y, 0, none⟩ (.slice A1 n1 c1)) from fun j h1 h2 => Below.heap_setCell _ _ _ _ (by show j ≠ Y; omega)))
    have hZ4 := Lib.hid ((Below.heap_setCell w3 ⟨Y, 0, none⟩ (.slice A1 n1 c1) (Y + 1) (by show Y + 1 ≠ Y; omega)).trans hZ3.out)
    have hA4 := Lib.hid (Go.Joins.block_setCell hA3H.out (i := 0) (.slice A1 n1 c1))
    have hB4 := Lib.hid (hB3.out.setCell (p := ⟨Y, 0, none⟩) (by show w.heap.size ≤ Y; have := hYH.out; omega) (.slice A1 n1 c1))
    have hz4 : (w3.setCell ⟨Y, 0, none⟩ (.slice A1 n1 c1)).heap.size = w3.heap.size := by simp
    go_upto_region 4 with fail
    clear a3 af3 hA3H hZ3 hB3
    generalize w3.setCell ⟨Y, 0, none⟩ (.slice A1 n1 c1) = w4 at *
    have zl4 : Y + 1 < w4.heap.size := by omega
    have hs4 : w3.heap.size ≤ w4.heap.size := by omega
    clear hz4
    have z4 : w4.cell? ⟨Y + 1, 0, none⟩ = some (.slice A n c) := by rw [Go.Joins.cell_of_block hZ4.out]; rfl
    have hro2 := Lib.hid (removeOverlap_any A n c lo hi Rs w4 hr4.out (by omega) hv.out he)
    have hrd4 := Lib.hid hrd1'.out
    go_wp2_with fail
    refine hro2.out.mono ?_
    rintro e w5 ⟨X2, hX2, hb5, hno2, hyes2⟩
    have hX := hX2.unique hX1.out
    subst hX
    obtain ⟨A2, n2, c2, lo2, hi2, rfl, hrd2, hhi2, hlo2⟩ := hyes2 S rfl
    clear hno2 hyes2
    have hSok := hX1.out.ok
    have hZ5 := (hb5.block (Y + 1) zl4).trans hZ4.out
    have z5 : w5.cell? ⟨Y + 1, 0, none⟩ = some (.slice A n c) := by rw [Go.Joins.cell_of_block hZ5]; rfl
    have zf5 := Go.Joins.unfrozen_of_block hZ5
    have hs5 := hb5.size
    have zl5 : Y + 1 < w5.heap.size := by omega
    have hr1 := Lib.hid ((hrd4.out.frame good_ring (Below.sameB hb5 (by omega))).frame good_ring (show SameB lo1 hi1 w5 (w5.setCell ⟨Y + 1, 0, none⟩ (.slice A2 n2 c2)) from fun j h1 h2 => Below.heap_setCell _ _ _ _ (by show j ≠ Y + 1; omega)))
    have hr2 := Lib.hid (hrd2.frame good_ring (show SameB lo2 hi2 w5 (w5.setCell ⟨Y + 1, 0, none⟩ (.slice A2 n2 c2)) from fun j h1 h2 => Below.heap_setCell _ _ _ _ (by show j ≠ Y + 1; omega)))
    have hY := Lib.hid ((Below.heap_setCell w5 ⟨Y + 1, 0, none⟩ (.slice A2 n2 c2) Y (by show Y ≠ Y + 1; omega)).trans ((hb5.block Y (by omega)).trans hA4.out))
    have hZ := Lib.hid (Go.Joins.block_setCell hZ5 (i := 0) (.slice A2 n2 c2))
    have hBV := Lib.hid ((hB4.out.trans (hb5.mono (by have := hYH.out; omega))).setCell (p := ⟨Y + 1, 0, none⟩) (by show w.heap.size ≤ Y + 1; have := hYH.out; omega) (.slice A2 n2 c2))
    have hzV : (w5.setCell ⟨Y + 1, 0, none⟩ (.slice A2 n2 c2)).heap.size = w5.heap.size := by simp
    have hr1n : n1 ≤ 1000 := by rw [← hrd4.out.1]; have := (regOk_is hSok).1; omega
    have hr2n : n2 ≤ 1000 := by rw [← hrd2.1]; have := (regOk_is hSok).1; omega
    have hSb : Hid (∀ K ∈ S, K.length ≤ 1000 ∧ ∀ p ∈ K, pt2Ok p = true) := Lib.hid fun K hK => by
      have h1 := (regOk_is hSok).2.1 K hK
      refine ⟨by have := (path_len h1).2; omega, fun p hp => ?_⟩
      unfold pathOk at h1
      rw [Bool.and_eq_true] at h1
      exact List.all_eq_true.1 h1.2 p hp
    have hTo := tidy_ok hSok
    have hTl : Hid ((tidyR S).length ≤ 1000000000) := Lib.hid (by have := (regOk_is hTo).1; omega)
    have hTb : Hid (∀ K ∈ tidyR S, K.length ≤ 1000000000) := Lib.hid fun K hK => by have := (path_len ((regOk_is hTo).2.1 K hK)).2; omega
    clear z4 hro2 hb5 hZ5 hrd2 hrd1 hrd1' hSok hTo
    go_upto_region 7 with fail
    clear z5 zf5
    generalize w5.setCell ⟨Y + 1, 0, none⟩ (.slice A2 n2 c2) = V at *
    have hYl : Y < V.heap.size := by omega
    have hZl : Y + 1 < V.heap.size := by omega
    have hr1h : hi1 ≤ V.heap.size := by omega
    have hr2h : hi2 ≤ V.heap.size := by omega
    clear hzV
    refine wp_region_stays 5 (fun j => match j with | 0 => VEq (.agg #[.slice A1 n1 c1]) | 1 => VTd (tidyR S) | 2 => VEq (.agg #[.slice A2 n2 c2]) | 3 => VTd (tidyR S) | 4 => VEq (.bool true) | _ => VEq (.bool false)) (by kernel_rfl) (by kernel_rfl) ?_ ?_ ?_
    · intro j hj
      rcases (show j = 0 ∨ j = 1 ∨ j = 2 ∨ j = 3 ∨ j = 4 by omega) with rfl | rfl | rfl | rfl | rfl <;> first | exact VEq.stays _ | exact VTd.stays _
    · intro i hi
      rcases (show i = 0 ∨ i = 1 ∨ i = 2 ∨ i = 3 ∨ i = 4 by omega) with rfl | rfl | rfl | rfl | rfl
      · intro o ho f wS K hB hd hK
        simp only [List.getElem?_cons_zero, List.getElem?_cons_succ, Option.some.injEq] at ho
        subst ho
        have hB' : Below V.heap.size V wS := belowDr hB
        simp only [putsL, dstL, List.getElem?_cons_zero, List.getElem?_cons_succ, Option.bind, Act.put, List.setIfInBounds_toArray, List.set_cons_zero, List.set_cons_succ] at hK ⊢
        have d0 : wS.cell? ⟨Y, 0, none⟩ = some (.slice A1 n1 c1) := (by rw [Go.Joins.cell_of_block ((hB'.block _ hYl).trans hY.out)]; rfl)
        have dl : Y < wS.heap.size := Nat.lt_of_lt_of_le hYl hB'.size
        go_simp
        exact hK _ _ rfl (Below.refl _ _)
      · intro o ho f wS K hB hd hK
        simp only [List.getElem?_cons_zero, List.getElem?_cons_succ, Option.some.injEq] at ho
        subst ho
        have hB' : Below V.heap.size V wS := belowDr hB
        simp only [putsL, dstL, List.getElem?_cons_zero, List.getElem?_cons_succ, Option.bind, Act.put, List.setIfInBounds_toArray, List.set_cons_zero, List.set_cons_succ] at hK ⊢
        have e0 : f 0 = .agg #[.slice A1 n1 c1] := hd 0 (by rfl)
        simp only [e0] at hK ⊢
        go_simp
        go_at_call 18
        refine (tidyRegion_any A1 n1 c1 _ _ S wS (hr1.out.frame good_ring (Below.sameB hB' hr1h)) (by have := hB'.size; omega) hr1n hSb.out).mono ?_
        rintro e w9 ⟨A', c', rfl, hrd, hb9⟩
        exact hK _ _ ⟨A', _, c', _, _, rfl, hrd, Nat.le_refl _⟩ hb9
      · intro o ho f wS K hB hd hK
        simp only [List.getElem?_cons_zero, List.getElem?_cons_succ, Option.some.injEq] at ho
        subst ho
        have hB' : Below V.heap.size V wS := belowDr hB
        simp only [putsL, dstL, List.getElem?_cons_zero, List.getElem?_cons_succ, Option.bind, Act.put, List.setIfInBounds_toArray, List.set_cons_zero, List.set_cons_succ] at hK ⊢
        have d0 : wS.cell? ⟨(Y + 1), 0, none⟩ = some (.slice A2 n2 c2) := (by rw [Go.Joins.cell_of_block ((hB'.block _ hZl).trans hZ.out)]; rfl)
        have dl : (Y + 1) < wS.heap.size := Nat.lt_of_lt_of_le hZl hB'.size
        go_simp
        exact hK _ _ rfl (Below.refl _ _)
      · intro o ho f wS K hB hd hK
        simp only [List.getElem?_cons_zero, List.getElem?_cons_succ, Option.some.injEq] at ho
        subst ho
        have hB' : Below V.heap.size V wS := belowDr hB
        simp only [putsL, dstL, List.getElem?_cons_zero, List.getElem?_cons_succ, Option.bind, Act.put, List.setIfInBounds_toArray, List.set_cons_zero, List.set_cons_succ] at hK ⊢
        have e2 : f 2 = .agg #[.slice A2 n2 c2] := hd 2 (by rfl)
        simp only [e2] at hK ⊢
        go_simp
        go_at_call 18
        refine (tidyRegion_any A2 n2 c2 _ _ S wS (hr2.out.frame good_ring (Below.sameB hB' hr2h)) (by have := hB'.size; omega) hr2n hSb.out).mono ?_
        rintro e w9 ⟨A', c', rfl, hrd, hb9⟩
        exact hK _ _ ⟨A', _, c', _, _, rfl, hrd, Nat.le_refl _⟩ hb9
      · intro o ho f wS K hB hd hK
        simp only [List.getElem?_cons_zero, List.getElem?_cons_succ, Option.some.injEq] at ho
        subst ho
        have hB' : Below V.heap.size V wS := belowDr hB
        simp only [putsL, dstL, List.getElem?_cons_zero, List.getElem?_cons_succ, Option.bind, Act.put, List.setIfInBounds_toArray, List.set_cons_zero, List.set_cons_succ] at hK ⊢
        obtain ⟨Ax, nx, cx, lx, hx, e1, hrx, hhx⟩ : VTd (tidyR S) (f 1) wS := hd 1 (by rfl)
        obtain ⟨Ay, ny, cy, ly, hy, e3, hry, hhy⟩ : VTd (tidyR S) (f 3) wS := hd 3 (by rfl)
        simp only [e1, e3] at hK ⊢
        go_simp
        go_at_call 28
        refine (implSameReg_any Ax Ay nx cx ny cy _ _ _ _ (tidyR S) (tidyR S) true (by simp) wS hrx hry hhx hhy (by rw [← hrx.1]; exact hTl.out) (by rw [← hry.1]; exact hTl.out) hTb.out hTb.out).mono ?_
        rintro e w9 ⟨rfl, hb9⟩
        exact hK _ _ rfl hb9
    · intro f w9 hb9' hv
      have hb9 : Below V.heap.size V w9 := hb9'
      simp only [putsL, dstL, List.getElem?_cons_zero, List.getElem?_cons_succ, Option.bind, Act.put, List.setIfInBounds_toArray, List.set_cons_zero, List.set_cons_succ, List.drop_succ_cons, List.drop_zero]
      have e4 : f 4 = .bool true := hv 4 (by omega)
      simp only [e4]
      have hb9H := Lib.hid hb9
      clear hv hb9' hb9 e4
      go_wp2_with fail
      go_ret2
      exact ⟨true, 0, rfl, fun _ => rfl, hBV.out.trans (hb9H.out.mono (by have := hYH.out; omega))⟩
end Go.Proofs.YtlifiioflkhkoaaGreat

/- A drawn region of rings of drawn points. Printed by mk_dr1.py. Conditions: as each states. -/
namespace Go.Proofs.YtlifiioflkhkoaaGreat
open Go.RowKit
set_option linter.unusedVariables false
set_option maxRecDepth 100000

/-- a drawn ring -/
def RgIn (q : Nat) (m : Int) (R : List Pnt) : Prop := 1 ≤ R.length ∧ R.length ≤ q ∧ ∀ p ∈ R, InSq m p
theorem five_rowD (w : World) : RdS 1 (FlatR intC) (w.alloc (.cells #[.int .i64 3, .int .i64 6, .int .i64 6, .int .i64 12, .int .i64 50] 2 (0, 0))) w.heap.size (w.alloc (.cells #[.int .i64 3, .int .i64 6, .int .i64 6, .int .i64 12, .int .i64 50] 2 (0, 0))).heap.size (some ⟨w.heap.size, 0, none⟩) 5 [3, 6, 6, 12, 50] := by
  have h : (w.alloc (.cells #[.int .i64 3, .int .i64 6, .int .i64 6, .int .i64 12, .int .i64 50] 2 (0, 0))).ownsRow w.heap.size 2 1 (.slice (some ⟨w.heap.size, 0, none⟩) 5 5) 5 [.int .i64 3, .int .i64 6, .int .i64 6, .int .i64 12, .int .i64 50] := World.ownsRow_lit w #[.int .i64 3, .int .i64 6, .int .i64 6, .int .i64 12, .int .i64 50] 5 (Nat.le_refl _) (by decide) (by simp)
  exact rdS_own intC_len (by omega) h rfl
theorem five_inD {r : Int} (h : r ∈ [(3 : Int), 6, 6, 12, 50]) : 0 ≤ r ∧ r ≤ 50 := by
  simp at h; omega

set_option maxHeartbeats 16000000 in
theorem l13Draw_any (b k : Nat) (w : World) (hs : Src0 w b k) (hk : k ≤ 999900000) :
    Calls Tryz.prog 37 #[.pointer (some ⟨b, 0, none⟩), .int .i64 2, .int .i64 6] w fun e w' => ∃ (A' : Option Addr) (c' k' : Nat) (ys : List Value) (Rs : List (List Pnt)), e = .returned (.agg #[.slice A' Rs.length c']) ∧ Rs.length ≤ 2 ∧ RegTo w' w.heap.size A' Rs.length c' ys Rs ∧ (∀ R ∈ Rs, RgIn 6 50 R) ∧ Src0 w' b k' ∧ k' ≤ k + 1000 ∧ w.grownBy w' (some b) := by
  have hbl := hs.lt
  have hB0 := Go.Joins.below_alloc2 w (.cells #[.slice none 0 0] 26 (0, 0)) (.cells #[.slice none 0 0] 26 (0, 0))
  have hnew := heap_new2 w (.cells #[.slice none 0 0] 26 (0, 0)) (.cells #[.slice none 0 0] 26 (0, 0))
  have hz0 : ((w.alloc (.cells #[.slice none 0 0] 26 (0, 0))).alloc (.cells #[.slice none 0 0] 26 (0, 0))).heap.size = w.heap.size + 2 := by simp
  have hs0 := Lib.hid (hs.kept hB0 hbl)
  clear hs
  go_enter Tryz.func37, Tryz.ntmps37
  go_upto_region 2 with fail
  generalize ((w.alloc (.cells #[.slice none 0 0] 26 (0, 0))).alloc (.cells #[.slice none 0 0] 26 (0, 0))) = w0 at *
  obtain ⟨Y, hY⟩ : ∃ Y, Y = w.heap.size := ⟨_, rfl⟩
  obtain ⟨X, hX⟩ : ∃ X, X = Y + 1 := ⟨_, rfl⟩
  rw [← hY] at hnew hz0 hbl ⊢
  rw [← hX] at hnew ⊢
  obtain ⟨hR0, hX0⟩ := hnew
  have hsz : X + 1 ≤ w0.heap.size ∧ w0.heap.size ≤ X + 1 ∧ Y + 1 = X ∧ b < Y := by omega
  have hR0H := Lib.hid hR0
  have hX0H := Lib.hid hX0
  have hG0 := Lib.hid (grown_of hB0 (some b))
  have hYH := Lib.hid hY
  have hal := Go.Joins.below_alloc1 w0 (.cells #[.int .i64 3, .int .i64 6, .int .i64 6, .int .i64 12, .int .i64 50] 2 (0, 0))
  have hza : (w0.alloc (.cells #[.int .i64 3, .int .i64 6, .int .i64 6, .int .i64 12, .int .i64 50] 2 (0, 0))).heap.size = w0.heap.size + 1 := by simp
  have hca := Lib.hid (among_any b k (some ⟨w0.heap.size, 0, none⟩) 5 5 w0.heap.size (w0.alloc (.cells #[.int .i64 3, .int .i64 6, .int .i64 6, .int .i64 12, .int .i64 50] 2 (0, 0))).heap.size [3, 6, 6, 12, 50] (w0.alloc (.cells #[.int .i64 3, .int .i64 6, .int .i64 6, .int .i64 12, .int .i64 50] 2 (0, 0))) (hs0.out.kept hal (by omega)) (by omega) (five_rowD w0) (.inl (by omega)) (Nat.le_refl _) (by omega) (by omega))
  have halH := Lib.hid hal
  clear hB0 hz0 hX hY hR0 hX0 hal
  go_wp2_with fail
  refine hca.out.mono ?_
  rintro e w1 ⟨most, k1, rfl, hmm, hs1, hk1, hg1⟩
  have hmost := five_inD hmm
  have hz1 := hg1.size
  have hX1 := Lib.hid ((hg1.block X (by omega) (by intro e; injection e with e; omega)).trans ((halH.out.block X (by omega)).trans hX0H.out))
  have hR1 := Lib.hid ((hg1.block Y (by omega) (by intro e; injection e with e; omega)).trans ((halH.out.block Y (by omega)).trans hR0H.out))
  have hG1 := Lib.hid (grown_tr (grown_tr hG0.out (grown_of (halH.out.mono (by have := hYH.out; omega)) (some b))) hg1)
  have hz1' : X + 1 ≤ w1.heap.size := by omega
  have hcp := Lib.hid (pick_any b k1 2 w1 hs1 (by omega))
  clear hca hs0 hg1 hmm hz1 hza hs1
  go_wp2_with fail
  refine hcp.out.mono ?_
  rintro e w2 ⟨r, k2, rfl, hr0, hr1, _, hs2, hk2, hg2⟩
  have hr2 := hr1 (by omega)
  have hz2 := hg2.size
  have hX2 := Lib.hid ((hg2.block X (by omega) (by intro e; injection e with e; omega)).trans hX1.out)
  have hR2 := Lib.hid ((hg2.block Y (by omega) (by intro e; injection e with e; omega)).trans hR1.out)
  have hG2 := Lib.hid (grown_tr hG1.out hg2)
  have hS2 := Lib.hid hs2
  obtain ⟨N, hN⟩ : ∃ N : Nat, (N : Int) = 1 + r := ⟨(1 + r).toNat, by omega⟩
  have hN2 : N ≤ 2 := by omega
  have hNH := Lib.hid hN
  clear hcp hr1 hg2 hs2 hX1 hR1 hG1
  go_wp2_with fail
  go_loopg [9, 10, 11] N (fun kx s9 s10 s11 wr => ∃ (t k3 : Nat) (Ao : Option Addr) (co : Nat) (ys : List Value) (Rs : List (List Pnt)), s9 = .int .i64 t ∧ Rs.length + t = N ∧ t ≤ kx ∧ wr.heap[X]? = some (.cells #[.slice Ao Rs.length co] 26 (0, 0)) ∧ wr.heap[Y]? = some (.cells #[.slice none 0 0] 26 (0, 0)) ∧ Hid (RegTo wr (X + 1) Ao Rs.length co ys Rs ∧ ∀ R ∈ Rs, RgIn 6 50 R) ∧ Hid (Src0 wr b k3) ∧ k3 + 200 * t ≤ k + 10 + 200 * N ∧ X + 1 ≤ wr.heap.size ∧ Hid (w.grownBy wr (some b)))
  case atStart => exact ⟨N, k2, none, 0, [], [], by rw [hN], by simp, Nat.le_refl _, hX2.out, hR2.out, ⟨⟨World.ownsRow_nil _ _ _ _, fun j K hj => absurd hj (Nat.not_lt_zero j), fun i j u v _ hu => by simp at hu⟩, fun R hR => by cases hR⟩, hS2.out, by omega, by omega, hG2.out⟩
  case round =>
  clear hX2 hR2 hG2 hS2 hz2 hN
  obtain ⟨t, k3, Ao, co, ys, Rs, rfl, hRt, htx, hXb, hRb, hto, hsr, hk3, hzr, hG⟩ := hrel
  generalize wr = xr at *
  by_cases ht : 0 < t
  rotate_left
  · have hti : ¬ (0 : Int) < (t : Int) := by omega
    have x0 : xr.cell? ⟨X, 0, none⟩ = some (.slice Ao Rs.length co) := by rw [Go.Joins.cell_of_block hXb]; rfl
    have r0 : xr.cell? ⟨Y, 0, none⟩ = some (.slice none 0 0) := by rw [Go.Joins.cell_of_block hRb]; rfl
    have rf := Go.Joins.unfrozen_of_block hRb
    have rl : Y < xr.heap.size ∧ X < xr.heap.size := by omega
    have hRbH := Lib.hid hRb
    have hR2 : Rs.length ≤ 2 := by omega
    replace hRt := Lib.hid hRt
    clear hXb hRb
    go_wp2_with fail
    refine bodyPost_ret (v := .agg #[.slice Ao Rs.length co]) ?_ rfl ⟨Ao, co, k3, ys, Rs, rfl, hR2, ?_, hto.out.2, hsr.out.set (by omega), by omega, ?_⟩
    · have r3 : (xr.setCell ⟨Y, 0, none⟩ (.slice Ao Rs.length co)).cell? ⟨Y, 0, none⟩ = some (.slice Ao Rs.length co) := by rw [Go.Joins.cell_of_block (Go.Joins.block_setCell hRbH.out _)]; rfl
      simp [results, Tryz.results37, go_sem, r3]
    · exact RegTo.lower (hto.out.1.set (by show Y < X + 1; omega) _) (by have := hYH.out; omega)
    · exact grown_setO hG.out (by have := hYH.out; omega) _ _
  have hti : (0 : Int) < (t : Int) := by omega
  have hal := Go.Joins.below_alloc1 xr (.cells #[.slice none 0 0] 42 (0, 0))
  have hbo := heap_alloc_new xr (.cells #[.slice none 0 0] 42 (0, 0))
  have hza : (xr.alloc (.cells #[.slice none 0 0] 42 (0, 0))).heap.size = xr.heap.size + 1 := by simp
  have hXx := Lib.hid hXb
  have hRx := Lib.hid hRb
  have hXv := Lib.hid ((hal.block X (by omega)).trans hXb)
  have hRv := Lib.hid ((hal.block Y (by omega)).trans hRb)
  have hsv := hsr.out.kept hal (by omega)
  have hgv := grown_of hal (some b)
  have hcp := Lib.hid (pick_any b k3 6 (xr.alloc (.cells #[.slice none 0 0] 42 (0, 0))) hsv (by omega))
  clear hXb hRb hsv hal
  go_upto_region 7 with fail
  generalize xr.alloc (.cells #[.slice none 0 0] 42 (0, 0)) = v at *
  obtain ⟨Z, hZ⟩ : ∃ Z, Z = xr.heap.size := ⟨_, rfl⟩
  rw [← hZ] at hbo hza hzr ⊢
  have hZs : X < Z ∧ Z < v.heap.size ∧ v.heap.size ≤ Z + 1 := by omega
  have hgvH := Lib.hid hgv
  have hboH := Lib.hid hbo
  have hZH := Lib.hid hZ
  clear hgv hbo hza hZ
  go_wp2_with fail
  refine hcp.out.mono ?_
  rintro e w4 ⟨r, k4, rfl, hr0, hr1, _, hs4, hk4, hg4⟩
  have hr2 := hr1 (by omega)
  have hz4 := hg4.size
  have hX4 := Lib.hid ((hg4.block X (by omega) (by intro e; injection e with e; omega)).trans hXv.out)
  have hR4 := Lib.hid ((hg4.block Y (by omega) (by intro e; injection e with e; omega)).trans hRv.out)
  have hZ4 := Lib.hid ((hg4.block Z (by omega) (by intro e; injection e with e; omega)).trans hboH.out)
  have hG4 := Lib.hid (grown_tr hgvH.out hg4)
  have hS4 := Lib.hid hs4
  obtain ⟨M, hM⟩ : ∃ M : Nat, (M : Int) = 1 + r := ⟨(1 + r).toNat, by omega⟩
  have hM1 : 1 ≤ M ∧ M ≤ 6 := by omega
  clear hcp hr1 hg4 hs4 hXv hRv hgvH hboH
  go_wp2_with fail
  go_loopg [11] M (fun ky s11 wr => ∃ (t2 k5 : Nat) (A1 : Option Addr) (c1 : Nat) (K : List Pnt), s11 = .int .i64 t2 ∧ K.length + t2 = M ∧ t2 ≤ ky ∧ wr.heap[Z]? = some (.cells #[.slice A1 K.length c1] 42 (0, 0)) ∧ Hid (wr.ownsRow (Z + 1) 28 2 (.slice A1 K.length c1) K.length (K.flatMap ptC)) ∧ Hid (∀ p ∈ K, InSq 50 p) ∧ Hid (Src0 wr b k5) ∧ k5 + 10 * t2 ≤ k3 + 10 + 10 * M ∧ Z + 1 ≤ wr.heap.size ∧ Hid (xr.grownBy wr (some b)))
  case atStart => exact ⟨M, k4, none, 0, [], by rw [hM], by simp, Nat.le_refl _, hZ4.out, World.ownsRow_nil _ _ _ _, (fun p hp => by cases hp), hS4.out, by omega, by omega, hG4.out⟩
  case round =>
  clear hX4 hR4 hZ4 hG4 hS4 hz4 hM
  obtain ⟨t2, k5, A1, c1, K, rfl, hKt, hty, hZb, hrow, hKin, hsu, hk5, hzu, hGu⟩ := hrel
  generalize wr = ur at *
  have cz : ur.cell? ⟨Z, 0, none⟩ = some (.slice A1 K.length c1) := by rw [Go.Joins.cell_of_block hZb]; rfl
  have fz := Go.Joins.unfrozen_of_block hZb
  have hZl : Z < ur.heap.size := by omega
  have hZbH := Lib.hid hZb
  by_cases ht2 : 0 < t2
  · have ht2i : (0 : Int) < (t2 : Int) := by omega
    have hcD := Lib.hid (l03Draw_any b k5 most ur.drew hsu.out.drew (by omega) hmost.1 (by omega))
    have hKb : K.length ≤ 6 := by omega
    clear hZb
    go_wp2_with fail
    refine wp_region_head 7 (fun w' => w'.cell? ⟨Z, 0, none⟩ = some (.slice A1 K.length c1)) (by kernel_rfl) (by kernel_rfl) (by exact cz) (fun hHeld => ?_)
    simp only [List.take_succ_cons, List.take_zero, List.drop_succ_cons, List.drop_zero]
    refine wpAnyH_take (i := 0) (v := ?_) ((List.getElem?_toArray).trans rfl) (by kernel_rfl) (by kernel_rfl) (by kernel_rfl) (fun _ _ _ h => h) (Or.inl ⟨by rfl, ?_⟩) (by assumption) ?_
    rotate_left
    · (intro w hSw; (try dsimp only at hSw); go_simp; (try (with_reducible rfl)))
    (try simp only [Act.put, List.setIfInBounds_toArray, List.set_cons_zero, List.set_cons_succ])
    refine wpAnyH_take (i := 1) (v := ?_) ((List.getElem?_toArray).trans rfl) (by kernel_rfl) (by kernel_rfl) (by kernel_rfl) (fun _ _ _ h => h) (Or.inl ⟨by rfl, ?_⟩) (by assumption) ?_
    rotate_left
    · (intro w hSw; (try dsimp only at hSw); go_simp; (try (with_reducible rfl)))
    (try simp only [Act.put, List.setIfInBounds_toArray, List.set_cons_zero, List.set_cons_succ])
    refine wpAnyH_take (i := 2) (v := ?_) ((List.getElem?_toArray).trans rfl) (by kernel_rfl) (by kernel_rfl) (by kernel_rfl) (fun _ _ _ h => h) (Or.inl ⟨by rfl, ?_⟩) (by assumption) ?_
    rotate_left
    · (intro w hSw; (try dsimp only at hSw); go_simp; (try (with_reducible rfl)))
    (try simp only [Act.put, List.setIfInBounds_toArray, List.set_cons_zero, List.set_cons_succ])
    refine wpAnyH_take (i := 3) (v := ?_) ((List.getElem?_toArray).trans rfl) (by kernel_rfl) (by kernel_rfl) (by kernel_rfl) (fun _ _ _ h => h) (Or.inl ⟨by rfl, ?_⟩) (by assumption) ?_
    rotate_left
    · (intro w hSw; (try dsimp only at hSw); go_simp; (try (with_reducible rfl)))
    (try simp only [Act.put, List.setIfInBounds_toArray, List.set_cons_zero, List.set_cons_succ])
    refine wpAnyH_ready (rs := [4]) (by kernel_rfl) (by simp) ?_
    refine AllReadyH.cons ((List.getElem?_toArray).trans rfl) (fun K0 hK0 => ?_) AllReadyH.nil
    (go_simp; go_at_call 58; refine hcD.out.mono ?_; rintro e w3 ⟨x, y, k4_, rfl, hin, hs3, hk4_, hg3⟩; have hz3 : ur.heap.size ≤ w3.heap.size := hg3.size; have hg3' : Hid (ur.grownBy w3 (some b)) := ⟨hg3.os, hg3.tape, hg3.output, hg3.size, hg3.block⟩; have H3 : w3.heap[Z]? = ur.heap[Z]? := hg3.block Z hZl (by intro e; injection e with e; omega); have q3 : w3.cell? ⟨Z, 0, none⟩ = some (.slice A1 K.length c1) := (World.cell?_of_block H3).trans cz; have q3l : Z < w3.heap.size := (by omega); replace H3 := Lib.hid H3; replace hs3 := Lib.hid hs3; replace hin := Lib.hid hin; clear hg3; dsimp only)
    refine hK0.out _ _ ?_ (fun hHeld => ?_)
    · (exact q3)
    clear hK0 K0
    (try simp only [Act.put, List.setIfInBounds_toArray, List.set_cons_zero, List.set_cons_succ])
    refine wpAnyH_ready (rs := [5]) (by kernel_rfl) (by simp) ?_
    refine AllReadyH.cons ((List.getElem?_toArray).trans rfl) (fun K0 hK0 => ?_) AllReadyH.nil
    go_simp
    refine hK0.out _ _ ?_ (fun hHeld => ?_)
    · (exact Lib.cell?_alloc_some _ q3)
    clear hK0 K0
    (try simp only [Act.put, List.setIfInBounds_toArray, List.set_cons_zero, List.set_cons_succ])
    refine wpAnyH_ready (rs := [6]) (by kernel_rfl) (by simp) ?_
    refine AllReadyH.cons ((List.getElem?_toArray).trans rfl) (fun K0 hK0 => ?_) AllReadyH.nil
    (refine stepAppAt rfl (.tmp 34) (.tmp 38) elemPt rfl (v := .slice A1 K.length c1) (n := K.length) (xs := K.flatMap ptC) rfl ((own_grown hrow.out hg3'.out (by omega)).alloc _) rfl (src_at (cs := [.int .i64 x, .int .i64 y]) rfl (by simp [Value.oneCell']) (by simp)) (by omega) (by omega) (by simp; omega) (K.length + 1) rfl ?_; intro A5 c5 w5 ho5 hg5; have hk5_ : ∀ g, g ≤ Z → w5.heap[g]? = w3.heap[g]? := (fun g hg => (hg5.block g (by simp; omega) (fun e => by have := (hrow.out.lt g e.symm).1; omega)).trans (Below.heap_alloc _ _ _ (by omega))); have q5 : w5.cell? ⟨Z, 0, none⟩ = some (.slice A1 K.length c1) := (World.cell?_of_block (hk5_ Z (Nat.le_refl _))).trans q3; have f5 : ∀ o, w5.frozen? ⟨Z, o, none⟩ = false := (fun o => (World.frozen?_of_block ((hk5_ Z (Nat.le_refl _)).trans H3.out)).trans (fz o)); have hz5 : w3.heap.size + 1 ≤ w5.heap.size := (by have := hg5.size; simp at this; exact this); replace hk5_ := Lib.hid hk5_; replace ho5 := Lib.hid ho5; replace hg5 := Lib.hid hg5)
    refine hK0.out _ _ ?_ (fun hHeld => ?_)
    · (exact q5)
    clear hK0 K0
    (try simp only [Act.put, List.setIfInBounds_toArray, List.set_cons_zero, List.set_cons_succ])
    refine wpAnyH_done (by kernel_rfl) ?_ _
    show wpList _ _ _ _ _ _
    have h50 := hin.out.mono hmost.2
    go_wp2_with fail
    go_roundg (t2 - 1)
    case measure => omega
    case rel =>
      have hgg := hg5.out
      refine ⟨t2 - 1, k4_, A5, c5, K ++ [(x, y)], by go_num, by simp; omega, Nat.le_refl _, ?_, ?_, ?_, ?_, by omega, by simp; omega, ?_⟩
      · rw [List.length_append]; exact Go.Joins.block_setCell ((hk5_.out Z (Nat.le_refl _)).trans (H3.out.trans hZbH.out)) _
      · show World.ownsRow _ _ _ _ _ _ _
        rw [List.length_append, List.flatMap_append]
        exact ownsRow_setCell_below ho5.out (by show Z < Z + 1; omega) _
      · intro p hp
        rcases List.mem_append.1 hp with hp | hp
        · exact hKin.out p hp
        · rw [List.mem_singleton.1 hp]; exact h50
      · exact (hs3.out.keepL fun g hg => hk5_.out g (by omega)).set (by omega)
      · refine grown_setO (w := xr) ⟨hgg.os.trans (hg3'.out.os.trans hGu.out.os), hgg.tape.trans (hg3'.out.tape.trans hGu.out.tape), hgg.output.trans (hg3'.out.output.trans hGu.out.output), by have := hZH.out; omega, fun i hi hn => ?_⟩ (by have := hZH.out; omega) _ _
        have := hZH.out
        exact (hk5_.out i (by omega)).trans ((hg3'.out.block i (by omega) hn).trans (hGu.out.block i hi hn))
  · have ht20 : t2 = 0 := by omega
    have ht2i : ¬ (0 : Int) < (t2 : Int) := by omega
    have hKM : K.length = M := by omega
    have hXu := Lib.hid ((hGu.out.block X (by have := hZH.out; omega) (by intro e; injection e with e; omega)).trans hXx.out)
    have hRu := Lib.hid ((hGu.out.block Y (by have := hZH.out; omega) (by intro e; injection e with e; omega)).trans hRx.out)
    have x5 : ur.cell? ⟨X, 0, none⟩ = some (.slice Ao Rs.length co) := by rw [Go.Joins.cell_of_block hXu.out]; rfl
    have xf5 := Go.Joins.unfrozen_of_block hXu.out
    have xl5 : X < ur.heap.size := by omega
    have htoU := Lib.hid (hto.out.1.grownB hGu.out (by omega))
    have hRb2 : Rs.length ≤ 2 := by omega
    have hKb : K.length ≤ 6 := by omega
    have hkb : k5 ≤ k3 + 70 := by omega
    replace hKM := Lib.hid hKM
    replace hKt := Lib.hid hKt
    replace hRt := Lib.hid hRt
    clear hZb
    go_wp2_with (at_builtin; refine wpAppAt rfl (.tmp 42) (.tmp 44) elemRing rfl (v := .slice Ao Rs.length co) (n := Rs.length) (xs := ys) rfl (htoU.out.1.alloc _) rfl (src_at (cs := [.slice A1 K.length c1]) rfl (by simp [Value.oneCell']) (by simp)) (by omega) (by omega) (by simp; omega) (Rs.length + 1) rfl ?_; intro A6 c6 w6 ho6 hg6 _; have hk6 : ∀ g, g ≤ X → w6.heap[g]? = ur.heap[g]? := (fun g hg => (hg6.block g (by simp; omega) (fun e => by have := (htoU.out.1.lt g e.symm).1; omega)).trans (Below.heap_alloc _ _ _ (by omega))); have x6 : w6.cell? ⟨X, 0, none⟩ = some (.slice Ao Rs.length co) := (World.cell?_of_block (hk6 X (Nat.le_refl _))).trans x5; have xf6 : ∀ o, w6.frozen? ⟨X, o, none⟩ = false := fun o => (World.frozen?_of_block (hk6 X (Nat.le_refl _))).trans (xf5 o); have xl6 : X < w6.heap.size := (by have := hg6.size; simp at this; omega); replace hk6 := Lib.hid hk6; replace ho6 := Lib.hid ho6; replace hg6 := Lib.hid hg6)
    have hnx := RegTo.nextG (w1 := ur.alloc (.cells #[.slice A1 K.length c1] 42 (0, 0))) (B := Z + 1) (hto.out.1.snocL K) (by rw [List.getElem?_append_right (Nat.le_refl _), Nat.sub_self]; rfl) (grown_tr hGu.out (grown_of (Go.Joins.below_alloc1 ur _) (some b))) (by omega) (hrow.out.alloc _) (by have := hZH.out; omega) (by have := hZH.out; omega) ho6.out hg6.out
    have hzx6 : ur.heap.size + 1 ≤ w6.heap.size := by have := hg6.out.size; simp at this; exact this
    go_roundg (t - 1)
    case measure => omega
    case rel =>
      refine ⟨t - 1, k5, A6, c6, ys ++ [.slice A1 K.length c1], Rs ++ [K], by go_num, by have := hRt.out; simp; omega, by omega, ?_, ?_, ⟨?_, ?_⟩, ?_, by omega, by simp; omega, ?_⟩
      · rw [List.length_append]; exact Go.Joins.block_setCell ((hk6.out X (Nat.le_refl _)).trans hXu.out) _
      · exact (Below.heap_setCell _ _ _ _ (by show Y ≠ X; omega)).trans ((hk6.out Y (by omega)).trans hRu.out)
      · rw [List.length_append]; exact hnx.set (by show X < X + 1; omega) _
      · intro R hR
        rcases List.mem_append.1 hR with hR | hR
        · exact hto.out.2 R hR
        · rw [List.mem_singleton.1 hR]; exact ⟨by have := hKM.out; omega, hKb, hKin.out⟩
      · exact (hsu.out.keepL fun g hg => hk6.out g (by omega)).set (by omega)
      · have hgg := hg6.out
        have hGw := hG.out
        have hx5 := hGu.out
        refine grown_setO (w := w) ⟨hgg.os.trans (hx5.os.trans hGw.os), hgg.tape.trans (hx5.tape.trans hGw.tape), hgg.output.trans (hx5.output.trans hGw.output), by have := hYH.out; omega, fun i hi hn => ?_⟩ (by have := hYH.out; omega) _ _
        have := hYH.out
        have := hZH.out
        exact (hk6.out i (by omega)).trans ((hx5.block i (by omega) hn).trans (hGw.block i hi hn))
end Go.Proofs.YtlifiioflkhkoaaGreat

