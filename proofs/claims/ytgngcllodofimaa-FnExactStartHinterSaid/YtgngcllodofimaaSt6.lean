/- The start of the hint machine: the program, all arguments. Printed by mk_st6.py. Conditions: as each states. -/
import Derived.Test.YtgngcllodofimaaSt5
namespace Go.Proofs.Ytgngcllodofimaa
open Go.RowKit
set_option linter.unusedVariables false
set_option maxRecDepth 100000

set_option maxHeartbeats 4000000 in
theorem implStart_any (A : Option Addr) (n c lo hi : Nat) (Ls : List (List Knot)) (adv : Int) (AV : Option Addr) (nv cv lov hiv : Nat) (V : List Int) (s u : Int) (D : HinterD × Int) (hD : D = startR Ls adv V s u) (w : World) (hr : OutRd w lo hi A n Ls) (hhi : hi ≤ w.heap.size) (hn : n ≤ 1048576) (hK : ∀ K ∈ Ls, K.length ≤ 1048576)
    (hrv : RdS 1 (FlatR intC) w lov hiv AV nv V) (hhiv : hiv ≤ w.heap.size) (hnv : nv ≤ 1048576) :
    Calls Try.prog 32 #[.agg #[.slice A n c], .int .i64 adv, .slice AV nv cv, .int .i64 s, .int .i64 u] w fun e w' => ∃ h : HinterH, e = .returned (.tuple #[hinV D.1 h, .int .i64 D.2]) ∧ HinOwn w' w.heap.size D.1 h ∧ Below w.heap.size w w' := by
  obtain ⟨v1, hv1⟩ : ∃ v, v = outOk Ls := ⟨_, rfl⟩
  obtain ⟨v2, hv2⟩ : ∃ v, v = valsB V := ⟨_, rfl⟩
  by_cases hall : v1 = true ∧ v2 = true ∧ askB adv s u = true
  · obtain ⟨h1, h2, h3⟩ := hall
    have hm : D = startF Ls adv V s u := by rw [hD, startR, ← hv1, ← hv2, h1, h2, h3]; rfl
    subst hm
    exact implStartIn_any A n c lo hi Ls adv AV nv cv lov hiv V s u w hr hhi hn hK hrv hhiv (hv1 ▸ h1) (hv2 ▸ h2) h3
  have hnew := Lib.hid (heap_new4 w (.cells #[.slice A n c] 46 (0, 0)) (.cells #[.int .i64 s] 2 (0, 0)) (.cells #[.int .i64 u] 2 (0, 0)) (.cells #[.int .i64 0, .slice none 0 0, .slice none 0 0, .slice none 0 0, .slice none 0 0, .slice none 0 0, .slice none 0 0, .slice none 0 0, .bool false, .int .i64 0, .int .i64 0, .int .i64 0, .int .i64 0] 65 (0, 0)))
  have hB0 : Below w.heap.size w ((((w.alloc (.cells #[.slice A n c] 46 (0, 0))).alloc (.cells #[.int .i64 s] 2 (0, 0))).alloc (.cells #[.int .i64 u] 2 (0, 0))).alloc (.cells #[.int .i64 0, .slice none 0 0, .slice none 0 0, .slice none 0 0, .slice none 0 0, .slice none 0 0, .slice none 0 0, .slice none 0 0, .bool false, .int .i64 0, .int .i64 0, .int .i64 0, .int .i64 0] 65 (0, 0))) := ((((Below.refl _ _).alloc (Nat.le_refl _) _).alloc (by simp) _).alloc (by simp <;> omega) _).alloc (by simp <;> omega) _
  have hz0 : ((((w.alloc (.cells #[.slice A n c] 46 (0, 0))).alloc (.cells #[.int .i64 s] 2 (0, 0))).alloc (.cells #[.int .i64 u] 2 (0, 0))).alloc (.cells #[.int .i64 0, .slice none 0 0, .slice none 0 0, .slice none 0 0, .slice none 0 0, .slice none 0 0, .slice none 0 0, .slice none 0 0, .bool false, .int .i64 0, .int .i64 0, .int .i64 0, .int .i64 0] 65 (0, 0))).heap.size = w.heap.size + 4 := by simp
  have hc0 : ((((w.alloc (.cells #[.slice A n c] 46 (0, 0))).alloc (.cells #[.int .i64 s] 2 (0, 0))).alloc (.cells #[.int .i64 u] 2 (0, 0))).alloc (.cells #[.int .i64 0, .slice none 0 0, .slice none 0 0, .slice none 0 0, .slice none 0 0, .slice none 0 0, .slice none 0 0, .slice none 0 0, .bool false, .int .i64 0, .int .i64 0, .int .i64 0, .int .i64 0] 65 (0, 0))).cell? ⟨w.heap.size, 0, none⟩ = some (.slice A n c) := by rw [Go.Joins.cell_of_block hnew.out.1]; rfl
  generalize hw0 : ((((w.alloc (.cells #[.slice A n c] 46 (0, 0))).alloc (.cells #[.int .i64 s] 2 (0, 0))).alloc (.cells #[.int .i64 u] 2 (0, 0))).alloc (.cells #[.int .i64 0, .slice none 0 0, .slice none 0 0, .slice none 0 0, .slice none 0 0, .slice none 0 0, .slice none 0 0, .slice none 0 0, .bool false, .int .i64 0, .int .i64 0, .int .i64 0, .int .i64 0] 65 (0, 0))) = w0 at hnew hB0 hz0 hc0
  replace hw0 := Lib.hid hw0
  have hval := Lib.hid (validOutline_any A n c lo hi Ls v1 hv1 w0 (hr.frame good_loop (Below.sameB hB0 hhi)) (by omega) (by omega) (fun K h => by have := hK K h; omega))
  have hvv := Lib.hid (fun W (hS : Below w0.heap.size w0 W) => hintValues_any AV nv cv lov hiv V v2 hv2 W (hrv.frame (good_flat _) (Below.sameB (hB0.trans (hS.mono (by omega))) hhiv)) (by have := hS.size; omega) (by omega))
  cases v1 with
  | false =>
    have hm : D = (zeroD, 1) := by rw [hD, startR, ← hv1]; rfl
    subst hm
    clear hr hK hv1 hv2 hD hrv hhi hhiv hc0 hvv hall
    go_enter Try.func32, Try.ntmps32
    go_wp2_with fail
    rw [hw0.out]
    refine hval.out.mono ?_
    rintro e w1 ⟨rfl, hb1⟩
    have hz1 := hb1.size
    have hR := (hb1.block (w.heap.size + 3) (by omega)).trans hnew.out.2.2.2
    have cr0 : w1.cell? ⟨w.heap.size + 3, 0, none⟩ = some (.int .i64 0) := by rw [Go.Joins.cell_of_block hR]; rfl
    have cr1 : w1.cell? ⟨w.heap.size + 3, 1, none⟩ = some (.slice none 0 0) := by rw [Go.Joins.cell_of_block hR]; rfl
    have cr2 : w1.cell? ⟨w.heap.size + 3, 2, none⟩ = some (.slice none 0 0) := by rw [Go.Joins.cell_of_block hR]; rfl
    have cr3 : w1.cell? ⟨w.heap.size + 3, 3, none⟩ = some (.slice none 0 0) := by rw [Go.Joins.cell_of_block hR]; rfl
    have cr4 : w1.cell? ⟨w.heap.size + 3, 4, none⟩ = some (.slice none 0 0) := by rw [Go.Joins.cell_of_block hR]; rfl
    have cr5 : w1.cell? ⟨w.heap.size + 3, 5, none⟩ = some (.slice none 0 0) := by rw [Go.Joins.cell_of_block hR]; rfl
    have cr6 : w1.cell? ⟨w.heap.size + 3, 6, none⟩ = some (.slice none 0 0) := by rw [Go.Joins.cell_of_block hR]; rfl
    have cr7 : w1.cell? ⟨w.heap.size + 3, 7, none⟩ = some (.slice none 0 0) := by rw [Go.Joins.cell_of_block hR]; rfl
    have cr8 : w1.cell? ⟨w.heap.size + 3, 8, none⟩ = some (.bool false) := by rw [Go.Joins.cell_of_block hR]; rfl
    have cr9 : w1.cell? ⟨w.heap.size + 3, 9, none⟩ = some (.int .i64 0) := by rw [Go.Joins.cell_of_block hR]; rfl
    have cr10 : w1.cell? ⟨w.heap.size + 3, 10, none⟩ = some (.int .i64 0) := by rw [Go.Joins.cell_of_block hR]; rfl
    have cr11 : w1.cell? ⟨w.heap.size + 3, 11, none⟩ = some (.int .i64 0) := by rw [Go.Joins.cell_of_block hR]; rfl
    have cr12 : w1.cell? ⟨w.heap.size + 3, 12, none⟩ = some (.int .i64 0) := by rw [Go.Joins.cell_of_block hR]; rfl
    have crf : ∀ o, w1.frozen? ⟨w.heap.size + 3, o, none⟩ = false := Go.Joins.unfrozen_of_block hR
    have crl : w.heap.size + 3 < w1.heap.size := by omega
    have hBr : Below w.heap.size w w1 := hB0.trans (hb1.mono (by omega))
    clear hR hb1 hval hnew
    go_wp2_with fail
    refine bodyPost_ret (v := .tuple #[hinV zeroD zeroH, .int .i64 1]) (by simp [results, Try.results32, go_sem, cr0, cr1, cr2, cr3, cr4, cr5, cr6, cr7, cr8, cr9, cr10, cr11, cr12, zeroD, zeroH]) rfl ⟨zeroH, rfl, HinOwn.zero _ _, below13 hBr (by omega) _ _ _ _ _ _ _ _ _ _ _ _ _⟩
  | true =>
    cases v2 with
    | false =>
      have hm : D = (zeroD, 1) := by rw [hD, startR, ← hv1, ← hv2]; rfl
      subst hm
      clear hr hK hv1 hv2 hD hrv hhi hhiv hc0 hall
      go_enter Try.func32, Try.ntmps32
      go_wp2_with fail
      rw [hw0.out]
      refine hval.out.mono ?_
      rintro e w1 ⟨rfl, hb1⟩
      go_wp2_with fail
      refine (hvv.out _ hb1).mono ?_
      rintro e w2 ⟨rfl, hb2⟩
      replace hb1 := hb1.trans (hb2.mono hb1.size)
      have hz1 := hb1.size
      have hR := (hb1.block (w.heap.size + 3) (by omega)).trans hnew.out.2.2.2
      have cr0 : w2.cell? ⟨w.heap.size + 3, 0, none⟩ = some (.int .i64 0) := by rw [Go.Joins.cell_of_block hR]; rfl
      have cr1 : w2.cell? ⟨w.heap.size + 3, 1, none⟩ = some (.slice none 0 0) := by rw [Go.Joins.cell_of_block hR]; rfl
      have cr2 : w2.cell? ⟨w.heap.size + 3, 2, none⟩ = some (.slice none 0 0) := by rw [Go.Joins.cell_of_block hR]; rfl
      have cr3 : w2.cell? ⟨w.heap.size + 3, 3, none⟩ = some (.slice none 0 0) := by rw [Go.Joins.cell_of_block hR]; rfl
      have cr4 : w2.cell? ⟨w.heap.size + 3, 4, none⟩ = some (.slice none 0 0) := by rw [Go.Joins.cell_of_block hR]; rfl
      have cr5 : w2.cell? ⟨w.heap.size + 3, 5, none⟩ = some (.slice none 0 0) := by rw [Go.Joins.cell_of_block hR]; rfl
      have cr6 : w2.cell? ⟨w.heap.size + 3, 6, none⟩ = some (.slice none 0 0) := by rw [Go.Joins.cell_of_block hR]; rfl
      have cr7 : w2.cell? ⟨w.heap.size + 3, 7, none⟩ = some (.slice none 0 0) := by rw [Go.Joins.cell_of_block hR]; rfl
      have cr8 : w2.cell? ⟨w.heap.size + 3, 8, none⟩ = some (.bool false) := by rw [Go.Joins.cell_of_block hR]; rfl
      have cr9 : w2.cell? ⟨w.heap.size + 3, 9, none⟩ = some (.int .i64 0) := by rw [Go.Joins.cell_of_block hR]; rfl
      have cr10 : w2.cell? ⟨w.heap.size + 3, 10, none⟩ = some (.int .i64 0) := by rw [Go.Joins.cell_of_block hR]; rfl
      have cr11 : w2.cell? ⟨w.heap.size + 3, 11, none⟩ = some (.int .i64 0) := by rw [Go.Joins.cell_of_block hR]; rfl
      have cr12 : w2.cell? ⟨w.heap.size + 3, 12, none⟩ = some (.int .i64 0) := by rw [Go.Joins.cell_of_block hR]; rfl
      have crf : ∀ o, w2.frozen? ⟨w.heap.size + 3, o, none⟩ = false := Go.Joins.unfrozen_of_block hR
      have crl : w.heap.size + 3 < w2.heap.size := by omega
      have hBr : Below w.heap.size w w2 := hB0.trans (hb1.mono (by omega))
      clear hR hb1 hb2 hval hvv hnew
      go_wp2_with fail
      refine bodyPost_ret (v := .tuple #[hinV zeroD zeroH, .int .i64 1]) (by simp [results, Try.results32, go_sem, cr0, cr1, cr2, cr3, cr4, cr5, cr6, cr7, cr8, cr9, cr10, cr11, cr12, zeroD, zeroH]) rfl ⟨zeroH, rfl, HinOwn.zero _ _, below13 hBr (by omega) _ _ _ _ _ _ _ _ _ _ _ _ _⟩
    | true =>
      have ha : askB adv s u = false := by
        cases h : askB adv s u with
        | false => rfl
        | true => exact absurd ⟨rfl, rfl, h⟩ hall
      have hm : D = (zeroD, 2) := by rw [hD, startR, ← hv1, ← hv2, ha]; rfl
      subst hm
      have hak := Lib.hid (fun W => implScaleTo_no adv s u W ha)
      clear hr hK hv1 hv2 hD hrv hhi hhiv hc0 ha hall
      go_enter Try.func32, Try.ntmps32
      go_wp2_with fail
      rw [hw0.out]
      refine hval.out.mono ?_
      rintro e w1 ⟨rfl, hb1⟩
      go_wp2_with fail
      refine (hvv.out _ hb1).mono ?_
      rintro e w2 ⟨rfl, hb2⟩
      replace hb1 := hb1.trans (hb2.mono hb1.size)
      have hz1 := hb1.size
      have hS2 := (hb1.block (w.heap.size + 1) (by omega)).trans hnew.out.2.1
      have hU2 := (hb1.block (w.heap.size + 2) (by omega)).trans hnew.out.2.2.1
      have s0 : w2.cell? ⟨w.heap.size + 1, 0, none⟩ = some (.int .i64 s) := by rw [Go.Joins.cell_of_block hS2]; rfl
      have u0 : w2.cell? ⟨w.heap.size + 2, 0, none⟩ = some (.int .i64 u) := by rw [Go.Joins.cell_of_block hU2]; rfl
      have hsl : w.heap.size + 2 < w2.heap.size := by omega
      have hul : w.heap.size + 1 < w2.heap.size := by omega
      have hR := (hb1.block (w.heap.size + 3) (by omega)).trans hnew.out.2.2.2
      have cr0 : w2.cell? ⟨w.heap.size + 3, 0, none⟩ = some (.int .i64 0) := by rw [Go.Joins.cell_of_block hR]; rfl
      have cr1 : w2.cell? ⟨w.heap.size + 3, 1, none⟩ = some (.slice none 0 0) := by rw [Go.Joins.cell_of_block hR]; rfl
      have cr2 : w2.cell? ⟨w.heap.size + 3, 2, none⟩ = some (.slice none 0 0) := by rw [Go.Joins.cell_of_block hR]; rfl
      have cr3 : w2.cell? ⟨w.heap.size + 3, 3, none⟩ = some (.slice none 0 0) := by rw [Go.Joins.cell_of_block hR]; rfl
      have cr4 : w2.cell? ⟨w.heap.size + 3, 4, none⟩ = some (.slice none 0 0) := by rw [Go.Joins.cell_of_block hR]; rfl
      have cr5 : w2.cell? ⟨w.heap.size + 3, 5, none⟩ = some (.slice none 0 0) := by rw [Go.Joins.cell_of_block hR]; rfl
      have cr6 : w2.cell? ⟨w.heap.size + 3, 6, none⟩ = some (.slice none 0 0) := by rw [Go.Joins.cell_of_block hR]; rfl
      have cr7 : w2.cell? ⟨w.heap.size + 3, 7, none⟩ = some (.slice none 0 0) := by rw [Go.Joins.cell_of_block hR]; rfl
      have cr8 : w2.cell? ⟨w.heap.size + 3, 8, none⟩ = some (.bool false) := by rw [Go.Joins.cell_of_block hR]; rfl
      have cr9 : w2.cell? ⟨w.heap.size + 3, 9, none⟩ = some (.int .i64 0) := by rw [Go.Joins.cell_of_block hR]; rfl
      have cr10 : w2.cell? ⟨w.heap.size + 3, 10, none⟩ = some (.int .i64 0) := by rw [Go.Joins.cell_of_block hR]; rfl
      have cr11 : w2.cell? ⟨w.heap.size + 3, 11, none⟩ = some (.int .i64 0) := by rw [Go.Joins.cell_of_block hR]; rfl
      have cr12 : w2.cell? ⟨w.heap.size + 3, 12, none⟩ = some (.int .i64 0) := by rw [Go.Joins.cell_of_block hR]; rfl
      have crf : ∀ o, w2.frozen? ⟨w.heap.size + 3, o, none⟩ = false := Go.Joins.unfrozen_of_block hR
      have crl : w.heap.size + 3 < w2.heap.size := by omega
      have hBr : Below w.heap.size w w2 := hB0.trans (hb1.mono (by omega))
      clear hR hb1 hb2 hval hvv hnew hS2 hU2
      go_wp2_with (go_at_call 19; refine (hak.out _).mono ?_; rintro e w' ⟨rfl, rfl⟩)
      refine bodyPost_ret (v := .tuple #[hinV zeroD zeroH, .int .i64 2]) (by simp [results, Try.results32, go_sem, cr0, cr1, cr2, cr3, cr4, cr5, cr6, cr7, cr8, cr9, cr10, cr11, cr12, zeroD, zeroH]) rfl ⟨zeroH, rfl, HinOwn.zero _ _, below13 hBr (by omega) _ _ _ _ _ _ _ _ _ _ _ _ _⟩
end Go.Proofs.Ytgngcllodofimaa
