/- The start of the hint machine: the reference's door. Printed by mk_st4.py. Conditions: as each states. -/
import Derived.Test.YtgngcllodofimaaSt3
namespace Go.Proofs.Ytgngcllodofimaa
open Go.RowKit
set_option linter.unusedVariables false
set_option maxRecDepth 100000

def startR (Ls : List (List Knot)) (adv : Int) (V : List Int) (s u : Int) : HinterD × Int := if outOk Ls && valsB V then (if askB adv s u then startF Ls adv V s u else (zeroD, 2)) else (zeroD, 1)
theorem out_is {Ls : List (List Knot)} (h : outOk Ls = true) : Ls.length ≤ 12 ∧ (∀ K ∈ Ls, K.length ≤ 60) ∧ (∀ K ∈ Ls, ∀ p ∈ K, (-262144 ≤ p.1 ∧ p.1 ≤ 262144) ∧ (-262144 ≤ p.2.1 ∧ p.2.1 ≤ 262144)) := by
  simp only [outOk, Bool.and_eq_true, List.all_eq_true, decide_eq_true_eq] at h
  refine ⟨h.2, fun K hK => ?_, fun K hK p hp => ?_⟩
  · have h3 := h.1 K hK
    simp only [loopOk, Bool.and_eq_true] at h3
    have := (inB_iff.1 h3.1.1).2
    omega
  · have h3 := h.1 K hK
    simp only [loopOk, Bool.and_eq_true, List.all_eq_true] at h3
    exact ptOk_iff.1 (h3.2 p hp)
theorem vals_is {V : List Int} (h : valsB V = true) : V.length ≤ 16 ∧ ∀ v ∈ V, -262144 ≤ v ∧ v ≤ 262144 := by
  simp only [valsB, Bool.and_eq_true, List.all_eq_true, decide_eq_true_eq] at h
  exact ⟨h.1, fun v hv => inB_iff.1 (h.2 v hv)⟩

set_option maxHeartbeats 4000000 in
theorem specStart_any (A : Option Addr) (n c lo hi : Nat) (Ls : List (List Knot)) (adv : Int) (AV : Option Addr) (nv cv lov hiv : Nat) (V : List Int) (s u : Int) (D : HinterD × Int) (hD : D = startR Ls adv V s u) (w : World) (hr : OutRd w lo hi A n Ls) (hhi : hi ≤ w.heap.size) (hn : n ≤ 1048576) (hK : ∀ K ∈ Ls, K.length ≤ 1048576)
    (hrv : RdS 1 (FlatR intC) w lov hiv AV nv V) (hhiv : hiv ≤ w.heap.size) (hnv : nv ≤ 1048576) :
    Calls Try.prog 29 #[.agg #[.slice A n c], .int .i64 adv, .slice AV nv cv, .int .i64 s, .int .i64 u] w fun e w' => ∃ h : HinterH, e = .returned (.tuple #[hinV D.1 h, .int .i64 D.2]) ∧ HinOwn w' w.heap.size D.1 h ∧ Below w.heap.size w w' := by
  have hnew := Lib.hid (heap_new2 w (.cells #[.slice A n c] 46 (0, 0)) (.cells #[.int .i64 0, .slice none 0 0, .slice none 0 0, .slice none 0 0, .slice none 0 0, .slice none 0 0, .slice none 0 0, .slice none 0 0, .bool false, .int .i64 0, .int .i64 0, .int .i64 0, .int .i64 0] 65 (0, 0)))
  have hB0 : Below w.heap.size w ((w.alloc (.cells #[.slice A n c] 46 (0, 0))).alloc (.cells #[.int .i64 0, .slice none 0 0, .slice none 0 0, .slice none 0 0, .slice none 0 0, .slice none 0 0, .slice none 0 0, .slice none 0 0, .bool false, .int .i64 0, .int .i64 0, .int .i64 0, .int .i64 0] 65 (0, 0))) := Go.Joins.below_alloc2 _ _ _
  have hz0 : ((w.alloc (.cells #[.slice A n c] 46 (0, 0))).alloc (.cells #[.int .i64 0, .slice none 0 0, .slice none 0 0, .slice none 0 0, .slice none 0 0, .slice none 0 0, .slice none 0 0, .slice none 0 0, .bool false, .int .i64 0, .int .i64 0, .int .i64 0, .int .i64 0] 65 (0, 0))).heap.size = w.heap.size + 2 := by simp
  have hc0 : ((w.alloc (.cells #[.slice A n c] 46 (0, 0))).alloc (.cells #[.int .i64 0, .slice none 0 0, .slice none 0 0, .slice none 0 0, .slice none 0 0, .slice none 0 0, .slice none 0 0, .slice none 0 0, .bool false, .int .i64 0, .int .i64 0, .int .i64 0, .int .i64 0] 65 (0, 0))).cell? ⟨w.heap.size, 0, none⟩ = some (.slice A n c) := by rw [Go.Joins.cell_of_block hnew.out.1]; rfl
  generalize hw0 : (w.alloc (.cells #[.slice A n c] 46 (0, 0))).alloc (.cells #[.int .i64 0, .slice none 0 0, .slice none 0 0, .slice none 0 0, .slice none 0 0, .slice none 0 0, .slice none 0 0, .slice none 0 0, .bool false, .int .i64 0, .int .i64 0, .int .i64 0, .int .i64 0] 65 (0, 0)) = w0 at hnew hB0 hz0 hc0
  replace hw0 := Lib.hid hw0
  obtain ⟨v1, hv1⟩ : ∃ v, v = outOk Ls := ⟨_, rfl⟩
  have hval := Lib.hid (l10Ok_any w.heap.size A n c lo hi Ls v1 hv1 w0 (by omega) hc0 (hr.frame good_loop (Below.sameB hB0 hhi)) (by omega) (by omega) (fun K h => by have := hK K h; omega))
  cases v1 with
  | false =>
    have hm : D = (zeroD, 1) := by rw [hD, startR, ← hv1]; rfl
    subst hm
    clear hr hK hv1 hD hrv hhi hhiv hc0
    go_enter Try.func29, Try.ntmps29
    go_wp2_with fail
    rw [hw0.out]
    refine hval.out.mono ?_
    rintro e w1 ⟨rfl, hb1⟩
    have hz1 := hb1.size
    have hR := (hb1.block (w.heap.size + 1) (by omega)).trans hnew.out.2
    have cr0 : w1.cell? ⟨w.heap.size + 1, 0, none⟩ = some (.int .i64 0) := by rw [Go.Joins.cell_of_block hR]; rfl
    have cr1 : w1.cell? ⟨w.heap.size + 1, 1, none⟩ = some (.slice none 0 0) := by rw [Go.Joins.cell_of_block hR]; rfl
    have cr2 : w1.cell? ⟨w.heap.size + 1, 2, none⟩ = some (.slice none 0 0) := by rw [Go.Joins.cell_of_block hR]; rfl
    have cr3 : w1.cell? ⟨w.heap.size + 1, 3, none⟩ = some (.slice none 0 0) := by rw [Go.Joins.cell_of_block hR]; rfl
    have cr4 : w1.cell? ⟨w.heap.size + 1, 4, none⟩ = some (.slice none 0 0) := by rw [Go.Joins.cell_of_block hR]; rfl
    have cr5 : w1.cell? ⟨w.heap.size + 1, 5, none⟩ = some (.slice none 0 0) := by rw [Go.Joins.cell_of_block hR]; rfl
    have cr6 : w1.cell? ⟨w.heap.size + 1, 6, none⟩ = some (.slice none 0 0) := by rw [Go.Joins.cell_of_block hR]; rfl
    have cr7 : w1.cell? ⟨w.heap.size + 1, 7, none⟩ = some (.slice none 0 0) := by rw [Go.Joins.cell_of_block hR]; rfl
    have cr8 : w1.cell? ⟨w.heap.size + 1, 8, none⟩ = some (.bool false) := by rw [Go.Joins.cell_of_block hR]; rfl
    have cr9 : w1.cell? ⟨w.heap.size + 1, 9, none⟩ = some (.int .i64 0) := by rw [Go.Joins.cell_of_block hR]; rfl
    have cr10 : w1.cell? ⟨w.heap.size + 1, 10, none⟩ = some (.int .i64 0) := by rw [Go.Joins.cell_of_block hR]; rfl
    have cr11 : w1.cell? ⟨w.heap.size + 1, 11, none⟩ = some (.int .i64 0) := by rw [Go.Joins.cell_of_block hR]; rfl
    have cr12 : w1.cell? ⟨w.heap.size + 1, 12, none⟩ = some (.int .i64 0) := by rw [Go.Joins.cell_of_block hR]; rfl
    have crf : ∀ o, w1.frozen? ⟨w.heap.size + 1, o, none⟩ = false := Go.Joins.unfrozen_of_block hR
    have crl : w.heap.size + 1 < w1.heap.size := by omega
    have hBr : Below w.heap.size w w1 := hB0.trans (hb1.mono (by omega))
    clear hR hb1 hval hnew
    go_wp2_with fail
    refine bodyPost_ret (v := .tuple #[hinV zeroD zeroH, .int .i64 1]) (by simp [results, Try.results29, go_sem, cr0, cr1, cr2, cr3, cr4, cr5, cr6, cr7, cr8, cr9, cr10, cr11, cr12, zeroD, zeroH]) rfl ⟨zeroH, rfl, HinOwn.zero _ _, below13 hBr (by omega) _ _ _ _ _ _ _ _ _ _ _ _ _⟩
  | true =>
    obtain ⟨v2, hv2⟩ : ∃ v, v = valsB V := ⟨_, rfl⟩
    have hvv := Lib.hid (fun W (hS : Below w0.heap.size w0 W) => l20Values_any AV nv cv lov hiv V v2 hv2 W (hrv.frame (good_flat _) (Below.sameB (hB0.trans (hS.mono (by omega))) hhiv)) (by have := hS.size; omega) (by omega))
    cases v2 with
    | false =>
      have hm : D = (zeroD, 1) := by rw [hD, startR, ← hv1, ← hv2]; rfl
      subst hm
      clear hr hK hv1 hv2 hD hrv hhi hhiv hc0
      go_enter Try.func29, Try.ntmps29
      go_wp2_with fail
      rw [hw0.out]
      refine hval.out.mono ?_
      rintro e w1 ⟨rfl, hb1⟩
      go_wp2_with fail
      refine (hvv.out _ hb1).mono ?_
      rintro e w2 ⟨rfl, hb2⟩
      replace hb1 := hb1.trans (hb2.mono hb1.size)
      have hz1 := hb1.size
      have hR := (hb1.block (w.heap.size + 1) (by omega)).trans hnew.out.2
      have cr0 : w2.cell? ⟨w.heap.size + 1, 0, none⟩ = some (.int .i64 0) := by rw [Go.Joins.cell_of_block hR]; rfl
      have cr1 : w2.cell? ⟨w.heap.size + 1, 1, none⟩ = some (.slice none 0 0) := by rw [Go.Joins.cell_of_block hR]; rfl
      have cr2 : w2.cell? ⟨w.heap.size + 1, 2, none⟩ = some (.slice none 0 0) := by rw [Go.Joins.cell_of_block hR]; rfl
      have cr3 : w2.cell? ⟨w.heap.size + 1, 3, none⟩ = some (.slice none 0 0) := by rw [Go.Joins.cell_of_block hR]; rfl
      have cr4 : w2.cell? ⟨w.heap.size + 1, 4, none⟩ = some (.slice none 0 0) := by rw [Go.Joins.cell_of_block hR]; rfl
      have cr5 : w2.cell? ⟨w.heap.size + 1, 5, none⟩ = some (.slice none 0 0) := by rw [Go.Joins.cell_of_block hR]; rfl
      have cr6 : w2.cell? ⟨w.heap.size + 1, 6, none⟩ = some (.slice none 0 0) := by rw [Go.Joins.cell_of_block hR]; rfl
      have cr7 : w2.cell? ⟨w.heap.size + 1, 7, none⟩ = some (.slice none 0 0) := by rw [Go.Joins.cell_of_block hR]; rfl
      have cr8 : w2.cell? ⟨w.heap.size + 1, 8, none⟩ = some (.bool false) := by rw [Go.Joins.cell_of_block hR]; rfl
      have cr9 : w2.cell? ⟨w.heap.size + 1, 9, none⟩ = some (.int .i64 0) := by rw [Go.Joins.cell_of_block hR]; rfl
      have cr10 : w2.cell? ⟨w.heap.size + 1, 10, none⟩ = some (.int .i64 0) := by rw [Go.Joins.cell_of_block hR]; rfl
      have cr11 : w2.cell? ⟨w.heap.size + 1, 11, none⟩ = some (.int .i64 0) := by rw [Go.Joins.cell_of_block hR]; rfl
      have cr12 : w2.cell? ⟨w.heap.size + 1, 12, none⟩ = some (.int .i64 0) := by rw [Go.Joins.cell_of_block hR]; rfl
      have crf : ∀ o, w2.frozen? ⟨w.heap.size + 1, o, none⟩ = false := Go.Joins.unfrozen_of_block hR
      have crl : w.heap.size + 1 < w2.heap.size := by omega
      have hBr : Below w.heap.size w w2 := hB0.trans (hb1.mono (by omega))
      clear hR hb1 hb2 hval hvv hnew
      go_wp2_with fail
      refine bodyPost_ret (v := .tuple #[hinV zeroD zeroH, .int .i64 1]) (by simp [results, Try.results29, go_sem, cr0, cr1, cr2, cr3, cr4, cr5, cr6, cr7, cr8, cr9, cr10, cr11, cr12, zeroD, zeroH]) rfl ⟨zeroH, rfl, HinOwn.zero _ _, below13 hBr (by omega) _ _ _ _ _ _ _ _ _ _ _ _ _⟩
    | true =>
      obtain ⟨o1, o2, o3⟩ := out_is hv1.symm
      obtain ⟨u1, u2⟩ := vals_is hv2.symm
      cases ha : askB adv s u with
      | false =>
        have hm : D = (zeroD, 2) := by rw [hD, startR, ← hv1, ← hv2, ha]; rfl
        subst hm
        have hak := Lib.hid (fun W => l18Ask_no adv s u W ha)
        clear hr hK hv1 hv2 hD hrv hhi hhiv hc0 o1 o2 o3 u1 u2 ha
        go_enter Try.func29, Try.ntmps29
        go_wp2_with fail
        rw [hw0.out]
        refine hval.out.mono ?_
        rintro e w1 ⟨rfl, hb1⟩
        go_wp2_with fail
        refine (hvv.out _ hb1).mono ?_
        rintro e w2 ⟨rfl, hb2⟩
        replace hb1 := hb1.trans (hb2.mono hb1.size)
        have hz1 := hb1.size
        have hR := (hb1.block (w.heap.size + 1) (by omega)).trans hnew.out.2
        have cr0 : w2.cell? ⟨w.heap.size + 1, 0, none⟩ = some (.int .i64 0) := by rw [Go.Joins.cell_of_block hR]; rfl
        have cr1 : w2.cell? ⟨w.heap.size + 1, 1, none⟩ = some (.slice none 0 0) := by rw [Go.Joins.cell_of_block hR]; rfl
        have cr2 : w2.cell? ⟨w.heap.size + 1, 2, none⟩ = some (.slice none 0 0) := by rw [Go.Joins.cell_of_block hR]; rfl
        have cr3 : w2.cell? ⟨w.heap.size + 1, 3, none⟩ = some (.slice none 0 0) := by rw [Go.Joins.cell_of_block hR]; rfl
        have cr4 : w2.cell? ⟨w.heap.size + 1, 4, none⟩ = some (.slice none 0 0) := by rw [Go.Joins.cell_of_block hR]; rfl
        have cr5 : w2.cell? ⟨w.heap.size + 1, 5, none⟩ = some (.slice none 0 0) := by rw [Go.Joins.cell_of_block hR]; rfl
        have cr6 : w2.cell? ⟨w.heap.size + 1, 6, none⟩ = some (.slice none 0 0) := by rw [Go.Joins.cell_of_block hR]; rfl
        have cr7 : w2.cell? ⟨w.heap.size + 1, 7, none⟩ = some (.slice none 0 0) := by rw [Go.Joins.cell_of_block hR]; rfl
        have cr8 : w2.cell? ⟨w.heap.size + 1, 8, none⟩ = some (.bool false) := by rw [Go.Joins.cell_of_block hR]; rfl
        have cr9 : w2.cell? ⟨w.heap.size + 1, 9, none⟩ = some (.int .i64 0) := by rw [Go.Joins.cell_of_block hR]; rfl
        have cr10 : w2.cell? ⟨w.heap.size + 1, 10, none⟩ = some (.int .i64 0) := by rw [Go.Joins.cell_of_block hR]; rfl
        have cr11 : w2.cell? ⟨w.heap.size + 1, 11, none⟩ = some (.int .i64 0) := by rw [Go.Joins.cell_of_block hR]; rfl
        have cr12 : w2.cell? ⟨w.heap.size + 1, 12, none⟩ = some (.int .i64 0) := by rw [Go.Joins.cell_of_block hR]; rfl
        have crf : ∀ o, w2.frozen? ⟨w.heap.size + 1, o, none⟩ = false := Go.Joins.unfrozen_of_block hR
        have crl : w.heap.size + 1 < w2.heap.size := by omega
        have hBr : Below w.heap.size w w2 := hB0.trans (hb1.mono (by omega))
        clear hR hb1 hb2 hval hvv hnew
        go_wp2_with (go_at_call 88; refine (hak.out _).mono ?_; rintro e w' ⟨rfl, rfl⟩)
        refine bodyPost_ret (v := .tuple #[hinV zeroD zeroH, .int .i64 2]) (by simp [results, Try.results29, go_sem, cr0, cr1, cr2, cr3, cr4, cr5, cr6, cr7, cr8, cr9, cr10, cr11, cr12, zeroD, zeroH]) rfl ⟨zeroH, rfl, HinOwn.zero _ _, below13 hBr (by omega) _ _ _ _ _ _ _ _ _ _ _ _ _⟩
      | true =>
        have hm : D = startF Ls adv V s u := by rw [hD, startR, ← hv1, ← hv2, ha]; rfl
        subst hm
        have hak := Lib.hid (fun W => l18Ask_yes adv s u W ha)
        have hst := Lib.hid (fun W (hS : Below w0.heap.size w0 W) => l20Start_any w.heap.size A n c lo hi Ls adv AV nv cv lov hiv V s u W (by have := hS.size; omega) ((hS.cell (by simp; omega)).trans hc0) (hr.frame good_loop (Below.sameB (hB0.trans (hS.mono (by omega))) hhi)) (by have := hS.size; omega) (by rw [← hr.1]; exact o1) o2 (fun K h p hp => ⟨ask_in ha (o3 K h p hp).1.1 (o3 K h p hp).1.2, ask_in ha (o3 K h p hp).2.1 (o3 K h p hp).2.2⟩) (hrv.frame (good_flat _) (Below.sameB (hB0.trans (hS.mono (by omega))) hhiv)) (by have := hS.size; omega) (by rw [← hrv.1]; exact u1) (fun v hv => ask_in ha (u2 v hv).1 (u2 v hv).2) ha)
        clear hr hK hv1 hv2 hD hrv hhi hhiv hc0 o1 o2 o3 u1 u2 ha
        generalize startF Ls adv V s u = F at *
        obtain ⟨d, code⟩ := F
        dsimp only at *
        go_enter Try.func29, Try.ntmps29
        go_wp2_with fail
        rw [hw0.out]
        refine hval.out.mono ?_
        rintro e w1 ⟨rfl, hb1⟩
        go_wp2_with fail
        refine (hvv.out _ hb1).mono ?_
        rintro e w2 ⟨rfl, hb2⟩
        replace hb1 := hb1.trans (hb2.mono hb1.size)
        clear hb2
        go_wp2_with (go_at_call 88; refine (hak.out _).mono ?_; rintro e w' ⟨rfl, rfl⟩)
        have hz2 := hb1.size
        refine (hst.out _ hb1).mono ?_
        rintro e w3 ⟨h, rfl, ho3, hb3⟩
        have hz3 := hb3.size
        have hR := (hb3.block (w.heap.size + 1) (by omega)).trans ((hb1.block (w.heap.size + 1) (by omega)).trans hnew.out.2)
        have cr0 : w3.cell? ⟨w.heap.size + 1, 0, none⟩ = some (.int .i64 0) := by rw [Go.Joins.cell_of_block hR]; rfl
        have cr1 : w3.cell? ⟨w.heap.size + 1, 1, none⟩ = some (.slice none 0 0) := by rw [Go.Joins.cell_of_block hR]; rfl
        have cr2 : w3.cell? ⟨w.heap.size + 1, 2, none⟩ = some (.slice none 0 0) := by rw [Go.Joins.cell_of_block hR]; rfl
        have cr3 : w3.cell? ⟨w.heap.size + 1, 3, none⟩ = some (.slice none 0 0) := by rw [Go.Joins.cell_of_block hR]; rfl
        have cr4 : w3.cell? ⟨w.heap.size + 1, 4, none⟩ = some (.slice none 0 0) := by rw [Go.Joins.cell_of_block hR]; rfl
        have cr5 : w3.cell? ⟨w.heap.size + 1, 5, none⟩ = some (.slice none 0 0) := by rw [Go.Joins.cell_of_block hR]; rfl
        have cr6 : w3.cell? ⟨w.heap.size + 1, 6, none⟩ = some (.slice none 0 0) := by rw [Go.Joins.cell_of_block hR]; rfl
        have cr7 : w3.cell? ⟨w.heap.size + 1, 7, none⟩ = some (.slice none 0 0) := by rw [Go.Joins.cell_of_block hR]; rfl
        have cr8 : w3.cell? ⟨w.heap.size + 1, 8, none⟩ = some (.bool false) := by rw [Go.Joins.cell_of_block hR]; rfl
        have cr9 : w3.cell? ⟨w.heap.size + 1, 9, none⟩ = some (.int .i64 0) := by rw [Go.Joins.cell_of_block hR]; rfl
        have cr10 : w3.cell? ⟨w.heap.size + 1, 10, none⟩ = some (.int .i64 0) := by rw [Go.Joins.cell_of_block hR]; rfl
        have cr11 : w3.cell? ⟨w.heap.size + 1, 11, none⟩ = some (.int .i64 0) := by rw [Go.Joins.cell_of_block hR]; rfl
        have cr12 : w3.cell? ⟨w.heap.size + 1, 12, none⟩ = some (.int .i64 0) := by rw [Go.Joins.cell_of_block hR]; rfl
        have crf : ∀ o, w3.frozen? ⟨w.heap.size + 1, o, none⟩ = false := Go.Joins.unfrozen_of_block hR
        have crl : w.heap.size + 1 < w3.heap.size := by omega
        have hBr : Below w.heap.size w w3 := (hB0.trans (hb1.mono (by omega))).trans (hb3.mono (by omega))
        replace ho3 := Lib.hid ho3
        clear hR hb3 hb1 hval hvv hnew hst
        go_wp2_with fail
        refine bodyPost_ret (v := .tuple #[hinV d h, .int .i64 code]) (by simp [results, Try.results29, go_sem, cr0, cr1, cr2, cr3, cr4, cr5, cr6, cr7, cr8, cr9, cr10, cr11, cr12]) rfl ⟨h, rfl, ⟨(rows13 ho3.out.1 (by omega) _ _ _ _ _ _ _ _ _ _ _ _ _).lower (by omega), ho3.out.2⟩, below13 hBr (by omega) _ _ _ _ _ _ _ _ _ _ _ _ _⟩
end Go.Proofs.Ytgngcllodofimaa
