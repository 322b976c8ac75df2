/- The outline of a state of the hint machine: the program's door. Printed by mk_ho4.py. Conditions: as each states. -/
import Derived.Test.YtgngcllodofimaaHo2
import Derived.Test.YtgngcllodofimaaHo3
namespace Go.Proofs.Ytgngcllodofimaa
open Go.RowKit
set_option linter.unusedVariables false
set_option maxRecDepth 100000


set_option maxHeartbeats 8000000 in
theorem implHinted_any (d : HinterD) (h : HinterH) (b : Bool) (hb : b = true ↔ HinOk d) (loh hih : Nat) (A : Option Addr) (n c lo hi : Nat) (Ls : List (List Knot)) (w : World) (hrh : HinterRd w loh hih d h) (hhih : hih ≤ w.heap.size) (hm : h.small 1000000000) (hr : OutRd w lo hi A n Ls) (hhi : hi ≤ w.heap.size) (hn : n ≤ 1048576) (hK : ∀ K ∈ Ls, K.length ≤ 1048576) (R : List (List Knot) × Int × Int) (hR : R = hoR b d Ls) :
    Calls Try.prog 43 #[hinV d h, .agg #[.slice A n c]] w fun e w' => ∃ A' n' c', e = .returned (.tuple #[.agg #[.slice A' n' c'], .int .i64 R.2.1, .int .i64 R.2.2]) ∧ OutOwn w' w.heap.size A' n' c' R.1 ∧ Below w.heap.size w w' := by
  have hnew := Lib.hid (heap_new0 w (.cells #[.int .i64 d.size, .slice h.orig.A h.orig.n h.orig.c, .slice h.now.A h.now.n h.now.c, .slice h.tx.A h.tx.n h.tx.c, .slice h.ty.A h.ty.n h.ty.c, .slice h.ends.A h.ends.n h.ends.c, .slice h.values.A h.values.n h.values.c, .slice h.stack.A h.stack.n h.stack.c, .bool d.axisY, .int .i64 d.ref, .int .i64 d.state, .int .i64 d.cut, .int .i64 d.least] 65 (0, 0)) (.cells #[.slice A n c] 46 (0, 0)) (.cells #[.slice none 0 0] 46 (0, 0)))
  have hB0 : Below w.heap.size w (((w.alloc (.cells #[.int .i64 d.size, .slice h.orig.A h.orig.n h.orig.c, .slice h.now.A h.now.n h.now.c, .slice h.tx.A h.tx.n h.tx.c, .slice h.ty.A h.ty.n h.ty.c, .slice h.ends.A h.ends.n h.ends.c, .slice h.values.A h.values.n h.values.c, .slice h.stack.A h.stack.n h.stack.c, .bool d.axisY, .int .i64 d.ref, .int .i64 d.state, .int .i64 d.cut, .int .i64 d.least] 65 (0, 0))).alloc (.cells #[.slice A n c] 46 (0, 0))).alloc (.cells #[.slice none 0 0] 46 (0, 0))) := (((Below.refl _ _).alloc (Nat.le_refl _) _).alloc (by simp) _).alloc (by simp <;> omega) _
  have hz0 : (((w.alloc (.cells #[.int .i64 d.size, .slice h.orig.A h.orig.n h.orig.c, .slice h.now.A h.now.n h.now.c, .slice h.tx.A h.tx.n h.tx.c, .slice h.ty.A h.ty.n h.ty.c, .slice h.ends.A h.ends.n h.ends.c, .slice h.values.A h.values.n h.values.c, .slice h.stack.A h.stack.n h.stack.c, .bool d.axisY, .int .i64 d.ref, .int .i64 d.state, .int .i64 d.cut, .int .i64 d.least] 65 (0, 0))).alloc (.cells #[.slice A n c] 46 (0, 0))).alloc (.cells #[.slice none 0 0] 46 (0, 0))).heap.size = w.heap.size + 3 := by simp
  generalize hw0 : (((w.alloc (.cells #[.int .i64 d.size, .slice h.orig.A h.orig.n h.orig.c, .slice h.now.A h.now.n h.now.c, .slice h.tx.A h.tx.n h.tx.c, .slice h.ty.A h.ty.n h.ty.c, .slice h.ends.A h.ends.n h.ends.c, .slice h.values.A h.values.n h.values.c, .slice h.stack.A h.stack.n h.stack.c, .bool d.axisY, .int .i64 d.ref, .int .i64 d.state, .int .i64 d.cut, .int .i64 d.least] 65 (0, 0))).alloc (.cells #[.slice A n c] 46 (0, 0))).alloc (.cells #[.slice none 0 0] 46 (0, 0))) = w0 at hnew hB0 hz0
  have ch0 : w0.cell? ⟨w.heap.size, 0, none⟩ = some (.int .i64 d.size) := by rw [Go.Joins.cell_of_block hnew.out.1]; rfl
  have ch1 : w0.cell? ⟨w.heap.size, 1, none⟩ = some (.slice h.orig.A h.orig.n h.orig.c) := by rw [Go.Joins.cell_of_block hnew.out.1]; rfl
  have ch2 : w0.cell? ⟨w.heap.size, 2, none⟩ = some (.slice h.now.A h.now.n h.now.c) := by rw [Go.Joins.cell_of_block hnew.out.1]; rfl
  have ch3 : w0.cell? ⟨w.heap.size, 3, none⟩ = some (.slice h.tx.A h.tx.n h.tx.c) := by rw [Go.Joins.cell_of_block hnew.out.1]; rfl
  have ch4 : w0.cell? ⟨w.heap.size, 4, none⟩ = some (.slice h.ty.A h.ty.n h.ty.c) := by rw [Go.Joins.cell_of_block hnew.out.1]; rfl
  have ch5 : w0.cell? ⟨w.heap.size, 5, none⟩ = some (.slice h.ends.A h.ends.n h.ends.c) := by rw [Go.Joins.cell_of_block hnew.out.1]; rfl
  have ch6 : w0.cell? ⟨w.heap.size, 6, none⟩ = some (.slice h.values.A h.values.n h.values.c) := by rw [Go.Joins.cell_of_block hnew.out.1]; rfl
  have ch7 : w0.cell? ⟨w.heap.size, 7, none⟩ = some (.slice h.stack.A h.stack.n h.stack.c) := by rw [Go.Joins.cell_of_block hnew.out.1]; rfl
  have ch8 : w0.cell? ⟨w.heap.size, 8, none⟩ = some (.bool d.axisY) := by rw [Go.Joins.cell_of_block hnew.out.1]; rfl
  have ch9 : w0.cell? ⟨w.heap.size, 9, none⟩ = some (.int .i64 d.ref) := by rw [Go.Joins.cell_of_block hnew.out.1]; rfl
  have ch10 : w0.cell? ⟨w.heap.size, 10, none⟩ = some (.int .i64 d.state) := by rw [Go.Joins.cell_of_block hnew.out.1]; rfl
  have ch11 : w0.cell? ⟨w.heap.size, 11, none⟩ = some (.int .i64 d.cut) := by rw [Go.Joins.cell_of_block hnew.out.1]; rfl
  have ch12 : w0.cell? ⟨w.heap.size, 12, none⟩ = some (.int .i64 d.least) := by rw [Go.Joins.cell_of_block hnew.out.1]; rfl
  have chl : w.heap.size < w0.heap.size := by omega
  replace hw0 := Lib.hid hw0
  obtain ⟨v1, hv1⟩ : ∃ v, v = outOk Ls := ⟨_, rfl⟩
  have hok := Lib.hid (implValidHinter_any d h b hb loh hih w0 (hrh.frame (Below.sameB hB0 hhih)) (by omega) hm)
  have hval := Lib.hid (fun W (hS : Below w0.heap.size w0 W) => validOutline_any A n c lo hi Ls v1 hv1 W (hr.frame good_loop (Below.sameB (hB0.trans (hS.mono (by omega))) hhi)) (by have := hS.size; omega) (by omega) (fun K h => by have := hK K h; omega))
  have hll := Lib.hid hr.1
  cases b with
  | false =>
    have hm' : R = ([], 0, 1) := by rw [hR, hoR]; rfl
    subst hm'
    clear hR hval hb hrh hr hK hv1
    go_enter Try.func43, Try.ntmps43
    go_wp2_with fail
    rw [hw0.out]
    clear ch0 ch1 ch2 ch3 ch4 ch5 ch6 ch7 ch8 ch9 ch10 ch11 ch12 chl
    refine hok.out.mono ?_
    rintro e w1 ⟨rfl, hb1⟩
    have hz1 := hb1.size
    have cr0 : w1.cell? ⟨w.heap.size + 2, 0, none⟩ = some (.slice none 0 0) := by rw [Go.Joins.cell_of_block ((hb1.block (w.heap.size + 2) (by omega)).trans hnew.out.2.2)]; rfl
    have crf : ∀ o, w1.frozen? ⟨w.heap.size + 2, o, none⟩ = false := Go.Joins.unfrozen_of_block ((hb1.block (w.heap.size + 2) (by omega)).trans hnew.out.2.2)
    have crl : w.heap.size + 2 < w1.heap.size := by omega
    have hBr := hB0.trans (hb1.mono (by omega))
    clear hnew hb1 hok
    go_wp2_with fail
    refine bodyPost_ret (v := .tuple #[.agg #[.slice none 0 0], .int .i64 0, .int .i64 1]) (by simp [results, Try.results43, go_sem, cr0]) rfl ⟨none, 0, 0, rfl, own_empty _ _, hBr.setCell (p := ⟨w.heap.size + 2, 0, none⟩) (by simp) _⟩
  | true =>
  cases v1 with
  | false =>
    have hm' : R = ([], 0, 1) := by rw [hR, hoR, ← hv1]; rfl
    subst hm'
    clear hR hb hrh hr hK hv1
    go_enter Try.func43, Try.ntmps43
    go_wp2_with fail
    rw [hw0.out]
    clear ch0 ch1 ch2 ch3 ch4 ch5 ch6 ch7 ch8 ch9 ch10 ch11 ch12 chl
    refine hok.out.mono ?_
    rintro e w1 ⟨rfl, hb1⟩
    have hz1 := hb1.size
    have cO : w1.cell? ⟨w.heap.size + 1, 0, none⟩ = some (.slice A n c) := by rw [Go.Joins.cell_of_block ((hb1.block (w.heap.size + 1) (by omega)).trans hnew.out.2.1)]; rfl
    have cOl : w.heap.size + 1 < w1.heap.size := by omega
    go_wp2_with fail
    refine (hval.out _ hb1).mono ?_
    rintro e w2 ⟨rfl, hb2⟩
    have hz2 := hb2.size
    have hb12 := hb1.trans (hb2.mono hz1)
    have cr0 : w2.cell? ⟨w.heap.size + 2, 0, none⟩ = some (.slice none 0 0) := by rw [Go.Joins.cell_of_block ((hb12.block (w.heap.size + 2) (by omega)).trans hnew.out.2.2)]; rfl
    have crf : ∀ o, w2.frozen? ⟨w.heap.size + 2, o, none⟩ = false := Go.Joins.unfrozen_of_block ((hb12.block (w.heap.size + 2) (by omega)).trans hnew.out.2.2)
    have crl : w.heap.size + 2 < w2.heap.size := by omega
    have hBr : Below w.heap.size w w2 := hB0.trans (hb12.mono (by omega))
    clear hnew hval hok hb2 hb1 hb12 cO cOl
    go_wp2_with fail
    refine bodyPost_ret (v := .tuple #[.agg #[.slice none 0 0], .int .i64 0, .int .i64 1]) (by simp [results, Try.results43, go_sem, cr0]) rfl ⟨none, 0, 0, rfl, own_empty _ _, hBr.setCell (p := ⟨w.heap.size + 2, 0, none⟩) (by simp) _⟩
  | true =>
    have hd := hb.1 rfl
    obtain ⟨o1, o2, o3⟩ := out_is hv1.symm
    have hnl : Ls.length = n := hr.1
    have hn12 : n ≤ 12 := by rw [← hnl]; exact o1
    have hnow : d.now.length = h.now.n := hrh.2.1.1
    have hends : endsL Ls = d.ends → sumK Ls n + 2 = h.now.n := fun h2 => by rw [← hnow, ← hnl]; exact ends_sum hd h2
    obtain ⟨b5, hb5⟩ : ∃ b, b = decide (endsL Ls = d.ends) := ⟨_, rfl⟩
    obtain ⟨v2, hv2⟩ : ∃ v, v = outOk (hintLs d.now 0 Ls) := ⟨_, rfl⟩
    have hcase : (b5 = false ∧ R = ([], 0, 6)) ∨ (b5 = true ∧ sumK Ls n + 2 = h.now.n ∧ ((v2 = false ∧ R = ([], 0, 2)) ∨ (v2 = true ∧ R = (hintLs d.now 0 Ls, hintW d.now, 0)))) := by
      by_cases he : endsL Ls = d.ends
      · right
        refine ⟨by rw [hb5]; simpa using he, hends he, ?_⟩
        cases v2 with
        | false => left; exact ⟨rfl, by rw [hR, hoR, ← hv1, ← hv2]; simp [he]⟩
        | true => right; exact ⟨rfl, by rw [hR, hoR, ← hv1, ← hv2]; simp [he]⟩
      · left
        exact ⟨by rw [hb5]; simpa using he, by rw [hR, hoR, ← hv1]; simp [he]⟩
    have hns := Lib.hid (hin_small hd)
    have hN242 : h.now.n ≤ 242 := by rw [← hnow]; exact hd.2.1
    have hN2 : 2 ≤ h.now.n := by rw [← hnow]; exact hd.1
    replace hb5 := Lib.hid hb5
    replace hv2 := Lib.hid hv2
    replace o2 := Lib.hid o2
    replace hr := Lib.hid hr
    replace hrh := Lib.hid hrh
    replace hcase := Lib.hid hcase
    clear hR hv1 hb hK hd o1 o3 hends hnow hll hnl
    go_enter Try.func43, Try.ntmps43
    go_wp2_with fail
    rw [hw0.out]
    clear ch0 ch1 ch2 ch3 ch4 ch5 ch6 ch7 ch8 ch9 ch10 ch11 ch12 chl
    refine hok.out.mono ?_
    rintro e w1 ⟨rfl, hb1⟩
    have hz1 := hb1.size
    have cO : w1.cell? ⟨w.heap.size + 1, 0, none⟩ = some (.slice A n c) := by rw [Go.Joins.cell_of_block ((hb1.block (w.heap.size + 1) (by omega)).trans hnew.out.2.1)]; rfl
    have cOl : w.heap.size + 1 < w1.heap.size := by omega
    go_wp2_with fail
    clear cO cOl
    refine (hval.out _ hb1).mono ?_
    rintro e w3 ⟨rfl, hb3⟩
    have hz3 := hb3.size
    have hb03 := hb1.trans (hb3.mono hz1)
    have hB3 : Below w.heap.size w w3 := hB0.trans (hb03.mono (by omega))
    have cO : w3.cell? ⟨w.heap.size + 1, 0, none⟩ = some (.slice A n c) := by rw [Go.Joins.cell_of_block ((hb03.block (w.heap.size + 1) (by omega)).trans hnew.out.2.1)]; rfl
    have ch5 : w3.cell? ⟨w.heap.size, 5, none⟩ = some (.slice h.ends.A h.ends.n h.ends.c) := by rw [Go.Joins.cell_of_block ((hb03.block w.heap.size (by omega)).trans hnew.out.1)]; rfl
    have hl3 : w.heap.size + 1 < w3.heap.size := by omega
    have hl3' : w.heap.size < w3.heap.size := by omega
    clear hval hok hb3 hb1
    have hE := Lib.hid (fun (W : World) (hB : Below w.heap.size w W) => (show RdS 1 (FlatR intC) W loh hih h.ends.A h.ends.n d.ends from (hrh.out.frame (Below.sameB hB hhih)).2.2.2.2.1))
    have hEn : h.ends.n ≤ 1000000000 := hm.2.2.2.2.1
    go_wp2_with fail
    go_region_held3 (fun w' => w'.cell? ⟨w.heap.size + 1, 0, none⟩ = some (.slice A n c) ∧ w'.cell? ⟨w.heap.size, 5, none⟩ = some (.slice h.ends.A h.ends.n h.ends.c)) (first | exact s4 | exact ⟨cO, ch5⟩)
      (first
        | (go_at_call 93; (with_reducible refine (endsOf_any A n c lo hi Ls _ ?_ ?_ hn12 o2.out).mono ?_); exact (hr.out.frame good_loop (Below.sameB hB3.drew hhi)); exact (Nat.le_trans hhi hB3.size); rintro e w4 ⟨ae, ce, rfl, hoe, hc4⟩; have hb4 : Below w3.heap.size w3 w4 := (Below.refl _ _).drew.trans hc4; have hz4 := hb4.size; have s4 : w4.cell? ⟨w.heap.size + 1, 0, none⟩ = some (.slice A n c) ∧ w4.cell? ⟨w.heap.size, 5, none⟩ = some (.slice h.ends.A h.ends.n h.ends.c) := ⟨(hb4.cell (by simp; omega)).trans cO, (hb4.cell (by simp; omega)).trans ch5⟩; have hB4 : Below w.heap.size w w4 := hB3.trans (hb4.mono hB3.size); have rde := Lib.hid (rdS_own intC_len (by omega) hoe (by rw [endsL_len]; exact hr.out.1)); clear hoe hc4)
        | (go_at_call 114; (with_reducible refine (equalInt_any ae h.ends.A n ce h.ends.n h.ends.c _ _ loh hih (endsL Ls) d.ends b5 hb5.out w4 rde.out (hE.out w4 hB4) (Nat.le_refl _) (Nat.le_trans hhih hB4.size) (by omega) hEn).mono ?_); rintro e w5 ⟨rfl, q, rfl⟩))
    have hb05 : Below w0.heap.size w0 (w4.drewN q) := below_drewN (hb03.trans (hb4.mono hb03.size)) q
    have hB5 : Below w.heap.size w (w4.drewN q) := below_drewN hB4 q
    clear cO ch5 hl3 hl3' s4 rde hb4 hB4
    generalize w4.drewN q = w5 at *
    have hz5 := hb05.size
    rcases hcase.out with ⟨h5, hm'⟩ | ⟨h5, hsum, hcase2⟩
    · subst h5 hm'
      have cr0 : w5.cell? ⟨w.heap.size + 2, 0, none⟩ = some (.slice none 0 0) := by rw [Go.Joins.cell_of_block ((hb05.block (w.heap.size + 2) (by omega)).trans hnew.out.2.2)]; rfl
      have crf : ∀ o, w5.frozen? ⟨w.heap.size + 2, o, none⟩ = false := Go.Joins.unfrozen_of_block ((hb05.block (w.heap.size + 2) (by omega)).trans hnew.out.2.2)
      have crl : w.heap.size + 2 < w5.heap.size := by omega
      clear hnew hcase
      have hBr := hB5
      go_wp2_with fail
      refine bodyPost_ret (v := .tuple #[.agg #[.slice none 0 0], .int .i64 0, .int .i64 6]) (by simp [results, Try.results43, go_sem, cr0]) rfl ⟨none, 0, 0, rfl, own_empty _ _, hBr.setCell (p := ⟨w.heap.size + 2, 0, none⟩) (by simp) _⟩
    · subst h5
      have hout := Lib.hid (hintedOutline_any d h loh hih d.now A n c lo hi Ls w5 (hrh.out.frame (Below.sameB hB5 hhih)).2.1 (Nat.le_trans hhih hB5.size) (hr.out.frame good_loop (Below.sameB hB5 hhi)) (Nat.le_trans hhi hB5.size) hn12 o2.out (by omega) hN2 hN242 hns.out)
      have ch0 : w5.cell? ⟨w.heap.size, 0, none⟩ = some (.int .i64 d.size) := by rw [Go.Joins.cell_of_block ((hb05.block w.heap.size (by omega)).trans hnew.out.1)]; rfl
      have ch1 : w5.cell? ⟨w.heap.size, 1, none⟩ = some (.slice h.orig.A h.orig.n h.orig.c) := by rw [Go.Joins.cell_of_block ((hb05.block w.heap.size (by omega)).trans hnew.out.1)]; rfl
      have ch2 : w5.cell? ⟨w.heap.size, 2, none⟩ = some (.slice h.now.A h.now.n h.now.c) := by rw [Go.Joins.cell_of_block ((hb05.block w.heap.size (by omega)).trans hnew.out.1)]; rfl
      have ch3 : w5.cell? ⟨w.heap.size, 3, none⟩ = some (.slice h.tx.A h.tx.n h.tx.c) := by rw [Go.Joins.cell_of_block ((hb05.block w.heap.size (by omega)).trans hnew.out.1)]; rfl
      have ch4 : w5.cell? ⟨w.heap.size, 4, none⟩ = some (.slice h.ty.A h.ty.n h.ty.c) := by rw [Go.Joins.cell_of_block ((hb05.block w.heap.size (by omega)).trans hnew.out.1)]; rfl
      have ch5 : w5.cell? ⟨w.heap.size, 5, none⟩ = some (.slice h.ends.A h.ends.n h.ends.c) := by rw [Go.Joins.cell_of_block ((hb05.block w.heap.size (by omega)).trans hnew.out.1)]; rfl
      have ch6 : w5.cell? ⟨w.heap.size, 6, none⟩ = some (.slice h.values.A h.values.n h.values.c) := by rw [Go.Joins.cell_of_block ((hb05.block w.heap.size (by omega)).trans hnew.out.1)]; rfl
      have ch7 : w5.cell? ⟨w.heap.size, 7, none⟩ = some (.slice h.stack.A h.stack.n h.stack.c) := by rw [Go.Joins.cell_of_block ((hb05.block w.heap.size (by omega)).trans hnew.out.1)]; rfl
      have ch8 : w5.cell? ⟨w.heap.size, 8, none⟩ = some (.bool d.axisY) := by rw [Go.Joins.cell_of_block ((hb05.block w.heap.size (by omega)).trans hnew.out.1)]; rfl
      have ch9 : w5.cell? ⟨w.heap.size, 9, none⟩ = some (.int .i64 d.ref) := by rw [Go.Joins.cell_of_block ((hb05.block w.heap.size (by omega)).trans hnew.out.1)]; rfl
      have ch10 : w5.cell? ⟨w.heap.size, 10, none⟩ = some (.int .i64 d.state) := by rw [Go.Joins.cell_of_block ((hb05.block w.heap.size (by omega)).trans hnew.out.1)]; rfl
      have ch11 : w5.cell? ⟨w.heap.size, 11, none⟩ = some (.int .i64 d.cut) := by rw [Go.Joins.cell_of_block ((hb05.block w.heap.size (by omega)).trans hnew.out.1)]; rfl
      have ch12 : w5.cell? ⟨w.heap.size, 12, none⟩ = some (.int .i64 d.least) := by rw [Go.Joins.cell_of_block ((hb05.block w.heap.size (by omega)).trans hnew.out.1)]; rfl
      have chl : w.heap.size < w5.heap.size := by omega
      have cO : w5.cell? ⟨w.heap.size + 1, 0, none⟩ = some (.slice A n c) := by rw [Go.Joins.cell_of_block ((hb05.block (w.heap.size + 1) (by omega)).trans hnew.out.2.1)]; rfl
      have cOl : w.heap.size + 1 < w5.heap.size := by omega
      go_wp2_with fail
      clear ch0 ch1 ch2 ch3 ch4 ch5 ch6 ch7 ch8 ch9 ch10 ch11 ch12 chl cO cOl
      refine hout.out.mono ?_
      rintro e w6 ⟨A', c', rfl, ho6, hb6⟩
      have hz6 := hb6.size
      have hB6 := hB5.trans (hb6.mono hB5.size)
      have hb06 := hb05.trans (hb6.mono hz5)
      have hx9 := heap_alloc_new w6 (.cells #[.slice A' n c'] 46 (0, 0))
      have c9 : (w6.alloc (.cells #[.slice A' n c'] 46 (0, 0))).cell? ⟨w6.heap.size, 0, none⟩ = some (.slice A' n c') := by rw [Go.Joins.cell_of_block hx9]; rfl
      have hB7 : Below w.heap.size w (w6.alloc (.cells #[.slice A' n c'] 46 (0, 0))) := hB6.alloc hB6.size _
      have hb07 : Below w0.heap.size w0 (w6.alloc (.cells #[.slice A' n c'] 46 (0, 0))) := hb06.alloc hb06.size _
      have hlen : ∀ K ∈ hintLs d.now 0 Ls, K.length ≤ 60 := fun K hK => by
        have h1 := List.mem_map_of_mem (f := List.length) hK
        rw [hintLs_lens] at h1
        obtain ⟨K', h2, h3⟩ := List.mem_map.1 h1
        rw [← h3]; exact o2.out K' h2
      have ho7 := ho6.kept (Go.Joins.below_alloc1 w6 (.cells #[.slice A' n c'] 46 (0, 0)))
      have hz7 : (w6.alloc (.cells #[.slice A' n c'] 46 (0, 0))).heap.size = w6.heap.size + 1 := by simp
      have hval2 := Lib.hid (validOutline_any A' n c' w5.heap.size _ (hintLs d.now 0 Ls) v2 hv2.out (w6.alloc (.cells #[.slice A' n c'] 46 (0, 0))) (ho7.rd (fun K hK => by have := hlen K hK; unfold maxLen; omega)) (Nat.le_refl _) (by omega) (fun K hK => by have := hlen K hK; omega))
      replace ho7 := Lib.hid ho7
      clear ho6 hout hb6 hx9 hb06 hB6
      go_wp2_with fail
      generalize w6.alloc (.cells #[.slice A' n c'] 46 (0, 0)) = w7 at *
      replace hz7 := Lib.hid hz7
      refine hval2.out.mono ?_
      rintro e w8 ⟨rfl, hb8⟩
      have hz8 := hb8.size
      have hw7 := hz7.out
      have hb08 := hb07.trans (hb8.mono hb07.size)
      have hB8 := hB7.trans (hb8.mono hB7.size)
      have hz08 := hb08.size
      replace ho7 := Lib.hid (ho7.out.kept hb8)
      replace c9 := (hb8.cell (by simp; omega)).trans c9
      clear hval2 hb8 hw7
      rcases hcase2 with ⟨h6, hm'⟩ | ⟨h6, hm'⟩
      · subst h6 hm'
        have cr0 : w8.cell? ⟨w.heap.size + 2, 0, none⟩ = some (.slice none 0 0) := by rw [Go.Joins.cell_of_block ((hb08.block (w.heap.size + 2) (by omega)).trans hnew.out.2.2)]; rfl
        have crf : ∀ o, w8.frozen? ⟨w.heap.size + 2, o, none⟩ = false := Go.Joins.unfrozen_of_block ((hb08.block (w.heap.size + 2) (by omega)).trans hnew.out.2.2)
        have crl : w.heap.size + 2 < w8.heap.size := by omega
        clear hnew hcase
        have hBr := hB8
        go_wp2_with fail
        refine bodyPost_ret (v := .tuple #[.agg #[.slice none 0 0], .int .i64 0, .int .i64 2]) (by simp [results, Try.results43, go_sem, cr0]) rfl ⟨none, 0, 0, rfl, own_empty _ _, hBr.setCell (p := ⟨w.heap.size + 2, 0, none⟩) (by simp) _⟩
      · subst h6 hm'
        have cr0 : w8.cell? ⟨w.heap.size + 2, 0, none⟩ = some (.slice none 0 0) := by rw [Go.Joins.cell_of_block ((hb08.block (w.heap.size + 2) (by omega)).trans hnew.out.2.2)]; rfl
        have crf : ∀ o, w8.frozen? ⟨w.heap.size + 2, o, none⟩ = false := Go.Joins.unfrozen_of_block ((hb08.block (w.heap.size + 2) (by omega)).trans hnew.out.2.2)
        have crl : w.heap.size + 2 < w8.heap.size := by omega
        have hl9 : w6.heap.size < w8.heap.size := by have := hz7.out; omega
        clear hnew hcase
        obtain ⟨wd, hwde⟩ : ∃ x, x = hintW d.now := ⟨_, rfl⟩
        replace hwde := Lib.hid hwde
        go_wp2_with fail
        refine bodyPost_ret (v := .tuple #[.agg #[.slice A' n c'], .int .i64 (hintW d.now), .int .i64 0]) (by simp [results, Try.results43, go_sem, cr0]) rfl ⟨A', n, c', rfl, ?_, hB8.setCell (p := ⟨w.heap.size + 2, 0, none⟩) (by simp) _⟩
        exact (ho7.out.set (a := ⟨w.heap.size + 2, 0, none⟩) (show w.heap.size + 2 < w5.heap.size by omega) _).lower (by omega)
end Go.Proofs.Ytgngcllodofimaa
