/- The outline of a state of the hint machine: the reference's door. Printed by mk_ho3.py. Conditions: as each states. -/
import Derived.Test.YtgngcllodofimaaHo1
import Derived.Test.YtgngcllodofimaaHOk
import Derived.Test.YtgngcllodofimaaSt4
import Derived.Test.YtgngcllodofimaaEqD
import Derived.Deep.RegionHeld3
namespace Go.Proofs.Ytgngcllodofimaa
open Go.RowKit
set_option linter.unusedVariables false
set_option maxRecDepth 100000

theorem rises_last : ∀ (E : List Int) (l r : Int), risesF l E = some r → r = (E.getLast?).getD l
  | [], l, r, h => by simp [risesF] at h; simp [h]
  | e :: t, l, r, h => by
    unfold risesF at h
    split at h
    · cases h
    · have := rises_last t e r h
      rw [List.getLast?_cons]
      simpa using this
theorem ends_last (Ls : List (List Knot)) : ((endsL Ls).getLast?).getD 0 = (sumK Ls Ls.length : Int) := by
  unfold endsL
  cases hl : Ls.length with
  | zero => simp [sumK]
  | succ k => rw [List.range_succ, List.map_append]; simp
theorem ends_sum {d : HinterD} {Ls : List (List Knot)} (hd : HinOk d) (he : endsL Ls = d.ends) : sumK Ls Ls.length + 2 = d.now.length := by
  obtain ⟨h2, _, _, _, _, hr, _⟩ := hd
  have := rises_last _ _ _ hr
  rw [← he, ends_last] at this
  omega
theorem hin_small {d : HinterD} (hd : HinOk d) : ∀ p ∈ d.now, -1000000000000000000 ≤ p.1 ∧ p.1 ≤ 1000000000000000000 := fun p hp => by
  obtain ⟨_, _, _, _, _, _, _, _, hs, _⟩ := hd
  simp only [smH, Bool.and_eq_true, List.all_eq_true] at hs
  have := hs.2 p hp
  simp only [smP, smN, Bool.and_eq_true] at this
  have := inB_iff.1 this.1
  omega
/-- what is answered -/
def hoR (b : Bool) (d : HinterD) (Ls : List (List Knot)) : List (List Knot) × Int × Int :=
  if b && outOk Ls then (if endsL Ls = d.ends then (if outOk (hintLs d.now 0 Ls) then (hintLs d.now 0 Ls, hintW d.now, 0) else ([], 0, 2)) else ([], 0, 6)) else ([], 0, 1)
theorem res_cell {w : World} {x : Nat} {t : TypeId} {v : Value} (h : w.heap[x]? = some (.cells #[v] t (0, 0))) (u : Value) (o : Obj) : ((w.setCell ⟨x, 0, none⟩ u).alloc o).cell? ⟨x, 0, none⟩ = some u :=
  Lib.cell?_alloc_some _ (by rw [Go.Joins.cell_of_block (Go.Joins.block_setCell h u)]; rfl)
theorem own_empty (w : World) (lo : Nat) : OutOwn w lo none 0 0 [] := ⟨[], rfl, World.ownsRow_nil _ _ _ _, fun j K h => by simp at h, fun i j u v _ h => by simp at h⟩
theorem OutOwn.lower {w : World} {lo lo' n c : Nat} {A : Option Addr} {Ls : List (List Knot)} (h : OutOwn w lo A n c Ls) (hl : lo' ≤ lo) : OutOwn w lo' A n c Ls := by
  obtain ⟨ys, h1, h2, h3, h4⟩ := h
  exact ⟨ys, h1, own_lower h2 hl, fun j K hj => by obtain ⟨Aj, cj, h5, h6⟩ := h3 j K hj; exact ⟨Aj, cj, h5, own_lower h6 hl⟩, h4⟩
theorem OutOwn.set {w : World} {lo n c : Nat} {A : Option Addr} {Ls : List (List Knot)} (h : OutOwn w lo A n c Ls) {a : Addr} (ha : a.block < lo) (u : Value) : OutOwn (w.setCell a u) lo A n c Ls := by
  obtain ⟨ys, h1, h2, h3, h4⟩ := h
  exact ⟨ys, h1, ownsRow_setCell_below h2 ha u, fun j K hj => by obtain ⟨Aj, cj, h5, h6⟩ := h3 j K hj; exact ⟨Aj, cj, h5, ownsRow_setCell_below h6 ha u⟩, h4⟩


set_option maxHeartbeats 8000000 in
theorem specHinted_any (d : HinterD) (h : HinterH) (b : Bool) (hb : b = true ↔ HinOk d) (loh hih : Nat) (A : Option Addr) (n c lo hi : Nat) (Ls : List (List Knot)) (w : World) (hrh : HinterRd w loh hih d h) (hhih : hih ≤ w.heap.size) (hm : h.small 1000000000) (hr : OutRd w lo hi A n Ls) (hhi : hi ≤ w.heap.size) (hn : n ≤ 1048576) (hK : ∀ K ∈ Ls, K.length ≤ 1048576) (R : List (List Knot) × Int × Int) (hR : R = hoR b d Ls) :
    Calls Try.prog 41 #[hinV d h, .agg #[.slice A n c]] w fun e w' => ∃ A' n' c', e = .returned (.tuple #[.agg #[.slice A' n' c'], .int .i64 R.2.1, .int .i64 R.2.2]) ∧ OutOwn w' w.heap.size A' n' c' R.1 ∧ Below w.heap.size w w' := by
  have hnew := Lib.hid (heap_new0 w (.cells #[.int .i64 d.size, .slice h.orig.A h.orig.n h.orig.c, .slice h.now.A h.now.n h.now.c, .slice h.tx.A h.tx.n h.tx.c, .slice h.ty.A h.ty.n h.ty.c, .slice h.ends.A h.ends.n h.ends.c, .slice h.values.A h.values.n h.values.c, .slice h.stack.A h.stack.n h.stack.c, .bool d.axisY, .int .i64 d.ref, .int .i64 d.state, .int .i64 d.cut, .int .i64 d.least] 65 (0, 0)) (.cells #[.slice A n c] 46 (0, 0)) (.cells #[.slice none 0 0] 46 (0, 0)))
  have hB0 : Below w.heap.size w (((w.alloc (.cells #[.int .i64 d.size, .slice h.orig.A h.orig.n h.orig.c, .slice h.now.A h.now.n h.now.c, .slice h.tx.A h.tx.n h.tx.c, .slice h.ty.A h.ty.n h.ty.c, .slice h.ends.A h.ends.n h.ends.c, .slice h.values.A h.values.n h.values.c, .slice h.stack.A h.stack.n h.stack.c, .bool d.axisY, .int .i64 d.ref, .int .i64 d.state, .int .i64 d.cut, .int .i64 d.least] 65 (0, 0))).alloc (.cells #[.slice A n c] 46 (0, 0))).alloc (.cells #[.slice none 0 0] 46 (0, 0))) := (((Below.refl _ _).alloc (Nat.le_refl _) _).alloc (by simp) _).alloc (by simp <;> omega) _
  have hz0 : (((w.alloc (.cells #[.int .i64 d.size, .slice h.orig.A h.orig.n h.orig.c, .slice h.now.A h.now.n h.now.c, .slice h.tx.A h.tx.n h.tx.c, .slice h.ty.A h.ty.n h.ty.c, .slice h.ends.A h.ends.n h.ends.c, .slice h.values.A h.values.n h.values.c, .slice h.stack.A h.stack.n h.stack.c, .bool d.axisY, .int .i64 d.ref, .int .i64 d.state, .int .i64 d.cut, .int .i64 d.least] 65 (0, 0))).alloc (.cells #[.slice A n c] 46 (0, 0))).alloc (.cells #[.slice none 0 0] 46 (0, 0))).heap.size = w.heap.size + 3 := by simp
  generalize hw0 : (((w.alloc (.cells #[.int .i64 d.size, .slice h.orig.A h.orig.n h.orig.c, .slice h.now.A h.now.n h.now.c, .slice h.tx.A h.tx.n h.tx.c, .slice h.ty.A h.ty.n h.ty.c, .slice h.ends.A h.ends.n h.ends.c, .slice h.values.A h.values.n h.values.c, .slice h.stack.A h.stack.n h.stack.c, .bool d.axisY, .int .i64 d.ref, .int .i64 d.state, .int .i64 d.cut, .int .i64 d.least] 65 (0, 0))).alloc (.cells #[.slice A n c] 46 (0, 0))).alloc (.cells #[.slice none 0 0] 46 (0, 0))) = w0 at hnew hB0 hz0
  replace hw0 := Lib.hid hw0
  have hbx := boxH_new (d := d) (h := h) hnew.out.1 rfl
  have cO : w0.cell? ⟨w.heap.size + 1, 0, none⟩ = some (.slice A n c) := by rw [Go.Joins.cell_of_block hnew.out.2.1]; rfl
  obtain ⟨v1, hv1⟩ : ∃ v, v = outOk Ls := ⟨_, rfl⟩
  have hok := Lib.hid (l20Ok_any d h b hb loh hih w.heap.size w0 (hrh.frame (Below.sameB hB0 hhih)) (by omega) hm hbx)
  have hval := Lib.hid (l10Ok_any (w.heap.size + 1) A n c lo hi Ls v1 hv1 w0 (by omega) cO (hr.frame good_loop (Below.sameB hB0 hhi)) (by omega) (by omega) (fun K h => by have := hK K h; omega))
  have hll := Lib.hid hr.1
  cases b with
  | false =>
    have hm' : R = ([], 0, 1) := by rw [hR, hoR]; rfl
    subst hm'
    have cr0 : w0.cell? ⟨w.heap.size + 2, 0, none⟩ = some (.slice none 0 0) := by rw [Go.Joins.cell_of_block hnew.out.2.2]; rfl
    have crf : ∀ o, w0.frozen? ⟨w.heap.size + 2, o, none⟩ = false := Go.Joins.unfrozen_of_block hnew.out.2.2
    have crl : w.heap.size + 2 < w0.heap.size := by omega
    have hBr := hB0
    clear hR hval hb hrh hr hK hbx cO hnew hv1
    go_enter Try.func41, Try.ntmps41
    go_wp2_with fail
    rw [hw0.out]
    refine hok.out.mono ?_
    rintro e w1 ⟨rfl, rfl⟩
    go_wp2_with fail
    refine bodyPost_ret (v := .tuple #[.agg #[.slice none 0 0], .int .i64 0, .int .i64 1]) (by simp [results, Try.results41, go_sem, cr0]) rfl ⟨none, 0, 0, rfl, own_empty _ _, hBr.setCell (p := ⟨w.heap.size + 2, 0, none⟩) (by simp) _⟩
  | true =>
  cases v1 with
  | false =>
    have hm' : R = ([], 0, 1) := by rw [hR, hoR, ← hv1]; rfl
    subst hm'
    clear hR hb hrh hr hK hbx cO hv1
    go_enter Try.func41, Try.ntmps41
    go_wp2_with fail
    rw [hw0.out]
    refine hok.out.mono ?_
    rintro e w1 ⟨rfl, rfl⟩
    go_wp2_with fail
    refine hval.out.mono ?_
    rintro e w2 ⟨rfl, hb2⟩
    have hz2 := hb2.size
    have cr0 : w2.cell? ⟨w.heap.size + 2, 0, none⟩ = some (.slice none 0 0) := by rw [Go.Joins.cell_of_block ((hb2.block (w.heap.size + 2) (by omega)).trans hnew.out.2.2)]; rfl
    have crf : ∀ o, w2.frozen? ⟨w.heap.size + 2, o, none⟩ = false := Go.Joins.unfrozen_of_block ((hb2.block (w.heap.size + 2) (by omega)).trans hnew.out.2.2)
    have crl : w.heap.size + 2 < w2.heap.size := by omega
    have hBr : Below w.heap.size w w2 := hB0.trans (hb2.mono (by omega))
    clear hnew hval hok hb2
    go_wp2_with fail
    refine bodyPost_ret (v := .tuple #[.agg #[.slice none 0 0], .int .i64 0, .int .i64 1]) (by simp [results, Try.results41, go_sem, cr0]) rfl ⟨none, 0, 0, rfl, own_empty _ _, hBr.setCell (p := ⟨w.heap.size + 2, 0, none⟩) (by simp) _⟩
  | true =>
  have hd := hb.1 rfl
  obtain ⟨o1, o2, o3⟩ := out_is hv1.symm
  have hn12 : n ≤ 12 := by rw [← hr.1]; exact o1
  have ha0 : askB 0 1 16 = true := by decide
  have hst := Lib.hid (fun W (hS : Below w0.heap.size w0 W) => l20Start_any (w.heap.size + 1) A n c lo hi Ls 0 none 0 0 0 0 [] 1 16 W (by have := hS.size; omega) ((hS.cell (by simp; omega)).trans cO) (hr.frame good_loop (Below.sameB (hB0.trans (hS.mono (by omega))) hhi)) (by have := hS.size; omega) hn12 o2 (fun K h p hp => ⟨ask_in ha0 (o3 K h p hp).1.1 (o3 K h p hp).1.2, ask_in ha0 (o3 K h p hp).2.1 (o3 K h p hp).2.2⟩) ⟨rfl, fun h => absurd h (Nat.lt_irrefl _)⟩ (Nat.zero_le _) (Nat.zero_le _) (fun v hv => by cases hv) ha0)
  have hkb := sumK_le o2 n
  have hnl : Ls.length = n := hr.1
  obtain ⟨D2, hD2⟩ : ∃ D2, D2 = startF Ls 0 [] 1 16 := ⟨_, rfl⟩
  rw [← hD2] at hst
  have hends : HinOk d → endsL Ls = d.ends → sumK Ls n + 2 = d.now.length := fun h1 h2 => by rw [← hnl]; exact ends_sum h1 h2
  by_cases hfull : 242 < sumK Ls n + 2
  · have hne : ¬ endsL Ls = d.ends := fun he => by
      have := hends hd he
      have := hd.2.1
      omega
    have hm' : R = ([], 0, 6) := by rw [hR, hoR, ← hv1]; simp [hne]
    have hF : D2 = (zeroD, 5) := by rw [hD2]; unfold startF; rw [if_pos (by rw [startPts_len, hnl]; exact hfull)]
    subst hm' hF
    clear hR hD2 hends hne hv1 hb hrh hr hK hbx hd o1 o2 o3 hll hnl
    go_enter Try.func41, Try.ntmps41
    go_wp2_with fail
    rw [hw0.out]
    refine hok.out.mono ?_
    rintro e w1 ⟨rfl, rfl⟩
    go_wp2_with fail
    refine hval.out.mono ?_
    rintro e w2 ⟨rfl, hb2⟩
    go_wp2_with fail
    refine (hst.out _ hb2).mono ?_
    rintro e w3 ⟨h2, rfl, ho2, hb3⟩
    have hz2 := hb2.size
    have hz3 := hb3.size
    have hb23 := hb2.trans (hb3.mono hz2)
    have HR3 := (hb23.block (w.heap.size + 2) (by omega)).trans hnew.out.2.2
    have cr0 : w3.cell? ⟨w.heap.size + 2, 0, none⟩ = some (.slice none 0 0) := by rw [Go.Joins.cell_of_block ((hb23.block (w.heap.size + 2) (by omega)).trans hnew.out.2.2)]; rfl
    have crf : ∀ o, w3.frozen? ⟨w.heap.size + 2, o, none⟩ = false := Go.Joins.unfrozen_of_block ((hb23.block (w.heap.size + 2) (by omega)).trans hnew.out.2.2)
    have crl : w.heap.size + 2 < w3.heap.size := by omega
    have hBr : Below w.heap.size w w3 := hB0.trans (hb23.mono (by omega))
    have cz := res_cell HR3 (.slice none 0 0) (.cells #[.int .i64 zeroD.size, .slice h2.orig.A h2.orig.n h2.orig.c, .slice h2.now.A h2.now.n h2.now.c, .slice h2.tx.A h2.tx.n h2.tx.c, .slice h2.ty.A h2.ty.n h2.ty.c, .slice h2.ends.A h2.ends.n h2.ends.c, .slice h2.values.A h2.values.n h2.values.c, .slice h2.stack.A h2.stack.n h2.stack.c, .bool zeroD.axisY, .int .i64 zeroD.ref, .int .i64 zeroD.state, .int .i64 zeroD.cut, .int .i64 zeroD.least] 65 (0, 0))
    clear hnew hval hok hb2 hb3 hst hb23 ho2
    go_wp2_with fail
    refine bodyPost_ret (v := .tuple #[.agg #[.slice none 0 0], .int .i64 0, .int .i64 6]) (by simp [results, Try.results41, go_sem, cz]) rfl ⟨none, 0, 0, rfl, own_empty _ _, (hBr.setCell (p := ⟨w.heap.size + 2, 0, none⟩) (by simp) _).alloc (by simp; omega) _⟩
  · have hF : D2 = (startD Ls 0 [] 1 16, 0) := by rw [hD2]; unfold startF; rw [if_neg (by rw [startPts_len, hnl]; exact hfull)]
    have hde : (startD Ls 0 [] 1 16).ends = endsL Ls := rfl
    have hdl : (startD Ls 0 [] 1 16).ends.length ≤ 12 := by rw [hde, endsL_len]; exact o1
    generalize startD Ls 0 [] 1 16 = dd at hF hde hdl
    replace hdl := Lib.hid hdl
    subst hF
    clear hD2
    have hnow : d.now.length = h.now.n := hrh.2.1.1
    obtain ⟨b5, hb5⟩ : ∃ b, b = decide (dd.ends = d.ends) := ⟨_, rfl⟩
    obtain ⟨v2, hv2⟩ : ∃ v, v = outOk (hintLs d.now 0 Ls) := ⟨_, rfl⟩
    have hcase : (b5 = false ∧ R = ([], 0, 6)) ∨ (b5 = true ∧ sumK Ls n + 2 = h.now.n ∧ ((v2 = false ∧ R = ([], 0, 2)) ∨ (v2 = true ∧ R = (hintLs d.now 0 Ls, hintW d.now, 0)))) := by
      rw [hde] at hb5
      by_cases he : endsL Ls = d.ends
      · right
        refine ⟨by rw [hb5]; simpa using he, by rw [← hnow]; exact hends hd he, ?_⟩
        cases v2 with
        | false => left; exact ⟨rfl, by rw [hR, hoR, ← hv1, ← hv2]; simp [he]⟩
        | true => right; exact ⟨rfl, by rw [hR, hoR, ← hv1, ← hv2]; simp [he]⟩
      · left
        exact ⟨by rw [hb5]; simpa using he, by rw [hR, hoR, ← hv1]; simp [he]⟩
    have hns := Lib.hid (hin_small hd)
    have hN242 : h.now.n ≤ 242 := by rw [← hnow]; exact hd.2.1
    have hN2 : 2 ≤ h.now.n := by rw [← hnow]; exact hd.1
    replace hb5 := Lib.hid hb5
    replace hv2 := Lib.hid hv2
    replace o2 := Lib.hid o2
    replace hr := Lib.hid hr
    replace hrh := Lib.hid hrh
    replace hcase := Lib.hid hcase
    clear hR hv1 hb hK hbx hd o1 o3 hends hde hfull hnow ha0 hll hnl
    go_enter Try.func41, Try.ntmps41
    go_wp2_with fail
    rw [hw0.out]
    refine hok.out.mono ?_
    rintro e w1 ⟨rfl, rfl⟩
    go_wp2_with fail
    refine hval.out.mono ?_
    rintro e w2 ⟨rfl, hb2⟩
    go_wp2_with fail
    refine (hst.out _ hb2).mono ?_
    rintro e w3 ⟨h2, rfl, ho2, hb3⟩
    have hz2 := hb2.size
    have hz3 := hb3.size
    have hb23 := hb2.trans (hb3.mono hz2)
    have hB3 : Below w.heap.size w w3 := hB0.trans (hb23.mono (by omega))
    have hx7 := heap_alloc_new w3 (.cells #[.int .i64 dd.size, .slice h2.orig.A h2.orig.n h2.orig.c, .slice h2.now.A h2.now.n h2.now.c, .slice h2.tx.A h2.tx.n h2.tx.c, .slice h2.ty.A h2.ty.n h2.ty.c, .slice h2.ends.A h2.ends.n h2.ends.c, .slice h2.values.A h2.values.n h2.values.c, .slice h2.stack.A h2.stack.n h2.stack.c, .bool dd.axisY, .int .i64 dd.ref, .int .i64 dd.state, .int .i64 dd.cut, .int .i64 dd.least] 65 (0, 0))
    have hB4 : Below w.heap.size w (w3.alloc (.cells #[.int .i64 dd.size, .slice h2.orig.A h2.orig.n h2.orig.c, .slice h2.now.A h2.now.n h2.now.c, .slice h2.tx.A h2.tx.n h2.tx.c, .slice h2.ty.A h2.ty.n h2.ty.c, .slice h2.ends.A h2.ends.n h2.ends.c, .slice h2.values.A h2.values.n h2.values.c, .slice h2.stack.A h2.stack.n h2.stack.c, .bool dd.axisY, .int .i64 dd.ref, .int .i64 dd.state, .int .i64 dd.cut, .int .i64 dd.least] 65 (0, 0))) := hB3.alloc hB3.size _
    have hb04 : Below w0.heap.size w0 (w3.alloc (.cells #[.int .i64 dd.size, .slice h2.orig.A h2.orig.n h2.orig.c, .slice h2.now.A h2.now.n h2.now.c, .slice h2.tx.A h2.tx.n h2.tx.c, .slice h2.ty.A h2.ty.n h2.ty.c, .slice h2.ends.A h2.ends.n h2.ends.c, .slice h2.values.A h2.values.n h2.values.c, .slice h2.stack.A h2.stack.n h2.stack.c, .bool dd.axisY, .int .i64 dd.ref, .int .i64 dd.state, .int .i64 dd.cut, .int .i64 dd.least] 65 (0, 0))) := hb23.alloc hb23.size _
    have c75 : (w3.alloc (.cells #[.int .i64 dd.size, .slice h2.orig.A h2.orig.n h2.orig.c, .slice h2.now.A h2.now.n h2.now.c, .slice h2.tx.A h2.tx.n h2.tx.c, .slice h2.ty.A h2.ty.n h2.ty.c, .slice h2.ends.A h2.ends.n h2.ends.c, .slice h2.values.A h2.values.n h2.values.c, .slice h2.stack.A h2.stack.n h2.stack.c, .bool dd.axisY, .int .i64 dd.ref, .int .i64 dd.state, .int .i64 dd.cut, .int .i64 dd.least] 65 (0, 0))).cell? ⟨w3.heap.size, 5, none⟩ = some (.slice h2.ends.A h2.ends.n h2.ends.c) := by rw [Go.Joins.cell_of_block hx7]; rfl
    have ch5 : (w3.alloc (.cells #[.int .i64 dd.size, .slice h2.orig.A h2.orig.n h2.orig.c, .slice h2.now.A h2.now.n h2.now.c, .slice h2.tx.A h2.tx.n h2.tx.c, .slice h2.ty.A h2.ty.n h2.ty.c, .slice h2.ends.A h2.ends.n h2.ends.c, .slice h2.values.A h2.values.n h2.values.c, .slice h2.stack.A h2.stack.n h2.stack.c, .bool dd.axisY, .int .i64 dd.ref, .int .i64 dd.state, .int .i64 dd.cut, .int .i64 dd.least] 65 (0, 0))).cell? ⟨w.heap.size, 5, none⟩ = some (.slice h.ends.A h.ends.n h.ends.c) := by rw [Go.Joins.cell_of_block ((hb04.block w.heap.size (by omega)).trans hnew.out.1)]; rfl
    have ch5' : w3.cell? ⟨w.heap.size, 5, none⟩ = some (.slice h.ends.A h.ends.n h.ends.c) := by rw [Go.Joins.cell_of_block ((hb23.block w.heap.size (by omega)).trans hnew.out.1)]; rfl
    have hl5 : w.heap.size < w3.heap.size := by omega
    have rd1 : HinterRd (w3.alloc (.cells #[.int .i64 dd.size, .slice h2.orig.A h2.orig.n h2.orig.c, .slice h2.now.A h2.now.n h2.now.c, .slice h2.tx.A h2.tx.n h2.tx.c, .slice h2.ty.A h2.ty.n h2.ty.c, .slice h2.ends.A h2.ends.n h2.ends.c, .slice h2.values.A h2.values.n h2.values.c, .slice h2.stack.A h2.stack.n h2.stack.c, .bool dd.axisY, .int .i64 dd.ref, .int .i64 dd.state, .int .i64 dd.cut, .int .i64 dd.least] 65 (0, 0))) w2.heap.size w3.heap.size dd h2 := ho2.rd.frame ((SameB.refl _ _ _).alloc (Nat.le_refl _) _)
    have rd2 : HinterRd (w3.alloc (.cells #[.int .i64 dd.size, .slice h2.orig.A h2.orig.n h2.orig.c, .slice h2.now.A h2.now.n h2.now.c, .slice h2.tx.A h2.tx.n h2.tx.c, .slice h2.ty.A h2.ty.n h2.ty.c, .slice h2.ends.A h2.ends.n h2.ends.c, .slice h2.values.A h2.values.n h2.values.c, .slice h2.stack.A h2.stack.n h2.stack.c, .bool dd.axisY, .int .i64 dd.ref, .int .i64 dd.state, .int .i64 dd.cut, .int .i64 dd.least] 65 (0, 0))) loh hih d h := hrh.out.frame (Below.sameB hB4 hhih)
    have hs2 : h2.ends.n ≤ 1000000000 := by have := rd1.2.2.2.2.1.1; have := hdl.out; omega
    have hnum := Lib.hid (l20Numbers_any h2.ends.A h.ends.A h2.ends.n h2.ends.c h.ends.n h.ends.c _ _ loh hih dd.ends d.ends b5 hb5.out (w3.alloc (.cells #[.int .i64 dd.size, .slice h2.orig.A h2.orig.n h2.orig.c, .slice h2.now.A h2.now.n h2.now.c, .slice h2.tx.A h2.tx.n h2.tx.c, .slice h2.ty.A h2.ty.n h2.ty.c, .slice h2.ends.A h2.ends.n h2.ends.c, .slice h2.values.A h2.values.n h2.values.c, .slice h2.stack.A h2.stack.n h2.stack.c, .bool dd.axisY, .int .i64 dd.ref, .int .i64 dd.state, .int .i64 dd.cut, .int .i64 dd.least] 65 (0, 0))) rd1.2.2.2.2.1 rd2.2.2.2.2.1 (by simp) (by have := hB4.size; omega) hs2 hm.2.2.2.2.1)
    clear rd1 rd2 hx7 c75 ch5 ho2 hb3 hst hval hok
    go_wp2_with fail
    clear ch5' hl5
    refine hnum.out.mono ?_
    rintro e w4 ⟨rfl, q, rfl⟩
    have hb05 : Below w0.heap.size w0 ((w3.alloc (.cells #[.int .i64 dd.size, .slice h2.orig.A h2.orig.n h2.orig.c, .slice h2.now.A h2.now.n h2.now.c, .slice h2.tx.A h2.tx.n h2.tx.c, .slice h2.ty.A h2.ty.n h2.ty.c, .slice h2.ends.A h2.ends.n h2.ends.c, .slice h2.values.A h2.values.n h2.values.c, .slice h2.stack.A h2.stack.n h2.stack.c, .bool dd.axisY, .int .i64 dd.ref, .int .i64 dd.state, .int .i64 dd.cut, .int .i64 dd.least] 65 (0, 0))).drewN q) := below_drewN hb04 q
    have hB5 : Below w.heap.size w ((w3.alloc (.cells #[.int .i64 dd.size, .slice h2.orig.A h2.orig.n h2.orig.c, .slice h2.now.A h2.now.n h2.now.c, .slice h2.tx.A h2.tx.n h2.tx.c, .slice h2.ty.A h2.ty.n h2.ty.c, .slice h2.ends.A h2.ends.n h2.ends.c, .slice h2.values.A h2.values.n h2.values.c, .slice h2.stack.A h2.stack.n h2.stack.c, .bool dd.axisY, .int .i64 dd.ref, .int .i64 dd.state, .int .i64 dd.cut, .int .i64 dd.least] 65 (0, 0))).drewN q) := below_drewN hB4 q
    clear hnum hB4 hb04 hb23 hb2 hB3
    generalize (w3.alloc (.cells #[.int .i64 dd.size, .slice h2.orig.A h2.orig.n h2.orig.c, .slice h2.now.A h2.now.n h2.now.c, .slice h2.tx.A h2.tx.n h2.tx.c, .slice h2.ty.A h2.ty.n h2.ty.c, .slice h2.ends.A h2.ends.n h2.ends.c, .slice h2.values.A h2.values.n h2.values.c, .slice h2.stack.A h2.stack.n h2.stack.c, .bool dd.axisY, .int .i64 dd.ref, .int .i64 dd.state, .int .i64 dd.cut, .int .i64 dd.least] 65 (0, 0))).drewN q = w5 at *
    have hz5 := hb05.size
    have HR5 := (hb05.block (w.heap.size + 2) (by omega)).trans hnew.out.2.2
    rcases hcase.out with ⟨h5, hm'⟩ | ⟨h5, hsum, hcase2⟩
    · subst h5 hm'
      have cr0 : w5.cell? ⟨w.heap.size + 2, 0, none⟩ = some (.slice none 0 0) := by rw [Go.Joins.cell_of_block ((hb05.block (w.heap.size + 2) (by omega)).trans hnew.out.2.2)]; rfl
      have crf : ∀ o, w5.frozen? ⟨w.heap.size + 2, o, none⟩ = false := Go.Joins.unfrozen_of_block ((hb05.block (w.heap.size + 2) (by omega)).trans hnew.out.2.2)
      have crl : w.heap.size + 2 < w5.heap.size := by omega
      clear hnew hcase
      have hBr := hB5
      go_wp2_with fail
      refine bodyPost_ret (v := .tuple #[.agg #[.slice none 0 0], .int .i64 0, .int .i64 6]) (by simp [results, Try.results41, go_sem, cr0]) rfl ⟨none, 0, 0, rfl, own_empty _ _, hBr.setCell (p := ⟨w.heap.size + 2, 0, none⟩) (by simp) _⟩
    · subst h5
      have ch2 : w5.cell? ⟨w.heap.size, 2, none⟩ = some (.slice h.now.A h.now.n h.now.c) := by rw [Go.Joins.cell_of_block ((hb05.block w.heap.size (by omega)).trans hnew.out.1)]; rfl
      have cO5 : w5.cell? ⟨w.heap.size + 1, 0, none⟩ = some (.slice A n c) := (hb05.cell (by simp; omega)).trans cO
      have rdn := (hrh.out.frame (Below.sameB hB5 hhih)).2.1
      have hout := Lib.hid (l20Outline_any w.heap.size (w.heap.size + 1) h.now.A h.now.n h.now.c loh hih d.now A n c lo hi Ls w5 (by omega) (by omega) ch2 cO5 rdn (by have := hB5.size; omega) (hr.out.frame good_loop (Below.sameB hB5 hhi)) (by have := hB5.size; omega) hn12 o2.out (by omega) hN242)
      clear ch2 cO5 cO rdn
      go_wp2_with fail
      refine hout.out.mono ?_
      rintro e w6 ⟨A', c', rfl, ho6, hb6⟩
      have hz6 := hb6.size
      have hB6 := hB5.trans (hb6.mono hB5.size)
      have hb06 := hb05.trans (hb6.mono hz5)
      have hx9 := heap_alloc_new w6 (.cells #[.slice A' n c'] 46 (0, 0))
      have c9 : (w6.alloc (.cells #[.slice A' n c'] 46 (0, 0))).cell? ⟨w6.heap.size, 0, none⟩ = some (.slice A' n c') := by rw [Go.Joins.cell_of_block hx9]; rfl
      have hB7 : Below w.heap.size w (w6.alloc (.cells #[.slice A' n c'] 46 (0, 0))) := hB6.alloc hB6.size _
      have hb07 : Below w0.heap.size w0 (w6.alloc (.cells #[.slice A' n c'] 46 (0, 0))) := hb06.alloc hb06.size _
      have hlen : ∀ K ∈ hintLs d.now 0 Ls, K.length ≤ 60 := fun K hK => by
        have h1 := List.mem_map_of_mem (f := List.length) hK
        rw [hintLs_lens] at h1
        obtain ⟨K', h2, h3⟩ := List.mem_map.1 h1
        rw [← h3]; exact o2.out K' h2
      have ho7 := ho6.kept (Go.Joins.below_alloc1 w6 (.cells #[.slice A' n c'] 46 (0, 0)))
      have hz7 : (w6.alloc (.cells #[.slice A' n c'] 46 (0, 0))).heap.size = w6.heap.size + 1 := by simp
      have hval2 := Lib.hid (l10Ok_any w6.heap.size A' n c' w5.heap.size _ (hintLs d.now 0 Ls) v2 hv2.out (w6.alloc (.cells #[.slice A' n c'] 46 (0, 0))) (by simp) c9 (ho7.rd (fun K hK => by have := hlen K hK; unfold maxLen; omega)) (Nat.le_refl _) (by omega) (fun K hK => by have := hlen K hK; omega))
      replace ho7 := Lib.hid ho7
      clear ho6 hout hb6 hx9 hb06 hB6
      go_wp2_with fail
      generalize w6.alloc (.cells #[.slice A' n c'] 46 (0, 0)) = w7 at *
      replace hz7 := Lib.hid hz7
      refine hval2.out.mono ?_
      rintro e w8 ⟨rfl, hb8⟩
      have hz8 := hb8.size
      have hw7 := hz7.out
      have hb08 := hb07.trans (hb8.mono hb07.size)
      have hB8 := hB7.trans (hb8.mono hB7.size)
      replace ho7 := Lib.hid (ho7.out.kept hb8)
      replace c9 := (hb8.cell (by simp; omega)).trans c9
      clear hval2 hb8
      rcases hcase2 with ⟨h6, hm'⟩ | ⟨h6, hm'⟩
      · subst h6 hm'
        have cr0 : w8.cell? ⟨w.heap.size + 2, 0, none⟩ = some (.slice none 0 0) := by rw [Go.Joins.cell_of_block ((hb08.block (w.heap.size + 2) (by omega)).trans hnew.out.2.2)]; rfl
        have crf : ∀ o, w8.frozen? ⟨w.heap.size + 2, o, none⟩ = false := Go.Joins.unfrozen_of_block ((hb08.block (w.heap.size + 2) (by omega)).trans hnew.out.2.2)
        have crl : w.heap.size + 2 < w8.heap.size := by omega
        clear hnew hcase
        have hBr := hB8
        go_wp2_with fail
        refine bodyPost_ret (v := .tuple #[.agg #[.slice none 0 0], .int .i64 0, .int .i64 2]) (by simp [results, Try.results41, go_sem, cr0]) rfl ⟨none, 0, 0, rfl, own_empty _ _, hBr.setCell (p := ⟨w.heap.size + 2, 0, none⟩) (by simp) _⟩
      · subst h6 hm'
        have HR8 := (hb08.block (w.heap.size + 2) (by omega)).trans hnew.out.2.2
        have ch2 : w8.drew.cell? ⟨w.heap.size, 2, none⟩ = some (.slice h.now.A h.now.n h.now.c) := by show w8.cell? _ = _; rw [Go.Joins.cell_of_block ((hb08.block w.heap.size (by omega)).trans hnew.out.1)]; rfl
        have hwd := Lib.hid (l20Width_any w.heap.size h.now.A h.now.n h.now.c loh hih d.now w8.drew (by show w.heap.size < w8.heap.size; omega) ch2 (hrh.out.frame (Below.sameB hB8.drew hhih)).2.1 (by have := hB8.size; show hih ≤ w8.heap.size; omega) hN2 hN242 hns.out)
        have cr0 : w8.cell? ⟨w.heap.size + 2, 0, none⟩ = some (.slice none 0 0) := by rw [Go.Joins.cell_of_block ((hb08.block (w.heap.size + 2) (by omega)).trans hnew.out.2.2)]; rfl
        have crf : ∀ o, w8.frozen? ⟨w.heap.size + 2, o, none⟩ = false := Go.Joins.unfrozen_of_block ((hb08.block (w.heap.size + 2) (by omega)).trans hnew.out.2.2)
        have crl : w.heap.size + 2 < w8.heap.size := by omega
        have hne : w.heap.size + 2 ≠ w6.heap.size := by omega
        have c9d : w8.drew.cell? ⟨w6.heap.size, 0, none⟩ = some (.slice A' n c') := c9
        have hl9 : w6.heap.size < w8.heap.size := by omega
        clear hnew hcase ch2
        obtain ⟨wd, hwde⟩ : ∃ x, x = hintW d.now := ⟨_, rfl⟩
        rw [← hwde] at hwd
        replace hwde := Lib.hid hwde
        go_wp2_with fail
        go_region_held3 (fun w' => w'.cell? ⟨w6.heap.size, 0, none⟩ = some (.slice A' n c')) (first | exact c99 | exact (World.cell?_setCell_far _ _ _ _ hne).trans c99 | exact c9d)
          (first | (go_at_call 110; (with_reducible refine hwd.out.mono ?_); rintro e w9 ⟨rfl, hb9⟩; have c99 : w9.cell? ⟨w6.heap.size, 0, none⟩ = some (.slice A' n c') := (hb9.cell (by show w6.heap.size < w8.heap.size; omega)).trans c9d; have HR9 : w9.heap[w.heap.size + 2]? = _ := (hb9.block (w.heap.size + 2) (by show _ < w8.heap.size; omega)).trans HR8; have cr9 : w9.cell? ⟨w.heap.size + 2, 0, none⟩ = some (.slice none 0 0) := (by rw [Go.Joins.cell_of_block HR9]; rfl); have crf9 : ∀ o, w9.frozen? ⟨w.heap.size + 2, o, none⟩ = false := Go.Joins.unfrozen_of_block HR9; have hz9 : w8.heap.size ≤ w9.heap.size := hb9.size; have crl9 : w.heap.size + 2 < w9.heap.size := (by omega)))
        go_wp2_with fail
        refine bodyPost_ret (v := .tuple #[.agg #[.slice A' n c'], .int .i64 wd, .int .i64 0]) (by simp [results, Try.results41, go_sem, cr9]) rfl ⟨A', n, c', by rw [hwde.out], ?_, (hB8.drew.trans (hb9.mono (by have := hB8.size; show w.heap.size ≤ w8.heap.size; omega))).setCell (p := ⟨w.heap.size + 2, 0, none⟩) (by simp) _⟩
        refine (((ho7.out.kept ((Below.refl _ _).drew)).kept hb9).set (a := ⟨w.heap.size + 2, 0, none⟩) (show w.heap.size + 2 < w5.heap.size by omega) _).lower (by omega)
end Go.Proofs.Ytgngcllodofimaa
