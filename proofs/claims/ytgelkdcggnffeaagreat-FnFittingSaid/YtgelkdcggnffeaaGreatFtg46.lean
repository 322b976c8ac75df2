/- The distance of a region and an outline: the program's side. Conditions: as each states. -/
import Derived.Test.YtgelkdcggnffeaaGreatFtg45
import Derived.Test.YtgelkdcggnffeaaGreatFtg40
import Derived.Test.YtgelkdcggnffeaaGreatFtg41
import Derived.Test.YtgelkdcggnffeaaGreatFtg14
namespace Go.Proofs.YtgelkdcggnffeaaGreat
open Go.RowKit
set_option linter.unusedVariables false
set_option maxRecDepth 100000

/-- ring j of a region and of another one are near one another -/
def ndJ (Rs Fs : List (List Pnt)) (d : Int) (j : Nat) : Bool := nearD (Rs.getD j []) (Fs.getD j []) d
theorem allD_yes {Rs Fs : List (List Pnt)} {d : Int} (h : ∀ j, j < Rs.length → ndJ Rs Fs d j = true) : allD Rs Fs d = true := List.all_eq_true.2 fun j hj => h j (List.mem_range.1 hj)
theorem allD_no {Rs Fs : List (List Pnt)} {d : Int} {j : Nat} (hj : j < Rs.length) (h : ndJ Rs Fs d j = false) : allD Rs Fs d = false := List.all_eq_false.2 ⟨j, List.mem_range.2 hj, by show ¬ ndJ Rs Fs d j = true; simp [h]⟩
theorem within_clo2 {L M : List Pnt} {d : Int} (h1 : 0 < L.length) (h2 : 0 < M.length) : (withinB (clo L) (clo M) d && withinB (clo M) (clo L) d) = nearD L M d := by
  unfold nearD; rw [within_clo h1, within_clo h2]

set_option maxHeartbeats 16000000 in
theorem implFitError_any (A B : Option Addr) (n c m c' lo hi lo' hi' : Nat) (Rs : List (List Pnt)) (Ls : List (List Knot)) (x y : Int) (hxy : feR Rs Ls (outOk Ls) = (x, y)) (w : World) (hr : RegRd w lo hi A n Rs) (ho : OutRd w lo' hi' B m Ls) (hhi : hi ≤ w.heap.size) (hhi' : hi' ≤ w.heap.size) (hn : n ≤ 1048576) (hm : m ≤ 1048576) (hs : ∀ L ∈ Rs, L.length ≤ 1048576) (hs' : ∀ K ∈ Ls, K.length ≤ 1048576) :
    Calls Tryz.prog 10 #[.agg #[.slice A n c], .agg #[.slice B m c']] w fun e w' => e = .returned (.tuple #[.int .i64 x, .int .i64 y]) ∧ Below w.heap.size w w' := by
  have hnR := hr.1
  have hnO := ho.1
  have hb0 := Go.Joins.below_alloc2 w (.cells #[.slice A n c] 26 (0, 0)) (.cells #[.slice B m c'] 31 (0, 0))
  have hz0 : ((w.alloc (.cells #[.slice A n c] 26 (0, 0))).alloc (.cells #[.slice B m c'] 31 (0, 0))).heap.size = w.heap.size + 2 := by simp
  have hnew := heap_new2 w (.cells #[.slice A n c] 26 (0, 0)) (.cells #[.slice B m c'] 31 (0, 0))
  have hr0 := Lib.hid (hr.frame good_ring (Below.sameB hb0 hhi))
  have ho0 := Lib.hid (ho.frame good_loop (Below.sameB hb0 hhi'))
  have hP0 := Lib.hid hnew.1
  have hQ0 := Lib.hid hnew.2
  obtain ⟨v1, hv1⟩ : ∃ v, v = regOk Rs := ⟨_, rfl⟩
  obtain ⟨v2, hv2⟩ : ∃ v, v = outOk Ls := ⟨_, rfl⟩
  rw [← hv2] at hxy
  clear hr ho hnew
  go_enter Tryz.func10, Tryz.ntmps10
  go_upto_region 1 with fail
  generalize ((w.alloc (.cells #[.slice A n c] 26 (0, 0))).alloc (.cells #[.slice B m c'] 31 (0, 0))) = w0 at *
  obtain ⟨P, hP⟩ : ∃ P, P = w.heap.size := ⟨_, rfl⟩
  obtain ⟨Q, hQ⟩ : ∃ Q, Q = w.heap.size + 1 := ⟨_, rfl⟩
  rw [← hQ] at hQ0 ⊢
  have hPl : w.heap.size < w0.heap.size := by omega
  have hQl : Q < w0.heap.size := by omega
  have hzw : w.heap.size ≤ w0.heap.size := by omega
  have hhi0 : hi ≤ w0.heap.size := by omega
  have hhi0' : hi' ≤ w0.heap.size := by omega
  clear hz0 hP hQ
  have p0 : w0.cell? ⟨w.heap.size, 0, none⟩ = some (.slice A n c) := by rw [Go.Joins.cell_of_block hP0.out]; rfl
  have q0 : w0.cell? ⟨Q, 0, none⟩ = some (.slice B m c') := by rw [Go.Joins.cell_of_block hQ0.out]; rfl
  have hc1 := Lib.hid (validRegion_any A n c lo hi Rs v1 hv1 w0 hr0.out hhi0 hn hs)
  have hc2 : Hid (∀ W, Below w0.heap.size w0 W → Calls Tryz.prog 22 #[.agg #[.slice B m c']] W fun e w' => e = .returned (.bool v2) ∧ Below w0.heap.size w0 w') := Lib.hid fun W hB => (validOutline_any B m c' lo' hi' Ls v2 hv2 W (ho0.out.frame good_loop (Below.sameB hB hhi0')) (Nat.le_trans hhi0' hB.size) (by omega) (fun K hK => by have := hs' K hK; omega)).mono fun e w' ⟨he, hb⟩ => ⟨he, hB.trans (hb.mono hB.size)⟩
  have hcs := Lib.hid (fun (W : World) (hB : Below w0.heap.size w0 W) => And.intro ((hB.cell (p := ⟨w.heap.size, 0, none⟩) hPl).trans p0) ((hB.cell (p := ⟨Q, 0, none⟩) hQl).trans q0))
  cases v1 with
  | false =>
    have hxy2 : (0, 1) = (x, y) := by rw [← hxy]; exact (feR_bad (.inl hv1.symm)).symm
    injection hxy2 with e1 e2
    subst e1 e2
    replace hv1 := Lib.hid hv1
    replace hv2 := Lib.hid hv2
    replace hxy := Lib.hid hxy
    go_wp2_with (go_at_call 16; refine hc1.out.mono ?_; rintro e w1 ⟨rfl, hb1⟩; replace hb1 := Lib.hid hb1)
    go_ret2
    exact ⟨rfl, hb0.trans (hb1.out.mono hzw)⟩
  | true =>
  cases v2 with
  | false =>
    have hxy2 : (0, 1) = (x, y) := by rw [← hxy]; exact (feR_bad (.inr (.inl rfl))).symm
    injection hxy2 with e1 e2
    subst e1 e2
    replace hv1 := Lib.hid hv1
    replace hv2 := Lib.hid hv2
    replace hxy := Lib.hid hxy
    go_wp2_with (first | (go_at_call 16; refine hc1.out.mono ?_; rintro e w1 ⟨rfl, hb1⟩; obtain ⟨p1, q1⟩ := hcs.out _ hb1; have pl1 := Nat.lt_of_lt_of_le hPl hb1.size; have ql1 := Nat.lt_of_lt_of_le hQl hb1.size; replace hb1 := Lib.hid hb1) | (go_at_call 22; refine (hc2.out _ hb1.out).mono ?_; rintro e w2 ⟨rfl, hb2⟩; replace hb2 := Lib.hid hb2))
    go_ret2
    exact ⟨rfl, hb0.trans (hb2.out.mono hzw)⟩
  | true =>
  by_cases hnm : n = m
  rotate_left
  · have hxy2 : (0, 1) = (x, y) := by rw [← hxy]; exact (feR_bad (.inr (.inr (by rw [hnR, hnO]; exact hnm)))).symm
    injection hxy2 with e1 e2
    subst e1 e2
    have hne : ¬ (n : Int) = (m : Int) := by omega
    replace hnm := Lib.hid hnm
    replace hnR := Lib.hid hnR
    replace hnO := Lib.hid hnO
    replace hv1 := Lib.hid hv1
    replace hv2 := Lib.hid hv2
    replace hxy := Lib.hid hxy
    go_wp2_with (first | (go_at_call 16; refine hc1.out.mono ?_; rintro e w1 ⟨rfl, hb1⟩; obtain ⟨p1, q1⟩ := hcs.out _ hb1; have pl1 := Nat.lt_of_lt_of_le hPl hb1.size; have ql1 := Nat.lt_of_lt_of_le hQl hb1.size; replace hb1 := Lib.hid hb1) | (go_at_call 22; refine (hc2.out _ hb1.out).mono ?_; rintro e w2 ⟨rfl, hb2⟩; obtain ⟨p2, q2⟩ := hcs.out _ hb2; have pl2 := Nat.lt_of_lt_of_le hPl hb2.size; have ql2 := Nat.lt_of_lt_of_le hQl hb2.size; replace hb2 := Lib.hid hb2))
    go_ret2
    exact ⟨rfl, hb0.trans (hb2.out.mono hzw)⟩
  subst hnm
  have hxyg := hxy
  rw [feR_good hv1.symm (by rw [hnR, hnO])] at hxyg
  obtain ⟨hn40, hRp, _⟩ := regOk_is hv1.symm
  obtain ⟨hm12, hfl⟩ := outOk_flat hv2.symm
  have hn12 : n ≤ 12 := by omega
  have hreg : Hid (∀ W, Below w0.heap.size w0 W → Calls Tryz.prog 23 #[.agg #[.slice B n c'], .int .i64 1] W fun e w' => ∃ W0, W0 = W ∧ RegnCo (flatO Ls) n W0 e w' ∧ Below w0.heap.size w0 w') := Lib.hid fun W hB => (flattenOutline_any B n c' lo' hi' Ls W (ho0.out.frame good_loop (Below.sameB hB hhi0')) (Nat.le_trans hhi0' hB.size) hv2.symm).mono fun e w' ⟨he, hb⟩ => ⟨W, rfl, he, hB.trans (hb.mono hB.size)⟩
  replace hv1 := Lib.hid hv1
  replace hv2 := Lib.hid hv2
  replace hxy := Lib.hid hxy
  replace hxyg := Lib.hid hxyg
  replace hnR := Lib.hid hnR
  replace hnO := Lib.hid hnO
  go_upto_region 3 with (first | (go_at_call 16; refine hc1.out.mono ?_; rintro e w1 ⟨rfl, hb1⟩; obtain ⟨p1, q1⟩ := hcs.out _ hb1; have pl1 := Nat.lt_of_lt_of_le hPl hb1.size; have ql1 := Nat.lt_of_lt_of_le hQl hb1.size; replace hb1 := Lib.hid hb1) | (go_at_call 22; refine (hc2.out _ hb1.out).mono ?_; rintro e w2 ⟨rfl, hb2⟩; obtain ⟨p2, q2⟩ := hcs.out _ hb2; have pl2 := Nat.lt_of_lt_of_le hPl hb2.size; have ql2 := Nat.lt_of_lt_of_le hQl hb2.size; replace hb2 := Lib.hid hb2))
  clear p0 q0 p1 q1 hc1 hc2
  go_wp2_with fail
  refine (hreg.out _ hb2.out).mono ?_
  rintro e w3 ⟨W0, rfl, ⟨hno, rfl⟩ | ⟨Fs, A3, c3, hFs, rfl, hown, hlen⟩, hb3⟩
  · have h := hxyg.out
    rw [hno] at h
    injection h with e1 e2
    subst e1 e2
    replace hno := Lib.hid hno
    have hz3 := hb3.size
    go_wp2_with fail
    go_ret2
    exact ⟨rfl, hb0.trans ((hb3.alloc hz3 _).mono hzw)⟩
  have hFok := flatO_ok hFs
  obtain ⟨_, hFp, _⟩ := regOk_is hFok
  have h := hxyg.out
  rw [hFs] at h
  simp only at h
  have hres := Lib.hid h
  clear h
  have hnF : Fs.length = n := hown.choose_spec.1
  have hz3 := hb3.size
  have hrF : Hid (RegRd w3 W0.heap.size w3.heap.size A3 n Fs) := Lib.hid (hown.rd (fun K hK => Nat.le_trans (hlen K hK) (by decide)))
  have hal := Go.Joins.below_alloc1 w3 (.cells #[.slice A3 n c3] 26 (0, 0))
  have hZ0 := Lib.hid (heap_alloc_new w3 (.cells #[.slice A3 n c3] 26 (0, 0)))
  have hzZ : (w3.alloc (.cells #[.slice A3 n c3] 26 (0, 0))).heap.size = w3.heap.size + 1 := by simp
  have hb4 := hb3.trans (hal.mono hz3)
  have hrF4 := Lib.hid (hrF.out.frame good_ring (Below.sameB hal (Nat.le_refl _)))
  replace hFs := Lib.hid hFs
  clear hown hlen hal hrF hreg p2 q2
  go_upto_region 4 with fail
  generalize w3.alloc (.cells #[.slice A3 n c3] 26 (0, 0)) = w4 at *
  obtain ⟨Z, hZ⟩ : ∃ Z, Z = w3.heap.size := ⟨_, rfl⟩
  rw [← hZ] at hZ0 hrF4 ⊢
  have hl4 : Z < w4.heap.size := by omega
  have hz40 : w0.heap.size ≤ w4.heap.size := by omega
  clear hzZ hZ
  have z4 : w4.cell? ⟨Z, 0, none⟩ = some (.slice A3 n c3) := by rw [Go.Joins.cell_of_block hZ0.out]; rfl
  obtain ⟨p4, q4⟩ := hcs.out _ hb4
  have hpl4 : w.heap.size < w4.heap.size := by omega
  have hr4 := Lib.hid (hr0.out.frame good_ring (Below.sameB hb4 hhi0))
  have hB4 := Lib.hid (hb0.trans (hb4.mono hzw))
  have hz4w : w.heap.size ≤ w4.heap.size := by omega
  have hhi4 : hi ≤ w4.heap.size := by omega
  have hpz := Lib.hid (And.intro p4 z4)
  clear q4 hcs hr0 ho0 hP0 hQ0
  go_wp2_with fail
  clear p4 z4
  go_loopw [8, 40] (fun dv iv wr => ∃ k d : Nat, dv = .int .i64 d ∧ iv = .int .i64 k ∧ k ≤ n ∧ d ≤ 65 ∧ (d ≤ 64 → ∀ j, j < k → ndJ Rs Fs (d : Int) j = true) ∧ (∀ e : Nat, e < d → ∃ j, j < n ∧ ndJ Rs Fs (e : Int) j = false) ∧ Below w4.heap.size w4 wr) (fun dv iv wr => n - (intOf iv).toNat)
  case atStart => exact ⟨0, 0, rfl, rfl, Nat.zero_le _, by omega, fun _ j hj => absurd hj (Nat.not_lt_zero j), fun e he => absurd he (Nat.not_lt_zero e), Below.refl _ _⟩
  case round =>
  obtain ⟨k, d, rfl, rfl, hk, hd, hyes, hno, hbel⟩ := hrel
  generalize wr = xr at *
  have hzx := hbel.size
  replace hyes := Lib.hid hyes
  replace hno := Lib.hid hno
  by_cases hlt : k < n
  rotate_left
  · have hkn : k = n := by omega
    have hki : ¬ (k : Int) < (n : Int) := by omega
    replace hkn := Lib.hid hkn
    have hnoD : Hid (∀ e : Nat, e < d → allD Rs Fs (e : Int) = false) := Lib.hid fun e he => by
      obtain ⟨j, hj, h⟩ := hno.out e he
      exact allD_no (by rw [hnR.out]; exact hj) h
    by_cases hd64 : d ≤ 64
    · have hdi : ¬ (64 : Int) < (d : Int) := by omega
      have hY : allD Rs Fs (d : Int) = true := allD_yes fun j hj => hyes.out hd64 j (by have := hnR.out; have := hkn.out; omega)
      have hl := leastD_some (by omega) hnoD.out hY
      have h := hres.out
      rw [hl] at h
      injection h with e1 e2
      subst e1 e2
      replace hl := Lib.hid hl
      replace hY := Lib.hid hY
      go_wp2_with fail
      go_ret2
      exact ⟨rfl, hB4.out.trans (hbel.mono hz4w)⟩
    · have hdi : (64 : Int) < (d : Int) := by omega
      have hl := leastD_none (fun j hj => hnoD.out j (by omega))
      have h := hres.out
      rw [hl] at h
      injection h with e1 e2
      subst e1 e2
      replace hl := Lib.hid hl
      go_wp2_with fail
      go_ret2
      exact ⟨rfl, hB4.out.trans (hbel.mono hz4w)⟩
  have hki : (k : Int) < (n : Int) := by omega
  have i1 : (0 : Int) ≤ (k : Int) ∧ (k : Int) < (n : Int) := by omega
  have px := (hbel.cell (p := ⟨w.heap.size, 0, none⟩) hpl4).trans hpz.out.1
  have zx := (hbel.cell (p := ⟨Z, 0, none⟩) hl4).trans hpz.out.2
  have plx : w.heap.size < xr.heap.size := Nat.lt_of_lt_of_le hpl4 hzx
  have zlx : Z < xr.heap.size := Nat.lt_of_lt_of_le hl4 hzx
  obtain ⟨b, off, K, A2, n2, c2, rfl, hb0', hb, hja, r0, hm2, hrk⟩ := reg_at (hr4.out.frame good_ring (Below.sameB hbel hhi4)) hlt
  obtain ⟨b', off', M, A5, n3, c5, rfl, hb5', hb5, hja', r0', hm3, hrm⟩ := reg_at (hrF4.out.frame good_ring (Below.sameB hbel (by omega))) hlt
  have hbw : b < xr.heap.size := by omega
  have hbw' : b' < xr.heap.size := by omega
  have hKok := hRp K (List.mem_of_getElem? hja)
  have hMok := hFp M (List.mem_of_getElem? hja')
  obtain ⟨k1, k2, k3⟩ := pathOk_is hKok
  obtain ⟨m1, m2, m3⟩ := pathOk_is hMok
  have hnK := hrk.1
  have hnM := hrm.1
  have hndk : ∀ e : Int, ndJ Rs Fs e k = (withinB (clo K) (clo M) e && withinB (clo M) (clo K) e) := fun e => by unfold ndJ; rw [getD_at hja, getD_at hja', within_clo2 (by omega) (by omega)]
  have hS := Lib.hid (fun (W : World) (hB : Below xr.heap.size xr W) => (show W.cell? ⟨w.heap.size, 0, none⟩ = some (.slice (some ⟨b, off, none⟩) n c) ∧ W.cell? ⟨Z, 0, none⟩ = some (.slice (some ⟨b', off', none⟩) n c3) ∧ W.cell? ⟨b, off + k, none⟩ = some (.slice A2 n2 c2) ∧ W.cell? ⟨b', off' + k, none⟩ = some (.slice A5 n3 c5) from ⟨(hB.cell (p := ⟨w.heap.size, 0, none⟩) plx).trans px, (hB.cell (p := ⟨Z, 0, none⟩) zlx).trans zx, (hB.cell (p := ⟨b, off + k, none⟩) hbw).trans r0, (hB.cell (p := ⟨b', off' + k, none⟩) hbw').trans r0'⟩))
  have hca : Hid (∀ W, Below xr.heap.size xr W → Calls Tryz.prog 24 #[.agg #[.slice A2 n2 c2]] W fun e w' => ∃ A6 c6, e = .returned (.slice A6 (n2 + 1) c6) ∧ RdS 2 (FlatR ptC) w' xr.heap.size w'.heap.size A6 (n2 + 1) (clo K) ∧ Below xr.heap.size xr w' ∧ Below W.heap.size W w') := by
    refine Lib.hid fun W hB => (closedPath_any A2 n2 c2 lo hi K W (hrk.frame (good_flat _) (Below.sameB hB (by omega))) (by have := hB.size; omega) (by omega) (by omega)).mono ?_
    rintro e w' ⟨A6, c6, he, ho, hb2⟩
    exact ⟨A6, c6, he, rdS_own ptC_len (by omega) (own_lower ho hB.size) (by rw [clo_len]; omega), hB.trans (hb2.mono hB.size), hb2⟩
  have hcb : Hid (∀ W, Below xr.heap.size xr W → Calls Tryz.prog 24 #[.agg #[.slice A5 n3 c5]] W fun e w' => ∃ A7 c7, e = .returned (.slice A7 (n3 + 1) c7) ∧ RdS 2 (FlatR ptC) w' xr.heap.size w'.heap.size A7 (n3 + 1) (clo M) ∧ Below xr.heap.size xr w' ∧ Below W.heap.size W w') := by
    refine Lib.hid fun W hB => (closedPath_any A5 n3 c5 W0.heap.size Z M W (hrm.frame (good_flat _) (Below.sameB hB (by omega))) (by have := hB.size; omega) (by omega) (by omega)).mono ?_
    rintro e w' ⟨A7, c7, he, ho, hb2⟩
    exact ⟨A7, c7, he, rdS_own ptC_len (by omega) (own_lower ho hB.size) (by rw [clo_len]; omega), hB.trans (hb2.mono hB.size), hb2⟩
  have hn2 : n2 + 1 ≤ 401 := by omega
  have hn3 : n3 + 1 ≤ 401 := by omega
  replace hndk := Lib.hid hndk
  replace hrk := Lib.hid hrk
  replace hrm := Lib.hid hrm
  replace hja := Lib.hid hja
  replace hja' := Lib.hid hja'
  replace hnK := Lib.hid hnK
  replace hnM := Lib.hid hnM
  clear hm2 hm3 hb0' hb hb5' hb5 k1 k2 k3 m1 m2 m3
  go_upto_region 10 with fail
  go_cut [10, 11] (fun s10 s11 wx => ∃ (A6 : Option Addr) (c6 : Nat) (A7 : Option Addr) (c7 : Nat), s10 = .slice A6 (n2 + 1) c6 ∧ s11 = .slice A7 (n3 + 1) c7 ∧ RdS 2 (FlatR ptC) wx xr.heap.size wx.heap.size A6 (n2 + 1) (clo K) ∧ RdS 2 (FlatR ptC) wx xr.heap.size wx.heap.size A7 (n3 + 1) (clo M) ∧ Below xr.heap.size xr wx)
  case first =>
    go_region_held3 (fun w' => w'.cell? ⟨w.heap.size, 0, none⟩ = some (.slice (some ⟨b, off, none⟩) n c) ∧ w'.cell? ⟨Z, 0, none⟩ = some (.slice (some ⟨b', off', none⟩) n c3) ∧ w'.cell? ⟨b, off + k, none⟩ = some (.slice A2 n2 c2) ∧ w'.cell? ⟨b', off' + k, none⟩ = some (.slice A5 n3 c5)) (first | (exact hS.out _ (Below.drew (Below.refl _ _))) | (with_reducible exact sQ.out)) (first | (go_at_call 24; (with_reducible refine (hca.out _ ?_).mono ?_); (first | exact Below.drew (Below.refl _ _) | exact hbB.out); rintro e wA ⟨A6, c6, rfl, hr6, hbA, hxA⟩; have sQ := Lib.hid (hS.out wA hbA); replace hr6 := Lib.hid hr6; replace hbA := Lib.hid hbA; replace hxA := Lib.hid hxA) | (go_at_call 24; (with_reducible refine (hcb.out _ ?_).mono ?_); (first | exact Below.drew (Below.refl _ _) | exact hbA.out); rintro e wB ⟨A7, c7, rfl, hr7, hbB, hxB⟩; have sQ := Lib.hid (hS.out wB hbB); replace hr7 := Lib.hid hr7; replace hbB := Lib.hid hbB; replace hxB := Lib.hid hxB))
    all_goals
      go_wp2_with fail
      go_meet
      first
        | exact ⟨A6, c6, A7, c7, rfl, rfl, (hr6.out.frame (good_flat _) (Below.sameB hxB.out (Nat.le_refl _))).wide (good_flat _) (Nat.le_refl _) hxB.out.size, hr7.out, hbB.out⟩
        | exact ⟨A6, c6, A7, c7, rfl, rfl, hr6.out, (hr7.out.frame (good_flat _) (Below.sameB hxA.out (Nat.le_refl _))).wide (good_flat _) (Nat.le_refl _) hxA.out.size, hbA.out⟩
  obtain ⟨A6, c6, A7, c7, rfl, rfl, hr6, hr7, hbc⟩ := hcut
  generalize wc = v at *
  have hzv := hbc.size
  have hbv := Lib.hid (hbel.trans (hbc.mono hzx))
  have hzv4 := hbv.out.size
  have hg1 : Hid (∀ (e : Nat) (t : Bool), e ≤ 64 → t = withinB (clo K) (clo M) (e : Int) → ∀ W, Below v.heap.size v W → Calls Tryz.prog 25 #[.slice A6 (n2 + 1) c6, .slice A7 (n3 + 1) c7, .int .i64 e] W fun e w' => e = .returned (.bool t) ∧ Below v.heap.size v w') := Lib.hid fun e t he ht W hB => (pathWithin_any A6 A7 (n2 + 1) c6 (n3 + 1) c7 xr.heap.size v.heap.size xr.heap.size v.heap.size (clo K) (clo M) (e : Int) t ht W (hr6.frame (good_flat _) (Below.sameB hB (Nat.le_refl _))) (hr7.frame (good_flat _) (Below.sameB hB (Nat.le_refl _))) hB.size hB.size (by omega) (by omega) (by omega) (clo_ok hKok) (clo_ok hMok) (by omega) (by omega)).mono fun e w' ⟨he, hb⟩ => ⟨he, hB.trans (hb.mono hB.size)⟩
  have hg2 : Hid (∀ (e : Nat) (t : Bool), e ≤ 64 → t = withinB (clo M) (clo K) (e : Int) → ∀ W, Below v.heap.size v W → Calls Tryz.prog 25 #[.slice A7 (n3 + 1) c7, .slice A6 (n2 + 1) c6, .int .i64 e] W fun e w' => e = .returned (.bool t) ∧ Below v.heap.size v w') := Lib.hid fun e t he ht W hB => (pathWithin_any A7 A6 (n3 + 1) c7 (n2 + 1) c6 xr.heap.size v.heap.size xr.heap.size v.heap.size (clo M) (clo K) (e : Int) t ht W (hr7.frame (good_flat _) (Below.sameB hB (Nat.le_refl _))) (hr6.frame (good_flat _) (Below.sameB hB (Nat.le_refl _))) hB.size hB.size (by omega) (by omega) (by omega) (clo_ok hMok) (clo_ok hKok) (by omega) (by omega)).mono fun e w' ⟨he, hb⟩ => ⟨he, hB.trans (hb.mono hB.size)⟩
  clear hr6 hr7 px zx r0 r0' hS hca hcb hbel
  go_wp2_with fail
  go_loopw [8] (fun dv wr => ∃ e : Nat, dv = .int .i64 e ∧ d ≤ e ∧ e ≤ 65 ∧ (∀ j : Nat, d ≤ j → j < e → ndJ Rs Fs (j : Int) k = false) ∧ Below v.heap.size v wr) (fun dv wr => 65 - (intOf dv).toNat)
  case atStart => exact ⟨d, rfl, Nat.le_refl _, hd, fun j h1 h2 => absurd h1 (by omega), Below.refl _ _⟩
  case round =>
  obtain ⟨e, rfl, hde, he65, hall, hbu⟩ := hrel
  generalize wr = ur at *
  replace hall := Lib.hid hall
  have hbuH := Lib.hid hbu
  have hnoE : Hid (∀ e' : Nat, e' < e → ∃ j, j < n ∧ ndJ Rs Fs (e' : Int) j = false) := Lib.hid fun e' he' => by
    rcases Nat.lt_or_ge e' d with h | h
    · exact hno.out e' h
    · exact ⟨k, hlt, hall.out e' h he'⟩
  have hyE : Hid ((e ≤ 64 → ndJ Rs Fs (e : Int) k = true) → e ≤ 64 → ∀ j, j < k + 1 → ndJ Rs Fs (e : Int) j = true) := Lib.hid fun hy he j hj => by
    rcases Nat.lt_or_ge j k with h | h
    · exact nearD_mono (by omega) (by omega) (hyes.out (by omega) j h)
    · obtain rfl : j = k := by omega
      exact hy he
  by_cases hlt2 : e ≤ 64
  rotate_left
  · have hei : ¬ (e : Int) ≤ 64 := by omega
    go_wp2_with fail
    go_roundw
    case rel => exact ⟨k + 1, e, by first | rfl | go_num, by first | rfl | go_num, by omega, he65, hyE.out (fun h => absurd h hlt2), hnoE.out, hbv.out.trans (hbu.mono hzv4)⟩
    case measure => simp [intOf]; omega
  have hei : (e : Int) ≤ 64 := by omega
  have q1 : IntKind.i64.wrap ((e : Int) + 1) = ((e + 1 : Nat) : Int) := by rw [wi (by omega)]; omega
  obtain ⟨t1, ht1⟩ : ∃ t, t = withinB (clo K) (clo M) (e : Int) := ⟨_, rfl⟩
  obtain ⟨t2, ht2⟩ : ∃ t, t = withinB (clo M) (clo K) (e : Int) := ⟨_, rfl⟩
  have hD : ndJ Rs Fs (e : Int) k = (t1 && t2) := by rw [hndk.out, ht1, ht2]
  have d1 := Lib.hid (hg1.out e t1 hlt2 ht1)
  have d2 := Lib.hid (hg2.out e t2 hlt2 ht2)
  replace hD := Lib.hid hD
  replace ht1 := Lib.hid ht1
  replace ht2 := Lib.hid ht2
  clear hbu
  cases t1 with
  | false =>
    go_wp2_with (go_at_call 25; (with_reducible refine (d1.out _ hbuH.out).mono ?_); rintro e' w5 ⟨rfl, hb5⟩; replace hb5 := Lib.hid hb5)
    go_roundw
    case rel => exact ⟨e + 1, by first | rfl | go_num, by omega, by omega, fun j h1 h2 => by
      rcases Nat.lt_or_ge j e with h | h
      · exact hall.out j h1 h
      · obtain rfl : j = e := by omega
        exact hD.out, hb5.out⟩
    case measure => simp [intOf]; omega
  | true =>
    cases t2 with
    | false =>
      go_wp2_with (first | (go_at_call 25; (with_reducible refine (d1.out _ hbuH.out).mono ?_); rintro e' w5 ⟨rfl, hb5⟩; replace hb5 := Lib.hid hb5) | (go_at_call 25; (with_reducible refine (d2.out _ hb5.out).mono ?_); rintro e' w6 ⟨rfl, hb6⟩; replace hb6 := Lib.hid hb6))
      go_roundw
      case rel => exact ⟨e + 1, by first | rfl | go_num, by omega, by omega, fun j h1 h2 => by
        rcases Nat.lt_or_ge j e with h | h
        · exact hall.out j h1 h
        · obtain rfl : j = e := by omega
          exact hD.out, hb6.out⟩
      case measure => simp [intOf]; omega
    | true =>
      go_wp2_with (first | (go_at_call 25; (with_reducible refine (d1.out _ hbuH.out).mono ?_); rintro e' w5 ⟨rfl, hb5⟩; replace hb5 := Lib.hid hb5) | (go_at_call 25; (with_reducible refine (d2.out _ hb5.out).mono ?_); rintro e' w6 ⟨rfl, hb6⟩; replace hb6 := Lib.hid hb6))
      go_roundw
      case rel => exact ⟨k + 1, e, by first | rfl | go_num, by first | rfl | go_num, by omega, he65, hyE.out (fun _ => hD.out), hnoE.out, hbv.out.trans (hb6.out.mono hzv4)⟩
      case measure => simp [intOf]; omega
end Go.Proofs.YtgelkdcggnffeaaGreat

/- The law on fitted loops. Conditions: as it states. -/
namespace Go.Proofs.YtgelkdcggnffeaaGreat
open Go.RowKit
set_option linter.unusedVariables false
set_option maxRecDepth 100000

theorem specValidO_any (A : Option Addr) (n c lo hi : Nat) (Ls : List (List Knot)) (v : Bool) (hv : v = outOk Ls) (w : World) (hr : OutRd w lo hi A n Ls) (hhi : hi ≤ w.heap.size) (hn : n ≤ 1000000000) (hK : ∀ K ∈ Ls, K.length ≤ 1000000000) :
    Calls Tryz.prog 9 #[.agg #[.slice A n c]] w fun e w' => e = .returned (.bool v) ∧ Below w.heap.size w w' := by
  have hb0 := Go.Joins.below_alloc1 w (.cells #[.slice A n c] 31 (0, 0))
  have hc := Lib.hid (l10Ok_any w.heap.size A n c lo hi Ls v hv (w.alloc (.cells #[.slice A n c] 31 (0, 0))) (by simp) (by rw [Go.Joins.cell_of_block (heap_alloc_new w _)]; rfl) (hr.frame good_loop (Below.sameB hb0 hhi)) (by simp; omega) hn hK)
  clear hr hv
  go_enter Tryz.func9, Tryz.ntmps9
  go_wp2_with fail
  refine hc.out.mono ?_
  rintro e w1 ⟨rfl, hb1⟩
  have hB1 := hb0.trans (hb1.mono hb0.size)
  clear hb0 hb1
  go_wp2_with fail
  go_ret
  exact ⟨rfl, hB1⟩

set_option maxHeartbeats 16000000 in
theorem lawFitting_walk (A0 : Option Addr) (n0 c0 : Nat) (L0 : List Int) (A1 : Option Addr) (n1 c1 : Nat) (L1 : List Int) {w : World} (hr0 : RdS 1 u8R w 0 w.heap.size A0 n0 L0) (hm0 : n0 ≤ maxLen) (hr1 : RdS 1 u8R w 0 w.heap.size A1 n1 L1) (hm1 : n1 ≤ maxLen) :
    Calls Tryz.prog 3 #[.slice A0 n0 c0, .slice A1 n1 c1] w fun e w' => e = .returned (.bool true) ∧ Below w.heap.size w w' := by
  unfold maxLen at hm0 hm1
  obtain ⟨b, hb⟩ : ∃ b : Bool, b = (decide ((1048576 : Int) < (n0 : Int)) || decide ((1048576 : Int) < (n1 : Int))) := ⟨_, rfl⟩
  have hlong := Lib.hid (e8Long_any A0 A1 n0 c0 n1 c1 b hb w (by omega) (by omega))
  cases b
  rotate_left
  · clear hb hr0 hr1
    go_enter Tryz.func3, Tryz.ntmps3
    go_wp2_with fail
    refine hlong.out.mono ?_
    rintro e w' ⟨rfl, rfl⟩
    go_wp2_with fail
    go_ret
    exact ⟨rfl, Below.refl _ _⟩
  have hn0 : n0 ≤ 1048576 := by simp at hb; omega
  have hn1 : n1 ≤ 1048576 := by simp at hb; omega
  clear hb
  have hrnd := Lib.hid (E8Round_any A0 n0 c0 0 w.heap.size L0 w hr0 (Nat.le_refl _) (by omega))
  have hat := Lib.hid (fun (W : World) (hb : Below w.heap.size w W) => e8At_any A1 n1 c1 0 w.heap.size L1 0 12 W (hr1.frame good_u8 (Below.sameB hb (Nat.le_refl _))) (by omega) (by omega) (by omega) (by omega))
  clear hr0 hr1
  go_enter Tryz.func3, Tryz.ntmps3
  go_wp2_with fail
  refine hlong.out.mono ?_
  rintro e w' ⟨rfl, rfl⟩
  go_wp2_with fail
  refine hrnd.out.mono ?_
  rintro e w1 ⟨A, n, c, Rs, rfl, hown, hok, hb1⟩
  obtain ⟨hl40, hpath, _⟩ := regOk_is hok
  have hlen : Rs.length = n := hown.choose_spec.1
  have hsz : ∀ L ∈ Rs, L.length ≤ 1048576 := fun L hL => by obtain ⟨_, h, _⟩ := pathOk_is (hpath L hL); omega
  have hcap := hown.cap
  have hrd : RegRd w1 w.heap.size w1.heap.size A n Rs := hown.rd (fun L hL => Nat.le_trans (hsz L hL) (by decide))
  have hal := Go.Joins.below_alloc1 w1 (.cells #[.slice A n c] 26 (0, 0))
  have hX0 := Lib.hid (heap_alloc_new w1 (.cells #[.slice A n c] 26 (0, 0)))
  have hzX : (w1.alloc (.cells #[.slice A n c] 26 (0, 0))).heap.size = w1.heap.size + 1 := by simp
  have hrd2 := Lib.hid (hrd.frame good_ring (Below.sameB hal (Nat.le_refl _)))
  have hcap2 := Lib.hid (hcap.frame hrd (Below.sameB hal (Nat.le_refl _)))
  have hB2 := Lib.hid (hb1.trans (hal.mono hb1.size))
  have hz1 := hb1.size
  clear hrnd hlong hown hcap hrd hal hb1
  go_upto_region 4 with fail
  generalize w1.alloc (.cells #[.slice A n c] 26 (0, 0)) = w2 at *
  obtain ⟨X, hX⟩ : ∃ X, X = w1.heap.size := ⟨_, rfl⟩
  rw [← hX] at hX0 hrd2 ⊢
  have hXl : X < w2.heap.size := by omega
  have hXw : w.heap.size ≤ X := by omega
  have hz2w : w.heap.size ≤ w2.heap.size := by omega
  clear hzX hX
  go_wp2_with fail
  refine (hat.out w2 hB2.out).mono ?_
  rintro e w' ⟨r, rfl, hr0, hr12, rfl⟩
  obtain ⟨t, ht⟩ : ∃ t, t = 1 + r := ⟨_, rfl⟩
  have q1 : IntKind.i64.wrap (1 + r) = t := by rw [wi (by omega), ht]
  have ht0 : 1 ≤ t := by omega
  have ht12 : t ≤ 12 := by omega
  have hlaw := fit_law hok ht0 ht12
  have x2 : w2.cell? ⟨X, 0, none⟩ = some (.slice A n c) := by rw [Go.Joins.cell_of_block hX0.out]; rfl
  have hn40 : n ≤ 40 := by omega
  replace ht := Lib.hid ht
  replace hlen := Lib.hid hlen
  rcases hlaw with ⟨cd, hfg, hcd⟩ | ⟨Ls, hfg, hoo, hLl, hfe⟩
  · have himpl := Lib.hid (implFitRegion_any A n c w.heap.size X Rs t [] cd hfg w2 hrd2.out hcap2.out (by omega) (by omega) hsz)
    have hspec := Lib.hid (fun (W : World) (hB : Below w2.heap.size w2 W) => specFitRegion_any A n c w.heap.size X Rs t [] cd hfg W (hrd2.out.frame good_ring (Below.sameB hB (by omega))) (by have := hB.size; omega) (by omega) hsz)
    have hcd' : ¬ cd = 0 := hcd
    replace hfg := Lib.hid hfg
    go_wp2_with fail
    refine himpl.out.mono ?_
    rintro e w4 ⟨A4, c4, rfl, _, hb4⟩
    have hz4 := hb4.size
    have x4 : w4.cell? ⟨X, 0, none⟩ = some (.slice A n c) := (hb4.cell (p := ⟨X, 0, none⟩) hXl).trans x2
    have xl4 : X < w4.heap.size := by omega
    have hal4 := Go.Joins.below_alloc1 w4 (.cells #[.slice A4 ([] : List (List Knot)).length c4] 31 (0, 0))
    have hb5 := hb4.trans (hal4.mono hz4)
    have x5 := (hal4.cell (p := ⟨X, 0, none⟩) xl4).trans x4
    have xl5 : X < (w4.alloc (.cells #[.slice A4 ([] : List (List Knot)).length c4] 31 (0, 0))).heap.size := by simp; omega
    clear x2 x4 himpl
    go_upto_region 6 with fail
    generalize w4.alloc (.cells #[.slice A4 ([] : List (List Knot)).length c4] 31 (0, 0)) = w5 at *
    go_wp2_with fail
    refine (hspec.out _ hb5).mono ?_
    rintro e w6 ⟨A6, c6, rfl, _, hb6⟩
    go_wp2_with fail
    go_ret
    exact ⟨rfl, hB2.out.trans ((hb5.trans ((hb6.alloc (by have := hb6.size; omega) _).mono hb5.size)).mono hz2w)⟩
  have himpl := Lib.hid (implFitRegion_any A n c w.heap.size X Rs t Ls 0 hfg w2 hrd2.out hcap2.out (by omega) (by omega) hsz)
  obtain ⟨hL12, hflat⟩ := outOk_flat hoo
  have hLs : ∀ K ∈ Ls, K.length ≤ 1048576 := fun K hK => by have := (hflat K hK).2; omega
  replace hfg := Lib.hid hfg
  go_wp2_with fail
  refine himpl.out.mono ?_
  rintro e w4 ⟨A4, c4, rfl, ho4, hb4⟩
  obtain ⟨m, hm⟩ : ∃ m, m = Ls.length := ⟨_, rfl⟩
  rw [← hm] at ho4 ⊢
  have hmn : m = n := by rw [hm, hLl, hlen.out]
  subst hmn
  replace hm := Lib.hid hm
  have hz4 := hb4.size
  have hro := ho4.rd (fun K hK => Nat.le_trans (hLs K hK) (by decide))
  have hal4 := Go.Joins.below_alloc1 w4 (.cells #[.slice A4 m c4] 31 (0, 0))
  have hY0 := Lib.hid (heap_alloc_new w4 (.cells #[.slice A4 m c4] 31 (0, 0)))
  have hzY : (w4.alloc (.cells #[.slice A4 m c4] 31 (0, 0))).heap.size = w4.heap.size + 1 := by simp
  have hb5 := hb4.trans (hal4.mono hz4)
  have hro5 := Lib.hid (hro.frame good_loop (Below.sameB hal4 (Nat.le_refl _)))
  clear himpl ho4 hro hal4
  go_upto_region 6 with fail
  generalize w4.alloc (.cells #[.slice A4 m c4] 31 (0, 0)) = w5 at *
  obtain ⟨Y, hY⟩ : ∃ Y, Y = w4.heap.size := ⟨_, rfl⟩
  rw [← hY] at hY0 hro5 ⊢
  have hYl : Y < w5.heap.size := by omega
  have hXY : X < Y := by omega
  clear hzY hY
  have hz5 := hb5.size
  have hS := Lib.hid (fun (W : World) (hB : Below w5.heap.size w5 W) => (show W.cell? ⟨X, 0, none⟩ = some (.slice A m c) ∧ W.cell? ⟨Y, 0, none⟩ = some (.slice A4 m c4) ∧ RegRd W w.heap.size X A m Rs ∧ OutRd W w2.heap.size Y A4 m Ls ∧ X < W.heap.size ∧ Y < W.heap.size from ⟨(hB.cell (p := ⟨X, 0, none⟩) (by show X < _; omega)).trans ((hb5.cell (p := ⟨X, 0, none⟩) hXl).trans x2), (hB.cell (p := ⟨Y, 0, none⟩) hYl).trans (by rw [Go.Joins.cell_of_block hY0.out]; rfl), hrd2.out.frame good_ring (Below.sameB (hb5.trans (hB.mono hz5)) (by omega)), hro5.out.frame good_loop (Below.sameB hB (by omega)), by have := hB.size; omega, by have := hB.size; omega⟩))
  have hB5 := Lib.hid (hB2.out.trans (hb5.mono hz2w))
  have hval := Lib.hid (fun (W : World) (hB : Below w5.heap.size w5 W) => specValidO_any A4 m c4 w2.heap.size Y Ls true hoo.symm W (hS.out W hB).2.2.2.1 (by have := hB.size; omega) (by omega) (fun K hK => by have := hLs K hK; omega))
  clear x2
  obtain ⟨p5, q5, _, _, pl5, ql5⟩ := hS.out w5 (Below.refl _ _)
  go_wp2_with fail
  refine (hval.out w5 (Below.refl _ _)).mono ?_
  rintro e w6 ⟨rfl, hb6⟩
  obtain ⟨p6, q6, _, _, pl6, ql6⟩ := hS.out w6 hb6
  have hz6 := hb6.size
  clear p5 q5 hval
  rcases hfe with hfe | ⟨d, hfe, hd⟩
  · have hie := Lib.hid (fun (W : World) (hB : Below w5.heap.size w5 W) => implFitError_any A A4 m c m c4 w.heap.size X w2.heap.size Y Rs Ls 0 5 hfe W (hS.out W hB).2.2.1 (hS.out W hB).2.2.2.1 (by have := hB.size; omega) (by have := hB.size; omega) (by omega) (by omega) hsz hLs)
    have hse := Lib.hid (fun (W : World) (hB : Below w5.heap.size w5 W) => specFitError_any A A4 m c m c4 w.heap.size X w2.heap.size Y Rs Ls 0 5 hfe W (hS.out W hB).2.2.1 (hS.out W hB).2.2.2.1 (by have := hB.size; omega) (by have := hB.size; omega) (by omega) (by omega) hsz hLs)
    replace hfe := Lib.hid hfe
    replace hoo := Lib.hid hoo
    replace hok := Lib.hid hok
    go_wp2_with fail
    refine (hie.out w6 hb6).mono ?_
    rintro e w7 ⟨rfl, hb7⟩
    have hb67 := hb6.trans (hb7.mono hz6)
    obtain ⟨p7, q7, _, _, pl7, ql7⟩ := hS.out w7 hb67
    clear p6 q6
    go_wp2_with fail
    refine (hse.out w7 hb67).mono ?_
    rintro e w8 ⟨rfl, hb8⟩
    go_wp2_with fail
    go_ret
    exact ⟨rfl, hB5.out.trans ((hb67.trans (hb8.mono hb67.size)).mono (by omega))⟩
  · have hie := Lib.hid (fun (W : World) (hB : Below w5.heap.size w5 W) => implFitError_any A A4 m c m c4 w.heap.size X w2.heap.size Y Rs Ls d 0 hfe W (hS.out W hB).2.2.1 (hS.out W hB).2.2.2.1 (by have := hB.size; omega) (by have := hB.size; omega) (by omega) (by omega) hsz hLs)
    have hd0 : (0 : Int) ≤ (d : Int) := by omega
    replace hfe := Lib.hid hfe
    replace hoo := Lib.hid hoo
    replace hok := Lib.hid hok
    go_wp2_with fail
    refine (hie.out w6 hb6).mono ?_
    rintro e w7 ⟨rfl, hb7⟩
    have hb67 := hb6.trans (hb7.mono hz6)
    clear p6 q6
    go_wp2_with fail
    go_ret
    exact ⟨by first | rfl | simp [hd, hd0], hB5.out.trans (hb67.mono (by omega))⟩
end Go.Proofs.YtgelkdcggnffeaaGreat

