/- Whether all points of a region's rings are near those of another one; the distance, the reference's side. Conditions: as each states. -/
import Derived.Test.YtgelkdcggnffeaaGreatFtg44
namespace Go.Proofs.YtgelkdcggnffeaaGreat
open Go.RowKit
set_option linter.unusedVariables false
set_option maxRecDepth 100000

theorem clo_ok {L : List Pnt} (h : pathOk L = true) : ∀ p ∈ clo L, ptOk p.1 p.2 = true := by
  obtain ⟨h1, _, h3⟩ := pathOk_is h
  intro p hp
  unfold clo at hp
  rcases List.mem_append.1 hp with hp | hp
  · exact h3 p hp
  · rw [List.mem_singleton] at hp
    subst hp
    exact h3 _ (List.mem_of_getElem? (ptAt_some h1))
/-- the points of ring j of a region are near ring j of another one -/
def nearJ (Rs Fs : List (List Pnt)) (d : Int) (j : Nat) : Bool := withinB (Rs.getD j []) (clo (Fs.getD j [])) d
theorem nj_yes {f : Nat → Bool} {n : Nat} (h : ∀ j, j < n → f j = true) : (List.range n).all f = true := List.all_eq_true.2 fun j hj => h j (List.mem_range.1 hj)
theorem nj_no {f : Nat → Bool} {n j : Nat} (hj : j < n) (h : f j = false) : (List.range n).all f = false := List.all_eq_false.2 ⟨j, List.mem_range.2 hj, by simp [h]⟩
theorem getD_at {Rs : List (List Pnt)} {j : Nat} {K : List Pnt} (h : Rs[j]? = some K) : Rs.getD j [] = K := by rw [List.getD_eq_getElem?_getD, h]; rfl
theorem allD_is (Rs Fs : List (List Pnt)) (d : Int) : allD Rs Fs d = ((List.range Rs.length).all (nearJ Rs Fs d) && (List.range Rs.length).all (nearJ Fs Rs d)) := by
  unfold allD nearD nearJ
  generalize List.range Rs.length = R
  induction R with
  | nil => rfl
  | cons a R ih =>
    simp only [List.all_cons, ih]
    cases withinB (Rs.getD a []) (clo (Fs.getD a [])) d <;> cases withinB (Fs.getD a []) (clo (Rs.getD a [])) d <;> simp

set_option maxHeartbeats 8000000 in
theorem l16All_any (p q : Nat) (A A' : Option Addr) (n c c' lo hi lo' hi' : Nat) (Rs Fs : List (List Pnt)) (d : Int) (v : Bool) (hv : v = (List.range n).all (nearJ Rs Fs d)) (w : World) (hp : w.cell? ⟨p, 0, none⟩ = some (.slice A n c)) (hq : w.cell? ⟨q, 0, none⟩ = some (.slice A' n c'))
    (hr : RegRd w lo hi A n Rs) (hf : RegRd w lo' hi' A' n Fs) (hhi : hi ≤ w.heap.size) (hhi' : hi' ≤ w.heap.size) (hn : n ≤ 1000) (hR : ∀ L ∈ Rs, pathOk L = true) (hF : ∀ L ∈ Fs, pathOk L = true) (h0 : 0 ≤ d) (h1 : d ≤ 262144) :
    Calls Tryz.prog 27 #[.pointer (some ⟨p, 0, none⟩), .pointer (some ⟨q, 0, none⟩), .int .i64 d] w fun e w' => e = .returned (.bool v) ∧ Below w.heap.size w w' := by
  have hpl := cell_lt hp
  have hql := cell_lt hq
  have hpH := Lib.hid hp
  have hqH := Lib.hid hq
  replace hr := Lib.hid hr
  replace hf := Lib.hid hf
  replace hv := Lib.hid hv
  clear hp hq
  go_enter Tryz.func27, Tryz.ntmps27
  go_wp2_with fail
  go_loopw [7] (fun iv wr => ∃ k : Nat, iv = .int .i64 k ∧ k ≤ n ∧ (∀ j, j < k → nearJ Rs Fs d j = true) ∧ Below w.heap.size w wr) (fun iv wr => n - (intOf iv).toNat)
  case atStart => exact ⟨0, rfl, Nat.zero_le _, fun j hj => absurd hj (Nat.not_lt_zero j), Below.refl _ _⟩
  case round =>
  obtain ⟨k, rfl, hk, hall, hbel⟩ := hrel
  generalize wr = xr at *
  have hzx := hbel.size
  have px := (hbel.cell (p := ⟨p, 0, none⟩) hpl).trans hpH.out
  have qx := (hbel.cell (p := ⟨q, 0, none⟩) hql).trans hqH.out
  have plx : p < xr.heap.size := Nat.lt_of_lt_of_le hpl hzx
  have qlx : q < xr.heap.size := Nat.lt_of_lt_of_le hql hzx
  replace hall := Lib.hid hall
  by_cases hlt : k < n
  rotate_left
  · have hkn : k = n := by omega
    have hki : ¬ (k : Int) < (n : Int) := by omega
    have hvt : v = true := by rw [hv.out]; exact nj_yes fun j hj => hall.out j (by omega)
    subst hvt
    replace hkn := Lib.hid hkn
    go_wp2_with fail
    go_ret
    exact ⟨rfl, hbel⟩
  have hki : (k : Int) < (n : Int) := by omega
  have i1 : (0 : Int) ≤ (k : Int) ∧ (k : Int) < (n : Int) := by omega
  obtain ⟨b, off, K, A2, n2, c2, rfl, hb0, hb, hja, q0, hm, hrk⟩ := reg_at (hr.out.frame good_ring (Below.sameB hbel hhi)) hlt
  obtain ⟨b', off', M, A3, n3, c3, rfl, hb0', hb', hja', q0', hm', hrm⟩ := reg_at (hf.out.frame good_ring (Below.sameB hbel hhi')) hlt
  have hbw : b < xr.heap.size := by omega
  have hbw' : b' < xr.heap.size := by omega
  have hKok := hR K (List.mem_of_getElem? hja)
  have hMok := hF M (List.mem_of_getElem? hja')
  obtain ⟨k1, k2, k3⟩ := pathOk_is hKok
  obtain ⟨m1, m2, m3⟩ := pathOk_is hMok
  have hnK := hrk.1
  have hnM := hrm.1
  obtain ⟨t, ht⟩ : ∃ t, t = withinB K (clo M) d := ⟨_, rfl⟩
  have hst : nearJ Rs Fs d k = t := by unfold nearJ; rw [getD_at hja, getD_at hja', ht]
  have hS := Lib.hid (fun (W : World) (hB : Below xr.heap.size xr W) => (show W.cell? ⟨p, 0, none⟩ = some (.slice (some ⟨b, off, none⟩) n c) ∧ W.cell? ⟨q, 0, none⟩ = some (.slice (some ⟨b', off', none⟩) n c') ∧ W.cell? ⟨b, off + k, none⟩ = some (.slice A2 n2 c2) from ⟨(hB.cell (p := ⟨p, 0, none⟩) plx).trans px, (hB.cell (p := ⟨q, 0, none⟩) qlx).trans qx, (hB.cell (p := ⟨b, off + k, none⟩) hbw).trans q0⟩))
  have hc1 : Hid (∀ W, Below xr.heap.size xr W → Calls Tryz.prog 50 #[.pointer (some ⟨b', off' + k, none⟩)] W fun e w' => ∃ A4 c4, e = .returned (.slice A4 (n3 + 1) c4) ∧ RdS 2 (FlatR ptC) w' xr.heap.size w'.heap.size A4 (n3 + 1) (clo M) ∧ Below xr.heap.size xr w') := by
    refine Lib.hid fun W hB => (l16Closed_any b' (off' + k) A3 n3 c3 lo' hi' M W ((hB.cell (p := ⟨b', off' + k, none⟩) hbw').trans q0') (hrm.frame (good_flat _) (Below.sameB hB (by omega))) (by have := hB.size; omega) (by omega) (by omega)).mono ?_
    rintro e w' ⟨A4, c4, he, ho, hb2⟩
    exact ⟨A4, c4, he, rdS_own ptC_len (by omega) (own_lower ho hB.size) (by rw [clo_len]; omega), hB.trans (hb2.mono hB.size)⟩
  have hc2 : Hid (∀ W A4 c4, Below xr.heap.size xr W → RdS 2 (FlatR ptC) W xr.heap.size W.heap.size A4 (n3 + 1) (clo M) → Calls Tryz.prog 49 #[.slice A2 n2 c2, .slice A4 (n3 + 1) c4, .int .i64 d] W fun e w' => e = .returned (.bool t) ∧ Below xr.heap.size xr w') := by
    refine Lib.hid fun W A4 c4 hB hm4 => (l16Within_any A2 A4 n2 c2 (n3 + 1) c4 lo hi xr.heap.size W.heap.size K (clo M) d t ht W (hrk.frame (good_flat _) (Below.sameB hB (by omega))) hm4 (by have := hB.size; omega) (Nat.le_refl _) (by omega) (by omega) (by omega) k3 (clo_ok hMok) h0 h1).mono ?_
    rintro e w' ⟨he, hb2⟩
    exact ⟨he, hB.trans (hb2.mono hB.size)⟩
  replace hst := Lib.hid hst
  replace ht := Lib.hid ht
  replace hrk := Lib.hid hrk
  replace hrm := Lib.hid hrm
  replace hja := Lib.hid hja
  replace hja' := Lib.hid hja'
  replace hnK := Lib.hid hnK
  replace hnM := Lib.hid hnM
  clear hm hm' hb0 hb hb0' hb' k1 k2 k3 m1 m2 m3 hKok hMok
  go_wp2_with fail
  go_region_held3 (fun w' => w'.cell? ⟨p, 0, none⟩ = some (.slice (some ⟨b, off, none⟩) n c) ∧ w'.cell? ⟨q, 0, none⟩ = some (.slice (some ⟨b', off', none⟩) n c') ∧ w'.cell? ⟨b, off + k, none⟩ = some (.slice A2 n2 c2)) (first | (with_reducible exact sE.out) | (with_reducible exact sQ.out) | (exact hS.out _ (Below.drew (Below.refl _ _)))) (first | (go_at_call 50; (with_reducible refine (hc1.out _ ?_).mono ?_); (exact Below.drew (Below.refl _ _)); rintro e w4 ⟨A4, c4, rfl, hr4, hbQ⟩; have sQ := Lib.hid (hS.out w4 hbQ); replace hr4 := Lib.hid hr4; replace hbQ := Lib.hid hbQ) | (go_at_call 49; (with_reducible refine (hc2.out _ _ _ hbQ.out hr4.out).mono ?_); rintro e w5 ⟨rfl, hb5⟩; have sE := Lib.hid (hS.out w5 hb5); replace hb5 := Lib.hid hb5))
  all_goals
    cases t with
    | false =>
      have hvf : v = false := by rw [hv.out]; exact nj_no hlt hst.out
      subst hvf
      go_wp2_with fail
      go_ret
      exact ⟨rfl, hbel.trans (hb5.out.mono hzx)⟩
    | true =>
      go_wp2_with fail
      go_roundw
      case rel => exact ⟨k + 1, by go_num, by omega, fun j hj => by
        rcases Nat.lt_or_ge j k with h | h
        · exact hall.out j h
        · obtain rfl : j = k := by omega
          exact hst.out, hbel.trans (hb5.out.mono hzx)⟩
      case measure => simp [intOf]; omega

theorem flatO_ok {Ls : List (List Knot)} {Fs : List (List Pnt)} (h : flatO Ls = some Fs) : regOk Fs = true := by
  unfold flatO at h
  cases hr : ringsL Ls with
  | none => rw [hr] at h; cases h
  | some Rs =>
    rw [hr] at h
    simp only at h
    split at h
    · rename_i hok
      injection h with h
      rw [← h]; exact hok
    · cases h
theorem feR_bad {Rs : List (List Pnt)} {Ls : List (List Knot)} {o : Bool} (h : regOk Rs = false ∨ o = false ∨ Rs.length ≠ Ls.length) : feR Rs Ls o = (0, 1) := by unfold feR; rw [if_pos h]
theorem feR_good {Rs : List (List Pnt)} {Ls : List (List Knot)} (h1 : regOk Rs = true) (h3 : Rs.length = Ls.length) : feR Rs Ls true = match flatO Ls with
    | none => (0, 5)
    | some Fs => match leastD Rs Fs with | none => (0, 2) | some d => ((d : Int), 0) := by
  have hn : ¬ (regOk Rs = false ∨ true = false ∨ Rs.length ≠ Ls.length) := by
    rintro (h | h | h)
    · rw [h1] at h; cases h
    · cases h
    · exact h h3
  unfold feR
  rw [if_neg hn]
  cases flatO Ls <;> rfl

set_option maxHeartbeats 8000000 in
theorem specFitError_any (A B : Option Addr) (n c m c' lo hi lo' hi' : Nat) (Rs : List (List Pnt)) (Ls : List (List Knot)) (x y : Int) (hxy : feR Rs Ls (outOk Ls) = (x, y)) (w : World) (hr : RegRd w lo hi A n Rs) (ho : OutRd w lo' hi' B m Ls) (hhi : hi ≤ w.heap.size) (hhi' : hi' ≤ w.heap.size) (hn : n ≤ 1048576) (hm : m ≤ 1048576) (hs : ∀ L ∈ Rs, L.length ≤ 1048576) (hs' : ∀ K ∈ Ls, K.length ≤ 1048576) :
    Calls Tryz.prog 11 #[.agg #[.slice A n c], .agg #[.slice B m c']] w fun e w' => e = .returned (.tuple #[.int .i64 x, .int .i64 y]) ∧ Below w.heap.size w w' := by
  have hnR := hr.1
  have hnO := ho.1
  have hb0 := Go.Joins.below_alloc2 w (.cells #[.slice A n c] 26 (0, 0)) (.cells #[.slice B m c'] 31 (0, 0))
  have hz0 : ((w.alloc (.cells #[.slice A n c] 26 (0, 0))).alloc (.cells #[.slice B m c'] 31 (0, 0))).heap.size = w.heap.size + 2 := by simp
  have hnew := heap_new2 w (.cells #[.slice A n c] 26 (0, 0)) (.cells #[.slice B m c'] 31 (0, 0))
  have hr0 := Lib.hid (hr.frame good_ring (Below.sameB hb0 hhi))
  have ho0 := Lib.hid (ho.frame good_loop (Below.sameB hb0 hhi'))
  have hP0 := Lib.hid hnew.1
  have hQ0 := Lib.hid hnew.2
  obtain ⟨v1, hv1⟩ : ∃ v, v = regOk Rs := ⟨_, rfl⟩
  obtain ⟨v2, hv2⟩ : ∃ v, v = outOk Ls := ⟨_, rfl⟩
  rw [← hv2] at hxy
  clear hr ho hnew
  go_enter Tryz.func11, Tryz.ntmps11
  go_upto_region 1 with fail
  generalize ((w.alloc (.cells #[.slice A n c] 26 (0, 0))).alloc (.cells #[.slice B m c'] 31 (0, 0))) = w0 at *
  obtain ⟨P, hP⟩ : ∃ P, P = w.heap.size := ⟨_, rfl⟩
  obtain ⟨Q, hQ⟩ : ∃ Q, Q = w.heap.size + 1 := ⟨_, rfl⟩
  rw [← hQ] at hQ0 ⊢
  have hPl : w.heap.size < w0.heap.size := by omega
  have hQl : Q < w0.heap.size := by omega
  have hzw : w.heap.size ≤ w0.heap.size := by omega
  have hhi0 : hi ≤ w0.heap.size := by omega
  have hhi0' : hi' ≤ w0.heap.size := by omega
  clear hz0 hP hQ
  have p0 : w0.cell? ⟨w.heap.size, 0, none⟩ = some (.slice A n c) := by rw [Go.Joins.cell_of_block hP0.out]; rfl
  have q0 : w0.cell? ⟨Q, 0, none⟩ = some (.slice B m c') := by rw [Go.Joins.cell_of_block hQ0.out]; rfl
  have hc1 := Lib.hid (l13Ok_any w.heap.size 0 A n c lo hi Rs v1 hv1 w0 p0 hr0.out hhi0 hn hs)
  have hc2 : Hid (∀ W, Below w0.heap.size w0 W → Calls Tryz.prog 21 #[.pointer (some ⟨Q, 0, none⟩)] W fun e w' => e = .returned (.bool v2) ∧ Below w0.heap.size w0 w') := Lib.hid fun W hB => (l10Ok_any Q B m c' lo' hi' Ls v2 hv2 W (Nat.lt_of_lt_of_le hQl hB.size) ((hB.cell (p := ⟨Q, 0, none⟩) hQl).trans q0) (ho0.out.frame good_loop (Below.sameB hB hhi0')) (Nat.le_trans hhi0' hB.size) (by omega) (fun K hK => by have := hs' K hK; omega)).mono fun e w' ⟨he, hb⟩ => ⟨he, hB.trans (hb.mono hB.size)⟩
  cases v1 with
  | false =>
    have hxy2 : (0, 1) = (x, y) := by rw [← hxy]; exact (feR_bad (.inl hv1.symm)).symm
    injection hxy2 with e1 e2
    subst e1 e2
    replace hv1 := Lib.hid hv1
    replace hv2 := Lib.hid hv2
    replace hxy := Lib.hid hxy
    go_wp2_with (go_at_call 15; refine hc1.out.mono ?_; rintro e w1 ⟨rfl, hb1⟩; replace hb1 := Lib.hid hb1)
    go_ret2
    exact ⟨rfl, hb0.trans (hb1.out.mono hzw)⟩
  | true =>
  cases v2 with
  | false =>
    have hxy2 : (0, 1) = (x, y) := by rw [← hxy]; exact (feR_bad (.inr (.inl rfl))).symm
    injection hxy2 with e1 e2
    subst e1 e2
    replace hv1 := Lib.hid hv1
    replace hv2 := Lib.hid hv2
    replace hxy := Lib.hid hxy
    go_wp2_with (first | (go_at_call 15; refine hc1.out.mono ?_; rintro e w1 ⟨rfl, hb1⟩; replace hb1 := Lib.hid hb1) | (go_at_call 21; refine (hc2.out _ hb1.out).mono ?_; rintro e w2 ⟨rfl, hb2⟩; replace hb2 := Lib.hid hb2))
    go_ret2
    exact ⟨rfl, hb0.trans (hb2.out.mono hzw)⟩
  | true =>
  have hcs := Lib.hid (fun (W : World) (hB : Below w0.heap.size w0 W) => And.intro ((hB.cell (p := ⟨w.heap.size, 0, none⟩) hPl).trans p0) ((hB.cell (p := ⟨Q, 0, none⟩) hQl).trans q0))
  by_cases hnm : n = m
  rotate_left
  · have hxy2 : (0, 1) = (x, y) := by rw [← hxy]; exact (feR_bad (.inr (.inr (by rw [hnR, hnO]; exact hnm)))).symm
    injection hxy2 with e1 e2
    subst e1 e2
    have hne : ¬ (n : Int) = (m : Int) := by omega
    replace hnm := Lib.hid hnm
    replace hnR := Lib.hid hnR
    replace hnO := Lib.hid hnO
    replace hv1 := Lib.hid hv1
    replace hv2 := Lib.hid hv2
    replace hxy := Lib.hid hxy
    go_wp2_with (first | (go_at_call 15; refine hc1.out.mono ?_; rintro e w1 ⟨rfl, hb1⟩; replace hb1 := Lib.hid hb1) | (go_at_call 21; refine (hc2.out _ hb1.out).mono ?_; rintro e w2 ⟨rfl, hb2⟩; obtain ⟨p2, q2⟩ := hcs.out _ hb2; have pl2 := Nat.lt_of_lt_of_le hPl hb2.size; have ql2 := Nat.lt_of_lt_of_le hQl hb2.size; replace hb2 := Lib.hid hb2))
    go_ret2
    exact ⟨rfl, hb0.trans (hb2.out.mono hzw)⟩
  subst hnm
  have hxyg := hxy
  rw [feR_good hv1.symm (by rw [hnR, hnO])] at hxyg
  obtain ⟨hn40, hRp, _⟩ := regOk_is hv1.symm
  obtain ⟨hm12, hfl⟩ := outOk_flat hv2.symm
  have hn12 : n ≤ 12 := by omega
  have hreg : Hid (∀ W, Below w0.heap.size w0 W → Calls Tryz.prog 26 #[.pointer (some ⟨Q, 0, none⟩), .int .i64 1] W fun e w' => ∃ W0, W0 = W ∧ RegnTo (flatO Ls) n W0 e w' ∧ Below w0.heap.size w0 w') := Lib.hid fun W hB => (l10Region_any Q 0 B n c' lo' hi' Ls W ((hB.cell (p := ⟨Q, 0, none⟩) hQl).trans q0) (ho0.out.frame good_loop (Below.sameB hB hhi0')) (Nat.le_trans hhi0' hB.size) (by omega) (fun K hK => (hfl K hK).1)).mono fun e w' ⟨he, hb⟩ => ⟨W, rfl, he, hB.trans (hb.mono hB.size)⟩
  replace hv1 := Lib.hid hv1
  replace hv2 := Lib.hid hv2
  replace hxy := Lib.hid hxy
  replace hxyg := Lib.hid hxyg
  replace hnR := Lib.hid hnR
  replace hnO := Lib.hid hnO
  go_upto_region 3 with (first | (go_at_call 15; refine hc1.out.mono ?_; rintro e w1 ⟨rfl, hb1⟩; replace hb1 := Lib.hid hb1) | (go_at_call 21; refine (hc2.out _ hb1.out).mono ?_; rintro e w2 ⟨rfl, hb2⟩; obtain ⟨p2, q2⟩ := hcs.out _ hb2; have pl2 := Nat.lt_of_lt_of_le hPl hb2.size; have ql2 := Nat.lt_of_lt_of_le hQl hb2.size; replace hb2 := Lib.hid hb2))
  clear p0 q0 p2 q2 hc1 hc2
  go_wp2_with fail
  refine (hreg.out _ hb2.out).mono ?_
  rintro e w3 ⟨W0, rfl, ⟨hno, A3, m3, c3, rfl⟩ | ⟨Fs, A3, c3, hFs, rfl, hown, hlen⟩, hb3⟩
  · have h := hxyg.out
    rw [hno] at h
    injection h with e1 e2
    subst e1 e2
    replace hno := Lib.hid hno
    have hz3 := hb3.size
    go_wp2_with fail
    go_ret2
    exact ⟨rfl, hb0.trans ((hb3.alloc hz3 _).mono hzw)⟩
  have hFok := flatO_ok hFs
  obtain ⟨_, hFp, _⟩ := regOk_is hFok
  have h := hxyg.out
  rw [hFs] at h
  simp only at h
  have hres := Lib.hid h
  clear h
  have hnF : Fs.length = n := hown.choose_spec.1
  have hz3 := hb3.size
  have hrF : Hid (RegRd w3 W0.heap.size w3.heap.size A3 n Fs) := Lib.hid (hown.rd (fun K hK => Nat.le_trans (hlen K hK) (by decide)))
  have hal := Go.Joins.below_alloc1 w3 (.cells #[.slice A3 n c3] 26 (0, 0))
  have hZ0 := Lib.hid (heap_alloc_new w3 (.cells #[.slice A3 n c3] 26 (0, 0)))
  have hzZ : (w3.alloc (.cells #[.slice A3 n c3] 26 (0, 0))).heap.size = w3.heap.size + 1 := by simp
  have hb4 := hb3.trans (hal.mono hz3)
  have hrF4 := Lib.hid (hrF.out.frame good_ring (Below.sameB hal (Nat.le_refl _)))
  replace hFs := Lib.hid hFs
  clear hown hlen hal hrF hreg
  go_upto_region 4 with fail
  generalize w3.alloc (.cells #[.slice A3 n c3] 26 (0, 0)) = w4 at *
  have hl4 : w3.heap.size < w4.heap.size := by omega
  have hz40 : w0.heap.size ≤ w4.heap.size := by omega
  clear hzZ
  have z4 : w4.cell? ⟨w3.heap.size, 0, none⟩ = some (.slice A3 n c3) := by rw [Go.Joins.cell_of_block hZ0.out]; rfl
  obtain ⟨p4, q4⟩ := hcs.out _ hb4
  have hpl4 : w.heap.size < w4.heap.size := by omega
  have hr4 := Lib.hid (hr0.out.frame good_ring (Below.sameB hb4 hhi0))
  have hA : Hid (∀ (k : Int) (t : Bool), 0 ≤ k → k ≤ 64 → t = (List.range n).all (nearJ Rs Fs k) → ∀ W, Below w4.heap.size w4 W → Calls Tryz.prog 27 #[.pointer (some ⟨w.heap.size, 0, none⟩), .pointer (some ⟨w3.heap.size, 0, none⟩), .int .i64 k] W fun e w' => e = .returned (.bool t) ∧ Below w4.heap.size w4 w') := Lib.hid fun k t hk0 hk1 ht W hB => (l16All_any w.heap.size w3.heap.size A A3 n c c3 lo hi W0.heap.size w3.heap.size Rs Fs k t ht W ((hB.cell (p := ⟨w.heap.size, 0, none⟩) hpl4).trans p4) ((hB.cell (p := ⟨w3.heap.size, 0, none⟩) hl4).trans z4) (hr4.out.frame good_ring (Below.sameB hB (by omega))) (hrF4.out.frame good_ring (Below.sameB hB (by omega))) (by have := hB.size; omega) (by have := hB.size; omega) (by omega) hRp hFp hk0 (by omega)).mono fun e w' ⟨he, hb⟩ => ⟨he, hB.trans (hb.mono hB.size)⟩
  have hA2 : Hid (∀ (k : Int) (t : Bool), 0 ≤ k → k ≤ 64 → t = (List.range n).all (nearJ Fs Rs k) → ∀ W, Below w4.heap.size w4 W → Calls Tryz.prog 27 #[.pointer (some ⟨w3.heap.size, 0, none⟩), .pointer (some ⟨w.heap.size, 0, none⟩), .int .i64 k] W fun e w' => e = .returned (.bool t) ∧ Below w4.heap.size w4 w') := Lib.hid fun k t hk0 hk1 ht W hB => (l16All_any w3.heap.size w.heap.size A3 A n c3 c W0.heap.size w3.heap.size lo hi Fs Rs k t ht W ((hB.cell (p := ⟨w3.heap.size, 0, none⟩) hl4).trans z4) ((hB.cell (p := ⟨w.heap.size, 0, none⟩) hpl4).trans p4) (hrF4.out.frame good_ring (Below.sameB hB (by omega))) (hr4.out.frame good_ring (Below.sameB hB (by omega))) (by have := hB.size; omega) (by have := hB.size; omega) (by omega) hFp hRp hk0 (by omega)).mono fun e w' ⟨he, hb⟩ => ⟨he, hB.trans (hb.mono hB.size)⟩
  clear z4 p4 q4
  have hB4 := Lib.hid (hb0.trans (hb4.mono hzw))
  have hz4w : w.heap.size ≤ w4.heap.size := by omega
  go_wp2_with fail
  go_loopw [8] (fun iv wr => ∃ k : Nat, iv = .int .i64 k ∧ k ≤ 65 ∧ (∀ j : Nat, j < k → allD Rs Fs (j : Int) = false) ∧ Below w4.heap.size w4 wr) (fun iv wr => 65 - (intOf iv).toNat)
  case atStart => exact ⟨0, rfl, Nat.zero_le _, fun j hj => absurd hj (Nat.not_lt_zero j), Below.refl _ _⟩
  case round =>
  obtain ⟨k, rfl, hk, hall, hbel⟩ := hrel
  generalize wr = xr at *
  replace hall := Lib.hid hall
  by_cases hlt : k ≤ 64
  rotate_left
  · have hki : ¬ (k : Int) ≤ 64 := by omega
    have hno := leastD_none (fun j hj => hall.out j (by omega))
    have h := hres.out
    rw [hno] at h
    injection h with e1 e2
    subst e1 e2
    replace hno := Lib.hid hno
    go_wp2_with fail
    go_ret2
    exact ⟨rfl, hB4.out.trans (hbel.mono hz4w)⟩
  have hki : (k : Int) ≤ 64 := by omega
  have q1 : IntKind.i64.wrap ((k : Int) + 1) = ((k + 1 : Nat) : Int) := by rw [wi (by omega)]; omega
  obtain ⟨t1, ht1⟩ : ∃ t, t = (List.range n).all (nearJ Rs Fs k) := ⟨_, rfl⟩
  obtain ⟨t2, ht2⟩ : ∃ t, t = (List.range n).all (nearJ Fs Rs k) := ⟨_, rfl⟩
  have hD : allD Rs Fs (k : Int) = (t1 && t2) := by rw [allD_is, hnR.out, ht1, ht2]
  have d1 := Lib.hid (hA.out k t1 (by omega) hki ht1)
  have d2 := Lib.hid (hA2.out k t2 (by omega) hki ht2)
  replace hD := Lib.hid hD
  replace ht1 := Lib.hid ht1
  replace ht2 := Lib.hid ht2
  have hb4x := Lib.hid hbel
  cases t1 with
  | false =>
    go_wp2_with (go_at_call 27; (with_reducible refine (d1.out _ hb4x.out).mono ?_); rintro e w5 ⟨rfl, hb5⟩; replace hb5 := Lib.hid hb5)
    go_roundw
    case rel => exact ⟨k + 1, by first | rfl | go_num, by omega, fun j hj => by
      rcases Nat.lt_or_ge j k with h | h
      · exact hall.out j h
      · obtain rfl : j = k := by omega
        exact hD.out, hb5.out⟩
    case measure => simp [intOf]; omega
  | true =>
    cases t2 with
    | false =>
      go_wp2_with (first | (go_at_call 27; (with_reducible refine (d1.out _ hb4x.out).mono ?_); rintro e w5 ⟨rfl, hb5⟩; replace hb5 := Lib.hid hb5) | (go_at_call 27; (with_reducible refine (d2.out _ hb5.out).mono ?_); rintro e w6 ⟨rfl, hb6⟩; replace hb6 := Lib.hid hb6))
      go_roundw
      case rel => exact ⟨k + 1, by first | rfl | go_num, by omega, fun j hj => by
        rcases Nat.lt_or_ge j k with h | h
        · exact hall.out j h
        · obtain rfl : j = k := by omega
          exact hD.out, hb6.out⟩
      case measure => simp [intOf]; omega
    | true =>
      have hyes := leastD_some (by omega) hall.out hD.out
      have h := hres.out
      rw [hyes] at h
      injection h with e1 e2
      subst e1 e2
      replace hyes := Lib.hid hyes
      go_wp2_with (first | (go_at_call 27; (with_reducible refine (d1.out _ hb4x.out).mono ?_); rintro e w5 ⟨rfl, hb5⟩; replace hb5 := Lib.hid hb5) | (go_at_call 27; (with_reducible refine (d2.out _ hb5.out).mono ?_); rintro e w6 ⟨rfl, hb6⟩; replace hb6 := Lib.hid hb6))
      go_ret2
      exact ⟨rfl, hB4.out.trans (hb6.out.mono hz4w)⟩
end Go.Proofs.YtgelkdcggnffeaaGreat

