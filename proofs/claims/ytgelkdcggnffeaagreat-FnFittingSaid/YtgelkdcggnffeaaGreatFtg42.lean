/- The segments of a loop. Printed by mk_sg1.py. Conditions: as each states. -/
import Derived.Test.YtgelkdcggnffeaaGreatFtg38
import Derived.Test.YtgelkdcggnffeaaGreatFtg41
namespace Go.Proofs.YtgelkdcggnffeaaGreat
open Go.RowKit
set_option linter.unusedVariables false
set_option maxRecDepth 100000

theorem elemSeg : Elem Tryz.prog 121 124 7 56 := elem_mk (z := .agg #[.int .i64 0, .int .i64 0, .int .i64 0, .int .i64 0, .int .i64 0, .int .i64 0, .bool false]) Tryz.underlying121 (by kernel_rfl) rfl (by omega)

set_option maxHeartbeats 16000000 in
theorem segmentsOf_any (A : Option Addr) (n c lo hi : Nat) (K : List Knot) (w : World) (hr : RdS 3 (FlatR knotC) w lo hi A n K) (hhi : hi ≤ w.heap.size) (hn1 : 1 ≤ n) (hn : n ≤ 1000) (hK : KsOk K) (hon : (knAt K 0).2.2 = true) :
    Calls Tryz.prog 71 #[.agg #[.slice A n c]] w fun e w' => ∃ A' m c', e = .returned (.slice A' m c') ∧ m ≤ 2 * n + 1 ∧ w'.ownsRow w.heap.size 124 7 (.slice A' m c') m ((segsI (fullK K) 0).flatMap segC) ∧ Below w.heap.size w w' := by
  have hll := Lib.hid hr.1
  have hb0 := Go.Joins.below_alloc1 w (.cells #[.slice A n c] 49 (0, 0))
  have hz0 : (w.alloc (.cells #[.slice A n c] 49 (0, 0))).heap.size = w.heap.size + 1 := by simp
  have hP0 := Lib.hid (heap_alloc_new w (.cells #[.slice A n c] 49 (0, 0)))
  have hr0 := Lib.hid (hr.frame (good_flat _) (Below.sameB hb0 hhi))
  clear hr
  go_enter Tryz.func71, Tryz.ntmps71
  go_upto_region 2 with fail
  generalize w.alloc (.cells #[.slice A n c] 49 (0, 0)) = w0 at *
  obtain ⟨b, off, rfl, hbl, hbh, hcs⟩ := hr0.out.kns (by omega)
  have hb00 : b < w0.heap.size := by omega
  have hcs := Lib.hid (fun (W : World) (hW : Below w0.heap.size w0 W) (j : Nat) (hj : j < n) => And.intro ((hW.cell (p := ⟨b, off + j * 3, none⟩) hb00).trans (hcs j hj).1) (And.intro ((hW.cell (p := ⟨b, off + j * 3 + 1, none⟩) hb00).trans (hcs j hj).2.1) ((hW.cell (p := ⟨b, off + j * 3 + 2, none⟩) hb00).trans (hcs j hj).2.2)))
  have hPc := Lib.hid (fun (W : World) (hW : Below w0.heap.size w0 W) => show W.cell? ⟨w.heap.size, 0, none⟩ = some (.slice (some ⟨b, off, none⟩) n c) from by rw [Go.Joins.cell_of_block ((hW.block w.heap.size (by omega)).trans hP0.out)]; rfl)
  have p0 := hPc.out w0 (Below.refl _ _)
  have pl0 : w.heap.size < w0.heap.size := by omega
  go_wp2_with fail
  go_loopw [3, 14] (fun out iv wr => ∃ (k q : Nat) (A2 : Option Addr) (c2 : Nat), iv = .int .i64 k ∧ k ≤ n ∧ q = (fullTo K k).length ∧ q ≤ 2 * k ∧ out = .slice A2 q c2 ∧ wr.ownsRow w0.heap.size 73 3 (.slice A2 q c2) q ((fullTo K k).flatMap knotC) ∧ Below w0.heap.size w0 wr) (fun out iv wr => n - (intOf iv).toNat)
  case atStart => exact ⟨0, 0, none, 0, rfl, Nat.zero_le _, by simp [fullTo], Nat.le_refl _, rfl, by simpa [fullTo] using World.ownsRow_nil w0 w0.heap.size 73 3, Below.refl _ _⟩
  case round =>
  obtain ⟨k, q, A2, c2, rfl, hk, hq, hq2, rfl, hown, hbel⟩ := hrel
  generalize wr = xr at *
  have hzx := hbel.size
  have hPx := Lib.hid ((hbel.block w.heap.size pl0).trans hP0.out)
  have px := hPc.out xr hbel
  have plx : w.heap.size < xr.heap.size := by omega
  replace hown := Lib.hid hown
  replace hq := Lib.hid hq
  by_cases hlt : k < n
  rotate_left
  · have hkn : k = n := by omega
    subst hkn
    have hki : ¬ (k : Int) < (k : Int) := by omega
    have k0 : (0 : Int) < (k : Int) := by omega
    have k00 : 0 < k := (by omega)
    obtain ⟨s0, s1, s2⟩ := hcs.out xr hbel 0 k00
    rw [Nat.zero_mul, Nat.add_zero] at s0 s1 s2
    obtain ⟨⟨kx, ky, kz⟩, hk0⟩ : ∃ a, a = knAt K 0 := ⟨_, rfl⟩
    have hkz : kz = true := by rw [← hk0] at hon; exact hon
    subst hkz
    rw [← hk0] at s0 s1 s2
    simp only at s0 s1 s2
    replace hk0 := Lib.hid hk0
    obtain ⟨F, hF⟩ : ∃ F, F = fullK K := ⟨_, rfl⟩
    have hfin : F = fullTo K k ++ [knAt K 0] := by rw [hF, ← hll.out]; rfl
    have hFl : F.length = q + 1 := by rw [hfin, List.length_append, ← hq.out]; rfl
    have hFok : KsOk F := by rw [hF]; exact fullK_ok hK (by have := hll.out; omega)
    have hFlast : (knAt F (F.length - 1)).2.2 = true := by rw [hF, fullK_last K]; exact hon
    replace hF := Lib.hid hF
    replace hfin := Lib.hid hfin
    replace hFl := Lib.hid hFl
    replace hFlast := Lib.hid hFlast
    go_wp2_with (at_builtin; refine wpApp rfl (.tmp 51) (.tmp 56) elemKnot rfl (v := .slice A2 q c2) (n := q) (xs := (fullTo K k).flatMap knotC) rfl (hown.out.alloc _) rfl (src_at (cs := [.int .i64 kx, .int .i64 ky, .bool true]) rfl (by simp [Value.oneCell']) rfl) (by omega) (by omega) (by simp; omega) (q + 1) rfl ?_; intro A9 c9 w9 ho9 hb9; replace ho9 := Lib.hid ho9)
    have hk9 := hk0.out
    have hrF : Hid (RdS 3 (FlatR knotC) w9 w0.heap.size w9.heap.size A9 (q + 1) F) := by
      have h := ho9.out
      rw [show List.flatMap knotC (fullTo K k) ++ [.int .i64 kx, .int .i64 ky, .bool true] = F.flatMap knotC from by rw [hfin.out, ← hk9, knot_snoc]; rfl] at h
      exact Lib.hid (rdS_own knotC_len (by omega) h hFl.out)
    have hB9 := Lib.hid (hb0.trans (((hbel.alloc hzx _).trans hb9).mono (by omega)))
    have hz9 := hB9.out.size
    obtain ⟨N, hN⟩ : ∃ N, N = q + 1 := ⟨_, rfl⟩
    have hN2 : N ≤ 2 * k + 1 := by omega
    rw [← hN] at hrF hFl ⊢
    have hNl := hFl
    have hRes : Hid (segsI F 0 = segsI (fullK K) 0) := Lib.hid (by rw [hF.out])
    have hN1 : 1 ≤ N := by omega
    have qN : ((q : Int) + 1) = (N : Int) := by omega
    clear hk9 ho9 hb9 hown hbel hPx px plx s0 s1 s2 hk0 hfin hcs hPc p0 pl0 hb0 hP0 hr0 hq hN
    have fin2 : Hid (∀ (e : Ending) (w' : World), (∃ A' m c' S, e = .returned (.slice A' m c') ∧ m + 1 ≤ N ∧ S = segsI F 0 ∧ w'.ownsRow w9.heap.size 124 7 (.slice A' m c') m (S.flatMap segC) ∧ Below w9.heap.size w9 w') → ∃ A' m c', e = .returned (.slice A' m c') ∧ m ≤ 2 * k + 1 ∧ w'.ownsRow w.heap.size 124 7 (.slice A' m c') m ((segsI (fullK K) 0).flatMap segC) ∧ Below w.heap.size w w') := by
      refine Lib.hid ?_
      rintro e w' ⟨A', m, c', S, he, hm, hS, ho, hb⟩
      exact ⟨A', m, c', he, by omega, by rw [← hRes.out, ← hS]; exact own_lower ho hz9, hB9.out.trans (hb.mono hz9)⟩
    go_wp2_with fail
    go_loopw [7, 8] (fun ov iv wr => ∃ (i m : Nat) (A3 : Option Addr) (c3 : Nat) (S : List Seg), iv = .int .i64 i ∧ i + 1 ≤ N ∧ ov = .slice A3 m c3 ∧ m ≤ i ∧ S ++ segsI F i = segsI F 0 ∧ wr.ownsRow w9.heap.size 124 7 (.slice A3 m c3) m (S.flatMap segC) ∧ Below w9.heap.size w9 wr) (fun ov iv wr => N - (intOf iv).toNat)
    case atStart => exact ⟨0, 0, none, 0, [], rfl, by omega, rfl, Nat.le_refl _, rfl, World.ownsRow_nil _ _ _ _, Below.refl _ _⟩
    case round =>
    generalize wr = ur at *
    obtain ⟨i, m, A3, c3, S, rfl, hi, rfl, hm, hS, hown, hbu⟩ := hrel
    have hzu := hbu.size
    have hrU := Lib.hid (hrF.out.frame (good_flat _) (Below.sameB hbu (Nat.le_refl _)))
    replace hS := Lib.hid hS
    replace hown := Lib.hid hown
    obtain ⟨i1, hi1⟩ : ∃ i1, i1 = i + 1 := ⟨_, rfl⟩
    have q1 : IntKind.i64.wrap ((i : Int) + 1) = (i1 : Int) := by rw [wi (by omega)]; omega
    by_cases hlt : i1 < N
    rotate_left
    · have hni : ¬ (i1 : Int) < (N : Int) := by omega
      have hfin : Hid (S = segsI F 0) := by
        have h := hS.out
        rw [segsI_end (by rw [hNl.out]; omega), List.append_nil] at h
        exact Lib.hid h
      go_wp2_with fail
      go_ret
      exact fin2.out _ _ ⟨_, _, _, S, rfl, by omega, hfin.out, hown.out, hbu⟩
    have hii : (i1 : Int) < (N : Int) := by omega
    obtain ⟨g, og, rfl, hgl, hgh, hgs⟩ := hrU.out.kns (by omega)
    have j0 : (0 : Int) ≤ (i : Int) ∧ (i : Int) < (N : Int) := by omega
    have j1 : (0 : Int) ≤ (i1 : Int) ∧ (i1 : Int) < (N : Int) := by omega
    have hgw : g < ur.heap.size := by omega
    obtain ⟨x00, x01, x02⟩ := hgs i (by omega)
    obtain ⟨x10, x11, x12⟩ := hgs i1 hlt
    have ok0 := kn_ok hFok (j := i) (by have := hNl.out; omega)
    have ok1 := kn_ok hFok (j := i1) (by have := hNl.out; omega)
    obtain ⟨⟨ax, ay, az⟩, hka⟩ : ∃ a, a = knAt F i := ⟨_, rfl⟩
    obtain ⟨⟨bx, ey, bz⟩, hkb⟩ : ∃ a, a = knAt F i1 := ⟨_, rfl⟩
    rw [← hka] at x00 x01 x02 ok0
    rw [← hkb] at x10 x11 x12 ok1
    simp only at x00 x01 x02 x10 x11 x12 ok0 ok1
    replace hka := Lib.hid hka
    replace hkb := Lib.hid hkb
    have hi1H := Lib.hid hi1
    have hgsH := Lib.hid (fun (W : World) (hW : Below ur.heap.size ur W) (j : Nat) (hj : j < N) => And.intro ((hW.cell (p := ⟨g, og + j * 3, none⟩) hgw).trans (hgs j hj).1) (And.intro ((hW.cell (p := ⟨g, og + j * 3 + 1, none⟩) hgw).trans (hgs j hj).2.1) ((hW.cell (p := ⟨g, og + j * 3 + 2, none⟩) hgw).trans (hgs j hj).2.2)))
    have hS14 := Lib.hid (fun (W : World) (hb : Below ur.heap.size ur W) => (show W.cell? ⟨g, og + i * 3, none⟩ = some (.int .i64 ax) ∧ W.cell? ⟨g, og + i * 3 + 1, none⟩ = some (.int .i64 ay) ∧ W.cell? ⟨g, og + i1 * 3, none⟩ = some (.int .i64 bx) ∧ W.cell? ⟨g, og + i1 * 3 + 1, none⟩ = some (.int .i64 ey) from ⟨(hb.cell (p := ⟨g, og + i * 3, none⟩) hgw).trans x00, (hb.cell (p := ⟨g, og + i * 3 + 1, none⟩) hgw).trans x01, (hb.cell (p := ⟨g, og + i1 * 3, none⟩) hgw).trans x10, (hb.cell (p := ⟨g, og + i1 * 3 + 1, none⟩) hgw).trans x11⟩))
    clear hgs hi1
    go_upto_region 14 with fail
    go_cut [9, 10] (fun s9 s10 wx => ∃ (P Q : Nat), s9 = .pointer (some ⟨P, 0, none⟩) ∧ s10 = .pointer (some ⟨Q, 0, none⟩) ∧ wx.heap[P]? = some (.cells #[.int .i64 ax, .int .i64 ay] 71 (0, 0)) ∧ wx.heap[Q]? = some (.cells #[.int .i64 bx, .int .i64 ey] 71 (0, 0)) ∧ ur.heap.size ≤ P ∧ ur.heap.size ≤ Q ∧ Below ur.heap.size ur wx)
    case first =>
      go_region_held3 (fun w' => w'.cell? ⟨g, og + i * 3, none⟩ = some (.int .i64 ax) ∧ w'.cell? ⟨g, og + i * 3 + 1, none⟩ = some (.int .i64 ay) ∧ w'.cell? ⟨g, og + i1 * 3, none⟩ = some (.int .i64 bx) ∧ w'.cell? ⟨g, og + i1 * 3 + 1, none⟩ = some (.int .i64 ey)) (first | (refine hS14.out _ ?_; repeat (first | with_reducible exact Below.refl _ _ | with_reducible refine Below.drew ?_ | with_reducible refine Below.alloc ?_ (by simp) _ | with_reducible refine Below.setCell ?_ (by simp) _))) (fail)
      all_goals go_wp2_with fail
      all_goals go_meet
      · exact ⟨_, _, rfl, rfl, (heap_new2 ur _ _).1, (heap_new2 ur _ _).2, Nat.le_refl _, Nat.le_succ _, Below.drew (Go.Joins.below_alloc2 ur _ _)⟩
      · exact ⟨_, _, rfl, rfl, (heap_new2 ur _ _).2, (heap_new2 ur _ _).1, Nat.le_succ _, Nat.le_refl _, Below.drew (Go.Joins.below_alloc2 ur _ _)⟩
    obtain ⟨P, Q, rfl, rfl, hP, hQ, hPl, hQl, hbc⟩ := hcut
    generalize wc = v at *
    have hzv := hbc.size
    obtain ⟨_, _, y12⟩ := hgsH.out v hbc i1 hlt
    rw [← hkb.out] at y12
    simp only at y12
    have hgv : g < v.heap.size := by omega
    have hownv := Lib.hid (own_below hown.out hbc)
    have hBv := Lib.hid (hbu.trans (hbc.mono hzu))
    have hzv9 := hBv.out.size
    have hPv := (Array.getElem?_eq_some_iff.1 hP).1
    have hQv := (Array.getElem?_eq_some_iff.1 hQ).1
    have p0 : v.cell? ⟨P, 0, none⟩ = some (.int .i64 ax) := by rw [Go.Joins.cell_of_block hP]; rfl
    have p1 : v.cell? ⟨P, 1, none⟩ = some (.int .i64 ay) := by rw [Go.Joins.cell_of_block hP]; rfl
    have t0 : v.cell? ⟨Q, 0, none⟩ = some (.int .i64 bx) := by rw [Go.Joins.cell_of_block hQ]; rfl
    have t1 : v.cell? ⟨Q, 1, none⟩ = some (.int .i64 ey) := by rw [Go.Joins.cell_of_block hQ]; rfl
    clear x00 x01 x02 x10 x11 x12 hS14 hP hQ hbu hrU
    cases bz with
    | true =>
      obtain ⟨mx, hmx⟩ : ∃ x, x = (midP (ax, ay) (bx, ey)).1 := ⟨_, rfl⟩
      obtain ⟨my, hmy⟩ : ∃ x, x = (midP (ax, ay) (bx, ey)).2 := ⟨_, rfl⟩
      have hcall := Lib.hid (fun W => midPt_any ax ay bx ey W ok0 ok1)
      rw [← hmx, ← hmy] at hcall
      have hst : S ++ [(⟨ax, ay, mx, my, bx, ey⟩, true)] ++ segsI F i1 = segsI F 0 := by
        have h := hS.out
        have e1 := hi1H.out
        rw [segsI_on (by rw [hNl.out]; omega) (by rw [← e1, ← hkb.out]), ← e1, ← hka.out, ← hkb.out] at h
        rw [hmx, hmy, ← h]
        simp [strQ, knP]
      replace hst := Lib.hid hst
      replace hmx := Lib.hid hmx
      replace hmy := Lib.hid hmy
      clear ok0 ok1
      go_wp2_with fail
      have sS := Lib.hid (fun (W : World) (hb : Below v.heap.size v W) => (show W.cell? ⟨P, 0, none⟩ = some (.int .i64 ax) ∧ W.cell? ⟨P, 1, none⟩ = some (.int .i64 ay) ∧ W.cell? ⟨Q, 0, none⟩ = some (.int .i64 bx) ∧ W.cell? ⟨Q, 1, none⟩ = some (.int .i64 ey) from ⟨(hb.cell (p := ⟨P, 0, none⟩) hPv).trans p0, (hb.cell (p := ⟨P, 1, none⟩) hPv).trans p1, (hb.cell (p := ⟨Q, 0, none⟩) hQv).trans t0, (hb.cell (p := ⟨Q, 1, none⟩) hQv).trans t1⟩))
      have neP : (Value.slice A3 m c3).ownBlock ≠ some P := fun e => by have h1 := (hown.out.lt P e).2; omega
      have neQ : (Value.slice A3 m c3).ownBlock ≠ some Q := fun e => by have h1 := (hown.out.lt Q e).2; omega
      clear y12
      refine wp_region_head 10 (fun w' => w'.cell? ⟨P, 0, none⟩ = some (.int .i64 ax) ∧ w'.cell? ⟨P, 1, none⟩ = some (.int .i64 ay) ∧ w'.cell? ⟨Q, 0, none⟩ = some (.int .i64 bx) ∧ w'.cell? ⟨Q, 1, none⟩ = some (.int .i64 ey)) (by kernel_rfl) (by kernel_rfl) (by exact ⟨p0, p1, t0, t1⟩) (fun hHeld => ?_)
      simp only [List.take_succ_cons, List.take_zero, List.drop_succ_cons, List.drop_zero]
      refine wpAnyH_take (i := 0) (v := ?_) ((List.getElem?_toArray).trans rfl) (by kernel_rfl) (by kernel_rfl) (by kernel_rfl) (fun _ _ _ h => h) (Or.inl ⟨by rfl, ?_⟩) (by assumption) ?_
      rotate_left
      · (intro w hSw; (try dsimp only at hSw); go_simp; (try (with_reducible rfl)))
      (try simp only [Act.put, List.setIfInBounds_toArray, List.set_cons_zero, List.set_cons_succ])
      refine wpAnyH_take (i := 1) (v := ?_) ((List.getElem?_toArray).trans rfl) (by kernel_rfl) (by kernel_rfl) (by kernel_rfl) (fun _ _ _ h => h) (Or.inl ⟨by rfl, ?_⟩) (by assumption) ?_
      rotate_left
      · (intro w hSw; (try dsimp only at hSw); go_simp; (try (with_reducible rfl)))
      (try simp only [Act.put, List.setIfInBounds_toArray, List.set_cons_zero, List.set_cons_succ])
      refine wpAnyH_take (i := 2) (v := ?_) ((List.getElem?_toArray).trans rfl) (by kernel_rfl) (by kernel_rfl) (by kernel_rfl) (fun _ _ _ h => h) (Or.inl ⟨by rfl, ?_⟩) (by assumption) ?_
      rotate_left
      · (intro w hSw; (try dsimp only at hSw); go_simp; (try (with_reducible rfl)))
      (try simp only [Act.put, List.setIfInBounds_toArray, List.set_cons_zero, List.set_cons_succ])
      refine wpAnyH_take (i := 3) (v := ?_) ((List.getElem?_toArray).trans rfl) (by kernel_rfl) (by kernel_rfl) (by kernel_rfl) (fun _ _ _ h => h) (Or.inl ⟨by rfl, ?_⟩) (by assumption) ?_
      rotate_left
      · (intro w hSw; (try dsimp only at hSw); go_simp; (try (with_reducible rfl)))
      (try simp only [Act.put, List.setIfInBounds_toArray, List.set_cons_zero, List.set_cons_succ])
      refine wpAnyH_take (i := 5) (v := ?_) ((List.getElem?_toArray).trans rfl) (by kernel_rfl) (by kernel_rfl) (by kernel_rfl) (fun _ _ _ h => h) (Or.inl ⟨by rfl, ?_⟩) (by assumption) ?_
      rotate_left
      · (intro w hSw; (try dsimp only at hSw); go_simp; (try (with_reducible rfl)))
      (try simp only [Act.put, List.setIfInBounds_toArray, List.set_cons_zero, List.set_cons_succ])
      refine wpAnyH_ready (rs := [4]) (by kernel_rfl) (by simp) ?_
      refine AllReadyH.cons ((List.getElem?_toArray).trans rfl) (fun K0 hK0 => ?_) AllReadyH.nil
      (go_simp; go_at_call 85; refine (hcall.out _).mono ?_; rintro e w4 ⟨rfl, hb4⟩; have hbm := Lib.hid (belowD hb4); have sC := Lib.hid (sS.out w4 hbm.out); dsimp only)
      refine hK0.out _ _ ?_ (fun hHeld => ?_)
      · (exact sC.out)
      clear hK0 K0
      (try simp only [Act.put, List.setIfInBounds_toArray, List.set_cons_zero, List.set_cons_succ])
      refine wpAnyH_take (i := 6) (v := ?_) ((List.getElem?_toArray).trans rfl) (by kernel_rfl) (by kernel_rfl) (by kernel_rfl) (fun _ _ _ h => h) (Or.inl ⟨by rfl, ?_⟩) (by assumption) ?_
      rotate_left
      · (intro w hSw; (try dsimp only at hSw); go_simp; (try (with_reducible rfl)))
      (try simp only [Act.put, List.setIfInBounds_toArray, List.set_cons_zero, List.set_cons_succ])
      refine wpAnyH_take (i := 7) (v := ?_) ((List.getElem?_toArray).trans rfl) (by kernel_rfl) (by kernel_rfl) (by kernel_rfl) (fun _ _ _ h => h) (Or.inl ⟨by rfl, ?_⟩) (by assumption) ?_
      rotate_left
      · (intro w hSw; (try dsimp only at hSw); go_simp; (try (with_reducible rfl)))
      (try simp only [Act.put, List.setIfInBounds_toArray, List.set_cons_zero, List.set_cons_succ])
      refine wpAnyH_ready (rs := [8]) (by kernel_rfl) (by simp) ?_
      refine AllReadyH.cons ((List.getElem?_toArray).trans rfl) (fun K0 hK0 => ?_) AllReadyH.nil
      go_simp
      refine hK0.out _ _ ?_ (fun hHeld => ?_)
      · (exact ⟨Lib.cell?_alloc_some _ (sC.out.1), Lib.cell?_alloc_some _ (sC.out.2.1), Lib.cell?_alloc_some _ (sC.out.2.2.1), Lib.cell?_alloc_some _ (sC.out.2.2.2)⟩)
      clear hK0 K0
      (try simp only [Act.put, List.setIfInBounds_toArray, List.set_cons_zero, List.set_cons_succ])
      refine wpAnyH_ready (rs := [9]) (by kernel_rfl) (by simp) ?_
      refine AllReadyH.cons ((List.getElem?_toArray).trans rfl) (fun K0 hK0 => ?_) AllReadyH.nil
      (refine stepAppAt rfl (.tmp 80) (.tmp 88) elemSeg rfl (v := .slice A3 m c3) (n := m) (xs := S.flatMap segC) rfl ((own_below hownv.out hbm.out).alloc _) rfl (src_at (cs := [.int .i64 ax, .int .i64 ay, .int .i64 mx, .int .i64 my, .int .i64 bx, .int .i64 ey, .bool true]) rfl (by simp [Value.oneCell']) (by simp)) (by omega) (by omega) (by have := hbm.out.size; simp; omega) (m + 1) rfl ?_; intro A5 c5 w5 ho5 hg5; have sE := Lib.hid (show w5.cell? ⟨P, 0, none⟩ = some (.int .i64 ax) ∧ w5.cell? ⟨P, 1, none⟩ = some (.int .i64 ay) ∧ w5.cell? ⟨Q, 0, none⟩ = some (.int .i64 bx) ∧ w5.cell? ⟨Q, 1, none⟩ = some (.int .i64 ey) from ⟨(cells_app (W := w4) hg5 (Go.Joins.below_alloc1 _ _) (a := ⟨P, 0, none⟩) (Nat.lt_of_lt_of_le hPv hbm.out.size) neP).trans (sC.out.1), (cells_app (W := w4) hg5 (Go.Joins.below_alloc1 _ _) (a := ⟨P, 1, none⟩) (Nat.lt_of_lt_of_le hPv hbm.out.size) neP).trans (sC.out.2.1), (cells_app (W := w4) hg5 (Go.Joins.below_alloc1 _ _) (a := ⟨Q, 0, none⟩) (Nat.lt_of_lt_of_le hQv hbm.out.size) neQ).trans (sC.out.2.2.1), (cells_app (W := w4) hg5 (Go.Joins.below_alloc1 _ _) (a := ⟨Q, 1, none⟩) (Nat.lt_of_lt_of_le hQv hbm.out.size) neQ).trans (sC.out.2.2.2)⟩); replace ho5 := Lib.hid ho5; replace hg5 := Lib.hid hg5)
      refine hK0.out _ _ ?_ (fun hHeld => ?_)
      · (exact sE.out)
      clear hK0 K0
      (try simp only [Act.put, List.setIfInBounds_toArray, List.set_cons_zero, List.set_cons_succ])
      refine wpAnyH_done (by kernel_rfl) ?_ _
      show wpList _ _ _ _ _ _
      go_wp2_with fail
      go_roundw
      case rel => exact ⟨i1, m + 1, A5, c5, _, rfl, by omega, rfl, by have := hi1H.out; omega, hst.out, by rw [List.flatMap_append]; exact ho5.out, (hBv.out.trans ((hbm.out.mono hzv9).alloc (by have := hbm.out.size; omega) _)).grown hg5.out (by have := hbm.out.size; simp; omega) (fun g hg => by have := (hownv.out.lt g hg).1; omega)⟩
      case measure => simp [intOf]; have := hi1H.out; omega
    | false =>
      have hne : i1 ≠ N - 1 := fun e => by have h := hFlast.out; rw [hNl.out, ← e, ← hkb.out] at h; exact Bool.noConfusion h
      obtain ⟨i2, hi2⟩ : ∃ i2, i2 = i + 2 := ⟨_, rfl⟩
      have q2 : IntKind.i64.wrap ((i : Int) + 2) = (i2 : Int) := by rw [wi (by omega)]; omega
      have hi2N : i2 < N := by have := hi1H.out; omega
      obtain ⟨c20, c21, _⟩ := hgsH.out v hbc i2 hi2N
      obtain ⟨⟨cx, cy, cz⟩, hkc⟩ : ∃ a, a = knAt F i2 := ⟨_, rfl⟩
      rw [← hkc] at c20 c21
      simp only at c20 c21
      have j2 : (0 : Int) ≤ (i2 : Int) ∧ (i2 : Int) < (N : Int) := by omega
      have hst : S ++ [(⟨ax, ay, bx, ey, cx, cy⟩, false)] ++ segsI F i2 = segsI F 0 := by
        have h := hS.out
        have e1 := hi1H.out
        rw [segsI_off (by rw [hNl.out]; omega) (by rw [← e1, ← hkb.out]), ← hi2] at h
        unfold segQ at h
        rw [← hi2, ← e1, ← hka.out, ← hkb.out, ← hkc] at h
        rw [← h]; simp
      replace hst := Lib.hid hst
      have hi2H := Lib.hid hi2
      replace hkc := Lib.hid hkc
      clear ok0 ok1 hi2
      go_wp2_with fail
      have sS := Lib.hid (fun (W : World) (hb : Below v.heap.size v W) => (show W.cell? ⟨P, 0, none⟩ = some (.int .i64 ax) ∧ W.cell? ⟨P, 1, none⟩ = some (.int .i64 ay) ∧ W.cell? ⟨Q, 0, none⟩ = some (.int .i64 bx) ∧ W.cell? ⟨Q, 1, none⟩ = some (.int .i64 ey) ∧ W.cell? ⟨g, og + i2 * 3, none⟩ = some (.int .i64 cx) ∧ W.cell? ⟨g, og + i2 * 3 + 1, none⟩ = some (.int .i64 cy) from ⟨(hb.cell (p := ⟨P, 0, none⟩) hPv).trans p0, (hb.cell (p := ⟨P, 1, none⟩) hPv).trans p1, (hb.cell (p := ⟨Q, 0, none⟩) hQv).trans t0, (hb.cell (p := ⟨Q, 1, none⟩) hQv).trans t1, (hb.cell (p := ⟨g, og + i2 * 3, none⟩) hgv).trans c20, (hb.cell (p := ⟨g, og + i2 * 3 + 1, none⟩) hgv).trans c21⟩))
      have neP : (Value.slice A3 m c3).ownBlock ≠ some P := fun e => by have h1 := (hown.out.lt P e).2; omega
      have neQ : (Value.slice A3 m c3).ownBlock ≠ some Q := fun e => by have h1 := (hown.out.lt Q e).2; omega
      have neG : (Value.slice A3 m c3).ownBlock ≠ some g := fun e => by have h1 := (hown.out.lt g e).1; omega
      clear y12
      refine wp_region_head 13 (fun w' => w'.cell? ⟨P, 0, none⟩ = some (.int .i64 ax) ∧ w'.cell? ⟨P, 1, none⟩ = some (.int .i64 ay) ∧ w'.cell? ⟨Q, 0, none⟩ = some (.int .i64 bx) ∧ w'.cell? ⟨Q, 1, none⟩ = some (.int .i64 ey) ∧ w'.cell? ⟨g, og + i2 * 3, none⟩ = some (.int .i64 cx) ∧ w'.cell? ⟨g, og + i2 * 3 + 1, none⟩ = some (.int .i64 cy)) (by kernel_rfl) (by kernel_rfl) (by exact ⟨p0, p1, t0, t1, c20, c21⟩) (fun hHeld => ?_)
      simp only [List.take_succ_cons, List.take_zero, List.drop_succ_cons, List.drop_zero]
      refine wpAnyH_take (i := 0) (v := ?_) ((List.getElem?_toArray).trans rfl) (by kernel_rfl) (by kernel_rfl) (by kernel_rfl) (fun _ _ _ h => h) (Or.inl ⟨by rfl, ?_⟩) (by assumption) ?_
      rotate_left
      · (intro w hSw; (try dsimp only at hSw); go_simp; (try (with_reducible rfl)))
      (try simp only [Act.put, List.setIfInBounds_toArray, List.set_cons_zero, List.set_cons_succ])
      refine wpAnyH_take (i := 1) (v := ?_) ((List.getElem?_toArray).trans rfl) (by kernel_rfl) (by kernel_rfl) (by kernel_rfl) (fun _ _ _ h => h) (Or.inl ⟨by rfl, ?_⟩) (by assumption) ?_
      rotate_left
      · (intro w hSw; (try dsimp only at hSw); go_simp; (try (with_reducible rfl)))
      (try simp only [Act.put, List.setIfInBounds_toArray, List.set_cons_zero, List.set_cons_succ])
      refine wpAnyH_take (i := 2) (v := ?_) ((List.getElem?_toArray).trans rfl) (by kernel_rfl) (by kernel_rfl) (by kernel_rfl) (fun _ _ _ h => h) (Or.inl ⟨by rfl, ?_⟩) (by assumption) ?_
      rotate_left
      · (intro w hSw; (try dsimp only at hSw); go_simp; (try (with_reducible rfl)))
      (try simp only [Act.put, List.setIfInBounds_toArray, List.set_cons_zero, List.set_cons_succ])
      refine wpAnyH_take (i := 3) (v := ?_) ((List.getElem?_toArray).trans rfl) (by kernel_rfl) (by kernel_rfl) (by kernel_rfl) (fun _ _ _ h => h) (Or.inl ⟨by rfl, ?_⟩) (by assumption) ?_
      rotate_left
      · (intro w hSw; (try dsimp only at hSw); go_simp; (try (with_reducible rfl)))
      (try simp only [Act.put, List.setIfInBounds_toArray, List.set_cons_zero, List.set_cons_succ])
      refine wpAnyH_take (i := 4) (v := ?_) ((List.getElem?_toArray).trans rfl) (by kernel_rfl) (by kernel_rfl) (by kernel_rfl) (fun _ _ _ h => h) (Or.inl ⟨by rfl, ?_⟩) (by assumption) ?_
      rotate_left
      · (intro w hSw; (try dsimp only at hSw); go_simp; (try (with_reducible rfl)))
      (try simp only [Act.put, List.setIfInBounds_toArray, List.set_cons_zero, List.set_cons_succ])
      refine wpAnyH_take (i := 5) (v := ?_) ((List.getElem?_toArray).trans rfl) (by kernel_rfl) (by kernel_rfl) (by kernel_rfl) (fun _ _ _ h => h) (Or.inl ⟨by rfl, ?_⟩) (by assumption) ?_
      rotate_left
      · (intro w hSw; (try dsimp only at hSw); go_simp; (try (with_reducible rfl)))
      (try simp only [Act.put, List.setIfInBounds_toArray, List.set_cons_zero, List.set_cons_succ])
      refine wpAnyH_take (i := 6) (v := ?_) ((List.getElem?_toArray).trans rfl) (by kernel_rfl) (by kernel_rfl) (by kernel_rfl) (fun _ _ _ h => h) (Or.inl ⟨by rfl, ?_⟩) (by assumption) ?_
      rotate_left
      · (intro w hSw; (try dsimp only at hSw); go_simp; (try (with_reducible rfl)))
      (try simp only [Act.put, List.setIfInBounds_toArray, List.set_cons_zero, List.set_cons_succ])
      refine wpAnyH_take (i := 7) (v := ?_) ((List.getElem?_toArray).trans rfl) (by kernel_rfl) (by kernel_rfl) (by kernel_rfl) (fun _ _ _ h => h) (Or.inl ⟨by rfl, ?_⟩) (by assumption) ?_
      rotate_left
      · (intro w hSw; (try dsimp only at hSw); go_simp; (try (with_reducible rfl)))
      (try simp only [Act.put, List.setIfInBounds_toArray, List.set_cons_zero, List.set_cons_succ])
      refine wpAnyH_take (i := 8) (v := ?_) ((List.getElem?_toArray).trans rfl) (by kernel_rfl) (by kernel_rfl) (by kernel_rfl) (fun _ _ _ h => h) (Or.inl ⟨by rfl, ?_⟩) (by assumption) ?_
      rotate_left
      · (intro w hSw; (try dsimp only at hSw); go_simp; (try (with_reducible rfl)))
      (try simp only [Act.put, List.setIfInBounds_toArray, List.set_cons_zero, List.set_cons_succ])
      refine wpAnyH_take (i := 9) (v := ?_) ((List.getElem?_toArray).trans rfl) (by kernel_rfl) (by kernel_rfl) (by kernel_rfl) (fun _ _ _ h => h) (Or.inl ⟨by rfl, ?_⟩) (by assumption) ?_
      rotate_left
      · (intro w hSw; (try dsimp only at hSw); go_simp; (try (with_reducible rfl)))
      (try simp only [Act.put, List.setIfInBounds_toArray, List.set_cons_zero, List.set_cons_succ])
      refine wpAnyH_take (i := 10) (v := ?_) ((List.getElem?_toArray).trans rfl) (by kernel_rfl) (by kernel_rfl) (by kernel_rfl) (fun _ _ _ h => h) (Or.inl ⟨by rfl, ?_⟩) (by assumption) ?_
      rotate_left
      · (intro w hSw; (try dsimp only at hSw); go_simp; (try (with_reducible rfl)))
      (try simp only [Act.put, List.setIfInBounds_toArray, List.set_cons_zero, List.set_cons_succ])
      refine wpAnyH_ready (rs := [11]) (by kernel_rfl) (by simp) ?_
      refine AllReadyH.cons ((List.getElem?_toArray).trans rfl) (fun K0 hK0 => ?_) AllReadyH.nil
      go_simp
      refine hK0.out _ _ ?_ (fun hHeld => ?_)
      · (exact sS.out _ (Below.alloc (Below.drew (Below.refl _ _)) (by show v.heap.size ≤ v.heap.size; omega) _))
      clear hK0 K0
      (try simp only [Act.put, List.setIfInBounds_toArray, List.set_cons_zero, List.set_cons_succ])
      refine wpAnyH_ready (rs := [12]) (by kernel_rfl) (by simp) ?_
      refine AllReadyH.cons ((List.getElem?_toArray).trans rfl) (fun K0 hK0 => ?_) AllReadyH.nil
      (refine stepAppAt rfl (.tmp 92) (.tmp 103) elemSeg rfl (v := .slice A3 m c3) (n := m) (xs := S.flatMap segC) rfl (World.ownsRow.alloc (World.ownsRow.drew hownv.out) _) rfl (src_at (cs := [.int .i64 ax, .int .i64 ay, .int .i64 bx, .int .i64 ey, .int .i64 cx, .int .i64 cy, .bool false]) rfl (by simp [Value.oneCell']) (by simp)) (by omega) (by omega) (by show w9.heap.size ≤ (v.alloc _).heap.size; simp; omega) (m + 1) rfl ?_; intro A5 c5 w5 ho5 hg5; have sE := Lib.hid (show w5.cell? ⟨P, 0, none⟩ = some (.int .i64 ax) ∧ w5.cell? ⟨P, 1, none⟩ = some (.int .i64 ay) ∧ w5.cell? ⟨Q, 0, none⟩ = some (.int .i64 bx) ∧ w5.cell? ⟨Q, 1, none⟩ = some (.int .i64 ey) ∧ w5.cell? ⟨g, og + i2 * 3, none⟩ = some (.int .i64 cx) ∧ w5.cell? ⟨g, og + i2 * 3 + 1, none⟩ = some (.int .i64 cy) from ⟨(cells_app (W := v) hg5 (Below.alloc (Below.drew (Below.refl _ _)) (by show v.heap.size ≤ v.heap.size; omega) _) (a := ⟨P, 0, none⟩) hPv neP).trans (p0), (cells_app (W := v) hg5 (Below.alloc (Below.drew (Below.refl _ _)) (by show v.heap.size ≤ v.heap.size; omega) _) (a := ⟨P, 1, none⟩) hPv neP).trans (p1), (cells_app (W := v) hg5 (Below.alloc (Below.drew (Below.refl _ _)) (by show v.heap.size ≤ v.heap.size; omega) _) (a := ⟨Q, 0, none⟩) hQv neQ).trans (t0), (cells_app (W := v) hg5 (Below.alloc (Below.drew (Below.refl _ _)) (by show v.heap.size ≤ v.heap.size; omega) _) (a := ⟨Q, 1, none⟩) hQv neQ).trans (t1), (cells_app (W := v) hg5 (Below.alloc (Below.drew (Below.refl _ _)) (by show v.heap.size ≤ v.heap.size; omega) _) (a := ⟨g, og + i2 * 3, none⟩) hgv neG).trans (c20), (cells_app (W := v) hg5 (Below.alloc (Below.drew (Below.refl _ _)) (by show v.heap.size ≤ v.heap.size; omega) _) (a := ⟨g, og + i2 * 3 + 1, none⟩) hgv neG).trans (c21)⟩); replace ho5 := Lib.hid ho5; replace hg5 := Lib.hid hg5)
      refine hK0.out _ _ ?_ (fun hHeld => ?_)
      · (exact sE.out)
      clear hK0 K0
      (try simp only [Act.put, List.setIfInBounds_toArray, List.set_cons_zero, List.set_cons_succ])
      refine wpAnyH_done (by kernel_rfl) ?_ _
      show wpList _ _ _ _ _ _
      go_wp2_with fail
      go_roundw
      case rel => exact ⟨i2, m + 1, A5, c5, _, rfl, by omega, rfl, by have := hi2H.out; omega, hst.out, by rw [List.flatMap_append]; exact ho5.out, (hBv.out.trans ((Below.refl v.heap.size v).drew.mono hzv9 |>.alloc (by show w9.heap.size ≤ v.heap.size; omega) _)).grown hg5.out (by show w9.heap.size ≤ (v.alloc _).heap.size; simp; omega) (fun g hg => by have := (hownv.out.lt g hg).1; omega)⟩
      case measure => simp [intOf]; have := hi2H.out; omega
  have hki : (k : Int) < (n : Int) := by omega
  have i1 : (0 : Int) ≤ (k : Int) ∧ (k : Int) < (n : Int) := by omega
  obtain ⟨m, hm⟩ : ∃ m, m = (k + 1) % n := ⟨_, rfl⟩
  have hmn : m < n := by rw [hm]; exact Nat.mod_lt _ (by omega)
  have hok1 := kn_ok hK (j := k) (by have := hll.out; omega)
  have hok2 := kn_ok hK (j := m) (by have := hll.out; omega)
  have hst : fullTo K (k + 1) = fullTo K k ++ (knAt K k :: midK (knAt K k) (knAt K m)) := by rw [fullTo_succ, hm, hll.out]
  obtain ⟨x00, x01, x02⟩ := hcs.out xr hbel k hlt
  have hcm := Lib.hid (fun W hW => hcs.out W hW m hmn)
  have hbw : b < xr.heap.size := by omega
  obtain ⟨⟨kx, ky, kz⟩, hka⟩ : ∃ a, a = knAt K k := ⟨_, rfl⟩
  obtain ⟨⟨nx, ny, nz⟩, hkb⟩ : ∃ a, a = knAt K m := ⟨_, rfl⟩
  rw [← hka] at x00 x01 x02 hst hok1
  rw [← hkb] at hst hok2 hcm
  simp only at x00 x01 x02 hok1 hok2
  obtain ⟨y, hy⟩ : ∃ y, y = k + 1 := ⟨_, rfl⟩
  have r1 : IntKind.i64.wrap ((k : Int) + 1) = (y : Int) := by rw [wi (by omega)]; omega
  have q5 : (y : Int).tmod (n : Int) = (m : Int) := by rw [mod_i, hy, hm]
  have q7 : IntKind.i64.wrap (m : Int) = (m : Int) := wi (by omega)
  replace hy := Lib.hid hy
  have q6 : ¬ n = 0 := by omega
  have i2 : (0 : Int) ≤ (m : Int) ∧ (m : Int) < (n : Int) := by omega
  replace hka := Lib.hid hka
  replace hkb := Lib.hid hkb
  replace hst := Lib.hid hst
  have hmH := Lib.hid hm
  have hal := Go.Joins.below_alloc1 xr (.cells #[.int .i64 kx, .int .i64 ky, .bool kz] 73 (0, 0))
  have hY0 := heap_alloc_new xr (.cells #[.int .i64 kx, .int .i64 ky, .bool kz] 73 (0, 0))
  have hzY : (xr.alloc (.cells #[.int .i64 kx, .int .i64 ky, .bool kz] 73 (0, 0))).heap.size = xr.heap.size + 1 := by simp
  have hown1 := Lib.hid (own_below hown.out hal)
  have hB1 := Lib.hid (hbel.trans (hal.mono hzx))
  clear hm hal
  go_upto_region 5 with fail
  generalize xr.alloc (.cells #[.int .i64 kx, .int .i64 ky, .bool kz] 73 (0, 0)) = v1 at *
  obtain ⟨Y, hYe⟩ : ∃ Y, Y = xr.heap.size := ⟨_, rfl⟩
  rw [← hYe] at hY0 hzY ⊢
  have y0 : v1.cell? ⟨Y, 0, none⟩ = some (.int .i64 kx) := by rw [Go.Joins.cell_of_block hY0]; rfl
  have y1 : v1.cell? ⟨Y, 1, none⟩ = some (.int .i64 ky) := by rw [Go.Joins.cell_of_block hY0]; rfl
  have y2 : v1.cell? ⟨Y, 2, none⟩ = some (.bool kz) := by rw [Go.Joins.cell_of_block hY0]; rfl
  have yl : Y < v1.heap.size := by omega
  have hYx : Y ≤ xr.heap.size ∧ xr.heap.size ≤ Y := by omega
  clear x00 x01 x02 px
  have hzy : v1.heap.size ≤ Y + 1 ∧ Y + 1 ≤ v1.heap.size := by omega
  clear hzY
  replace hYe := Lib.hid hYe
  replace hY0 := Lib.hid hY0
  go_wp2_with (at_builtin; refine wpAppAt rfl (.tmp 19) (.tmp 21) elemKnot rfl (v := .slice A2 q c2) (n := q) (xs := (fullTo K k).flatMap knotC) rfl (hown1.out.alloc _) rfl (src_at (cs := [.int .i64 kx, .int .i64 ky, .bool kz]) rfl (by simp [Value.oneCell']) rfl) (by omega) (by omega) (by simp; omega) (q + 1) rfl ?_; intro A5 c5 w5 ho5 hg5 _; have hY5 : w5.heap[Y]? = some (.cells #[.int .i64 kx, .int .i64 ky, .bool kz] 73 (0, 0)) := (hg5.block Y (by simp; omega) (fun e => by have := (hown.out.lt Y e.symm).2; omega)).trans ((Below.heap_alloc _ _ _ yl).trans hY0.out); have hB5 : Below w0.heap.size w0 w5 := (hB1.out.alloc (by omega) _).grown hg5 (by simp; omega) (fun g hg => by have := (hown1.out.lt g hg).1; omega); have p5 := hPc.out w5 hB5; obtain ⟨z0, z1, z2⟩ := hcm.out w5 hB5; simp only at z0 z1 z2; have hz5 := hB5.size; have bl5 : b < w5.heap.size := (by omega); have pl5 : w.heap.size < w5.heap.size := (by omega); replace hY5 := Lib.hid hY5; replace ho5 := Lib.hid ho5; replace hB5 := Lib.hid hB5; clear hg5)
  have hYl5 : Y < w5.heap.size := (Array.getElem?_eq_some_iff.1 hY5.out).1
  have hS := Lib.hid (fun (W : World) (hb : Below w5.heap.size w5 W) => (show W.cell? ⟨w.heap.size, 0, none⟩ = some (.slice (some ⟨b, off, none⟩) n c) ∧ W.cell? ⟨b, off + m * 3, none⟩ = some (.int .i64 nx) ∧ W.cell? ⟨b, off + m * 3 + 1, none⟩ = some (.int .i64 ny) ∧ W.cell? ⟨b, off + m * 3 + 2, none⟩ = some (.bool nz) from ⟨hPc.out W (hB5.out.trans (hb.mono hz5)), (hcm.out W (hB5.out.trans (hb.mono hz5))).1, (hcm.out W (hB5.out.trans (hb.mono hz5))).2.1, (hcm.out W (hB5.out.trans (hb.mono hz5))).2.2⟩))
  clear y0 y1 y2
  go_region_held3 (fun w' => w'.cell? ⟨w.heap.size, 0, none⟩ = some (.slice (some ⟨b, off, none⟩) n c) ∧ w'.cell? ⟨b, off + m * 3, none⟩ = some (.int .i64 nx) ∧ w'.cell? ⟨b, off + m * 3 + 1, none⟩ = some (.int .i64 ny) ∧ w'.cell? ⟨b, off + m * 3 + 2, none⟩ = some (.bool nz)) (first | (refine hS.out _ ?_; repeat (first | with_reducible exact Below.refl _ _ | with_reducible refine Below.drew ?_ | with_reducible refine Below.alloc ?_ (by simp) _ | with_reducible refine Below.setCell ?_ (by simp) _))) (fail)
  all_goals
  have hZ0 : (w5.alloc (.cells #[.int .i64 nx, .int .i64 ny, .bool nz] 73 (0, 0))).drew.heap[w5.heap.size]? = some (.cells #[.int .i64 nx, .int .i64 ny, .bool nz] 73 (0, 0)) := heap_alloc_new w5 (.cells #[.int .i64 nx, .int .i64 ny, .bool nz] 73 (0, 0))
  have hal6 : Below w5.heap.size w5 (w5.alloc (.cells #[.int .i64 nx, .int .i64 ny, .bool nz] 73 (0, 0))).drew := Below.drew (Go.Joins.below_alloc1 w5 _)
  have hzZ : (w5.alloc (.cells #[.int .i64 nx, .int .i64 ny, .bool nz] 73 (0, 0))).drew.heap.size = w5.heap.size + 1 := by show (w5.alloc (.cells #[.int .i64 nx, .int .i64 ny, .bool nz] 73 (0, 0))).heap.size = _; simp
  have hY6 := Lib.hid ((hal6.block Y hYl5).trans hY5.out)
  have ho6 := Lib.hid (own_below ho5.out hal6)
  have hB6 := Lib.hid (hB5.out.trans (hal6.mono hz5))
  clear hal6 hS
  generalize (w5.alloc (.cells #[.int .i64 nx, .int .i64 ny, .bool nz] 73 (0, 0))).drew = v6 at *
  obtain ⟨Z, hZe⟩ : ∃ Z, Z = w5.heap.size := ⟨_, rfl⟩
  rw [← hZe] at hZ0 hzZ ⊢
  have u0 : v6.cell? ⟨Y, 0, none⟩ = some (.int .i64 kx) := by rw [Go.Joins.cell_of_block hY6.out]; rfl
  have u1 : v6.cell? ⟨Y, 1, none⟩ = some (.int .i64 ky) := by rw [Go.Joins.cell_of_block hY6.out]; rfl
  have u2 : v6.cell? ⟨Y, 2, none⟩ = some (.bool kz) := by rw [Go.Joins.cell_of_block hY6.out]; rfl
  have t0 : v6.cell? ⟨Z, 0, none⟩ = some (.int .i64 nx) := by rw [Go.Joins.cell_of_block hZ0]; rfl
  have t1 : v6.cell? ⟨Z, 1, none⟩ = some (.int .i64 ny) := by rw [Go.Joins.cell_of_block hZ0]; rfl
  have t2 : v6.cell? ⟨Z, 2, none⟩ = some (.bool nz) := by rw [Go.Joins.cell_of_block hZ0]; rfl
  have hlY : Y < v6.heap.size := by omega
  have hlZ : Z < v6.heap.size := by omega
  have hz6 : w0.heap.size ≤ v6.heap.size := by omega
  clear p5 z0 z1 z2 hzZ bl5 pl5
  replace hZe := Lib.hid hZe
  replace hZ0 := Lib.hid hZ0
  by_cases hmid : kz = false ∧ nz = false
  · obtain ⟨rfl, rfl⟩ := hmid
    have hm2 : midK (kx, ky, false) (nx, ny, false) = [((midP (kx, ky) (nx, ny)).1, (midP (kx, ky) (nx, ny)).2, true)] := by unfold midK; rw [if_pos ⟨rfl, rfl⟩]; rfl
    have hcall := Lib.hid (fun W => midPt_any kx ky nx ny W hok1 hok2)
    obtain ⟨mx, hmx⟩ : ∃ x, x = (midP (kx, ky) (nx, ny)).1 := ⟨_, rfl⟩
    obtain ⟨my, hmy⟩ : ∃ x, x = (midP (kx, ky) (nx, ny)).2 := ⟨_, rfl⟩
    rw [← hmx, ← hmy] at hm2 hcall
    have hst2 : fullTo K (k + 1) = fullTo K k ++ [(kx, ky, false)] ++ [(mx, my, true)] := by rw [hst.out, hm2]; simp
    replace hst2 := Lib.hid hst2
    clear hm2 hmx hmy hok1 hok2
    go_wp2_with fail
    refine (hcall.out _).mono ?_
    rintro e w7 ⟨rfl, hb7⟩
    have ho7 := Lib.hid (own_below ho6.out hb7)
    have hB7 := hB6.out.trans (hb7.mono hz6)
    have hz7 := hB7.size
    clear hb7
    go_wp2_with (at_builtin; refine wpApp rfl (.tmp 41) (.tmp 48) elemKnot rfl (v := .slice A5 (q + 1) c5) (n := q + 1) (xs := (fullTo K k).flatMap knotC ++ [.int .i64 kx, .int .i64 ky, .bool false]) rfl (ho7.out.alloc _) rfl (src_at (cs := [.int .i64 mx, .int .i64 my, .bool true]) rfl (by simp [Value.oneCell']) rfl) (by omega) (by omega) (by simp; omega) (q + 1 + 1) rfl ?_; intro A9 c9 w9 ho9 hb9; replace ho9 := Lib.hid ho9)
    have hB9 := (hB7.alloc hz7 _).trans hb9
    clear hb9
    go_roundw
    case rel =>
      refine ⟨k + 1, q + 1 + 1, A9, c9, by rw [hy.out], by omega, by rw [hst2.out]; simp [← hq.out], by omega, rfl, ?_, hB9⟩
      rw [hst2.out, knot_snoc, knot_snoc]
      exact ho9.out
    case measure => simp [intOf]; have := hy.out; omega
  · have hm2 : midK (kx, ky, kz) (nx, ny, nz) = [] := by unfold midK; rw [if_neg hmid]
    have hst2 : fullTo K (k + 1) = fullTo K k ++ [(kx, ky, kz)] := by rw [hst.out, hm2]
    replace hst2 := Lib.hid hst2
    have hn2 : ∀ W : World, W = v6 → True := fun _ _ => trivial
    clear hm2 hn2
    have hrel2 : ∃ (k' q' : Nat) (A2 : Option Addr) (c2 : Nat), Value.int .i64 (y : Int) = .int .i64 k' ∧ k' ≤ n ∧ q' = (fullTo K k').length ∧ q' ≤ 2 * k' ∧ Value.slice A5 (q + 1) c5 = .slice A2 q' c2 ∧ v6.ownsRow w0.heap.size 73 3 (.slice A2 q' c2) q' ((fullTo K k').flatMap knotC) ∧ Below w0.heap.size w0 v6 := by
      refine ⟨k + 1, q + 1, A5, c5, by rw [hy.out], by omega, by rw [hst2.out]; simp [← hq.out], by omega, rfl, ?_, hB6.out⟩
      rw [hst2.out, knot_snoc]; exact ho6.out
    replace hrel2 := Lib.hid hrel2
    cases kz with
    | true =>
      clear hmid
      go_wp2_with fail
      go_roundw
      case rel => exact hrel2.out
      case measure => simp [intOf]; have := hy.out; omega
    | false =>
      cases nz with
      | false => exact absurd ⟨rfl, rfl⟩ hmid
      | true =>
        clear hmid
        go_wp2_with fail
        go_roundw
        case rel => exact hrel2.out
        case measure => simp [intOf]; have := hy.out; omega
end Go.Proofs.YtgelkdcggnffeaaGreat

