/- Rings turned and ordered. Printed by mk_or4.py. Conditions: as each states. -/
import Derived.Deep.RegionLaw
import Derived.Test.YtlifiioflkhkoaaGreatFr21
import Derived.Test.YtlifiioflkhkoaaGreatFr23
import Derived.Test.YtlifiioflkhkoaaGreatFr18
import Derived.Test.YtlifiioflkhkoaaGreatFr15
namespace Go.Proofs.YtlifiioflkhkoaaGreat
open Go.RowKit
set_option linter.unusedVariables false
set_option maxRecDepth 100000

theorem regTo_D {w : World} {lo n c : Nat} {A : Option Addr} {ys : List Value} {Ls : List (List Pnt)} (h : RegTo w lo A n c ys Ls) (hl : Ls.length = n) (hK : ∀ K ∈ Ls, K.length ≤ 1000000000 ∧ ∀ p ∈ K, pt2Ok p = true) :
    ∃ D : List RgE, D.map Prod.fst = Ls ∧ D.length = n ∧ D.flatMap encR = ys ∧ ∀ gb, A = some ⟨gb, 0, none⟩ → ∀ x ∈ D, RgOk w lo gb x := by
  obtain ⟨h1, h2, h3⟩ := h
  obtain ⟨D, hD, hx⟩ := list_of_all' (fun i (x : RgE) => Ls[i]? = some x.1 ∧ ys[i]? = some (.slice x.2.A x.1.length x.2.c) ∧ x.2.n = x.1.length ∧ w.ownsRow lo 28 2 (.slice x.2.A x.1.length x.2.c) x.1.length (x.1.flatMap ptC)) n (fun i hi => by
    have hi' : i < Ls.length := by omega
    obtain ⟨Aj, cj, e1, e2⟩ := h2 i _ hi (List.getElem?_eq_getElem hi')
    exact ⟨(Ls[i], ⟨Aj, Ls[i].length, cj⟩), List.getElem?_eq_getElem hi', e1, rfl, e2⟩)
  have hyl := h1.1
  rw [Nat.mul_one] at hyl
  refine ⟨D, ?_, hD, ?_, ?_⟩
  · apply List.ext_getElem?
    intro i
    rw [List.getElem?_map]
    by_cases hi : i < n
    · have e := List.getElem?_eq_getElem (l := D) (i := i) (by omega)
      rw [e, (hx i _ e).1]; rfl
    · rw [List.getElem?_eq_none (by omega), List.getElem?_eq_none (by omega)]; rfl
  · rw [show D.flatMap encR = D.map (fun x => Value.slice x.2.A x.2.n x.2.c) from by
      clear hx hD; induction D with
      | nil => rfl
      | cons x D ih => rw [List.flatMap_cons, ih]; rfl]
    apply List.ext_getElem?
    intro i
    rw [List.getElem?_map]
    by_cases hi : i < n
    · have e := List.getElem?_eq_getElem (l := D) (i := i) (by omega)
      obtain ⟨_, e1, e2, _⟩ := hx i _ e
      rw [e, e1, ← e2]; rfl
    · rw [List.getElem?_eq_none (by omega), List.getElem?_eq_none (by omega)]; rfl
  · intro gb hA x hxD
    subst hA
    obtain ⟨i, hi⟩ := List.mem_iff_getElem?.1 hxD
    obtain ⟨e1, e2, e3, e4⟩ := hx i x hi
    have hm := hK x.1 (List.mem_of_getElem? e1)
    refine ⟨by omega, hm.2, ?_⟩
    have hrd := rdS_own ptC_len (by omega) e4 rfl
    by_cases h0 : 0 < x.1.length
    · obtain ⟨g, hg, hg1, hg2, _⟩ := own_at e4 h0
      obtain ⟨hl', hq⟩ := hrd
      obtain ⟨b, off, hb, b1, b2, b3⟩ := hq h0
      rw [hg] at hb
      injection hb with hb
      injection hb with eb eo
      subst eb
      have hne : gb ≠ g := fun e => own_ne_kind e4 h1 (by decide) (g := g) (by rw [hg]; rfl) (by rw [← e]; rfl)
      refine ⟨g, g + 1, hg1, by omega, by omega, by rw [e3], fun hn => ⟨g, off, by rw [hg, ← eo], Nat.le_refl _, Nat.lt_succ_self g, fun j a hj => ?_⟩⟩
      obtain ⟨es, s1, s2, s3⟩ := b3 j a hj
      exact ⟨es, s1, s2, s3⟩
    · have e0 : x.1.length = 0 := by omega
      refine ⟨max lo (gb + 1), 0, by omega, by omega, by omega, by rw [e3], fun hn => by omega⟩
theorem regRd_D {w : World} {lo n c : Nat} {A : Option Addr} {M : List RgE} (ho : w.ownsRow lo 42 1 (.slice A n c) n (M.flatMap encR)) (hl : M.length = n) (hm : ∀ x ∈ M, x.2.n ≤ maxLen) (h : ∀ x ∈ M, RdS 2 (FlatR ptC) w lo w.heap.size x.2.A x.2.n x.1) : RegRd w lo w.heap.size A n (M.map Prod.fst) := by
  refine ⟨by rw [List.length_map, hl], fun hn => ?_⟩
  obtain ⟨g, rfl, hg1, hg2, _, hc, _⟩ := own_at ho hn
  refine ⟨g, 0, rfl, hg1, hg2, fun j K hj => ?_⟩
  rw [List.getElem?_map] at hj
  obtain ⟨x, hx, rfl⟩ := Option.map_eq_some_iff.1 hj
  refine ⟨[.slice x.2.A x.2.n x.2.c], rfl, fun i u hu => ?_, x.2.A, x.2.n, x.2.c, rfl, hm x (List.mem_of_getElem? hx), h x (List.mem_of_getElem? hx)⟩
  match i, hu with
  | 0, hu =>
    injection hu with hu
    subst hu
    have hjl := (List.getElem?_eq_some_iff.1 hx).1
    simp only [Nat.mul_one, Nat.add_zero, Nat.zero_add]
    rw [hc j (by omega)]
    have := flat_get (f := encR) (k := 1) (fun _ => rfl) M j x 0 hx (by omega)
    simpa [encR] using this

set_option maxHeartbeats 16000000 in
theorem orderRings_any (A : Option Addr) (n c lo hi : Nat) (Rs : List (List Pnt)) (w : World) (hr : RegRd w lo hi A n Rs) (hcap : RegCap w A n) (hhi : hi ≤ w.heap.size) (hn : n ≤ 1000) (hR : ∀ K ∈ Rs, 1 ≤ K.length ∧ K.length ≤ 1000 ∧ ∀ p ∈ K, pt2Ok p = true) :
    Calls Tryz.prog 41 #[.agg #[.slice A n c]] w fun e w' => ∃ A' c', e = .returned (.agg #[.slice A' n c']) ∧ RegRd w' w.heap.size w'.heap.size A' n (orderR Rs) ∧ Below w.heap.size w w' := by
  have hl := hr.1
  have hb0 : Below w.heap.size w (((w.alloc (.cells #[.slice A n c] 26 (0, 0))).alloc (.cells #[.slice none 0 0] 26 (0, 0))).alloc (.cells #[.slice none 0 0] 26 (0, 0))) := ((Go.Joins.below_alloc2 w _ _).alloc (by simp; omega) _)
  have hnew := heap_new0 w (.cells #[.slice A n c] 26 (0, 0)) (.cells #[.slice none 0 0] 26 (0, 0)) (.cells #[.slice none 0 0] 26 (0, 0))
  have hz0 : (((w.alloc (.cells #[.slice A n c] 26 (0, 0))).alloc (.cells #[.slice none 0 0] 26 (0, 0))).alloc (.cells #[.slice none 0 0] 26 (0, 0))).heap.size = w.heap.size + 3 := by simp
  have hr0 := Lib.hid (hr.frame good_ring (Below.sameB hb0 hhi))
  have hcap0 := Lib.hid (hcap.frame hr (Below.sameB hb0 hhi))
  clear hr hcap
  obtain ⟨Ls, hLs⟩ : ∃ Ls : List (List Pnt), Ls = Rs.map turnL := ⟨_, rfl⟩
  have hLa : ∀ (j : Nat) (K : List Pnt), Rs[j]? = some K → Ls[j]? = some (turnL K) := fun j K h => by rw [hLs, List.getElem?_map, h]; rfl
  have hLl : Ls.length = n := by rw [hLs, List.length_map, hl]
  replace hLa := Lib.hid hLa
  replace hLl := Lib.hid hLl
  replace hLs := Lib.hid hLs
  replace hR := Lib.hid hR
  go_enter Tryz.func41, Tryz.ntmps41
  go_upto_region 2 with fail
  generalize ((w.alloc (.cells #[.slice A n c] 26 (0, 0))).alloc (.cells #[.slice none 0 0] 26 (0, 0))).alloc (.cells #[.slice none 0 0] 26 (0, 0)) = v0 at *
  obtain ⟨Y, hY⟩ : ∃ Y, Y = w.heap.size := ⟨_, rfl⟩
  obtain ⟨X, hX⟩ : ∃ X, X = Y + 2 := ⟨_, rfl⟩
  rw [← hY] at hnew hz0 ⊢
  rw [← hX] at hnew ⊢
  obtain ⟨hY0, hR0, hX0⟩ := hnew
  have hXv : X + 1 ≤ v0.heap.size ∧ v0.heap.size ≤ X + 1 ∧ Y + 2 = X ∧ hi ≤ Y := by omega
  have y0 : v0.cell? ⟨Y, 0, none⟩ = some (.slice A n c) := by rw [Go.Joins.cell_of_block hY0]; rfl
  have hyl : Y < v0.heap.size := by omega
  replace hX := Lib.hid hX
  replace hY := Lib.hid hY
  replace hY0 := Lib.hid hY0
  replace hR0 := Lib.hid hR0
  replace hX0 := Lib.hid hX0
  have hB0 := Lib.hid hb0
  clear hb0 hz0
  go_wp2_with fail
  clear y0
  go_loopw [9] (fun iv wr => ∃ (k : Nat) (Ao : Option Addr) (co : Nat) (ys : List Value), iv = .int .i64 k ∧ k ≤ n ∧ RegTo wr (X + 1) Ao k co ys Ls ∧ wr.heap[X]? = some (.cells #[.slice Ao k co] 26 (0, 0)) ∧ Below X v0 wr) (fun iv wr => n - (intOf iv).toNat)
  case atStart => exact ⟨0, none, 0, [], rfl, Nat.zero_le _, ⟨World.ownsRow_nil _ _ _ _, fun j K hj => absurd hj (Nat.not_lt_zero j), fun i j u v _ hu => by simp at hu⟩, hX0.out, Below.refl _ _⟩
  case round =>
  clear hX0
  obtain ⟨k, Ao, co, ys, rfl, hk, hto, hXb, hbx⟩ := hrel
  generalize wr = xr at *
  have hzx := hbx.size
  have hXl : X < xr.heap.size := (Array.getElem?_eq_some_iff.1 hXb).1
  have hBx := Lib.hid (hB0.out.trans (hbx.mono (by have := hY.out; omega)))
  have hRx := Lib.hid ((hbx.block (Y + 1) (by omega)).trans hR0.out)
  replace hto := Lib.hid hto
  by_cases hlt : k < n
  rotate_left
  · have hkn : k = n := by omega
    subst hkn
    have hki : ¬ (k : Int) < (k : Int) := by omega
    have xc : xr.cell? ⟨X, 0, none⟩ = some (.slice Ao k co) := by rw [Go.Joins.cell_of_block hXb]; rfl
    have hbd : ∀ K ∈ Ls, K.length ≤ 1000000000 ∧ ∀ p ∈ K, pt2Ok p = true := by
      intro K hK
      rw [hLs.out] at hK
      obtain ⟨L, hL, rfl⟩ := List.mem_map.1 hK
      obtain ⟨h1, h2, h3⟩ := hR.out L hL
      exact ⟨by rw [(turnL_perm L).length_eq]; omega, fun p hp => h3 p ((turnL_perm L).mem_iff.1 hp)⟩
    obtain ⟨D, d1, d2, d3, d4⟩ := regTo_D hto.out hLl.out hbd
    have hown := hto.out.1
    rw [← d3] at hown
    have hsc := Lib.hid (sortRings_any Ao k co (X + 1) D xr hown d2 (by omega) d4)
    have hDd := Lib.hid (And.intro d1 d2)
    have hDb : Hid (∀ x ∈ D, x.2.n ≤ maxLen) := fun x hx => by
      have hsz : Ao = none → False := fun e => by
        rw [e] at hown
        rcases hown.2 with ⟨_, h0⟩ | ⟨g, _, _, e, _⟩
        · have : D = [] := List.eq_nil_of_length_eq_zero (by omega)
          rw [this] at hx; cases hx
        · cases e
      obtain ⟨g, hg⟩ : ∃ g, Ao = some ⟨g, 0, none⟩ := by
        have h0 : 0 < k := by rw [← d2]; exact List.length_pos_of_mem hx
        obtain ⟨g, hg, _⟩ := own_at hown h0
        exact ⟨g, hg⟩
      have := (d4 g hg x hx).1
      unfold maxLen; omega
    replace hbd := Lib.hid hbd
    clear d1 d2 d3 d4 hown
    have hXx := Lib.hid hXb
    clear hXb
    go_wp2_with fail
    refine hsc.out.mono ?_
    rintro e w2 ⟨rfl, M, hp, hord, hoM, hrdM, hbl⟩
    have hb2 := hbl (by omega)
    have hX2 := Lib.hid ((hb2.block X (by omega)).trans hXx.out)
    have hR2 := Lib.hid ((hb2.block (Y + 1) (by omega)).trans hRx.out)
    have hML : M.length = k := by rw [hp.length_eq]; exact hDd.out.2
    have hrd := Lib.hid (regRd_D hoM hML (fun x hx => hDb.out x (hp.mem_iff.1 hx)) hrdM)
    have heq : Hid (M.map Prod.fst = orderR Rs) := by
      show _ = _
      rw [ord_is hp hord, hDd.out.1, hLs.out]; rfl
    have hB2 := Lib.hid (hBx.out.trans (hb2.mono (by have := hY.out; omega)))
    have x2 : w2.cell? ⟨X, 0, none⟩ = some (.slice Ao k co) := by rw [Go.Joins.cell_of_block hX2.out]; rfl
    have r2 : w2.cell? ⟨Y + 1, 0, none⟩ = some (.slice none 0 0) := by rw [Go.Joins.cell_of_block hR2.out]; rfl
    have rf2 := Go.Joins.unfrozen_of_block hR2.out
    have hz2 := hb2.size
    have rl2 : Y + 1 < w2.heap.size := by omega
    have xl2 : X < w2.heap.size := by omega
    clear hp hord hoM hrdM hbl hb2 hML hsc
    go_wp2_with fail
    refine bodyPost_ret (v := .agg #[.slice Ao k co]) ?_ rfl ⟨Ao, co, rfl, ?_, ?_⟩
    · have r3 : (w2.setCell ⟨Y + 1, 0, none⟩ (.slice Ao k co)).cell? ⟨Y + 1, 0, none⟩ = some (.slice Ao k co) := by rw [Go.Joins.cell_of_block (Go.Joins.block_setCell hR2.out _)]; rfl
      simp [results, Tryz.results41, go_sem, r3]
    · rw [← heq.out]
      have h1 := hrd.out.frame (w' := w2.setCell ⟨Y + 1, 0, none⟩ (.slice Ao k co)) good_ring ((SameB.refl _ _ w2).setCell (p := ⟨Y + 1, 0, none⟩) (.inl (by show Y + 1 < X + 1; omega)) _)
      exact h1.wide good_ring (by have := hY.out; omega) (by simp)
    · exact hB2.out.setCell (by show w.heap.size ≤ Y + 1; have := hY.out; omega) _
  have hki : (k : Int) < (n : Int) := by omega
  have i1 : (0 : Int) ≤ (k : Int) ∧ (k : Int) < (n : Int) := by omega
  have hsx : SameB lo hi v0 xr := Below.sameB (hbx.mono (show hi ≤ X by omega)) (Nat.le_refl _)
  have hrx := hr0.out.frame good_ring hsx
  have hcx := hcap0.out.frame hr0.out hsx
  obtain ⟨b, off, K, A2, n2, c2, hAb, hb1, hb, hja, q0, hm, hrk⟩ := reg_at hrx hlt
  have hc2 := hcx k b off A2 n2 c2 hlt hAb q0
  subst hAb
  have hbw : b < xr.heap.size := by omega
  obtain ⟨f1, f2, f3⟩ := hR.out K (List.mem_of_getElem? hja)
  have hn2 := hrk.1
  subst hn2
  have hFk := Lib.hid (hLa.out k K hja)
  have hXx := Lib.hid hXb
  have hHx := Lib.hid hbx
  have hal3 := Go.Joins.below_alloc1 xr (.cells #[.slice A2 K.length c2] 42 (0, 0))
  have hbo3 := heap_alloc_new xr (.cells #[.slice A2 K.length c2] 42 (0, 0))
  have hz4 : (xr.alloc (.cells #[.slice A2 K.length c2] 42 (0, 0))).heap.size = xr.heap.size + 1 := by simp
  have hX4 := Lib.hid ((hal3.block X hXl).trans hXb)
  have hrk4 := hrk.frame (good_flat _) (Below.sameB hal3 (by omega))
  have hAL := Lib.hid hal3
  clear hja hm hb1 hrx hcx hXb hbx hsx hal3
  go_upto_region 5 with fail
  generalize xr.alloc (.cells #[.slice A2 K.length c2] 42 (0, 0)) = w4 at *
  obtain ⟨Z, hZ⟩ : ∃ Z, Z = xr.heap.size := ⟨_, rfl⟩
  rw [← hZ] at hbo3 hz4 ⊢
  have hZ4 : Z < w4.heap.size := by omega
  have hzw4 : xr.heap.size ≤ w4.heap.size := by omega
  have z4 : w4.cell? ⟨Z, 0, none⟩ = some (.slice A2 K.length c2) := by rw [Go.Joins.cell_of_block hbo3]; rfl
  have x4 : w4.cell? ⟨X, 0, none⟩ = some (.slice Ao k co) := by rw [Go.Joins.cell_of_block hX4.out]; rfl
  have hXl4 : X < w4.heap.size := by omega
  have hlz : X < Z := by omega
  replace hZ := Lib.hid hZ
  have hrow4 := Lib.hid (own_below hto.out.1 hAL.out)
  have hcT := Lib.hid (turnRing_any A2 K.length c2 lo hi K w4.drew (hrk4) hc2 (by show hi ≤ w4.heap.size; omega) f1 f2 f3)
  clear hbo3 hrk4 hrk f3
  go_wp2_with fail
  refine wp_region_head 6 (fun w' => w'.cell? ⟨X, 0, none⟩ = some (.slice Ao k co) ∧ w'.cell? ⟨Z, 0, none⟩ = some (.slice A2 K.length c2)) (by kernel_rfl) (by kernel_rfl) (by exact ⟨x4, z4⟩) (fun hHeld => ?_)
  simp only [List.take_succ_cons, List.take_zero, List.drop_succ_cons, List.drop_zero]
  refine wpAnyH_take (i := 0) (v := ?_) ((List.getElem?_toArray).trans rfl) (by kernel_rfl) (by kernel_rfl) (by kernel_rfl) (fun _ _ _ h => h) (Or.inl ⟨by rfl, ?_⟩) (by assumption) ?_
  rotate_left
  · (intro w hSw; (try dsimp only at hSw); go_simp; (try (with_reducible rfl)))
  (try simp only [Act.put, List.setIfInBounds_toArray, List.set_cons_zero, List.set_cons_succ])
  refine wpAnyH_take (i := 1) (v := ?_) ((List.getElem?_toArray).trans rfl) (by kernel_rfl) (by kernel_rfl) (by kernel_rfl) (fun _ _ _ h => h) (Or.inl ⟨by rfl, ?_⟩) (by assumption) ?_
  rotate_left
  · (intro w hSw; (try dsimp only at hSw); go_simp; (try (with_reducible rfl)))
  (try simp only [Act.put, List.setIfInBounds_toArray, List.set_cons_zero, List.set_cons_succ])
  refine wpAnyH_take (i := 2) (v := ?_) ((List.getElem?_toArray).trans rfl) (by kernel_rfl) (by kernel_rfl) (by kernel_rfl) (fun _ _ _ h => h) (Or.inl ⟨by rfl, ?_⟩) (by assumption) ?_
  rotate_left
  · (intro w hSw; (try dsimp only at hSw); go_simp; (try (with_reducible rfl)))
  (try simp only [Act.put, List.setIfInBounds_toArray, List.set_cons_zero, List.set_cons_succ])
  refine wpAnyH_ready (rs := [3]) (by kernel_rfl) (by simp) ?_
  refine AllReadyH.cons ((List.getElem?_toArray).trans rfl) (fun K0 hK0 => ?_) AllReadyH.nil
  (go_simp; go_at_call 60; refine (hcT.out).mono ?_; rintro e w5 ⟨A6, c6, rfl, ho6, hb6⟩; have H5 : w5.heap[X]? = w4.heap[X]? := hb6.block X hXl4; have q5 : w5.cell? ⟨X, 0, none⟩ = some (.slice Ao k co) := (World.cell?_of_block H5).trans x4; have hz5 : w4.heap.size ≤ w5.heap.size := hb6.size; replace H5 := Lib.hid H5; have HO6 := Lib.hid ho6; have HB6 : Hid (Below w4.heap.size w4 w5) := Lib.hid ((Below.drew (Below.refl w4.heap.size w4)).trans hb6); clear ho6 hb6; dsimp only)
  refine hK0.out _ _ ?_ (fun hHeld => ?_)
  · (exact ⟨q5, (HB6.out.cell (p := ⟨Z, 0, none⟩) hZ4).trans z4⟩)
  clear hK0 K0
  (try simp only [Act.put, List.setIfInBounds_toArray, List.set_cons_zero, List.set_cons_succ])
  refine wpAnyH_ready (rs := [4]) (by kernel_rfl) (by simp) ?_
  refine AllReadyH.cons ((List.getElem?_toArray).trans rfl) (fun K0 hK0 => ?_) AllReadyH.nil
  go_simp
  refine hK0.out _ _ ?_ (fun hHeld => ?_)
  · (exact ⟨Lib.cell?_alloc_some _ q5, Lib.cell?_alloc_some _ ((HB6.out.cell (p := ⟨Z, 0, none⟩) hZ4).trans z4)⟩)
  clear hK0 K0
  (try simp only [Act.put, List.setIfInBounds_toArray, List.set_cons_zero, List.set_cons_succ])
  refine wpAnyH_ready (rs := [5]) (by kernel_rfl) (by simp) ?_
  refine AllReadyH.cons ((List.getElem?_toArray).trans rfl) (fun K0 hK0 => ?_) AllReadyH.nil
  (refine stepAppAt rfl (.tmp 14) (.tmp 17) elemRing rfl (v := .slice Ao k co) (n := k) (xs := ys) rfl ((own_below hrow4.out HB6.out).alloc _) rfl (src_at (cs := [.slice A6 K.length c6]) rfl (by simp [Value.oneCell']) (by simp)) (by omega) (by omega) (by simp; omega) (k + 1) rfl ?_; intro A7 c7 w7 ho7 hg7; have hk7 : w7.heap[X]? = w5.heap[X]? := (hg7.block X (by simp; omega) (fun e => by have := (hrow4.out.lt X e.symm).1; omega)).trans (Below.heap_alloc _ _ _ (by omega)); have q7 : w7.cell? ⟨X, 0, none⟩ = some (.slice Ao k co) := (World.cell?_of_block hk7).trans q5; have f7 : ∀ o, w7.frozen? ⟨X, o, none⟩ = false := (fun o => (World.frozen?_of_block (hk7.trans H5.out)).trans (Go.Joins.unfrozen_of_block hX4.out o)); have z7 : w7.cell? ⟨Z, 0, none⟩ = some (.slice A2 K.length c2) := (World.cell?_of_block ((hg7.block Z (by simp; omega) (fun e => by have := (hto.out.1.lt Z e.symm).2; have := hZ.out; omega)).trans (Below.heap_alloc _ _ _ (by omega)))).trans ((HB6.out.cell (p := ⟨Z, 0, none⟩) hZ4).trans z4); have hz7 : w5.heap.size + 1 ≤ w7.heap.size := (by have := hg7.size; simp at this; exact this); replace hk7 := Lib.hid hk7; replace ho7 := Lib.hid ho7; replace hg7 := Lib.hid hg7)
  refine hK0.out _ _ ?_ (fun hHeld => ?_)
  · (exact ⟨q7, z7⟩)
  clear hK0 K0
  (try simp only [Act.put, List.setIfInBounds_toArray, List.set_cons_zero, List.set_cons_succ])
  refine wpAnyH_done (by kernel_rfl) ?_ _
  show wpList _ _ _ _ _ _
  have hbN := Lib.hid (((hAL.out.trans (HB6.out.mono hzw4)).trans ((Go.Joins.below_alloc1 w5 (.cells #[.slice A6 K.length c6] 42 (0, 0))).mono (by omega))))
  have hTl := (turnL_perm K).length_eq
  rw [← hTl] at ho7 HO6
  have hnx := RegTo.next (w1 := w5.alloc (.cells #[.slice A6 (turnL K).length c6] 42 (0, 0))) (B := w4.drew.heap.size) hto.out hFk.out (by rw [hTl]; exact hbN.out) (HO6.out.alloc _) (show xr.heap.size ≤ w4.heap.size from hzw4) (by omega) ho7.out (by rw [hTl]; exact hg7.out)
  go_wp2_with fail
  go_roundw
  case rel =>
    refine ⟨k + 1, A7, c7, _, by go_num, by omega, hnx.set (by show X < X + 1; omega) _, Go.Joins.block_setCell (hk7.out.trans (H5.out.trans hX4.out)) _, ?_⟩
    have h1 := (hHx.out.trans (hAL.out.mono (by omega))).trans (HB6.out.mono (by omega))
    exact (((h1.alloc (by omega) _).grown hg7.out (by simp; omega) (fun g hg => by have := (hrow4.out.lt g hg).1; omega))).setCell (Nat.le_refl _) _
  case measure => simp [intOf]; omega
end Go.Proofs.YtlifiioflkhkoaaGreat

/- slices.Delete of one point. Conditions: as each states. -/
namespace Go.Proofs.YtlifiioflkhkoaaGreat
open Go.RowKit Go.Shelf Go.Lib Go.Sort Go.Proofs
set_option linter.unusedVariables false
set_option maxRecDepth 100000

theorem flat_drop2 (M : List Pnt) (k : Nat) : (M.drop k).flatMap ptC = (M.flatMap ptC).drop (k * 2) := by
  induction M generalizing k with
  | nil => simp
  | cons a M ih =>
    cases k with
    | zero => simp
    | succ k => rw [List.drop_succ_cons, ih, List.flatMap_cons, show (k + 1) * 2 = 2 + k * 2 by omega, ← List.drop_drop]; rfl
theorem setMany_list (F : Array Value) (s : Nat) (vs : List Value) (h : s + vs.length ≤ F.size) : (setMany F s vs).toList = F.toList.take s ++ vs ++ F.toList.drop (s + vs.length) := by
  apply List.ext_getElem
  · simp; omega
  · intro t h1 h2
    have ht : t < F.size := by simpa using h1
    have h3 := get_setMany vs s F t ht
    rw [getElem!_pos _ t (by simpa using ht)] at h3
    rw [Array.getElem_toList, h3]
    by_cases hs : t < s
    · rw [if_neg (by omega), getElem!_pos F t ht, List.getElem_append_left (by simp; omega), List.getElem_append_left (by simp; omega), List.getElem_take, Array.getElem_toList]
    · by_cases hv : t < s + vs.length
      · rw [if_pos (by omega), getElem!_pos vs (t - s) (by omega), List.getElem_append_left (by simp; omega), List.getElem_append_right (by simp; omega)]
        congr 1; simp; omega
      · rw [if_neg (by omega), getElem!_pos F t ht, List.getElem_append_right (by simp; omega), List.getElem_drop, Array.getElem_toList]
        congr 1; simp; omega
theorem del_list {M : List Pnt} {i : Nat} (hi : i < M.length) : (((M.flatMap ptC).take (i * 2) ++ (M.drop (i + 1)).flatMap ptC) ++ (M.flatMap ptC).drop (i * 2 + ((M.drop (i + 1)).flatMap ptC).length)).take ((M.length - 1) * 2) = (M.eraseIdx i).flatMap ptC := by
  have e1 : (M.eraseIdx i).flatMap ptC = (M.flatMap ptC).take (i * 2) ++ (M.drop (i + 1)).flatMap ptC := by
    rw [List.eraseIdx_eq_take_drop_succ, List.flatMap_append, ← flat_take2]
  have hlen : ((M.drop (i + 1)).flatMap ptC).length = (M.length - (i + 1)) * 2 := by rw [flat_length ptC_len, List.length_drop]
  have hlen2 : ((M.flatMap ptC).take (i * 2)).length = i * 2 := by rw [List.length_take, flat_length ptC_len]; omega
  rw [List.take_append_of_le_length (by rw [List.length_append, hlen, hlen2]; omega), List.take_of_length_le (by rw [List.length_append, hlen, hlen2]; omega), e1]

set_option maxHeartbeats 4000000 in
theorem deletePt_any (g n cap B i : Nat) (M : List Pnt) (w : World) (ho : w.ownsRow B 28 2 (.slice (some ⟨g, 0, none⟩) n cap) n (M.flatMap ptC)) (hl : M.length = n) (hi : i < n) (hn : n ≤ 1000) :
    Calls Tryz.prog 59 #[.slice (some ⟨g, 0, none⟩) n cap, .int .i64 i, .int .i64 ((i : Int) + 1)] w fun e w' => e = .returned (.slice (some ⟨g, 0, none⟩) (n - 1) cap) ∧ w'.ownsRow B 28 2 (.slice (some ⟨g, 0, none⟩) (n - 1) cap) (n - 1) ((M.eraseIdx i).flatMap ptC) ∧ Below B w w' := by
  obtain ⟨hgB, hgl⟩ := ho.lt g rfl
  have hnc : n ≤ cap := by
    rcases ho.2 with ⟨h1, _⟩ | ⟨g', c', cur, hv, _, _, h5, _⟩
    · cases h1
    · injection hv with _ _ h3; omega
  have hcm : cap ≤ 9223372036854775807 := by
    rcases ho.2 with ⟨h1, _⟩ | ⟨g', c', cur, hv, _, _, _, h5, _⟩
    · cases h1
    · injection hv with _ _ h3; unfold maxLen at h5; omega
  obtain ⟨F, hF⟩ : ∃ F : Array Value, F = (M.flatMap ptC).toArray := ⟨_, rfl⟩
  have hFs : F.size = n * 2 := by rw [hF]; simp only [List.size_toArray]; rw [flat_length ptC_len, hl]
  have hH : Sort.Holds id (Sort.ahead w 1) g 0 F := by
    intro j hj
    rw [hFs] at hj
    refine ⟨?_, by rw [Nat.zero_add]; exact ho.frozenAt j⟩
    rw [Nat.zero_add]
    have h1 := ho.cellAt j hj
    refine h1.trans ?_
    rw [hF, getElem!_pos _ j (by simp only [List.size_toArray]; rw [flat_length ptC_len, hl]; exact hj), List.getElem?_eq_getElem (by rw [flat_length ptC_len, hl]; exact hj)]
    rfl
  obtain ⟨news, hnews⟩ : ∃ news, news = (M.drop (i + 1)).flatMap ptC := ⟨_, rfl⟩
  have hnl : news.length = (n - (i + 1)) * 2 := by rw [hnews, flat_length ptC_len, List.length_drop, hl]
  obtain ⟨W1, hW1⟩ : ∃ W1, W1 = w.drew.setCells g (0 + i * 2) news := ⟨_, rfl⟩
  have hW2 : W1 = Sort.putRow id (Sort.ahead w 1) g 0 (setMany F (i * 2) news) := by
    rw [hW1, ← setCells_putRow _ _ _ _ _ _ (by rw [hFs, hnl]; omega), Sort.putRow_self id _ g 0 F hH]; rfl
  have ho1 : W1.ownsRow B 28 2 (.slice (some ⟨g, 0, none⟩) n cap) n (setMany F (i * 2) news).toList := by
    rw [hW2]; exact own_putK ho (by rw [size_setMany, hFs])
  have ho2 := own_cut ho1 (k := n - 1) (by omega)
  have hlist : ((setMany F (i * 2) news).toList).take ((n - 1) * 2) = (M.eraseIdx i).flatMap ptC := by
    rw [setMany_list _ _ _ (by rw [hFs, hnl]; omega), hF, hnews, ← hl]
    exact del_list (by omega)
  rw [hlist] at ho2
  obtain ⟨Dd, hDd⟩ : ∃ Dd, Dd = (M.eraseIdx i).flatMap ptC := ⟨_, rfl⟩
  rw [← hDd] at ho2 ⊢
  have hb1 : Below B w W1 := by rw [hW1]; exact below_sets hgB _ _ _ (Below.drew (Below.refl _ _))
  have hsrc : ∃ A : Addr, (if cap - (i + 1) = 0 then some ⟨g, 0, none⟩ else some ⟨g, (i + 1) * 2, none⟩) = some A ∧ Hid (∀ t u, news[t]? = some u → w.drew.cell? (A.add t) = some u) := by
    by_cases h : cap - (i + 1) = 0
    · refine ⟨⟨g, 0, none⟩, by rw [if_pos h], fun t u hu => ?_⟩
      have h0 : news.length = 0 := by rw [hnl]; omega
      rw [List.length_eq_zero_iff.1 h0] at hu
      simp at hu
    · refine ⟨⟨g, (i + 1) * 2, none⟩, by rw [if_neg h], fun t u hu => ?_⟩
      have ht := (List.getElem?_eq_some_iff.1 hu).1
      rw [Addr.add_lit]
      have h1 := ho.cellAt ((i + 1) * 2 + t) (by rw [hnl] at ht; omega)
      rw [hnews, flat_drop2, List.getElem?_drop] at hu
      exact h1.trans hu
  have s1 : Hid (news.length = (n - (i + 1)) * 2) := hnl
  have s2 : Hid (∀ u ∈ news, u.oneCell' = true) := by
    intro u hu
    rw [hnews] at hu
    obtain ⟨x, _, hx⟩ := List.mem_flatMap.1 hu
    exact ptC_one x u hx
  have s3 : Hid (∀ t, t < news.length → (w.drew.cell? ⟨g, 0 + i * 2 + t, none⟩).isSome = true ∧ w.drew.frozen? ⟨g, 0 + i * 2 + t, none⟩ = false) := by
    intro t ht
    rw [hnl] at ht
    rw [Nat.zero_add]
    exact ⟨by show (w.cell? _).isSome = true; rw [ho.cellAt _ (by omega), List.getElem?_eq_getElem (by rw [flat_length ptC_len]; omega)]; rfl, ho.frozenAt _⟩
  obtain ⟨vs, hcl⟩ := run_clear2 W1 0 g ((n - 1) * 2) 1 (cap - (n - 1)) (by omega) (fun j hj => by rw [ho1.cellAt _ (by omega), List.getElem?_eq_getElem (by rw [Array.length_toList, size_setMany, hFs]; omega)]; rfl) (fun j hj => ho1.frozenAt _)
  have hfin := Lib.hid (own_pasts vs ((n - 1) * 2) W1 ho2 (Nat.le_refl _))
  have hfb := Lib.hid (below_sets hgB vs ((n - 1) * 2) W1 hb1)
  have i0 : ∃ i0 : TypeInfo, Tryz.prog.info? 28 = some i0 ∧ i0.size = 2 := by
    have h := infoPt
    cases hp : Tryz.prog.info? 28 with
    | none => rw [hp] at h; cases h
    | some a => rw [hp] at h; simp at h; exact ⟨a, rfl, h.2.1⟩
  obtain ⟨i0, hi0, hz2⟩ := i0
  have hW : Hid (W1 = w.drew.setCells g (0 + i * 2) news) := hW1
  have e1 : IntKind.i64.wrap ((i : Int) + 1) = (i : Int) + 1 := wi (by omega)
  have e2 : ((i : Int) + 1).toNat = i + 1 := by omega
  have e3 : (0 : Int) ≤ (i : Int) ∧ (i : Int) ≤ (i : Int) + 1 ∧ (i : Int) + 1 ≤ (n : Int) ∧ (n : Int) ≤ (cap : Int) := by omega
  have e4 : ((i : Int) == (i : Int) + 1) = false := by simp; omega
  have e5 : ¬ (i : Int) = (i : Int) + 1 := by omega
  have e6 : i ≤ cap ∧ i + 1 ≤ n ∧ n ≤ cap := by omega
  have e7 : i + (n - (i + 1)) = n - 1 := by omega
  have e8 : n - (n - 1) = 1 := by omega
  clear ho hW1 hW2 ho1 ho2 hlist hH hF hFs hnews hnl hDd hb1
  have mixed : Tryz.prog.follows .mixedOrders = true := by kernel_rfl
  have e9 : (0 : Int) ≤ (i : Int) + 1 := by omega
  have e10 : (0 : Int) ≤ ((n - 1 : Nat) : Int) ∧ ((n - 1 : Nat) : Int) ≤ (n : Int) := by omega
  have e11 : ¬ cap = n - 1 := by omega
  have e12 : ¬ (cap - (n - 1) = 0) := by omega
  have e13 : n - 1 ≤ n := by omega
  by_cases hck : cap = i + 1
  · have hsr : Hid (∀ t u, news[t]? = some u → w.drew.cell? ((⟨g, 0, none⟩ : Addr).add t) = some u) := by
      obtain ⟨A, h1, h2⟩ := hsrc
      rw [if_pos (by omega)] at h1
      injection h1 with h1
      subst h1; exact h2
    have hck2 : cap - (i + 1) = 0 := by omega
    have hck3 := Lib.hid hck.symm
    clear hsrc hck
    go_enter Tryz.func59, Tryz.ntmps59
    go_wp2_with fail
    go_region_law_o (refine step_append_room rfl (.tmp 22) (.tmp 25) 40 rfl 28 i0 2 Tryz.underlying40 hi0 hz2 g 0 i cap (by simp [Act.eval, Act.put]) ⟨g, 0, none⟩ (n - (i + 1)) (cap - (i + 1)) news (by simp [Act.eval, Act.put, hck3.out]) s1.out hsr.out s2.out (by omega) s3.out ?_; rw [← hW.out, e7])
    go_wp2_with fail
    go_ret
    exact ⟨by rw [hck3.out]; rfl, by rw [hck3.out]; exact hfin.out, hfb.out⟩
  · have hsr : Hid (∀ t u, news[t]? = some u → w.drew.cell? ((⟨g, (i + 1) * 2, none⟩ : Addr).add t) = some u) := by
      obtain ⟨A, h1, h2⟩ := hsrc
      rw [if_neg (by omega)] at h1
      injection h1 with h1
      subst h1; exact h2
    have hck2 : ¬ (cap - (i + 1) = 0) := by omega
    clear hsrc
    go_enter Tryz.func59, Tryz.ntmps59
    go_wp2_with fail
    go_region_law_o (refine step_append_room rfl (.tmp 22) (.tmp 25) 40 rfl 28 i0 2 Tryz.underlying40 hi0 hz2 g 0 i cap (by simp [Act.eval, Act.put]) ⟨g, (i + 1) * 2, none⟩ (n - (i + 1)) (cap - (i + 1)) news (by simp [Act.eval, Act.put]) s1.out hsr.out s2.out (by omega) s3.out ?_; rw [← hW.out, e7])
    go_wp2_with fail
    go_ret
    exact ⟨rfl, hfin.out, hfb.out⟩
end Go.Proofs.YtlifiioflkhkoaaGreat

/- A ring without the points at which it does not turn. Conditions: as each states. -/
namespace Go.Proofs.YtlifiioflkhkoaaGreat
open Go.RowKit
set_option linter.unusedVariables false
set_option maxRecDepth 100000

theorem flat1_none {L : List Pnt} (h : ∀ j, j < L.length → flatAt L j = false) : flat1 L = none := by
  unfold flat1
  rw [List.find?_eq_none]
  intro x hx
  rw [h x (List.mem_range.1 hx)]; simp
theorem flat1_first {L : List Pnt} {i : Nat} (hi : i < L.length) (h : flatAt L i = true) (hj : ∀ j, j < i → flatAt L j = false) : flat1 L = some i := by
  unfold flat1
  rw [List.find?_range_eq_some]
  exact ⟨h, List.mem_range.2 hi, fun j hj' => by rw [hj j hj']; rfl⟩
theorem simpF_none {L : List Pnt} (h : flat1 L = none) (k : Nat) : simpF k L = L := by
  cases k with
  | zero => rfl
  | succ k => unfold simpF; rw [h]
theorem simpF_some {L : List Pnt} {i : Nat} (h : flat1 L = some i) : simpF L.length L = simpF (L.eraseIdx i).length (L.eraseIdx i) := by
  have hi := (flat1_some h).1
  have hl : (L.eraseIdx i).length = L.length - 1 := by rw [List.length_eraseIdx, if_pos hi]
  obtain ⟨k, hk⟩ : ∃ k, L.length = k + 1 := ⟨L.length - 1, by omega⟩
  rw [hl, hk, simpF, h, Nat.add_sub_cancel]

set_option maxHeartbeats 8000000 in
theorem simplifyRing_any (A : Option Addr) (n c lo hi : Nat) (L : List Pnt) (w : World) (hr : RdS 2 (FlatR ptC) w lo hi A n L) (hhi : hi ≤ w.heap.size) (hz : A = none → n = 0) (hn : n ≤ 1000) (hok : ∀ p ∈ L, pt2Ok p = true) :
    Calls Tryz.prog 40 #[.slice A n c] w fun e w' => ∃ A' c', e = .returned (.slice A' (simpL L).length c') ∧ w'.ownsRow w.heap.size 28 2 (.slice A' (simpL L).length c') (simpL L).length ((simpL L).flatMap ptC) ∧ Below w.heap.size w w' := by
  have hl := hr.1
  obtain ⟨T, hT⟩ : ∃ T, T = simpL L := ⟨_, rfl⟩
  have hT0 : Hid (T = simpF L.length L) := hT
  rw [← hT]
  replace hT := Lib.hid hT
  have hcl := Lib.hid (clonePtQ_any A n c lo hi L w hr (by omega) hz)
  have hsub : Hid (∀ K : List Pnt, (∀ p ∈ K, pt2Ok p = true) → ∀ i, ∀ p ∈ K.eraseIdx i, pt2Ok p = true) := fun K h i p hp => h p (List.mem_of_mem_eraseIdx hp)
  replace hok := Lib.hid hok
  clear hr
  go_enter Tryz.func40, Tryz.ntmps40
  go_wp2_with fail
  refine hcl.out.mono ?_
  rintro e w1 ⟨A1, c1, rfl, ho1, hb1⟩
  clear hcl
  have HO1 := Lib.hid ho1
  clear ho1
  go_wp2_with fail
  go_loopg [3, 4, 5, 6, 11, 12, 13] n (fun kx s3 s4 s5 s6 s11 s12 s13 wr => ∃ (K : List Pnt) (m : Nat) (A3 : Option Addr) (c3 : Nat), s3 = .slice A3 m c3 ∧ K.length = m ∧ m ≤ n ∧ m ≤ kx ∧ Hid (T = simpF K.length K ∧ ∀ p ∈ K, pt2Ok p = true) ∧ Hid (wr.ownsRow w.heap.size 28 2 (.slice A3 m c3) m (K.flatMap ptC)) ∧ Below w.heap.size w wr)
  case atStart => exact ⟨L, n, A1, c1, rfl, hl, Nat.le_refl _, Nat.le_refl _, ⟨hT0.out, hok.out⟩, HO1.out, hb1⟩
  case round =>
  clear HO1 hb1
  obtain ⟨K, m, A3, c3, rfl, hKl, hmn, hmx, HK, HO, hbr⟩ := hrel
  generalize wr = xr at *
  have hKlH := Lib.hid hKl
  clear hKl
  go_wp2_with fail
  go_loopg [5, 6, 13] m (fun ky s5 s6 s13 wr => ∃ i : Nat, s13 = .int .i64 i ∧ s5 = .int .i64 (-1) ∧ i ≤ m ∧ m - i ≤ ky ∧ Hid (∀ j, j < i → flatAt K j = false) ∧ Below xr.heap.size xr wr)
  case atStart => exact ⟨0, rfl, rfl, Nat.zero_le _, Nat.le_refl _, fun j hj => absurd hj (Nat.not_lt_zero j), Below.refl _ _⟩
  case round =>
  obtain ⟨i, rfl, rfl, hi, hky, HF, hbi⟩ := hrel
  have hzi := hbi.size
  have hzx := hbr.size
  by_cases hlt : i < m
  rotate_left
  · have hki : ¬ (i : Int) < (m : Int) := by omega
    have hTK : Hid (T = K) := by
      show _ = _
      rw [HK.out.1]
      exact simpF_none (flat1_none fun j hj => HF.out j (by have := hKlH.out; omega)) _
    have hmT : Hid (m = T.length) := by show _ = _; rw [hTK.out]; exact hKlH.out.symm
    go_wp2_with fail
    go_ret
    refine ⟨A3, c3, by rw [← hmT.out]; rfl, ?_, hbr.trans (hbi.mono hzx)⟩
    rw [← hmT.out, hTK.out]
    exact own_below HO.out hbi
  have hki : (i : Int) < (m : Int) := by omega
  have hrd := rdS_own ptC_len (by omega) HO.out hKlH.out
  obtain ⟨b, off, rfl, _, hb, hcs⟩ := (hrd.frame (good_flat _) (Below.sameB hbi (Nat.le_refl _))).pts (by omega)
  obtain ⟨u, hu⟩ : ∃ u, u = (i + m - 1) % m := ⟨_, rfl⟩
  obtain ⟨v, hv⟩ : ∃ v, v = (i + 1) % m := ⟨_, rfl⟩
  have hum : u < m := by rw [hu]; exact Nat.mod_lt _ (by omega)
  have hvm : v < m := by rw [hv]; exact Nat.mod_lt _ (by omega)
  obtain ⟨c10, c11⟩ := hcs u hum
  obtain ⟨c20, c21⟩ := hcs i hlt
  obtain ⟨c30, c31⟩ := hcs v hvm
  have hpo : ∀ j, j < m → pt2Ok (ptAt K j) = true := fun j hj => HK.out.2 _ (ptL_mem (by have := hKlH.out; omega))
  have ok1 := hpo u hum
  have ok2 := hpo i hlt
  have ok3 := hpo v hvm
  have hfl : flatAt K i = decide (tn (ptAt K u) (ptAt K i) (ptAt K v) = 0) := by unfold flatAt; rw [hKlH.out, hu, hv]
  obtain ⟨⟨ax, ay⟩, ha⟩ : ∃ a, a = ptAt K u := ⟨_, rfl⟩
  obtain ⟨⟨bx, ey⟩, hbp⟩ : ∃ a, a = ptAt K i := ⟨_, rfl⟩
  obtain ⟨⟨px, py⟩, hpp⟩ : ∃ a, a = ptAt K v := ⟨_, rfl⟩
  rw [← ha] at c10 c11 hfl ok1
  rw [← hbp] at c20 c21 hfl ok2
  rw [← hpp] at c30 c31 hfl ok3
  simp only at c10 c11 c20 c21 c30 c31
  obtain ⟨t, ht⟩ : ∃ t, t = turnI ax ay bx ey px py := ⟨_, rfl⟩
  have hcall := Lib.hid (fun dr os => Calls.regrown_of (w := wr) (d := dr) (os := os) (turn_any ax ay bx ey px py (Go.Sort.grow (redrawn wr dr) os) ok1 ok2 ok3))
  unfold tn at hfl
  simp only at hfl
  rw [← ht] at hcall hfl
  have hbw : b < wr.heap.size := by omega
  obtain ⟨y0, hy0⟩ : ∃ y, y = i + m := ⟨_, rfl⟩
  obtain ⟨y1, hy1⟩ : ∃ y, y = i + m - 1 := ⟨_, rfl⟩
  obtain ⟨y2, hy2⟩ : ∃ y, y = i + 1 := ⟨_, rfl⟩
  have q1 : IntKind.i64.wrap ((i : Int) + (m : Int)) = (y0 : Int) := by rw [wi (by omega)]; omega
  have q2 : IntKind.i64.wrap ((y0 : Int) - 1) = (y1 : Int) := by rw [wi (by omega)]; omega
  have q3 : (y1 : Int).tmod (m : Int) = (u : Int) := by rw [mod_i, hy1, hu]
  have q4 : IntKind.i64.wrap ((i : Int) + 1) = (y2 : Int) := by rw [wi (by omega)]; omega
  have q5 : (y2 : Int).tmod (m : Int) = (v : Int) := by rw [mod_i, hy2, hv]
  have q6 : ¬ m = 0 := by omega
  have q7 : IntKind.i64.wrap (u : Int) = (u : Int) := wi (by omega)
  have q8 : IntKind.i64.wrap (v : Int) = (v : Int) := wi (by omega)
  have i1 : (0 : Int) ≤ (u : Int) ∧ (u : Int) < (m : Int) := by omega
  have i2 : (0 : Int) ≤ (i : Int) ∧ (i : Int) < (m : Int) := by omega
  have i3 : (0 : Int) ≤ (v : Int) ∧ (v : Int) < (m : Int) := by omega
  have kc10 : ∀ dr os, (Go.Sort.grow (redrawn wr dr) os).cell? ⟨b, off + u * 2, none⟩ = some (.int .i64 ax) := cell_regrown c10
  have kc11 : ∀ dr os, (Go.Sort.grow (redrawn wr dr) os).cell? ⟨b, off + u * 2 + 1, none⟩ = some (.int .i64 ay) := cell_regrown c11
  have kc20 : ∀ dr os, (Go.Sort.grow (redrawn wr dr) os).cell? ⟨b, off + i * 2, none⟩ = some (.int .i64 bx) := cell_regrown c20
  have kc21 : ∀ dr os, (Go.Sort.grow (redrawn wr dr) os).cell? ⟨b, off + i * 2 + 1, none⟩ = some (.int .i64 ey) := cell_regrown c21
  have kc30 : ∀ dr os, (Go.Sort.grow (redrawn wr dr) os).cell? ⟨b, off + v * 2, none⟩ = some (.int .i64 px) := cell_regrown c30
  have kc31 : ∀ dr os, (Go.Sort.grow (redrawn wr dr) os).cell? ⟨b, off + v * 2 + 1, none⟩ = some (.int .i64 py) := cell_regrown c31
  have hm1000 : m ≤ 1000 := by omega
  replace hfl := Lib.hid hfl
  have hbrH := Lib.hid hbr
  have hbiH := Lib.hid hbi
  have hyy : Hid (y2 = i + 1) := hy2
  clear hcs hb ha hbp hpp ht hu hv hy0 hy1 hy2 c10 c11 c20 c21 c30 c31 ok1 ok2 ok3 hpo hrd hbr hbi
  by_cases ht0 : t = 0
  · have htb : (t == 0) = true := by simp [ht0]
    have hfl2 : Hid (flatAt K i = true) := by show _ = _; rw [hfl.out]; exact decide_eq_true ht0
    replace ht0 := Lib.hid ht0
    go_wp2_with fail
    refine wp_region_quiet_below (by kernel_rfl) (by kernel_rfl) ?_
    repeat (go_big_quiet_step (first | (with_reducible exact hcall.out _ _)))
    refine wpQuiet_nil ?_
    intro _ hw'
    obtain ⟨⟨dq, osq⟩, hw''⟩ := hw'
    subst hw''
    have hb9 := Lib.hid (hbiH.out.trans ((below_regrown wr dq osq).mono hzi))
    generalize Go.Sort.grow (redrawn wr dq) osq = w9 at *
    have HO9 := own_below HO.out hb9.out
    have hbg : b = b ∧ off = 0 := by
      obtain ⟨g, hg, _⟩ := own_at HO.out (by omega)
      injection hg with hg
      injection hg with e1 e2
      exact ⟨rfl, e2⟩
    obtain ⟨_, rfl⟩ := hbg
    have hdel := Lib.hid (deletePt_any b m c3 w.heap.size i K w9 HO9 hKlH.out hlt hm1000)
    have hneg : ¬ (i : Int) < 0 := by omega
    clear kc10 kc11 kc20 kc21 kc30 kc31 hcall q1 q2 q3 q5 q6 q7 q8 i1 i3
    have q4' : IntKind.i64.wrap ((i : Int) + 1) = (i : Int) + 1 := wi (by omega)
    clear q4
    go_wp2_with fail
    refine hdel.out.mono ?_
    rintro e w10 ⟨rfl, ho10, hb10⟩
    have HO10 := Lib.hid ho10
    have hbN := Lib.hid ((hbrH.out.trans (hb9.out.mono hzx)).trans hb10)
    have hlen : Hid ((K.eraseIdx i).length = m - 1) := by show _ = _; rw [List.length_eraseIdx, hKlH.out, if_pos hlt]
    clear ho10 hdel
    go_wp2_with fail
    go_roundg (m - 1)
    case measure => omega
    case rel => exact ⟨K.eraseIdx i, m - 1, some ⟨b, 0, none⟩, c3, rfl, hlen.out, by omega, Nat.le_refl _, ⟨by rw [HK.out.1]; exact simpF_some (flat1_first (by have := hKlH.out; omega) hfl2.out HF.out), hsub.out K HK.out.2 i⟩, HO10.out, hbN.out⟩
  · have htb : (t == 0) = false := by simp [ht0]
    have hfl2 : Hid (flatAt K i = false) := by show _ = _; rw [hfl.out]; exact decide_eq_false ht0
    replace ht0 := Lib.hid ht0
    go_wp2_with fail
    refine wp_region_quiet_below (by kernel_rfl) (by kernel_rfl) ?_
    repeat (go_big_quiet_step (first | (with_reducible exact hcall.out _ _)))
    refine wpQuiet_nil ?_
    intro _ hw'
    obtain ⟨⟨dq, osq⟩, hw''⟩ := hw'
    subst hw''
    have hb9 := Lib.hid (hbiH.out.trans ((below_regrown wr dq osq).mono hzi))
    generalize Go.Sort.grow (redrawn wr dq) osq = w9 at *
    clear kc10 kc11 kc20 kc21 kc30 kc31 hcall q1 q2 q3 q5 q6 q7 q8 i1 i3
    go_wp2_with fail
    go_roundg (m - (i + 1))
    case measure => omega
    case rel => exact ⟨i + 1, by rw [hyy.out], rfl, by omega, Nat.le_refl _, fun j hj => (by
      rcases Nat.lt_or_ge j i with h | h
      · exact HF.out j h
      · obtain rfl : j = i := by omega
        exact hfl2.out), hb9.out⟩
end Go.Proofs.YtlifiioflkhkoaaGreat

