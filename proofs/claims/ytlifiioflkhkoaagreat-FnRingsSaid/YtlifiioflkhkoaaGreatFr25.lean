/- Regions tidied: rings simplified, turned and ordered. Printed by mk_rs3.py. Conditions: as each states. -/
import Derived.Test.YtlifiioflkhkoaaGreatFr24
namespace Go.Proofs.YtlifiioflkhkoaaGreat
open Go.RowKit
set_option linter.unusedVariables false
set_option maxRecDepth 100000

theorem keepS_yes {Rs : List (List Pnt)} {k : Nat} {K : List Pnt} (h : Rs[k]? = some K) (hne : 0 < (simpL K).length) : keepS (Rs.take (k + 1)) = keepS (Rs.take k) ++ [simpL K] := by
  unfold keepS
  rw [List.take_add_one, h]
  simp only [Option.toList_some, List.map_append, List.map_cons, List.map_nil, List.filter_append]
  congr 1
  rw [List.filter_cons_of_pos]
  · rfl
  · cases hK : simpL K with
    | nil => rw [hK] at hne; simp at hne
    | cons a b => rfl
theorem keepS_no {Rs : List (List Pnt)} {k : Nat} {K : List Pnt} (h : Rs[k]? = some K) (hne : (simpL K).length = 0) : keepS (Rs.take (k + 1)) = keepS (Rs.take k) := by
  unfold keepS
  rw [List.take_add_one, h]
  simp only [Option.toList_some, List.map_append, List.map_cons, List.map_nil, List.filter_append]
  rw [List.eq_nil_of_length_eq_zero hne]
  simp
theorem keepS_pre (Rs : List (List Pnt)) (k : Nat) : ∃ R, keepS Rs = keepS (Rs.take k) ++ R := by
  refine ⟨keepS (Rs.drop k), ?_⟩
  unfold keepS
  rw [← List.filter_append, ← List.map_append, List.take_append_drop]
theorem keepS_at {Rs : List (List Pnt)} {k : Nat} {K : List Pnt} (h : Rs[k]? = some K) (hne : 0 < (simpL K).length) : (keepS Rs)[(keepS (Rs.take k)).length]? = some (simpL K) := by
  obtain ⟨R, hR⟩ := keepS_pre Rs (k + 1)
  rw [hR, keepS_yes h hne, List.append_assoc, List.getElem?_append_right (Nat.le_refl _), Nat.sub_self]; rfl
theorem keepS_len (Rs : List (List Pnt)) : (keepS Rs).length ≤ Rs.length := by
  unfold keepS
  refine Nat.le_trans (List.length_filter_le _ _) ?_
  simp
theorem keepS_mem {Rs : List (List Pnt)} {M : List Pnt} (h : M ∈ keepS Rs) : ∃ L ∈ Rs, M = simpL L ∧ 1 ≤ M.length := by
  unfold keepS at h
  obtain ⟨h1, h2⟩ := List.mem_filter.1 h
  obtain ⟨L, hL, rfl⟩ := List.mem_map.1 h1
  refine ⟨L, hL, rfl, ?_⟩
  cases hK : simpL L with
  | nil => rw [hK] at h2; cases h2
  | cons a b => simp

set_option maxHeartbeats 16000000 in
theorem tidyRegion_any (A : Option Addr) (n c lo hi : Nat) (Rs : List (List Pnt)) (w : World) (hr : RegRd w lo hi A n Rs) (hhi : hi ≤ w.heap.size) (hn : n ≤ 1000) (hR : ∀ K ∈ Rs, K.length ≤ 1000 ∧ ∀ p ∈ K, pt2Ok p = true) :
    Calls Tryz.prog 18 #[.agg #[.slice A n c]] w fun e w' => ∃ A' c', e = .returned (.agg #[.slice A' (tidyR Rs).length c']) ∧ RegRd w' w.heap.size w'.heap.size A' (tidyR Rs).length (tidyR Rs) ∧ Below w.heap.size w w' := by
  have hl := hr.1
  have hb0 : Below w.heap.size w (((w.alloc (.cells #[.slice A n c] 26 (0, 0))).alloc (.cells #[.slice none 0 0] 26 (0, 0))).alloc (.cells #[.slice none 0 0] 26 (0, 0))) := ((Go.Joins.below_alloc2 w _ _).alloc (by simp; omega) _)
  have hnew := heap_new0 w (.cells #[.slice A n c] 26 (0, 0)) (.cells #[.slice none 0 0] 26 (0, 0)) (.cells #[.slice none 0 0] 26 (0, 0))
  have hz0 : (((w.alloc (.cells #[.slice A n c] 26 (0, 0))).alloc (.cells #[.slice none 0 0] 26 (0, 0))).alloc (.cells #[.slice none 0 0] 26 (0, 0))).heap.size = w.heap.size + 3 := by simp
  have hr0 := Lib.hid (hr.frame good_ring (Below.sameB hb0 hhi))
  clear hr
  obtain ⟨Ls, hLs⟩ : ∃ Ls : List (List Pnt), Ls = keepS Rs := ⟨_, rfl⟩
  have hLn : Hid (Ls.length ≤ n) := by rw [hLs, ← hl]; exact keepS_len Rs
  have hLT : Hid ((tidyR Rs).length = Ls.length ∧ tidyR Rs = orderR Ls) := by
    have e : tidyR Rs = orderR Ls := by rw [hLs]; rfl
    refine ⟨?_, e⟩
    rw [e]; unfold orderR
    rw [List.length_mergeSort, List.length_map]
  replace hLs := Lib.hid hLs
  replace hR := Lib.hid hR
  replace hl := Lib.hid hl
  go_enter Tryz.func18, Tryz.ntmps18
  go_upto_region 2 with fail
  generalize ((w.alloc (.cells #[.slice A n c] 26 (0, 0))).alloc (.cells #[.slice none 0 0] 26 (0, 0))).alloc (.cells #[.slice none 0 0] 26 (0, 0)) = v0 at *
  obtain ⟨Y, hY⟩ : ∃ Y, Y = w.heap.size := ⟨_, rfl⟩
  obtain ⟨X, hX⟩ : ∃ X, X = Y + 2 := ⟨_, rfl⟩
  rw [← hY] at hnew hz0 ⊢
  rw [← hX] at hnew ⊢
  obtain ⟨hY0, hR0, hX0⟩ := hnew
  have hXv : X + 1 ≤ v0.heap.size ∧ v0.heap.size ≤ X + 1 ∧ Y + 2 = X ∧ hi ≤ Y := by omega
  have y0 : v0.cell? ⟨Y, 0, none⟩ = some (.slice A n c) := by rw [Go.Joins.cell_of_block hY0]; rfl
  have hyl : Y < v0.heap.size := by omega
  replace hX := Lib.hid hX
  replace hY := Lib.hid hY
  replace hY0 := Lib.hid hY0
  replace hR0 := Lib.hid hR0
  replace hX0 := Lib.hid hX0
  have hB0 := Lib.hid hb0
  clear hb0 hz0
  go_wp2_with fail
  clear y0
  go_loopg [6, 10] n (fun kx s6 iv wr => ∃ (k m : Nat) (Ao : Option Addr) (co : Nat) (ys : List Value), iv = .int .i64 k ∧ k ≤ n ∧ n - k ≤ kx ∧ Hid (m = (keepS (Rs.take k)).length) ∧ m ≤ k ∧ RegTo wr (X + 1) Ao m co ys Ls ∧ wr.heap[X]? = some (.cells #[.slice Ao m co] 26 (0, 0)) ∧ Below X v0 wr)
  case atStart => exact ⟨0, 0, none, 0, [], rfl, Nat.zero_le _, Nat.le_refl _, rfl, Nat.le_refl _, ⟨World.ownsRow_nil _ _ _ _, fun j K hj => absurd hj (Nat.not_lt_zero j), fun i j u v _ hu => by simp at hu⟩, hX0.out, Below.refl _ _⟩
  case round =>
  clear hX0
  obtain ⟨k, m, Ao, co, ys, rfl, hk, hkx, hm, hmk, hto, hXb, hbx⟩ := hrel
  generalize wr = xr at *
  have hzx := hbx.size
  have hXl : X < xr.heap.size := (Array.getElem?_eq_some_iff.1 hXb).1
  have hBx := Lib.hid (hB0.out.trans (hbx.mono (by have := hY.out; omega)))
  have hRx := Lib.hid ((hbx.block (Y + 1) (by omega)).trans hR0.out)
  replace hto := Lib.hid hto
  by_cases hlt : k < n
  rotate_left
  · have hkn : k = n := by omega
    have hki : ¬ (k : Int) < (n : Int) := by omega
    have xc : xr.cell? ⟨X, 0, none⟩ = some (.slice Ao m co) := by rw [Go.Joins.cell_of_block hXb]; rfl
    have hmL : Ls.length = m := by rw [hm.out, hLs.out, List.take_of_length_le (by have := hl.out; omega)]
    have hbd : ∀ K ∈ Ls, 1 ≤ K.length ∧ K.length ≤ 1000 ∧ ∀ p ∈ K, pt2Ok p = true := by
      intro K hK
      rw [hLs.out] at hK
      obtain ⟨L, hL, rfl, h1⟩ := keepS_mem hK
      obtain ⟨h2, h3⟩ := hR.out L hL
      exact ⟨h1, Nat.le_trans (simp_sub L).2 h2, fun p hp => h3 p ((simp_sub L).1 p hp)⟩
    have hown : RegOwn xr (X + 1) Ao m co Ls := by
      obtain ⟨g1, g2, g3⟩ := hto.out
      exact ⟨ys, hmL, g1, fun j K hj => g2 j K (by have := (List.getElem?_eq_some_iff.1 hj).1; omega) hj, g3⟩
    have hrd := hown.rd (fun K hK => Nat.le_trans (hbd K hK).2.1 (by decide))
    have hcall := Lib.hid (orderRings_any Ao m co (X + 1) xr.heap.size Ls xr hrd hown.cap (Nat.le_refl _) (by omega) hbd)
    replace hmL := Lib.hid hmL
    have hXx := Lib.hid hXb
    clear hbd hown hrd hXb
    go_wp2_with fail
    refine hcall.out.mono ?_
    rintro e w2 ⟨A2, c2, rfl, hrd2, hb2⟩
    have hR2 := Lib.hid ((hb2.block (Y + 1) (by omega)).trans hRx.out)
    have hB2 := Lib.hid (hBx.out.trans (hb2.mono (by have := hY.out; omega)))
    have r2 : w2.cell? ⟨Y + 1, 0, none⟩ = some (.slice none 0 0) := by rw [Go.Joins.cell_of_block hR2.out]; rfl
    have rf2 := Go.Joins.unfrozen_of_block hR2.out
    have hz2 := hb2.size
    have rl2 : Y + 1 < w2.heap.size := by omega
    have hrdH := Lib.hid hrd2
    clear hcall hrd2 hb2
    go_wp2_with fail
    refine bodyPost_ret (v := .agg #[.slice A2 m c2]) ?_ rfl ⟨A2, c2, by rw [hLT.out.1, hmL.out], ?_, ?_⟩
    · have r3 : (w2.setCell ⟨Y + 1, 0, none⟩ (.slice A2 m c2)).cell? ⟨Y + 1, 0, none⟩ = some (.slice A2 m c2) := by rw [Go.Joins.cell_of_block (Go.Joins.block_setCell hR2.out _)]; rfl
      simp [results, Tryz.results18, go_sem, r3]
    · rw [hLT.out.1, hLT.out.2, hmL.out]
      have h1 := hrdH.out.frame (w' := w2.setCell ⟨Y + 1, 0, none⟩ (.slice A2 m c2)) good_ring ((SameB.refl _ _ w2).setCell (p := ⟨Y + 1, 0, none⟩) (.inl (by show Y + 1 < xr.heap.size; omega)) _)
      exact h1.wide good_ring (by have := hY.out; omega) (by simp)
    · exact hB2.out.setCell (by show w.heap.size ≤ Y + 1; have := hY.out; omega) _
  have hki : (k : Int) < (n : Int) := by omega
  have i1 : (0 : Int) ≤ (k : Int) ∧ (k : Int) < (n : Int) := by omega
  have hsx : SameB lo hi v0 xr := Below.sameB (hbx.mono (show hi ≤ X by omega)) (Nat.le_refl _)
  have hrx := hr0.out.frame good_ring hsx
  obtain ⟨b, off, K, A2, n2, c2, hAb, hb1, hb, hja, q0, hmx, hrk⟩ := reg_at hrx hlt
  subst hAb
  have hbw : b < xr.heap.size := by omega
  obtain ⟨f2, f3⟩ := hR.out K (List.mem_of_getElem? hja)
  have hn2 := hrk.1
  subst hn2
  have hz2 : A2 = none → K.length = 0 := fun e => by
    by_cases h0 : 0 < K.length
    · obtain ⟨b', o', hb', _⟩ := hrk.2 h0
      rw [e] at hb'; cases hb'
    · omega
  have hFy := Lib.hid (fun h : 0 < (simpL K).length => And.intro (keepS_at hja h) (keepS_yes hja h))
  have hFn := Lib.hid (fun h : (simpL K).length = 0 => keepS_no hja h)
  have hSl := (simp_sub K).2
  have hXx := Lib.hid hXb
  have hHx := Lib.hid hbx
  have hal3 := Go.Joins.below_alloc1 xr (.cells #[.slice A2 K.length c2] 42 (0, 0))
  have hbo3 := heap_alloc_new xr (.cells #[.slice A2 K.length c2] 42 (0, 0))
  have hz4 : (xr.alloc (.cells #[.slice A2 K.length c2] 42 (0, 0))).heap.size = xr.heap.size + 1 := by simp
  have hX4 := Lib.hid ((hal3.block X hXl).trans hXb)
  have hrk4 := hrk.frame (good_flat _) (Below.sameB hal3 (by omega))
  have hAL := Lib.hid hal3
  clear hja hmx hb1 hrx hXb hbx hsx hal3
  go_upto_region 5 with fail
  generalize xr.alloc (.cells #[.slice A2 K.length c2] 42 (0, 0)) = w4 at *
  obtain ⟨Z, hZ⟩ : ∃ Z, Z = xr.heap.size := ⟨_, rfl⟩
  rw [← hZ] at hbo3 hz4 ⊢
  have hZ4 : Z < w4.heap.size := by omega
  have hzw4 : xr.heap.size ≤ w4.heap.size := by omega
  have z4 : w4.cell? ⟨Z, 0, none⟩ = some (.slice A2 K.length c2) := by rw [Go.Joins.cell_of_block hbo3]; rfl
  have hXl4 : X < w4.heap.size := by omega
  have hcT := Lib.hid (simplifyRing_any A2 K.length c2 lo hi K w4 hrk4 (by omega) hz2 f2 f3)
  have hz4' : w4.heap.size ≤ Z + 1 ∧ Z + 1 ≤ w4.heap.size := by omega
  clear hbo3 hrk4 hrk f3 hz2 hz4
  replace hZ := Lib.hid hZ
  go_wp2_with fail
  refine hcT.out.mono ?_
  rintro e w5 ⟨A3, c3, rfl, ho3, hb3⟩
  obtain ⟨M, hM⟩ : ∃ M, M = simpL K := ⟨_, rfl⟩
  rw [← hM] at ho3 hSl ⊢
  rw [← hM] at hFy hFn
  obtain ⟨q, hq⟩ : ∃ q, q = M.length := ⟨_, rfl⟩
  rw [← hq] at ho3 hSl ⊢
  rw [← hq] at hFy hFn
  replace hM := Lib.hid hM
  have HO3 := Lib.hid ho3
  have hz5 := hb3.size
  have hX5 := Lib.hid ((hb3.block X hXl4).trans hX4.out)
  have hAL5 := Lib.hid (hAL.out.trans (hb3.mono hzw4))
  have hbx5 := Lib.hid ((hHx.out.trans (hAL.out.mono (by omega))).trans (hb3.mono (by omega)))
  clear hcT z4 ho3 hb3
  by_cases h0 : 0 < q
  rotate_left
  · have hq0 : q = 0 := by omega
    have hgi : ¬ 0 < (q : Int) := by omega
    go_wp2_with fail
    go_roundg (n - (k + 1))
    case measure => omega
    case rel => exact ⟨k + 1, m, Ao, co, ys, by go_num, by omega, Nat.le_refl _, by rw [hFn.out hq0]; exact hm.out, by omega, hto.out.kept hAL5.out, hX5.out, hbx5.out⟩
  have hgi : 0 < (q : Int) := by omega
  have hq1 : q ≤ 1000 := by omega
  have x5 : w5.cell? ⟨X, 0, none⟩ = some (.slice Ao m co) := by rw [Go.Joins.cell_of_block hX5.out]; rfl
  have xf5 := Go.Joins.unfrozen_of_block hX5.out
  have xl5 : X < w5.heap.size := by omega
  have hrow5 := Lib.hid (own_below hto.out.1 hAL5.out)
  have hqH := Lib.hid hq
  clear hq
  go_wp2_with (at_builtin; refine wpAppAt rfl (.tmp 21) (.tmp 24) elemRing rfl (v := .slice Ao m co) (n := m) (xs := ys) rfl (hrow5.out.alloc _) rfl (src_at (cs := [.slice A3 q c3]) rfl (by simp [Value.oneCell']) (by simp)) (by omega) (by omega) (by simp; omega) (m + 1) rfl ?_; intro A6 c6 w6 ho6 hg6 _; have hk6 : w6.heap[X]? = w5.heap[X]? := (hg6.block X (by simp; omega) (fun e => by have := (hrow5.out.lt X e.symm).1; omega)).trans (Below.heap_alloc _ _ _ xl5); have x6 : w6.cell? ⟨X, 0, none⟩ = some (.slice Ao m co) := (World.cell?_of_block hk6).trans x5; have xf6 : ∀ o, w6.frozen? ⟨X, o, none⟩ = false := fun o => (World.frozen?_of_block hk6).trans (xf5 o); have xl6 : X < w6.heap.size := (by have := hg6.size; simp at this; omega); replace hk6 := Lib.hid hk6; replace ho6 := Lib.hid ho6; replace hg6 := Lib.hid hg6)
  have hFk := (hFy.out h0).1
  rw [← hm.out, ← hLs.out] at hFk
  have HO3' := HO3.out
  rw [hqH.out] at HO3' ho6 hg6
  have hnx := RegTo.next (w1 := w5.alloc (.cells #[.slice A3 M.length c3] 42 (0, 0))) (B := w4.heap.size) hto.out hFk (by rw [← hqH.out]; exact hAL5.out.trans ((Go.Joins.below_alloc1 w5 _).mono (by omega))) (HO3'.alloc _) hzw4 (by omega) ho6.out hg6.out
  go_roundg (n - (k + 1))
  case measure => omega
  case rel =>
    refine ⟨k + 1, m + 1, A6, c6, _, by go_num, by omega, Nat.le_refl _, by rw [(hFy.out h0).2, List.length_append, ← hm.out]; rfl, by omega, hnx.set (by show X < X + 1; omega) _, Go.Joins.block_setCell (hk6.out.trans hX5.out) _, ?_⟩
    exact ((hbx5.out.alloc (by omega) _).grown hg6.out (by simp; omega) (fun g hg => by have := (hrow5.out.lt g hg).1; omega)).setCell (Nat.le_refl _) _

set_option maxHeartbeats 4000000 in
/-- TidyRegion of a region that is valid -/
theorem TidyRegion_any (A : Option Addr) (n c lo hi : Nat) (Rs : List (List Pnt)) (w : World) (hr : RegRd w lo hi A n Rs) (hhi : hi ≤ w.heap.size) (hv : regOk Rs = true) :
    Calls Tryz.prog 6 #[.agg #[.slice A n c]] w fun e w' => ∃ A' c', e = .returned (.tuple #[.agg #[.slice A' (tidyR Rs).length c'], .int .i64 0]) ∧ RegRd w' w.heap.size w'.heap.size A' (tidyR Rs).length (tidyR Rs) ∧ Below w.heap.size w w' := by
  have hl := hr.1
  obtain ⟨v1, v2, v3⟩ := regOk_is hv
  have hb0 := Go.Joins.below_alloc2 w (.cells #[.slice A n c] 26 (0, 0)) (.cells #[.slice none 0 0] 26 (0, 0))
  have hnew := heap_new2 w (.cells #[.slice A n c] 26 (0, 0)) (.cells #[.slice none 0 0] 26 (0, 0))
  have hz0 : ((w.alloc (.cells #[.slice A n c] 26 (0, 0))).alloc (.cells #[.slice none 0 0] 26 (0, 0))).heap.size = w.heap.size + 2 := by simp
  have hr0 := hr.frame good_ring (Below.sameB hb0 hhi)
  have hK : ∀ K ∈ Rs, K.length ≤ 1000 ∧ ∀ p ∈ K, pt2Ok p = true := fun K hK => by
    obtain ⟨p1, p2, p3⟩ := pathOk_is (v2 K hK)
    exact ⟨by omega, p3⟩
  clear hr
  go_enter Tryz.func6, Tryz.ntmps6
  go_upto_region 1 with fail
  generalize (w.alloc (.cells #[.slice A n c] 26 (0, 0))).alloc (.cells #[.slice none 0 0] 26 (0, 0)) = v0 at *
  obtain ⟨Y, hY⟩ : ∃ Y, Y = w.heap.size := ⟨_, rfl⟩
  rw [← hY] at hnew hz0 ⊢
  obtain ⟨hY0, hR0⟩ := hnew
  have y0 : v0.cell? ⟨Y, 0, none⟩ = some (.slice A n c) := by rw [Go.Joins.cell_of_block hY0]; rfl
  have hyl : Y < v0.heap.size := by omega
  have hok := Lib.hid (validRegion_any A n c lo hi Rs true hv.symm v0 hr0 (by omega) (by omega) (fun K h => by have := (hK K h).1; omega))
  have hr0H := Lib.hid hr0
  have hYH := Lib.hid hY
  have hKH := Lib.hid hK
  have hz0a : v0.heap.size ≤ Y + 2 ∧ Y + 2 ≤ v0.heap.size := by omega
  have hhv : hi ≤ v0.heap.size := by omega
  clear hr0 hY hK hz0
  go_wp2_with fail
  refine hok.out.mono ?_
  rintro e w1 ⟨rfl, hb1⟩
  have hz1 := hb1.size
  have y1 : w1.cell? ⟨Y, 0, none⟩ = some (.slice A n c) := (hb1.cell (p := ⟨Y, 0, none⟩) hyl).trans y0
  have hyl1 : Y < w1.heap.size := by omega
  have hR1 := Lib.hid ((hb1.block (Y + 1) (by omega)).trans hR0)
  have hct := Lib.hid (tidyRegion_any A n c lo hi Rs w1 (hr0H.out.frame good_ring (Below.sameB hb1 hhv)) (by omega) (by omega) hKH.out)
  have hB1 := Lib.hid (hb0.trans (hb1.mono (by have := hYH.out; omega)))
  clear hok y0 hb1
  go_wp2_with fail
  refine hct.out.mono ?_
  rintro e w2 ⟨A2, c2, rfl, hrd2, hb2⟩
  have hz2 := hb2.size
  have hR2 := Lib.hid ((hb2.block (Y + 1) (by omega)).trans hR1.out)
  have hB2 := Lib.hid (hB1.out.trans (hb2.mono (by have := hYH.out; omega)))
  have r2 : w2.cell? ⟨Y + 1, 0, none⟩ = some (.slice none 0 0) := by rw [Go.Joins.cell_of_block hR2.out]; rfl
  have rf2 := Go.Joins.unfrozen_of_block hR2.out
  have rl2 : Y + 1 < w2.heap.size := by omega
  have hrdH := Lib.hid hrd2
  obtain ⟨Ts, hTs⟩ : ∃ Ts, Ts = tidyR Rs := ⟨_, rfl⟩
  rw [← hTs] at hrdH ⊢
  obtain ⟨m, hm⟩ : ∃ m, m = Ts.length := ⟨_, rfl⟩
  rw [← hm] at hrdH ⊢
  replace hm := Lib.hid hm
  replace hTs := Lib.hid hTs
  clear hct hrd2 hb2
  go_wp2_with fail
  refine bodyPost_ret (v := .tuple #[.agg #[.slice A2 m c2], .int .i64 0]) ?_ rfl ⟨A2, c2, by rw [hm.out, hTs.out], ?_, ?_⟩
  · have r3 : (w2.setCell ⟨Y + 1, 0, none⟩ (.slice A2 m c2)).cell? ⟨Y + 1, 0, none⟩ = some (.slice A2 m c2) := by rw [Go.Joins.cell_of_block (Go.Joins.block_setCell hR2.out _)]; rfl
    simp [results, Tryz.results6, go_sem, r3]
  · have h1 := hrdH.out.frame (w' := w2.setCell ⟨Y + 1, 0, none⟩ (.slice A2 m c2)) good_ring ((SameB.refl _ _ w2).setCell (p := ⟨Y + 1, 0, none⟩) (.inl (by show Y + 1 < w1.heap.size; omega)) _)
    rw [← hTs.out, ← hm.out]
    exact h1.wide good_ring (by have := hYH.out; omega) (by simp)
  · exact hB2.out.setCell (by show w.heap.size ≤ Y + 1; have := hYH.out; omega) _
end Go.Proofs.YtlifiioflkhkoaaGreat

/- Points that repeat, dropped. Printed by mk_dp1.py. Conditions: as each states. -/
namespace Go.Proofs.YtlifiioflkhkoaaGreat
open Go.RowKit
set_option linter.unusedVariables false
set_option maxRecDepth 100000

def dropTo (L : List Pnt) (k : Nat) : List Pnt := (edgesTo L k).map Prod.fst
def dropL (L : List Pnt) : List Pnt := (edgesL L).map Prod.fst
def keepG (F : List Pnt → List Pnt) (Rs : List (List Pnt)) : List (List Pnt) := (Rs.map F).filter fun L => !L.isEmpty
def dropR (Rs : List (List Pnt)) : List (List Pnt) := keepG dropL Rs

theorem keepG_yes {F : List Pnt → List Pnt} {Rs : List (List Pnt)} {k : Nat} {K : List Pnt} (h : Rs[k]? = some K) (hne : 0 < (F K).length) : keepG F (Rs.take (k + 1)) = keepG F (Rs.take k) ++ [F K] := by
  unfold keepG
  rw [List.take_add_one, h]
  simp only [Option.toList_some, List.map_append, List.map_cons, List.map_nil, List.filter_append]
  congr 1
  rw [List.filter_cons_of_pos]
  · rfl
  · cases hK : F K with
    | nil => rw [hK] at hne; simp at hne
    | cons a b => rfl
theorem keepG_no {F : List Pnt → List Pnt} {Rs : List (List Pnt)} {k : Nat} {K : List Pnt} (h : Rs[k]? = some K) (hne : (F K).length = 0) : keepG F (Rs.take (k + 1)) = keepG F (Rs.take k) := by
  unfold keepG
  rw [List.take_add_one, h]
  simp only [Option.toList_some, List.map_append, List.map_cons, List.map_nil, List.filter_append]
  rw [List.eq_nil_of_length_eq_zero hne]
  simp
theorem keepG_pre (F : List Pnt → List Pnt) (Rs : List (List Pnt)) (k : Nat) : ∃ R, keepG F Rs = keepG F (Rs.take k) ++ R := by
  refine ⟨keepG F (Rs.drop k), ?_⟩
  unfold keepG
  rw [← List.filter_append, ← List.map_append, List.take_append_drop]
theorem keepG_at {F : List Pnt → List Pnt} {Rs : List (List Pnt)} {k : Nat} {K : List Pnt} (h : Rs[k]? = some K) (hne : 0 < (F K).length) : (keepG F Rs)[(keepG F (Rs.take k)).length]? = some (F K) := by
  obtain ⟨R, hR⟩ := keepG_pre F Rs (k + 1)
  rw [hR, keepG_yes h hne, List.append_assoc, List.getElem?_append_right (Nat.le_refl _), Nat.sub_self]; rfl
theorem keepG_len (F : List Pnt → List Pnt) (Rs : List (List Pnt)) : (keepG F Rs).length ≤ Rs.length := by
  unfold keepG
  refine Nat.le_trans (List.length_filter_le _ _) ?_
  simp
theorem keepG_mem {F : List Pnt → List Pnt} {Rs : List (List Pnt)} {M : List Pnt} (h : M ∈ keepG F Rs) : ∃ L ∈ Rs, M = F L ∧ 1 ≤ M.length := by
  unfold keepG at h
  obtain ⟨h1, h2⟩ := List.mem_filter.1 h
  obtain ⟨L, hL, rfl⟩ := List.mem_map.1 h1
  refine ⟨L, hL, rfl, ?_⟩
  cases hK : F L with
  | nil => rw [hK] at h2; cases h2
  | cons a b => simp

set_option maxHeartbeats 16000000 in
theorem dropRepeats_any (A : Option Addr) (n c lo hi : Nat) (Rs : List (List Pnt)) (w : World) (hr : RegRd w lo hi A n Rs) (hhi : hi ≤ w.heap.size) (hn : n ≤ 1000) (hR : ∀ K ∈ Rs, K.length ≤ 1000) :
    Calls Tryz.prog 77 #[.agg #[.slice A n c]] w fun e w' => ∃ A' c', e = .returned (.agg #[.slice A' (dropR Rs).length c']) ∧ RegOwn w' w.heap.size A' (dropR Rs).length c' (dropR Rs) ∧ Below w.heap.size w w' := by
  have hl := hr.1
  have hb0 : Below w.heap.size w (((w.alloc (.cells #[.slice A n c] 26 (0, 0))).alloc (.cells #[.slice none 0 0] 26 (0, 0))).alloc (.cells #[.slice none 0 0] 26 (0, 0))) := ((Go.Joins.below_alloc2 w _ _).alloc (by simp; omega) _)
  have hnew := heap_new0 w (.cells #[.slice A n c] 26 (0, 0)) (.cells #[.slice none 0 0] 26 (0, 0)) (.cells #[.slice none 0 0] 26 (0, 0))
  have hz0 : (((w.alloc (.cells #[.slice A n c] 26 (0, 0))).alloc (.cells #[.slice none 0 0] 26 (0, 0))).alloc (.cells #[.slice none 0 0] 26 (0, 0))).heap.size = w.heap.size + 3 := by simp
  have hr0 := Lib.hid (hr.frame good_ring (Below.sameB hb0 hhi))
  clear hr
  obtain ⟨Ls, hLs⟩ : ∃ Ls : List (List Pnt), Ls = dropR Rs := ⟨_, rfl⟩
  rw [← hLs]
  replace hLs := Lib.hid hLs
  replace hR := Lib.hid hR
  replace hl := Lib.hid hl
  go_enter Tryz.func77, Tryz.ntmps77
  go_upto_region 2 with fail
  generalize ((w.alloc (.cells #[.slice A n c] 26 (0, 0))).alloc (.cells #[.slice none 0 0] 26 (0, 0))).alloc (.cells #[.slice none 0 0] 26 (0, 0)) = v0 at *
  obtain ⟨Y, hY⟩ : ∃ Y, Y = w.heap.size := ⟨_, rfl⟩
  obtain ⟨X, hX⟩ : ∃ X, X = Y + 2 := ⟨_, rfl⟩
  rw [← hY] at hnew hz0 ⊢
  rw [← hX] at hnew ⊢
  obtain ⟨hY0, hR0, hX0⟩ := hnew
  have hXv : X + 1 ≤ v0.heap.size ∧ v0.heap.size ≤ X + 1 ∧ Y + 2 = X ∧ hi ≤ Y := by omega
  have y0 : v0.cell? ⟨Y, 0, none⟩ = some (.slice A n c) := by rw [Go.Joins.cell_of_block hY0]; rfl
  have hyl : Y < v0.heap.size := by omega
  replace hX := Lib.hid hX
  replace hY := Lib.hid hY
  replace hY0 := Lib.hid hY0
  replace hR0 := Lib.hid hR0
  replace hX0 := Lib.hid hX0
  have hB0 := Lib.hid hb0
  clear hb0 hz0
  go_wp2_with fail
  clear y0
  go_loopg [6, 12] n (fun kx s6 iv wr => ∃ (k m : Nat) (Ao : Option Addr) (co : Nat) (ys : List Value), iv = .int .i64 k ∧ k ≤ n ∧ n - k ≤ kx ∧ Hid (m = (keepG dropL (Rs.take k)).length) ∧ m ≤ k ∧ RegTo wr (X + 1) Ao m co ys Ls ∧ wr.heap[X]? = some (.cells #[.slice Ao m co] 26 (0, 0)) ∧ Below X v0 wr)
  case atStart => exact ⟨0, 0, none, 0, [], rfl, Nat.zero_le _, Nat.le_refl _, rfl, Nat.le_refl _, ⟨World.ownsRow_nil _ _ _ _, fun j K hj => absurd hj (Nat.not_lt_zero j), fun i j u v _ hu => by simp at hu⟩, hX0.out, Below.refl _ _⟩
  case round =>
  clear hX0
  obtain ⟨k, m, Ao, co, ys, rfl, hk, hkx, hm, hmk, hto, hXb, hbx⟩ := hrel
  generalize wr = xr at *
  have hzx := hbx.size
  have hXl : X < xr.heap.size := (Array.getElem?_eq_some_iff.1 hXb).1
  have hBx := Lib.hid (hB0.out.trans (hbx.mono (by have := hY.out; omega)))
  have hRx := Lib.hid ((hbx.block (Y + 1) (by omega)).trans hR0.out)
  replace hto := Lib.hid hto
  by_cases hlt : k < n
  rotate_left
  · have hkn : k = n := by omega
    have hki : ¬ (k : Int) < (n : Int) := by omega
    have xc : xr.cell? ⟨X, 0, none⟩ = some (.slice Ao m co) := by rw [Go.Joins.cell_of_block hXb]; rfl
    have hmL : Ls.length = m := by rw [hm.out, hLs.out, List.take_of_length_le (by have := hl.out; omega)]; rfl
    have hown : RegOwn xr (X + 1) Ao m co Ls := by
      obtain ⟨g1, g2, g3⟩ := hto.out
      exact ⟨ys, hmL, g1, fun j K hj => g2 j K (by have := (List.getElem?_eq_some_iff.1 hj).1; omega) hj, g3⟩
    replace hown := Lib.hid hown
    replace hmL := Lib.hid hmL
    have hXx := Lib.hid hXb
    have r2 : xr.cell? ⟨Y + 1, 0, none⟩ = some (.slice none 0 0) := by rw [Go.Joins.cell_of_block hRx.out]; rfl
    have rf2 := Go.Joins.unfrozen_of_block hRx.out
    have rl2 : Y + 1 < xr.heap.size := by omega
    clear hXb
    go_wp2_with fail
    refine bodyPost_ret (v := .agg #[.slice Ao m co]) ?_ rfl ⟨Ao, co, by rw [hmL.out], ?_, ?_⟩
    · have r3 : (xr.setCell ⟨Y + 1, 0, none⟩ (.slice Ao m co)).cell? ⟨Y + 1, 0, none⟩ = some (.slice Ao m co) := by rw [Go.Joins.cell_of_block (Go.Joins.block_setCell hRx.out _)]; rfl
      simp [results, Tryz.results77, go_sem, r3]
    · rw [hmL.out]
      have h1 := hown.out.stored_below (a := ⟨Y + 1, 0, none⟩) (by show Y + 1 < X + 1; omega) (.slice Ao m co)
      exact h1.base (by have := hY.out; omega)
    · exact hBx.out.setCell (by show w.heap.size ≤ Y + 1; have := hY.out; omega) _
  have hki : (k : Int) < (n : Int) := by omega
  have i1 : (0 : Int) ≤ (k : Int) ∧ (k : Int) < (n : Int) := by omega
  have hsx : SameB lo hi v0 xr := Below.sameB (hbx.mono (show hi ≤ X by omega)) (Nat.le_refl _)
  have hrx := hr0.out.frame good_ring hsx
  obtain ⟨b, off, K, A2, n2, c2, hAb, hb1, hb, hja, q0, hmx, hrk⟩ := reg_at hrx hlt
  subst hAb
  have hbw : b < xr.heap.size := by omega
  have f2 := hR.out K (List.mem_of_getElem? hja)
  have hn2 := hrk.1
  subst hn2
  have hFy := Lib.hid (fun h : 0 < (dropL K).length => And.intro (hLs.out ▸ keepG_at hja h : Ls[(keepG dropL (Rs.take k)).length]? = some (dropL K)) (keepG_yes hja h))
  have hFn := Lib.hid (fun h : (dropL K).length = 0 => keepG_no hja h)
  have hXx := Lib.hid hXb
  have hHx := Lib.hid hbx
  have hal3 := Go.Joins.below_alloc1 xr (.cells #[.slice A2 K.length c2] 42 (0, 0))
  have hbo3 := heap_alloc_new xr (.cells #[.slice A2 K.length c2] 42 (0, 0))
  have hz4 : (xr.alloc (.cells #[.slice A2 K.length c2] 42 (0, 0))).heap.size = xr.heap.size + 1 := by simp
  have hX4 := Lib.hid ((hal3.block X hXl).trans hXb)
  have hrk4 := Lib.hid (hrk.frame (good_flat _) (Below.sameB hal3 (by omega)))
  have hAL := Lib.hid hal3
  clear hja hmx hb1 hrx hXb hbx hsx hal3
  go_upto_region 5 with fail
  generalize xr.alloc (.cells #[.slice A2 K.length c2] 42 (0, 0)) = w4 at *
  obtain ⟨Z, hZ⟩ : ∃ Z, Z = xr.heap.size := ⟨_, rfl⟩
  rw [← hZ] at hbo3 hz4 ⊢
  have hZ4 : Z < w4.heap.size := by omega
  have hzw4 : xr.heap.size ≤ w4.heap.size := by omega
  have z4 : w4.cell? ⟨Z, 0, none⟩ = some (.slice A2 K.length c2) := by rw [Go.Joins.cell_of_block hbo3]; rfl
  have hXl4 : X < w4.heap.size := by omega
  have hz4' : w4.heap.size ≤ Z + 1 ∧ Z + 1 ≤ w4.heap.size := by omega
  have hhi4 : hi ≤ w4.heap.size := by omega
  obtain ⟨l, hl'⟩ : ∃ l, l = K.length := ⟨_, rfl⟩
  rw [← hl'] at z4 f2 hrk4 ⊢
  have hlK := Lib.hid hl'
  have z4H := Lib.hid z4
  clear hbo3 hrk hz4 hl'
  replace hZ := Lib.hid hZ
  go_wp2_with fail
  clear z4
  go_loopg [6, 19] l (fun ky s6 iv wr => ∃ (i q : Nat) (A6 : Option Addr) (c6 : Nat), iv = .int .i64 i ∧ s6 = .slice A6 q c6 ∧ i ≤ l ∧ l - i ≤ ky ∧ q ≤ i ∧ Hid (q = (dropTo K i).length) ∧ Hid (wr.ownsRow w4.heap.size 28 2 (.slice A6 q c6) q ((dropTo K i).flatMap ptC)) ∧ Below w4.heap.size w4 wr)
  case atStart => exact ⟨0, 0, none, 0, rfl, rfl, Nat.zero_le _, Nat.le_refl _, Nat.le_refl _, rfl, World.ownsRow_nil _ _ _ _, Below.refl _ _⟩
  case round =>
  obtain ⟨i, q, A6, c6, rfl, rfl, hi, hky, hqi, hq, HO, hb5⟩ := hrel
  have hz5 := hb5.size
  by_cases hil : i < l
  rotate_left
  · have hin : ¬ (i : Int) < (l : Int) := by omega
    obtain ⟨M, hM⟩ : ∃ M, M = dropL K := ⟨_, rfl⟩
    have hMi : Hid (dropTo K i = M) := by
      show _ = _
      have : i = K.length := by have := hlK.out; omega
      rw [hM, this]; rfl
    rw [← hM] at hFy hFn
    have hqM : Hid (q = M.length) := by show _ = _; rw [hq.out, hMi.out]
    replace hM := Lib.hid hM
    have hX5 := Lib.hid ((hb5.block X hXl4).trans hX4.out)
    have hAL5 := Lib.hid (hAL.out.trans (hb5.mono hzw4))
    have hbx5 := Lib.hid ((hHx.out.trans (hAL.out.mono (by omega))).trans (hb5.mono (by omega)))
    have hBx5 := hbx5.out.size
    by_cases h0 : 0 < q
    rotate_left
    · have hq0 : q = 0 := by omega
      have hgi : ¬ 0 < (q : Int) := by omega
      go_wp2_with fail
      go_roundg (n - (k + 1))
      case measure => omega
      case rel => exact ⟨k + 1, m, Ao, co, ys, by go_num, by omega, Nat.le_refl _, by rw [hFn.out (by rw [← hqM.out]; exact hq0)]; exact hm.out, by omega, hto.out.kept hAL5.out, hX5.out, hbx5.out⟩
    have hgi : 0 < (q : Int) := by omega
    have hq1 : q ≤ 1000 := by omega
    have x5 : wr.cell? ⟨X, 0, none⟩ = some (.slice Ao m co) := by rw [Go.Joins.cell_of_block hX5.out]; rfl
    have xf5 := Go.Joins.unfrozen_of_block hX5.out
    have xl5 : X < wr.heap.size := by omega
    have hrow5 := Lib.hid (own_below hto.out.1 hAL5.out)
    clear hb5
    go_wp2_with (at_builtin; refine wpAppAt rfl (.tmp 45) (.tmp 48) elemRing rfl (v := .slice Ao m co) (n := m) (xs := ys) rfl (hrow5.out.alloc _) rfl (src_at (cs := [.slice A6 q c6]) rfl (by simp [Value.oneCell']) (by simp)) (by omega) (by omega) (by simp; omega) (m + 1) rfl ?_; intro A7 c7 w6 ho6 hg6 _; have hk6 : w6.heap[X]? = wr.heap[X]? := (hg6.block X (by simp; omega) (fun e => by have := (hrow5.out.lt X e.symm).1; omega)).trans (Below.heap_alloc _ _ _ xl5); have x6 : w6.cell? ⟨X, 0, none⟩ = some (.slice Ao m co) := (World.cell?_of_block hk6).trans x5; have xf6 : ∀ o, w6.frozen? ⟨X, o, none⟩ = false := fun o => (World.frozen?_of_block hk6).trans (xf5 o); have xl6 : X < w6.heap.size := (by have := hg6.size; simp at this; omega); replace hk6 := Lib.hid hk6; replace ho6 := Lib.hid ho6; replace hg6 := Lib.hid hg6)
    have hFk := (hFy.out (by rw [← hqM.out]; exact h0)).1
    rw [← hm.out] at hFk
    have HO3' := HO.out
    rw [hMi.out] at HO3'
    rw [hqM.out] at HO3' ho6 hg6
    have hnx := RegTo.next (w1 := wr.alloc (.cells #[.slice A6 M.length c6] 42 (0, 0))) (B := w4.heap.size) hto.out hFk (by rw [← hqM.out]; exact hAL5.out.trans ((Go.Joins.below_alloc1 wr _).mono (by omega))) (HO3'.alloc _) hzw4 (by omega) ho6.out hg6.out
    go_roundg (n - (k + 1))
    case measure => omega
    case rel =>
      refine ⟨k + 1, m + 1, A7, c7, _, by go_num, by omega, Nat.le_refl _, by rw [(hFy.out (by rw [← hqM.out]; exact h0)).2, List.length_append, ← hm.out]; rfl, by omega, hnx.set (by show X < X + 1; omega) _, Go.Joins.block_setCell (hk6.out.trans hX5.out) _, ?_⟩
      exact ((hbx5.out.alloc (by omega) _).grown hg6.out (by simp; omega) (fun g hg => by have := (hrow5.out.lt g hg).1; omega)).setCell (Nat.le_refl _) _
  have z5 : wr.cell? ⟨Z, 0, none⟩ = some (.slice A2 l c2) := (hb5.cell (p := ⟨Z, 0, none⟩) hZ4).trans z4H.out
  obtain ⟨b2, o2, rfl, hbb, hb2, hcs⟩ := (hrk4.out.frame (good_flat _) (Below.sameB hb5 hhi4)).pts (by omega)
  obtain ⟨u, hu⟩ : ∃ u, u = (i + 1) % l := ⟨_, rfl⟩
  have hul : u < l := by rw [hu]; exact Nat.mod_lt _ (by omega)
  obtain ⟨c10, c11⟩ := hcs i hil
  obtain ⟨c20, c21⟩ := hcs u hul
  have hey : ptAt K i ≠ ptAt K u → dropTo K (i + 1) = dropTo K i ++ [ptAt K i] := fun h => by
    rw [hu, hlK.out] at h
    unfold dropTo
    rw [edgesTo_yes h, List.map_append]; rfl
  have hen : ptAt K i = ptAt K u → dropTo K (i + 1) = dropTo K i := fun h => by
    rw [hu, hlK.out] at h
    unfold dropTo
    rw [edgesTo_no h]
  obtain ⟨⟨ax, ay⟩, ha⟩ : ∃ a, a = ptAt K i := ⟨_, rfl⟩
  obtain ⟨⟨bx, ey⟩, hbp⟩ : ∃ a, a = ptAt K u := ⟨_, rfl⟩
  rw [← ha] at c10 c11 hey hen
  rw [← hbp] at c20 c21 hey hen
  simp only at c10 c11 c20 c21
  have hbwr : b2 < wr.heap.size := by omega
  have hlki : (i : Int) < (l : Int) := by omega
  obtain ⟨y, hy⟩ : ∃ y, y = i + 1 := ⟨_, rfl⟩
  have q4 : IntKind.i64.wrap ((i : Int) + 1) = (y : Int) := by rw [wi (by omega)]; omega
  have q5 : (y : Int).tmod (l : Int) = (u : Int) := by rw [mod_i, hy, hu]
  have q6 : ¬ l = 0 := by omega
  have q7 : IntKind.i64.wrap (u : Int) = (u : Int) := wi (by omega)
  have i3 : (0 : Int) ≤ (i : Int) ∧ (i : Int) < (l : Int) := by omega
  have i2 : (0 : Int) ≤ (u : Int) ∧ (u : Int) < (l : Int) := by omega
  have hyH := Lib.hid hy
  replace hu := Lib.hid hu
  replace ha := Lib.hid ha
  replace hbp := Lib.hid hbp
  replace hey := Lib.hid hey
  replace hen := Lib.hid hen
  have hal := Go.Joins.below_alloc1 wr (.cells #[.int .i64 ax, .int .i64 ay] 28 (0, 0))
  have hpb := heap_alloc_new wr (.cells #[.int .i64 ax, .int .i64 ay] 28 (0, 0))
  have hp7 : (wr.alloc (.cells #[.int .i64 ax, .int .i64 ay] 28 (0, 0))).heap.size = wr.heap.size + 1 := by simp
  have d20 := (hal.cell (p := ⟨b2, o2 + u * 2, none⟩) hbwr).trans c20
  have d21 := (hal.cell (p := ⟨b2, o2 + u * 2 + 1, none⟩) hbwr).trans c21
  have dz := (hal.cell (p := ⟨Z, 0, none⟩) (show Z < wr.heap.size by omega)).trans z5
  have hb7 := Lib.hid (hb5.trans (hal.mono hz5))
  have HO7 := Lib.hid (own_below HO.out hal)
  clear hcs hbb hb2 hy hb5 hal
  go_upto_region 9 with fail
  clear c10 c11 c20 c21 z5
  generalize wr.alloc (.cells #[.int .i64 ax, .int .i64 ay] 28 (0, 0)) = w7 at *
  obtain ⟨P, hP⟩ : ∃ P, P = wr.heap.size := ⟨_, rfl⟩
  rw [← hP] at hpb hp7 hz5 hbwr ⊢
  have hP7 : P < w7.heap.size := by omega
  have hz7 : w4.heap.size ≤ w7.heap.size ∧ w7.heap.size ≤ P + 1 := by omega
  have hb27 : b2 < w7.heap.size := by omega
  have hZ7 : Z < w7.heap.size := by omega
  have e0 : w7.cell? ⟨P, 0, none⟩ = some (.int .i64 ax) := by rw [Go.Joins.cell_of_block hpb]; rfl
  have e1 : w7.cell? ⟨P, 1, none⟩ = some (.int .i64 ay) := by rw [Go.Joins.cell_of_block hpb]; rfl
  replace hP := Lib.hid hP
  have hpH := Lib.hid hpb
  clear hpb hp7 hbwr
  by_cases he : ax = bx ∧ ay = ey
  · obtain ⟨rfl, rfl⟩ := he
    have hsame := hen.out rfl
    replace hsame := Lib.hid hsame
    go_region
    go_wp2_with fail
    go_roundg (l - (i + 1))
    case measure => omega
    case rel => exact ⟨i + 1, q, A6, c6, by rw [hyH.out], rfl, by omega, Nat.le_refl _, by omega, by rw [hsame.out]; exact hq.out, by rw [hsame.out]; exact HO7.out.drew, hb7.out.drew⟩
  have hdiff := hey.out (by intro h; injection h with h1 h2; exact he ⟨h1, h2⟩)
  replace hdiff := Lib.hid hdiff
  have hq1 : q ≤ 1000 := by omega
  by_cases e2 : ax = bx
  · have e3 : ¬ ay = ey := fun h => he ⟨e2, h⟩
    subst e2
    clear he
    go_region
    go_wp2_with (at_builtin; refine wpApp rfl (.tmp 36) (.tmp 38) elemPt rfl (v := .slice A6 q c6) (n := q) (xs := (dropTo K i).flatMap ptC) rfl (HO7.out.drew.alloc _) rfl (src_at (cs := [.int .i64 ax, .int .i64 ay]) rfl (by simp [Value.oneCell']) rfl) (by omega) (by omega) (by simp; try omega) (q + 1) rfl ?_; intro A8 c8 w9 ho9 hb9; replace ho9 := Lib.hid ho9)
    go_roundg (l - (i + 1))
    case measure => omega
    case rel => exact ⟨i + 1, q + 1, A8, c8, by rw [hyH.out], rfl, by omega, Nat.le_refl _, by omega, by rw [hdiff.out, List.length_append, ← hq.out]; rfl, by rw [hdiff.out, List.flatMap_append]; exact ho9.out, (hb7.out.drew.alloc (by simp; try omega) _).trans (hb9.mono (by simp; try omega))⟩

  · clear he
    go_region
    go_wp2_with (at_builtin; refine wpApp rfl (.tmp 36) (.tmp 38) elemPt rfl (v := .slice A6 q c6) (n := q) (xs := (dropTo K i).flatMap ptC) rfl (HO7.out.drew.alloc _) rfl (src_at (cs := [.int .i64 ax, .int .i64 ay]) rfl (by simp [Value.oneCell']) rfl) (by omega) (by omega) (by simp; try omega) (q + 1) rfl ?_; intro A8 c8 w9 ho9 hb9; replace ho9 := Lib.hid ho9)
    go_roundg (l - (i + 1))
    case measure => omega
    case rel => exact ⟨i + 1, q + 1, A8, c8, by rw [hyH.out], rfl, by omega, Nat.le_refl _, by omega, by rw [hdiff.out, List.length_append, ← hq.out]; rfl, by rw [hdiff.out, List.flatMap_append]; exact ho9.out, (hb7.out.drew.alloc (by simp; try omega) _).trans (hb9.mono (by simp; try omega))⟩

end Go.Proofs.YtlifiioflkhkoaaGreat

/- Points compared, points on segments: the program's side. Printed by mk_me1.py. Conditions: as each states. -/
namespace Go.Proofs.YtlifiioflkhkoaaGreat
open Go.RowKit
set_option linter.unusedVariables false
set_option maxRecDepth 100000

def cmpXY (a b : Pnt) : Int := if a.1 = b.1 then sgnI (a.2 - b.2) else sgnI (a.1 - b.1)
def lesPt (a b : Pnt) : Pnt := if cmpXY a b ≤ 0 then a else b
def grePt (a b : Pnt) : Pnt := if cmpXY a b ≥ 0 then a else b
theorem les_or (a b : Pnt) : lesPt a b = a ∨ lesPt a b = b := by unfold lesPt; split <;> simp
theorem gre_or (a b : Pnt) : grePt a b = a ∨ grePt a b = b := by unfold grePt; split <;> simp
def onSg (a b p : Pnt) : Bool := decide (tn a b p = 0) && (decide (min a.1 b.1 ≤ p.1) && (decide (p.1 ≤ max a.1 b.1) && (decide (min a.2 b.2 ≤ p.2) && decide (p.2 ≤ max a.2 b.2))))

theorem below_drewN_grow (V : World) (q : Nat) (os : Array Obj) : Below V.heap.size V (Go.Sort.grow (V.drewN q) os) := Grew.below ⟨q, os, rfl⟩
set_option maxHeartbeats 1000000 in
theorem comparePt_any (ax ay bx ey : Int) (v : Int) (hv : v = cmpXY (ax, ay) (bx, ey)) (w : World) (ha : pt2Ok (ax, ay) = true) (hb : pt2Ok (bx, ey) = true) :
    Calls Tryz.prog 103 #[.agg #[.int .i64 ax, .int .i64 ay], .agg #[.int .i64 bx, .int .i64 ey]] w fun e w' => e = .returned (.int .i64 v) ∧ ∃ q os', w' = Go.Sort.grow (w.drewN q) os' := by
  obtain ⟨a1, a2, a3, a4⟩ := pt_bd ha
  obtain ⟨b1, b2, b3, b4⟩ := pt_bd hb
  clear ha hb
  unfold cmpXY at hv
  by_cases h : ax = bx
  · subst h
    rw [if_pos rfl] at hv
    have hc := Lib.hid (fun W => sign_any (ay - ey) W v hv)
    have e1 : IntKind.i64.wrap (ay - ey) = ay - ey := wi (by omega)
    clear hv
    go_enter Tryz.func103, Tryz.ntmps103
    go_wp2_with fail
    refine (hc.out _).mono ?_
    rintro e w1 ⟨rfl, rfl⟩
    go_wp2_with fail
    go_ret
    exact ⟨rfl, 0, _, by rw [Go.Sort.alloc_eq_grow, Go.Sort.alloc_eq_grow, Go.Sort.grow_grow]; rfl⟩
  · rw [if_neg h] at hv
    have hc := Lib.hid (fun W => sign_any (ax - bx) W v hv)
    have e1 : IntKind.i64.wrap (ax - bx) = ax - bx := wi (by omega)
    have t1 : (ax != bx) = true := by simp [h]
    clear hv
    go_enter Tryz.func103, Tryz.ntmps103
    go_wp2_with fail
    refine (hc.out _).mono ?_
    rintro e w1 ⟨rfl, rfl⟩
    go_wp2_with fail
    go_ret
    exact ⟨rfl, 0, _, by rw [Go.Sort.alloc_eq_grow, Go.Sort.alloc_eq_grow, Go.Sort.grow_grow]; rfl⟩

set_option maxHeartbeats 2000000 in
theorem lesserPt_any (a b p : Pnt) (w : World) (hp : p = lesPt a b) (ha : pt2Ok a = true) (hb : pt2Ok b = true) :
    Calls Tryz.prog 102 #[.agg #[.int .i64 a.1, .int .i64 a.2], .agg #[.int .i64 b.1, .int .i64 b.2]] w fun e w' => e = .returned (.agg #[.int .i64 p.1, .int .i64 p.2]) ∧ Below w.heap.size w w' := by
  obtain ⟨ax, ay⟩ := a
  obtain ⟨bx, ey⟩ := b
  obtain ⟨c, hc⟩ : ∃ c, c = cmpXY (ax, ay) (bx, ey) := ⟨_, rfl⟩
  have hcc := Lib.hid (fun W => comparePt_any ax ay bx ey c hc W ha hb)
  have hb0 : Below w.heap.size w (((w.alloc (.cells #[.int .i64 ax, .int .i64 ay] 28 (0, 0))).alloc (.cells #[.int .i64 bx, .int .i64 ey] 28 (0, 0))).alloc (.cells #[.int .i64 0, .int .i64 0] 28 (0, 0))) := ((Go.Joins.below_alloc2 w _ _).alloc (by simp; omega) _)
  have hnew := heap_new0 w (.cells #[.int .i64 ax, .int .i64 ay] 28 (0, 0)) (.cells #[.int .i64 bx, .int .i64 ey] 28 (0, 0)) (.cells #[.int .i64 0, .int .i64 0] 28 (0, 0))
  have hA : Hid (PB (((w.alloc (.cells #[.int .i64 ax, .int .i64 ay] 28 (0, 0))).alloc (.cells #[.int .i64 bx, .int .i64 ey] 28 (0, 0))).alloc (.cells #[.int .i64 0, .int .i64 0] 28 (0, 0))) w.heap.size ax ay) := hnew.1
  have hB : Hid (PB (((w.alloc (.cells #[.int .i64 ax, .int .i64 ay] 28 (0, 0))).alloc (.cells #[.int .i64 bx, .int .i64 ey] 28 (0, 0))).alloc (.cells #[.int .i64 0, .int .i64 0] 28 (0, 0))) (w.heap.size + 1) bx ey) := hnew.2.1
  have hC : Hid (PB (((w.alloc (.cells #[.int .i64 ax, .int .i64 ay] 28 (0, 0))).alloc (.cells #[.int .i64 bx, .int .i64 ey] 28 (0, 0))).alloc (.cells #[.int .i64 0, .int .i64 0] 28 (0, 0))) (w.heap.size + 2) 0 0) := hnew.2.2
  unfold lesPt at hp
  rw [← hc] at hp
  replace hc := Lib.hid hc
  simp only
  clear ha hb hnew
  by_cases h : c ≤ 0
  · rw [if_pos h] at hp
    subst hp
    go_enter Tryz.func102, Tryz.ntmps102
    go_upto_region 1 with fail
    generalize (((w.alloc (.cells #[.int .i64 ax, .int .i64 ay] 28 (0, 0))).alloc (.cells #[.int .i64 bx, .int .i64 ey] 28 (0, 0))).alloc (.cells #[.int .i64 0, .int .i64 0] 28 (0, 0))) = V at *
    obtain ⟨k0, k1, kf, kl⟩ := hA.out.cells
    obtain ⟨l0, l1, lf, ll⟩ := hB.out.cells
    go_wp2_with fail
    refine (hcc.out _).mono ?_
    rintro e w1 ⟨rfl, q, os, rfl⟩
    have hb1 : Below V.heap.size V (Go.Sort.grow (V.drewN q) os) := below_drewN_grow V q os
    generalize Go.Sort.grow (V.drewN q) os = w1 at *
    obtain ⟨u0, u1, uf, ul⟩ := (hA.out.below hb1).cells
    obtain ⟨v0, v1, vf, vl⟩ := (hB.out.below hb1).cells
    obtain ⟨r0, r1, rf, rl⟩ := (hC.out.below hb1).cells
    have hC1 := Lib.hid (hC.out.below hb1)
    go_wp2_with fail
    obtain ⟨s0, s1, _, _⟩ := (hC1.out.put ax ay).cells
    refine bodyPost_ret (v := .agg #[.int .i64 ax, .int .i64 ay]) (by simp [results, Tryz.results102, go_sem, s0, s1]) rfl ⟨rfl, ?_⟩
    exact ((hb0.trans (hb1.mono hb0.size)).setCell (p := ⟨w.heap.size + 2, 0, none⟩) (by show w.heap.size ≤ w.heap.size + 2; omega) _).setCell (p := ⟨w.heap.size + 2, 1, none⟩) (by show w.heap.size ≤ w.heap.size + 2; omega) _
  · rw [if_neg h] at hp
    subst hp
    go_enter Tryz.func102, Tryz.ntmps102
    go_upto_region 1 with fail
    generalize (((w.alloc (.cells #[.int .i64 ax, .int .i64 ay] 28 (0, 0))).alloc (.cells #[.int .i64 bx, .int .i64 ey] 28 (0, 0))).alloc (.cells #[.int .i64 0, .int .i64 0] 28 (0, 0))) = V at *
    obtain ⟨k0, k1, kf, kl⟩ := hA.out.cells
    obtain ⟨l0, l1, lf, ll⟩ := hB.out.cells
    go_wp2_with fail
    refine (hcc.out _).mono ?_
    rintro e w1 ⟨rfl, q, os, rfl⟩
    have hb1 : Below V.heap.size V (Go.Sort.grow (V.drewN q) os) := below_drewN_grow V q os
    generalize Go.Sort.grow (V.drewN q) os = w1 at *
    obtain ⟨u0, u1, uf, ul⟩ := (hA.out.below hb1).cells
    obtain ⟨v0, v1, vf, vl⟩ := (hB.out.below hb1).cells
    obtain ⟨r0, r1, rf, rl⟩ := (hC.out.below hb1).cells
    have hC1 := Lib.hid (hC.out.below hb1)
    go_wp2_with fail
    obtain ⟨s0, s1, _, _⟩ := (hC1.out.put bx ey).cells
    refine bodyPost_ret (v := .agg #[.int .i64 bx, .int .i64 ey]) (by simp [results, Tryz.results102, go_sem, s0, s1]) rfl ⟨rfl, ?_⟩
    exact ((hb0.trans (hb1.mono hb0.size)).setCell (p := ⟨w.heap.size + 2, 0, none⟩) (by show w.heap.size ≤ w.heap.size + 2; omega) _).setCell (p := ⟨w.heap.size + 2, 1, none⟩) (by show w.heap.size ≤ w.heap.size + 2; omega) _

set_option maxHeartbeats 2000000 in
theorem greaterPt_any (a b p : Pnt) (w : World) (hp : p = grePt a b) (ha : pt2Ok a = true) (hb : pt2Ok b = true) :
    Calls Tryz.prog 101 #[.agg #[.int .i64 a.1, .int .i64 a.2], .agg #[.int .i64 b.1, .int .i64 b.2]] w fun e w' => e = .returned (.agg #[.int .i64 p.1, .int .i64 p.2]) ∧ Below w.heap.size w w' := by
  obtain ⟨ax, ay⟩ := a
  obtain ⟨bx, ey⟩ := b
  obtain ⟨c, hc⟩ : ∃ c, c = cmpXY (ax, ay) (bx, ey) := ⟨_, rfl⟩
  have hcc := Lib.hid (fun W => comparePt_any ax ay bx ey c hc W ha hb)
  have hb0 : Below w.heap.size w (((w.alloc (.cells #[.int .i64 ax, .int .i64 ay] 28 (0, 0))).alloc (.cells #[.int .i64 bx, .int .i64 ey] 28 (0, 0))).alloc (.cells #[.int .i64 0, .int .i64 0] 28 (0, 0))) := ((Go.Joins.below_alloc2 w _ _).alloc (by simp; omega) _)
  have hnew := heap_new0 w (.cells #[.int .i64 ax, .int .i64 ay] 28 (0, 0)) (.cells #[.int .i64 bx, .int .i64 ey] 28 (0, 0)) (.cells #[.int .i64 0, .int .i64 0] 28 (0, 0))
  have hA : Hid (PB (((w.alloc (.cells #[.int .i64 ax, .int .i64 ay] 28 (0, 0))).alloc (.cells #[.int .i64 bx, .int .i64 ey] 28 (0, 0))).alloc (.cells #[.int .i64 0, .int .i64 0] 28 (0, 0))) w.heap.size ax ay) := hnew.1
  have hB : Hid (PB (((w.alloc (.cells #[.int .i64 ax, .int .i64 ay] 28 (0, 0))).alloc (.cells #[.int .i64 bx, .int .i64 ey] 28 (0, 0))).alloc (.cells #[.int .i64 0, .int .i64 0] 28 (0, 0))) (w.heap.size + 1) bx ey) := hnew.2.1
  have hC : Hid (PB (((w.alloc (.cells #[.int .i64 ax, .int .i64 ay] 28 (0, 0))).alloc (.cells #[.int .i64 bx, .int .i64 ey] 28 (0, 0))).alloc (.cells #[.int .i64 0, .int .i64 0] 28 (0, 0))) (w.heap.size + 2) 0 0) := hnew.2.2
  unfold grePt at hp
  rw [← hc] at hp
  replace hc := Lib.hid hc
  simp only
  clear ha hb hnew
  by_cases h : c ≥ 0
  · rw [if_pos h] at hp
    subst hp
    go_enter Tryz.func101, Tryz.ntmps101
    go_upto_region 1 with fail
    generalize (((w.alloc (.cells #[.int .i64 ax, .int .i64 ay] 28 (0, 0))).alloc (.cells #[.int .i64 bx, .int .i64 ey] 28 (0, 0))).alloc (.cells #[.int .i64 0, .int .i64 0] 28 (0, 0))) = V at *
    obtain ⟨k0, k1, kf, kl⟩ := hA.out.cells
    obtain ⟨l0, l1, lf, ll⟩ := hB.out.cells
    go_wp2_with fail
    refine (hcc.out _).mono ?_
    rintro e w1 ⟨rfl, q, os, rfl⟩
    have hb1 : Below V.heap.size V (Go.Sort.grow (V.drewN q) os) := below_drewN_grow V q os
    generalize Go.Sort.grow (V.drewN q) os = w1 at *
    obtain ⟨u0, u1, uf, ul⟩ := (hA.out.below hb1).cells
    obtain ⟨v0, v1, vf, vl⟩ := (hB.out.below hb1).cells
    obtain ⟨r0, r1, rf, rl⟩ := (hC.out.below hb1).cells
    have hC1 := Lib.hid (hC.out.below hb1)
    go_wp2_with fail
    obtain ⟨s0, s1, _, _⟩ := (hC1.out.put ax ay).cells
    refine bodyPost_ret (v := .agg #[.int .i64 ax, .int .i64 ay]) (by simp [results, Tryz.results101, go_sem, s0, s1]) rfl ⟨rfl, ?_⟩
    exact ((hb0.trans (hb1.mono hb0.size)).setCell (p := ⟨w.heap.size + 2, 0, none⟩) (by show w.heap.size ≤ w.heap.size + 2; omega) _).setCell (p := ⟨w.heap.size + 2, 1, none⟩) (by show w.heap.size ≤ w.heap.size + 2; omega) _
  · rw [if_neg h] at hp
    subst hp
    go_enter Tryz.func101, Tryz.ntmps101
    go_upto_region 1 with fail
    generalize (((w.alloc (.cells #[.int .i64 ax, .int .i64 ay] 28 (0, 0))).alloc (.cells #[.int .i64 bx, .int .i64 ey] 28 (0, 0))).alloc (.cells #[.int .i64 0, .int .i64 0] 28 (0, 0))) = V at *
    obtain ⟨k0, k1, kf, kl⟩ := hA.out.cells
    obtain ⟨l0, l1, lf, ll⟩ := hB.out.cells
    go_wp2_with fail
    refine (hcc.out _).mono ?_
    rintro e w1 ⟨rfl, q, os, rfl⟩
    have hb1 : Below V.heap.size V (Go.Sort.grow (V.drewN q) os) := below_drewN_grow V q os
    generalize Go.Sort.grow (V.drewN q) os = w1 at *
    obtain ⟨u0, u1, uf, ul⟩ := (hA.out.below hb1).cells
    obtain ⟨v0, v1, vf, vl⟩ := (hB.out.below hb1).cells
    obtain ⟨r0, r1, rf, rl⟩ := (hC.out.below hb1).cells
    have hC1 := Lib.hid (hC.out.below hb1)
    go_wp2_with fail
    obtain ⟨s0, s1, _, _⟩ := (hC1.out.put bx ey).cells
    refine bodyPost_ret (v := .agg #[.int .i64 bx, .int .i64 ey]) (by simp [results, Tryz.results101, go_sem, s0, s1]) rfl ⟨rfl, ?_⟩
    exact ((hb0.trans (hb1.mono hb0.size)).setCell (p := ⟨w.heap.size + 2, 0, none⟩) (by show w.heap.size ≤ w.heap.size + 2; omega) _).setCell (p := ⟨w.heap.size + 2, 1, none⟩) (by show w.heap.size ≤ w.heap.size + 2; omega) _

set_option maxHeartbeats 4000000 in
theorem onSegment_any (ax ay bx ey px py : Int) (v : Bool) (hv : v = onSg (ax, ay) (bx, ey) (px, py)) (w : World) (ha : pt2Ok (ax, ay) = true) (hb : pt2Ok (bx, ey) = true) (hp : pt2Ok (px, py) = true) :
    Calls Tryz.prog 104 #[.agg #[.int .i64 ax, .int .i64 ay], .agg #[.int .i64 bx, .int .i64 ey], .agg #[.int .i64 px, .int .i64 py]] w fun e w' => e = .returned (.bool v) ∧ Below w.heap.size w w' := by
  have hb0 : Below w.heap.size w (((w.alloc (.cells #[.int .i64 ax, .int .i64 ay] 28 (0, 0))).alloc (.cells #[.int .i64 bx, .int .i64 ey] 28 (0, 0))).alloc (.cells #[.int .i64 px, .int .i64 py] 28 (0, 0))) := ((Go.Joins.below_alloc2 w _ _).alloc (by simp; omega) _)
  have hnew := heap_new0 w (.cells #[.int .i64 ax, .int .i64 ay] 28 (0, 0)) (.cells #[.int .i64 bx, .int .i64 ey] 28 (0, 0)) (.cells #[.int .i64 px, .int .i64 py] 28 (0, 0))
  have hz0 : (((w.alloc (.cells #[.int .i64 ax, .int .i64 ay] 28 (0, 0))).alloc (.cells #[.int .i64 bx, .int .i64 ey] 28 (0, 0))).alloc (.cells #[.int .i64 px, .int .i64 py] 28 (0, 0))).heap.size = w.heap.size + 3 := by simp
  obtain ⟨t, ht⟩ : ∃ t, t = turnI ax ay bx ey px py := ⟨_, rfl⟩
  have hct := Lib.hid (turn_any ax ay bx ey px py (((w.alloc (.cells #[.int .i64 ax, .int .i64 ay] 28 (0, 0))).alloc (.cells #[.int .i64 bx, .int .i64 ey] 28 (0, 0))).alloc (.cells #[.int .i64 px, .int .i64 py] 28 (0, 0))) ha hb hp)
  unfold onSg tn at hv
  simp only at hv
  rw [← ht] at hct hv
  obtain ⟨x1, e1⟩ : ∃ x, min ax bx = x := ⟨_, rfl⟩
  obtain ⟨x2, e2⟩ : ∃ x, max ax bx = x := ⟨_, rfl⟩
  obtain ⟨y1, e3⟩ : ∃ x, min ay ey = x := ⟨_, rfl⟩
  obtain ⟨y2, e4⟩ : ∃ x, max ay ey = x := ⟨_, rfl⟩
  rw [e1, e2, e3, e4] at hv
  have hA : Hid (PB (((w.alloc (.cells #[.int .i64 ax, .int .i64 ay] 28 (0, 0))).alloc (.cells #[.int .i64 bx, .int .i64 ey] 28 (0, 0))).alloc (.cells #[.int .i64 px, .int .i64 py] 28 (0, 0))) w.heap.size ax ay) := hnew.1
  have hB : Hid (PB (((w.alloc (.cells #[.int .i64 ax, .int .i64 ay] 28 (0, 0))).alloc (.cells #[.int .i64 bx, .int .i64 ey] 28 (0, 0))).alloc (.cells #[.int .i64 px, .int .i64 py] 28 (0, 0))) (w.heap.size + 1) bx ey) := hnew.2.1
  have hC : Hid (PB (((w.alloc (.cells #[.int .i64 ax, .int .i64 ay] 28 (0, 0))).alloc (.cells #[.int .i64 bx, .int .i64 ey] 28 (0, 0))).alloc (.cells #[.int .i64 px, .int .i64 py] 28 (0, 0))) (w.heap.size + 2) px py) := hnew.2.2
  replace hv := Lib.hid hv
  replace ht := Lib.hid ht
  clear ha hb hp hnew hz0
  by_cases htb : t = 0
  rotate_left
  · go_enter Tryz.func104, Tryz.ntmps104
    go_upto_region 1 with fail
    generalize (((w.alloc (.cells #[.int .i64 ax, .int .i64 ay] 28 (0, 0))).alloc (.cells #[.int .i64 bx, .int .i64 ey] 28 (0, 0))).alloc (.cells #[.int .i64 px, .int .i64 py] 28 (0, 0))) = V at *
    obtain ⟨k0, k1, _, _⟩ := hA.out.cells
    obtain ⟨k2, k3, _, _⟩ := hB.out.cells
    obtain ⟨k4, k5, _, _⟩ := hC.out.cells
    go_wp2_with fail
    refine hct.out.mono ?_
    rintro e w1 ⟨rfl, hb1⟩
    obtain ⟨m0, m1, _, _⟩ := (hA.out.below hb1).cells
    obtain ⟨m2, m3, _, _⟩ := (hB.out.below hb1).cells
    obtain ⟨m4, m5, _, _⟩ := (hC.out.below hb1).cells
    go_wp2_with fail
    go_ret
    exact ⟨by rw [hv.out, decide_eq_false (show ¬ t = 0 by omega)]; simp, hb0.trans (hb1.mono hb0.size)⟩
  by_cases g1 : x1 ≤ px
  rotate_left
  · go_enter Tryz.func104, Tryz.ntmps104
    go_upto_region 1 with fail
    generalize (((w.alloc (.cells #[.int .i64 ax, .int .i64 ay] 28 (0, 0))).alloc (.cells #[.int .i64 bx, .int .i64 ey] 28 (0, 0))).alloc (.cells #[.int .i64 px, .int .i64 py] 28 (0, 0))) = V at *
    obtain ⟨k0, k1, _, _⟩ := hA.out.cells
    obtain ⟨k2, k3, _, _⟩ := hB.out.cells
    obtain ⟨k4, k5, _, _⟩ := hC.out.cells
    go_wp2_with fail
    refine hct.out.mono ?_
    rintro e w1 ⟨rfl, hb1⟩
    obtain ⟨m0, m1, _, _⟩ := (hA.out.below hb1).cells
    obtain ⟨m2, m3, _, _⟩ := (hB.out.below hb1).cells
    obtain ⟨m4, m5, _, _⟩ := (hC.out.below hb1).cells
    go_wp2_with fail
    go_ret
    exact ⟨by rw [hv.out, decide_eq_true (show t = 0 by omega), decide_eq_false (show ¬ x1 ≤ px by omega)]; simp, hb0.trans (hb1.mono hb0.size)⟩
  by_cases g2 : px ≤ x2
  rotate_left
  · go_enter Tryz.func104, Tryz.ntmps104
    go_upto_region 1 with fail
    generalize (((w.alloc (.cells #[.int .i64 ax, .int .i64 ay] 28 (0, 0))).alloc (.cells #[.int .i64 bx, .int .i64 ey] 28 (0, 0))).alloc (.cells #[.int .i64 px, .int .i64 py] 28 (0, 0))) = V at *
    obtain ⟨k0, k1, _, _⟩ := hA.out.cells
    obtain ⟨k2, k3, _, _⟩ := hB.out.cells
    obtain ⟨k4, k5, _, _⟩ := hC.out.cells
    go_wp2_with fail
    refine hct.out.mono ?_
    rintro e w1 ⟨rfl, hb1⟩
    obtain ⟨m0, m1, _, _⟩ := (hA.out.below hb1).cells
    obtain ⟨m2, m3, _, _⟩ := (hB.out.below hb1).cells
    obtain ⟨m4, m5, _, _⟩ := (hC.out.below hb1).cells
    go_wp2_with fail
    go_ret
    exact ⟨by rw [hv.out, decide_eq_true (show t = 0 by omega), decide_eq_true (show x1 ≤ px by omega), decide_eq_false (show ¬ px ≤ x2 by omega)]; simp, hb0.trans (hb1.mono hb0.size)⟩
  by_cases g3 : y1 ≤ py
  rotate_left
  · go_enter Tryz.func104, Tryz.ntmps104
    go_upto_region 1 with fail
    generalize (((w.alloc (.cells #[.int .i64 ax, .int .i64 ay] 28 (0, 0))).alloc (.cells #[.int .i64 bx, .int .i64 ey] 28 (0, 0))).alloc (.cells #[.int .i64 px, .int .i64 py] 28 (0, 0))) = V at *
    obtain ⟨k0, k1, _, _⟩ := hA.out.cells
    obtain ⟨k2, k3, _, _⟩ := hB.out.cells
    obtain ⟨k4, k5, _, _⟩ := hC.out.cells
    go_wp2_with fail
    refine hct.out.mono ?_
    rintro e w1 ⟨rfl, hb1⟩
    obtain ⟨m0, m1, _, _⟩ := (hA.out.below hb1).cells
    obtain ⟨m2, m3, _, _⟩ := (hB.out.below hb1).cells
    obtain ⟨m4, m5, _, _⟩ := (hC.out.below hb1).cells
    go_wp2_with fail
    go_ret
    exact ⟨by rw [hv.out, decide_eq_true (show t = 0 by omega), decide_eq_true (show x1 ≤ px by omega), decide_eq_true (show px ≤ x2 by omega), decide_eq_false (show ¬ y1 ≤ py by omega)]; simp, hb0.trans (hb1.mono hb0.size)⟩
  by_cases g4 : py ≤ y2
  rotate_left
  · go_enter Tryz.func104, Tryz.ntmps104
    go_upto_region 1 with fail
    generalize (((w.alloc (.cells #[.int .i64 ax, .int .i64 ay] 28 (0, 0))).alloc (.cells #[.int .i64 bx, .int .i64 ey] 28 (0, 0))).alloc (.cells #[.int .i64 px, .int .i64 py] 28 (0, 0))) = V at *
    obtain ⟨k0, k1, _, _⟩ := hA.out.cells
    obtain ⟨k2, k3, _, _⟩ := hB.out.cells
    obtain ⟨k4, k5, _, _⟩ := hC.out.cells
    go_wp2_with fail
    refine hct.out.mono ?_
    rintro e w1 ⟨rfl, hb1⟩
    obtain ⟨m0, m1, _, _⟩ := (hA.out.below hb1).cells
    obtain ⟨m2, m3, _, _⟩ := (hB.out.below hb1).cells
    obtain ⟨m4, m5, _, _⟩ := (hC.out.below hb1).cells
    go_wp2_with fail
    go_ret
    exact ⟨by rw [hv.out, decide_eq_true (show t = 0 by omega), decide_eq_true (show x1 ≤ px by omega), decide_eq_true (show px ≤ x2 by omega), decide_eq_true (show y1 ≤ py by omega), decide_eq_false (show ¬ py ≤ y2 by omega)]; simp, hb0.trans (hb1.mono hb0.size)⟩
  go_enter Tryz.func104, Tryz.ntmps104
  go_upto_region 1 with fail
  generalize (((w.alloc (.cells #[.int .i64 ax, .int .i64 ay] 28 (0, 0))).alloc (.cells #[.int .i64 bx, .int .i64 ey] 28 (0, 0))).alloc (.cells #[.int .i64 px, .int .i64 py] 28 (0, 0))) = V at *
  obtain ⟨k0, k1, _, _⟩ := hA.out.cells
  obtain ⟨k2, k3, _, _⟩ := hB.out.cells
  obtain ⟨k4, k5, _, _⟩ := hC.out.cells
  go_wp2_with fail
  refine hct.out.mono ?_
  rintro e w1 ⟨rfl, hb1⟩
  obtain ⟨m0, m1, _, _⟩ := (hA.out.below hb1).cells
  obtain ⟨m2, m3, _, _⟩ := (hB.out.below hb1).cells
  obtain ⟨m4, m5, _, _⟩ := (hC.out.below hb1).cells
  go_wp2_with fail
  go_ret
  exact ⟨by rw [hv.out, decide_eq_true (show t = 0 by omega), decide_eq_true (show x1 ≤ px by omega), decide_eq_true (show px ≤ x2 by omega), decide_eq_true (show y1 ≤ py by omega), decide_eq_true (show py ≤ y2 by omega)]; simp, hb0.trans (hb1.mono hb0.size)⟩

end Go.Proofs.YtlifiioflkhkoaaGreat

