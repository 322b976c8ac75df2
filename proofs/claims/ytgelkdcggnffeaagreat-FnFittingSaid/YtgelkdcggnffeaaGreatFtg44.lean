/- The region along an outline: the program's side. Printed by mk_fo4.py. Conditions: as each states. -/
import Derived.Test.YtgelkdcggnffeaaGreatFtg39
import Derived.Test.YtgelkdcggnffeaaGreatFtg43
import Derived.Test.YtgelkdcggnffeaaGreatFtg30
import Derived.Test.YtgelkdcggnffeaaGreatFtg25
namespace Go.Proofs.YtgelkdcggnffeaaGreat
open Go.RowKit
set_option linter.unusedVariables false
set_option maxRecDepth 100000

/-- the region along an outline, made by the call, with a code -/
def RegnCo (r : Option (List (List Pnt))) (n : Nat) (w : World) (e : Ending) (w' : World) : Prop :=
  (r = none ∧ e = .returned (.tuple #[.agg #[.slice none 0 0], .int .i64 5])) ∨
  ∃ Rs A c, r = some Rs ∧ e = .returned (.tuple #[.agg #[.slice A n c], .int .i64 0]) ∧ RegOwn w' w.heap.size A n c Rs ∧ ∀ R ∈ Rs, R.length ≤ 200000
theorem loopOk_flat {K : List Knot} (h : loopOk K = true) : FlatIn K ∧ K.length ≤ 60 := by
  unfold loopOk at h
  rw [Bool.and_eq_true, Bool.and_eq_true] at h
  have h1 := inB_iff.1 h.1.1
  refine ⟨⟨by omega, by omega, fun k hk => List.all_eq_true.1 h.2 k hk, ?_⟩, by omega⟩
  have h2 := h.1.2
  cases K with
  | nil => simp [headOn] at h2
  | cons k K => exact h2
theorem outOk_flat {Ks : List (List Knot)} (h : outOk Ks = true) : Ks.length ≤ 12 ∧ ∀ K ∈ Ks, FlatIn K ∧ K.length ≤ 60 := by
  unfold outOk at h
  rw [Bool.and_eq_true, decide_eq_true_eq] at h
  exact ⟨h.2, fun K hK => loopOk_flat (List.all_eq_true.1 h.1 K hK)⟩

set_option maxHeartbeats 16000000 in
theorem flattenOutline_any (A : Option Addr) (n c lo hi : Nat) (Ks : List (List Knot)) (w : World) (hr : OutRd w lo hi A n Ks) (hhi : hi ≤ w.heap.size) (hok : outOk Ks = true) :
    Calls Tryz.prog 23 #[.agg #[.slice A n c], .int .i64 1] w fun e w' => RegnCo (flatO Ks) n w e w' ∧ Below w.heap.size w w' := by
  have hl := hr.1
  obtain ⟨hn12, hKK⟩ := outOk_flat hok
  have hn : n ≤ 1000 := by omega
  have hK : ∀ K ∈ Ks, FlatIn K := fun K h => (hKK K h).1
  have hbA := Go.Joins.below_alloc2 w (.cells #[.slice A n c] 31 (0, 0)) (.cells #[.slice none 0 0] 26 (0, 0))
  have hzA : ((w.alloc (.cells #[.slice A n c] 31 (0, 0))).alloc (.cells #[.slice none 0 0] 26 (0, 0))).heap.size = w.heap.size + 2 := by simp
  have hnA := heap_new2 w (.cells #[.slice A n c] 31 (0, 0)) (.cells #[.slice none 0 0] 26 (0, 0))
  have hPA := Lib.hid hnA.1
  have hRA := Lib.hid hnA.2
  have hrA := Lib.hid (hr.frame good_loop (Below.sameB hbA hhi))
  have hval := Lib.hid (fun W h1 h2 => validOutline_any A n c lo hi Ks true hok.symm W h1 h2 (by omega) (fun K hK' => by have := (hKK K hK').2; omega))
  obtain ⟨Fs, hFs⟩ : ∃ Fs : List (List Pnt), Fs = Ks.map fun K => (ringL K).getD [] := ⟨_, rfl⟩
  have hFa : ∀ (j : Nat) (K : List Knot) (R : List Pnt), Ks[j]? = some K → ringL K = some R → Fs[j]? = some R := fun j K R h h2 => by rw [hFs, List.getElem?_map, h]; simp [h2]
  have hFl : Fs.length = n := by rw [hFs, List.length_map, hl]
  replace hFs := Lib.hid hFs
  replace hFa := Lib.hid hFa
  replace hFl := Lib.hid hFl
  clear hr hnA hok hKK
  go_enter Tryz.func23, Tryz.ntmps23
  go_upto_region 1 with fail
  generalize (w.alloc (.cells #[.slice A n c] 31 (0, 0))).alloc (.cells #[.slice none 0 0] 26 (0, 0)) = u0 at *
  obtain ⟨G, hG⟩ : ∃ G, G = w.heap.size + 1 := ⟨_, rfl⟩
  rw [← hG] at hRA ⊢
  have hG1 : w.heap.size < G ∧ G ≤ w.heap.size + 1 := by omega
  have hzA1 : G + 1 ≤ u0.heap.size ∧ u0.heap.size ≤ G + 1 := by omega
  have pu : u0.cell? ⟨w.heap.size, 0, none⟩ = some (.slice A n c) := by rw [Go.Joins.cell_of_block hPA.out]; rfl
  have plu : w.heap.size < u0.heap.size := by omega
  clear hzA hG
  go_wp2_with fail
  refine (hval.out u0 hrA.out (by omega)).mono ?_
  rintro e u1 ⟨rfl, hbu1⟩
  have hr1 := Lib.hid (hrA.out.frame good_loop (Below.sameB hbu1 (by omega)))
  have hzu1 := hbu1.size
  have hP1 := Lib.hid ((hbu1.block w.heap.size (by omega)).trans hPA.out)
  have hR1 := Lib.hid ((hbu1.block G (by omega)).trans hRA.out)
  have hB1 := Lib.hid (hbA.trans (hbu1.mono (by omega)))
  clear pu plu hPA hRA hrA hval hbA hbu1
  go_wp2_with fail
  refine (isTolerance_any 1 u1).mono ?_
  rintro e u2 ⟨rfl, rfl⟩
  have ht : inB 1 1 262144 = true := by decide
  rw [ht]
  have hb0 := Go.Joins.below_alloc1 u1 (.cells #[.slice none 0 0] 26 (0, 0))
  have hX0 := Lib.hid (heap_alloc_new u1 (.cells #[.slice none 0 0] 26 (0, 0)))
  have hzX : (u1.alloc (.cells #[.slice none 0 0] 26 (0, 0))).heap.size = u1.heap.size + 1 := by simp
  have hr0 := Lib.hid (hr1.out.frame good_loop (Below.sameB hb0 (by omega)))
  have hP0 := Lib.hid ((hb0.block w.heap.size (by omega)).trans hP1.out)
  have hR0 := Lib.hid ((hb0.block G (by omega)).trans hR1.out)
  have hB0 := Lib.hid (hB1.out.trans (hb0.mono (by omega)))
  go_upto_region 6 with fail
  generalize u1.alloc (.cells #[.slice none 0 0] 26 (0, 0)) = v0 at *
  obtain ⟨X, hX⟩ : ∃ X, X = u1.heap.size := ⟨_, rfl⟩
  rw [← hX] at hX0 ⊢
  have hwX : w.heap.size < X := by omega
  have hGX : G < X := by omega
  have hhX : hi ≤ X := by omega
  have hXv : X + 1 ≤ v0.heap.size := by omega
  have pv : v0.cell? ⟨w.heap.size, 0, none⟩ = some (.slice A n c) := by rw [Go.Joins.cell_of_block hP0.out]; rfl
  have plv : w.heap.size < v0.heap.size := by omega
  replace hX := Lib.hid hX
  clear hzX hb0 hP0 hP1 hR1 hB1 hr1
  go_wp2_with fail
  go_loopw [22] (fun iv wr => ∃ (k : Nat) (Ao : Option Addr) (co : Nat) (ys : List Value), iv = .int .i64 k ∧ k ≤ n ∧ RegTo wr (X + 1) Ao k co ys Fs ∧ wr.heap[X]? = some (.cells #[.slice Ao k co] 26 (0, 0)) ∧ (∀ j K, j < k → Ks[j]? = some K → ∃ R, ringL K = some R ∧ R.length ≤ 200000) ∧ Below X v0 wr) (fun iv wr => n - (intOf iv).toNat)
  case atStart => exact ⟨0, none, 0, [], rfl, Nat.zero_le _, ⟨World.ownsRow_nil _ _ _ _, fun j K hj => absurd hj (Nat.not_lt_zero j), fun i j u v _ hu => by simp at hu⟩, hX0.out, fun j L hj => absurd hj (Nat.not_lt_zero j), Below.refl _ _⟩
  case round =>
  clear hX0 pv plv
  obtain ⟨k, Ao, co, ys, rfl, hk, hto, hXb, hsm, hbx⟩ := hrel
  generalize wr = xr at *
  have hzx := hbx.size
  have hXl : X < xr.heap.size := (Array.getElem?_eq_some_iff.1 hXb).1
  have hRx := Lib.hid ((hbx.block G hGX).trans hR0.out)
  have hBx := Lib.hid (hB0.out.trans (hbx.mono (by omega)))
  replace hto := Lib.hid hto
  replace hsm := Lib.hid hsm
  by_cases hlt : k < n
  rotate_left
  · have hkn : k = n := by omega
    subst hkn
    have hki : ¬ (k : Int) < (k : Int) := by omega
    have xc : xr.cell? ⟨X, 0, none⟩ = some (.slice Ao k co) := by rw [Go.Joins.cell_of_block hXb]; rfl
    have hall : ringsL Ks = some Fs := by
      rw [hFs.out]
      refine ringsL_all fun K hK => ?_
      obtain ⟨j, hj⟩ := List.mem_iff_getElem?.1 hK
      obtain ⟨R, h1, _⟩ := hsm.out j K (by have := (List.getElem?_eq_some_iff.1 hj).1; omega) hj
      rw [h1]; exact Option.some_ne_none _
    have hlen : ∀ R ∈ Fs, R.length ≤ 200000 := by
      intro R hR
      rw [hFs.out] at hR
      obtain ⟨K, hK, rfl⟩ := List.mem_map.1 hR
      obtain ⟨j, hj⟩ := List.mem_iff_getElem?.1 hK
      obtain ⟨R, h1, h2⟩ := hsm.out j K (by have := (List.getElem?_eq_some_iff.1 hj).1; omega) hj
      rw [h1]; exact h2
    have hown : RegOwn xr (X + 1) Ao k co Fs := by
      obtain ⟨g1, g2, g3⟩ := hto.out
      exact ⟨ys, hFl.out, g1, fun j K hj => g2 j K (by have := (List.getElem?_eq_some_iff.1 hj).1; have := hFl.out; omega) hj, g3⟩
    have hrd := hown.rd (fun K hK => Nat.le_trans (hlen K hK) (by decide))
    obtain ⟨v, hv⟩ : ∃ v, v = regOk Fs := ⟨_, rfl⟩
    have hvr := Lib.hid (validRegion_any Ao k co (X + 1) xr.heap.size Fs v hv xr hrd (Nat.le_refl _) (by omega) (fun L hL => Nat.le_trans (hlen L hL) (by omega)))
    have hfo : flatO Ks = if v = true then some Fs else none := by unfold flatO; rw [hall, hv]
    replace hv := Lib.hid hv
    replace hall := Lib.hid hall
    replace hlen := Lib.hid hlen
    replace hown := Lib.hid hown
    replace hfo := Lib.hid hfo
    have hXbH := Lib.hid hXb
    clear hrd hXb
    go_wp2_with fail
    refine hvr.out.mono ?_
    rintro e w2 ⟨rfl, hB2⟩
    have hX2 := Lib.hid ((hB2.block X hXl).trans hXbH.out)
    have hR2 := Lib.hid ((hB2.block G (by omega)).trans hRx.out)
    have hzg : G < w2.heap.size := by have := hB2.size; omega
    have hzX2 : X < w2.heap.size := by have := hB2.size; omega
    have hB2H := Lib.hid hB2
    have x2 : w2.cell? ⟨X, 0, none⟩ = some (.slice Ao k co) := by rw [Go.Joins.cell_of_block hX2.out]; rfl
    have r2 : w2.cell? ⟨G, 0, none⟩ = some (.slice none 0 0) := by rw [Go.Joins.cell_of_block hR2.out]; rfl
    have rf2 := Go.Joins.unfrozen_of_block hR2.out
    clear xc hB2 hvr
    cases v with
    | false =>
      go_wp2_with fail
      refine bodyPost_ret (v := .tuple #[.agg #[.slice none 0 0], .int .i64 5]) (by simp [results, Tryz.results23, go_sem, r2]) rfl ⟨.inl ⟨by rw [hfo.out]; rfl, rfl⟩, ?_⟩
      first | exact hBx.out.trans (hB2H.out.mono (by omega)) | exact (hBx.out.trans (hB2H.out.mono (by omega))).setCell (p := ⟨G, 0, none⟩) (by show w.heap.size ≤ G; omega) _
    | true =>
      go_wp2_with fail
      refine bodyPost_ret (v := .tuple #[.agg #[.slice Ao k co], .int .i64 0]) (by simp [results, Tryz.results23, go_sem, r2]) rfl ⟨.inr ⟨Fs, Ao, co, by rw [hfo.out]; rfl, rfl, ((hown.out.kept hB2H.out).stored_below (by show G < X + 1; omega) _).base (by omega), hlen.out⟩, ?_⟩
      exact (hBx.out.trans (hB2H.out.mono (by omega))).setCell (p := ⟨G, 0, none⟩) (by show w.heap.size ≤ G; omega) _
  have hki : (k : Int) < (n : Int) := by omega
  have i1 : (0 : Int) ≤ (k : Int) ∧ (k : Int) < (n : Int) := by omega
  have hrx := hr0.out.frame good_loop (Below.sameB (hbx.mono hhX) (Nat.le_refl _))
  obtain ⟨b, off, K, A2, n2, c2, rfl, hb0, hb, hja, q0, hm, hrk⟩ := out_at hrx hlt
  have hbw : b < xr.heap.size := by omega
  obtain ⟨f1, f2, f3, f4⟩ := hK K (List.mem_of_getElem? hja)
  have hn2 := hrk.1
  have hjaH := Lib.hid hja
  have hal := Go.Joins.below_alloc1 xr (.cells #[.slice A2 n2 c2] 49 (0, 0))
  have hY0 := heap_alloc_new xr (.cells #[.slice A2 n2 c2] 49 (0, 0))
  have hzY : (xr.alloc (.cells #[.slice A2 n2 c2] 49 (0, 0))).heap.size = xr.heap.size + 1 := by simp
  have hcall := Lib.hid (flattenLoop_any A2 n2 c2 lo hi K _ (hrk.frame (good_flat _) (Below.sameB hal (by omega))) (by omega) (by omega) (by omega) f3 f4)
  have hRv := Lib.hid ((hal.block G (by omega)).trans hRx.out)
  have hBv := Lib.hid (hBx.out.trans (hal.mono (by omega)))
  clear hm hb0 hb hja hrk f3 f4 hrx
  go_upto_region 9 with fail
  generalize xr.alloc (.cells #[.slice A2 n2 c2] 49 (0, 0)) = v1 at *
  have y0 : v1.cell? ⟨xr.heap.size, 0, none⟩ = some (.slice A2 n2 c2) := by rw [Go.Joins.cell_of_block hY0]; rfl
  have hYl : xr.heap.size < v1.heap.size := by omega
  go_wp2_with fail
  refine hcall.out.mono ?_
  rintro e w2 ⟨⟨hno, rfl⟩ | ⟨R, A3, c3, hR, rfl, ho3, hR2⟩, hb3⟩
  · have hnf : flatO Ks = none := by unfold flatO; rw [ringsL_none (List.mem_of_getElem? hjaH.out) hno]
    replace hnf := Lib.hid hnf
    have hal3 := Go.Joins.below_alloc1 w2 (.cells #[.slice none 0 0] 41 (0, 0))
    have hz3 := hb3.size
    have hB4 := Lib.hid ((hBv.out.trans (hb3.mono (by omega))).trans (hal3.mono (by omega)))
    have hR4 := Lib.hid ((hal3.block G (by omega)).trans ((hb3.block G (by omega)).trans hRv.out))
    clear y0 q0 hno hcall
    go_upto_region 10 with fail
    generalize w2.alloc (.cells #[.slice none 0 0] 41 (0, 0)) = w4 at *
    have r4 : w4.cell? ⟨G, 0, none⟩ = some (.slice none 0 0) := by rw [Go.Joins.cell_of_block hR4.out]; rfl
    have rf4 := Go.Joins.unfrozen_of_block hR4.out
    have rl4 : G < w4.heap.size := by have := hal3.size; omega
    clear hal3
    go_wp2_with fail
    refine bodyPost_ret (v := .tuple #[.agg #[.slice none 0 0], .int .i64 5]) (by simp [results, Tryz.results23, go_sem, r4]) rfl ⟨.inl ⟨hnf.out, rfl⟩, ?_⟩
    first | exact hB4.out | exact hB4.out.setCell (p := ⟨G, 0, none⟩) (by show w.heap.size ≤ G; omega) _
  · clear y0 q0
    replace ho3 := Lib.hid ho3
    have hz3 := hb3.size
    have hb3x := hal.trans (hb3.mono (by omega))
    have hX3 := Lib.hid ((hb3x.block X hXl).trans hXb)
    have hbx3 := Lib.hid (hbx.trans (hb3x.mono (by omega)))
    clear hcall hXb
    have hFk := Lib.hid (hFa.out k K R hjaH.out hR)
    replace hR := Lib.hid hR
    have hal3 := Go.Joins.below_alloc1 w2 (.cells #[.slice A3 R.length c3] 41 (0, 0))
    have hbo3 := heap_alloc_new w2 (.cells #[.slice A3 R.length c3] 41 (0, 0))
    have hz4 : (w2.alloc (.cells #[.slice A3 R.length c3] 41 (0, 0))).heap.size = w2.heap.size + 1 := by simp
    have ho4 := Lib.hid (own_below ho3.out hal3)
    have hb4 := hb3x.trans (hal3.mono (by omega))
    have hX4 := Lib.hid ((hal3.block X (by omega)).trans hX3.out)
    have hbx4 := Lib.hid (hbx3.out.trans (hal3.mono (by omega)))
    clear ho3 hX3 hbx3 hb3 hal3 hal
    go_upto_region 10 with fail
    generalize w2.alloc (.cells #[.slice A3 R.length c3] 41 (0, 0)) = w4 at *
    obtain ⟨Z, hZ⟩ : ∃ Z, Z = w2.heap.size := ⟨_, rfl⟩
    rw [← hZ] at hbo3 hz4 hz3 ⊢
    have hZ4 : Z < w4.heap.size := by omega
    have hzw4 : xr.heap.size ≤ w4.heap.size := by omega
    have hzv4 : v1.heap.size ≤ w4.heap.size := by omega
    clear hz4
    replace hZ := Lib.hid hZ
    have z0 : w4.cell? ⟨Z, 0, none⟩ = some (.slice A3 R.length c3) := by rw [Go.Joins.cell_of_block hbo3]; rfl
    have x4 : w4.cell? ⟨X, 0, none⟩ = some (.slice Ao k co) := by rw [Go.Joins.cell_of_block hX4.out]; rfl
    have xf4 := Go.Joins.unfrozen_of_block hX4.out
    have xl4 : X < w4.heap.size := by omega
    have hrow4 := Lib.hid (own_below hto.out.1 hb4)
    clear hbo3
    go_wp2_with (at_builtin; refine wpAppAt rfl (.tmp 37) (.tmp 39) elemRing rfl (v := .slice Ao k co) (n := k) (xs := ys) rfl (hrow4.out.alloc _) rfl (src_at (cs := [.slice A3 R.length c3]) rfl (by simp [Value.oneCell']) (by simp)) (by omega) (by omega) (by simp; omega) (k + 1) rfl ?_; intro A4 c4 w5 ho5 hg5 _; have hk5 : w5.heap[X]? = w4.heap[X]? := (hg5.block X (by simp; omega) (fun e => by have := (hrow4.out.lt X e.symm).1; omega)).trans (Below.heap_alloc _ _ _ xl4); have x5 : w5.cell? ⟨X, 0, none⟩ = some (.slice Ao k co) := (World.cell?_of_block hk5).trans x4; have xf5 : ∀ o, w5.frozen? ⟨X, o, none⟩ = false := fun o => (World.frozen?_of_block hk5).trans (xf4 o); have xl5 : X < w5.heap.size := (by have := hg5.size; simp at this; omega); replace hk5 := Lib.hid hk5; replace ho5 := Lib.hid ho5; replace hg5 := Lib.hid hg5)
    have hnx := RegTo.next (w1 := w4.alloc (.cells #[.slice A3 R.length c3] 41 (0, 0))) hto.out hFk.out (hb4.trans ((Go.Joins.below_alloc1 w4 _).mono hzw4)) (ho4.out.alloc _) (show xr.heap.size ≤ v1.heap.size by omega) (by omega) ho5.out hg5.out
    go_roundw
    case rel =>
      refine ⟨k + 1, A4, c4, _, by go_num, by omega, hnx.set (by show X < X + 1; omega) _, Go.Joins.block_setCell (hk5.out.trans hX4.out) _, fun j K' hj hK' => ?_, ?_⟩
      · rcases Nat.lt_or_ge j k with h | h
        · exact hsm.out j K' h hK'
        · obtain rfl : j = k := by omega
          have h2 := hjaH.out
          rw [hK'] at h2
          injection h2 with h2
          exact ⟨R, by rw [h2]; exact hR.out, hR2⟩
      · exact ((hbx4.out.alloc (by omega) _).grown hg5.out (by simp; omega) (fun g hg => by have := (hrow4.out.lt g hg).1; omega)).setCell (Nat.le_refl _) _
    case measure => simp [intOf]; omega
end Go.Proofs.YtgelkdcggnffeaaGreat

/- A ring as a path that returns to its first point, both sides. Conditions: as each states. -/
namespace Go.Proofs.YtgelkdcggnffeaaGreat
open Go.RowKit
set_option linter.unusedVariables false
set_option maxRecDepth 100000

theorem ptc_one (a : Int × Int) : ∀ u ∈ ptC a, u.oneCell' = true := by
  intro u hu
  simp only [ptC, List.mem_cons, List.not_mem_nil, or_false] at hu
  rcases hu with rfl | rfl <;> rfl
set_option maxHeartbeats 1000000 in
theorem clonePt_any (A : Option Addr) (n c lo hi : Nat) (K : List Pnt) (w : World) (hr : RdS 2 (FlatR ptC) w lo hi A n K) (hn : n ≤ 1048576) (hz : A = none → n = 0) :
    Calls Tryz.prog 47 #[.slice A n c] w fun e w' => ∃ A' c', e = .returned (.slice A' n c') ∧ w'.ownsRow w.heap.size 71 2 (.slice A' n c') n (K.flatMap ptC) ∧ Below w.heap.size w w' := by
  have hs := src_rd ptC_len ptc_one hr
  have hl := hr.1
  have hu : Tryz.prog.underlying 39 = some (.slice 71) := Tryz.underlying39
  have q22 : ∀ (w : World) (a : Option Addr) (n c n' c' : Nat), (binOp .eql 39 (.slice a n c) (.slice none n' c')).run Tryz.prog w = .ok (.bool a.isNone) w := fun w a n c n' c' => Lib.run_eql_slice_nil w _ _ a n c n' c' hu
  clear hr
  cases A with
  | none =>
    obtain rfl := hz rfl
    have hK : K = [] := List.eq_nil_of_length_eq_zero hl
    subst hK
    clear hs hl hz
    go_enter Tryz.func47, Tryz.ntmps47
    go_wp2_with fail
    go_ret
    exact ⟨none, 0, rfl, World.ownsRow_nil _ _ _ _, Below.refl _ _⟩
  | some a =>
    replace hs := Lib.hid hs
    replace hl := Lib.hid hl
    clear hz
    go_enter Tryz.func47, Tryz.ntmps47
    go_wp2_with (at_builtin; refine wpApp rfl (.tmp 5) (.tmp 6) elemPt rfl (base := w.heap.size) (v := .slice (some ⟨w.heap.size, 0, none⟩) 0 0) rfl (World.ownsRow_made w #[] 0 (Nat.le_refl _) (Nat.zero_le _) rfl) rfl (src_new0 hs.out _) (by omega) (by omega) (by simp) n (by omega) ?_; intro A' c' w1 ho1 hb1; replace ho1 := Lib.hid ho1)
    go_ret
    exact ⟨A', c', rfl, by simpa using ho1.out, ((Below.refl _ _).alloc (Nat.le_refl _) _).trans hb1⟩

theorem src_blk {w : World} {b x : Nat} {u v : Int} (h : w.heap[b]? = some (.cells #[.int .i64 u, .int .i64 v] x (0, 0))) : Src w 2 (some ⟨b, 0, none⟩) 1 [.int .i64 u, .int .i64 v] := by
  have h2 : w.ownsRow b x 2 (.slice (some ⟨b, 0, none⟩) 1 1) 1 [.int .i64 u, .int .i64 v] := ⟨rfl, .inr ⟨b, 1, #[.int .i64 u, .int .i64 v], rfl, Nat.le_refl _, h, Nat.le_refl _, by decide, rfl, rfl⟩⟩
  exact src_own h2 (by simp [Value.oneCell'])
theorem clo_flat {L : List Pnt} : (clo L).flatMap ptC = L.flatMap ptC ++ ptC (ptAt L 0) := by unfold clo; simp

set_option maxHeartbeats 8000000 in
theorem closedPath_any (A : Option Addr) (n c lo hi : Nat) (L : List Pnt) (w : World) (hr : RdS 2 (FlatR ptC) w lo hi A n L) (hhi : hi ≤ w.heap.size) (hn1 : 1 ≤ n) (hn : n ≤ 1000000) :
    Calls Tryz.prog 24 #[.agg #[.slice A n c]] w fun e w' => ∃ A' c', e = .returned (.slice A' (n + 1) c') ∧ w'.ownsRow w.heap.size 71 2 (.slice A' (n + 1) c') (n + 1) ((clo L).flatMap ptC) ∧ Below w.heap.size w w' := by
  have hb0 := Go.Joins.below_alloc1 w (.cells #[.slice A n c] 41 (0, 0))
  have hP0 := Lib.hid (heap_alloc_new w (.cells #[.slice A n c] 41 (0, 0)))
  have hz0 : (w.alloc (.cells #[.slice A n c] 41 (0, 0))).heap.size = w.heap.size + 1 := by simp
  have hr0 := hr.frame (good_flat _) (Below.sameB hb0 hhi)
  clear hr
  go_enter Tryz.func24, Tryz.ntmps24
  have hz1 : (w.alloc (.cells #[.slice A n c] 41 (0, 0))).heap.size ≤ w.heap.size + 1 ∧ w.heap.size + 1 ≤ (w.alloc (.cells #[.slice A n c] 41 (0, 0))).heap.size := by omega
  clear hz0
  go_upto_region 1 with fail
  generalize w.alloc (.cells #[.slice A n c] 41 (0, 0)) = v at *
  have hcl : Hid (∀ W, Below v.heap.size v W → Calls Tryz.prog 47 #[.slice A n c] W fun e w' => ∃ A' c', e = .returned (.slice A' n c') ∧ w'.ownsRow v.heap.size 71 2 (.slice A' n c') n (L.flatMap ptC) ∧ Below v.heap.size v w' ∧ (∀ o, W = v.drew.alloc o → w'.heap[v.heap.size]? = some o)) := by
    refine Lib.hid fun W hb => (clonePt_any A n c lo hi L W (hr0.frame (good_flat _) (Below.sameB hb (by omega))) (by omega) (fun e => by obtain ⟨b, off, hA, _⟩ := hr0.pts (by omega); rw [hA] at e; cases e)).mono ?_
    rintro e w' ⟨A', c', he, ho, hb'⟩
    refine ⟨A', c', he, own_lower ho hb.size, hb.trans (hb'.mono hb.size), fun o hW => ?_⟩
    subst hW
    exact (hb'.block v.heap.size (by show v.heap.size < (v.alloc o).heap.size; simp)).trans (heap_alloc_new v o)
  obtain ⟨b, off, rfl, hbl, hbh, hcs⟩ := hr0.pts (by omega)
  obtain ⟨x0, x1⟩ := hcs 0 (by omega)
  rw [Nat.zero_mul, Nat.add_zero] at x0 x1
  obtain ⟨⟨px, py⟩, hp⟩ : ∃ p, p = ptAt L 0 := ⟨_, rfl⟩
  rw [← hp] at x0 x1
  simp only at x0 x1
  have hbv : b < v.heap.size := by omega
  have hwv : w.heap.size < v.heap.size := by omega
  have p0 : v.cell? ⟨w.heap.size, 0, none⟩ = some (.slice (some ⟨b, off, none⟩) n c) := by rw [Go.Joins.cell_of_block hP0.out]; rfl
  have i1 : (0 : Int) < (n : Int) := by omega
  have n1 : 0 < n := by omega
  have hS := Lib.hid (fun (W : World) (hb : Below v.heap.size v W) => (show W.cell? ⟨w.heap.size, 0, none⟩ = some (.slice (some ⟨b, off, none⟩) n c) ∧ W.cell? ⟨b, off, none⟩ = some (.int .i64 px) ∧ W.cell? ⟨b, off + 1, none⟩ = some (.int .i64 py) from ⟨(hb.cell (p := ⟨w.heap.size, 0, none⟩) hwv).trans p0, (hb.cell (p := ⟨b, off, none⟩) hbv).trans x0, (hb.cell (p := ⟨b, off + 1, none⟩) hbv).trans x1⟩))
  have hgrow : Hid (∀ (W w5 : World) (A4 : Option Addr) (c4 : Nat), Below v.heap.size v W → W.ownsRow v.heap.size 71 2 (.slice A4 n c4) n (L.flatMap ptC) → W.grownBy w5 (Value.slice A4 n c4).ownBlock → Below v.heap.size v w5) := Lib.hid fun W w5 A4 c4 hb ho hg => hb.grown hg hb.size (fun g hg' => (ho.lt g hg').1)
  replace hp := Lib.hid hp
  replace hr0 := Lib.hid hr0
  replace hcs := Lib.hid hcs
  go_region_held3 (fun w' => w'.cell? ⟨w.heap.size, 0, none⟩ = some (.slice (some ⟨b, off, none⟩) n c) ∧ w'.cell? ⟨b, off, none⟩ = some (.int .i64 px) ∧ w'.cell? ⟨b, off + 1, none⟩ = some (.int .i64 py)) (first | (with_reducible exact sE.out) | (with_reducible exact sQ.out) | (refine hS.out _ ?_; repeat (first | with_reducible exact hbQ.out | with_reducible exact Below.refl _ _ | with_reducible refine Below.drew ?_ | with_reducible refine Below.alloc ?_ (by first | exact Nat.le_refl _ | exact hbQ.out.size) _))) (first | (go_at_call 47; (with_reducible refine (hcl.out _ ?_).mono ?_); (first | exact Below.drew (Below.refl _ _) | exact Below.alloc (Below.drew (Below.refl _ _)) (Nat.le_refl _) _); rintro e w4 ⟨A4, c4, rfl, ho4, hbQ, hrow⟩; have sQ := Lib.hid (hS.out w4 hbQ); replace ho4 := Lib.hid ho4; replace hbQ := Lib.hid hbQ; replace hrow := Lib.hid hrow) | (refine stepAppAt rfl (.tmp 5) (.tmp 10) elemPt rfl (base := v.heap.size) (v := .slice A4 n c4) (n := n) (xs := L.flatMap ptC) (m := 1) (news := [.int .i64 px, .int .i64 py]) rfl (by first | exact ho4.out | exact ho4.out.alloc _) rfl (by first | exact src_blk (hrow.out _ rfl) | exact src_at (cs := [.int .i64 px, .int .i64 py]) rfl (by simp [Value.oneCell']) rfl) (by omega) (by omega) (by first | exact hbQ.out.size | exact (hbQ.out.alloc hbQ.out.size _).size) (n + 1) rfl ?_; intro A5 c5 w5 ho5 hg5; have hb5 : Below v.heap.size v w5 := (by first | exact hgrow.out _ _ _ _ hbQ.out ho4.out hg5 | exact hgrow.out _ _ _ _ (hbQ.out.alloc hbQ.out.size _) (ho4.out.alloc _) hg5); have sE := Lib.hid (hS.out w5 hb5); replace ho5 := Lib.hid ho5; replace hb5 := Lib.hid hb5; clear hg5))
  all_goals
    go_wp2_with fail
    go_ret
    exact ⟨A5, c5, rfl, by rw [clo_flat, ← hp.out]; exact own_lower ho5.out (by omega), hb0.trans (hb5.out.mono (by omega))⟩

set_option maxHeartbeats 8000000 in
theorem l16Closed_any (p po : Nat) (A : Option Addr) (n c lo hi : Nat) (L : List Pnt) (w : World) (hp : w.cell? ⟨p, po, none⟩ = some (.slice A n c)) (hr : RdS 2 (FlatR ptC) w lo hi A n L) (hhi : hi ≤ w.heap.size) (hn1 : 1 ≤ n) (hn : n ≤ 1000000) :
    Calls Tryz.prog 50 #[.pointer (some ⟨p, po, none⟩)] w fun e w' => ∃ A' c', e = .returned (.slice A' (n + 1) c') ∧ w'.ownsRow w.heap.size 71 2 (.slice A' (n + 1) c') (n + 1) ((clo L).flatMap ptC) ∧ Below w.heap.size w w' := by
  have hs := Lib.hid (src_rd ptC_len ptc_one hr)
  have hll := Lib.hid hr.1
  have hpl := cell_lt hp
  have hpH := Lib.hid hp
  obtain ⟨b, off, rfl, hbl, hbh, hcs⟩ := hr.pts (by omega)
  obtain ⟨x0, x1⟩ := hcs 0 (by omega)
  rw [Nat.zero_mul, Nat.add_zero] at x0 x1
  obtain ⟨⟨px, py⟩, hpt⟩ : ∃ p, p = ptAt L 0 := ⟨_, rfl⟩
  rw [← hpt] at x0 x1
  simp only at x0 x1
  have hbv : b < w.heap.size := by omega
  have i1 : (0 : Int) < (n : Int) := by omega
  have n1 : 0 < n := by omega
  have hS := Lib.hid (fun (W : World) (hb : Below w.heap.size w W) => (show W.cell? ⟨p, po, none⟩ = some (.slice (some ⟨b, off, none⟩) n c) ∧ W.cell? ⟨b, off, none⟩ = some (.int .i64 px) ∧ W.cell? ⟨b, off + 1, none⟩ = some (.int .i64 py) from ⟨(hb.cell (p := ⟨p, po, none⟩) hpl).trans hp, (hb.cell (p := ⟨b, off, none⟩) hbv).trans x0, (hb.cell (p := ⟨b, off + 1, none⟩) hbv).trans x1⟩))
  replace hpt := Lib.hid hpt
  clear hr hcs x0 x1
  go_enter Tryz.func50, Tryz.ntmps50
  go_upto_region 2 with (at_builtin; refine wpApp rfl (.tmp 4) (.tmp 8) elemPt rfl (base := w.heap.size) (v := .slice (some ⟨w.heap.size, 0, none⟩) 0 0) rfl (World.ownsRow_made w #[] 0 (Nat.le_refl _) (Nat.zero_le _) rfl) rfl (src_new0 hs.out _) (by omega) (by omega) (by simp) n (by omega) ?_; intro A1 c1 w1 ho1 hb1; have hB1 : Below w.heap.size w w1 := ((Below.refl _ _).alloc (Nat.le_refl _) _).trans hb1; obtain ⟨y0, y1, y2⟩ := hS.out w1 hB1; have hpl1 : p < w1.heap.size := (Nat.lt_of_lt_of_le hpl hB1.size); have hbl1 : b < w1.heap.size := (Nat.lt_of_lt_of_le hbv hB1.size); replace ho1 := Lib.hid ho1; replace hB1 := Lib.hid hB1; clear hb1 hp)
  go_wp2_with (at_builtin; refine wpApp rfl (.tmp 10) (.tmp 17) elemPt rfl (base := w.heap.size) (v := .slice A1 n c1) (n := n) (xs := L.flatMap ptC) rfl ((by simpa using ho1.out : w1.ownsRow w.heap.size 71 2 (.slice A1 n c1) n (L.flatMap ptC)).alloc _) rfl (src_at (cs := [.int .i64 px, .int .i64 py]) rfl (by simp [Value.oneCell']) rfl) (by omega) (by omega) (by have := hB1.out.size; simp; omega) (n + 1) rfl ?_; intro A2 c2 w2 ho2 hb2; replace ho2 := Lib.hid ho2)
  go_ret
  exact ⟨A2, c2, rfl, by rw [clo_flat, ← hpt.out]; exact ho2.out, (hB1.out.alloc hB1.out.size _).trans hb2⟩
end Go.Proofs.YtgelkdcggnffeaaGreat

