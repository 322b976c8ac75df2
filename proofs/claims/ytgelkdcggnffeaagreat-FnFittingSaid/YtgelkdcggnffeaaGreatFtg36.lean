/- FitRegion, both sides. Printed by mk_rg2.py. Conditions: as each states. -/
import Derived.Test.YtgelkdcggnffeaaGreatFtg35
import Derived.Test.YtgelkdcggnffeaaGreatFtg07
namespace Go.Proofs.YtgelkdcggnffeaaGreat
open Go.RowKit
set_option linter.unusedVariables false
set_option maxRecDepth 100000

/-- the loops that are fitted to rings, and a code -/
def fgR (Rs : List (List Pnt)) (t : Int) : List (List Knot) × Int :=
  if regOk Rs = false then ([], 1) else if inB t 1 262144 = false then ([], 2) else if (Rs.any fun L => decide (60 < (ringK L t).length)) = true ∨ 12 < Rs.length then ([], 5) else (Rs.map fun L => ringK L t, 0)
/-- each ring's slice is no longer than its array -/
def RegCap (w : World) (A : Option Addr) (n : Nat) : Prop := ∀ (j b off : Nat) (A' : Option Addr) (n' c' : Nat), j < n → A = some ⟨b, off, none⟩ → w.cell? ⟨b, off + j, none⟩ = some (.slice A' n' c') → n' ≤ c'
theorem RegCap.frame {w w' : World} {A : Option Addr} {n lo hi : Nat} {Rs : List (List Pnt)} (h : RegCap w A n) (hr : RegRd w lo hi A n Rs) (hs : SameB lo hi w w') : RegCap w' A n := fun j b off A' n' c' hj hA hc => by
  obtain ⟨b', off', hA', h1, h2, _⟩ := hr.2 (by omega)
  rw [hA] at hA'
  injection hA' with hA'
  injection hA' with e1 e2
  subst e1 e2
  rw [hs.cell h1 h2] at hc
  exact h j b off A' n' c' hj hA hc
theorem RegOwn.cap {w : World} {lo n c : Nat} {A : Option Addr} {Rs : List (List Pnt)} (h : RegOwn w lo A n c Rs) : RegCap w A n := fun j b off A' n' c' hj hA hc => by
  obtain ⟨ys, h1, h2, h3, _⟩ := h
  obtain ⟨g, hg, _, _, _, hcell, _⟩ := own_at h2 (by omega)
  rw [hA] at hg
  injection hg with hg
  injection hg with e1 e2
  subst e1 e2
  have hl : j < Rs.length := by omega
  obtain ⟨Aj, cj, h4, h5⟩ := h3 j _ (List.getElem?_eq_getElem hl)
  have h6 := hcell j (by omega)
  rw [Nat.zero_add] at hc
  rw [hc, h4] at h6
  injection h6 with h6
  injection h6 with e3 e4 e5
  subst e3 e4 e5
  rcases Nat.eq_zero_or_pos (Rs[j]).length with h0 | h0
  · omega
  · obtain ⟨_, _, _, _, h7, _⟩ := own_at h5 h0
    exact h7
theorem fr_in {L : List Pnt} {t : Int} (h : pathOk L = true) (ht : inB t 1 262144 = true) : frR L t = if 60 < (ringK L t).length then ([], 5) else (ringK L t, 0) := by
  unfold frR
  rw [h, ht]
  simp

set_option maxHeartbeats 8000000 in
theorem specFitRegion_any (A : Option Addr) (n c lo hi : Nat) (Rs : List (List Pnt)) (t : Int) (Ls : List (List Knot)) (cd : Int) (hv : fgR Rs t = (Ls, cd)) (w : World) (hr : RegRd w lo hi A n Rs) (hhi : hi ≤ w.heap.size) (hn : n ≤ 1048576) (hs : ∀ L ∈ Rs, L.length ≤ 1048576) :
    Calls Tryz.prog 8 #[.agg #[.slice A n c], .int .i64 t] w fun e w' => ∃ (A' : Option Addr) (c' : Nat), e = .returned (.tuple #[.agg #[.slice A' Ls.length c'], .int .i64 cd]) ∧ OutOwn w' w.heap.size A' Ls.length c' Ls ∧ Below w.heap.size w w' := by
  have hl := hr.1
  have hnew := heap_new2 w (.cells #[.slice A n c] 26 (0, 0)) (.cells #[.slice none 0 0] 31 (0, 0))
  have hB0 : Below w.heap.size w ((w.alloc (.cells #[.slice A n c] 26 (0, 0))).alloc (.cells #[.slice none 0 0] 31 (0, 0))) := Go.Joins.below_alloc2 _ _ _
  have hz0 : ((w.alloc (.cells #[.slice A n c] 26 (0, 0))).alloc (.cells #[.slice none 0 0] 31 (0, 0))).heap.size = w.heap.size + 2 := by simp
  have hr0 := Lib.hid (hr.frame good_ring (Below.sameB hB0 hhi))
  obtain ⟨v, hvv⟩ : ∃ v, v = regOk Rs := ⟨_, rfl⟩
  unfold fgR at hv
  rw [← hvv] at hv
  have hvd := Lib.hid (fun W hp hr hh => l13Ok_any w.heap.size 0 A n c lo hi Rs v hvv W hp hr hh hn hs)
  replace hvv := Lib.hid hvv
  have hempty : ∀ W : World, OutOwn W w.heap.size none 0 0 [] := fun W => ⟨[], rfl, World.ownsRow_nil _ _ _ _, fun j K hj => by simp at hj, fun i j u v _ hu => by simp at hu⟩
  replace hempty := Lib.hid hempty
  clear hr
  go_enter Tryz.func8, Tryz.ntmps8
  go_upto_region 1 with fail
  generalize (w.alloc (.cells #[.slice A n c] 26 (0, 0))).alloc (.cells #[.slice none 0 0] 31 (0, 0)) = w0 at *
  have p0 : w0.cell? ⟨w.heap.size, 0, none⟩ = some (.slice A n c) := by rw [Go.Joins.cell_of_block hnew.1]; rfl
  have pl0 : w.heap.size < w0.heap.size := by omega
  go_wp2_with fail
  refine ((hvd.out w0 p0 hr0.out (by omega))).mono ?_
  rintro e w1 ⟨rfl, hb1⟩
  have hz1 := hb1.size
  have hB1 := Lib.hid (hB0.trans (hb1.mono hB0.size))
  have hP1 := Lib.hid ((hb1.block w.heap.size pl0).trans hnew.1)
  have hR1 := Lib.hid ((hb1.block (w.heap.size + 1) (by omega)).trans hnew.2)
  have hr1 := Lib.hid (hr0.out.frame good_ring (Below.sameB hb1 (by omega)))
  have p1 : w1.cell? ⟨w.heap.size, 0, none⟩ = some (.slice A n c) := by rw [Go.Joins.cell_of_block hP1.out]; rfl
  have pl1 : w.heap.size < w1.heap.size := by omega
  have r0 : w1.cell? ⟨w.heap.size + 1, 0, none⟩ = some (.slice none 0 0) := by rw [Go.Joins.cell_of_block hR1.out]; rfl
  have rf := Go.Joins.unfrozen_of_block hR1.out
  have rl : w.heap.size + 1 < w1.heap.size := by omega
  clear hvd hr0 p0 pl0 hb1 hnew hB0
  cases v with
  | false =>
    rw [if_pos rfl] at hv
    injection hv with e1 e2
    subst e1 e2
    go_wp2_with fail
    refine bodyPost_ret (v := .tuple #[.agg #[.slice none 0 0], .int .i64 1]) (by simp [results, Tryz.results8, go_sem, r0]) rfl ⟨none, 0, rfl, hempty.out _, ?_⟩
    exact hB1.out.setCell (by show w.heap.size ≤ w.heap.size + 1; omega) _
  | true =>
  rw [if_neg (by simp)] at hv
  obtain ⟨h40, hpok, _⟩ := regOk_is hvv.out.symm
  rw [hl] at h40
  have htl := Lib.hid (l09Tolerance_any t w1)
  go_wp2_with fail
  refine htl.out.mono ?_
  rintro e w' ⟨rfl, rfl⟩
  cases ht : inB t 1 262144 with
  | false =>
    rw [ht, if_pos rfl] at hv
    injection hv with e1 e2
    subst e1 e2
    go_wp2_with fail
    refine bodyPost_ret (v := .tuple #[.agg #[.slice none 0 0], .int .i64 2]) (by simp [results, Tryz.results8, go_sem, r0]) rfl ⟨none, 0, rfl, hempty.out _, ?_⟩
    exact hB1.out.setCell (by show w.heap.size ≤ w.heap.size + 1; omega) _
  | true =>
  rw [ht, if_neg (by simp)] at hv
  have hfr := Lib.hid (fun L (h : pathOk L = true) => fr_in h ht)
  replace hv := Lib.hid hv
  have hll := Lib.hid hl
  replace hpok := Lib.hid hpok
  clear hl htl r0 rf rl ht p1
  have hal := Go.Joins.below_alloc1 w1 (.cells #[.slice none 0 0] 31 (0, 0))
  have hxb := heap_alloc_new w1 (.cells #[.slice none 0 0] 31 (0, 0))
  have hza : (w1.alloc (.cells #[.slice none 0 0] 31 (0, 0))).heap.size = w1.heap.size + 1 := by simp
  have hr2 := Lib.hid (hr1.out.frame good_ring (Below.sameB hal (by omega)))
  have hP2 := Lib.hid ((hal.block w.heap.size pl1).trans hP1.out)
  have hR2 := Lib.hid ((hal.block (w.heap.size + 1) (by omega)).trans hR1.out)
  have hB2 := Lib.hid (hB1.out.trans (hal.mono (by omega)))
  clear hP1 hR1 hB1 hr1 hal
  go_upto_region 6 with fail
  generalize w1.alloc (.cells #[.slice none 0 0] 31 (0, 0)) = v0 at *
  obtain ⟨X, hX⟩ : ∃ X, X = w1.heap.size := ⟨_, rfl⟩
  rw [← hX] at hxb hza pl1 hz1 ⊢
  have hXv : X + 1 ≤ v0.heap.size := by omega
  have p2 : v0.cell? ⟨w.heap.size, 0, none⟩ = some (.slice A n c) := by rw [Go.Joins.cell_of_block hP2.out]; rfl
  have pl2 : w.heap.size < v0.heap.size := by omega
  clear hza
  replace hX := Lib.hid hX
  obtain ⟨Fs, hFs⟩ : ∃ Fs : List (List Knot), Fs = Rs.map fun L => ringK L t := ⟨_, rfl⟩
  have hFa : ∀ j L, Rs[j]? = some L → Fs[j]? = some (ringK L t) := fun j L h => by rw [hFs, List.getElem?_map, h]; rfl
  have hFl : Fs.length = n := by rw [hFs, List.length_map, hll.out]
  replace hFs := Lib.hid hFs
  replace hFa := Lib.hid hFa
  replace hFl := Lib.hid hFl
  replace hxb := Lib.hid hxb
  go_wp2_with fail
  clear p2 pl2
  go_loopw [7] (fun iv wr => ∃ (k : Nat) (Ao : Option Addr) (co : Nat) (ys : List Value), iv = .int .i64 k ∧ k ≤ n ∧ OutTo wr (X + 1) Ao k co ys Fs ∧ wr.heap[X]? = some (.cells #[.slice Ao k co] 31 (0, 0)) ∧ (∀ j L, j < k → Rs[j]? = some L → ¬ 60 < (ringK L t).length) ∧ Below X v0 wr) (fun iv wr => n - (intOf iv).toNat)
  case atStart => exact ⟨0, none, 0, [], rfl, Nat.zero_le _, ⟨World.ownsRow_nil _ _ _ _, fun j K hj => absurd hj (Nat.not_lt_zero j), fun i j u v _ hu => by simp at hu⟩, hxb.out, fun j L hj => absurd hj (Nat.not_lt_zero j), Below.refl _ _⟩
  case round =>
  clear hxb
  obtain ⟨k, Ao, co, ys, rfl, hk, hto, hXb, hsm, hbx⟩ := hrel
  have hzx := hbx.size
  have hXl : X < wr.heap.size := (Array.getElem?_eq_some_iff.1 hXb).1
  have hPx := Lib.hid ((hbx.block w.heap.size pl1).trans hP2.out)
  have hRx := Lib.hid ((hbx.block (w.heap.size + 1) (by omega)).trans hR2.out)
  have hBx := Lib.hid (hB2.out.trans (hbx.mono (by omega)))
  have px : wr.cell? ⟨w.heap.size, 0, none⟩ = some (.slice A n c) := by rw [Go.Joins.cell_of_block hPx.out]; rfl
  have plx : w.heap.size < wr.heap.size := by omega
  have rx : wr.cell? ⟨w.heap.size + 1, 0, none⟩ = some (.slice none 0 0) := by rw [Go.Joins.cell_of_block hRx.out]; rfl
  have rfx := Go.Joins.unfrozen_of_block hRx.out
  have rlx : w.heap.size + 1 < wr.heap.size := by omega
  have hwX : w.heap.size + 1 < X := by omega
  replace hto := Lib.hid hto
  replace hsm := Lib.hid hsm
  by_cases hlt : k < n
  rotate_left
  · have hkn : k = n := by omega
    subst hkn
    have hki : ¬ (k : Int) < (k : Int) := by omega
    have xc : wr.cell? ⟨X, 0, none⟩ = some (.slice Ao k co) := by rw [Go.Joins.cell_of_block hXb]; rfl
    have hno : ¬ (Rs.any fun L => decide (60 < (ringK L t).length)) = true := by
      intro h
      obtain ⟨L, hL, h2⟩ := List.any_eq_true.1 h
      obtain ⟨j, hj⟩ := List.mem_iff_getElem?.1 hL
      exact hsm.out j L (by have h3 := (List.getElem?_eq_some_iff.1 hj).1; have h4 := hll.out; omega) hj (of_decide_eq_true h2)
    have hvo := hv.out
    by_cases h12 : 12 < k
    · rw [if_pos (.inr (by have := hll.out; omega))] at hvo
      injection hvo with e1 e2
      subst e1 e2
      have h12i : (12 : Int) < (k : Int) := by omega
      go_wp2_with fail
      refine bodyPost_ret (v := .tuple #[.agg #[.slice none 0 0], .int .i64 5]) (by simp [results, Tryz.results8, go_sem, rx]) rfl ⟨none, 0, rfl, hempty.out _, ?_⟩
      exact hBx.out.setCell (by show w.heap.size ≤ w.heap.size + 1; omega) _
    · rw [if_neg (by rintro (h | h); exact hno h; have := hll.out; omega)] at hvo
      injection hvo with e1 e2
      rw [← hFs.out] at e1
      subst e1 e2
      have h12i : ¬ (12 : Int) < (k : Int) := by omega
      go_wp2_with fail
      refine bodyPost_ret (v := .tuple #[.agg #[.slice Ao k co], .int .i64 0]) (by simp [results, Tryz.results8, go_sem, rx]) rfl ⟨Ao, co, by rw [hFl.out], ?_, ?_⟩
      · have hFk := hFl.out
        obtain ⟨g1, g2, g3⟩ := hto.out
        rw [hFk]
        refine ⟨ys, hFk, own_lower (ownsRow_setCell_below g1 (by show w.heap.size + 1 < X + 1; omega) _) (by omega), fun j K hj => ?_, g3⟩
        obtain ⟨Aj, cj, h4, h5⟩ := g2 j K (by have := (List.getElem?_eq_some_iff.1 hj).1; omega) hj
        exact ⟨Aj, cj, h4, own_lower (ownsRow_setCell_below h5 (by show w.heap.size + 1 < X + 1; omega) _) (by omega)⟩
      · exact hBx.out.setCell (by show w.heap.size ≤ w.heap.size + 1; omega) _
  have hki : (k : Int) < (n : Int) := by omega
  have i1 : (0 : Int) ≤ (k : Int) ∧ (k : Int) < (n : Int) := by omega
  have hrx := hr2.out.frame good_ring (Below.sameB hbx (by omega))
  obtain ⟨b, off, L, A2, n2, c2, rfl, hb0, hb, hja, q0, hm, hrk⟩ := reg_at hrx hlt
  have hbw : b < wr.heap.size := by omega
  have hsK := hs L (List.mem_of_getElem? hja)
  have hfL := hfr.out L (hpok.out L (List.mem_of_getElem? hja))
  obtain ⟨K, cdL, hKL⟩ : ∃ K cdL, frR L t = (K, cdL) := ⟨_, _, rfl⟩
  rw [hKL] at hfL
  have hcall := Lib.hid (specFitRing_any A2 n2 c2 lo hi L t K cdL hKL wr hrk (by omega) (by rw [← hrk.1]; exact hsK))
  replace hfL := Lib.hid hfL
  replace hKL := Lib.hid hKL
  have hjaH := Lib.hid hja
  clear hm hb0 hb hsK hja
  go_wp2_with fail
  refine hcall.out.mono ?_
  rintro e w2 ⟨A3, c3, rfl, ho3, hb3⟩
  clear px rx rfx q0
  replace ho3 := Lib.hid ho3
  have hz3 := hb3.size
  have hto3 := Lib.hid (hto.out.kept hb3)
  have hX3 := Lib.hid ((hb3.block X hXl).trans hXb)
  have hR3 := Lib.hid ((hb3.block (w.heap.size + 1) rlx).trans hRx.out)
  have hB3 := Lib.hid (hBx.out.trans (hb3.mono (by omega)))
  have hbx3 := Lib.hid (hbx.trans (hb3.mono (by omega)))
  clear hcall hXb hPx
  by_cases h60 : 60 < (ringK L t).length
  · have hfo := hfL.out
    rw [if_pos h60] at hfo
    injection hfo with e1 e2
    subst e1 e2
    have hvo := hv.out
    rw [if_pos (.inl (List.any_eq_true.2 ⟨L, List.mem_of_getElem? hjaH.out, decide_eq_true h60⟩))] at hvo
    injection hvo with e1 e2
    subst e1 e2
    have hal3 := Go.Joins.below_alloc1 w2 (.cells #[.slice A3 0 c3] 49 (0, 0))
    have hB4 := Lib.hid (hB3.out.trans (hal3.mono (by omega)))
    have hR4 := Lib.hid ((hal3.block (w.heap.size + 1) (by omega)).trans hR3.out)
    go_upto_region 10 with fail
    generalize w2.alloc (.cells #[.slice A3 0 c3] 49 (0, 0)) = w4 at *
    have r4 : w4.cell? ⟨w.heap.size + 1, 0, none⟩ = some (.slice none 0 0) := by rw [Go.Joins.cell_of_block hR4.out]; rfl
    have rf4 := Go.Joins.unfrozen_of_block hR4.out
    have rl4 : w.heap.size + 1 < w4.heap.size := by have := hal3.size; omega
    clear hal3
    go_wp2_with fail
    refine bodyPost_ret (v := .tuple #[.agg #[.slice none 0 0], .int .i64 5]) (by simp [results, Tryz.results8, go_sem, r4]) rfl ⟨none, 0, rfl, hempty.out _, ?_⟩
    exact hB4.out.setCell (by show w.heap.size ≤ w.heap.size + 1; omega) _
  have hfo := hfL.out
  rw [if_neg h60] at hfo
  injection hfo with e1 e2
  subst e1 e2
  obtain ⟨K, hK⟩ : ∃ K, K = ringK L t := ⟨_, rfl⟩
  rw [← hK] at ho3 h60 ⊢
  have hFk := hFa.out k L hjaH.out
  rw [← hK] at hFk
  replace hK := Lib.hid hK
  replace hFk := Lib.hid hFk
  have hal3 := Go.Joins.below_alloc1 w2 (.cells #[.slice A3 K.length c3] 49 (0, 0))
  have hbo3 := heap_alloc_new w2 (.cells #[.slice A3 K.length c3] 49 (0, 0))
  have hz4 : (w2.alloc (.cells #[.slice A3 K.length c3] 49 (0, 0))).heap.size = w2.heap.size + 1 := by simp
  have ho4 := Lib.hid (own_below ho3.out hal3)
  have hto4 := Lib.hid hto.out
  have hb4 := hb3.trans (hal3.mono hz3)
  have hX4 := Lib.hid ((hal3.block X (by omega)).trans hX3.out)
  have hbx4 := Lib.hid (hbx3.out.trans (hal3.mono (by omega)))
  clear ho3 hto3 hX3 hR3 hB3 hbx3 hb3 hal3
  go_upto_region 10 with fail
  generalize w2.alloc (.cells #[.slice A3 K.length c3] 49 (0, 0)) = w4 at *
  obtain ⟨Z, hZ⟩ : ∃ Z, Z = w2.heap.size := ⟨_, rfl⟩
  rw [← hZ] at hbo3 hz4 hz3 ⊢
  have hZ4 : Z < w4.heap.size := by omega
  have hzw4 : wr.heap.size ≤ w4.heap.size := by omega
  clear hz4
  replace hZ := Lib.hid hZ
  have z0 : w4.cell? ⟨Z, 0, none⟩ = some (.slice A3 K.length c3) := by rw [Go.Joins.cell_of_block hbo3]; rfl
  have x4 : w4.cell? ⟨X, 0, none⟩ = some (.slice Ao k co) := by rw [Go.Joins.cell_of_block hX4.out]; rfl
  have xf4 := Go.Joins.unfrozen_of_block hX4.out
  have xl4 : X < w4.heap.size := by omega
  have hrow4 := Lib.hid (own_below hto.out.1 hb4)
  clear hbo3
  go_wp2_with (at_builtin; refine wpAppAt rfl (.tmp 40) (.tmp 42) elemLoop rfl (v := .slice Ao k co) (n := k) (xs := ys) rfl (hrow4.out.alloc _) rfl (src_at (cs := [.slice A3 K.length c3]) rfl (by simp [Value.oneCell']) (by simp)) (by omega) (by omega) (by simp; omega) (k + 1) rfl ?_; intro A4 c4 w5 ho5 hg5 _; have hk5 : w5.heap[X]? = w4.heap[X]? := (hg5.block X (by simp; omega) (fun e => by have := (hrow4.out.lt X e.symm).1; omega)).trans (Below.heap_alloc _ _ _ xl4); have x5 : w5.cell? ⟨X, 0, none⟩ = some (.slice Ao k co) := (World.cell?_of_block hk5).trans x4; have xf5 : ∀ o, w5.frozen? ⟨X, o, none⟩ = false := fun o => (World.frozen?_of_block hk5).trans (xf4 o); have xl5 : X < w5.heap.size := (by have := hg5.size; simp at this; omega); replace hk5 := Lib.hid hk5; replace ho5 := Lib.hid ho5; replace hg5 := Lib.hid hg5)
  have hnx := OutTo.next (w1 := w4.alloc (.cells #[.slice A3 K.length c3] 49 (0, 0))) hto4.out hFk.out (hb4.trans ((Go.Joins.below_alloc1 w4 _).mono hzw4)) (ho4.out.alloc _) (show wr.heap.size ≤ wr.heap.size from Nat.le_refl _) (by omega) ho5.out hg5.out
  go_roundw
  case rel =>
    refine ⟨k + 1, A4, c4, _, by go_num, by omega, hnx.set (by show X < X + 1; omega) _, Go.Joins.block_setCell (hk5.out.trans hX4.out) _, fun j L' hj hL' => ?_, ?_⟩
    · rcases Nat.lt_or_ge j k with h | h
      · exact hsm.out j L' h hL'
      · obtain rfl : j = k := by omega
        have h2 := hjaH.out
        rw [hL'] at h2
        injection h2 with h2
        rw [h2, ← hK.out]; exact h60
    · exact ((hbx4.out.alloc (by omega) _).grown hg5.out (by simp; omega) (fun g hg => by have := (hrow4.out.lt g hg).1; omega)).setCell (Nat.le_refl _) _
  case measure => simp [intOf]; omega

set_option maxHeartbeats 8000000 in
theorem implFitRegion_any (A : Option Addr) (n c lo hi : Nat) (Rs : List (List Pnt)) (t : Int) (Ls : List (List Knot)) (cd : Int) (hv : fgR Rs t = (Ls, cd)) (w : World) (hr : RegRd w lo hi A n Rs) (hcap : RegCap w A n) (hhi : hi ≤ w.heap.size) (hn : n ≤ 1048576) (hs : ∀ L ∈ Rs, L.length ≤ 1048576) :
    Calls Tryz.prog 7 #[.agg #[.slice A n c], .int .i64 t] w fun e w' => ∃ (A' : Option Addr) (c' : Nat), e = .returned (.tuple #[.agg #[.slice A' Ls.length c'], .int .i64 cd]) ∧ OutOwn w' w.heap.size A' Ls.length c' Ls ∧ Below w.heap.size w w' := by
  have hl := hr.1
  have hnew := heap_new2 w (.cells #[.slice A n c] 26 (0, 0)) (.cells #[.slice none 0 0] 31 (0, 0))
  have hB0 : Below w.heap.size w ((w.alloc (.cells #[.slice A n c] 26 (0, 0))).alloc (.cells #[.slice none 0 0] 31 (0, 0))) := Go.Joins.below_alloc2 _ _ _
  have hz0 : ((w.alloc (.cells #[.slice A n c] 26 (0, 0))).alloc (.cells #[.slice none 0 0] 31 (0, 0))).heap.size = w.heap.size + 2 := by simp
  have hr0 := Lib.hid (hr.frame good_ring (Below.sameB hB0 hhi))
  have hcap0 := Lib.hid (hcap.frame hr (Below.sameB hB0 hhi))
  clear hcap
  obtain ⟨v, hvv⟩ : ∃ v, v = regOk Rs := ⟨_, rfl⟩
  unfold fgR at hv
  rw [← hvv] at hv
  have hvd := Lib.hid (fun W hr hh => validRegion_any A n c lo hi Rs v hvv W hr hh hn hs)
  replace hvv := Lib.hid hvv
  have hempty : ∀ W : World, OutOwn W w.heap.size none 0 0 [] := fun W => ⟨[], rfl, World.ownsRow_nil _ _ _ _, fun j K hj => by simp at hj, fun i j u v _ hu => by simp at hu⟩
  replace hempty := Lib.hid hempty
  clear hr
  go_enter Tryz.func7, Tryz.ntmps7
  go_upto_region 1 with fail
  generalize (w.alloc (.cells #[.slice A n c] 26 (0, 0))).alloc (.cells #[.slice none 0 0] 31 (0, 0)) = w0 at *
  have p0 : w0.cell? ⟨w.heap.size, 0, none⟩ = some (.slice A n c) := by rw [Go.Joins.cell_of_block hnew.1]; rfl
  have pl0 : w.heap.size < w0.heap.size := by omega
  go_wp2_with fail
  refine ((hvd.out w0 hr0.out (by omega))).mono ?_
  rintro e w1 ⟨rfl, hb1⟩
  have hz1 := hb1.size
  have hB1 := Lib.hid (hB0.trans (hb1.mono hB0.size))
  have hP1 := Lib.hid ((hb1.block w.heap.size pl0).trans hnew.1)
  have hR1 := Lib.hid ((hb1.block (w.heap.size + 1) (by omega)).trans hnew.2)
  have hr1 := Lib.hid (hr0.out.frame good_ring (Below.sameB hb1 (by omega)))
  have hcap1 := Lib.hid (hcap0.out.frame hr0.out (Below.sameB hb1 (by omega)))
  clear hcap0
  have p1 : w1.cell? ⟨w.heap.size, 0, none⟩ = some (.slice A n c) := by rw [Go.Joins.cell_of_block hP1.out]; rfl
  have pl1 : w.heap.size < w1.heap.size := by omega
  have r0 : w1.cell? ⟨w.heap.size + 1, 0, none⟩ = some (.slice none 0 0) := by rw [Go.Joins.cell_of_block hR1.out]; rfl
  have rf := Go.Joins.unfrozen_of_block hR1.out
  have rl : w.heap.size + 1 < w1.heap.size := by omega
  clear hvd hr0 p0 pl0 hb1 hnew hB0
  cases v with
  | false =>
    rw [if_pos rfl] at hv
    injection hv with e1 e2
    subst e1 e2
    go_wp2_with fail
    refine bodyPost_ret (v := .tuple #[.agg #[.slice none 0 0], .int .i64 1]) (by simp [results, Tryz.results7, go_sem, r0]) rfl ⟨none, 0, rfl, hempty.out _, ?_⟩
    exact hB1.out.setCell (by show w.heap.size ≤ w.heap.size + 1; omega) _
  | true =>
  rw [if_neg (by simp)] at hv
  obtain ⟨h40, hpok, _⟩ := regOk_is hvv.out.symm
  rw [hl] at h40
  have htl := Lib.hid (isTolerance_any t w1)
  go_wp2_with fail
  refine htl.out.mono ?_
  rintro e w' ⟨rfl, rfl⟩
  cases ht : inB t 1 262144 with
  | false =>
    rw [ht, if_pos rfl] at hv
    injection hv with e1 e2
    subst e1 e2
    go_wp2_with fail
    refine bodyPost_ret (v := .tuple #[.agg #[.slice none 0 0], .int .i64 2]) (by simp [results, Tryz.results7, go_sem, r0]) rfl ⟨none, 0, rfl, hempty.out _, ?_⟩
    exact hB1.out.setCell (by show w.heap.size ≤ w.heap.size + 1; omega) _
  | true =>
  rw [ht, if_neg (by simp)] at hv
  have hfr := Lib.hid (fun L (h : pathOk L = true) => fr_in h ht)
  replace hv := Lib.hid hv
  have hll := Lib.hid hl
  replace hpok := Lib.hid hpok
  clear hl htl r0 rf rl ht p1
  have hal := Go.Joins.below_alloc1 w1 (.cells #[.slice none 0 0] 31 (0, 0))
  have hxb := heap_alloc_new w1 (.cells #[.slice none 0 0] 31 (0, 0))
  have hza : (w1.alloc (.cells #[.slice none 0 0] 31 (0, 0))).heap.size = w1.heap.size + 1 := by simp
  have hr2 := Lib.hid (hr1.out.frame good_ring (Below.sameB hal (by omega)))
  have hcap2 := Lib.hid (hcap1.out.frame hr1.out (Below.sameB hal (by omega)))
  clear hcap1
  have hP2 := Lib.hid ((hal.block w.heap.size pl1).trans hP1.out)
  have hR2 := Lib.hid ((hal.block (w.heap.size + 1) (by omega)).trans hR1.out)
  have hB2 := Lib.hid (hB1.out.trans (hal.mono (by omega)))
  clear hP1 hR1 hB1 hr1 hal
  go_upto_region 6 with fail
  generalize w1.alloc (.cells #[.slice none 0 0] 31 (0, 0)) = v0 at *
  obtain ⟨X, hX⟩ : ∃ X, X = w1.heap.size := ⟨_, rfl⟩
  rw [← hX] at hxb hza pl1 hz1 ⊢
  have hXv : X + 1 ≤ v0.heap.size := by omega
  have p2 : v0.cell? ⟨w.heap.size, 0, none⟩ = some (.slice A n c) := by rw [Go.Joins.cell_of_block hP2.out]; rfl
  have pl2 : w.heap.size < v0.heap.size := by omega
  clear hza
  replace hX := Lib.hid hX
  obtain ⟨Fs, hFs⟩ : ∃ Fs : List (List Knot), Fs = Rs.map fun L => ringK L t := ⟨_, rfl⟩
  have hFa : ∀ j L, Rs[j]? = some L → Fs[j]? = some (ringK L t) := fun j L h => by rw [hFs, List.getElem?_map, h]; rfl
  have hFl : Fs.length = n := by rw [hFs, List.length_map, hll.out]
  replace hFs := Lib.hid hFs
  replace hFa := Lib.hid hFa
  replace hFl := Lib.hid hFl
  replace hxb := Lib.hid hxb
  go_wp2_with fail
  clear p2 pl2
  go_loopw [22] (fun iv wr => ∃ (k : Nat) (Ao : Option Addr) (co : Nat) (ys : List Value), iv = .int .i64 k ∧ k ≤ n ∧ OutTo wr (X + 1) Ao k co ys Fs ∧ wr.heap[X]? = some (.cells #[.slice Ao k co] 31 (0, 0)) ∧ (∀ j L, j < k → Rs[j]? = some L → ¬ 60 < (ringK L t).length) ∧ Below X v0 wr) (fun iv wr => n - (intOf iv).toNat)
  case atStart => exact ⟨0, none, 0, [], rfl, Nat.zero_le _, ⟨World.ownsRow_nil _ _ _ _, fun j K hj => absurd hj (Nat.not_lt_zero j), fun i j u v _ hu => by simp at hu⟩, hxb.out, fun j L hj => absurd hj (Nat.not_lt_zero j), Below.refl _ _⟩
  case round =>
  clear hxb
  obtain ⟨k, Ao, co, ys, rfl, hk, hto, hXb, hsm, hbx⟩ := hrel
  have hzx := hbx.size
  have hXl : X < wr.heap.size := (Array.getElem?_eq_some_iff.1 hXb).1
  have hPx := Lib.hid ((hbx.block w.heap.size pl1).trans hP2.out)
  have hRx := Lib.hid ((hbx.block (w.heap.size + 1) (by omega)).trans hR2.out)
  have hBx := Lib.hid (hB2.out.trans (hbx.mono (by omega)))
  have px : wr.cell? ⟨w.heap.size, 0, none⟩ = some (.slice A n c) := by rw [Go.Joins.cell_of_block hPx.out]; rfl
  have plx : w.heap.size < wr.heap.size := by omega
  have rx : wr.cell? ⟨w.heap.size + 1, 0, none⟩ = some (.slice none 0 0) := by rw [Go.Joins.cell_of_block hRx.out]; rfl
  have rfx := Go.Joins.unfrozen_of_block hRx.out
  have rlx : w.heap.size + 1 < wr.heap.size := by omega
  have hwX : w.heap.size + 1 < X := by omega
  replace hto := Lib.hid hto
  replace hsm := Lib.hid hsm
  by_cases hlt : k < n
  rotate_left
  · have hkn : k = n := by omega
    subst hkn
    have hki : ¬ (k : Int) < (k : Int) := by omega
    have xc : wr.cell? ⟨X, 0, none⟩ = some (.slice Ao k co) := by rw [Go.Joins.cell_of_block hXb]; rfl
    have hno : ¬ (Rs.any fun L => decide (60 < (ringK L t).length)) = true := by
      intro h
      obtain ⟨L, hL, h2⟩ := List.any_eq_true.1 h
      obtain ⟨j, hj⟩ := List.mem_iff_getElem?.1 hL
      exact hsm.out j L (by have h3 := (List.getElem?_eq_some_iff.1 hj).1; have h4 := hll.out; omega) hj (of_decide_eq_true h2)
    have hvo := hv.out
    by_cases h12 : 12 < k
    · rw [if_pos (.inr (by have := hll.out; omega))] at hvo
      injection hvo with e1 e2
      subst e1 e2
      have h12i : (12 : Int) < (k : Int) := by omega
      go_wp2_with fail
      refine bodyPost_ret (v := .tuple #[.agg #[.slice none 0 0], .int .i64 5]) (by simp [results, Tryz.results7, go_sem, rx]) rfl ⟨none, 0, rfl, hempty.out _, ?_⟩
      exact hBx.out.setCell (by show w.heap.size ≤ w.heap.size + 1; omega) _
    · rw [if_neg (by rintro (h | h); exact hno h; have := hll.out; omega)] at hvo
      injection hvo with e1 e2
      rw [← hFs.out] at e1
      subst e1 e2
      have h12i : ¬ (12 : Int) < (k : Int) := by omega
      go_wp2_with fail
      refine bodyPost_ret (v := .tuple #[.agg #[.slice Ao k co], .int .i64 0]) (by simp [results, Tryz.results7, go_sem, rx]) rfl ⟨Ao, co, by rw [hFl.out], ?_, ?_⟩
      · have hFk := hFl.out
        obtain ⟨g1, g2, g3⟩ := hto.out
        rw [hFk]
        refine ⟨ys, hFk, own_lower (ownsRow_setCell_below g1 (by show w.heap.size + 1 < X + 1; omega) _) (by omega), fun j K hj => ?_, g3⟩
        obtain ⟨Aj, cj, h4, h5⟩ := g2 j K (by have := (List.getElem?_eq_some_iff.1 hj).1; omega) hj
        exact ⟨Aj, cj, h4, own_lower (ownsRow_setCell_below h5 (by show w.heap.size + 1 < X + 1; omega) _) (by omega)⟩
      · exact hBx.out.setCell (by show w.heap.size ≤ w.heap.size + 1; omega) _
  have hki : (k : Int) < (n : Int) := by omega
  have i1 : (0 : Int) ≤ (k : Int) ∧ (k : Int) < (n : Int) := by omega
  have hrx := hr2.out.frame good_ring (Below.sameB hbx (by omega))
  have hcx := hcap2.out.frame hr2.out (Below.sameB hbx (by omega))
  obtain ⟨b, off, L, A2, n2, c2, rfl, hb0, hb, hja, q0, hm, hrk⟩ := reg_at hrx hlt
  have hbw : b < wr.heap.size := by omega
  have hsK := hs L (List.mem_of_getElem? hja)
  have hfL := hfr.out L (hpok.out L (List.mem_of_getElem? hja))
  obtain ⟨K, cdL, hKL⟩ : ∃ K cdL, frR L t = (K, cdL) := ⟨_, _, rfl⟩
  rw [hKL] at hfL
  have hnc := hcx k b off A2 n2 c2 hlt rfl q0
  have hal := Go.Joins.below_alloc1 wr (.cells #[.slice A2 n2 c2] 41 (0, 0))
  have hrk1 := hrk.frame (good_flat _) (Below.sameB hal (by omega))
  have hzq : (wr.alloc (.cells #[.slice A2 n2 c2] 41 (0, 0))).heap.size = wr.heap.size + 1 := by simp
  have hcall := Lib.hid (implFitRing_any A2 n2 c2 lo hi L t K cdL hKL _ hrk1 (by omega) (by rw [← hrk.1]; exact hsK) hnc)
  have hbo := heap_alloc_new wr (.cells #[.slice A2 n2 c2] 41 (0, 0))
  replace hfL := Lib.hid hfL
  replace hKL := Lib.hid hKL
  have hjaH := Lib.hid hja
  clear hm hb0 hb hsK hja hrk hcx
  go_upto_region 9 with fail
  generalize wr.alloc (.cells #[.slice A2 n2 c2] 41 (0, 0)) = u at *
  obtain ⟨Y, hY⟩ : ∃ Y, Y = wr.heap.size := ⟨_, rfl⟩
  rw [← hY] at hbo hzq ⊢
  have hYu : Y < u.heap.size := by omega
  have hYu2 : u.heap.size ≤ Y + 1 := by omega
  clear hzq
  have y0 : u.cell? ⟨Y, 0, none⟩ = some (.slice A2 n2 c2) := by rw [Go.Joins.cell_of_block hbo]; rfl
  replace hY := Lib.hid hY
  clear hbo q0 px rx rfx
  go_wp2_with fail
  refine hcall.out.mono ?_
  rintro e w2 ⟨A3, c3, rfl, ho3, hb3⟩
  replace hb3 := hal.trans (hb3.mono hal.size)
  clear y0 hYu hYu2
  replace ho3 := Lib.hid ho3
  have hz3 := hb3.size
  have hto3 := Lib.hid (hto.out.kept hb3)
  have hX3 := Lib.hid ((hb3.block X hXl).trans hXb)
  have hR3 := Lib.hid ((hb3.block (w.heap.size + 1) rlx).trans hRx.out)
  have hB3 := Lib.hid (hBx.out.trans (hb3.mono (by omega)))
  have hbx3 := Lib.hid (hbx.trans (hb3.mono (by omega)))
  clear hcall hXb hPx
  by_cases h60 : 60 < (ringK L t).length
  · have hfo := hfL.out
    rw [if_pos h60] at hfo
    injection hfo with e1 e2
    subst e1 e2
    have hvo := hv.out
    rw [if_pos (.inl (List.any_eq_true.2 ⟨L, List.mem_of_getElem? hjaH.out, decide_eq_true h60⟩))] at hvo
    injection hvo with e1 e2
    subst e1 e2
    have hal3 := Go.Joins.below_alloc1 w2 (.cells #[.slice A3 0 c3] 49 (0, 0))
    have hB4 := Lib.hid (hB3.out.trans (hal3.mono (by omega)))
    have hR4 := Lib.hid ((hal3.block (w.heap.size + 1) (by omega)).trans hR3.out)
    go_upto_region 10 with fail
    generalize w2.alloc (.cells #[.slice A3 0 c3] 49 (0, 0)) = w4 at *
    have r4 : w4.cell? ⟨w.heap.size + 1, 0, none⟩ = some (.slice none 0 0) := by rw [Go.Joins.cell_of_block hR4.out]; rfl
    have rf4 := Go.Joins.unfrozen_of_block hR4.out
    have rl4 : w.heap.size + 1 < w4.heap.size := by have := hal3.size; omega
    clear hal3
    go_wp2_with fail
    refine bodyPost_ret (v := .tuple #[.agg #[.slice none 0 0], .int .i64 5]) (by simp [results, Tryz.results7, go_sem, r4]) rfl ⟨none, 0, rfl, hempty.out _, ?_⟩
    exact hB4.out.setCell (by show w.heap.size ≤ w.heap.size + 1; omega) _
  have hfo := hfL.out
  rw [if_neg h60] at hfo
  injection hfo with e1 e2
  subst e1 e2
  obtain ⟨K, hK⟩ : ∃ K, K = ringK L t := ⟨_, rfl⟩
  rw [← hK] at ho3 h60 ⊢
  have hFk := hFa.out k L hjaH.out
  rw [← hK] at hFk
  replace hK := Lib.hid hK
  replace hFk := Lib.hid hFk
  have hal3 := Go.Joins.below_alloc1 w2 (.cells #[.slice A3 K.length c3] 49 (0, 0))
  have hbo3 := heap_alloc_new w2 (.cells #[.slice A3 K.length c3] 49 (0, 0))
  have hz4 : (w2.alloc (.cells #[.slice A3 K.length c3] 49 (0, 0))).heap.size = w2.heap.size + 1 := by simp
  have ho4 := Lib.hid (own_below ho3.out hal3)
  have hto4 := Lib.hid hto.out
  have hb4 := hb3.trans (hal3.mono hz3)
  have hX4 := Lib.hid ((hal3.block X (by omega)).trans hX3.out)
  have hbx4 := Lib.hid (hbx3.out.trans (hal3.mono (by omega)))
  clear ho3 hto3 hX3 hR3 hB3 hbx3 hb3 hal3
  go_upto_region 10 with fail
  generalize w2.alloc (.cells #[.slice A3 K.length c3] 49 (0, 0)) = w4 at *
  obtain ⟨Z, hZ⟩ : ∃ Z, Z = w2.heap.size := ⟨_, rfl⟩
  rw [← hZ] at hbo3 hz4 hz3 ⊢
  have hZ4 : Z < w4.heap.size := by omega
  have hzw4 : wr.heap.size ≤ w4.heap.size := by omega
  clear hz4
  replace hZ := Lib.hid hZ
  have z0 : w4.cell? ⟨Z, 0, none⟩ = some (.slice A3 K.length c3) := by rw [Go.Joins.cell_of_block hbo3]; rfl
  have x4 : w4.cell? ⟨X, 0, none⟩ = some (.slice Ao k co) := by rw [Go.Joins.cell_of_block hX4.out]; rfl
  have xf4 := Go.Joins.unfrozen_of_block hX4.out
  have xl4 : X < w4.heap.size := by omega
  have hrow4 := Lib.hid (own_below hto.out.1 hb4)
  clear hbo3
  go_wp2_with (at_builtin; refine wpAppAt rfl (.tmp 37) (.tmp 39) elemLoop rfl (v := .slice Ao k co) (n := k) (xs := ys) rfl (hrow4.out.alloc _) rfl (src_at (cs := [.slice A3 K.length c3]) rfl (by simp [Value.oneCell']) (by simp)) (by omega) (by omega) (by simp; omega) (k + 1) rfl ?_; intro A4 c4 w5 ho5 hg5 _; have hk5 : w5.heap[X]? = w4.heap[X]? := (hg5.block X (by simp; omega) (fun e => by have := (hrow4.out.lt X e.symm).1; omega)).trans (Below.heap_alloc _ _ _ xl4); have x5 : w5.cell? ⟨X, 0, none⟩ = some (.slice Ao k co) := (World.cell?_of_block hk5).trans x4; have xf5 : ∀ o, w5.frozen? ⟨X, o, none⟩ = false := fun o => (World.frozen?_of_block hk5).trans (xf4 o); have xl5 : X < w5.heap.size := (by have := hg5.size; simp at this; omega); replace hk5 := Lib.hid hk5; replace ho5 := Lib.hid ho5; replace hg5 := Lib.hid hg5)
  have hnx := OutTo.next (w1 := w4.alloc (.cells #[.slice A3 K.length c3] 49 (0, 0))) hto4.out hFk.out (hb4.trans ((Go.Joins.below_alloc1 w4 _).mono hzw4)) (ho4.out.alloc _) (show wr.heap.size ≤ u.heap.size from hal.size) (by omega) ho5.out hg5.out
  go_roundw
  case rel =>
    refine ⟨k + 1, A4, c4, _, by go_num, by omega, hnx.set (by show X < X + 1; omega) _, Go.Joins.block_setCell (hk5.out.trans hX4.out) _, fun j L' hj hL' => ?_, ?_⟩
    · rcases Nat.lt_or_ge j k with h | h
      · exact hsm.out j L' h hL'
      · obtain rfl : j = k := by omega
        have h2 := hjaH.out
        rw [hL'] at h2
        injection h2 with h2
        rw [h2, ← hK.out]; exact h60
    · exact ((hbx4.out.alloc (by omega) _).grown hg5.out (by simp; omega) (fun g hg => by have := (hrow4.out.lt g hg).1; omega)).setCell (Nat.le_refl _) _
  case measure => simp [intOf]; omega
end Go.Proofs.YtgelkdcggnffeaaGreat

