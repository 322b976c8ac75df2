/- A drawn ring along curves, a region of such rings. Printed by mk_ftr.py. Conditions: as each states. -/
import Derived.Test.YtgelkdcggnffeaaGreatFtg20
import Derived.Test.YtgelkdcggnffeaaGreatFtg39
namespace Go.Proofs.YtgelkdcggnffeaaGreat
open Go.RowKit
set_option linter.unusedVariables false
set_option maxRecDepth 100000

theorem four_row (w : World) : RdS 1 (FlatR intC) (w.alloc (.cells #[.int .i64 20, .int .i64 60, .int .i64 60, .int .i64 300] 2 (0, 0))) w.heap.size (w.alloc (.cells #[.int .i64 20, .int .i64 60, .int .i64 60, .int .i64 300] 2 (0, 0))).heap.size (some ⟨w.heap.size, 0, none⟩) 4 [20, 60, 60, 300] := by
  have h : (w.alloc (.cells #[.int .i64 20, .int .i64 60, .int .i64 60, .int .i64 300] 2 (0, 0))).ownsRow w.heap.size 2 1 (.slice (some ⟨w.heap.size, 0, none⟩) 4 4) 4 [.int .i64 20, .int .i64 60, .int .i64 60, .int .i64 300] := World.ownsRow_lit w #[.int .i64 20, .int .i64 60, .int .i64 60, .int .i64 300] 4 (Nat.le_refl _) (by decide) (by simp)
  exact rdS_own intC_len (by omega) h rfl
theorem four_in {r : Int} (h : r ∈ [(20 : Int), 60, 60, 300]) : 0 ≤ r ∧ r ≤ 300 := by
  simp at h; omega
theorem in_ok {m : Int} {x y : Int} (h : InSq m (x, y)) (hm : m ≤ 300) : ptOk x y = true := by
  obtain ⟨⟨h1, h2⟩, h3, h4⟩ := h
  simp only at h1 h2 h3 h4
  exact ptOk_iff.2 ⟨⟨by omega, by omega⟩, by omega, by omega⟩
theorem own_set {w : World} {lo e size n x o : Nat} {v u : Value} {xs : List Value} (h : w.ownsRow lo e size v n xs) (hx : x < lo) : (w.setCell ⟨x, o, none⟩ u).ownsRow lo e size v n xs := ownsRow_setCell_below h (by show x < lo; exact hx) _

set_option maxHeartbeats 8000000 in
theorem l16Round_any (b k : Nat) (w : World) (hs : Src0 w b k) (hk : k ≤ 999900000) :
    Calls Tryz.prog 13 #[.pointer (some ⟨b, 0, none⟩)] w fun e w' => ∃ (A : Option Addr) (R : List Pnt) (c k' : Nat), e = .returned (.agg #[.slice A R.length c]) ∧ w'.ownsRow w.heap.size 71 2 (.slice A R.length c) R.length (R.flatMap ptC) ∧ R.length ≤ 200000 ∧ Src0 w' b k' ∧ k' ≤ k + 300 ∧ w.grownBy w' (some b) := by
  have hbl := hs.lt
  have hb0 := Go.Joins.below_alloc1 w (.cells #[.slice none 0 0] 41 (0, 0))
  have hG0 := Lib.hid (heap_alloc_new w (.cells #[.slice none 0 0] 41 (0, 0)))
  have hz0 : (w.alloc (.cells #[.slice none 0 0] 41 (0, 0))).heap.size = w.heap.size + 1 := by simp
  have hs0 := hs.kept hb0 hbl
  clear hs
  go_enter Tryz.func13, Tryz.ntmps13
  go_upto_region 1 with fail
  generalize w.alloc (.cells #[.slice none 0 0] 41 (0, 0)) = w0 at *
  have hz0' : w0.heap.size ≤ w.heap.size + 1 ∧ w.heap.size + 1 ≤ w0.heap.size := by omega
  clear hz0
  have hg0 := Lib.hid (grown_of hb0 (some b))
  have hb0a := Go.Joins.below_alloc1 w0 (.cells #[.int .i64 20, .int .i64 60, .int .i64 60, .int .i64 300] 2 (0, 0))
  have hs0a := Lib.hid (hs0.kept hb0a (by omega))
  go_wp2_with fail
  refine (among_any b k _ 4 4 _ _ [20, 60, 60, 300] _ hs0a.out (by omega) (four_row w0) (.inl (by omega)) (Nat.le_refl _) (by decide) (by decide)).mono ?_
  rintro e w1 ⟨m, k1, rfl, hm, hs1, hk1, hg1⟩
  have hm2 := four_in hm
  have hg01 := Lib.hid (grown_tr hg0.out (grown_tr (grown_of hb0a (some b)) hg1))
  have hz1 : w0.heap.size ≤ w1.heap.size := by have := hb0a.size; have := hg1.size; omega
  have hG1 := Lib.hid ((hg1.block w.heap.size (by have := hb0a.size; omega) (by intro e; injection e with e; omega)).trans ((hb0a.block w.heap.size (by omega)).trans hG0.out))
  clear hm hg0 hg1 hs0a hs0 hb0a hb0 hG0
  go_wp2_with fail
  refine (l10DrawLoopV_any b k1 m w1 hs1 (by omega) hm2.1 (by omega)).mono ?_
  rintro e w2 ⟨A', n', c', k2, K, rfl, hKl, ⟨hKin, hon⟩, hn1, hn9, hown, hs2, hk2, hg2⟩
  have hKok : KsOk K := fun q hq => in_ok (hKin q hq) hm2.2
  have hz2 := hg2.size
  have hg02 := Lib.hid (grown_tr hg01.out hg2)
  have hG2 := Lib.hid ((hg2.block w.heap.size (by omega) (by intro e; injection e with e; omega)).trans hG1.out)
  have hrK : Hid (RdS 3 (FlatR knotC) w2 w1.heap.size w2.heap.size A' n' K) := Lib.hid (rdS_own knotC_len (by omega) hown hKl)
  have hal := Go.Joins.below_alloc1 w2 (.cells #[.slice A' n' c'] 49 (0, 0))
  have hY0 := Lib.hid (heap_alloc_new w2 (.cells #[.slice A' n' c'] 49 (0, 0)))
  have hzY : (w2.alloc (.cells #[.slice A' n' c'] 49 (0, 0))).heap.size = w2.heap.size + 1 := by simp
  have hbl2 : b < w2.heap.size := by omega
  have hs3 := Lib.hid (hs2.kept hal hbl2)
  have hg03 := Lib.hid (grown_tr hg02.out (grown_of hal (some b)))
  have hG3 := Lib.hid ((hal.block w.heap.size (by omega)).trans hG2.out)
  have hrK3 := Lib.hid (hrK.out.frame (good_flat _) (Below.sameB hal (Nat.le_refl _)))
  clear hown hs2 hg2 hKin hg01 hG1 hs1 hrK hal hg02 hG2
  go_upto_region 2 with fail
  generalize w2.alloc (.cells #[.slice A' n' c'] 49 (0, 0)) = w3 at *
  obtain ⟨Y, hY⟩ : ∃ Y, Y = w2.heap.size := ⟨_, rfl⟩
  rw [← hY] at hY0 hrK3 ⊢
  have hYl : Y < w3.heap.size := by omega
  have hYw : w.heap.size < Y ∧ Y ≤ w2.heap.size ∧ w2.heap.size ≤ Y := by omega
  have y0 : w3.cell? ⟨Y, 0, none⟩ = some (.slice A' n' c') := by rw [Go.Joins.cell_of_block hY0.out]; rfl
  clear hzY hY
  have hring := Lib.hid (l10Ring_any Y 0 A' n' c' w1.heap.size Y K w3 y0 hrK3.out (by omega) hn1 (by omega) hKok hon)
  obtain ⟨bk, ok, rfl, hbk1, hbk2, hcs⟩ := hrK3.out.kns hn1
  obtain ⟨x0, x1, x2⟩ := hcs 0 (by omega)
  obtain ⟨⟨kx, ky, kz⟩, hkn⟩ : ∃ a, a = knAt K 0 := ⟨_, rfl⟩
  rw [← hkn, Nat.zero_mul, Nat.add_zero] at x0 x1
  simp only at x0 x1
  replace hkn := Lib.hid hkn
  clear hcs x2
  go_wp2_with fail
  refine hring.out.mono ?_
  rintro e w4 ⟨hrt, hb4⟩
  have hz4 := hb4.size
  have hs4 := Lib.hid (hs3.out.kept hb4 (by omega))
  have hg04 := Lib.hid (grown_tr hg03.out (grown_of hb4 (some b)))
  have hG4 := Lib.hid ((hb4.block w.heap.size (by omega)).trans hG3.out)
  have hY4 := Lib.hid ((hb4.block Y hYl).trans hY0.out)
  have x04 := Lib.hid ((hb4.cell (p := ⟨bk, ok, none⟩) (by show bk < _; omega)).trans x0)
  have x14 := Lib.hid ((hb4.cell (p := ⟨bk, ok + 1, none⟩) (by show bk < _; omega)).trans x1)
  clear x0 x1 y0 hring
  rcases hrt with ⟨hno, rfl⟩ | ⟨R, A5, c5, hR, rfl, ho5, hR2⟩
  · have hal := Go.Joins.below_alloc1 w4 (.cells #[.slice none 0 0] 41 (0, 0))
    have hza : (w4.alloc (.cells #[.slice none 0 0] 41 (0, 0))).heap.size = w4.heap.size + 1 := by simp
    have hs5 := Lib.hid (hs4.out.kept hal (by omega))
    have hg05 := Lib.hid (grown_tr hg04.out (grown_of hal (some b)))
    have hG5 := Lib.hid ((hal.block w.heap.size (by omega)).trans hG4.out)
    have hY5 := Lib.hid ((hal.block Y (by omega)).trans hY4.out)
    have x05 := (hal.cell (p := ⟨bk, ok, none⟩) (by show bk < _; omega)).trans x04.out
    have x15 := (hal.cell (p := ⟨bk, ok + 1, none⟩) (by show bk < _; omega)).trans x14.out
    replace hno := Lib.hid hno
    clear hal hs4 hg04 hG4 hY4 x04 x14
    go_upto_region 3 with fail
    generalize w4.alloc (.cells #[.slice none 0 0] 41 (0, 0)) = w5 at *
    have y5 : w5.cell? ⟨Y, 0, none⟩ = some (.slice (some ⟨bk, ok, none⟩) n' c') := by rw [Go.Joins.cell_of_block hY5.out]; rfl
    have g5 : w5.cell? ⟨w.heap.size, 0, none⟩ = some (.slice none 0 0) := by rw [Go.Joins.cell_of_block hG5.out]; rfl
    have gf5 := Go.Joins.unfrozen_of_block hG5.out
    have l1 : Y < w5.heap.size := by omega
    have l2 : bk < w5.heap.size := by omega
    have l3 : w.heap.size < w5.heap.size := by omega
    have i1 : (0 : Int) < (n' : Int) := by omega
    have i2 : 0 < n' := by omega
    have hza1 : w4.heap.size ≤ w5.heap.size := by omega
    clear hza
    go_wp2_with fail
    have hsz : (w5.setCell ⟨w.heap.size, 0, none⟩ (.slice (some ⟨w5.heap.size, 0, none⟩) 1 1)).heap.size = w5.heap.size := by simp
    have ho6 := World.ownsRow_lit (e := 71) (size := 2) (w5.setCell ⟨w.heap.size, 0, none⟩ (.slice (some ⟨w5.heap.size, 0, none⟩) 1 1)) #[.int .i64 kx, .int .i64 ky] 1 (Nat.le_refl _) (by decide) (by simp)
    rw [hsz] at ho6
    have hal6 := Go.Joins.below_alloc1 (w5.setCell ⟨w.heap.size, 0, none⟩ (.slice (some ⟨w5.heap.size, 0, none⟩) 1 1)) (.cells #[.int .i64 kx, .int .i64 ky] 71 (0, 0))
    have gx : ((w5.setCell ⟨w.heap.size, 0, none⟩ (.slice (some ⟨w5.heap.size, 0, none⟩) 1 1)).alloc (.cells #[.int .i64 kx, .int .i64 ky] 71 (0, 0))).cell? ⟨w.heap.size, 0, none⟩ = some (.slice (some ⟨w5.heap.size, 0, none⟩) 1 1) := Lib.cell?_alloc_some _ (by rw [Go.Joins.cell_of_block (Go.Joins.block_setCell hG5.out _)]; rfl)
    refine bodyPost_ret (v := .agg #[.slice (some ⟨w5.heap.size, 0, none⟩) 1 1]) (by simp [results, Tryz.results13, go_sem, gx]) rfl ⟨_, [(kx, ky)], 1, k2, rfl, own_lower ho6 (by omega), by simp, ?_, by omega, ?_⟩
    · exact (hs5.out.set (v := .slice (some ⟨w5.heap.size, 0, none⟩) 1 1) (o := 0) (x := w.heap.size) (by omega)).kept hal6 (by rw [hsz]; omega)
    · exact grown_tr (grown_setO hg05.out (Nat.le_refl _) _ _) (grown_of hal6 (some b))
  · have hal := Go.Joins.below_alloc1 w4 (.cells #[.slice A5 R.length c5] 41 (0, 0))
    have hZ0 := Lib.hid (heap_alloc_new w4 (.cells #[.slice A5 R.length c5] 41 (0, 0)))
    have hza : (w4.alloc (.cells #[.slice A5 R.length c5] 41 (0, 0))).heap.size = w4.heap.size + 1 := by simp
    have ho6 := Lib.hid (own_below ho5 hal)
    have hs5 := Lib.hid (hs4.out.kept hal (by omega))
    have hg05 := Lib.hid (grown_tr hg04.out (grown_of hal (some b)))
    have hG5 := Lib.hid ((hal.block w.heap.size (by omega)).trans hG4.out)
    replace hR := Lib.hid hR
    clear hal hs4 hg04 hG4 hY4 x04 x14 ho5
    go_upto_region 3 with fail
    generalize w4.alloc (.cells #[.slice A5 R.length c5] 41 (0, 0)) = w5 at *
    have z5 : w5.cell? ⟨w4.heap.size, 0, none⟩ = some (.slice A5 R.length c5) := by rw [Go.Joins.cell_of_block hZ0.out]; rfl
    have g5 : w5.cell? ⟨w.heap.size, 0, none⟩ = some (.slice none 0 0) := by rw [Go.Joins.cell_of_block hG5.out]; rfl
    have gf5 := Go.Joins.unfrozen_of_block hG5.out
    have l1 : w4.heap.size < w5.heap.size := by omega
    have l3 : w.heap.size < w5.heap.size := by omega
    clear hza
    go_wp2_with fail
    refine bodyPost_ret (v := .agg #[.slice A5 R.length c5]) (by simp [results, Tryz.results13, go_sem, g5]) rfl ⟨A5, R, c5, k2, rfl, ?_, hR2, ?_, by omega, ?_⟩
    · exact own_lower (own_set ho6.out (by omega)) (by omega)
    · exact hs5.out.set (by omega)
    · exact grown_setO hg05.out (Nat.le_refl _) _ _

theorem RegTo.nextG {b : Nat} {w w1 w2 : World} {lo B k co c2 cc : Nat} {Ao A2 A3 : Option Addr} {ys : List Value} {Ls : List (List (Int × Int))} {K : List (Int × Int)} (h : RegTo w lo Ao k co ys Ls) (hK : Ls[k]? = some K)
    (hb : w.grownBy w1 (some b)) (hbl : b < lo) (hr : w1.ownsRow B 71 2 (.slice A2 K.length c2) K.length (K.flatMap ptC)) (hB : w.heap.size ≤ B) (hlo : lo ≤ w.heap.size)
    (ho : w2.ownsRow lo 41 1 (.slice A3 (k + 1) cc) (k + 1) (ys ++ [.slice A2 K.length c2])) (hg : w1.grownBy w2 (Value.slice Ao k co).ownBlock) : RegTo w2 lo A3 (k + 1) cc (ys ++ [.slice A2 K.length c2]) Ls := by
  obtain ⟨h1, h2, h3⟩ := h
  have h1' := own_grown h1 hb hbl
  have hyl := h1.1
  rw [Nat.mul_one] at hyl
  have hne : ∀ {g : Nat} {v : Value} {n : Nat} {xs : List Value} {B' : Nat}, w1.ownsRow B' 71 2 v n xs → v.ownBlock = some g → w2.heap[g]? = w1.heap[g]? := fun {g v n xs B'} hv hg' =>
    hg.block g (hv.lt g hg').2 fun e => own_ne_kind hv h1' (by decide) hg' e.symm
  refine ⟨ho, fun j K' hj hK' => ?_, fun i j u v hij hu hv => ?_⟩
  · by_cases hjk : j = k
    · subst hjk
      have e := Option.some.inj (hK.symm.trans hK')
      subst e
      refine ⟨A2, c2, by rw [List.getElem?_append_right (by omega), hyl]; simp, own_lower (own_same hr fun g hg' => hne hr hg') (by omega)⟩
    · obtain ⟨Aj, cj, h4, h5⟩ := h2 j K' (by omega) hK'
      refine ⟨Aj, cj, by rw [List.getElem?_append_left (by omega)]; exact h4, own_same (own_grown h5 hb hbl) fun g hg' => hne (own_grown h5 hb hbl) hg'⟩
  · have hold : ∀ (j : Nat) (v : Value), j < k → ys[j]? = some v → j < Ls.length → ∀ g, v.ownBlock = some g → g < w.heap.size := fun j v hj hv hjl g hg' => by
      obtain ⟨Aj, cj, h4, h5⟩ := h2 j _ hj (List.getElem?_eq_getElem hjl)
      rw [hv] at h4
      injection h4 with h4
      subst h4
      exact (h5.lt g hg').2
    have hkl := (List.getElem?_eq_some_iff.1 hK).1
    have hil := (List.getElem?_eq_some_iff.1 hu).1
    have hjl := (List.getElem?_eq_some_iff.1 hv).1
    simp at hil hjl
    by_cases hik : i < k
    · rw [List.getElem?_append_left (by omega)] at hu
      by_cases hjk : j < k
      · rw [List.getElem?_append_left (by omega)] at hv
        exact h3 i j u v hij hu hv
      · obtain rfl : j = k := by omega
        rw [List.getElem?_append_right (by omega), hyl] at hv
        simp at hv
        subst hv
        intro g hgu hgv
        have := hold i u hik hu (by omega) g hgu
        have := (hr.lt g hgv).1
        omega
    · obtain rfl : i = k := by omega
      rw [List.getElem?_append_right (by omega), hyl] at hu
      rw [List.getElem?_append_left (by omega)] at hv
      simp at hu
      subst hu
      intro g hgu hgv
      have := hold j v (by omega) hv (by omega) g hgv
      have := (hr.lt g hgu).1
      omega
theorem RegTo.grownB {w w' : World} {lo k co b : Nat} {Ao : Option Addr} {ys : List Value} {Ls : List (List (Int × Int))} (h : RegTo w lo Ao k co ys Ls) (hg : w.grownBy w' (some b)) (hb : b < lo) : RegTo w' lo Ao k co ys Ls := by
  obtain ⟨h1, h2, h3⟩ := h
  refine ⟨own_grown h1 hg hb, fun j K hj hK => ?_, h3⟩
  obtain ⟨Aj, cj, h4, h5⟩ := h2 j K hj hK
  exact ⟨Aj, cj, h4, own_grown h5 hg hb⟩
theorem own_setK {w : World} {lo e size n X : Nat} {t : TypeId} {v : Value} {xs : List Value} {cs : Array Value} {fr : Nat × Nat} (h : w.ownsRow lo e size v n xs) (hX : w.heap[X]? = some (.cells cs t fr)) (hne : e ≠ t) (o : Nat) (u : Value) : (w.setCell ⟨X, o, none⟩ u).ownsRow lo e size v n xs := by
  refine own_same h fun g hg => Below.heap_setCell _ _ _ _ (fun hgX => ?_)
  have hgX : g = X := hgX
  subst hgX
  rcases h.2 with ⟨rfl, _⟩ | ⟨g', cap, cur, hv, _, hc, _⟩
  · simp [Value.ownBlock] at hg
  · subst hv
    simp [Value.ownBlock] at hg
    subst hg
    rw [hX] at hc
    injection hc with hc
    injection hc with _ hc
    exact hne hc.symm
theorem RegTo.setK {w : World} {lo k co X : Nat} {Ao : Option Addr} {ys : List Value} {Ls : List (List Pnt)} {t : TypeId} {cs : Array Value} {fr : Nat × Nat} (h : RegTo w lo Ao k co ys Ls) (hX : w.heap[X]? = some (.cells cs t fr)) (h1 : 41 ≠ t) (h2 : 71 ≠ t) (o : Nat) (u : Value) : RegTo (w.setCell ⟨X, o, none⟩ u) lo Ao k co ys Ls := by
  obtain ⟨g1, g2, g3⟩ := h
  refine ⟨own_setK g1 hX h1 o u, fun j K hj hK => ?_, g3⟩
  obtain ⟨Aj, cj, g4, g5⟩ := g2 j K hj hK
  exact ⟨Aj, cj, g4, own_setK g5 hX h2 o u⟩
theorem RegTo.own {w : World} {lo n c : Nat} {A : Option Addr} {ys : List Value} {Ls : List (List Pnt)} (h : RegTo w lo A n c ys Ls) (hl : Ls.length = n) : RegOwn w lo A n c Ls :=
  ⟨ys, hl, h.1, fun j K hj => h.2.1 j K (by have := (List.getElem?_eq_some_iff.1 hj).1; omega) hj, h.2.2⟩

set_option maxHeartbeats 8000000 in
theorem E8Round_any (A : Option Addr) (n c lo hi : Nat) (L : List Int) (w : World) (hr : RdS 1 u8R w lo hi A n L) (hhi : hi ≤ w.heap.size) (hn : n ≤ 1000000000) :
    Calls Tryz.prog 5 #[.slice A n c] w fun e w' => ∃ (A' : Option Addr) (n' c' : Nat) (Rs : List (List Pnt)), e = .returned (.agg #[.slice A' n' c']) ∧ RegOwn w' w.heap.size A' n' c' Rs ∧ regOk Rs = true ∧ Below w.heap.size w w' := by
  have hb0 := Go.Joins.below_alloc1 w (.cells #[.slice none 0 0] 26 (0, 0))
  have hG0 := Lib.hid (heap_alloc_new w (.cells #[.slice none 0 0] 26 (0, 0)))
  have hz0 : (w.alloc (.cells #[.slice none 0 0] 26 (0, 0))).heap.size = w.heap.size + 1 := by simp
  have hr0 := Lib.hid (hr.frame good_u8 (Below.sameB hb0 hhi))
  clear hr
  go_enter Tryz.func5, Tryz.ntmps5
  go_upto_region 1 with fail
  generalize w.alloc (.cells #[.slice none 0 0] 26 (0, 0)) = w0 at *
  have hz0' : w0.heap.size ≤ w.heap.size + 1 ∧ w.heap.size + 1 ≤ w0.heap.size := by omega
  clear hz0
  go_wp2_with fail
  refine (l00From_any _ _ _ _).mono ?_
  rintro e w1 ⟨rfl, hs1, hb1⟩
  have hS1 : Src0 w1 w0.heap.size 0 := ⟨A, n, c, lo, hi, 0, L, hs1, hr0.out.frame good_u8 (Below.sameB hb1 (by omega)), by omega, hn⟩
  obtain ⟨b, hb⟩ : ∃ b, b = w0.heap.size := ⟨_, rfl⟩
  rw [← hb] at hS1 ⊢
  have hbz : w.heap.size < b ∧ b ≤ w0.heap.size ∧ w0.heap.size ≤ b := by omega
  have hbl := hS1.lt
  have hB1 := Lib.hid (hb0.trans (hb1.mono (by omega)))
  have hG1 := Lib.hid ((hb1.block w.heap.size (by omega)).trans hG0.out)
  clear hb hs1 hb1 hb0 hG0 hr0
  obtain ⟨lw, hlw⟩ : ∃ l, l = w1.heap.size := ⟨_, rfl⟩
  have hblw : b < lw := by omega
  have hlw1 : lw ≤ w1.heap.size ∧ w1.heap.size ≤ lw := by omega
  have hlwH := Lib.hid hlw
  clear hlw
  go_wp2_with fail
  refine (l16Round_any b 0 w1 hS1 (by omega)).mono ?_
  rintro e w2 ⟨A1, R1, c1, k1, rfl, ho1, hl1, hs2, hk1, hg2⟩
  have hz2 := hg2.size
  have hB2 := Lib.hid (hB1.out.grown hg2 (by omega) (fun g hg => by injection hg with hg; omega))
  have hG2 := Lib.hid ((hg2.block w.heap.size (by omega) (by intro e; injection e with e; omega)).trans hG1.out)
  have hrow : (w2.alloc (.cells #[.slice A1 R1.length c1] 41 (0, 0))).ownsRow lw 41 1 (.slice (some ⟨w2.heap.size, 0, none⟩) 1 1) 1 [.slice A1 R1.length c1] := own_lower (World.ownsRow_lit w2 #[.slice A1 R1.length c1] 1 (Nat.le_refl _) (by decide) (by simp)) (by omega)
  have hbb := Go.Joins.below_alloc2 w2 (.cells #[.slice A1 R1.length c1] 41 (0, 0)) (.cells #[.slice (some ⟨w2.heap.size, 0, none⟩) 1 1] 26 (0, 0))
  have hXb := (heap_new2 w2 (.cells #[.slice A1 R1.length c1] 41 (0, 0)) (.cells #[.slice (some ⟨w2.heap.size, 0, none⟩) 1 1] 26 (0, 0))).2
  have hz3 : ((w2.alloc (.cells #[.slice A1 R1.length c1] 41 (0, 0))).alloc (.cells #[.slice (some ⟨w2.heap.size, 0, none⟩) 1 1] 26 (0, 0))).heap.size = w2.heap.size + 2 := by simp
  have ho1' : w2.ownsRow lw 71 2 (.slice A1 R1.length c1) R1.length (R1.flatMap ptC) := own_lower ho1 (by omega)
  have hto : RegTo ((w2.alloc (.cells #[.slice A1 R1.length c1] 41 (0, 0))).alloc (.cells #[.slice (some ⟨w2.heap.size, 0, none⟩) 1 1] 26 (0, 0))) lw (some ⟨w2.heap.size, 0, none⟩) 1 1 [.slice A1 R1.length c1] [R1] := by
    refine ⟨hrow.alloc _, fun j K hj hK => ?_, fun i j u v hij hu hv => ?_⟩
    · obtain rfl : j = 0 := by omega
      simp at hK
      subst hK
      exact ⟨A1, c1, rfl, own_below ho1' hbb⟩
    · have h1 := (List.getElem?_eq_some_iff.1 hu).1
      have h2 := (List.getElem?_eq_some_iff.1 hv).1
      simp at h1 h2
      omega
  have hs3 := hs2.kept hbb (by omega)
  have hB3 := Lib.hid (hB2.out.trans (hbb.mono (by omega)))
  have hG3 := Lib.hid ((hbb.block w.heap.size (by omega)).trans hG2.out)
  clear hrow hbb hs2 hg2 ho1 ho1' hB2 hG2
  go_upto_region 3 with fail
  generalize (w2.alloc (.cells #[.slice A1 R1.length c1] 41 (0, 0))).alloc (.cells #[.slice (some ⟨w2.heap.size, 0, none⟩) 1 1] 26 (0, 0)) = w3 at *
  obtain ⟨X, hX⟩ : ∃ X, X = w2.heap.size + 1 := ⟨_, rfl⟩
  rw [← hX] at hXb ⊢
  have hXz : w2.heap.size < X ∧ X < w3.heap.size ∧ lw ≤ X := by omega
  have hz3' : w2.heap.size + 2 ≤ w3.heap.size := by omega
  clear hz3 hX
  replace hto := Lib.hid hto
  replace hXb := Lib.hid hXb
  go_wp2_with fail
  refine (one_any b k1 2 w3 hs3 (by omega)).mono ?_
  rintro e w4 ⟨r, k2, rfl, hs4, hk2, hg4⟩
  have hz4 := hg4.size
  have hto4 := Lib.hid (hto.out.grownB hg4 hblw)
  have hX4 := Lib.hid ((hg4.block X (by omega) (by intro e; injection e with e; omega)).trans hXb.out)
  have hB4 := Lib.hid (hB3.out.grown hg4 (by omega) (fun g hg => by injection hg with hg; omega))
  have hG4 := Lib.hid ((hg4.block w.heap.size (by omega) (by intro e; injection e with e; omega)).trans hG3.out)
  clear hg4 hto hXb hB3 hG3 hs3
  go_upto_if 12 with fail
  go_cut [4] (fun s4 wx => s4 = .pointer (some ⟨X, 0, none⟩) ∧ (∃ (A' : Option Addr) (n' c' : Nat) (ys : List Value) (Rs : List (List Pnt)), Rs.length = n' ∧ n' ≤ 2 ∧ wx.heap[X]? = some (.cells #[.slice A' n' c'] 26 (0, 0)) ∧ RegTo wx lw A' n' c' ys Rs ∧ ∀ R ∈ Rs, R.length ≤ 200000) ∧ Below w.heap.size w wx ∧ wx.heap[w.heap.size]? = some (.cells #[.slice none 0 0] 26 (0, 0)))
  case first =>
    cases r with
    | false =>
      go_wp2_with fail
      go_meet
      exact ⟨rfl, ⟨_, 1, 1, _, [R1], rfl, by omega, hX4.out, hto4.out, fun R hR => by rw [List.mem_singleton] at hR; subst hR; exact hl1⟩, hB4.out, hG4.out⟩
    | true =>
      have x4 : w4.cell? ⟨X, 0, none⟩ = some (.slice (some ⟨w2.heap.size, 0, none⟩) 1 1) := by rw [Go.Joins.cell_of_block hX4.out]; rfl
      have hcR := Lib.hid (l16Round_any b k2 w4.drew hs4.drew (by omega))
      have hXl4 : X < w4.heap.size := by omega
      go_wp2_with fail
      refine wp_region_head 6 (fun w' => w'.cell? ⟨X, 0, none⟩ = some (.slice (some ⟨w2.heap.size, 0, none⟩) 1 1)) (by kernel_rfl) (by kernel_rfl) (by exact x4) (fun hHeld => ?_)
      simp only [List.take_succ_cons, List.take_zero, List.drop_succ_cons, List.drop_zero]
      refine wpAnyH_take (i := 0) (v := ?_) ((List.getElem?_toArray).trans rfl) (by kernel_rfl) (by kernel_rfl) (by kernel_rfl) (fun _ _ _ h => h) (Or.inl ⟨by rfl, ?_⟩) (by assumption) ?_
      rotate_left
      · (intro w hSw; (try dsimp only at hSw); go_simp; (try (with_reducible rfl)))
      (try simp only [Act.put, List.setIfInBounds_toArray, List.set_cons_zero, List.set_cons_succ])
      refine wpAnyH_take (i := 1) (v := ?_) ((List.getElem?_toArray).trans rfl) (by kernel_rfl) (by kernel_rfl) (by kernel_rfl) (fun _ _ _ h => h) (Or.inl ⟨by rfl, ?_⟩) (by assumption) ?_
      rotate_left
      · (intro w hSw; (try dsimp only at hSw); go_simp; (try (with_reducible rfl)))
      (try simp only [Act.put, List.setIfInBounds_toArray, List.set_cons_zero, List.set_cons_succ])
      refine wpAnyH_take (i := 2) (v := ?_) ((List.getElem?_toArray).trans rfl) (by kernel_rfl) (by kernel_rfl) (by kernel_rfl) (fun _ _ _ h => h) (Or.inl ⟨by rfl, ?_⟩) (by assumption) ?_
      rotate_left
      · (intro w hSw; (try dsimp only at hSw); go_simp; (try (with_reducible rfl)))
      (try simp only [Act.put, List.setIfInBounds_toArray, List.set_cons_zero, List.set_cons_succ])
      refine wpAnyH_ready (rs := [3]) (by kernel_rfl) (by simp) ?_
      refine AllReadyH.cons ((List.getElem?_toArray).trans rfl) (fun K0 hK0 => ?_) AllReadyH.nil
      (go_simp; go_at_call 13; refine hcR.out.mono ?_; rintro e w5 ⟨A6, R2, c6, k3, rfl, ho6, hl2, hs5, hk3, hg5⟩; have H5 : w5.heap[X]? = w4.heap[X]? := hg5.block X hXl4 (by intro e; injection e with e; omega); have q5 : w5.cell? ⟨X, 0, none⟩ = some (.slice (some ⟨w2.heap.size, 0, none⟩) 1 1) := (World.cell?_of_block H5).trans x4; have hz5 : w4.heap.size ≤ w5.heap.size := hg5.size; have hg5' : w4.grownBy w5 (some b) := ⟨hg5.os, hg5.tape, hg5.output, hg5.size, hg5.block⟩; replace H5 := Lib.hid H5; replace ho6 := Lib.hid ho6; replace hs5 := Lib.hid hs5; clear hg5; have hg5 := Lib.hid hg5'; clear hg5'; dsimp only)
      refine hK0.out _ _ ?_ (fun hHeld => ?_)
      · (exact q5)
      clear hK0 K0
      (try simp only [Act.put, List.setIfInBounds_toArray, List.set_cons_zero, List.set_cons_succ])
      refine wpAnyH_ready (rs := [4]) (by kernel_rfl) (by simp) ?_
      refine AllReadyH.cons ((List.getElem?_toArray).trans rfl) (fun K0 hK0 => ?_) AllReadyH.nil
      go_simp
      refine hK0.out _ _ ?_ (fun hHeld => ?_)
      · (exact Lib.cell?_alloc_some _ q5)
      clear hK0 K0
      (try simp only [Act.put, List.setIfInBounds_toArray, List.set_cons_zero, List.set_cons_succ])
      refine wpAnyH_ready (rs := [5]) (by kernel_rfl) (by simp) ?_
      refine AllReadyH.cons ((List.getElem?_toArray).trans rfl) (fun K0 hK0 => ?_) AllReadyH.nil
      (refine stepAppAt rfl (.tmp 14) (.tmp 17) elemRing rfl (v := .slice (some ⟨w2.heap.size, 0, none⟩) 1 1) (n := 1) (xs := [.slice A1 R1.length c1]) rfl ((own_grown hto4.out.1 hg5.out hblw).alloc _) rfl (src_at (cs := [.slice A6 R2.length c6]) rfl (by simp [Value.oneCell']) (by simp)) (by omega) (by omega) (by simp; omega) 2 rfl ?_; intro A7 c7 w7 ho7 hg7; have hk7 : w7.heap[X]? = w5.heap[X]? := (hg7.block X (by simp; omega) (by intro e; simp [Value.ownBlock] at e; omega)).trans (Below.heap_alloc _ _ _ (by omega)); have q7 : w7.cell? ⟨X, 0, none⟩ = some (.slice (some ⟨w2.heap.size, 0, none⟩) 1 1) := (World.cell?_of_block hk7).trans q5; have f7 : ∀ o, w7.frozen? ⟨X, o, none⟩ = false := (fun o => (World.frozen?_of_block (hk7.trans H5.out)).trans (Go.Joins.unfrozen_of_block hX4.out o)); have hz7 : w5.heap.size + 1 ≤ w7.heap.size := (by have := hg7.size; simp at this; exact this); replace hk7 := Lib.hid hk7; replace ho7 := Lib.hid ho7; replace hg7 := Lib.hid hg7)
      refine hK0.out _ _ ?_ (fun hHeld => ?_)
      · (exact q7)
      clear hK0 K0
      (try simp only [Act.put, List.setIfInBounds_toArray, List.set_cons_zero, List.set_cons_succ])
      refine wpAnyH_done (by kernel_rfl) ?_ _
      show wpList _ _ _ _ _ _
      go_wp2_with fail
      go_meet
      have hnx := RegTo.nextG (w1 := w5.alloc (.cells #[.slice A6 R2.length c6] 41 (0, 0))) (K := R2) (Ls := [R1, R2]) ⟨hto4.out.1, fun j K hj hK => hto4.out.2.1 j K hj (by obtain rfl : j = 0 := (by omega); simpa using hK), hto4.out.2.2⟩ rfl (grown_tr hg5.out (grown_of (Go.Joins.below_alloc1 w5 _) _)) hblw (ho6.out.alloc _) (show w4.heap.size ≤ w4.heap.size from Nat.le_refl _) (by omega) ho7.out hg7.out
      refine ⟨rfl, ⟨_, 2, _, _, [R1, R2], rfl, by omega, Go.Joins.block_setCell (hk7.out.trans (H5.out.trans hX4.out)) _, hnx.setK (hk7.out.trans (H5.out.trans hX4.out)) (by decide) (by decide) 0 _, ?_⟩, ?_, ?_⟩
      · intro R hR
        rcases List.mem_cons.1 hR with rfl | hR
        · exact hl1
        · rw [List.mem_singleton] at hR; subst hR; exact hl2
      · exact ((((hB4.out.grown hg5.out (by omega) (fun g hg => by injection hg with hg; omega)).alloc (by omega) _).grown hg7.out (by simp; omega) (fun g hg => by simp [Value.ownBlock] at hg; omega))).setCell (p := ⟨X, 0, none⟩) (by show w.heap.size ≤ X; omega) _
      · refine (Below.heap_setCell _ _ _ _ (by show w.heap.size ≠ X; omega)).trans ((hg7.out.block w.heap.size (by simp; omega) (by intro e; simp [Value.ownBlock] at e; omega)).trans ((Below.heap_alloc _ _ _ (by omega)).trans ((hg5.out.block w.heap.size (by omega) (by intro e; injection e with e; omega)).trans hG4.out)))
  obtain ⟨rfl, ⟨A', n', c', ys, Rs, hRl, hn2, hX5, hto5, hlen⟩, hB5, hG5⟩ := hcut
  generalize wc = v at *
  have hown := hto5.own hRl
  have hrd := Lib.hid (hown.rd (fun K hK => Nat.le_trans (hlen K hK) (by decide)))
  have xc : v.cell? ⟨X, 0, none⟩ = some (.slice A' n' c') := by rw [Go.Joins.cell_of_block hX5]; rfl
  obtain ⟨t, ht⟩ : ∃ t, t = regOk Rs := ⟨_, rfl⟩
  have hok := Lib.hid (l13Ok_any X 0 A' n' c' lw v.heap.size Rs t ht v xc hrd.out (Nat.le_refl _) (by omega) (fun K hK => Nat.le_trans (hlen K hK) (by decide)))
  have hXl := (Array.getElem?_eq_some_iff.1 hX5).1
  replace hX5 := Lib.hid hX5
  replace hown := Lib.hid hown
  replace ht := Lib.hid ht
  clear hto5 hrd
  go_wp2_with fail
  refine hok.out.mono ?_
  rintro e w6 ⟨rfl, hb6⟩
  have hz6 := hb6.size
  have hX6 := Lib.hid ((hb6.block X hXl).trans hX5.out)
  have hGl : w.heap.size < v.heap.size := (Array.getElem?_eq_some_iff.1 hG5).1
  have hG6 := Lib.hid ((hb6.block w.heap.size hGl).trans hG5)
  have hB6 := Lib.hid (hB5.trans (hb6.mono (by omega)))
  have g6 : w6.cell? ⟨w.heap.size, 0, none⟩ = some (.slice none 0 0) := by rw [Go.Joins.cell_of_block hG6.out]; rfl
  have gf6 := Go.Joins.unfrozen_of_block hG6.out
  have gl6 : w.heap.size < w6.heap.size := by omega
  have x6 : w6.cell? ⟨X, 0, none⟩ = some (.slice A' n' c') := by rw [Go.Joins.cell_of_block hX6.out]; rfl
  have xl6 : X < w6.heap.size := by omega
  have hown6 := Lib.hid (hown.out.kept hb6)
  clear hb6 hB5 hG5 xc
  cases t with
  | true =>
    go_wp2_with fail
    refine bodyPost_ret (v := .agg #[.slice A' n' c']) (by simp [results, Tryz.results5, go_sem, g6]) rfl ⟨A', n', c', Rs, rfl, (hown6.out.stored_below (by show w.heap.size < lw; omega) _).base (by omega), ht.out.symm, hB6.out.setCell (Nat.le_refl _) _⟩
  | false =>
    go_wp2_with fail
    refine bodyPost_ret (v := .agg #[.slice none 0 0]) (by simp [results, Tryz.results5, go_sem, g6]) rfl ⟨none, 0, 0, [], rfl, ⟨[], rfl, World.ownsRow_nil _ _ _ _, fun j K hj => by simp at hj, fun i j u v _ hu => by simp at hu⟩, by decide, ?_⟩
    first | exact hB6.out | exact hB6.out.setCell (Nat.le_refl _) _
end Go.Proofs.YtgelkdcggnffeaaGreat

