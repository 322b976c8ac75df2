/- A curve near a path, the reference's side. Conditions: as each states. -/
import Derived.Test.YtgelkdcggnffeaaGreatFtg26
namespace Go.Proofs.YtgelkdcggnffeaaGreat
open Go.RowKit
set_option linter.unusedVariables false
set_option maxRecDepth 100000

set_option maxHeartbeats 8000000 in
theorem l16Fit_any (A : Option Addr) (n c lo hi : Nat) (L : List (Int × Int)) (t : Int) (w : World) (hr : RdS 2 (FlatR ptC) w lo hi A n L) (hhi : hi ≤ w.heap.size) (hn : 3 ≤ n) (hn2 : n ≤ 1000) (hL : ∀ p ∈ L, ptOk p.1 p.2 = true) (ht0 : 0 ≤ t) (ht1 : t ≤ 262144) :
    Calls Tryz.prog 65 #[.slice A n c, .int .i64 t] w fun e w' => FitPost L t e ∧ Below w.heap.size w w' := by
  have hll := hr.1
  obtain ⟨b, off, x0, y0, x1, y1, x2, y2, x3, y3, rfl, hbh, _, h8, g0, g1, g2, g3, o0, o1, o2, o3⟩ := path_ends hr hn hL
  have hb : b < w.heap.size := by omega
  obtain ⟨px, py, ok, hlR, hln⟩ := lineS_any x0 y0 x1 y1 x2 y2 x3 y3 o0 o1 o2 o3
  have hFB := Lib.hid (fitB_eq (t := t) g0 g1 g2 g3)
  have hq0 : (ptAt L 0).1 = x0 ∧ (ptAt L 0).2 = y0 := by rw [g0]; exact ⟨rfl, rfl⟩
  have hq2 : (ptAt L (L.length - 1)).1 = x2 ∧ (ptAt L (L.length - 1)).2 = y2 := by rw [g2]; exact ⟨rfl, rfl⟩
  replace hq0 := Lib.hid hq0
  replace hq2 := Lib.hid hq2
  have hok : ok = true → ptOk px py = true := fun h => by rw [h, if_pos rfl] at hlR; exact line_ok hlR
  replace hlR := Lib.hid hlR
  replace hok := Lib.hid hok
  have hrH := Lib.hid hr
  replace hL := Lib.hid hL
  replace hll := Lib.hid hll
  clear g0 g1 g2 g3 hr
  obtain ⟨n1, hn1⟩ : ∃ n1, n1 = n - 1 := ⟨_, rfl⟩
  obtain ⟨n2, hn2'⟩ : ∃ n2, n2 = n - 2 := ⟨_, rfl⟩
  have q1 : IntKind.i64.wrap ((n : Int) - 1) = (n1 : Int) := by rw [wi (by omega)]; omega
  have q2 : IntKind.i64.wrap ((n : Int) - 2) = (n2 : Int) := by rw [wi (by omega)]; omega
  have i0 : (0 : Int) ≤ 0 ∧ (0 : Int) < (n : Int) := by omega
  have i1 : (0 : Int) ≤ 1 ∧ (1 : Int) < (n : Int) := by omega
  have i2 : (0 : Int) ≤ (n1 : Int) ∧ (n1 : Int) < (n : Int) := by omega
  have i3 : (0 : Int) ≤ (n2 : Int) ∧ (n2 : Int) < (n : Int) := by omega
  have i4 : (0 : Int) < (n : Int) := by omega
  have i5 : (1 : Int) < (n : Int) := by omega
  have i6 : (n1 : Int) < (n : Int) := by omega
  have i7 : (n2 : Int) < (n : Int) := by omega
  have i8 : (0 : Int) ≤ (n1 : Int) := by omega
  have i9 : (0 : Int) ≤ (n2 : Int) := by omega
  have i10 : 0 < n := by omega
  have i11 : 1 < n := by omega
  rw [← hn1, ← hn2'] at h8
  replace hn1 := Lib.hid hn1
  replace hn2' := Lib.hid hn2'
  replace hln := Lib.hid hln
  have hQ0 : (w.alloc (.cells #[.int .i64 0, .int .i64 0, .int .i64 0, .int .i64 0, .int .i64 0, .int .i64 0] 87 (0, 0))).heap[w.heap.size]? = some (.cells #[.int .i64 0, .int .i64 0, .int .i64 0, .int .i64 0, .int .i64 0, .int .i64 0] 87 (0, 0)) := heap_alloc_new w _
  have hB0 : Below w.heap.size w (w.alloc (.cells #[.int .i64 0, .int .i64 0, .int .i64 0, .int .i64 0, .int .i64 0, .int .i64 0] 87 (0, 0))) := Go.Joins.below_alloc1 _ _
  replace h8 := h8.below hB0 hb
  go_enter Tryz.func65, Tryz.ntmps65
  go_wp2_with fail
  generalize w.alloc (.cells #[.int .i64 0, .int .i64 0, .int .i64 0, .int .i64 0, .int .i64 0, .int .i64 0] 87 (0, 0)) = V at *
  have hbV : b < V.heap.size := Nat.lt_of_lt_of_le hb hB0.size
  have s0 := Lib.hid (show Eight V.drew b off (off + 2) (off + n1 * 2) (off + n2 * 2) x0 y0 x1 y1 x2 y2 x3 y3 from h8)
  have s1 := Lib.hid (show Eight (V.alloc (.cells #[.int .i64 0, .int .i64 0] 71 (0, 0))).drew b off (off + 2) (off + n1 * 2) (off + n2 * 2) x0 y0 x1 y1 x2 y2 x3 y3 from Eight.below h8 (Below.drew (Go.Joins.below_alloc1 _ _)) hbV)
  clear h8
  have hbD : b < V.drew.heap.size := hbV
  have hbD2 : b < (V.alloc (.cells #[.int .i64 0, .int .i64 0] 71 (0, 0))).drew.heap.size := Nat.lt_of_lt_of_le hbV (Below.drew (Go.Joins.below_alloc1 V (.cells #[.int .i64 0, .int .i64 0] 71 (0, 0)))).size
  have hneb : b ≠ V.heap.size := by omega
  have hQ1 : Hid (V.drew.heap[w.heap.size]? = some (.cells #[.int .i64 0, .int .i64 0, .int .i64 0, .int .i64 0, .int .i64 0, .int .i64 0] 87 (0, 0))) := hQ0
  have hB1 := Lib.hid (show Below w.heap.size w V.drew from hB0.drew)
  have hQ2 : Hid ((V.alloc (.cells #[.int .i64 0, .int .i64 0] 71 (0, 0))).drew.heap[w.heap.size]? = some (.cells #[.int .i64 0, .int .i64 0, .int .i64 0, .int .i64 0, .int .i64 0, .int .i64 0] 87 (0, 0))) := ((Go.Joins.below_alloc1 V (.cells #[.int .i64 0, .int .i64 0] 71 (0, 0))).block w.heap.size (Array.getElem?_eq_some_iff.1 hQ0).1).trans hQ0
  have hB2 := Lib.hid (show Below w.heap.size w (V.alloc (.cells #[.int .i64 0, .int .i64 0] 71 (0, 0))).drew from Below.drew (hB0.alloc hB0.size _))
  have hX2 : Hid (PB (V.alloc (.cells #[.int .i64 0, .int .i64 0] 71 (0, 0))).drew V.heap.size 0 0) := heap_alloc_new V _
  have hzV0 : w.heap.size < V.heap.size := (Array.getElem?_eq_some_iff.1 hQ0).1
  clear hQ0 hB0
  go_region_held3 (fun w' => w'.cell? ⟨b, off, none⟩ = some (.int .i64 x0) ∧ w'.cell? ⟨b, off + 1, none⟩ = some (.int .i64 y0) ∧ w'.cell? ⟨b, off + 2, none⟩ = some (.int .i64 x1) ∧ w'.cell? ⟨b, off + 2 + 1, none⟩ = some (.int .i64 y1) ∧ w'.cell? ⟨b, off + n1 * 2, none⟩ = some (.int .i64 x2) ∧ w'.cell? ⟨b, off + n1 * 2 + 1, none⟩ = some (.int .i64 y2) ∧ w'.cell? ⟨b, off + n2 * 2, none⟩ = some (.int .i64 x3) ∧ w'.cell? ⟨b, off + n2 * 2 + 1, none⟩ = some (.int .i64 y3)) (first | (with_reducible exact s0.out) | (with_reducible exact s1.out) | (with_reducible exact sC.out) | (with_reducible exact sD.out) | (with_reducible exact sE.out)) (first | (go_at_call 83; (with_reducible refine (hln.out _).mono ?_); rintro e w1 ⟨rfl, hb1⟩; (first | (have sC := Lib.hid (show Eight w1 b off (off + 2) (off + n1 * 2) (off + n2 * 2) x0 y0 x1 y1 x2 y2 x3 y3 from Eight.below s0.out hb1 hbD); have sD := Lib.hid (show Eight (w1.alloc (.cells #[.int .i64 0, .int .i64 0] 71 (0, 0))) b off (off + 2) (off + n1 * 2) (off + n2 * 2) x0 y0 x1 y1 x2 y2 x3 y3 from Eight.below sC.out (Go.Joins.below_alloc1 _ _) (Nat.lt_of_lt_of_le hbD hb1.size)); have sE := Lib.hid (show Eight (w1.alloc (.cells #[.int .i64 px, .int .i64 py] 71 (0, 0))) b off (off + 2) (off + n1 * 2) (off + n2 * 2) x0 y0 x1 y1 x2 y2 x3 y3 from Eight.below sC.out (Go.Joins.below_alloc1 _ _) (Nat.lt_of_lt_of_le hbD hb1.size)); have hBC := Lib.hid (hB1.out.trans (hb1.mono hB1.out.size)); have hQC := Lib.hid ((hb1.block w.heap.size (Array.getElem?_eq_some_iff.1 hQ1.out).1).trans hQ1.out)) | (have sC := Lib.hid (show Eight w1 b off (off + 2) (off + n1 * 2) (off + n2 * 2) x0 y0 x1 y1 x2 y2 x3 y3 from Eight.below s1.out hb1 hbD2); have sD := Lib.hid (show Eight (w1.setCell ⟨V.heap.size, 0, none⟩ (.int .i64 px)) b off (off + 2) (off + n1 * 2) (off + n2 * 2) x0 y0 x1 y1 x2 y2 x3 y3 from Eight.set sC.out hneb); have sE := Lib.hid (show Eight ((w1.setCell ⟨V.heap.size, 0, none⟩ (.int .i64 px)).setCell ⟨V.heap.size, 1, none⟩ (.int .i64 py)) b off (off + 2) (off + n1 * 2) (off + n2 * 2) x0 y0 x1 y1 x2 y2 x3 y3 from Eight.set sD.out hneb); have hBC := Lib.hid (hB2.out.trans (hb1.mono hB2.out.size)); have hQC := Lib.hid ((hb1.block w.heap.size (Array.getElem?_eq_some_iff.1 hQ2.out).1).trans hQ2.out); have hXC := Lib.hid (hX2.out.below hb1); obtain ⟨xx0, xx1, xxf, xxl⟩ := hXC.out.cells)); clear hb1))
  all_goals
    have hzq : w.heap.size < w1.heap.size := (Array.getElem?_eq_some_iff.1 hQC.out).1
    have hzV : w.heap.size < V.heap.size := hzV0
    first
      | (have hX := Lib.hid (show PB ((w1.setCell ⟨V.heap.size, 0, none⟩ (.int .i64 px)).setCell ⟨V.heap.size, 1, none⟩ (.int .i64 py)) V.heap.size px py from PB.put hXC.out px py)
         have hQ := Lib.hid (show ((w1.setCell ⟨V.heap.size, 0, none⟩ (.int .i64 px)).setCell ⟨V.heap.size, 1, none⟩ (.int .i64 py)).heap[w.heap.size]? = some (.cells #[.int .i64 0, .int .i64 0, .int .i64 0, .int .i64 0, .int .i64 0, .int .i64 0] 87 (0, 0)) from (Below.heap_setCell _ ⟨V.heap.size, 1, none⟩ _ w.heap.size (by show w.heap.size ≠ V.heap.size; omega)).trans ((Below.heap_setCell _ ⟨V.heap.size, 0, none⟩ _ w.heap.size (by show w.heap.size ≠ V.heap.size; omega)).trans hQC.out))
         have hB := Lib.hid ((hBC.out.setCell (p := ⟨V.heap.size, 0, none⟩) (by show w.heap.size ≤ V.heap.size; omega) (.int .i64 px)).setCell (p := ⟨V.heap.size, 1, none⟩) (by show w.heap.size ≤ V.heap.size; omega) (.int .i64 py))
         have h8' := Lib.hid (show Eight ((w1.setCell ⟨V.heap.size, 0, none⟩ (.int .i64 px)).setCell ⟨V.heap.size, 1, none⟩ (.int .i64 py)) b off (off + 2) (off + n1 * 2) (off + n2 * 2) x0 y0 x1 y1 x2 y2 x3 y3 from sE.out)
         obtain ⟨X, hXe⟩ : ∃ X, X = V.heap.size := ⟨_, rfl⟩
         clear xx0 xx1 xxf xxl hXC
         rw [← hXe] at hX hB h8' hQ hzV ⊢
         replace hzq := hzV
         clear s0 s1 sC sD sE hQ1 hB1 hQ2 hB2 hX2 hBC hQC hbD hbD2
         generalize ((w1.setCell ⟨X, 0, none⟩ (.int .i64 px)).setCell ⟨X, 1, none⟩ (.int .i64 py)) = V2 at *
         clear hXe)
      | (have hX := Lib.hid (show PB (w1.alloc (.cells #[.int .i64 px, .int .i64 py] 71 (0, 0))) w1.heap.size px py from heap_alloc_new w1 _)
         have hQ := Lib.hid (show (w1.alloc (.cells #[.int .i64 px, .int .i64 py] 71 (0, 0))).heap[w.heap.size]? = some (.cells #[.int .i64 0, .int .i64 0, .int .i64 0, .int .i64 0, .int .i64 0, .int .i64 0] 87 (0, 0)) from ((Go.Joins.below_alloc1 w1 (.cells #[.int .i64 px, .int .i64 py] 71 (0, 0))).block w.heap.size (Array.getElem?_eq_some_iff.1 hQC.out).1).trans hQC.out)
         have hB := Lib.hid (hBC.out.alloc hBC.out.size (.cells #[.int .i64 px, .int .i64 py] 71 (0, 0)))
         have h8' := Lib.hid (show Eight (w1.alloc (.cells #[.int .i64 px, .int .i64 py] 71 (0, 0))) b off (off + 2) (off + n1 * 2) (off + n2 * 2) x0 y0 x1 y1 x2 y2 x3 y3 from sE.out)
         obtain ⟨X, hXe⟩ : ∃ X, X = w1.heap.size := ⟨_, rfl⟩
         rw [← hXe] at hX hzq ⊢
         clear s0 s1 sC sD sE hQ1 hB1 hQ2 hB2 hX2 hBC hQC hbD hbD2
         generalize w1.alloc (.cells #[.int .i64 px, .int .i64 py] 71 (0, 0)) = V2 at *
         clear hXe)
    clear hneb hbV hzV
    have hne : w.heap.size ≠ X := by omega
    have hq6 : V2.cell? ⟨w.heap.size, 0, none⟩ = some (.int .i64 0) ∧ V2.cell? ⟨w.heap.size, 1, none⟩ = some (.int .i64 0) ∧ V2.cell? ⟨w.heap.size, 2, none⟩ = some (.int .i64 0) ∧ V2.cell? ⟨w.heap.size, 3, none⟩ = some (.int .i64 0) ∧ V2.cell? ⟨w.heap.size, 4, none⟩ = some (.int .i64 0) ∧ V2.cell? ⟨w.heap.size, 5, none⟩ = some (.int .i64 0) := by
      refine ⟨?_, ?_, ?_, ?_, ?_, ?_⟩ <;> (rw [Go.Joins.cell_of_block hQ.out]; rfl)
    have hqf := Go.Joins.unfrozen_of_block hQ.out
    have hql := (Array.getElem?_eq_some_iff.1 hQ.out).1
    cases ok with
    | false =>
      obtain ⟨u0, u1, u2, u3, u4, u5⟩ := hq6
      go_wp2_with fail
      refine bodyPost_ret (v := .tuple #[.agg #[.int .i64 0, .int .i64 0, .int .i64 0, .int .i64 0, .int .i64 0, .int .i64 0], .bool false]) (by simp [results, Tryz.results65, go_sem, u0, u1, u2, u3, u4, u5]) rfl ⟨.inl ⟨?_, rfl⟩, ?_⟩
      · rw [hFB.out, hlR.out]; rfl
      · exact (((((hB.out.setCell (p := ⟨w.heap.size, 0, none⟩) (Nat.le_refl _) _).setCell (p := ⟨w.heap.size, 1, none⟩) (Nat.le_refl _) _).setCell (p := ⟨w.heap.size, 2, none⟩) (Nat.le_refl _) _).setCell (p := ⟨w.heap.size, 3, none⟩) (Nat.le_refl _) _).setCell (p := ⟨w.heap.size, 4, none⟩) (Nat.le_refl _) _).setCell (p := ⟨w.heap.size, 5, none⟩) (Nat.le_refl _) _
    | true =>
      have hpk := hok.out rfl
      replace hq6 := Lib.hid hq6
      have hbV2 : b < V2.heap.size := Nat.lt_of_lt_of_le hb hB.out.size
      obtain ⟨k0, k1, _, _, k4, k5, _, _⟩ := h8'.out
      obtain ⟨k2, k3, kf, kl⟩ := hX.out.cells
      have t0 := Lib.hid (show Six2 V2.drew b off (off + n1 * 2) X x0 y0 x2 y2 px py from ⟨k0, k1, k4, k5, k2, k3⟩)
      have t1 := Lib.hid (show Six2 (V2.alloc (.cells #[.int .i64 0, .int .i64 0, .int .i64 0, .int .i64 0, .int .i64 0, .int .i64 0] 87 (0, 0))).drew b off (off + n1 * 2) X x0 y0 x2 y2 px py from Six2.alloc (w := V2) ⟨k0, k1, k4, k5, k2, k3⟩ hbV2 kl)
      have t2 := Lib.hid (show Six2 (V2.alloc (.cells #[.int .i64 x0, .int .i64 y0, .int .i64 px, .int .i64 py, .int .i64 x2, .int .i64 y2] 87 (0, 0))).drew b off (off + n1 * 2) X x0 y0 x2 y2 px py from Six2.alloc (w := V2) ⟨k0, k1, k4, k5, k2, k3⟩ hbV2 kl)
      clear k0 k1 k2 k3 k4 k5 kf
      go_upto_region 5 with fail
      go_region_held3 (fun w' => w'.cell? ⟨b, off, none⟩ = some (.int .i64 x0) ∧ w'.cell? ⟨b, off + 1, none⟩ = some (.int .i64 y0) ∧ w'.cell? ⟨b, off + n1 * 2, none⟩ = some (.int .i64 x2) ∧ w'.cell? ⟨b, off + n1 * 2 + 1, none⟩ = some (.int .i64 y2) ∧ w'.cell? ⟨X, 0, none⟩ = some (.int .i64 px) ∧ w'.cell? ⟨X, 1, none⟩ = some (.int .i64 py)) (first | (with_reducible exact t0.out) | (with_reducible exact t1.out) | (with_reducible exact t2.out)) (fail)
      all_goals
        have hY := Lib.hid (show QB ((V2.alloc (.cells #[.int .i64 x0, .int .i64 y0, .int .i64 px, .int .i64 py, .int .i64 x2, .int .i64 y2] 87 (0, 0))).drew) V2.heap.size ⟨x0, y0, px, py, x2, y2⟩ from heap_alloc_new V2 _)
        have hQ3 := Lib.hid (show ((V2.alloc (.cells #[.int .i64 x0, .int .i64 y0, .int .i64 px, .int .i64 py, .int .i64 x2, .int .i64 y2] 87 (0, 0))).drew).heap[w.heap.size]? = some (.cells #[.int .i64 0, .int .i64 0, .int .i64 0, .int .i64 0, .int .i64 0, .int .i64 0] 87 (0, 0)) from ((Go.Joins.below_alloc1 V2 (.cells #[.int .i64 x0, .int .i64 y0, .int .i64 px, .int .i64 py, .int .i64 x2, .int .i64 y2] 87 (0, 0))).block w.heap.size (Array.getElem?_eq_some_iff.1 hQ.out).1).trans hQ.out)
        have hB3 := Lib.hid (show Below w.heap.size w ((V2.alloc (.cells #[.int .i64 x0, .int .i64 y0, .int .i64 px, .int .i64 py, .int .i64 x2, .int .i64 y2] 87 (0, 0))).drew) from Below.drew (hB.out.alloc hB.out.size (.cells #[.int .i64 x0, .int .i64 y0, .int .i64 px, .int .i64 py, .int .i64 x2, .int .i64 y2] 87 (0, 0))))
        obtain ⟨Y, hYe⟩ : ∃ Y, Y = V2.heap.size := ⟨_, rfl⟩
        rw [← hYe] at hY hql ⊢
        clear t0 t1 t2 hX hQ hB h8' hq6 hqf hbV2 kl
        generalize ((V2.alloc (.cells #[.int .i64 x0, .int .i64 y0, .int .i64 px, .int .i64 py, .int .i64 x2, .int .i64 y2] 87 (0, 0))).drew) = V3 at *
        clear hYe
        have hneY : w.heap.size ≠ Y := by omega
        obtain ⟨y0', y1', y2', y3', y4', y5'⟩ := hY.out.cells
        have hYl := hY.out.lt
        simp only at y0' y1' y2' y3' y4' y5'
        have hqok : (⟨x0, y0, px, py, x2, y2⟩ : Qd).ok := ⟨o0, hpk, o2⟩
        have hfl := Lib.hid (l10Flat_any Y ⟨x0, y0, px, py, x2, y2⟩ hqok V3 hY.out)
        replace hqok := Lib.hid hqok
        go_wp2_with fail
        refine hfl.out.mono ?_
        rintro e w5 (⟨hl, rfl, hb5⟩ | ⟨l, A5, c5, hl, rfl, hr5, hb5⟩)
        · have hQ9 := Lib.hid ((hb5.block w.heap.size (Array.getElem?_eq_some_iff.1 hQ3.out).1).trans hQ3.out)
          have hB9 := Lib.hid (hB3.out.trans (hb5.mono hB3.out.size))
          have hno : Hid (fitB L t = none) := by
            show fitB L t = none
            rw [hFB.out, hlR.out]
            simp [hl]
          clear hl hb5 y0' y1' y2' y3' y4' y5' hYl
          obtain ⟨⟨u0, u1, u2, u3, u4, u5⟩, uf⟩ := zero_cells hQ9.out
          have ul := (Array.getElem?_eq_some_iff.1 hQ9.out).1
          go_wp2_with fail
          refine bodyPost_ret (v := .tuple #[.agg #[.int .i64 0, .int .i64 0, .int .i64 0, .int .i64 0, .int .i64 0, .int .i64 0], .bool false]) (by simp [results, Tryz.results65, go_sem, u0, u1, u2, u3, u4, u5]) rfl ⟨.inl ⟨hno.out, rfl⟩, ?_⟩
          exact (((((hB9.out.setCell (p := ⟨w.heap.size, 0, none⟩) (Nat.le_refl _) _).setCell (p := ⟨w.heap.size, 1, none⟩) (Nat.le_refl _) _).setCell (p := ⟨w.heap.size, 2, none⟩) (Nat.le_refl _) _).setCell (p := ⟨w.heap.size, 3, none⟩) (Nat.le_refl _) _).setCell (p := ⟨w.heap.size, 4, none⟩) (Nat.le_refl _) _).setCell (p := ⟨w.heap.size, 5, none⟩) (Nat.le_refl _) _
        have hl7 := lvl_lt hl
        have hnl : 1 ≤ 2 ^ l := Nat.one_le_two_pow
        have hnl2 : 2 ^ l ≤ 64 := Nat.le_trans (Nat.pow_le_pow_right (by omega) (show l ≤ 6 by omega)) (by decide)
        have hfok := flatL_ok hqok.out (n := 2 ^ l) hnl
        have hf1 : fitB L t = if withinB L (flatL ⟨x0, y0, px, py, x2, y2⟩ (2 ^ l)) t = true ∧ withinB (flatL ⟨x0, y0, px, py, x2, y2⟩ (2 ^ l)) L t = true then some (px, py) else none := by
          rw [hFB.out, hlR.out]
          simp [hl]
        obtain ⟨v1, hv1⟩ : ∃ v, v = withinB L (flatL ⟨x0, y0, px, py, x2, y2⟩ (2 ^ l)) t := ⟨_, rfl⟩
        obtain ⟨v2, hv2⟩ : ∃ v, v = withinB (flatL ⟨x0, y0, px, py, x2, y2⟩ (2 ^ l)) L t := ⟨_, rfl⟩
        have hB5 := hB3.out.trans (hb5.mono hB3.out.size)
        have hz5 := hB5.size
        have hrA : RdS 2 (FlatR ptC) w5 lo hi (some ⟨b, off, none⟩) n L := hrH.out.frame (good_flat _) (Below.sameB hB5 hhi)
        have cA := Lib.hid (l16Within_any (some ⟨b, off, none⟩) A5 n c (2 ^ l + 1) c5 lo hi V3.heap.size w5.heap.size L (flatL ⟨x0, y0, px, py, x2, y2⟩ (2 ^ l)) t v1 hv1 w5 hrA hr5 (by omega) (Nat.le_refl _) (by omega) (by omega) (by omega) hL.out hfok ht0 ht1)
        have cB := Lib.hid (fun (W : World) (hb : Below w5.heap.size w5 W) => l16Within_any A5 (some ⟨b, off, none⟩) (2 ^ l + 1) c5 n c V3.heap.size w5.heap.size lo hi (flatL ⟨x0, y0, px, py, x2, y2⟩ (2 ^ l)) L t v2 hv2 W (hr5.frame (good_flat _) (Below.sameB hb (Nat.le_refl _))) (hrA.frame (good_flat _) (Below.sameB hb (by omega))) hb.size (by have := hb.size; omega) (by omega) (by omega) (by omega) hfok hL.out ht0 ht1)
        rw [← hv1, ← hv2] at hf1
        have hQ5 := Lib.hid ((hb5.block w.heap.size (Array.getElem?_eq_some_iff.1 hQ3.out).1).trans hQ3.out)
        have hY5 := Lib.hid (hY.out.below hb5)
        replace hB5 := Lib.hid hB5
        replace hf1 := Lib.hid hf1
        generalize 2 ^ l + 1 = N5 at *
        clear hr5 hrA hl hv1 hv2 hfok hnl hnl2 hb5 hB3 hQ3 hY y0' y1' y2' y3' y4' y5' hYl hl7
        go_wp2_with fail
        refine cA.out.mono ?_
        rintro e w6 ⟨rfl, hb6⟩
        cases v1 with
        | false =>
          have hQ9 := Lib.hid ((hb6.block w.heap.size (Array.getElem?_eq_some_iff.1 hQ5.out).1).trans hQ5.out)
          have hB9 := Lib.hid (hB5.out.trans (hb6.mono hB5.out.size))
          have hno : Hid (fitB L t = none) := by
            show fitB L t = none
            rw [hf1.out, if_neg (by simp)]
          clear hb6
          obtain ⟨⟨u0, u1, u2, u3, u4, u5⟩, uf⟩ := zero_cells hQ9.out
          have ul := (Array.getElem?_eq_some_iff.1 hQ9.out).1
          go_wp2_with fail
          refine bodyPost_ret (v := .tuple #[.agg #[.int .i64 0, .int .i64 0, .int .i64 0, .int .i64 0, .int .i64 0, .int .i64 0], .bool false]) (by simp [results, Tryz.results65, go_sem, u0, u1, u2, u3, u4, u5]) rfl ⟨.inl ⟨hno.out, rfl⟩, ?_⟩
          exact (((((hB9.out.setCell (p := ⟨w.heap.size, 0, none⟩) (Nat.le_refl _) _).setCell (p := ⟨w.heap.size, 1, none⟩) (Nat.le_refl _) _).setCell (p := ⟨w.heap.size, 2, none⟩) (Nat.le_refl _) _).setCell (p := ⟨w.heap.size, 3, none⟩) (Nat.le_refl _) _).setCell (p := ⟨w.heap.size, 4, none⟩) (Nat.le_refl _) _).setCell (p := ⟨w.heap.size, 5, none⟩) (Nat.le_refl _) _
        | true =>
          have cB' := Lib.hid (cB.out w6 hb6)
          go_wp2_with fail
          refine cB'.out.mono ?_
          rintro e w7 ⟨rfl, hb7⟩
          have hb67 := hb6.trans (hb7.mono hb6.size)
          have hQ9 := Lib.hid ((hb67.block w.heap.size (Array.getElem?_eq_some_iff.1 hQ5.out).1).trans hQ5.out)
          have hB9 := Lib.hid (hB5.out.trans (hb67.mono hB5.out.size))
          have hY9 := Lib.hid (hY5.out.below hb67)
          clear hb6 hb7 hb67
          cases v2 with
          | false =>
            have hno : Hid (fitB L t = none) := by
              show fitB L t = none
              rw [hf1.out, if_neg (by simp)]
            obtain ⟨⟨u0, u1, u2, u3, u4, u5⟩, uf⟩ := zero_cells hQ9.out
            have ul := (Array.getElem?_eq_some_iff.1 hQ9.out).1
            go_wp2_with fail
            refine bodyPost_ret (v := .tuple #[.agg #[.int .i64 0, .int .i64 0, .int .i64 0, .int .i64 0, .int .i64 0, .int .i64 0], .bool false]) (by simp [results, Tryz.results65, go_sem, u0, u1, u2, u3, u4, u5]) rfl ⟨.inl ⟨hno.out, rfl⟩, ?_⟩
            exact (((((hB9.out.setCell (p := ⟨w.heap.size, 0, none⟩) (Nat.le_refl _) _).setCell (p := ⟨w.heap.size, 1, none⟩) (Nat.le_refl _) _).setCell (p := ⟨w.heap.size, 2, none⟩) (Nat.le_refl _) _).setCell (p := ⟨w.heap.size, 3, none⟩) (Nat.le_refl _) _).setCell (p := ⟨w.heap.size, 4, none⟩) (Nat.le_refl _) _).setCell (p := ⟨w.heap.size, 5, none⟩) (Nat.le_refl _) _
          | true =>
            have hyes : Hid (fitB L t = some (px, py)) := by
              show fitB L t = some (px, py)
              rw [hf1.out, if_pos (by simp)]
            obtain ⟨⟨u0, u1, u2, u3, u4, u5⟩, uf⟩ := zero_cells hQ9.out
            have ul := (Array.getElem?_eq_some_iff.1 hQ9.out).1
            obtain ⟨y0', y1', y2', y3', y4', y5'⟩ := hY9.out.cells
            have hYl := hY9.out.lt
            simp only at y0' y1' y2' y3' y4' y5'
            go_wp2_with fail
            refine bodyPost_ret (v := .tuple #[.agg #[.int .i64 x0, .int .i64 y0, .int .i64 px, .int .i64 py, .int .i64 x2, .int .i64 y2], .bool true]) (by simp [results, Tryz.results65, go_sem, u0, u1, u2, u3, u4, u5]) rfl ⟨.inr ⟨px, py, hyes.out, ?_⟩, ?_⟩
            · rw [hq0.out.1, hq0.out.2, hq2.out.1, hq2.out.2]
            · exact (((((hB9.out.setCell (p := ⟨w.heap.size, 0, none⟩) (Nat.le_refl _) _).setCell (p := ⟨w.heap.size, 1, none⟩) (Nat.le_refl _) _).setCell (p := ⟨w.heap.size, 2, none⟩) (Nat.le_refl _) _).setCell (p := ⟨w.heap.size, 3, none⟩) (Nat.le_refl _) _).setCell (p := ⟨w.heap.size, 4, none⟩) (Nat.le_refl _) _).setCell (p := ⟨w.heap.size, 5, none⟩) (Nat.le_refl _) _

end Go.Proofs.YtgelkdcggnffeaaGreat

