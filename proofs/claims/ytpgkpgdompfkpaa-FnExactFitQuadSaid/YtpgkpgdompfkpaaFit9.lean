/- FitQuad, both sides, and the law. Conditions: as each states. -/
import Derived.Test.YtpgkpgdompfkpaaFit8
namespace Go.Proofs.Ytpgkpgdompfkpaa
open Go.RowKit
set_option linter.unusedVariables false
set_option maxRecDepth 100000

theorem isTolerance_any (t : Int) (w : World) : Calls Try.prog 25 #[.int .i64 t] w fun e w' => e = .returned (.bool (inB t 1 262144)) ∧ w = w' := by
  by_cases h : 1 ≤ t <;> by_cases h2 : t ≤ 262144
  all_goals try (exfalso; omega)
  all_goals
    go_enter Try.func25, Try.ntmps25
    go_wp2_with fail
    go_ret
    exact ⟨ret_bool (by rw [inB]; simp; omega), rfl⟩
theorem l09Tolerance_any (t : Int) (w : World) : Calls Try.prog 21 #[.int .i64 t] w fun e w' => e = .returned (.bool (inB t 1 262144)) ∧ w = w' := by
  go_enter Try.func21, Try.ntmps21
  go_wp2_with (go_at_call 39; refine (l00In_any _ _ _ _).mono ?_; rintro e w' ⟨rfl, rfl⟩)
  go_ret
  exact ⟨rfl, rfl⟩
def fqT (L : List (Int × Int)) (t : Int) : (Int × Int × Int × Int × Int × Int) × Int :=
  if (pathOk L && decide (3 ≤ L.length)) = true then
    if inB t 1 262144 = true then
      match fitB L t with
      | none => ((0, 0, 0, 0, 0, 0), 3)
      | some p => (((ptAt L 0).1, (ptAt L 0).2, p.1, p.2, (ptAt L (L.length - 1)).1, (ptAt L (L.length - 1)).2), 0)
    else ((0, 0, 0, 0, 0, 0), 2)
  else ((0, 0, 0, 0, 0, 0), 1)

set_option maxHeartbeats 4000000 in
theorem implFitQuad_any (A : Option Addr) (n c lo hi : Nat) (L : List (Int × Int)) (t a0 a1 a2 a3 a4 a5 cd : Int) (hv : fqT L t = ((a0, a1, a2, a3, a4, a5), cd)) (w : World) (hr : RdS 2 (FlatR ptC) w lo hi A n L) (hhi : hi ≤ w.heap.size) (hn : n ≤ 1048576) :
    Calls Try.prog 8 #[.slice A n c, .int .i64 t] w fun e w' => e = .returned (.tuple #[.agg #[.int .i64 a0, .int .i64 a1, .int .i64 a2, .int .i64 a3, .int .i64 a4, .int .i64 a5], .int .i64 cd]) ∧ Below w.heap.size w w' := by
  have hll := hr.1
  obtain ⟨v, hpv⟩ : ∃ v, v = pathOk L := ⟨_, rfl⟩
  have hZ := Lib.hid (show (w.alloc (.cells #[.int .i64 0, .int .i64 0, .int .i64 0, .int .i64 0, .int .i64 0, .int .i64 0] 27 (0, 0))).heap[w.heap.size]? = some (.cells #[.int .i64 0, .int .i64 0, .int .i64 0, .int .i64 0, .int .i64 0, .int .i64 0] 27 (0, 0)) from heap_alloc_new w _)
  have hB0 : Below w.heap.size w (w.alloc (.cells #[.int .i64 0, .int .i64 0, .int .i64 0, .int .i64 0, .int .i64 0, .int .i64 0] 27 (0, 0))) := Go.Joins.below_alloc1 _ _
  have hp := Lib.hid (fun (W : World) (hb : Below w.heap.size w W) => isPath_any A n c lo hi L v hpv W (hr.frame (good_flat _) (Below.sameB hb hhi)) (Nat.le_trans hhi hb.size) hn)
  have hrH := Lib.hid hr
  clear hr
  go_enter Try.func8, Try.ntmps8
  go_wp2_with fail
  generalize w.alloc (.cells #[.int .i64 0, .int .i64 0, .int .i64 0, .int .i64 0, .int .i64 0, .int .i64 0] 27 (0, 0)) = W at *
  refine (hp.out W hB0).mono ?_
  rintro e w1 ⟨rfl, hb1⟩
  replace hZ := Lib.hid ((hb1.block w.heap.size (Array.getElem?_eq_some_iff.1 hZ.out).1).trans hZ.out)
  have hB1 := hB0.trans (hb1.mono hB0.size)
  clear hb1 hB0 hp
  cases v with
  | false =>
    have h2 : fqT L t = ((0, 0, 0, 0, 0, 0), 1) := by unfold fqT; rw [← hpv]; rfl
    obtain ⟨rfl, rfl, rfl, rfl, rfl, rfl, rfl⟩ : a0 = 0 ∧ a1 = 0 ∧ a2 = 0 ∧ a3 = 0 ∧ a4 = 0 ∧ a5 = 0 ∧ cd = 1 := by rw [hv] at h2; simpa [and_assoc] using h2
    clear h2 hv hpv
    obtain ⟨⟨u0, u1, u2, u3, u4, u5⟩, uf⟩ := zero_cells hZ.out
    have ul := (Array.getElem?_eq_some_iff.1 hZ.out).1
    go_wp2_with fail
    refine bodyPost_ret (v := .tuple #[.agg #[.int .i64 0, .int .i64 0, .int .i64 0, .int .i64 0, .int .i64 0, .int .i64 0], .int .i64 1]) (by simp [results, Try.results8, go_sem, u0, u1, u2, u3, u4, u5]) rfl ⟨rfl, ?_⟩
    exact (((((hB1.setCell (p := ⟨w.heap.size, 0, none⟩) (Nat.le_refl _) _).setCell (p := ⟨w.heap.size, 1, none⟩) (Nat.le_refl _) _).setCell (p := ⟨w.heap.size, 2, none⟩) (Nat.le_refl _) _).setCell (p := ⟨w.heap.size, 3, none⟩) (Nat.le_refl _) _).setCell (p := ⟨w.heap.size, 4, none⟩) (Nat.le_refl _) _).setCell (p := ⟨w.heap.size, 5, none⟩) (Nat.le_refl _) _
  | true =>
    by_cases h3 : n < 3
    · have h2 : fqT L t = ((0, 0, 0, 0, 0, 0), 1) := by unfold fqT; rw [← hpv, hll, decide_eq_false (by omega : ¬ 3 ≤ n)]; rfl
      obtain ⟨rfl, rfl, rfl, rfl, rfl, rfl, rfl⟩ : a0 = 0 ∧ a1 = 0 ∧ a2 = 0 ∧ a3 = 0 ∧ a4 = 0 ∧ a5 = 0 ∧ cd = 1 := by rw [hv] at h2; simpa [and_assoc] using h2
      have h3i : (n : Int) < 3 := by omega
      clear h2 hv hpv hll
      obtain ⟨⟨u0, u1, u2, u3, u4, u5⟩, uf⟩ := zero_cells hZ.out
      have ul := (Array.getElem?_eq_some_iff.1 hZ.out).1
      go_wp2_with fail
      refine bodyPost_ret (v := .tuple #[.agg #[.int .i64 0, .int .i64 0, .int .i64 0, .int .i64 0, .int .i64 0, .int .i64 0], .int .i64 1]) (by simp [results, Try.results8, go_sem, u0, u1, u2, u3, u4, u5]) rfl ⟨rfl, ?_⟩
      exact (((((hB1.setCell (p := ⟨w.heap.size, 0, none⟩) (Nat.le_refl _) _).setCell (p := ⟨w.heap.size, 1, none⟩) (Nat.le_refl _) _).setCell (p := ⟨w.heap.size, 2, none⟩) (Nat.le_refl _) _).setCell (p := ⟨w.heap.size, 3, none⟩) (Nat.le_refl _) _).setCell (p := ⟨w.heap.size, 4, none⟩) (Nat.le_refl _) _).setCell (p := ⟨w.heap.size, 5, none⟩) (Nat.le_refl _) _
    · have h3i : ¬ ((n : Int) < 3) := by omega
      obtain ⟨p1, p2, p3⟩ := pathOk_is hpv.symm
      rw [hll] at p1 p2
      have hf0 : fqT L t = if inB t 1 262144 = true then (match fitB L t with | none => ((0, 0, 0, 0, 0, 0), (3 : Int)) | some p => (((ptAt L 0).1, (ptAt L 0).2, p.1, p.2, (ptAt L (L.length - 1)).1, (ptAt L (L.length - 1)).2), 0)) else ((0, 0, 0, 0, 0, 0), 2) := by unfold fqT; rw [← hpv, hll, decide_eq_true (by omega : 3 ≤ n)]; rfl
      rw [hv] at hf0
      obtain ⟨tb, htb⟩ : ∃ tb, tb = inB t 1 262144 := ⟨_, rfl⟩
      have hto := Lib.hid (fun W => isTolerance_any t W)
      rw [← htb] at hto hf0
      clear hv hpv
      cases tb with
      | false =>
        obtain ⟨rfl, rfl, rfl, rfl, rfl, rfl, rfl⟩ : a0 = 0 ∧ a1 = 0 ∧ a2 = 0 ∧ a3 = 0 ∧ a4 = 0 ∧ a5 = 0 ∧ cd = 2 := by rw [if_neg (by simp)] at hf0; simpa [and_assoc] using hf0
        clear hf0 htb hll
        go_wp2_with fail
        refine (hto.out w1).mono ?_
        rintro e w' ⟨rfl, rfl⟩
        obtain ⟨⟨u0, u1, u2, u3, u4, u5⟩, uf⟩ := zero_cells hZ.out
        have ul := (Array.getElem?_eq_some_iff.1 hZ.out).1
        go_wp2_with fail
        refine bodyPost_ret (v := .tuple #[.agg #[.int .i64 0, .int .i64 0, .int .i64 0, .int .i64 0, .int .i64 0, .int .i64 0], .int .i64 2]) (by simp [results, Try.results8, go_sem, u0, u1, u2, u3, u4, u5]) rfl ⟨rfl, ?_⟩
        exact (((((hB1.setCell (p := ⟨w.heap.size, 0, none⟩) (Nat.le_refl _) _).setCell (p := ⟨w.heap.size, 1, none⟩) (Nat.le_refl _) _).setCell (p := ⟨w.heap.size, 2, none⟩) (Nat.le_refl _) _).setCell (p := ⟨w.heap.size, 3, none⟩) (Nat.le_refl _) _).setCell (p := ⟨w.heap.size, 4, none⟩) (Nat.le_refl _) _).setCell (p := ⟨w.heap.size, 5, none⟩) (Nat.le_refl _) _
      | true =>
        obtain ⟨t1, t2⟩ := inB_iff.1 htb.symm
        rw [if_pos rfl] at hf0
        have hft := Lib.hid (fitQuad_any A n c lo hi L t w1 (hrH.out.frame (good_flat _) (Below.sameB hB1 hhi)) (Nat.le_trans hhi hB1.size) (by omega) (by omega) p3 (by omega) t2)
        replace hf0 := Lib.hid hf0
        replace hll := Lib.hid hll
        replace htb := Lib.hid htb
        clear p3
        go_wp2_with fail
        refine (hto.out w1).mono ?_
        rintro e w' ⟨rfl, rfl⟩
        go_wp2_with fail
        refine hft.out.mono ?_
        rintro e w2 ⟨⟨hfn, rfl⟩ | ⟨px, py, hfs, rfl⟩, hb2⟩
        · obtain ⟨rfl, rfl, rfl, rfl, rfl, rfl, rfl⟩ : a0 = 0 ∧ a1 = 0 ∧ a2 = 0 ∧ a3 = 0 ∧ a4 = 0 ∧ a5 = 0 ∧ cd = 3 := by have h := hf0.out; rw [hfn] at h; simpa [and_assoc] using h
          have hB2 := (hB1.trans (hb2.mono hB1.size)).alloc (hB1.trans (hb2.mono hB1.size)).size (.cells #[.int .i64 0, .int .i64 0, .int .i64 0, .int .i64 0, .int .i64 0, .int .i64 0] 27 (0, 0))
          replace hZ := Lib.hid (((hb2.alloc (Nat.le_trans (Nat.le_refl _) hb2.size) (.cells #[.int .i64 0, .int .i64 0, .int .i64 0, .int .i64 0, .int .i64 0, .int .i64 0] 27 (0, 0))).block w.heap.size (Array.getElem?_eq_some_iff.1 hZ.out).1).trans hZ.out)
          clear hfn hb2
          go_upto_region 6 with fail
          generalize w2.alloc (.cells #[.int .i64 0, .int .i64 0, .int .i64 0, .int .i64 0, .int .i64 0, .int .i64 0] 27 (0, 0)) = w3 at *
          obtain ⟨⟨u0, u1, u2, u3, u4, u5⟩, uf⟩ := zero_cells hZ.out
          have ul := (Array.getElem?_eq_some_iff.1 hZ.out).1
          go_wp2_with fail
          refine bodyPost_ret (v := .tuple #[.agg #[.int .i64 0, .int .i64 0, .int .i64 0, .int .i64 0, .int .i64 0, .int .i64 0], .int .i64 3]) (by simp [results, Try.results8, go_sem, u0, u1, u2, u3, u4, u5]) rfl ⟨rfl, ?_⟩
          exact (((((hB2.setCell (p := ⟨w.heap.size, 0, none⟩) (Nat.le_refl _) _).setCell (p := ⟨w.heap.size, 1, none⟩) (Nat.le_refl _) _).setCell (p := ⟨w.heap.size, 2, none⟩) (Nat.le_refl _) _).setCell (p := ⟨w.heap.size, 3, none⟩) (Nat.le_refl _) _).setCell (p := ⟨w.heap.size, 4, none⟩) (Nat.le_refl _) _).setCell (p := ⟨w.heap.size, 5, none⟩) (Nat.le_refl _) _
        · have h := hf0.out
          rw [hfs] at h
          obtain ⟨h0, h1, h2, h3, h4, h5, h6⟩ : a0 = (ptAt L 0).1 ∧ a1 = (ptAt L 0).2 ∧ a2 = px ∧ a3 = py ∧ a4 = (ptAt L (L.length - 1)).1 ∧ a5 = (ptAt L (L.length - 1)).2 ∧ cd = 0 := by simpa [and_assoc] using h
          subst h6
          rw [← h0, ← h1, ← h2, ← h3, ← h4, ← h5]
          clear h h0 h1 h2 h3 h4 h5 hfs
          have hB2 := (hB1.trans (hb2.mono hB1.size)).alloc (hB1.trans (hb2.mono hB1.size)).size (.cells #[.int .i64 a0, .int .i64 a1, .int .i64 a2, .int .i64 a3, .int .i64 a4, .int .i64 a5] 27 (0, 0))
          replace hZ := Lib.hid (((hb2.alloc hb2.size (.cells #[.int .i64 a0, .int .i64 a1, .int .i64 a2, .int .i64 a3, .int .i64 a4, .int .i64 a5] 27 (0, 0))).block w.heap.size (Array.getElem?_eq_some_iff.1 hZ.out).1).trans hZ.out)
          have hY : QB (w2.alloc (.cells #[.int .i64 a0, .int .i64 a1, .int .i64 a2, .int .i64 a3, .int .i64 a4, .int .i64 a5] 27 (0, 0))) w2.heap.size ⟨a0, a1, a2, a3, a4, a5⟩ := heap_alloc_new w2 _
          have hz2 := (hB1.trans (hb2.mono hB1.size)).size
          clear hb2
          go_upto_region 6 with fail
          generalize w2.alloc (.cells #[.int .i64 a0, .int .i64 a1, .int .i64 a2, .int .i64 a3, .int .i64 a4, .int .i64 a5] 27 (0, 0)) = w3 at *
          obtain ⟨⟨u0, u1, u2, u3, u4, u5⟩, uf⟩ := zero_cells hZ.out
          have ul := (Array.getElem?_eq_some_iff.1 hZ.out).1
          obtain ⟨y0', y1', y2', y3', y4', y5'⟩ := hY.cells
          have hYl := hY.lt
          simp only at y0' y1' y2' y3' y4' y5'
          go_wp2_with fail
          refine bodyPost_ret (v := .tuple #[.agg #[.int .i64 a0, .int .i64 a1, .int .i64 a2, .int .i64 a3, .int .i64 a4, .int .i64 a5], .int .i64 0]) (by simp [results, Try.results8, go_sem, u0, u1, u2, u3, u4, u5]) rfl ⟨rfl, ?_⟩
          exact (((((hB2.setCell (p := ⟨w.heap.size, 0, none⟩) (Nat.le_refl _) _).setCell (p := ⟨w.heap.size, 1, none⟩) (Nat.le_refl _) _).setCell (p := ⟨w.heap.size, 2, none⟩) (Nat.le_refl _) _).setCell (p := ⟨w.heap.size, 3, none⟩) (Nat.le_refl _) _).setCell (p := ⟨w.heap.size, 4, none⟩) (Nat.le_refl _) _).setCell (p := ⟨w.heap.size, 5, none⟩) (Nat.le_refl _) _

set_option maxHeartbeats 4000000 in
theorem specFitQuad_any (A : Option Addr) (n c lo hi : Nat) (L : List (Int × Int)) (t a0 a1 a2 a3 a4 a5 cd : Int) (hv : fqT L t = ((a0, a1, a2, a3, a4, a5), cd)) (w : World) (hr : RdS 2 (FlatR ptC) w lo hi A n L) (hhi : hi ≤ w.heap.size) (hn : n ≤ 1048576) :
    Calls Try.prog 6 #[.slice A n c, .int .i64 t] w fun e w' => e = .returned (.tuple #[.agg #[.int .i64 a0, .int .i64 a1, .int .i64 a2, .int .i64 a3, .int .i64 a4, .int .i64 a5], .int .i64 cd]) ∧ Below w.heap.size w w' := by
  have hll := hr.1
  obtain ⟨v, hpv⟩ : ∃ v, v = pathOk L := ⟨_, rfl⟩
  have hZ := Lib.hid (show (w.alloc (.cells #[.int .i64 0, .int .i64 0, .int .i64 0, .int .i64 0, .int .i64 0, .int .i64 0] 27 (0, 0))).heap[w.heap.size]? = some (.cells #[.int .i64 0, .int .i64 0, .int .i64 0, .int .i64 0, .int .i64 0, .int .i64 0] 27 (0, 0)) from heap_alloc_new w _)
  have hB0 : Below w.heap.size w (w.alloc (.cells #[.int .i64 0, .int .i64 0, .int .i64 0, .int .i64 0, .int .i64 0, .int .i64 0] 27 (0, 0))) := Go.Joins.below_alloc1 _ _
  have hp := Lib.hid (fun (W : World) (hb : Below w.heap.size w W) => l12Path_any A n c lo hi L v hpv W (hr.frame (good_flat _) (Below.sameB hb hhi)) (Nat.le_trans hhi hb.size) hn)
  have hrH := Lib.hid hr
  clear hr
  go_enter Try.func6, Try.ntmps6
  go_wp2_with fail
  generalize w.alloc (.cells #[.int .i64 0, .int .i64 0, .int .i64 0, .int .i64 0, .int .i64 0, .int .i64 0] 27 (0, 0)) = W at *
  refine (hp.out W hB0).mono ?_
  rintro e w1 ⟨rfl, hb1⟩
  replace hZ := Lib.hid ((hb1.block w.heap.size (Array.getElem?_eq_some_iff.1 hZ.out).1).trans hZ.out)
  have hB1 := hB0.trans (hb1.mono hB0.size)
  clear hb1 hB0 hp
  cases v with
  | false =>
    have h2 : fqT L t = ((0, 0, 0, 0, 0, 0), 1) := by unfold fqT; rw [← hpv]; rfl
    obtain ⟨rfl, rfl, rfl, rfl, rfl, rfl, rfl⟩ : a0 = 0 ∧ a1 = 0 ∧ a2 = 0 ∧ a3 = 0 ∧ a4 = 0 ∧ a5 = 0 ∧ cd = 1 := by rw [hv] at h2; simpa [and_assoc] using h2
    clear h2 hv hpv
    obtain ⟨⟨u0, u1, u2, u3, u4, u5⟩, uf⟩ := zero_cells hZ.out
    have ul := (Array.getElem?_eq_some_iff.1 hZ.out).1
    go_wp2_with fail
    refine bodyPost_ret (v := .tuple #[.agg #[.int .i64 0, .int .i64 0, .int .i64 0, .int .i64 0, .int .i64 0, .int .i64 0], .int .i64 1]) (by simp [results, Try.results6, go_sem, u0, u1, u2, u3, u4, u5]) rfl ⟨rfl, ?_⟩
    exact (((((hB1.setCell (p := ⟨w.heap.size, 0, none⟩) (Nat.le_refl _) _).setCell (p := ⟨w.heap.size, 1, none⟩) (Nat.le_refl _) _).setCell (p := ⟨w.heap.size, 2, none⟩) (Nat.le_refl _) _).setCell (p := ⟨w.heap.size, 3, none⟩) (Nat.le_refl _) _).setCell (p := ⟨w.heap.size, 4, none⟩) (Nat.le_refl _) _).setCell (p := ⟨w.heap.size, 5, none⟩) (Nat.le_refl _) _
  | true =>
    by_cases h3 : n < 3
    · have h2 : fqT L t = ((0, 0, 0, 0, 0, 0), 1) := by unfold fqT; rw [← hpv, hll, decide_eq_false (by omega : ¬ 3 ≤ n)]; rfl
      obtain ⟨rfl, rfl, rfl, rfl, rfl, rfl, rfl⟩ : a0 = 0 ∧ a1 = 0 ∧ a2 = 0 ∧ a3 = 0 ∧ a4 = 0 ∧ a5 = 0 ∧ cd = 1 := by rw [hv] at h2; simpa [and_assoc] using h2
      have h3i : (n : Int) < 3 := by omega
      clear h2 hv hpv hll
      obtain ⟨⟨u0, u1, u2, u3, u4, u5⟩, uf⟩ := zero_cells hZ.out
      have ul := (Array.getElem?_eq_some_iff.1 hZ.out).1
      go_wp2_with fail
      refine bodyPost_ret (v := .tuple #[.agg #[.int .i64 0, .int .i64 0, .int .i64 0, .int .i64 0, .int .i64 0, .int .i64 0], .int .i64 1]) (by simp [results, Try.results6, go_sem, u0, u1, u2, u3, u4, u5]) rfl ⟨rfl, ?_⟩
      exact (((((hB1.setCell (p := ⟨w.heap.size, 0, none⟩) (Nat.le_refl _) _).setCell (p := ⟨w.heap.size, 1, none⟩) (Nat.le_refl _) _).setCell (p := ⟨w.heap.size, 2, none⟩) (Nat.le_refl _) _).setCell (p := ⟨w.heap.size, 3, none⟩) (Nat.le_refl _) _).setCell (p := ⟨w.heap.size, 4, none⟩) (Nat.le_refl _) _).setCell (p := ⟨w.heap.size, 5, none⟩) (Nat.le_refl _) _
    · have h3i : ¬ ((n : Int) < 3) := by omega
      obtain ⟨p1, p2, p3⟩ := pathOk_is hpv.symm
      rw [hll] at p1 p2
      have hf0 : fqT L t = if inB t 1 262144 = true then (match fitB L t with | none => ((0, 0, 0, 0, 0, 0), (3 : Int)) | some p => (((ptAt L 0).1, (ptAt L 0).2, p.1, p.2, (ptAt L (L.length - 1)).1, (ptAt L (L.length - 1)).2), 0)) else ((0, 0, 0, 0, 0, 0), 2) := by unfold fqT; rw [← hpv, hll, decide_eq_true (by omega : 3 ≤ n)]; rfl
      rw [hv] at hf0
      obtain ⟨tb, htb⟩ : ∃ tb, tb = inB t 1 262144 := ⟨_, rfl⟩
      have hto := Lib.hid (fun W => l09Tolerance_any t W)
      rw [← htb] at hto hf0
      clear hv hpv
      cases tb with
      | false =>
        obtain ⟨rfl, rfl, rfl, rfl, rfl, rfl, rfl⟩ : a0 = 0 ∧ a1 = 0 ∧ a2 = 0 ∧ a3 = 0 ∧ a4 = 0 ∧ a5 = 0 ∧ cd = 2 := by rw [if_neg (by simp)] at hf0; simpa [and_assoc] using hf0
        clear hf0 htb hll
        go_wp2_with fail
        refine (hto.out w1).mono ?_
        rintro e w' ⟨rfl, rfl⟩
        obtain ⟨⟨u0, u1, u2, u3, u4, u5⟩, uf⟩ := zero_cells hZ.out
        have ul := (Array.getElem?_eq_some_iff.1 hZ.out).1
        go_wp2_with fail
        refine bodyPost_ret (v := .tuple #[.agg #[.int .i64 0, .int .i64 0, .int .i64 0, .int .i64 0, .int .i64 0, .int .i64 0], .int .i64 2]) (by simp [results, Try.results6, go_sem, u0, u1, u2, u3, u4, u5]) rfl ⟨rfl, ?_⟩
        exact (((((hB1.setCell (p := ⟨w.heap.size, 0, none⟩) (Nat.le_refl _) _).setCell (p := ⟨w.heap.size, 1, none⟩) (Nat.le_refl _) _).setCell (p := ⟨w.heap.size, 2, none⟩) (Nat.le_refl _) _).setCell (p := ⟨w.heap.size, 3, none⟩) (Nat.le_refl _) _).setCell (p := ⟨w.heap.size, 4, none⟩) (Nat.le_refl _) _).setCell (p := ⟨w.heap.size, 5, none⟩) (Nat.le_refl _) _
      | true =>
        obtain ⟨t1, t2⟩ := inB_iff.1 htb.symm
        rw [if_pos rfl] at hf0
        have hft := Lib.hid (l16Fit_any A n c lo hi L t w1 (hrH.out.frame (good_flat _) (Below.sameB hB1 hhi)) (Nat.le_trans hhi hB1.size) (by omega) (by omega) p3 (by omega) t2)
        replace hf0 := Lib.hid hf0
        replace hll := Lib.hid hll
        replace htb := Lib.hid htb
        clear p3
        go_wp2_with fail
        refine (hto.out w1).mono ?_
        rintro e w' ⟨rfl, rfl⟩
        go_wp2_with fail
        refine hft.out.mono ?_
        rintro e w2 ⟨⟨hfn, rfl⟩ | ⟨px, py, hfs, rfl⟩, hb2⟩
        · obtain ⟨rfl, rfl, rfl, rfl, rfl, rfl, rfl⟩ : a0 = 0 ∧ a1 = 0 ∧ a2 = 0 ∧ a3 = 0 ∧ a4 = 0 ∧ a5 = 0 ∧ cd = 3 := by have h := hf0.out; rw [hfn] at h; simpa [and_assoc] using h
          have hB2 := (hB1.trans (hb2.mono hB1.size)).alloc (hB1.trans (hb2.mono hB1.size)).size (.cells #[.int .i64 0, .int .i64 0, .int .i64 0, .int .i64 0, .int .i64 0, .int .i64 0] 27 (0, 0))
          replace hZ := Lib.hid (((hb2.alloc (Nat.le_trans (Nat.le_refl _) hb2.size) (.cells #[.int .i64 0, .int .i64 0, .int .i64 0, .int .i64 0, .int .i64 0, .int .i64 0] 27 (0, 0))).block w.heap.size (Array.getElem?_eq_some_iff.1 hZ.out).1).trans hZ.out)
          clear hfn hb2
          go_upto_region 6 with fail
          generalize w2.alloc (.cells #[.int .i64 0, .int .i64 0, .int .i64 0, .int .i64 0, .int .i64 0, .int .i64 0] 27 (0, 0)) = w3 at *
          obtain ⟨⟨u0, u1, u2, u3, u4, u5⟩, uf⟩ := zero_cells hZ.out
          have ul := (Array.getElem?_eq_some_iff.1 hZ.out).1
          go_wp2_with fail
          refine bodyPost_ret (v := .tuple #[.agg #[.int .i64 0, .int .i64 0, .int .i64 0, .int .i64 0, .int .i64 0, .int .i64 0], .int .i64 3]) (by simp [results, Try.results6, go_sem, u0, u1, u2, u3, u4, u5]) rfl ⟨rfl, ?_⟩
          exact (((((hB2.setCell (p := ⟨w.heap.size, 0, none⟩) (Nat.le_refl _) _).setCell (p := ⟨w.heap.size, 1, none⟩) (Nat.le_refl _) _).setCell (p := ⟨w.heap.size, 2, none⟩) (Nat.le_refl _) _).setCell (p := ⟨w.heap.size, 3, none⟩) (Nat.le_refl _) _).setCell (p := ⟨w.heap.size, 4, none⟩) (Nat.le_refl _) _).setCell (p := ⟨w.heap.size, 5, none⟩) (Nat.le_refl _) _
        · have h := hf0.out
          rw [hfs] at h
          obtain ⟨h0, h1, h2, h3, h4, h5, h6⟩ : a0 = (ptAt L 0).1 ∧ a1 = (ptAt L 0).2 ∧ a2 = px ∧ a3 = py ∧ a4 = (ptAt L (L.length - 1)).1 ∧ a5 = (ptAt L (L.length - 1)).2 ∧ cd = 0 := by simpa [and_assoc] using h
          subst h6
          rw [← h0, ← h1, ← h2, ← h3, ← h4, ← h5]
          clear h h0 h1 h2 h3 h4 h5 hfs
          have hB2 := (hB1.trans (hb2.mono hB1.size)).alloc (hB1.trans (hb2.mono hB1.size)).size (.cells #[.int .i64 a0, .int .i64 a1, .int .i64 a2, .int .i64 a3, .int .i64 a4, .int .i64 a5] 27 (0, 0))
          replace hZ := Lib.hid (((hb2.alloc hb2.size (.cells #[.int .i64 a0, .int .i64 a1, .int .i64 a2, .int .i64 a3, .int .i64 a4, .int .i64 a5] 27 (0, 0))).block w.heap.size (Array.getElem?_eq_some_iff.1 hZ.out).1).trans hZ.out)
          have hY : QB (w2.alloc (.cells #[.int .i64 a0, .int .i64 a1, .int .i64 a2, .int .i64 a3, .int .i64 a4, .int .i64 a5] 27 (0, 0))) w2.heap.size ⟨a0, a1, a2, a3, a4, a5⟩ := heap_alloc_new w2 _
          have hz2 := (hB1.trans (hb2.mono hB1.size)).size
          clear hb2
          go_upto_region 6 with fail
          generalize w2.alloc (.cells #[.int .i64 a0, .int .i64 a1, .int .i64 a2, .int .i64 a3, .int .i64 a4, .int .i64 a5] 27 (0, 0)) = w3 at *
          obtain ⟨⟨u0, u1, u2, u3, u4, u5⟩, uf⟩ := zero_cells hZ.out
          have ul := (Array.getElem?_eq_some_iff.1 hZ.out).1
          obtain ⟨y0', y1', y2', y3', y4', y5'⟩ := hY.cells
          have hYl := hY.lt
          simp only at y0' y1' y2' y3' y4' y5'
          go_wp2_with fail
          refine bodyPost_ret (v := .tuple #[.agg #[.int .i64 a0, .int .i64 a1, .int .i64 a2, .int .i64 a3, .int .i64 a4, .int .i64 a5], .int .i64 0]) (by simp [results, Try.results6, go_sem, u0, u1, u2, u3, u4, u5]) rfl ⟨rfl, ?_⟩
          exact (((((hB2.setCell (p := ⟨w.heap.size, 0, none⟩) (Nat.le_refl _) _).setCell (p := ⟨w.heap.size, 1, none⟩) (Nat.le_refl _) _).setCell (p := ⟨w.heap.size, 2, none⟩) (Nat.le_refl _) _).setCell (p := ⟨w.heap.size, 3, none⟩) (Nat.le_refl _) _).setCell (p := ⟨w.heap.size, 4, none⟩) (Nat.le_refl _) _).setCell (p := ⟨w.heap.size, 5, none⟩) (Nat.le_refl _) _

theorem eqQuad_any (a0 a1 a2 a3 a4 a5 : Int) (w : World) :
    Calls Try.prog 9 #[.agg #[.int .i64 a0, .int .i64 a1, .int .i64 a2, .int .i64 a3, .int .i64 a4, .int .i64 a5], .agg #[.int .i64 a0, .int .i64 a1, .int .i64 a2, .int .i64 a3, .int .i64 a4, .int .i64 a5]] w fun e w' => e = .returned (.bool true) ∧ Below w.heap.size w w' := by
  have hn := heap_new2 w (.cells #[.int .i64 a0, .int .i64 a1, .int .i64 a2, .int .i64 a3, .int .i64 a4, .int .i64 a5] 27 (0, 0)) (.cells #[.int .i64 a0, .int .i64 a1, .int .i64 a2, .int .i64 a3, .int .i64 a4, .int .i64 a5] 27 (0, 0))
  have hB0 : Below w.heap.size w ((w.alloc (.cells #[.int .i64 a0, .int .i64 a1, .int .i64 a2, .int .i64 a3, .int .i64 a4, .int .i64 a5] 27 (0, 0))).alloc (.cells #[.int .i64 a0, .int .i64 a1, .int .i64 a2, .int .i64 a3, .int .i64 a4, .int .i64 a5] 27 (0, 0))) := Go.Joins.below_alloc2 _ _ _
  have p0 : QB ((w.alloc (.cells #[.int .i64 a0, .int .i64 a1, .int .i64 a2, .int .i64 a3, .int .i64 a4, .int .i64 a5] 27 (0, 0))).alloc (.cells #[.int .i64 a0, .int .i64 a1, .int .i64 a2, .int .i64 a3, .int .i64 a4, .int .i64 a5] 27 (0, 0))) w.heap.size ⟨a0, a1, a2, a3, a4, a5⟩ := hn.1
  have p1 : QB ((w.alloc (.cells #[.int .i64 a0, .int .i64 a1, .int .i64 a2, .int .i64 a3, .int .i64 a4, .int .i64 a5] 27 (0, 0))).alloc (.cells #[.int .i64 a0, .int .i64 a1, .int .i64 a2, .int .i64 a3, .int .i64 a4, .int .i64 a5] 27 (0, 0))) (w.heap.size + 1) ⟨a0, a1, a2, a3, a4, a5⟩ := hn.2
  clear hn
  go_enter Try.func9, Try.ntmps9
  go_upto_region 1 with fail
  generalize ((w.alloc (.cells #[.int .i64 a0, .int .i64 a1, .int .i64 a2, .int .i64 a3, .int .i64 a4, .int .i64 a5] 27 (0, 0))).alloc (.cells #[.int .i64 a0, .int .i64 a1, .int .i64 a2, .int .i64 a3, .int .i64 a4, .int .i64 a5] 27 (0, 0))) = W at *
  obtain ⟨k0, k1, k2, k3, k4, k5⟩ := p0.cells
  obtain ⟨m0, m1, m2, m3, m4, m5⟩ := p1.cells
  have l0 := p0.lt
  have l1 := p1.lt
  simp only at k0 k1 k2 k3 k4 k5 m0 m1 m2 m3 m4 m5
  go_wp2_with fail
  refine (eqPt_any a0 a1 _).mono ?_
  rintro e W1 ⟨rfl, hb0⟩
  replace p0 := p0.below hb0
  replace p1 := p1.below hb0
  replace hB0 := hB0.trans (hb0.mono hB0.size)
  clear k0 k1 k2 k3 k4 k5 m0 m1 m2 m3 m4 m5 l0 l1 hb0
  obtain ⟨k0, k1, k2, k3, k4, k5⟩ := p0.cells
  obtain ⟨m0, m1, m2, m3, m4, m5⟩ := p1.cells
  have l0 := p0.lt
  have l1 := p1.lt
  simp only at k0 k1 k2 k3 k4 k5 m0 m1 m2 m3 m4 m5
  go_wp2_with fail
  refine (eqPt_any a2 a3 _).mono ?_
  rintro e W2 ⟨rfl, hb1⟩
  replace p0 := p0.below hb1
  replace p1 := p1.below hb1
  replace hB0 := hB0.trans (hb1.mono hB0.size)
  clear k0 k1 k2 k3 k4 k5 m0 m1 m2 m3 m4 m5 l0 l1 hb1
  obtain ⟨k0, k1, k2, k3, k4, k5⟩ := p0.cells
  obtain ⟨m0, m1, m2, m3, m4, m5⟩ := p1.cells
  have l0 := p0.lt
  have l1 := p1.lt
  simp only at k0 k1 k2 k3 k4 k5 m0 m1 m2 m3 m4 m5
  go_wp2_with fail
  refine (eqPt_any a4 a5 _).mono ?_
  rintro e W3 ⟨rfl, hb2⟩
  replace p0 := p0.below hb2
  replace p1 := p1.below hb2
  replace hB0 := hB0.trans (hb2.mono hB0.size)
  clear k0 k1 k2 k3 k4 k5 m0 m1 m2 m3 m4 m5 l0 l1 hb2
  go_wp2_with fail
  go_ret
  exact ⟨rfl, hB0⟩

set_option maxHeartbeats 4000000 in
theorem lawFitQuad_walk (A : Option Addr) (n c : Nat) (L : List (Int × Int)) (t : Int) {w : World} (hr : RdS 2 (FlatR ptC) w 0 w.heap.size A n L) (hm : n ≤ maxLen) (_ : (Lit.int .i64 t).wf = true) :
    Calls Try.prog 3 #[.slice A n c, .int .i64 t] w fun e w' => e = .returned (.bool true) ∧ Below w.heap.size w w' := by
  obtain ⟨⟨⟨a0, a1, a2, a3, a4, a5⟩, cd⟩, hv⟩ : ∃ v, fqT L t = v := ⟨_, rfl⟩
  have hspec := Lib.hid (fun A' n' c' lo hi W h h1 h2 => specFitQuad_any A' n' c' lo hi L t a0 a1 a2 a3 a4 a5 cd hv W h h1 h2)
  have himpl := Lib.hid (fun A' n' c' lo hi W h h1 h2 => implFitQuad_any A' n' c' lo hi L t a0 a1 a2 a3 a4 a5 cd hv W h h1 h2)
  clear hv
  have hll := Lib.hid hr.1
  unfold maxLen at hm
  replace hr := Lib.hid hr
  obtain ⟨r1, hr1⟩ : ∃ x : Int, x = if (n : Int) ≤ 1048576 then 1048576 - (n : Int) else -1 := ⟨_, rfl⟩
  by_cases hn : (n : Int) ≤ 1048576
  rotate_left
  · rw [if_neg hn] at hr1
    subst hr1
    go_enter Try.func3, Try.ntmps3
    go_wp2_with fail
    refine (szPtS_any A n c 1048576 _ hm (by omega) (by omega) (-1) (by rw [if_neg (by omega)])).mono ?_
    rintro e w' ⟨rfl, rfl⟩
    go_wp2_with fail
    go_ret
    exact ⟨rfl, Below.refl _ _⟩
  rw [if_pos hn] at hr1
  have hr0 : 0 ≤ r1 := by omega
  have hn' : n ≤ 1048576 := by omega
  have hsz := Lib.hid (fun W => szPtS_any A n c 1048576 W hm (by omega) (by omega) r1 (by rw [if_pos hn]; exact hr1))
  clear hr1
  go_enter Try.func3, Try.ntmps3
  go_wp2_with fail
  refine (hsz.out _).mono ?_
  rintro e w' ⟨rfl, rfl⟩
  go_wp2_with fail
  refine (toPtS_any A n c 0 w.heap.size L w hr.out (Nat.le_refl _) hn').mono ?_
  rintro e w2 ⟨g2, rfl, hg2, ho2, hb2⟩
  have rd2 := Lib.hid (rdS_own ptC_len (by omega) ho2 hll.out)
  have hz2 := hb2.size
  clear ho2 hg2
  go_wp2_with fail
  refine (hspec.out _ _ _ _ _ _ rd2.out (Nat.le_refl _) hn').mono ?_
  rintro e w3 ⟨rfl, hb3⟩
  have hB3 := hb2.trans (hb3.mono hz2)
  clear hb2 hb3 rd2
  have hB4 := hB3.alloc hB3.size (.cells #[.int .i64 a0, .int .i64 a1, .int .i64 a2, .int .i64 a3, .int .i64 a4, .int .i64 a5] 27 (0, 0))
  have hY4 : QB (w3.alloc (.cells #[.int .i64 a0, .int .i64 a1, .int .i64 a2, .int .i64 a3, .int .i64 a4, .int .i64 a5] 27 (0, 0))) w3.heap.size ⟨a0, a1, a2, a3, a4, a5⟩ := heap_alloc_new w3 _
  obtain ⟨Y, hYe⟩ : ∃ Y, Y = w3.heap.size := ⟨_, rfl⟩
  go_upto_region 6 with fail
  rw [← hYe] at hY4 ⊢
  have hYw : w.heap.size ≤ Y := by rw [hYe]; exact hB3.size
  clear hYe hB3
  generalize w3.alloc (.cells #[.int .i64 a0, .int .i64 a1, .int .i64 a2, .int .i64 a3, .int .i64 a4, .int .i64 a5] 27 (0, 0)) = w4 at *
  replace hY4 := Lib.hid hY4
  go_wp2_with fail
  refine (toPtS_any A n c 0 w.heap.size L w4 (hr.out.frame (good_flat _) (Below.sameB hB4 (Nat.le_refl _))) hB4.size hn').mono ?_
  rintro e w5 ⟨g5, rfl, hg5, ho5, hb5⟩
  have hB5 := hB4.trans (hb5.mono hB4.size)
  have rd5 := Lib.hid (rdS_own ptC_len (by omega) ho5 hll.out)
  have hY5 := Lib.hid (hY4.out.below hb5)
  have hz5 := hb5.size
  clear ho5 hg5 hb5 hY4
  go_wp2_with fail
  refine (himpl.out _ _ _ _ _ _ rd5.out (Nat.le_refl _) hn').mono ?_
  rintro e w6 ⟨rfl, hb6⟩
  have hB6 := hB5.trans (hb6.mono hB5.size)
  replace rd5 := Lib.hid (rd5.out.frame (good_flat _) (Below.sameB hb6 (Nat.le_refl _)))
  have hY6 := hY5.out.below hb6
  have hz6 := hb6.size
  clear hb6 hY5
  have hB7 := hB6.alloc hB6.size (.cells #[.int .i64 a0, .int .i64 a1, .int .i64 a2, .int .i64 a3, .int .i64 a4, .int .i64 a5] 27 (0, 0))
  have hG7 : QB (w6.alloc (.cells #[.int .i64 a0, .int .i64 a1, .int .i64 a2, .int .i64 a3, .int .i64 a4, .int .i64 a5] 27 (0, 0))) w6.heap.size ⟨a0, a1, a2, a3, a4, a5⟩ := heap_alloc_new w6 _
  have hY7 : QB (w6.alloc (.cells #[.int .i64 a0, .int .i64 a1, .int .i64 a2, .int .i64 a3, .int .i64 a4, .int .i64 a5] 27 (0, 0))) Y ⟨a0, a1, a2, a3, a4, a5⟩ := hY6.below (Go.Joins.below_alloc1 _ _)
  replace rd5 := Lib.hid (rd5.out.frame (good_flat _) (Below.sameB (Go.Joins.below_alloc1 w6 (.cells #[.int .i64 a0, .int .i64 a1, .int .i64 a2, .int .i64 a3, .int .i64 a4, .int .i64 a5] 27 (0, 0))) hz6))
  have hz7 : w6.heap.size ≤ (w6.alloc (.cells #[.int .i64 a0, .int .i64 a1, .int .i64 a2, .int .i64 a3, .int .i64 a4, .int .i64 a5] 27 (0, 0))).heap.size := (Go.Joins.below_alloc1 w6 (.cells #[.int .i64 a0, .int .i64 a1, .int .i64 a2, .int .i64 a3, .int .i64 a4, .int .i64 a5] 27 (0, 0))).size
  obtain ⟨G, hGe⟩ : ∃ G, G = w6.heap.size := ⟨_, rfl⟩
  go_upto_region 8 with fail
  rw [← hGe] at hG7 ⊢
  clear hGe hY6
  generalize w6.alloc (.cells #[.int .i64 a0, .int .i64 a1, .int .i64 a2, .int .i64 a3, .int .i64 a4, .int .i64 a5] 27 (0, 0)) = w7 at *
  have hg0 := hG7.cells
  have hy0 := hY7.cells
  have hgl := hG7.lt
  have hyl := hY7.lt
  obtain ⟨g0, g1, g2', g3, g4, g5⟩ := hg0
  obtain ⟨y0, y1, y2, y3, y4, y5⟩ := hy0
  simp only at g0 g1 g2' g3 g4 g5 y0 y1 y2 y3 y4 y5
  have hcd : (cd != cd) = false := by simp
  clear hG7 hY7
  go_wp2_with fail
  refine (eqQuad_any a0 a1 a2 a3 a4 a5 _).mono ?_
  rintro e w8 ⟨rfl, hb8⟩
  have hB8 := hB7.trans (hb8.mono hB7.size)
  replace rd5 := Lib.hid (rd5.out.frame (good_flat _) (Below.sameB hb8 (by omega)))
  have hz8 := hb8.size
  clear hb8 g0 g1 g2' g3 g4 g5 y0 y1 y2 y3 y4 y5
  go_wp2_with fail
  refine (toPtS_any A n c 0 w.heap.size L w8 (hr.out.frame (good_flat _) (Below.sameB hB8 (Nat.le_refl _))) hB8.size hn').mono ?_
  rintro e w9 ⟨g9, rfl, hg9, ho9, hb9⟩
  have hB9 := hB8.trans (hb9.mono hB8.size)
  have rd9 := Lib.hid (rdS_own ptC_len (by omega) ho9 hll.out)
  replace rd5 := Lib.hid (rd5.out.frame (good_flat _) (Below.sameB hb9 (by omega)))
  have hz9 := hb9.size
  clear ho9 hg9 hb9
  go_wp2_with fail
  refine (eqPtS_any _ _ _ _ _ _ _ _ _ _ L _ rd5.out rd9.out (by omega) (Nat.le_refl _) (by omega)).mono ?_
  rintro e w10 ⟨rfl, hb10⟩
  have hB10 := hB9.trans (hb10.mono hB9.size)
  go_wp2_with fail
  go_ret
  exact ⟨rfl, hB10⟩
end Go.Proofs.Ytpgkpgdompfkpaa
