/- The laws on NearPath and PathWithin. Conditions: as each states. -/
import Derived.Deep.RegionHeld3
import Derived.Test.YtpmpbfkpiocleaaQv10
namespace Go.Proofs.Ytpmpbfkpiocleaa
open Go.RowKit
set_option linter.unusedVariables false
set_option maxRecDepth 100000

def pathOk (L : List (Int × Int)) : Bool := inB L.length 1 400 && L.all pt2Ok
theorem pathOk_is {L : List (Int × Int)} (h : pathOk L = true) : 1 ≤ L.length ∧ L.length ≤ 400 ∧ ∀ p ∈ L, ptOk p.1 p.2 = true := by
  simp only [pathOk, Bool.and_eq_true, inB_iff, List.all_eq_true] at h
  obtain ⟨⟨h1, h2⟩, h3⟩ := h
  exact ⟨by omega, by omega, h3⟩
def nearOk (L : List (Int × Int)) (px py r : Int) : Bool := pathOk L && ptOk px py && inB r 0 262144 && nearP L px py r
theorem l12Path_any (A : Option Addr) (n c lo hi : Nat) (L : List (Int × Int)) (v : Bool) (hv : v = pathOk L) (w : World) (hr : RdS 2 (FlatR ptC) w lo hi A n L) (hhi : hi ≤ w.heap.size) (hn : n ≤ 1048576) :
    Calls Try.prog 29 #[.slice A n c] w fun e w' => e = .returned (.bool v) ∧ Below w.heap.size w w' := by
  have hl := hr.1
  unfold pathOk at hv
  rw [hl] at hv
  clear hl
  cases t0 : inB (n : Int) 1 400
  · have hvf : v = false := by rw [hv, t0]; rfl
    subst hvf
    clear hv hr
    go_enter Try.func29, Try.ntmps29
    go_wp2_with (go_at_call 39; refine (l00In_any _ _ _ _).mono ?_; rintro e w' ⟨rfl, rfl⟩)
    go_ret
    exact ⟨rfl, Below.refl _ _⟩
  · have hv' : v = L.all pt2Ok := by rw [hv, t0]; simp
    have hc := Lib.hid (l13Points_any A n c lo hi L v hv' w hr hhi hn)
    clear hv hv' hr
    go_enter Try.func29, Try.ntmps29
    go_wp2_with (first | (go_at_call 39; refine (l00In_any _ _ _ _).mono ?_; rintro e w' ⟨rfl, rfl⟩) | (go_at_call 48; refine hc.out.mono ?_; rintro e w1 ⟨rfl, hb1⟩))
    all_goals
      go_ret
      exact ⟨rfl, hb1⟩
theorem l16Distance_any (r : Int) (w : World) : Calls Try.prog 31 #[.int .i64 r] w fun e w' => e = .returned (.bool (inB r 0 262144)) ∧ w = w' := by
  go_enter Try.func31, Try.ntmps31
  go_wp2_with (go_at_call 39; refine (l00In_any _ _ _ _).mono ?_; rintro e w' ⟨rfl, rfl⟩)
  go_ret
  exact ⟨rfl, rfl⟩
set_option maxHeartbeats 2000000 in
theorem specNearPath_any (A : Option Addr) (n c lo hi : Nat) (L : List (Int × Int)) (px py r : Int) (v : Bool) (hv : v = nearOk L px py r) (w : World) (hr : RdS 2 (FlatR ptC) w lo hi A n L) (hhi : hi ≤ w.heap.size) (hn : n ≤ 1048576) :
    Calls Try.prog 13 #[.slice A n c, .agg #[.int .i64 px, .int .i64 py], .int .i64 r] w fun e w' => e = .returned (.bool v) ∧ Below w.heap.size w w' := by
  obtain ⟨t1, ht1⟩ : ∃ t, t = pathOk L := ⟨_, rfl⟩
  obtain ⟨t2, ht2⟩ : ∃ t, t = ptOk px py := ⟨_, rfl⟩
  have hB0 : Below w.heap.size w (w.alloc (.cells #[.int .i64 px, .int .i64 py] 24 (0, 0))) := Go.Joins.below_alloc1 _ _
  have c0 : (w.alloc (.cells #[.int .i64 px, .int .i64 py] 24 (0, 0))).cell? ⟨w.heap.size, 0, none⟩ = some (.int .i64 px) := by rw [Go.Joins.cell_of_block (heap_alloc_new w _)]; rfl
  have c1 : (w.alloc (.cells #[.int .i64 px, .int .i64 py] 24 (0, 0))).cell? ⟨w.heap.size, 1, none⟩ = some (.int .i64 py) := by rw [Go.Joins.cell_of_block (heap_alloc_new w _)]; rfl
  have hpc := Lib.hid (fun a => l12Path_any A n c lo hi L t1 ht1 (w.alloc a) (hr.frame (good_flat _) ((SameB.refl _ _ w).alloc hhi a)) (by simp; omega) hn)
  have hoc := Lib.hid (fun W => ht2 ▸ l03Ok_any px py W)
  unfold nearOk at hv
  rw [← ht1, ← ht2] at hv
  have hl := Lib.hid hr.1
  replace hr := Lib.hid hr
  cases t1 with
  | false =>
    have hvf : v = false := by rw [hv]; rfl
    subst hvf
    clear hv ht1 ht2 hr
    replace c0 := Lib.hid c0
    replace c1 := Lib.hid c1
    go_enter Try.func13, Try.ntmps13
    go_wp2_with fail
    refine (hpc.out _).mono ?_
    rintro e w1 ⟨rfl, hb1⟩
    have hB1 := hB0.trans (hb1.mono (by simp))
    go_wp2_with fail
    go_ret
    exact ⟨rfl, hB1⟩
  | true =>
  have hpk := pathOk_is ht1.symm
  rw [hl.out] at hpk
  obtain ⟨k1, k2, k3⟩ := hpk
  cases t2 with
  | false =>
    have hvf : v = false := by rw [hv]; rfl
    subst hvf
    clear hv ht1 ht2 hr k3
    go_enter Try.func13, Try.ntmps13
    go_wp2_with fail
    refine (hpc.out _).mono ?_
    rintro e w1 ⟨rfl, hb1⟩
    have hB1 := hB0.trans (hb1.mono (by simp))
    have d0 : w1.cell? ⟨w.heap.size, 0, none⟩ = some (.int .i64 px) := (hb1.cell (by simp)).trans c0
    have d1 : w1.cell? ⟨w.heap.size, 1, none⟩ = some (.int .i64 py) := (hb1.cell (by simp)).trans c1
    have hz1 : w.heap.size + 1 ≤ w1.heap.size := by have := hb1.size; simpa using this
    go_wp2_with fail
    refine (hoc.out _).mono ?_
    rintro e w2 ⟨rfl, hb2⟩
    have hB2 := hB1.trans (hb2.mono hB1.size)
    go_wp2_with fail
    go_ret
    exact ⟨rfl, hB2⟩
  | true =>
  cases t3 : inB r 0 262144
  · have hvf : v = false := by rw [hv, t3]; rfl
    subst hvf
    clear hv ht1 ht2 hr k3
    go_enter Try.func13, Try.ntmps13
    go_wp2_with fail
    refine (hpc.out _).mono ?_
    rintro e w1 ⟨rfl, hb1⟩
    have hB1 := hB0.trans (hb1.mono (by simp))
    have d0 : w1.cell? ⟨w.heap.size, 0, none⟩ = some (.int .i64 px) := (hb1.cell (by simp)).trans c0
    have d1 : w1.cell? ⟨w.heap.size, 1, none⟩ = some (.int .i64 py) := (hb1.cell (by simp)).trans c1
    have hz1 : w.heap.size + 1 ≤ w1.heap.size := by have := hb1.size; simpa using this
    go_wp2_with fail
    refine (hoc.out _).mono ?_
    rintro e w2 ⟨rfl, hb2⟩
    have hB2 := hB1.trans (hb2.mono hB1.size)
    go_wp2_with (go_at_call 31; refine (l16Distance_any _ _).mono ?_; rintro e w' ⟨rfl, rfl⟩)
    go_ret
    exact ⟨rfl, hB2⟩
  · have hvn : v = nearP L px py r := by rw [hv, t3]; simp
    obtain ⟨r0, r1⟩ := inB_iff.1 t3
    have hnc := Lib.hid (fun W (h : RdS 2 (FlatR ptC) W lo hi A n L) (h' : hi ≤ W.heap.size) => l16Near_any A n c lo hi L px py r v hvn W h h' k1 hn k3 ht2.symm r0 r1)
    clear hv ht1 ht2 k3 hvn
    go_enter Try.func13, Try.ntmps13
    go_wp2_with fail
    refine (hpc.out _).mono ?_
    rintro e w1 ⟨rfl, hb1⟩
    have hB1 := hB0.trans (hb1.mono (by simp))
    have d0 : w1.cell? ⟨w.heap.size, 0, none⟩ = some (.int .i64 px) := (hb1.cell (by simp)).trans c0
    have d1 : w1.cell? ⟨w.heap.size, 1, none⟩ = some (.int .i64 py) := (hb1.cell (by simp)).trans c1
    have hz1 : w.heap.size + 1 ≤ w1.heap.size := by have := hb1.size; simpa using this
    go_wp2_with fail
    refine (hoc.out _).mono ?_
    rintro e w2 ⟨rfl, hb2⟩
    have hB2 := hB1.trans (hb2.mono hB1.size)
    have e0 : w2.cell? ⟨w.heap.size, 0, none⟩ = some (.int .i64 px) := (hb2.cell (by simp; omega)).trans d0
    have e1 : w2.cell? ⟨w.heap.size, 1, none⟩ = some (.int .i64 py) := (hb2.cell (by simp; omega)).trans d1
    go_wp2_with fail
    refine (l16Distance_any _ _).mono ?_
    rintro e w' ⟨rfl, rfl⟩
    go_wp2_with fail
    refine (hnc.out w2 (hr.out.frame (good_flat _) (Below.sameB hB2 hhi)) (by have := hB2.size; omega)).mono ?_
    rintro e w3 ⟨rfl, hb3⟩
    have hB3 := hB2.trans (hb3.mono hB2.size)
    go_wp2_with fail
    go_ret
    exact ⟨rfl, hB3⟩

end Go.Proofs.Ytpmpbfkpiocleaa

