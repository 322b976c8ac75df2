/- The laws on NearPath and PathWithin. Conditions: as each states. -/
import Derived.Test.YtpjmpbdbfldnaaaNearW
import Derived.Deep.RegionHeld3
namespace Go.Proofs.Ytpjmpbdbfldnaaa
open Go.RowKit
set_option linter.unusedVariables false
set_option maxRecDepth 100000

theorem allT_no {α : Type} {f : α → Bool} {L : List α} {k : Nat} {a : α} (h : L[k]? = some a) (hf : f a = false) : L.all f = false := by
  rw [List.all_eq_false]; exact ⟨a, List.mem_of_getElem? h, by simp [hf]⟩
theorem allT_step {α : Type} {f : α → Bool} {L : List α} {k : Nat} {a : α} (h0 : (L.take k).all f = true) (h : L[k]? = some a) (hf : f a = true) : (L.take (k + 1)).all f = true := by
  have hl := (List.getElem?_eq_some_iff.1 h).1
  rw [List.getElem?_eq_getElem hl] at h; injection h with h
  rw [List.take_succ_eq_append_getElem hl, List.all_append, h0, h]; simp [hf]
def pathOk (L : List (Int × Int)) : Bool := inB L.length 1 400 && L.all pt2Ok
theorem pathOk_is {L : List (Int × Int)} (h : pathOk L = true) : 1 ≤ L.length ∧ L.length ≤ 400 ∧ ∀ p ∈ L, ptOk p.1 p.2 = true := by
  simp only [pathOk, Bool.and_eq_true, inB_iff, List.all_eq_true] at h
  obtain ⟨⟨h1, h2⟩, h3⟩ := h
  exact ⟨by omega, by omega, h3⟩
def nearOk (L : List (Int × Int)) (px py r : Int) : Bool := pathOk L && ptOk px py && inB r 0 262144 && nearP L px py r
def withinB (L M : List (Int × Int)) (r : Int) : Bool := L.all fun p => nearP M p.1 p.2 r
def withinOk (L M : List (Int × Int)) (r : Int) : Bool := pathOk L && pathOk M && inB r 0 262144 && withinB L M r

theorem l12Path_any (A : Option Addr) (n c lo hi : Nat) (L : List (Int × Int)) (v : Bool) (hv : v = pathOk L) (w : World) (hr : RdS 2 (FlatR ptC) w lo hi A n L) (hhi : hi ≤ w.heap.size) (hn : n ≤ 1048576) :
    Calls Try.prog 85 #[.slice A n c] w fun e w' => e = .returned (.bool v) ∧ Below w.heap.size w w' := by
  have hl := hr.1
  unfold pathOk at hv
  rw [hl] at hv
  clear hl
  cases t0 : inB (n : Int) 1 400
  · have hvf : v = false := by rw [hv, t0]; rfl
    subst hvf
    clear hv hr
    go_enter Try.func85, Try.ntmps85
    go_wp2_with (go_at_call 167; refine (l00In_any _ _ _ _).mono ?_; rintro e w' ⟨rfl, rfl⟩)
    go_ret
    exact ⟨rfl, Below.refl _ _⟩
  · have hv' : v = L.all pt2Ok := by rw [hv, t0]; simp
    have hc := Lib.hid (l13Points_any A n c lo hi L v hv' w hr hhi hn)
    clear hv hv' hr
    go_enter Try.func85, Try.ntmps85
    go_wp2_with (first | (go_at_call 167; refine (l00In_any _ _ _ _).mono ?_; rintro e w' ⟨rfl, rfl⟩) | (go_at_call 168; refine hc.out.mono ?_; rintro e w1 ⟨rfl, hb1⟩))
    all_goals
      go_ret
      exact ⟨rfl, hb1⟩
theorem isPath_any (A : Option Addr) (n c lo hi : Nat) (L : List (Int × Int)) (v : Bool) (hv : v = pathOk L) (w : World) (hr : RdS 2 (FlatR ptC) w lo hi A n L) (hhi : hi ≤ w.heap.size) (hn : n ≤ 1048576) :
    Calls Try.prog 89 #[.slice A n c] w fun e w' => e = .returned (.bool v) ∧ Below w.heap.size w w' := by
  have hl := hr.1
  unfold pathOk at hv
  rw [hl] at hv
  clear hl
  by_cases h1 : 1 ≤ n
  rotate_left
  · have hvf : v = false := by rw [hv, inB_false.2 (by omega)]; rfl
    subst hvf
    clear hv hr
    go_enter Try.func89, Try.ntmps89
    go_wp2_with fail
    go_ret
    exact ⟨rfl, Below.refl _ _⟩
  by_cases h2 : n ≤ 400
  rotate_left
  · have hvf : v = false := by rw [hv, inB_false.2 (by omega)]; rfl
    subst hvf
    clear hv hr
    go_enter Try.func89, Try.ntmps89
    go_wp2_with fail
    go_ret
    exact ⟨rfl, Below.refl _ _⟩
  have hv' : v = L.all pt2Ok := by rw [hv, inB_iff.2 ⟨by omega, by omega⟩]; simp
  have hc := Lib.hid (validPts_any A n c lo hi L v hv' w hr hhi hn)
  clear hv hv' hr
  go_enter Try.func89, Try.ntmps89
  go_wp2_with (go_at_call 170; refine hc.out.mono ?_; rintro e w1 ⟨rfl, hb1⟩)
  all_goals
    go_ret
    exact ⟨rfl, hb1⟩
theorem l16Distance_any (r : Int) (w : World) : Calls Try.prog 87 #[.int .i64 r] w fun e w' => e = .returned (.bool (inB r 0 262144)) ∧ w = w' := by
  go_enter Try.func87, Try.ntmps87
  go_wp2_with (go_at_call 167; refine (l00In_any _ _ _ _).mono ?_; rintro e w' ⟨rfl, rfl⟩)
  go_ret
  exact ⟨rfl, rfl⟩
theorem isDistance_any (r : Int) (w : World) : Calls Try.prog 91 #[.int .i64 r] w fun e w' => e = .returned (.bool (inB r 0 262144)) ∧ w = w' := by
  by_cases h1 : 0 ≤ r <;> by_cases h2 : r ≤ 262144
  all_goals try (exfalso; omega)
  all_goals
    go_enter Try.func91, Try.ntmps91
    go_wp2
    go_ret
    exact ⟨ret_bool (by rw [Bool.eq_iff_iff]; simp [inB]; omega), rfl⟩

set_option maxHeartbeats 2000000 in
theorem specNearPath_any (A : Option Addr) (n c lo hi : Nat) (L : List (Int × Int)) (px py r : Int) (v : Bool) (hv : v = nearOk L px py r) (w : World) (hr : RdS 2 (FlatR ptC) w lo hi A n L) (hhi : hi ≤ w.heap.size) (hn : n ≤ 1048576) :
    Calls Try.prog 21 #[.slice A n c, .agg #[.int .i64 px, .int .i64 py], .int .i64 r] w fun e w' => e = .returned (.bool v) ∧ Below w.heap.size w w' := by
  obtain ⟨t1, ht1⟩ : ∃ t, t = pathOk L := ⟨_, rfl⟩
  obtain ⟨t2, ht2⟩ : ∃ t, t = ptOk px py := ⟨_, rfl⟩
  have hB0 : Below w.heap.size w (w.alloc (.cells #[.int .i64 px, .int .i64 py] 29 (0, 0))) := Go.Joins.below_alloc1 _ _
  have c0 : (w.alloc (.cells #[.int .i64 px, .int .i64 py] 29 (0, 0))).cell? ⟨w.heap.size, 0, none⟩ = some (.int .i64 px) := by rw [Go.Joins.cell_of_block (heap_alloc_new w _)]; rfl
  have c1 : (w.alloc (.cells #[.int .i64 px, .int .i64 py] 29 (0, 0))).cell? ⟨w.heap.size, 1, none⟩ = some (.int .i64 py) := by rw [Go.Joins.cell_of_block (heap_alloc_new w _)]; rfl
  have hpc := Lib.hid (fun a => l12Path_any A n c lo hi L t1 ht1 (w.alloc a) (hr.frame (good_flat _) ((SameB.refl _ _ w).alloc hhi a)) (by simp; omega) hn)
  have hoc := Lib.hid (fun W => ht2 ▸ l03Ok_any px py W)
  unfold nearOk at hv
  rw [← ht1, ← ht2] at hv
  have hl := Lib.hid hr.1
  replace hr := Lib.hid hr
  cases t1 with
  | false =>
    have hvf : v = false := by rw [hv]; rfl
    subst hvf
    clear hv ht1 ht2 hr
    replace c0 := Lib.hid c0
    replace c1 := Lib.hid c1
    go_enter Try.func21, Try.ntmps21
    go_wp2_with fail
    refine (hpc.out _).mono ?_
    rintro e w1 ⟨rfl, hb1⟩
    have hB1 := hB0.trans (hb1.mono (by simp))
    go_wp2_with fail
    go_ret
    exact ⟨rfl, hB1⟩
  | true =>
  have hpk := pathOk_is ht1.symm
  rw [hl.out] at hpk
  obtain ⟨k1, k2, k3⟩ := hpk
  cases t2 with
  | false =>
    have hvf : v = false := by rw [hv]; rfl
    subst hvf
    clear hv ht1 ht2 hr k3
    go_enter Try.func21, Try.ntmps21
    go_wp2_with fail
    refine (hpc.out _).mono ?_
    rintro e w1 ⟨rfl, hb1⟩
    have hB1 := hB0.trans (hb1.mono (by simp))
    have d0 : w1.cell? ⟨w.heap.size, 0, none⟩ = some (.int .i64 px) := (hb1.cell (by simp)).trans c0
    have d1 : w1.cell? ⟨w.heap.size, 1, none⟩ = some (.int .i64 py) := (hb1.cell (by simp)).trans c1
    have hz1 : w.heap.size + 1 ≤ w1.heap.size := by have := hb1.size; simpa using this
    go_wp2_with fail
    refine (hoc.out _).mono ?_
    rintro e w2 ⟨rfl, hb2⟩
    have hB2 := hB1.trans (hb2.mono hB1.size)
    go_wp2_with fail
    go_ret
    exact ⟨rfl, hB2⟩
  | true =>
  cases t3 : inB r 0 262144
  · have hvf : v = false := by rw [hv, t3]; rfl
    subst hvf
    clear hv ht1 ht2 hr k3
    go_enter Try.func21, Try.ntmps21
    go_wp2_with fail
    refine (hpc.out _).mono ?_
    rintro e w1 ⟨rfl, hb1⟩
    have hB1 := hB0.trans (hb1.mono (by simp))
    have d0 : w1.cell? ⟨w.heap.size, 0, none⟩ = some (.int .i64 px) := (hb1.cell (by simp)).trans c0
    have d1 : w1.cell? ⟨w.heap.size, 1, none⟩ = some (.int .i64 py) := (hb1.cell (by simp)).trans c1
    have hz1 : w.heap.size + 1 ≤ w1.heap.size := by have := hb1.size; simpa using this
    go_wp2_with fail
    refine (hoc.out _).mono ?_
    rintro e w2 ⟨rfl, hb2⟩
    have hB2 := hB1.trans (hb2.mono hB1.size)
    go_wp2_with (go_at_call 87; refine (l16Distance_any _ _).mono ?_; rintro e w' ⟨rfl, rfl⟩)
    go_ret
    exact ⟨rfl, hB2⟩
  · have hvn : v = nearP L px py r := by rw [hv, t3]; simp
    obtain ⟨r0, r1⟩ := inB_iff.1 t3
    have hnc := Lib.hid (fun W (h : RdS 2 (FlatR ptC) W lo hi A n L) (h' : hi ≤ W.heap.size) => l16Near_any A n c lo hi L px py r v hvn W h h' k1 hn k3 ht2.symm r0 r1)
    clear hv ht1 ht2 k3 hvn
    go_enter Try.func21, Try.ntmps21
    go_wp2_with fail
    refine (hpc.out _).mono ?_
    rintro e w1 ⟨rfl, hb1⟩
    have hB1 := hB0.trans (hb1.mono (by simp))
    have d0 : w1.cell? ⟨w.heap.size, 0, none⟩ = some (.int .i64 px) := (hb1.cell (by simp)).trans c0
    have d1 : w1.cell? ⟨w.heap.size, 1, none⟩ = some (.int .i64 py) := (hb1.cell (by simp)).trans c1
    have hz1 : w.heap.size + 1 ≤ w1.heap.size := by have := hb1.size; simpa using this
    go_wp2_with fail
    refine (hoc.out _).mono ?_
    rintro e w2 ⟨rfl, hb2⟩
    have hB2 := hB1.trans (hb2.mono hB1.size)
    have e0 : w2.cell? ⟨w.heap.size, 0, none⟩ = some (.int .i64 px) := (hb2.cell (by simp; omega)).trans d0
    have e1 : w2.cell? ⟨w.heap.size, 1, none⟩ = some (.int .i64 py) := (hb2.cell (by simp; omega)).trans d1
    go_wp2_with fail
    refine (l16Distance_any _ _).mono ?_
    rintro e w' ⟨rfl, rfl⟩
    go_wp2_with fail
    refine (hnc.out w2 (hr.out.frame (good_flat _) (Below.sameB hB2 hhi)) (by have := hB2.size; omega)).mono ?_
    rintro e w3 ⟨rfl, hb3⟩
    have hB3 := hB2.trans (hb3.mono hB2.size)
    go_wp2_with fail
    go_ret
    exact ⟨rfl, hB3⟩

set_option maxHeartbeats 2000000 in
theorem implNearPath_any (A : Option Addr) (n c lo hi : Nat) (L : List (Int × Int)) (px py r : Int) (v : Bool) (hv : v = nearOk L px py r) (w : World) (hr : RdS 2 (FlatR ptC) w lo hi A n L) (hhi : hi ≤ w.heap.size) (hn : n ≤ 1048576) :
    Calls Try.prog 24 #[.slice A n c, .agg #[.int .i64 px, .int .i64 py], .int .i64 r] w fun e w' => e = .returned (.bool v) ∧ Below w.heap.size w w' := by
  obtain ⟨t1, ht1⟩ : ∃ t, t = pathOk L := ⟨_, rfl⟩
  obtain ⟨t2, ht2⟩ : ∃ t, t = ptOk px py := ⟨_, rfl⟩
  have hB0 : Below w.heap.size w (w.alloc (.cells #[.int .i64 px, .int .i64 py] 29 (0, 0))) := Go.Joins.below_alloc1 _ _
  have c0 : (w.alloc (.cells #[.int .i64 px, .int .i64 py] 29 (0, 0))).cell? ⟨w.heap.size, 0, none⟩ = some (.int .i64 px) := by rw [Go.Joins.cell_of_block (heap_alloc_new w _)]; rfl
  have c1 : (w.alloc (.cells #[.int .i64 px, .int .i64 py] 29 (0, 0))).cell? ⟨w.heap.size, 1, none⟩ = some (.int .i64 py) := by rw [Go.Joins.cell_of_block (heap_alloc_new w _)]; rfl
  have hpc := Lib.hid (fun a => isPath_any A n c lo hi L t1 ht1 (w.alloc a) (hr.frame (good_flat _) ((SameB.refl _ _ w).alloc hhi a)) (by simp; omega) hn)
  have hoc := Lib.hid (fun W => ht2 ▸ validPt_any px py W)
  unfold nearOk at hv
  rw [← ht1, ← ht2] at hv
  have hl := Lib.hid hr.1
  replace hr := Lib.hid hr
  cases t1 with
  | false =>
    have hvf : v = false := by rw [hv]; rfl
    subst hvf
    clear hv ht1 ht2 hr
    replace c0 := Lib.hid c0
    replace c1 := Lib.hid c1
    go_enter Try.func24, Try.ntmps24
    go_wp2_with fail
    refine (hpc.out _).mono ?_
    rintro e w1 ⟨rfl, hb1⟩
    have hB1 := hB0.trans (hb1.mono (by simp))
    go_wp2_with fail
    go_ret
    exact ⟨rfl, hB1⟩
  | true =>
  have hpk := pathOk_is ht1.symm
  rw [hl.out] at hpk
  obtain ⟨k1, k2, k3⟩ := hpk
  cases t2 with
  | false =>
    have hvf : v = false := by rw [hv]; rfl
    subst hvf
    clear hv ht1 ht2 hr k3
    go_enter Try.func24, Try.ntmps24
    go_wp2_with fail
    refine (hpc.out _).mono ?_
    rintro e w1 ⟨rfl, hb1⟩
    have hB1 := hB0.trans (hb1.mono (by simp))
    have d0 : w1.cell? ⟨w.heap.size, 0, none⟩ = some (.int .i64 px) := (hb1.cell (by simp)).trans c0
    have d1 : w1.cell? ⟨w.heap.size, 1, none⟩ = some (.int .i64 py) := (hb1.cell (by simp)).trans c1
    have hz1 : w.heap.size + 1 ≤ w1.heap.size := by have := hb1.size; simpa using this
    go_wp2_with fail
    refine (hoc.out _).mono ?_
    rintro e w2 ⟨rfl, hb2⟩
    have hB2 := hB1.trans (hb2.mono hB1.size)
    go_wp2_with fail
    go_ret
    exact ⟨rfl, hB2⟩
  | true =>
  cases t3 : inB r 0 262144
  · have hvf : v = false := by rw [hv, t3]; rfl
    subst hvf
    clear hv ht1 ht2 hr k3
    go_enter Try.func24, Try.ntmps24
    go_wp2_with fail
    refine (hpc.out _).mono ?_
    rintro e w1 ⟨rfl, hb1⟩
    have hB1 := hB0.trans (hb1.mono (by simp))
    have d0 : w1.cell? ⟨w.heap.size, 0, none⟩ = some (.int .i64 px) := (hb1.cell (by simp)).trans c0
    have d1 : w1.cell? ⟨w.heap.size, 1, none⟩ = some (.int .i64 py) := (hb1.cell (by simp)).trans c1
    have hz1 : w.heap.size + 1 ≤ w1.heap.size := by have := hb1.size; simpa using this
    go_wp2_with fail
    refine (hoc.out _).mono ?_
    rintro e w2 ⟨rfl, hb2⟩
    have hB2 := hB1.trans (hb2.mono hB1.size)
    go_wp2_with (go_at_call 91; refine (isDistance_any _ _).mono ?_; rintro e w' ⟨rfl, rfl⟩)
    go_ret
    exact ⟨rfl, hB2⟩
  · have hvn : v = nearP L px py r := by rw [hv, t3]; simp
    obtain ⟨r0, r1⟩ := inB_iff.1 t3
    have hnc := Lib.hid (fun W (h : RdS 2 (FlatR ptC) W lo hi A n L) (h' : hi ≤ W.heap.size) => nearPath_any A n c lo hi L px py r v hvn W h h' k1 hn k3 ht2.symm r0 r1)
    clear hv ht1 ht2 k3 hvn
    go_enter Try.func24, Try.ntmps24
    go_wp2_with fail
    refine (hpc.out _).mono ?_
    rintro e w1 ⟨rfl, hb1⟩
    have hB1 := hB0.trans (hb1.mono (by simp))
    have d0 : w1.cell? ⟨w.heap.size, 0, none⟩ = some (.int .i64 px) := (hb1.cell (by simp)).trans c0
    have d1 : w1.cell? ⟨w.heap.size, 1, none⟩ = some (.int .i64 py) := (hb1.cell (by simp)).trans c1
    have hz1 : w.heap.size + 1 ≤ w1.heap.size := by have := hb1.size; simpa using this
    go_wp2_with fail
    refine (hoc.out _).mono ?_
    rintro e w2 ⟨rfl, hb2⟩
    have hB2 := hB1.trans (hb2.mono hB1.size)
    have e0 : w2.cell? ⟨w.heap.size, 0, none⟩ = some (.int .i64 px) := (hb2.cell (by simp; omega)).trans d0
    have e1 : w2.cell? ⟨w.heap.size, 1, none⟩ = some (.int .i64 py) := (hb2.cell (by simp; omega)).trans d1
    go_wp2_with fail
    refine (isDistance_any _ _).mono ?_
    rintro e w' ⟨rfl, rfl⟩
    go_wp2_with fail
    refine (hnc.out w2 (hr.out.frame (good_flat _) (Below.sameB hB2 hhi)) (by have := hB2.size; omega)).mono ?_
    rintro e w3 ⟨rfl, hb3⟩
    have hB3 := hB2.trans (hb3.mono hB2.size)
    go_wp2_with fail
    go_ret
    exact ⟨rfl, hB3⟩


set_option maxHeartbeats 4000000 in
theorem lawNearPath_walk (A : Option Addr) (n c : Nat) (L : List (Int × Int)) (px py r : Int) {w : World} (hr : RdS 2 (FlatR ptC) w 0 w.heap.size A n L) (hm : n ≤ maxLen) (_ : (Lit.int .i64 px).wf = true) (_ : (Lit.int .i64 py).wf = true) (_ : (Lit.int .i64 r).wf = true) :
    Calls Try.prog 3 #[.slice A n c, .agg #[.int .i64 px, .int .i64 py], .int .i64 r] w fun e w' => e = .returned (.bool true) ∧ Below w.heap.size w w' := by
  obtain ⟨v, hv⟩ : ∃ v, v = nearOk L px py r := ⟨_, rfl⟩
  have hspec := Lib.hid (fun A' n' c' lo hi W h h1 h2 => specNearPath_any A' n' c' lo hi L px py r v hv W h h1 h2)
  have himpl := Lib.hid (fun A' n' c' lo hi W h h1 h2 => implNearPath_any A' n' c' lo hi L px py r v hv W h h1 h2)
  clear hv
  have hll := Lib.hid hr.1
  unfold maxLen at hm
  replace hr := Lib.hid hr
  have hB0 : Below w.heap.size w (w.alloc (.cells #[.int .i64 px, .int .i64 py] 24 (0, 0))) := Go.Joins.below_alloc1 _ _
  have c0 : (w.alloc (.cells #[.int .i64 px, .int .i64 py] 24 (0, 0))).cell? ⟨w.heap.size, 0, none⟩ = some (.int .i64 px) := by rw [Go.Joins.cell_of_block (heap_alloc_new w _)]; rfl
  have c1 : (w.alloc (.cells #[.int .i64 px, .int .i64 py] 24 (0, 0))).cell? ⟨w.heap.size, 1, none⟩ = some (.int .i64 py) := by rw [Go.Joins.cell_of_block (heap_alloc_new w _)]; rfl
  have hwn : w.heap.size < (w.alloc (.cells #[.int .i64 px, .int .i64 py] 24 (0, 0))).heap.size := by simp
  obtain ⟨r1, hr1⟩ : ∃ x : Int, x = if (n : Int) ≤ 1048576 then 1048576 - (n : Int) else -1 := ⟨_, rfl⟩
  by_cases hn : (n : Int) ≤ 1048576
  rotate_left
  · rw [if_neg hn] at hr1
    subst hr1
    go_enter Try.func3, Try.ntmps3
    go_wp2_with fail
    refine (szPtS_any A n c 1048576 _ hm (by omega) (by omega) (-1) (by rw [if_neg (by omega)])).mono ?_
    rintro e w' ⟨rfl, rfl⟩
    go_wp2_with fail
    go_ret
    exact ⟨rfl, hB0⟩
  rw [if_pos hn] at hr1
  have hr0 : 0 ≤ r1 := by omega
  have hn' : n ≤ 1048576 := by omega
  have hsz := Lib.hid (fun W => szPtS_any A n c 1048576 W hm (by omega) (by omega) r1 (by rw [if_pos hn]; exact hr1))
  clear hr1
  go_enter Try.func3, Try.ntmps3
  go_wp2_with fail
  refine (hsz.out _).mono ?_
  rintro e w' ⟨rfl, rfl⟩
  generalize w.alloc (.cells #[.int .i64 px, .int .i64 py] 24 (0, 0)) = w1 at *
  have s1 : Hid (w1.cell? ⟨w.heap.size, 0, none⟩ = some (.int .i64 px) ∧ w1.cell? ⟨w.heap.size, 1, none⟩ = some (.int .i64 py)) := ⟨c0, c1⟩
  go_wp2_with fail
  go_region_held3 (fun w' => w'.cell? ⟨w.heap.size, 0, none⟩ = some (.int .i64 px) ∧ w'.cell? ⟨w.heap.size, 1, none⟩ = some (.int .i64 py)) (first | exact s1.out | exact s2.out | exact s3.out | exact s4.out)
    (first | (go_at_call 22; (with_reducible refine (toPtS_any A n c 0 w.heap.size L _ ?_ ?_ hn').mono ?_); exact (hr.out.frame (good_flat _) (Below.sameB hB0.drew (Nat.le_refl _))); exact hB0.size; rintro e w2 ⟨g2, rfl, hg2, ho2, hb2⟩; have hB2 := hB0.drew.trans (hb2.mono hB0.size); have hz2 : w1.heap.size ≤ w2.heap.size := hb2.size; have s2 : Hid (w2.cell? ⟨w.heap.size, 0, none⟩ = some (.int .i64 px) ∧ w2.cell? ⟨w.heap.size, 1, none⟩ = some (.int .i64 py)) := ⟨(hb2.cell (by simp; omega)).trans s1.out.1, (hb2.cell (by simp; omega)).trans s1.out.2⟩; have rd2 := Lib.hid (rdS_own ptC_len (by omega) ho2 hll.out); clear hg2 ho2 hb2) | (go_at_call 23; (with_reducible refine (toPt_any _ _ _).mono ?_); rintro e w3 ⟨rfl, hb3⟩; have hB3 := hB2.trans (hb3.mono hB2.size); have hz3 : w2.heap.size ≤ w3.heap.size := hb3.size; have s3 : Hid (w3.cell? ⟨w.heap.size, 0, none⟩ = some (.int .i64 px) ∧ w3.cell? ⟨w.heap.size, 1, none⟩ = some (.int .i64 py)) := ⟨(hb3.cell (by simp; omega)).trans s2.out.1, (hb3.cell (by simp; omega)).trans s2.out.2⟩; replace rd2 := Lib.hid (rd2.out.frame (good_flat _) (Below.sameB hb3 (Nat.le_refl _))); clear hb3) | (go_at_call 21; (with_reducible refine (hspec.out (some ⟨g2, 0, none⟩) n n w1.drew.heap.size w2.heap.size _ ?_ ?_ hn').mono ?_); exact rd2.out; exact hz3; rintro e w4 ⟨rfl, hb4⟩; have hB4 := hB3.trans (hb4.mono hB3.size); have hz4 : w3.heap.size ≤ w4.heap.size := hb4.size; have s4 : Hid (w4.cell? ⟨w.heap.size, 0, none⟩ = some (.int .i64 px) ∧ w4.cell? ⟨w.heap.size, 1, none⟩ = some (.int .i64 py)) := ⟨(hb4.cell (by simp; omega)).trans s3.out.1, (hb4.cell (by simp; omega)).trans s3.out.2⟩; clear hb4))
  all_goals
    clear s1 s2 s3 rd2 c0 c1
    go_wp2_with fail
    refine (toPtS_any A n c 0 w.heap.size L _ (hr.out.frame (good_flat _) (Below.sameB hB4 (Nat.le_refl _))) hB4.size hn').mono ?_
    rintro e w5 ⟨g5, rfl, hg5, ho5, hb5⟩
    have hB5 := hB4.trans (hb5.mono hB4.size)
    have hz5 : w4.heap.size ≤ w5.heap.size := hb5.size
    have k0 : w5.cell? ⟨w.heap.size, 0, none⟩ = some (.int .i64 px) := (hb5.cell (by simp; omega)).trans s4.out.1
    have k1 : w5.cell? ⟨w.heap.size, 1, none⟩ = some (.int .i64 py) := (hb5.cell (by simp; omega)).trans s4.out.2
    have rd5 := Lib.hid (rdS_own ptC_len (by omega) ho5 hll.out)
    clear ho5 hg5 hb5 s4
    go_wp2_with fail
    refine (toPt_any _ _ _).mono ?_
    rintro e w6 ⟨rfl, hb6⟩
    have hB6 := hB5.trans (hb6.mono hB5.size)
    have hz6 : w5.heap.size ≤ w6.heap.size := hb6.size
    replace rd5 := Lib.hid (rd5.out.frame (good_flat _) (Below.sameB hb6 (Nat.le_refl _)))
    clear hb6 k0 k1
    go_wp2_with fail
    refine (himpl.out _ _ _ _ _ _ rd5.out hz6 hn').mono ?_
    rintro e w7 ⟨rfl, hb7⟩
    have hB7 := hB6.trans (hb7.mono hB6.size)
    have hz7 : w6.heap.size ≤ w7.heap.size := hb7.size
    replace rd5 := Lib.hid (rd5.out.frame (good_flat _) (Below.sameB hb7 hz6))
    clear hb7
    have hvv : (v != v) = false := by simp
    go_wp2_with fail
    refine (toPtS_any A n c 0 w.heap.size L _ (hr.out.frame (good_flat _) (Below.sameB hB7 (Nat.le_refl _))) hB7.size hn').mono ?_
    rintro e w8 ⟨g8, rfl, hg8, ho8, hb8⟩
    have hB8 := hB7.trans (hb8.mono hB7.size)
    have hz8 : w7.heap.size ≤ w8.heap.size := hb8.size
    have rd8 := Lib.hid (rdS_own ptC_len (by omega) ho8 hll.out)
    replace rd5 := Lib.hid (rd5.out.frame (good_flat _) (Below.sameB hb8 (by omega)))
    clear ho8 hg8 hb8
    go_wp2_with fail
    refine (eqPtS_any _ _ _ _ _ _ _ _ _ _ L _ rd5.out rd8.out (by omega) (Nat.le_refl _) (by omega)).mono ?_
    rintro e w9 ⟨rfl, hb9⟩
    have hB9 := hB8.trans (hb9.mono hB8.size)
    go_wp2_with fail
    go_ret
    exact ⟨rfl, hB9⟩

end Go.Proofs.Ytpjmpbdbfldnaaa
