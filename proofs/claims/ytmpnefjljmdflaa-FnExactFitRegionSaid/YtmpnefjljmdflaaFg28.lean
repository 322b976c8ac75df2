/- Straight ways: both sides. Conditions: as each states. -/
import Derived.Test.YtmpnefjljmdflaaFg27
import Derived.Test.YtmpnefjljmdflaaFg04
namespace Go.Proofs.Ytmpnefjljmdflaa
open Go.RowKit
set_option linter.unusedVariables false
set_option maxRecDepth 100000

theorem pair_rd (w : World) (x0 y0 x1 y1 : Int) (T : TypeId) : RdS 2 (FlatR ptC) (w.alloc (.cells #[.int .i64 x0, .int .i64 y0, .int .i64 x1, .int .i64 y1] T (0, 0))).drew w.heap.size (w.alloc (.cells #[.int .i64 x0, .int .i64 y0, .int .i64 x1, .int .i64 y1] T (0, 0))).drew.heap.size (some ⟨w.heap.size, 0, none⟩) 2 [(x0, y0), (x1, y1)] := by
  have hb : (w.alloc (.cells #[.int .i64 x0, .int .i64 y0, .int .i64 x1, .int .i64 y1] T (0, 0))).drew.heap[w.heap.size]? = some (.cells #[.int .i64 x0, .int .i64 y0, .int .i64 x1, .int .i64 y1] T (0, 0)) := heap_alloc_new w _
  refine ⟨rfl, fun _ => ⟨w.heap.size, 0, rfl, Nat.le_refl _, (Array.getElem?_eq_some_iff.1 hb).1, fun j a hj => ?_⟩⟩
  match j, hj with
  | 0, hj =>
    injection hj with hj; subst hj
    refine ⟨ptC (x0, y0), rfl, fun i u hu => ?_, rfl⟩
    match i, hu with
    | 0, hu => injection hu with hu; subst hu; rw [Go.Joins.cell_of_block hb]; rfl
    | 1, hu => injection hu with hu; subst hu; rw [Go.Joins.cell_of_block hb]; rfl
    | i + 2, hu => simp [ptC] at hu
  | 1, hj =>
    injection hj with hj; subst hj
    refine ⟨ptC (x1, y1), rfl, fun i u hu => ?_, rfl⟩
    match i, hu with
    | 0, hu => injection hu with hu; subst hu; rw [Go.Joins.cell_of_block hb]; rfl
    | 1, hu => injection hu with hu; subst hu; rw [Go.Joins.cell_of_block hb]; rfl
    | i + 2, hu => simp [ptC] at hu
  | j + 2, hj => simp at hj

set_option maxHeartbeats 4000000 in
theorem l16Straight_any (A : Option Addr) (n c lo hi : Nat) (L : List (Int × Int)) (t : Int) (v : Bool) (hv : v = withinB L [ptAt L 0, ptAt L (n - 1)] t) (w : World) (hr : RdS 2 (FlatR ptC) w lo hi A n L) (hhi : hi ≤ w.heap.size) (hn1 : 1 ≤ n) (hn : n ≤ 1000) (hL : ∀ p ∈ L, ptOk p.1 p.2 = true) (ht0 : 0 ≤ t) (ht1 : t ≤ 262144) :
    Calls Try.prog 119 #[.slice A n c, .int .i64 t] w fun e w' => e = .returned (.bool v) ∧ Below w.heap.size w w' := by
  have hl := hr.1
  have hrH := Lib.hid hr
  obtain ⟨b, off, rfl, hb0, hb, hcs⟩ := hr.pts (by omega)
  obtain ⟨x00, x01⟩ := hcs 0 (by omega)
  obtain ⟨m, hm⟩ : ∃ m, m = n - 1 := ⟨_, rfl⟩
  rw [← hm] at hv
  obtain ⟨x10, x11⟩ := hcs m (by omega)
  have o0 := pts_ok hL (j := 0) (by omega)
  have o1 := pts_ok hL (j := m) (by omega)
  obtain ⟨⟨x0, y0⟩, hp0⟩ : ∃ p, p = ptAt L 0 := ⟨_, rfl⟩
  obtain ⟨⟨x1, y1⟩, hp1⟩ : ∃ p, p = ptAt L m := ⟨_, rfl⟩
  rw [← hp0] at hv x00 x01 o0
  rw [← hp1] at hv x10 x11 o1
  simp only at x00 x01 x10 x11 o0 o1
  rw [Nat.zero_mul, Nat.add_zero] at x00 x01
  have hbw : b < w.heap.size := by omega
  have hcl := Lib.hid (fun (W : World) (A' : Option Addr) (c' : Nat) (hb : Below w.heap.size w W) (hp : RdS 2 (FlatR ptC) W w.heap.size W.heap.size A' 2 [(x0, y0), (x1, y1)]) => l16Within_any (some ⟨b, off, none⟩) A' n c 2 c' lo hi w.heap.size W.heap.size L [(x0, y0), (x1, y1)] t v hv W (hrH.out.frame (good_flat _) (Below.sameB hb hhi)) hp (Nat.le_trans hhi hb.size) (Nat.le_refl _) (by omega) (by omega) (by omega) hL (by intro p hp; rcases List.mem_cons.1 hp with rfl | hp; exact o0; rw [List.mem_singleton] at hp; subst hp; exact o1) ht0 ht1)
  have hS := Lib.hid (fun (W : World) (hb : Below w.heap.size w W) => (show W.cell? ⟨b, off, none⟩ = some (.int .i64 x0) ∧ W.cell? ⟨b, off + 1, none⟩ = some (.int .i64 y0) ∧ W.cell? ⟨b, off + m * 2, none⟩ = some (.int .i64 x1) ∧ W.cell? ⟨b, off + m * 2 + 1, none⟩ = some (.int .i64 y1) from ⟨(hb.cell (p := ⟨b, off, none⟩) hbw).trans x00, (hb.cell (p := ⟨b, off + 1, none⟩) hbw).trans x01, (hb.cell (p := ⟨b, off + m * 2, none⟩) hbw).trans x10, (hb.cell (p := ⟨b, off + m * 2 + 1, none⟩) hbw).trans x11⟩))
  have i0 : (0 : Int) ≤ 0 ∧ (0 : Int) < (n : Int) := by omega
  have i1 : (0 : Int) ≤ (m : Int) ∧ (m : Int) < (n : Int) := by omega
  have i2 : 0 < n := by omega
  have i3 : (m : Int) < (n : Int) := by omega
  have i4 : (0 : Int) < (n : Int) := by omega
  have i5 : (0 : Int) ≤ (m : Int) := by omega
  have q1 : IntKind.i64.wrap ((n : Int) - 1) = (m : Int) := by rw [wi (by omega)]; omega
  replace hm := Lib.hid hm
  replace hp0 := Lib.hid hp0
  replace hp1 := Lib.hid hp1
  replace hL := Lib.hid hL
  replace hl := Lib.hid hl
  clear hv hcs o0 o1 hr
  go_enter Try.func119, Try.ntmps119
  go_wp2_with fail
  go_region_held3 (fun w' => w'.cell? ⟨b, off, none⟩ = some (.int .i64 x0) ∧ w'.cell? ⟨b, off + 1, none⟩ = some (.int .i64 y0) ∧ w'.cell? ⟨b, off + m * 2, none⟩ = some (.int .i64 x1) ∧ w'.cell? ⟨b, off + m * 2 + 1, none⟩ = some (.int .i64 y1)) (first | (with_reducible exact sQ.out) | (refine hS.out _ ?_; repeat (first | with_reducible exact Below.refl _ _ | with_reducible refine Below.drew ?_ | with_reducible refine Below.alloc ?_ (by simp) _))) (first | (go_at_call 132; with_reducible refine (hcl.out _ _ _ ?_ ?_).mono ?_; exact Below.drew (Go.Joins.below_alloc1 _ _); exact pair_rd w _ _ _ _ _; rintro e w1 ⟨rfl, hb1⟩; have hB1 := Lib.hid ((Below.drew (Go.Joins.below_alloc1 w _)).trans (hb1.mono (show w.heap.size ≤ _ by simp))); have sQ := Lib.hid (hS.out w1 hB1.out)))
  all_goals
    have hB := hB1.out
    clear hb1 hS hcl sQ hB1
    go_wp2_with fail
    go_ret
    exact ⟨rfl, hB⟩

set_option maxHeartbeats 4000000 in
theorem straightWay_any (A : Option Addr) (n c lo hi : Nat) (L : List (Int × Int)) (t : Int) (v : Bool) (hv : v = withinB L [ptAt L 0, ptAt L (n - 1)] t) (w : World) (hr : RdS 2 (FlatR ptC) w lo hi A n L) (hhi : hi ≤ w.heap.size) (hn1 : 1 ≤ n) (hn : n ≤ 1000) (hL : ∀ p ∈ L, ptOk p.1 p.2 = true) (ht0 : 0 ≤ t) (ht1 : t ≤ 262144) :
    Calls Try.prog 124 #[.slice A n c, .int .i64 t] w fun e w' => e = .returned (.bool v) ∧ Below w.heap.size w w' := by
  have hl := hr.1
  have hrH := Lib.hid hr
  obtain ⟨b, off, rfl, hb0, hb, hcs⟩ := hr.pts (by omega)
  obtain ⟨x00, x01⟩ := hcs 0 (by omega)
  obtain ⟨m, hm⟩ : ∃ m, m = n - 1 := ⟨_, rfl⟩
  rw [← hm] at hv
  obtain ⟨x10, x11⟩ := hcs m (by omega)
  have o0 := pts_ok hL (j := 0) (by omega)
  have o1 := pts_ok hL (j := m) (by omega)
  obtain ⟨⟨x0, y0⟩, hp0⟩ : ∃ p, p = ptAt L 0 := ⟨_, rfl⟩
  obtain ⟨⟨x1, y1⟩, hp1⟩ : ∃ p, p = ptAt L m := ⟨_, rfl⟩
  rw [← hp0] at hv x00 x01 o0
  rw [← hp1] at hv x10 x11 o1
  simp only at x00 x01 x10 x11 o0 o1
  rw [Nat.zero_mul, Nat.add_zero] at x00 x01
  have hbw : b < w.heap.size := by omega
  have hcl := Lib.hid (fun (W : World) (A' : Option Addr) (c' : Nat) (hb : Below w.heap.size w W) (hp : RdS 2 (FlatR ptC) W w.heap.size W.heap.size A' 2 [(x0, y0), (x1, y1)]) => pathWithin_any (some ⟨b, off, none⟩) A' n c 2 c' lo hi w.heap.size W.heap.size L [(x0, y0), (x1, y1)] t v hv W (hrH.out.frame (good_flat _) (Below.sameB hb hhi)) hp (Nat.le_trans hhi hb.size) (Nat.le_refl _) (by omega) (by omega) (by omega) hL (by intro p hp; rcases List.mem_cons.1 hp with rfl | hp; exact o0; rw [List.mem_singleton] at hp; subst hp; exact o1) ht0 ht1)
  have hS := Lib.hid (fun (W : World) (hb : Below w.heap.size w W) => (show W.cell? ⟨b, off, none⟩ = some (.int .i64 x0) ∧ W.cell? ⟨b, off + 1, none⟩ = some (.int .i64 y0) ∧ W.cell? ⟨b, off + m * 2, none⟩ = some (.int .i64 x1) ∧ W.cell? ⟨b, off + m * 2 + 1, none⟩ = some (.int .i64 y1) from ⟨(hb.cell (p := ⟨b, off, none⟩) hbw).trans x00, (hb.cell (p := ⟨b, off + 1, none⟩) hbw).trans x01, (hb.cell (p := ⟨b, off + m * 2, none⟩) hbw).trans x10, (hb.cell (p := ⟨b, off + m * 2 + 1, none⟩) hbw).trans x11⟩))
  have i0 : (0 : Int) ≤ 0 ∧ (0 : Int) < (n : Int) := by omega
  have i1 : (0 : Int) ≤ (m : Int) ∧ (m : Int) < (n : Int) := by omega
  have i2 : 0 < n := by omega
  have i3 : (m : Int) < (n : Int) := by omega
  have i4 : (0 : Int) < (n : Int) := by omega
  have i5 : (0 : Int) ≤ (m : Int) := by omega
  have q1 : IntKind.i64.wrap ((n : Int) - 1) = (m : Int) := by rw [wi (by omega)]; omega
  replace hm := Lib.hid hm
  replace hp0 := Lib.hid hp0
  replace hp1 := Lib.hid hp1
  replace hL := Lib.hid hL
  replace hl := Lib.hid hl
  clear hv hcs o0 o1 hr
  go_enter Try.func124, Try.ntmps124
  go_wp2_with fail
  go_region_held3 (fun w' => w'.cell? ⟨b, off, none⟩ = some (.int .i64 x0) ∧ w'.cell? ⟨b, off + 1, none⟩ = some (.int .i64 y0) ∧ w'.cell? ⟨b, off + m * 2, none⟩ = some (.int .i64 x1) ∧ w'.cell? ⟨b, off + m * 2 + 1, none⟩ = some (.int .i64 y1)) (first | (with_reducible exact sQ.out) | (refine hS.out _ ?_; repeat (first | with_reducible exact Below.refl _ _ | with_reducible refine Below.drew ?_ | with_reducible refine Below.alloc ?_ (by simp) _))) (first | (go_at_call 93; with_reducible refine (hcl.out _ _ _ ?_ ?_).mono ?_; exact Below.drew (Go.Joins.below_alloc1 _ _); exact pair_rd w _ _ _ _ _; rintro e w1 ⟨rfl, hb1⟩; have hB1 := Lib.hid ((Below.drew (Go.Joins.below_alloc1 w _)).trans (hb1.mono (show w.heap.size ≤ _ by simp))); have sQ := Lib.hid (hS.out w1 hB1.out)))
  all_goals
    have hB := hB1.out
    clear hb1 hS hcl sQ hB1
    go_wp2_with fail
    go_ret
    exact ⟨rfl, hB⟩
end Go.Proofs.Ytmpnefjljmdflaa

/- Marks in slices of Knot, and whether they are held. Conditions: as each states. -/
namespace Go.Proofs.Ytmpnefjljmdflaa
open Go.RowKit
set_option linter.unusedVariables false
set_option maxRecDepth 100000

/-- the marks from m on, of n elements -/
def mkKnot (m : Int) : Nat → List (Int × Int × Bool)
  | 0 => []
  | n + 1 => mkKnot m n ++ [((m + 3 * (n : Int)), (m + 3 * (n : Int)) + 1, (((m + 3 * (n : Int)) + 1 + 1) % 3 == 0))]
theorem mkKnot_length (m : Int) (n : Nat) : (mkKnot m n).length = n := by induction n with
  | zero => rfl
  | succ n ih => simp [mkKnot, ih]
theorem mkKnot_at (m : Int) {n j : Nat} (h : j < n) : (mkKnot m n)[j]? = some ((m + 3 * (j : Int)), (m + 3 * (j : Int)) + 1, (((m + 3 * (j : Int)) + 1 + 1) % 3 == 0)) := by
  induction n with
  | zero => omega
  | succ n ih =>
    rw [mkKnot]
    by_cases hj : j < n
    · rw [List.getElem?_append_left (by rw [mkKnot_length]; exact hj), ih hj]
    · obtain rfl : j = n := by omega
      rw [List.getElem?_append_right (by rw [mkKnot_length]; omega), mkKnot_length]; simp

theorem grown_mkKnot {a b c : World} {row : Option Nat} (h : a.grownBy b row) (k : b.grownBy c row) : a.grownBy c row :=
  ⟨k.os.trans h.os, k.tape.trans h.tape, k.output.trans h.output, Nat.le_trans h.size k.size, fun i hi hn => (k.block i (Nat.lt_of_lt_of_le hi h.size) hn).trans (h.block i hi hn)⟩

set_option maxHeartbeats 1000000 in
theorem markKnotS_any (A : Option Addr) (n c B : Nat) (xs : List Value) (m : Int) (w : World) (hown : w.ownsRow B 127 3 (.slice A n c) n xs) (hm0 : 0 ≤ m) (hm : m ≤ 4000000000000000000) (hn : n ≤ 1000000000) :
    Calls Try.prog 79 #[.slice A n c, .int .i64 m] w fun e w' => e = .returned (.int .i64 (m + 3 * (n : Int))) ∧ w.grownBy w' (Value.slice A n c).ownBlock ∧ w'.ownsRow B 127 3 (.slice A n c) n ((mkKnot m n).flatMap knotC) ∧ w'.heap.size = w.heap.size := by
  go_enter Try.func79, Try.ntmps79
  go_wp2_with fail
  go_loopw [1, 5] (fun k i wr => ∃ (q : Nat) (ys : List Value), i = .int .i64 q ∧ k = .int .i64 (m + 3 * q) ∧ q ≤ n ∧ wr.ownsRow B 127 3 (.slice A n c) n ys ∧ w.grownBy wr (Value.slice A n c).ownBlock ∧ wr.heap.size = w.heap.size ∧ (∀ j, j < q → ys[j * 3]? = some (.int .i64 ((m + 3 * (j : Int)))) ∧ ys[j * 3 + 1]? = some (.int .i64 ((m + 3 * (j : Int)) + 1)) ∧ ys[j * 3 + 2]? = some (.bool (((m + 3 * (j : Int)) + 1 + 1) % 3 == 0)))) (fun k i wr => n - (intOf i).toNat)
  case atStart => exact ⟨0, xs, rfl, by go_num, Nat.zero_le _, hown, World.grownBy.refl _ _, rfl, fun j hj => absurd hj (Nat.not_lt_zero j)⟩
  case round =>
    obtain ⟨q, ys, rfl, rfl, hq, ho, hg, hz, hall⟩ := hrel
    by_cases hlt : q < n
    · obtain ⟨g, rfl, hB, hgl, hnc, hcell, hfr⟩ := own_at ho (by omega)
      have hl := ho.1
      have c0 := hcell (q * 3) (by omega)
      have c1 := hcell (q * 3 + 1) (by omega)
      have c2 := hcell (q * 3 + 2) (by omega)
      rw [List.getElem?_eq_getElem (by omega)] at c0 c1 c2
      have f0 := hfr (q * 3)
      have f1 := hfr (q * 3 + 1)
      have f2 := hfr (q * 3 + 2)
      have s0 := ho.stored (q * 3) (.int .i64 ((m + 3 * q)))
      have s1 := s0.1.stored (q * 3 + 1) (.int .i64 ((m + 3 * q) + 1))
      have s2 := s1.1.stored (q * 3 + 2) (.bool (((m + 3 * q) + 1 + 1) % 3 == 0))
      generalize ys[q * 3] = v0 at c0
      generalize ys[q * 3 + 1] = v1 at c1
      generalize ys[q * 3 + 2] = v2 at c2
      replace s0 := Lib.hid s0
      replace s1 := Lib.hid s1
      replace s2 := Lib.hid s2
      replace hall := Lib.hid hall
      replace hl := Lib.hid hl
      replace hz := Lib.hid hz
      clear hcell hfr
      go_wp2_with fail
      go_roundw
      case rel =>
        refine ⟨q + 1, _, by go_num, by go_num, by omega, s2.out.1, ?_, by simpa using hz.out, fun j hj => ?_⟩
        · have e : (Value.slice (some ⟨g, 0, none⟩) n c).ownBlock = some g := rfl
          rw [e] at hg ⊢
          exact grown_mkKnot hg (grown_mkKnot s0.out.2 (grown_mkKnot s1.out.2 (s2.out.2)))
        · have := hl.out
          rcases Nat.lt_or_ge j q with h | h
          · have hh := hall.out j h
            simp only [List.getElem?_set_ne (show q * 3 ≠ j * 3 by omega), List.getElem?_set_ne (show q * 3 ≠ j * 3 + 1 by omega), List.getElem?_set_ne (show q * 3 ≠ j * 3 + 2 by omega), List.getElem?_set_ne (show q * 3 + 1 ≠ j * 3 by omega), List.getElem?_set_ne (show q * 3 + 1 ≠ j * 3 + 1 by omega), List.getElem?_set_ne (show q * 3 + 1 ≠ j * 3 + 2 by omega), List.getElem?_set_ne (show q * 3 + 2 ≠ j * 3 by omega), List.getElem?_set_ne (show q * 3 + 2 ≠ j * 3 + 1 by omega), List.getElem?_set_ne (show q * 3 + 2 ≠ j * 3 + 2 by omega)]
            exact hh
          · obtain rfl : j = q := by omega
            refine ⟨?_, ?_, ?_⟩ <;> simp [List.getElem?_set] <;> omega
      case measure => simp [intOf]; omega
    · have hqn : q = n := by omega
      replace hqn := Lib.hid hqn
      replace hall := Lib.hid hall
      replace hz := Lib.hid hz
      go_wp2_with fail
      go_ret
      have hq' := hqn.out
      subst hq'
      refine ⟨ret_int (by omega), hg, ?_, hz.out⟩
      have e : ys = (mkKnot m q).flatMap knotC := flat_ext knotC_len (mkKnot_length m q) ho.1 fun j a hj i hi => by
        have hjl := (List.getElem?_eq_some_iff.1 hj).1
        rw [mkKnot_length] at hjl
        rw [mkKnot_at m hjl] at hj
        injection hj with hj
        subst hj
        have hh := hall.out j hjl
        match i, hi with
        | 0, _ => exact hh.1
        | 1, _ => exact hh.2.1
        | 2, _ => exact hh.2.2
      rw [← e]
      exact ho

set_option maxHeartbeats 1000000 in
theorem heldKnotS_any (A : Option Addr) (n c lo hi : Nat) (m : Int) (w : World) (hr : RdS 3 (FlatR knotC) w lo hi A n (mkKnot m n)) (hm0 : 0 ≤ m) (hm : m ≤ 4000000000000000000) (hn : n ≤ 1000000000) :
    Calls Try.prog 80 #[.slice A n c, .int .i64 m] w fun e w' => e = .returned (.int .i64 (m + 3 * (n : Int))) ∧ w = w' := by
  go_enter Try.func80, Try.ntmps80
  go_wp2_with fail
  go_loop [1, 5] (fun k i => ∃ (q : Nat), i = .int .i64 q ∧ k = .int .i64 (m + 3 * q) ∧ q ≤ n) (fun k i => n - (intOf i).toNat)
  case atStart => exact ⟨0, rfl, by go_num, Nat.zero_le _⟩
  case round =>
    obtain ⟨q, rfl, rfl, hq⟩ := hrel
    by_cases hlt : q < n
    · obtain ⟨b, off, a, rfl, _, _, ha, hc⟩ := hr.at hlt
      rw [mkKnot_at m hlt] at ha
      injection ha with ha
      subst ha
      have c0 : w.cell? ⟨b, off + q * 3, none⟩ = some (.int .i64 ((m + 3 * q))) := hc 0 _ rfl
      have c1 : w.cell? ⟨b, off + q * 3 + 1, none⟩ = some (.int .i64 ((m + 3 * q) + 1)) := hc 1 _ rfl
      have c2 : w.cell? ⟨b, off + q * 3 + 2, none⟩ = some (.bool (((m + 3 * q) + 1 + 1) % 3 == 0)) := hc 2 _ rfl
      clear hc hr
      go_wp2_with fail
      go_round
      case rel => exact ⟨q + 1, by go_num, by go_num, by omega⟩
      case measure => simp [intOf]; omega
    · have hqn : q = n := by omega
      replace hqn := Lib.hid hqn
      clear hr
      go_wp2_with fail
      go_ret
      exact ⟨ret_int (by have := hqn.out; omega), rfl⟩
end Go.Proofs.Ytmpnefjljmdflaa

