/- Marks in slices of Knot, and whether they are held. Conditions: as each states. -/
import Derived.Test.YtgnjohkfgllhmaaFKnot
namespace Go.Proofs.Ytgnjohkfgllhmaa
open Go.RowKit
set_option linter.unusedVariables false
set_option maxRecDepth 100000

/-- the marks from m on, of n elements -/
def mkKnot (m : Int) : Nat → List (Int × Int × Bool)
  | 0 => []
  | n + 1 => mkKnot m n ++ [((m + 3 * (n : Int)), (m + 3 * (n : Int)) + 1, (((m + 3 * (n : Int)) + 1 + 1) % 3 == 0))]
theorem mkKnot_length (m : Int) (n : Nat) : (mkKnot m n).length = n := by induction n with
  | zero => rfl
  | succ n ih => simp [mkKnot, ih]
theorem mkKnot_at (m : Int) {n j : Nat} (h : j < n) : (mkKnot m n)[j]? = some ((m + 3 * (j : Int)), (m + 3 * (j : Int)) + 1, (((m + 3 * (j : Int)) + 1 + 1) % 3 == 0)) := by
  induction n with
  | zero => omega
  | succ n ih =>
    rw [mkKnot]
    by_cases hj : j < n
    · rw [List.getElem?_append_left (by rw [mkKnot_length]; exact hj), ih hj]
    · obtain rfl : j = n := by omega
      rw [List.getElem?_append_right (by rw [mkKnot_length]; omega), mkKnot_length]; simp

theorem grown_mkKnot {a b c : World} {row : Option Nat} (h : a.grownBy b row) (k : b.grownBy c row) : a.grownBy c row :=
  ⟨k.os.trans h.os, k.tape.trans h.tape, k.output.trans h.output, Nat.le_trans h.size k.size, fun i hi hn => (k.block i (Nat.lt_of_lt_of_le hi h.size) hn).trans (h.block i hi hn)⟩

set_option maxHeartbeats 1000000 in
theorem markKnotS_any (A : Option Addr) (n c B : Nat) (xs : List Value) (m : Int) (w : World) (hown : w.ownsRow B 167 3 (.slice A n c) n xs) (hm0 : 0 ≤ m) (hm : m ≤ 4000000000000000000) (hn : n ≤ 1000000000) :
    Calls Try.prog 132 #[.slice A n c, .int .i64 m] w fun e w' => e = .returned (.int .i64 (m + 3 * (n : Int))) ∧ w.grownBy w' (Value.slice A n c).ownBlock ∧ w'.ownsRow B 167 3 (.slice A n c) n ((mkKnot m n).flatMap knotC) ∧ w'.heap.size = w.heap.size := by
  go_enter Try.func132, Try.ntmps132
  go_wp2_with fail
  go_loopw [1, 5] (fun k i wr => ∃ (q : Nat) (ys : List Value), i = .int .i64 q ∧ k = .int .i64 (m + 3 * q) ∧ q ≤ n ∧ wr.ownsRow B 167 3 (.slice A n c) n ys ∧ w.grownBy wr (Value.slice A n c).ownBlock ∧ wr.heap.size = w.heap.size ∧ (∀ j, j < q → ys[j * 3]? = some (.int .i64 ((m + 3 * (j : Int)))) ∧ ys[j * 3 + 1]? = some (.int .i64 ((m + 3 * (j : Int)) + 1)) ∧ ys[j * 3 + 2]? = some (.bool (((m + 3 * (j : Int)) + 1 + 1) % 3 == 0)))) (fun k i wr => n - (intOf i).toNat)
  case atStart => exact ⟨0, xs, rfl, by go_num, Nat.zero_le _, hown, World.grownBy.refl _ _, rfl, fun j hj => absurd hj (Nat.not_lt_zero j)⟩
  case round =>
    obtain ⟨q, ys, rfl, rfl, hq, ho, hg, hz, hall⟩ := hrel
    by_cases hlt : q < n
    · obtain ⟨g, rfl, hB, hgl, hnc, hcell, hfr⟩ := own_at ho (by omega)
      have hl := ho.1
      have c0 := hcell (q * 3) (by omega)
      have c1 := hcell (q * 3 + 1) (by omega)
      have c2 := hcell (q * 3 + 2) (by omega)
      rw [List.getElem?_eq_getElem (by omega)] at c0 c1 c2
      have f0 := hfr (q * 3)
      have f1 := hfr (q * 3 + 1)
      have f2 := hfr (q * 3 + 2)
      have s0 := ho.stored (q * 3) (.int .i64 ((m + 3 * q)))
      have s1 := s0.1.stored (q * 3 + 1) (.int .i64 ((m + 3 * q) + 1))
      have s2 := s1.1.stored (q * 3 + 2) (.bool (((m + 3 * q) + 1 + 1) % 3 == 0))
      generalize ys[q * 3] = v0 at c0
      generalize ys[q * 3 + 1] = v1 at c1
      generalize ys[q * 3 + 2] = v2 at c2
      replace s0 := Lib.hid s0
      replace s1 := Lib.hid s1
      replace s2 := Lib.hid s2
      replace hall := Lib.hid hall
      replace hl := Lib.hid hl
      replace hz := Lib.hid hz
      clear hcell hfr
      go_wp2_with fail
      go_roundw
      case rel =>
        refine ⟨q + 1, _, by go_num, by go_num, by omega, s2.out.1, ?_, by simpa using hz.out, fun j hj => ?_⟩
        · have e : (Value.slice (some ⟨g, 0, none⟩) n c).ownBlock = some g := rfl
          rw [e] at hg ⊢
          exact grown_mkKnot hg (grown_mkKnot s0.out.2 (grown_mkKnot s1.out.2 (s2.out.2)))
        · have := hl.out
          rcases Nat.lt_or_ge j q with h | h
          · have hh := hall.out j h
            simp only [List.getElem?_set_ne (show q * 3 ≠ j * 3 by omega), List.getElem?_set_ne (show q * 3 ≠ j * 3 + 1 by omega), List.getElem?_set_ne (show q * 3 ≠ j * 3 + 2 by omega), List.getElem?_set_ne (show q * 3 + 1 ≠ j * 3 by omega), List.getElem?_set_ne (show q * 3 + 1 ≠ j * 3 + 1 by omega), List.getElem?_set_ne (show q * 3 + 1 ≠ j * 3 + 2 by omega), List.getElem?_set_ne (show q * 3 + 2 ≠ j * 3 by omega), List.getElem?_set_ne (show q * 3 + 2 ≠ j * 3 + 1 by omega), List.getElem?_set_ne (show q * 3 + 2 ≠ j * 3 + 2 by omega)]
            exact hh
          · obtain rfl : j = q := by omega
            refine ⟨?_, ?_, ?_⟩ <;> simp [List.getElem?_set] <;> omega
      case measure => simp [intOf]; omega
    · have hqn : q = n := by omega
      replace hqn := Lib.hid hqn
      replace hall := Lib.hid hall
      replace hz := Lib.hid hz
      go_wp2_with fail
      go_ret
      have hq' := hqn.out
      subst hq'
      refine ⟨ret_int (by omega), hg, ?_, hz.out⟩
      have e : ys = (mkKnot m q).flatMap knotC := flat_ext knotC_len (mkKnot_length m q) ho.1 fun j a hj i hi => by
        have hjl := (List.getElem?_eq_some_iff.1 hj).1
        rw [mkKnot_length] at hjl
        rw [mkKnot_at m hjl] at hj
        injection hj with hj
        subst hj
        have hh := hall.out j hjl
        match i, hi with
        | 0, _ => exact hh.1
        | 1, _ => exact hh.2.1
        | 2, _ => exact hh.2.2
      rw [← e]
      exact ho

set_option maxHeartbeats 1000000 in
theorem heldKnotS_any (A : Option Addr) (n c lo hi : Nat) (m : Int) (w : World) (hr : RdS 3 (FlatR knotC) w lo hi A n (mkKnot m n)) (hm0 : 0 ≤ m) (hm : m ≤ 4000000000000000000) (hn : n ≤ 1000000000) :
    Calls Try.prog 133 #[.slice A n c, .int .i64 m] w fun e w' => e = .returned (.int .i64 (m + 3 * (n : Int))) ∧ w = w' := by
  go_enter Try.func133, Try.ntmps133
  go_wp2_with fail
  go_loop [1, 5] (fun k i => ∃ (q : Nat), i = .int .i64 q ∧ k = .int .i64 (m + 3 * q) ∧ q ≤ n) (fun k i => n - (intOf i).toNat)
  case atStart => exact ⟨0, rfl, by go_num, Nat.zero_le _⟩
  case round =>
    obtain ⟨q, rfl, rfl, hq⟩ := hrel
    by_cases hlt : q < n
    · obtain ⟨b, off, a, rfl, _, _, ha, hc⟩ := hr.at hlt
      rw [mkKnot_at m hlt] at ha
      injection ha with ha
      subst ha
      have c0 : w.cell? ⟨b, off + q * 3, none⟩ = some (.int .i64 ((m + 3 * q))) := hc 0 _ rfl
      have c1 : w.cell? ⟨b, off + q * 3 + 1, none⟩ = some (.int .i64 ((m + 3 * q) + 1)) := hc 1 _ rfl
      have c2 : w.cell? ⟨b, off + q * 3 + 2, none⟩ = some (.bool (((m + 3 * q) + 1 + 1) % 3 == 0)) := hc 2 _ rfl
      clear hc hr
      go_wp2_with fail
      go_round
      case rel => exact ⟨q + 1, by go_num, by go_num, by omega⟩
      case measure => simp [intOf]; omega
    · have hqn : q = n := by omega
      replace hqn := Lib.hid hqn
      clear hr
      go_wp2_with fail
      go_ret
      exact ⟨ret_int (by have := hqn.out; omega), rfl⟩
end Go.Proofs.Ytgnjohkfgllhmaa
