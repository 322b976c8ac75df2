/- Marks in slices of Pt, and whether they are held. Conditions: as each states. -/
import Derived.Test.YtgngcllodofimaaFPt
namespace Go.Proofs.Ytgngcllodofimaa
open Go.RowKit
set_option linter.unusedVariables false
set_option maxRecDepth 100000

/-- the marks from m on, of n elements -/
def mkPt (m : Int) : Nat → List (Int × Int)
  | 0 => []
  | n + 1 => mkPt m n ++ [((m + 2 * (n : Int)), (m + 2 * (n : Int)) + 1)]
theorem mkPt_length (m : Int) (n : Nat) : (mkPt m n).length = n := by induction n with
  | zero => rfl
  | succ n ih => simp [mkPt, ih]
theorem mkPt_at (m : Int) {n j : Nat} (h : j < n) : (mkPt m n)[j]? = some ((m + 2 * (j : Int)), (m + 2 * (j : Int)) + 1) := by
  induction n with
  | zero => omega
  | succ n ih =>
    rw [mkPt]
    by_cases hj : j < n
    · rw [List.getElem?_append_left (by rw [mkPt_length]; exact hj), ih hj]
    · obtain rfl : j = n := by omega
      rw [List.getElem?_append_right (by rw [mkPt_length]; omega), mkPt_length]; simp

theorem grown_mkPt {a b c : World} {row : Option Nat} (h : a.grownBy b row) (k : b.grownBy c row) : a.grownBy c row :=
  ⟨k.os.trans h.os, k.tape.trans h.tape, k.output.trans h.output, Nat.le_trans h.size k.size, fun i hi hn => (k.block i (Nat.lt_of_lt_of_le hi h.size) hn).trans (h.block i hi hn)⟩

set_option maxHeartbeats 1000000 in
theorem markPtS_any (A : Option Addr) (n c B : Nat) (xs : List Value) (m : Int) (w : World) (hown : w.ownsRow B 25 2 (.slice A n c) n xs) (hm0 : 0 ≤ m) (hm : m ≤ 4000000000000000000) (hn : n ≤ 1000000000) :
    Calls Try.prog 100 #[.slice A n c, .int .i64 m] w fun e w' => e = .returned (.int .i64 (m + 2 * (n : Int))) ∧ w.grownBy w' (Value.slice A n c).ownBlock ∧ w'.ownsRow B 25 2 (.slice A n c) n ((mkPt m n).flatMap ptC) ∧ w'.heap.size = w.heap.size := by
  go_enter Try.func100, Try.ntmps100
  go_wp2_with fail
  go_loopw [1, 5] (fun k i wr => ∃ (q : Nat) (ys : List Value), i = .int .i64 q ∧ k = .int .i64 (m + 2 * q) ∧ q ≤ n ∧ wr.ownsRow B 25 2 (.slice A n c) n ys ∧ w.grownBy wr (Value.slice A n c).ownBlock ∧ wr.heap.size = w.heap.size ∧ (∀ j, j < q → ys[j * 2]? = some (.int .i64 ((m + 2 * (j : Int)))) ∧ ys[j * 2 + 1]? = some (.int .i64 ((m + 2 * (j : Int)) + 1)))) (fun k i wr => n - (intOf i).toNat)
  case atStart => exact ⟨0, xs, rfl, by go_num, Nat.zero_le _, hown, World.grownBy.refl _ _, rfl, fun j hj => absurd hj (Nat.not_lt_zero j)⟩
  case round =>
    obtain ⟨q, ys, rfl, rfl, hq, ho, hg, hz, hall⟩ := hrel
    by_cases hlt : q < n
    · obtain ⟨g, rfl, hB, hgl, hnc, hcell, hfr⟩ := own_at ho (by omega)
      have hl := ho.1
      have c0 := hcell (q * 2) (by omega)
      have c1 := hcell (q * 2 + 1) (by omega)
      rw [List.getElem?_eq_getElem (by omega)] at c0 c1
      have f0 := hfr (q * 2)
      have f1 := hfr (q * 2 + 1)
      have s0 := ho.stored (q * 2) (.int .i64 ((m + 2 * q)))
      have s1 := s0.1.stored (q * 2 + 1) (.int .i64 ((m + 2 * q) + 1))
      generalize ys[q * 2] = v0 at c0
      generalize ys[q * 2 + 1] = v1 at c1
      replace s0 := Lib.hid s0
      replace s1 := Lib.hid s1
      replace hall := Lib.hid hall
      replace hl := Lib.hid hl
      replace hz := Lib.hid hz
      clear hcell hfr
      go_wp2_with fail
      go_roundw
      case rel =>
        refine ⟨q + 1, _, by go_num, by go_num, by omega, s1.out.1, ?_, by simpa using hz.out, fun j hj => ?_⟩
        · have e : (Value.slice (some ⟨g, 0, none⟩) n c).ownBlock = some g := rfl
          rw [e] at hg ⊢
          exact grown_mkPt hg (grown_mkPt s0.out.2 (s1.out.2))
        · have := hl.out
          rcases Nat.lt_or_ge j q with h | h
          · have hh := hall.out j h
            simp only [List.getElem?_set_ne (show q * 2 ≠ j * 2 by omega), List.getElem?_set_ne (show q * 2 ≠ j * 2 + 1 by omega), List.getElem?_set_ne (show q * 2 + 1 ≠ j * 2 by omega), List.getElem?_set_ne (show q * 2 + 1 ≠ j * 2 + 1 by omega)]
            exact hh
          · obtain rfl : j = q := by omega
            refine ⟨?_, ?_⟩ <;> simp [List.getElem?_set] <;> omega
      case measure => simp [intOf]; omega
    · have hqn : q = n := by omega
      replace hqn := Lib.hid hqn
      replace hall := Lib.hid hall
      replace hz := Lib.hid hz
      go_wp2_with fail
      go_ret
      have hq' := hqn.out
      subst hq'
      refine ⟨ret_int (by omega), hg, ?_, hz.out⟩
      have e : ys = (mkPt m q).flatMap ptC := flat_ext ptC_len (mkPt_length m q) ho.1 fun j a hj i hi => by
        have hjl := (List.getElem?_eq_some_iff.1 hj).1
        rw [mkPt_length] at hjl
        rw [mkPt_at m hjl] at hj
        injection hj with hj
        subst hj
        have hh := hall.out j hjl
        match i, hi with
        | 0, _ => exact hh.1
        | 1, _ => exact hh.2
      rw [← e]
      exact ho

set_option maxHeartbeats 1000000 in
theorem heldPtS_any (A : Option Addr) (n c lo hi : Nat) (m : Int) (w : World) (hr : RdS 2 (FlatR ptC) w lo hi A n (mkPt m n)) (hm0 : 0 ≤ m) (hm : m ≤ 4000000000000000000) (hn : n ≤ 1000000000) :
    Calls Try.prog 102 #[.slice A n c, .int .i64 m] w fun e w' => e = .returned (.int .i64 (m + 2 * (n : Int))) ∧ w = w' := by
  go_enter Try.func102, Try.ntmps102
  go_wp2_with fail
  go_loop [1, 5] (fun k i => ∃ (q : Nat), i = .int .i64 q ∧ k = .int .i64 (m + 2 * q) ∧ q ≤ n) (fun k i => n - (intOf i).toNat)
  case atStart => exact ⟨0, rfl, by go_num, Nat.zero_le _⟩
  case round =>
    obtain ⟨q, rfl, rfl, hq⟩ := hrel
    by_cases hlt : q < n
    · obtain ⟨b, off, a, rfl, _, _, ha, hc⟩ := hr.at hlt
      rw [mkPt_at m hlt] at ha
      injection ha with ha
      subst ha
      have c0 : w.cell? ⟨b, off + q * 2, none⟩ = some (.int .i64 ((m + 2 * q))) := hc 0 _ rfl
      have c1 : w.cell? ⟨b, off + q * 2 + 1, none⟩ = some (.int .i64 ((m + 2 * q) + 1)) := hc 1 _ rfl
      clear hc hr
      go_wp2_with fail
      go_round
      case rel => exact ⟨q + 1, by go_num, by go_num, by omega⟩
      case measure => simp [intOf]; omega
    · have hqn : q = n := by omega
      replace hqn := Lib.hid hqn
      clear hr
      go_wp2_with fail
      go_ret
      exact ⟨ret_int (by have := hqn.out; omega), rfl⟩
end Go.Proofs.Ytgngcllodofimaa
