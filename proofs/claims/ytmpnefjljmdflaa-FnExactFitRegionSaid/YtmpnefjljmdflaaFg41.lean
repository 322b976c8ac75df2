/- Regions, as outlines are: XOutE turned. Conditions: as each states. -/
import Derived.Deep.RegionWith
import Derived.StillTailTactics
import Derived.Test.YtmpnefjljmdflaaFg37
import Derived.Test.YtmpnefjljmdflaaFg03
namespace Go.Proofs.Ytmpnefjljmdflaa
open Go.RowKit
set_option linter.unusedVariables false
set_option maxRecDepth 100000

theorem eqRing_any (A A' : Option Addr) (n c n' c' lo hi lo' hi' : Nat) (K : List (Int × Int)) (w : World) (h1 : RdS 2 (FlatR ptC) w lo hi A n K) (h2 : RdS 2 (FlatR ptC) w lo' hi' A' n' K) (hh1 : hi ≤ w.heap.size) (hh2 : hi' ≤ w.heap.size) (hn : n ≤ 100000000) :
    Calls Try.prog 26 #[.agg #[.slice A n c], .agg #[.slice A' n' c']] w fun e w' => e = .returned (.bool true) ∧ Below w.heap.size w w' := by
  have hc := Lib.hid (fun a b => eqPtS_any A A' n c n' c' lo hi lo' hi' K ((w.alloc a).alloc b) (h1.frame (good_flat _) (((SameB.refl _ _ w).alloc hh1 _).alloc (by simp; omega) _)) (h2.frame (good_flat _) (((SameB.refl _ _ w).alloc hh2 _).alloc (by simp; omega) _)) (by simp; omega) (by simp; omega) (by omega))
  clear h1 h2
  go_enter Try.func26, Try.ntmps26
  go_wp2_with fail
  refine (hc.out _ _).mono ?_
  rintro e w1 ⟨rfl, hb1⟩
  go_wp2_with fail
  go_ret
  exact ⟨rfl, (Go.Joins.below_alloc2 _ _ _).trans (hb1.mono (by simp; omega))⟩

set_option maxHeartbeats 1000000 in
theorem eqRingS_any (A A' : Option Addr) (n c n' c' lo hi lo' hi' : Nat) (Ls : List (List (Int × Int))) (w : World) (h1 : RegRd w lo hi A n Ls) (h2 : RegRd w lo' hi' A' n' Ls) (hh1 : hi ≤ w.heap.size) (hh2 : hi' ≤ w.heap.size) (hn : n ≤ 100000000) (hK : ∀ K ∈ Ls, K.length ≤ 100000000) :
    Calls Try.prog 94 #[.slice A n c, .slice A' n' c'] w fun e w' => e = .returned (.bool true) ∧ Below w.heap.size w w' := by
  obtain rfl : n = n' := h1.1.symm.trans h2.1
  replace h1 := Lib.hid h1
  replace h2 := Lib.hid h2
  replace hK := Lib.hid hK
  go_enter Try.func94, Try.ntmps94
  go_wp2_with fail
  go_loopw [5] (fun i wr => ∃ k : Nat, i = .int .i64 k ∧ k ≤ n ∧ Below w.heap.size w wr) (fun i wr => n - (intOf i).toNat)
  case atStart => exact ⟨0, rfl, Nat.zero_le _, Below.refl _ _⟩
  case round =>
    obtain ⟨k, rfl, hk, hbel⟩ := hrel
    have hsz := hbel.size
    by_cases hlt : k < n
    · obtain ⟨b, off, K, A1, n1, c1, rfl, hb0, hb, hja, q0, hm, hr1⟩ := reg_at (h1.out.frame good_ring (Below.sameB hbel hh1)) hlt
      obtain ⟨b', off', K', A2, n2, c2, rfl, hb0', hb', hja', q0', hm', hr2⟩ := reg_at (h2.out.frame good_ring (Below.sameB hbel hh2)) hlt
      have hKK := Option.some.inj (hja.symm.trans hja')
      subst hKK
      have hlen := hK.out K (List.mem_of_getElem? hja)
      have hcall := Lib.hid (fun W (hB : SameB 0 wr.heap.size wr W) (hs : wr.heap.size ≤ W.heap.size) => eqRing_any A1 A2 n1 c1 n2 c2 lo hi lo' hi' K W (hr1.frame (good_flat _) (hB.mono (Nat.zero_le _) (by omega))) (hr2.frame (good_flat _) (hB.mono (Nat.zero_le _) (by omega))) (by omega) (by omega) (by rw [← hr1.1]; exact hlen))
      have hbw : b < wr.heap.size := by omega
      have hbw' : b' < wr.heap.size := by omega
      clear hr1 hr2 hm hm' hja hja' hb0 hb0' hb hb' hsz hh1 hh2 h1 h2 hlen
      have hi : (0 : Int) ≤ (k : Int) ∧ (k : Int) < (n : Int) := by omega
      go_wp2_with fail
      go_still_tail 8, (by kernel_rfl)
      go_wp2_with (go_at_call 26; refine (hcall.out _ (SameB.refl _ _ wr).drew (Nat.le_refl _)).mono ?_; rintro e w1 ⟨rfl, hb1⟩)
      go_roundw
      case rel => exact ⟨k + 1, by go_num, by omega, hbel.drew.trans (hb1.mono (by simp; exact hbel.size))⟩
      case measure => simp [intOf]; omega
    · go_wp2_with fail
      go_ret
      exact ⟨rfl, hbel⟩

theorem eqRegion_any (A A' : Option Addr) (n c n' c' lo hi lo' hi' : Nat) (Ls : List (List (Int × Int))) (w : World) (h1 : RegRd w lo hi A n Ls) (h2 : RegRd w lo' hi' A' n' Ls) (hh1 : hi ≤ w.heap.size) (hh2 : hi' ≤ w.heap.size) (hn : n ≤ 100000000) (hK : ∀ K ∈ Ls, K.length ≤ 100000000) :
    Calls Try.prog 36 #[.agg #[.slice A n c], .agg #[.slice A' n' c']] w fun e w' => e = .returned (.bool true) ∧ Below w.heap.size w w' := by
  have hc := Lib.hid (fun a b => eqRingS_any A A' n c n' c' lo hi lo' hi' Ls ((w.alloc a).alloc b) (h1.frame good_ring (((SameB.refl _ _ w).alloc hh1 _).alloc (by simp; omega) _)) (h2.frame good_ring (((SameB.refl _ _ w).alloc hh2 _).alloc (by simp; omega) _)) (by simp; omega) (by simp; omega) hn hK)
  clear h1 h2
  go_enter Try.func36, Try.ntmps36
  go_wp2_with fail
  refine (hc.out _ _).mono ?_
  rintro e w1 ⟨rfl, hb1⟩
  go_wp2_with fail
  go_ret
  exact ⟨rfl, (Go.Joins.below_alloc2 _ _ _).trans (hb1.mono (by simp; omega))⟩
end Go.Proofs.Ytmpnefjljmdflaa

/- Marks in slices of Pt, and whether they are held. Conditions: as each states. -/
namespace Go.Proofs.Ytmpnefjljmdflaa
open Go.RowKit
set_option linter.unusedVariables false
set_option maxRecDepth 100000

/-- the marks from m on, of n elements -/
def mkPt (m : Int) : Nat → List (Int × Int)
  | 0 => []
  | n + 1 => mkPt m n ++ [((m + 2 * (n : Int)), (m + 2 * (n : Int)) + 1)]
theorem mkPt_length (m : Int) (n : Nat) : (mkPt m n).length = n := by induction n with
  | zero => rfl
  | succ n ih => simp [mkPt, ih]
theorem mkPt_at (m : Int) {n j : Nat} (h : j < n) : (mkPt m n)[j]? = some ((m + 2 * (j : Int)), (m + 2 * (j : Int)) + 1) := by
  induction n with
  | zero => omega
  | succ n ih =>
    rw [mkPt]
    by_cases hj : j < n
    · rw [List.getElem?_append_left (by rw [mkPt_length]; exact hj), ih hj]
    · obtain rfl : j = n := by omega
      rw [List.getElem?_append_right (by rw [mkPt_length]; omega), mkPt_length]; simp

theorem grown_mkPt {a b c : World} {row : Option Nat} (h : a.grownBy b row) (k : b.grownBy c row) : a.grownBy c row :=
  ⟨k.os.trans h.os, k.tape.trans h.tape, k.output.trans h.output, Nat.le_trans h.size k.size, fun i hi hn => (k.block i (Nat.lt_of_lt_of_le hi h.size) hn).trans (h.block i hi hn)⟩

set_option maxHeartbeats 1000000 in
theorem markPtS_any (A : Option Addr) (n c B : Nat) (xs : List Value) (m : Int) (w : World) (hown : w.ownsRow B 24 2 (.slice A n c) n xs) (hm0 : 0 ≤ m) (hm : m ≤ 4000000000000000000) (hn : n ≤ 1000000000) :
    Calls Try.prog 78 #[.slice A n c, .int .i64 m] w fun e w' => e = .returned (.int .i64 (m + 2 * (n : Int))) ∧ w.grownBy w' (Value.slice A n c).ownBlock ∧ w'.ownsRow B 24 2 (.slice A n c) n ((mkPt m n).flatMap ptC) ∧ w'.heap.size = w.heap.size := by
  go_enter Try.func78, Try.ntmps78
  go_wp2_with fail
  go_loopw [1, 5] (fun k i wr => ∃ (q : Nat) (ys : List Value), i = .int .i64 q ∧ k = .int .i64 (m + 2 * q) ∧ q ≤ n ∧ wr.ownsRow B 24 2 (.slice A n c) n ys ∧ w.grownBy wr (Value.slice A n c).ownBlock ∧ wr.heap.size = w.heap.size ∧ (∀ j, j < q → ys[j * 2]? = some (.int .i64 ((m + 2 * (j : Int)))) ∧ ys[j * 2 + 1]? = some (.int .i64 ((m + 2 * (j : Int)) + 1)))) (fun k i wr => n - (intOf i).toNat)
  case atStart => exact ⟨0, xs, rfl, by go_num, Nat.zero_le _, hown, World.grownBy.refl _ _, rfl, fun j hj => absurd hj (Nat.not_lt_zero j)⟩
  case round =>
    obtain ⟨q, ys, rfl, rfl, hq, ho, hg, hz, hall⟩ := hrel
    by_cases hlt : q < n
    · obtain ⟨g, rfl, hB, hgl, hnc, hcell, hfr⟩ := own_at ho (by omega)
      have hl := ho.1
      have c0 := hcell (q * 2) (by omega)
      have c1 := hcell (q * 2 + 1) (by omega)
      rw [List.getElem?_eq_getElem (by omega)] at c0 c1
      have f0 := hfr (q * 2)
      have f1 := hfr (q * 2 + 1)
      have s0 := ho.stored (q * 2) (.int .i64 ((m + 2 * q)))
      have s1 := s0.1.stored (q * 2 + 1) (.int .i64 ((m + 2 * q) + 1))
      generalize ys[q * 2] = v0 at c0
      generalize ys[q * 2 + 1] = v1 at c1
      replace s0 := Lib.hid s0
      replace s1 := Lib.hid s1
      replace hall := Lib.hid hall
      replace hl := Lib.hid hl
      replace hz := Lib.hid hz
      clear hcell hfr
      go_wp2_with fail
      go_roundw
      case rel =>
        refine ⟨q + 1, _, by go_num, by go_num, by omega, s1.out.1, ?_, by simpa using hz.out, fun j hj => ?_⟩
        · have e : (Value.slice (some ⟨g, 0, none⟩) n c).ownBlock = some g := rfl
          rw [e] at hg ⊢
          exact grown_mkPt hg (grown_mkPt s0.out.2 (s1.out.2))
        · have := hl.out
          rcases Nat.lt_or_ge j q with h | h
          · have hh := hall.out j h
            simp only [List.getElem?_set_ne (show q * 2 ≠ j * 2 by omega), List.getElem?_set_ne (show q * 2 ≠ j * 2 + 1 by omega), List.getElem?_set_ne (show q * 2 + 1 ≠ j * 2 by omega), List.getElem?_set_ne (show q * 2 + 1 ≠ j * 2 + 1 by omega)]
            exact hh
          · obtain rfl : j = q := by omega
            refine ⟨?_, ?_⟩ <;> simp [List.getElem?_set] <;> omega
      case measure => simp [intOf]; omega
    · have hqn : q = n := by omega
      replace hqn := Lib.hid hqn
      replace hall := Lib.hid hall
      replace hz := Lib.hid hz
      go_wp2_with fail
      go_ret
      have hq' := hqn.out
      subst hq'
      refine ⟨ret_int (by omega), hg, ?_, hz.out⟩
      have e : ys = (mkPt m q).flatMap ptC := flat_ext ptC_len (mkPt_length m q) ho.1 fun j a hj i hi => by
        have hjl := (List.getElem?_eq_some_iff.1 hj).1
        rw [mkPt_length] at hjl
        rw [mkPt_at m hjl] at hj
        injection hj with hj
        subst hj
        have hh := hall.out j hjl
        match i, hi with
        | 0, _ => exact hh.1
        | 1, _ => exact hh.2
      rw [← e]
      exact ho

end Go.Proofs.Ytmpnefjljmdflaa

