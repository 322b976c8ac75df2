/- The laws' own functions on slices of instructions. Conditions: as each states. -/
import Derived.Test.YtjlkdmnellbaeaaReadH
import Derived.Deep.RegionWith
import Derived.StillTailTactics
namespace Go.Proofs.Ytjlkdmnellbaeaa
open Go.RowKit
set_option linter.unusedVariables false

theorem grown_trans2 {a b c : World} {row : Option Nat} (h : a.grownBy b row) (k : b.grownBy c row) : a.grownBy c row :=
  ⟨k.os.trans h.os, k.tape.trans h.tape, k.output.trans h.output, Nat.le_trans h.size k.size, fun i hi hn => (k.block i (Nat.lt_of_lt_of_le hi h.size) hn).trans (h.block i hi hn)⟩

theorem eqHint_any (c o : Int) (w : World) :
    Calls Try.prog 69 #[hintV c o, hintV c o] w fun e w' => e = .returned (.bool true) ∧ Below w.heap.size w w' := by
  go_enter Try.func69, Try.ntmps69
  go_wp2
  go_ret
  refine ⟨rfl, ?_⟩
  repeat (first | exact Below.refl _ _ | refine Below.alloc ?_ (by simp <;> omega) _ | refine Below.drew ?_)

theorem eqHintS_any (A A' : Option Addr) (n c c' : Nat) (L : List (Int × Int)) (w : World) (h1 : RdH w A n L) (h2 : RdH w A' n L) (hn : n ≤ 1000000000) :
    Calls Try.prog 38 #[.slice A n c, .slice A' n c'] w fun e w' => e = .returned (.bool true) ∧ Below w.heap.size w w' := by
  go_enter Try.func38, Try.ntmps38
  go_wp2_with fail
  go_loopw [5] (fun i wr => ∃ k : Nat, i = .int .i64 k ∧ k ≤ n ∧ Below w.heap.size w wr) (fun i wr => n - (intOf i).toNat)
  case atStart => exact ⟨0, rfl, Nat.zero_le _, Below.refl _ _⟩
  case round =>
    obtain ⟨k, rfl, hk, hbel⟩ := hrel
    by_cases hlt : k < n
    · obtain ⟨_, h1⟩ := h1.below hbel
      obtain ⟨b, off, rfl, hb, h1⟩ := h1 (by omega)
      obtain ⟨_, h2⟩ := h2.below hbel
      obtain ⟨b', off', rfl, hb', h2⟩ := h2 (by omega)
      obtain ⟨q1, q2⟩ := h1 k hlt
      obtain ⟨q3, q4⟩ := h2 k hlt
      clear h1 h2
      generalize L.getD k (0, 0) = p at q1 q2 q3 q4
      have hi : (0 : Int) ≤ (k : Int) ∧ (k : Int) < (n : Int) := by omega
      go_wp2_with fail
      go_still_tail 8, (by kernel_rfl)
      go_wp2_with (go_at_call 69; refine (eqHint_any _ _ _).mono ?_; rintro e w1 ⟨rfl, hb1⟩)
      go_roundw
      case rel => exact ⟨k + 1, by go_num, by omega, hbel.drew.trans (hb1.mono (by simp; exact hbel.size))⟩
      case measure => simp [intOf]; omega
    · go_wp2_with fail
      go_ret
      exact ⟨rfl, hbel⟩

/-- the cells of a marked slice -/
def Marked (w : World) (A : Option Addr) (n : Nat) (m : Int) : Prop := 0 < n → ∃ b off, A = some ⟨b, off, none⟩ ∧ b < w.heap.size ∧ ∀ j, j < n → w.cell? ⟨b, off + j * 2, none⟩ = some (.int .i64 (m + 2 * j)) ∧ w.cell? ⟨b, off + j * 2 + 1, none⟩ = some (.int .i64 (m + 2 * j + 1))

theorem Marked.below {w w' : World} {A : Option Addr} {n : Nat} {m : Int} (h : Marked w A n m) (hb : Below w.heap.size w w') : Marked w' A n m := by
  intro hn
  obtain ⟨b, off, rfl, hlt, hc⟩ := h hn
  exact ⟨b, off, rfl, Nat.lt_of_lt_of_le hlt hb.size, fun j hj => ⟨(hb.cell (p := ⟨b, off + j * 2, none⟩) hlt).trans (hc j hj).1, (hb.cell (p := ⟨b, off + j * 2 + 1, none⟩) hlt).trans (hc j hj).2⟩⟩

theorem markHintS_any (A : Option Addr) (n c B : Nat) (xs : List Value) (m : Int) (w : World) (hown : w.ownsRow B 29 2 (.slice A n c) n xs) (hm0 : 0 ≤ m) (hm : m ≤ 1000000) (hn : n ≤ 1000000000) :
    Calls Try.prog 41 #[.slice A n c, .int .i64 m] w fun e w' => e = .returned (.int .i64 (m + 2 * n)) ∧ w.grownBy w' (Value.slice A n c).ownBlock ∧ Marked w' A n m := by
  go_enter Try.func41, Try.ntmps41
  go_wp2_with fail
  go_loopw [1, 5] (fun k i wr => ∃ (q : Nat) (ys : List Value), i = .int .i64 q ∧ k = .int .i64 (m + 2 * q) ∧ q ≤ n ∧ wr.ownsRow B 29 2 (.slice A n c) n ys ∧ w.grownBy wr (Value.slice A n c).ownBlock ∧ (∀ j, j < q → ys[j * 2]? = some (.int .i64 (m + 2 * j)) ∧ ys[j * 2 + 1]? = some (.int .i64 (m + 2 * j + 1)))) (fun k i wr => n - (intOf i).toNat)
  case atStart => exact ⟨0, xs, rfl, by go_num, Nat.zero_le _, hown, World.grownBy.refl _ _, fun j hj => absurd hj (Nat.not_lt_zero j)⟩
  case round =>
    obtain ⟨q, ys, rfl, rfl, hq, ho, hg, hall⟩ := hrel
    by_cases hlt : q < n
    · obtain ⟨g, rfl, hB, hgl, hnc, hcell, hfr⟩ := own_addr ho (by omega)
      have hl := ho.1
      have c1 := hcell (q * 2) (by omega)
      have c2 := hcell (q * 2 + 1) (by omega)
      rw [List.getElem?_eq_getElem (by omega)] at c1 c2
      have f1 := hfr (q * 2)
      have f2 := hfr (q * 2 + 1)
      have s1 := ho.stored (q * 2) (.int .i64 (m + 2 * q))
      have s2 := s1.1.stored (q * 2 + 1) (.int .i64 (m + 2 * q + 1))
      generalize ys[q * 2] = v1 at c1
      generalize ys[q * 2 + 1] = v2 at c2
      replace s1 := Lib.hid s1
      replace s2 := Lib.hid s2
      replace hall := Lib.hid hall
      replace hl := Lib.hid hl
      clear hcell hfr
      go_wp2_with fail
      go_roundw
      case rel =>
        refine ⟨q + 1, _, by go_num, by go_num, by omega, s2.out.1, ?_, fun j hj => ?_⟩
        · have e : (Value.slice (some ⟨g, 0, none⟩) n c).ownBlock = some g := rfl
          rw [e] at hg ⊢
          exact grown_trans2 hg (grown_trans2 s1.out.2 s2.out.2)
        · have := hl.out
          rcases Nat.lt_or_ge j q with h | h
          · rw [List.getElem?_set_ne (by omega), List.getElem?_set_ne (by omega), List.getElem?_set_ne (by omega), List.getElem?_set_ne (by omega)]
            exact hall.out j h
          · obtain rfl : j = q := by omega
            rw [List.getElem?_set_ne (by omega), List.getElem?_set_self (by omega), List.getElem?_set_self (by simp; omega)]
            exact ⟨rfl, rfl⟩
      case measure => simp [intOf]; omega
    · have hqn : q = n := by omega
      replace hqn := Lib.hid hqn
      replace hall := Lib.hid hall
      go_wp2_with fail
      go_ret
      refine ⟨ret_int (by have := hqn.out; omega), hg, fun hn0 => ?_⟩
      obtain ⟨g, rfl, hB, hgl, hnc, hcell, hfr⟩ := own_addr ho hn0
      refine ⟨g, 0, rfl, hgl, fun j hj => ?_⟩
      rw [Nat.zero_add, hcell _ (by omega), hcell _ (by omega)]
      exact hall.out j (by have := hqn.out; omega)

theorem heldHintS_any (A : Option Addr) (n c : Nat) (m : Int) (w : World) (hmk : Marked w A n m) (hm0 : 0 ≤ m) (hm : m ≤ 1000000) (hn : n ≤ 1000000000) :
    Calls Try.prog 42 #[.slice A n c, .int .i64 m] w fun e w' => e = .returned (.int .i64 (m + 2 * n)) ∧ w = w' := by
  go_enter Try.func42, Try.ntmps42
  go_wp2_with fail
  go_loop [1, 5] (fun k i => ∃ (q : Nat), i = .int .i64 q ∧ k = .int .i64 (m + 2 * q) ∧ q ≤ n) (fun k i => n - (intOf i).toNat)
  case atStart => exact ⟨0, rfl, by go_num, Nat.zero_le _⟩
  case round =>
    obtain ⟨q, rfl, rfl, hq⟩ := hrel
    by_cases hlt : q < n
    · obtain ⟨b, off, rfl, _, hc⟩ := hmk (by omega)
      obtain ⟨c1, c2⟩ := hc q hlt
      clear hc
      go_wp2_with fail
      go_round
      case rel => exact ⟨q + 1, by go_num, by go_num, by omega⟩
      case measure => simp [intOf]; omega
    · have hqn : q = n := by omega
      replace hqn := Lib.hid hqn
      clear hmk
      go_wp2_with fail
      go_ret
      exact ⟨ret_int (by have := hqn.out; omega), rfl⟩
end Go.Proofs.Ytjlkdmnellbaeaa
