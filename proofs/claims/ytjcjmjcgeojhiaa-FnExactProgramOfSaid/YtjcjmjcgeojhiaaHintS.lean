/- The laws' own functions on slices of instructions. Conditions: as each states. -/
import Derived.Test.YtjcjmjcgeojhiaaReadH
import Derived.Deep.RegionWith
import Derived.StillTailTactics
namespace Go.Proofs.Ytjcjmjcgeojhiaa
open Go.RowKit
set_option linter.unusedVariables false
set_option maxRecDepth 100000

theorem grown_trans2 {a b c : World} {row : Option Nat} (h : a.grownBy b row) (k : b.grownBy c row) : a.grownBy c row :=
  ⟨k.os.trans h.os, k.tape.trans h.tape, k.output.trans h.output, Nat.le_trans h.size k.size, fun i hi hn => (k.block i (Nat.lt_of_lt_of_le hi h.size) hn).trans (h.block i hi hn)⟩

theorem eqHint_any (c o : Int) (w : World) :
    Calls Try.prog 82 #[hintV c o, hintV c o] w fun e w' => e = .returned (.bool true) ∧ Below w.heap.size w w' := by
  go_enter Try.func82, Try.ntmps82
  go_wp2
  go_ret
  refine ⟨rfl, ?_⟩
  repeat (first | exact Below.refl _ _ | refine Below.alloc ?_ (by simp <;> omega) _ | refine Below.drew ?_)

theorem eqHintS_any (A A' : Option Addr) (n c c' : Nat) (L : List (Int × Int)) (w : World) (h1 : RdH w A n L) (h2 : RdH w A' n L) (hn : n ≤ 1000000000) :
    Calls Try.prog 23 #[.slice A n c, .slice A' n c'] w fun e w' => e = .returned (.bool true) ∧ Below w.heap.size w w' := by
  go_enter Try.func23, Try.ntmps23
  go_wp2_with fail
  go_loopw [5] (fun i wr => ∃ k : Nat, i = .int .i64 k ∧ k ≤ n ∧ Below w.heap.size w wr) (fun i wr => n - (intOf i).toNat)
  case atStart => exact ⟨0, rfl, Nat.zero_le _, Below.refl _ _⟩
  case round =>
    obtain ⟨k, rfl, hk, hbel⟩ := hrel
    by_cases hlt : k < n
    · obtain ⟨_, h1⟩ := h1.below hbel
      obtain ⟨b, off, rfl, hb, h1⟩ := h1 (by omega)
      obtain ⟨_, h2⟩ := h2.below hbel
      obtain ⟨b', off', rfl, hb', h2⟩ := h2 (by omega)
      obtain ⟨q1, q2⟩ := h1 k hlt
      obtain ⟨q3, q4⟩ := h2 k hlt
      clear h1 h2
      generalize L.getD k (0, 0) = p at q1 q2 q3 q4
      have hi : (0 : Int) ≤ (k : Int) ∧ (k : Int) < (n : Int) := by omega
      go_wp2_with fail
      go_still_tail 8, (by kernel_rfl)
      go_wp2_with (go_at_call 82; refine (eqHint_any _ _ _).mono ?_; rintro e w1 ⟨rfl, hb1⟩)
      go_roundw
      case rel => exact ⟨k + 1, by go_num, by omega, hbel.drew.trans (hb1.mono (by simp; exact hbel.size))⟩
      case measure => simp [intOf]; omega
    · go_wp2_with fail
      go_ret
      exact ⟨rfl, hbel⟩

/-- the cells of a marked slice -/
def Marked (w : World) (A : Option Addr) (n : Nat) (m : Int) : Prop := 0 < n → ∃ b off, A = some ⟨b, off, none⟩ ∧ b < w.heap.size ∧ ∀ j, j < n → w.cell? ⟨b, off + j * 2, none⟩ = some (.int .i64 (m + 2 * j)) ∧ w.cell? ⟨b, off + j * 2 + 1, none⟩ = some (.int .i64 (m + 2 * j + 1))

theorem Marked.below {w w' : World} {A : Option Addr} {n : Nat} {m : Int} (h : Marked w A n m) (hb : Below w.heap.size w w') : Marked w' A n m := by
  intro hn
  obtain ⟨b, off, rfl, hlt, hc⟩ := h hn
  exact ⟨b, off, rfl, Nat.lt_of_lt_of_le hlt hb.size, fun j hj => ⟨(hb.cell (p := ⟨b, off + j * 2, none⟩) hlt).trans (hc j hj).1, (hb.cell (p := ⟨b, off + j * 2 + 1, none⟩) hlt).trans (hc j hj).2⟩⟩

end Go.Proofs.Ytjcjmjcgeojhiaa
