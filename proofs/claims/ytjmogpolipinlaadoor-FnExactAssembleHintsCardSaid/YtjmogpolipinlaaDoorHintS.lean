/- The laws' own functions on slices of instructions. Conditions: as each states. -/
import Derived.Test.YtjmogpolipinlaaDoorReadH
import Derived.Deep.RegionWith
import Derived.StillTailTactics
namespace Go.Proofs.YtjmogpolipinlaaDoor
open Go.RowKit
set_option linter.unusedVariables false
set_option maxRecDepth 100000

theorem grown_trans2 {a b c : World} {row : Option Nat} (h : a.grownBy b row) (k : b.grownBy c row) : a.grownBy c row :=
  ⟨k.os.trans h.os, k.tape.trans h.tape, k.output.trans h.output, Nat.le_trans h.size k.size, fun i hi hn => (k.block i (Nat.lt_of_lt_of_le hi h.size) hn).trans (h.block i hi hn)⟩

/-- the cells of a marked slice -/
def Marked (w : World) (A : Option Addr) (n : Nat) (m : Int) : Prop := 0 < n → ∃ b off, A = some ⟨b, off, none⟩ ∧ b < w.heap.size ∧ ∀ j, j < n → w.cell? ⟨b, off + j * 2, none⟩ = some (.int .i64 (m + 2 * j)) ∧ w.cell? ⟨b, off + j * 2 + 1, none⟩ = some (.int .i64 (m + 2 * j + 1))

theorem Marked.below {w w' : World} {A : Option Addr} {n : Nat} {m : Int} (h : Marked w A n m) (hb : Below w.heap.size w w') : Marked w' A n m := by
  intro hn
  obtain ⟨b, off, rfl, hlt, hc⟩ := h hn
  exact ⟨b, off, rfl, Nat.lt_of_lt_of_le hlt hb.size, fun j hj => ⟨(hb.cell (p := ⟨b, off + j * 2, none⟩) hlt).trans (hc j hj).1, (hb.cell (p := ⟨b, off + j * 2 + 1, none⟩) hlt).trans (hc j hj).2⟩⟩

end Go.Proofs.YtjmogpolipinlaaDoor
