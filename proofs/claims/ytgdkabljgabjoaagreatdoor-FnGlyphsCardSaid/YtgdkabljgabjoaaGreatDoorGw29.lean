/- The laws on the names of states. Conditions: as each states. -/
import Derived.BigQuiet
import Derived.Lib.SmallJoins
import Derived.Test.YtgdkabljgabjoaaGreatDoorGw08
import Derived.Test.YtgdkabljgabjoaaGreatDoorShelf
import Derived.Test.YtgdkabljgabjoaaGreatDoorGw01
import Derived.Test.YtgdkabljgabjoaaGreatDoorGw24
namespace Go.Proofs.YtgdkabljgabjoaaGreatDoor
open Go.RowKit
set_option linter.unusedVariables false
set_option maxRecDepth 100000

/-- r is the place of the first s in l, or -1 -/
def FirstAt (l : List ByteArray) (s : ByteArray) (r : Int) : Prop :=
  (r = -1 ∧ ∀ j, j < l.length → l.getD j ByteArray.empty ≠ s) ∨ ∃ k : Nat, r = k ∧ k < l.length ∧ l.getD k ByteArray.empty = s ∧ ∀ j, j < k → l.getD j ByteArray.empty ≠ s
theorem FirstAt.unique {l : List ByteArray} {s : ByteArray} {r r' : Int} (h : FirstAt l s r) (h' : FirstAt l s r') : r = r' := by
  rcases h with ⟨rfl, h⟩ | ⟨k, rfl, hk, h1, h2⟩ <;> rcases h' with ⟨rfl, h'⟩ | ⟨k', rfl, hk', h1', h2'⟩
  · rfl
  · exact absurd h1' (h k' hk')
  · exact absurd h1 (h' k hk)
  · rcases Nat.lt_trichotomy k k' with h | h | h
    · exact absurd h1 (h2' k h)
    · omega
    · exact absurd h1' (h2 k' h)

end Go.Proofs.YtgdkabljgabjoaaGreatDoor

/- The words of the codes, and the code with a word. Conditions: as each states. -/
namespace Go.Proofs.YtgdkabljgabjoaaGreatDoor
open Go.RowKit
set_option linter.unusedVariables false
set_option maxRecDepth 100000

/-- the cell of the library's greatest length holds a number -/
def MaxI (w : World) : Prop := ∃ m : Int, w.cell? ⟨0, 0, none⟩ = some (.int .i64 m)
theorem MaxI.kept {w w' : World} {B : Nat} (h : MaxI w) (hb : Below B w w') (hB : 0 < B) : MaxI w' := by
  obtain ⟨m, hm⟩ := h
  exact ⟨m, by rw [← hm]; exact hb.cell (p := ⟨0, 0, none⟩) hB⟩
theorem MaxI.lt {w : World} (h : MaxI w) : 0 < w.heap.size := by
  obtain ⟨m, hm⟩ := h
  exact cell_lt hm

end Go.Proofs.YtgdkabljgabjoaaGreatDoor

