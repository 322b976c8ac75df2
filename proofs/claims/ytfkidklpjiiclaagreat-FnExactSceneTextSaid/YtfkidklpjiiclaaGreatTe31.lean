/- The loop that is fitted to a ring: the reference's side. Printed by mk_fr5.py. Conditions: as each states. -/
import Derived.Test.YtfkidklpjiiclaaGreatTe30
import Derived.Test.YtfkidklpjiiclaaGreatTe04
namespace Go.Proofs.YtfkidklpjiiclaaGreat
open Go.RowKit
set_option linter.unusedVariables false
set_option maxRecDepth 100000

/-- a loop's variable X and its row, in blocks behind it -/
def LoopB (w : World) (X : Nat) (A : Option Addr) (c : Nat) (K : List Knot) : Prop :=
  w.heap[X]? = some (.cells #[.slice A K.length c] 231 (0, 0)) ∧ w.ownsRow (X + 1) 238 3 (.slice A K.length c) K.length (K.flatMap knotC)
theorem LoopB.lt {w : World} {X c : Nat} {A : Option Addr} {K : List Knot} (h : LoopB w X A c K) : X < w.heap.size := (Array.getElem?_eq_some_iff.1 h.1).1
theorem LoopB.below {w w' : World} {X c : Nat} {A : Option Addr} {K : List Knot} (h : LoopB w X A c K) (hb : Below w.heap.size w w') : LoopB w' X A c K := ⟨(hb.block X h.lt).trans h.1, own_below h.2 hb⟩
theorem LoopB.cell {w : World} {X c : Nat} {A : Option Addr} {K : List Knot} (h : LoopB w X A c K) : w.cell? ⟨X, 0, none⟩ = some (.slice A K.length c) := by rw [Go.Joins.cell_of_block h.1]; rfl
theorem LoopB.free {w : World} {X c : Nat} {A : Option Addr} {K : List Knot} (h : LoopB w X A c K) : ∀ o, w.frozen? ⟨X, o, none⟩ = false := Go.Joins.unfrozen_of_block h.1
theorem LoopB.blk {w W w5 : World} {X c : Nat} {A : Option Addr} {K : List Knot} (h : LoopB w X A c K) (hW : Below w.heap.size w W) (hg : W.grownBy w5 (Value.slice A K.length c).ownBlock) : w5.heap[X]? = some (.cells #[.slice A K.length c] 231 (0, 0)) :=
  (hg.block X (Nat.lt_of_lt_of_le h.lt hW.size) (fun e => by have := (h.2.lt X e.symm).1; omega)).trans ((hW.block X h.lt).trans h.1)
end Go.Proofs.YtfkidklpjiiclaaGreat

