/- The ring along a loop: the program's side. Printed by mk_sg2.py. Conditions: as each states. -/
import Derived.Test.YtfkidklpjiiclaaGreatTe42
namespace Go.Proofs.YtfkidklpjiiclaaGreat
open Go.RowKit
set_option linter.unusedVariables false
set_option maxRecDepth 100000

/-- a ring's variable X and its row, in blocks from B on -/
def RingC (w : World) (X B : Nat) (A : Option Addr) (c : Nat) (L : List Pnt) : Prop :=
  w.heap[X]? = some (.cells #[.slice A L.length c] 155 (0, 0)) ∧ w.ownsRow B 148 2 (.slice A L.length c) L.length (L.flatMap ptC)
theorem RingC.lt {w : World} {X B c : Nat} {A : Option Addr} {L : List Pnt} (h : RingC w X B A c L) : X < w.heap.size := (Array.getElem?_eq_some_iff.1 h.1).1
theorem RingC.below {w w' : World} {X B c : Nat} {A : Option Addr} {L : List Pnt} (h : RingC w X B A c L) (hb : Below w.heap.size w w') : RingC w' X B A c L := ⟨(hb.block X h.lt).trans h.1, own_below h.2 hb⟩
theorem RingC.cell {w : World} {X B c : Nat} {A : Option Addr} {L : List Pnt} (h : RingC w X B A c L) : w.cell? ⟨X, 0, none⟩ = some (.slice A L.length c) := by rw [Go.Joins.cell_of_block h.1]; rfl
theorem RingC.free {w : World} {X B c : Nat} {A : Option Addr} {L : List Pnt} (h : RingC w X B A c L) : ∀ o, w.frozen? ⟨X, o, none⟩ = false := Go.Joins.unfrozen_of_block h.1
theorem RingC.blk {w W w5 : World} {X B c : Nat} {A : Option Addr} {L : List Pnt} (h : RingC w X B A c L) (hX : X < B) (hW : Below w.heap.size w W) (hg : W.grownBy w5 (Value.slice A L.length c).ownBlock) : w5.heap[X]? = some (.cells #[.slice A L.length c] 155 (0, 0)) :=
  (hg.block X (Nat.lt_of_lt_of_le h.lt hW.size) (fun e => by have := (h.2.lt X e.symm).1; omega)).trans ((hW.block X h.lt).trans h.1)
end Go.Proofs.YtfkidklpjiiclaaGreat

