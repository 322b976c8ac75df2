/- The small functions of curves, both sides. Conditions: as each states. -/
import Derived.StillTailTactics
import Derived.Deep.RegionHeld3
import Derived.Deep.DeepCutAuto
import Derived.Deep.RegionLaw
import Derived.Test.YtfkidklpjiiclaaGreatTe16
import Derived.Test.YtfkidklpjiiclaaGreatTe08
namespace Go.Proofs.YtfkidklpjiiclaaGreat
open Go.RowKit
set_option linter.unusedVariables false
set_option maxRecDepth 100000

/-- a box with a point -/
def PB (w : World) (b : Nat) (x y : Int) : Prop := w.heap[b]? = some (.cells #[.int .i64 x, .int .i64 y] 148 (0, 0))
theorem PB.below {w w' : World} {b : Nat} {x y : Int} (h : PB w b x y) (hb : Below w.heap.size w w') : PB w' b x y := by
  have hl : b < w.heap.size := (Array.getElem?_eq_some_iff.1 h).1
  exact (hb.block b hl).trans h
theorem PB.cells {w : World} {b : Nat} {x y : Int} (h : PB w b x y) : w.cell? ⟨b, 0, none⟩ = some (.int .i64 x) ∧ w.cell? ⟨b, 1, none⟩ = some (.int .i64 y) ∧ (∀ o, w.frozen? ⟨b, o, none⟩ = false) ∧ b < w.heap.size :=
  ⟨by rw [Go.Joins.cell_of_block h]; rfl, by rw [Go.Joins.cell_of_block h]; rfl, Go.Joins.unfrozen_of_block h, (Array.getElem?_eq_some_iff.1 h).1⟩
theorem PB.put {w : World} {b : Nat} {x y : Int} (h : PB w b x y) (x' y' : Int) : PB ((w.setCell ⟨b, 0, none⟩ (.int .i64 x')).setCell ⟨b, 1, none⟩ (.int .i64 y')) b x' y' :=
  Go.Joins.block_setCell (Go.Joins.block_setCell h (.int .i64 x')) (.int .i64 y')
theorem PB.off {w : World} {b : Nat} {x y : Int} (h : PB w b x y) {c o : Nat} {v : Value} (hc : b ≠ c) : PB (w.setCell ⟨c, o, none⟩ v) b x y := (Below.heap_setCell w ⟨c, o, none⟩ v b hc).trans h
theorem PB.drew {w : World} {b : Nat} {x y : Int} (h : PB w b x y) : PB w.drew b x y := h
theorem PB.alloc {w : World} {b : Nat} {x y : Int} (h : PB w b x y) (o : Obj) : PB (w.alloc o) b x y := h.below (Go.Joins.below_alloc1 _ _)
theorem wi {n : Int} (h : -9223372036854775808 ≤ n ∧ n ≤ 9223372036854775807) : IntKind.i64.wrap n = n := IntWalk.i64_in _ (by omega)

end Go.Proofs.YtfkidklpjiiclaaGreat

/- The common point of two lines, both sides. Conditions: as each states. -/
namespace Go.Proofs.YtfkidklpjiiclaaGreat
open Go.RowKit
set_option linter.unusedVariables false
set_option maxRecDepth 100000

end Go.Proofs.YtfkidklpjiiclaaGreat

/- The common point of two lines, both sides: the callers. Conditions: as each states. -/
namespace Go.Proofs.YtfkidklpjiiclaaGreat
open Go.RowKit
set_option linter.unusedVariables false
set_option maxRecDepth 100000

abbrev Four (w : World) (a b : Nat) (x0 x1 y0 y1 : Int) : Prop := w.cell? ⟨a, 0, none⟩ = some (.int .i64 x0) ∧ w.cell? ⟨a, 1, none⟩ = some (.int .i64 x1) ∧ w.cell? ⟨b, 0, none⟩ = some (.int .i64 y0) ∧ w.cell? ⟨b, 1, none⟩ = some (.int .i64 y1)
theorem Four.alloc {w : World} {a b : Nat} {x0 x1 y0 y1 : Int} (h : Four w a b x0 x1 y0 y1) (ha : a < w.heap.size) (hb : b < w.heap.size) {o : Obj} : Four (w.alloc o) a b x0 x1 y0 y1 :=
  ⟨(World.cell?_alloc_lt _ _ _ ha).trans h.1, (World.cell?_alloc_lt _ _ _ ha).trans h.2.1, (World.cell?_alloc_lt _ _ _ hb).trans h.2.2.1, (World.cell?_alloc_lt _ _ _ hb).trans h.2.2.2⟩
end Go.Proofs.YtfkidklpjiiclaaGreat

