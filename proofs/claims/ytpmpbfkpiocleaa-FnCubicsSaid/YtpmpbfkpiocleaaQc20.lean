/- Sizes, levels, points of curves: the reference's side. Conditions: as each states. -/
import Derived.Lib.QuietBelow
import Derived.Test.YtpmpbfkpiocleaaQc19
namespace Go.Proofs.Ytpmpbfkpiocleaa
open Go.RowKit
set_option linter.unusedVariables false
set_option maxRecDepth 100000

/-- a box with a curve -/
def QB (w : World) (p : Nat) (q : Qd) : Prop := w.heap[p]? = some (.cells #[.int .i64 q.ax, .int .i64 q.ay, .int .i64 q.bx, .int .i64 q.b, .int .i64 q.cx, .int .i64 q.cy] 48 (0, 0))
theorem QB.lt {w : World} {p : Nat} {q : Qd} (h : QB w p q) : p < w.heap.size := (Array.getElem?_eq_some_iff.1 h).1
theorem QB.below {w w' : World} {p : Nat} {q : Qd} (h : QB w p q) (hb : Below w.heap.size w w') : QB w' p q := (hb.block p h.lt).trans h
theorem QB.cells {w : World} {p : Nat} {q : Qd} (h : QB w p q) : w.cell? ⟨p, 0, none⟩ = some (.int .i64 q.ax) ∧ w.cell? ⟨p, 1, none⟩ = some (.int .i64 q.ay) ∧ w.cell? ⟨p, 2, none⟩ = some (.int .i64 q.bx) ∧ w.cell? ⟨p, 3, none⟩ = some (.int .i64 q.b) ∧ w.cell? ⟨p, 4, none⟩ = some (.int .i64 q.cx) ∧ w.cell? ⟨p, 5, none⟩ = some (.int .i64 q.cy) := by
  refine ⟨?_, ?_, ?_, ?_, ?_, ?_⟩ <;> (rw [Go.Joins.cell_of_block h]; rfl)

end Go.Proofs.Ytpmpbfkpiocleaa

