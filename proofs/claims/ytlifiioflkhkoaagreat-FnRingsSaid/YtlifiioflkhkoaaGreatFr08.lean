/- Sums of points, sizes, levels, points of curves: the program's side. Conditions: as each states. -/
import Derived.Lib.QuietBelow
import Derived.BigRegion
import Derived.Deep.RegionHeld3
import Derived.Test.YtlifiioflkhkoaaGreatFr07
import Derived.Test.YtlifiioflkhkoaaGreatFr06
namespace Go.Proofs.YtlifiioflkhkoaaGreat
open Go.RowKit
set_option linter.unusedVariables false
set_option maxRecDepth 100000

/-- three points in a block, three numbers in another one -/
def Pts3 (w : World) (p : Nat) (x0 y0 x1 y1 x2 y2 : Int) : Prop := w.cell? ⟨p, 0, none⟩ = some (.int .i64 x0) ∧ w.cell? ⟨p, 1, none⟩ = some (.int .i64 y0) ∧ w.cell? ⟨p, 2, none⟩ = some (.int .i64 x1) ∧ w.cell? ⟨p, 3, none⟩ = some (.int .i64 y1) ∧ w.cell? ⟨p, 4, none⟩ = some (.int .i64 x2) ∧ w.cell? ⟨p, 5, none⟩ = some (.int .i64 y2) ∧ p < w.heap.size
theorem Pts3.below {w w' : World} {p : Nat} {x0 y0 x1 y1 x2 y2 : Int} (h : Pts3 w p x0 y0 x1 y1 x2 y2) (hb : Below w.heap.size w w') : Pts3 w' p x0 y0 x1 y1 x2 y2 := by
  obtain ⟨h0, h1, h2, h3, h4, h5, hl⟩ := h
  exact ⟨(hb.cell (p := ⟨p, 0, none⟩) hl).trans h0, (hb.cell (p := ⟨p, 1, none⟩) hl).trans h1, (hb.cell (p := ⟨p, 2, none⟩) hl).trans h2, (hb.cell (p := ⟨p, 3, none⟩) hl).trans h3, (hb.cell (p := ⟨p, 4, none⟩) hl).trans h4, (hb.cell (p := ⟨p, 5, none⟩) hl).trans h5, Nat.lt_of_lt_of_le hl hb.size⟩
def Nums3 (w : World) (p : Nat) (x0 x1 x2 : Int) : Prop := w.cell? ⟨p, 0, none⟩ = some (.int .i64 x0) ∧ w.cell? ⟨p, 1, none⟩ = some (.int .i64 x1) ∧ w.cell? ⟨p, 2, none⟩ = some (.int .i64 x2) ∧ p < w.heap.size
theorem Nums3.below {w w' : World} {p : Nat} {x0 x1 x2 : Int} (h : Nums3 w p x0 x1 x2) (hb : Below w.heap.size w w') : Nums3 w' p x0 x1 x2 := by
  obtain ⟨h0, h1, h2, hl⟩ := h
  exact ⟨(hb.cell (p := ⟨p, 0, none⟩) hl).trans h0, (hb.cell (p := ⟨p, 1, none⟩) hl).trans h1, (hb.cell (p := ⟨p, 2, none⟩) hl).trans h2, Nat.lt_of_lt_of_le hl hb.size⟩
end Go.Proofs.YtlifiioflkhkoaaGreat

/- Sizes, levels, points of curves: the program's side. Conditions: as each states. -/
namespace Go.Proofs.YtlifiioflkhkoaaGreat
open Go.RowKit
set_option linter.unusedVariables false
set_option maxRecDepth 100000

end Go.Proofs.YtlifiioflkhkoaaGreat

/- Sizes, levels, points of curves: the reference's side. Conditions: as each states. -/
namespace Go.Proofs.YtlifiioflkhkoaaGreat
open Go.RowKit
set_option linter.unusedVariables false
set_option maxRecDepth 100000

end Go.Proofs.YtlifiioflkhkoaaGreat

/- Corners of a path: both sides, walked. Conditions: as each states. -/
namespace Go.Proofs.YtlifiioflkhkoaaGreat
open Go.RowKit
set_option linter.unusedVariables false
set_option maxRecDepth 100000

end Go.Proofs.YtlifiioflkhkoaaGreat

/- Corners of a path: the program's side, walked. Conditions: as each states. -/
namespace Go.Proofs.YtlifiioflkhkoaaGreat
open Go.RowKit
set_option linter.unusedVariables false
set_option maxRecDepth 100000

end Go.Proofs.YtlifiioflkhkoaaGreat

