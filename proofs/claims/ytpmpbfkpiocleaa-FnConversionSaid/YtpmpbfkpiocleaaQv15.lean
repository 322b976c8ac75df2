/- The common point of two lines, both sides: the callers. Conditions: as each states. -/
import Derived.Deep.RegionLaw
import Derived.Test.YtpmpbfkpiocleaaQv14
namespace Go.Proofs.Ytpmpbfkpiocleaa
open Go.RowKit
set_option linter.unusedVariables false
set_option maxRecDepth 100000

abbrev Four (w : World) (a b : Nat) (x0 x1 y0 y1 : Int) : Prop := w.cell? ⟨a, 0, none⟩ = some (.int .i64 x0) ∧ w.cell? ⟨a, 1, none⟩ = some (.int .i64 x1) ∧ w.cell? ⟨b, 0, none⟩ = some (.int .i64 y0) ∧ w.cell? ⟨b, 1, none⟩ = some (.int .i64 y1)
theorem Four.alloc {w : World} {a b : Nat} {x0 x1 y0 y1 : Int} (h : Four w a b x0 x1 y0 y1) (ha : a < w.heap.size) (hb : b < w.heap.size) {o : Obj} : Four (w.alloc o) a b x0 x1 y0 y1 :=
  ⟨(World.cell?_alloc_lt _ _ _ ha).trans h.1, (World.cell?_alloc_lt _ _ _ ha).trans h.2.1, (World.cell?_alloc_lt _ _ _ hb).trans h.2.2.1, (World.cell?_alloc_lt _ _ _ hb).trans h.2.2.2⟩
end Go.Proofs.Ytpmpbfkpiocleaa

