/- Outlines in memory: slices of loops, each a slice of knots; the laws' own functions on them. Conditions: as each states. -/
import Derived.WalkSmall
import Derived.Test.YtpmpbfkpiocleaaDoorAs06
namespace Go.Proofs.YtpmpbfkpiocleaaDoor
open Go.RowKit
set_option linter.unusedVariables false
set_option maxRecDepth 100000

abbrev Knot := Int × Int × Bool
/-- a loop is a slice of knots -/
abbrev loopR : Rel (List Knot) := SliceR 3 (FlatR knotC)
theorem good_loop : Good loopR := good_slice 3 (good_flat _)
/-- the loops of an outline -/
abbrev OutRd (w : World) (lo hi : Nat) (A : Option Addr) (n : Nat) (Ls : List (List Knot)) : Prop := RdS 1 loopR w lo hi A n Ls
end Go.Proofs.YtpmpbfkpiocleaaDoor

