/- The laws' own functions on slices of Knot. Conditions: as each states. -/
import Derived.RegionTactic
import Derived.ChangeAlike
import Derived.Outline
import Derived.Deep.RegionWith
import Derived.StillTailTactics
import Derived.WalkSmall
import Derived.Test.YtpmpbfkpiocleaaQv02
import Derived.Test.YtpmpbfkpiocleaaProg
namespace Go.Proofs.Ytpmpbfkpiocleaa
open Go.RowKit
set_option linter.unusedVariables false
set_option maxRecDepth 100000

end Go.Proofs.Ytpmpbfkpiocleaa

/- Outlines in memory: slices of loops, each a slice of knots; the laws' own functions on them. Conditions: as each states. -/
namespace Go.Proofs.Ytpmpbfkpiocleaa
open Go.RowKit
set_option linter.unusedVariables false
set_option maxRecDepth 100000

abbrev Knot := Int × Int × Bool
/-- a loop is a slice of knots -/
abbrev loopR : Rel (List Knot) := SliceR 3 (FlatR knotC)
theorem good_loop : Good loopR := good_slice 3 (good_flat _)
/-- the loops of an outline -/
abbrev OutRd (w : World) (lo hi : Nat) (A : Option Addr) (n : Nat) (Ls : List (List Knot)) : Prop := RdS 1 loopR w lo hi A n Ls
end Go.Proofs.Ytpmpbfkpiocleaa

