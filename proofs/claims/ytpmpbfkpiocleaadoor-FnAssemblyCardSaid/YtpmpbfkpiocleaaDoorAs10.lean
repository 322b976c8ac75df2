/- slices.Clone at knots; the sums of points. Conditions: as each states. -/
import Derived.Deep.RegionLaw
import Derived.StillTailTactics
import Derived.Deep.RegionHeld3
import Derived.Test.YtpmpbfkpiocleaaDoorAs09
namespace Go.Proofs.YtpmpbfkpiocleaaDoor
open Go.RowKit
set_option linter.unusedVariables false
set_option maxRecDepth 100000

end Go.Proofs.YtpmpbfkpiocleaaDoor

/- copyOutline. Conditions: as each states. -/
namespace Go.Proofs.YtpmpbfkpiocleaaDoor
open Go.RowKit
set_option linter.unusedVariables false
set_option maxRecDepth 100000

end Go.Proofs.YtpmpbfkpiocleaaDoor

/- copyOutline, walked. Conditions: as it states. -/
namespace Go.Proofs.YtpmpbfkpiocleaaDoor
open Go.RowKit
set_option linter.unusedVariables false
set_option maxRecDepth 100000

end Go.Proofs.YtpmpbfkpiocleaaDoor

