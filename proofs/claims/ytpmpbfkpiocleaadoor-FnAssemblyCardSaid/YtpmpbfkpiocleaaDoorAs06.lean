/- A state of the hint machine that came in, opened. No walk in sight. Conditions: none. -/
import Derived.RegionTactic
import Derived.ChangeAlike
import Derived.Outline
import Derived.Deep.RegionWith
import Derived.StillTailTactics
import Derived.Test.YtpmpbfkpiocleaaDoorAs05
import Derived.Test.YtpmpbfkpiocleaaDoorAs02
import Derived.Test.YtpmpbfkpiocleaaDoorProg
import Derived.Test.YtpmpbfkpiocleaaDoorAs04
namespace Go.Proofs.YtpmpbfkpiocleaaDoor
open Go.RowKit Go.ChangeShapes Go.WideShapes Go.Deep
set_option linter.unusedVariables false
set_option maxRecDepth 100000

end Go.Proofs.YtpmpbfkpiocleaaDoor

/- The laws' own functions on slices of Knot. Conditions: as each states. -/
namespace Go.Proofs.YtpmpbfkpiocleaaDoor
open Go.RowKit
set_option linter.unusedVariables false
set_option maxRecDepth 100000

end Go.Proofs.YtpmpbfkpiocleaaDoor

