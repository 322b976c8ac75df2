/- An outline and a point that came in, opened. No walk in sight. Conditions: none. -/
import Derived.Deep.RegionWith
import Derived.StillTailTactics
import Derived.RegionTactic
import Derived.ChangeAlike
import Derived.Outline
import Derived.Test.YtpmpbfkpiocleaaDoorAs06
import Derived.Test.YtpmpbfkpiocleaaDoorAs11
import Derived.Test.YtpmpbfkpiocleaaDoorAs08
import Derived.Test.YtpmpbfkpiocleaaDoorAs02
import Derived.Test.YtpmpbfkpiocleaaDoorProg
import Derived.Test.YtpmpbfkpiocleaaDoorAs04
namespace Go.Proofs.YtpmpbfkpiocleaaDoor
open Go.RowKit Go.ChangeShapes Go.WideShapes Go.Deep
set_option linter.unusedVariables false
set_option maxRecDepth 100000

end Go.Proofs.YtpmpbfkpiocleaaDoor

/- Two outlines compared by the laws' functions. Conditions: as each states. -/
namespace Go.Proofs.YtpmpbfkpiocleaaDoor
open Go.RowKit
set_option linter.unusedVariables false
set_option maxRecDepth 100000

end Go.Proofs.YtpmpbfkpiocleaaDoor

/- The laws' own functions on slices of Part. Conditions: as each states. -/
namespace Go.Proofs.YtpmpbfkpiocleaaDoor
open Go.RowKit
set_option linter.unusedVariables false
set_option maxRecDepth 100000

end Go.Proofs.YtpmpbfkpiocleaaDoor

