/- The laws' own functions on slices of Pt. Conditions: as each states. -/
import Derived.RegionTactic
import Derived.ChangeAlike
import Derived.Outline
import Derived.Deep.RegionWith
import Derived.StillTailTactics
import Derived.Test.YtpmpbfkpiocleaaDoorAs02
import Derived.Test.YtpmpbfkpiocleaaDoorProg
namespace Go.Proofs.YtpmpbfkpiocleaaDoor
open Go.RowKit
set_option linter.unusedVariables false
set_option maxRecDepth 100000

end Go.Proofs.YtpmpbfkpiocleaaDoor

