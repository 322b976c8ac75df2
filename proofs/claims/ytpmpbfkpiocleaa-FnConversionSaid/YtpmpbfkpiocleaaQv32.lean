/- An outline and a point that came in, opened. No walk in sight. Conditions: none. -/
import Derived.Deep.RegionWith
import Derived.StillTailTactics
import Derived.RegionTactic
import Derived.ChangeAlike
import Derived.Outline
import Derived.Test.YtpmpbfkpiocleaaQv29
import Derived.Test.YtpmpbfkpiocleaaQv31
import Derived.Test.YtpmpbfkpiocleaaQv04
import Derived.Test.YtpmpbfkpiocleaaQv02
import Derived.Test.YtpmpbfkpiocleaaProg
namespace Go.Proofs.Ytpmpbfkpiocleaa
open Go.RowKit Go.ChangeShapes Go.WideShapes Go.Deep
set_option linter.unusedVariables false
set_option maxRecDepth 100000

end Go.Proofs.Ytpmpbfkpiocleaa

/- Two outlines compared by the laws' functions. Conditions: as each states. -/
namespace Go.Proofs.Ytpmpbfkpiocleaa
open Go.RowKit
set_option linter.unusedVariables false
set_option maxRecDepth 100000

end Go.Proofs.Ytpmpbfkpiocleaa

/- The laws' own functions on slices of Part. Conditions: as each states. -/
namespace Go.Proofs.Ytpmpbfkpiocleaa
open Go.RowKit
set_option linter.unusedVariables false
set_option maxRecDepth 100000

end Go.Proofs.Ytpmpbfkpiocleaa

/- The laws' own functions on slices of Anchor. Conditions: as each states. -/
namespace Go.Proofs.Ytpmpbfkpiocleaa
open Go.RowKit
set_option linter.unusedVariables false
set_option maxRecDepth 100000

end Go.Proofs.Ytpmpbfkpiocleaa

