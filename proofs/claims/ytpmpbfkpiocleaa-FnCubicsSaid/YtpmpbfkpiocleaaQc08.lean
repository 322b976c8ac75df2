/- Whether all numbers and all points of a list are small: both sides. Conditions: as each states. -/
import Derived.WalkSmall
import Derived.Test.YtpmpbfkpiocleaaQc06
import Derived.Test.YtpmpbfkpiocleaaQc07
namespace Go.Proofs.Ytpmpbfkpiocleaa
open Go.RowKit
set_option linter.unusedVariables false
set_option maxRecDepth 100000

end Go.Proofs.Ytpmpbfkpiocleaa

