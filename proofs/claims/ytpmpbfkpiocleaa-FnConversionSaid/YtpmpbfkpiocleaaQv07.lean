/- Whether all numbers and all points of a list are small: both sides. Conditions: as each states. -/
import Derived.WalkSmall
import Derived.Test.YtpmpbfkpiocleaaQv05
import Derived.Test.YtpmpbfkpiocleaaQv06
namespace Go.Proofs.Ytpmpbfkpiocleaa
open Go.RowKit
set_option linter.unusedVariables false
set_option maxRecDepth 100000

end Go.Proofs.Ytpmpbfkpiocleaa

