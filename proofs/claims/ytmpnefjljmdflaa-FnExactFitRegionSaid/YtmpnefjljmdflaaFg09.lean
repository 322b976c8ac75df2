/- Whether all numbers and all points of a list are small: both sides. Conditions: as each states. -/
import Derived.WalkSmall
import Derived.Test.YtmpnefjljmdflaaFg07
import Derived.Test.YtmpnefjljmdflaaFg08
namespace Go.Proofs.Ytmpnefjljmdflaa
open Go.RowKit
set_option linter.unusedVariables false
set_option maxRecDepth 100000

end Go.Proofs.Ytmpnefjljmdflaa

