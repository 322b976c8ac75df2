/- A region that draws its order, whose last operations wait for all that stand ahead of them, and whose head only reads and makes memory: its head in the text's order, its tail behind it. No program in sight. Conditions: as each states. -/
import Derived.Lib.QuietBelow
import Derived.Test.YtpmpbfkpiocleaaQv26
import Derived.Test.YtpmpbfkpiocleaaQv13
import Derived.Test.YtpmpbfkpiocleaaQv03
namespace Go.Proofs.Ytpmpbfkpiocleaa
open Go.RowKit
set_option linter.unusedVariables false
set_option maxRecDepth 100000

end Go.Proofs.Ytpmpbfkpiocleaa

/- Regions, the rings along loops, the distance of both: the numbers alone. Conditions: as each states. -/
namespace Go.Proofs.Ytpmpbfkpiocleaa
open Go.RowKit
set_option linter.unusedVariables false
set_option maxRecDepth 100000

/-! ### edges -/
/-! ### the knots of a loop with those between -/
/-! ### segments -/
/-! ### the distance of a region and an outline -/
end Go.Proofs.Ytpmpbfkpiocleaa

