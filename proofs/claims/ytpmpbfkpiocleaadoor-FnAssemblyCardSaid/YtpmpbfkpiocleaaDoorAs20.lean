/- Contracts of the small functions on numbers: what each returns. Conditions: as each states. -/
import Derived.BigQuiet
import Derived.Outline
import Derived.Test.YtpmpbfkpiocleaaDoorAs01
import Derived.Test.YtpmpbfkpiocleaaDoorProg
namespace Go.Proofs.YtpmpbfkpiocleaaDoor
open Go.RowKit
set_option linter.unusedVariables false
set_option maxRecDepth 100000

/-! ### scaling -/
/-! ### the two laws -/
end Go.Proofs.YtpmpbfkpiocleaaDoor

