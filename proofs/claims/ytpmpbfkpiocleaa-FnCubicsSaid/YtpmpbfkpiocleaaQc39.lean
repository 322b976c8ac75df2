/- mapOutline, over whatever closure of points. Conditions: as it states. -/
import Derived.Test.YtpmpbfkpiocleaaQc38
namespace Go.Proofs.Ytpmpbfkpiocleaa
open Go.RowKit
set_option linter.unusedVariables false
set_option maxRecDepth 100000

end Go.Proofs.Ytpmpbfkpiocleaa

