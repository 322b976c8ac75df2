/- A curve near a path, the reference's side. Conditions: as each states. -/
import Derived.Test.YtpmpbfkpiocleaaQv21
namespace Go.Proofs.Ytpmpbfkpiocleaa
open Go.RowKit
set_option linter.unusedVariables false
set_option maxRecDepth 100000

end Go.Proofs.Ytpmpbfkpiocleaa

