/- Both halves of a cubic: the program's side. Conditions: as each states. -/
import Derived.Test.YtpmpbfkpiocleaaQv29
import Derived.Test.YtpmpbfkpiocleaaQv26
namespace Go.Proofs.Ytpmpbfkpiocleaa
open Go.RowKit
set_option linter.unusedVariables false
set_option maxRecDepth 100000

end Go.Proofs.Ytpmpbfkpiocleaa

