/- mapOutline, over whatever closure of points. Conditions: as it states. -/
import Derived.Test.YtgfbcbbcnineiaaGreatSc17
namespace Go.Proofs.YtgfbcbbcnineiaaGreat
open Go.RowKit
set_option linter.unusedVariables false
set_option maxRecDepth 100000

end Go.Proofs.YtgfbcbbcnineiaaGreat

