/- copyOutline, walked. Conditions: as it states. -/
import Derived.StillTailTactics
import Derived.Deep.RegionHeld3
import Derived.Test.YtgfbcbbcnineiaaGreatSc16
namespace Go.Proofs.YtgfbcbbcnineiaaGreat
open Go.RowKit
set_option linter.unusedVariables false
set_option maxRecDepth 100000

end Go.Proofs.YtgfbcbbcnineiaaGreat

