/- The laws' own functions on slices of Int64. Conditions: as each states. -/
import Derived.RegionTactic
import Derived.ChangeAlike
import Derived.Outline
import Derived.Deep.RegionWith
import Derived.StillTailTactics
import Derived.BigQuiet
import Derived.Deep.QuietTactic
import Derived.WalkSmall
import Derived.Test.YtgfbcbbcnineiaaGreatSc03
import Derived.Test.YtgfbcbbcnineiaaGreatProg
namespace Go.Proofs.YtgfbcbbcnineiaaGreat
open Go.RowKit
set_option linter.unusedVariables false
set_option maxRecDepth 100000

end Go.Proofs.YtgfbcbbcnineiaaGreat

