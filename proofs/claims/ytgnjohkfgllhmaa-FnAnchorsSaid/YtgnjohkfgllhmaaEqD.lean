/- Functions that compare two slices: the result says whether the lists are one. Conditions: as each states. -/
import Derived.Test.YtgnjohkfgllhmaaDat
import Derived.Test.YtgnjohkfgllhmaaProg
import Derived.RegionTactic
import Derived.ChangeAlike
import Derived.Outline
import Derived.BigQuiet
import Derived.Deep.QuietTactic
import Derived.WalkSmall
namespace Go.Proofs.Ytgnjohkfgllhmaa
open Go.RowKit
set_option linter.unusedVariables false
set_option maxRecDepth 100000

end Go.Proofs.Ytgnjohkfgllhmaa
