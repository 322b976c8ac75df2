/- Functions that compare two slices: the result says whether the lists are one. Conditions: as each states. -/
import Derived.RegionTactic
import Derived.ChangeAlike
import Derived.Outline
import Derived.BigQuiet
import Derived.Deep.QuietTactic
import Derived.WalkSmall
import Derived.Test.YtgdkabljgabjoaaGreatDoorRa01
import Derived.Test.YtgdkabljgabjoaaGreatDoorProg
namespace Go.Proofs.YtgdkabljgabjoaaGreatDoor
open Go.RowKit
set_option linter.unusedVariables false
set_option maxRecDepth 100000

end Go.Proofs.YtgdkabljgabjoaaGreatDoor

