/- An outline's text read, the reference's side. Conditions: as each states. -/
import Derived.Test.YtgdkabljgabjoaaGreatDoorGw35
namespace Go.Proofs.YtgdkabljgabjoaaGreatDoor
open Go.RowKit
set_option linter.unusedVariables false
set_option maxRecDepth 100000
set_option maxRecDepth 100000

end Go.Proofs.YtgdkabljgabjoaaGreatDoor

/- A glyph's lines read, the reference's side. Conditions: as each states. -/
namespace Go.Proofs.YtgdkabljgabjoaaGreatDoor
open Go.RowKit
set_option linter.unusedVariables false
set_option maxRecDepth 100000
set_option maxRecDepth 100000

end Go.Proofs.YtgdkabljgabjoaaGreatDoor

