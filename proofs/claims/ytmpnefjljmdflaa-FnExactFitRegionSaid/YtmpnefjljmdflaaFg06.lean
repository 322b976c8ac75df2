/- The laws' own functions on slices of Bool. Conditions: as each states. -/
import Derived.RegionTactic
import Derived.ChangeAlike
import Derived.Outline
import Derived.Deep.RegionWith
import Derived.StillTailTactics
import Derived.BigQuiet
import Derived.Deep.QuietTactic
import Derived.WalkSmall
import Derived.Test.YtmpnefjljmdflaaFg02
import Derived.Test.YtmpnefjljmdflaaProg
namespace Go.Proofs.Ytmpnefjljmdflaa
open Go.RowKit
set_option linter.unusedVariables false
set_option maxRecDepth 100000

theorem infoBool : (Try.prog.info? 4).map (fun i => (i.zero, i.size, i.bytes)) = some (some (.bool false), 1, 1) := by kernel_rfl

end Go.Proofs.Ytmpnefjljmdflaa

/- The laws' own functions on slices of Int64. Conditions: as each states. -/
namespace Go.Proofs.Ytmpnefjljmdflaa
open Go.RowKit
set_option linter.unusedVariables false
set_option maxRecDepth 100000

end Go.Proofs.Ytmpnefjljmdflaa

