/- The laws' own functions on slices of Bool. Conditions: as each states. -/
import Derived.Test.YtpgkpgdompfkpaaDat
import Derived.Test.YtpgkpgdompfkpaaProg
import Derived.RegionTactic
import Derived.ChangeAlike
import Derived.Outline
import Derived.Deep.RegionWith
import Derived.StillTailTactics
import Derived.BigQuiet
import Derived.Deep.QuietTactic
import Derived.WalkSmall
namespace Go.Proofs.Ytpgkpgdompfkpaa
open Go.RowKit
set_option linter.unusedVariables false
set_option maxRecDepth 100000

theorem elemBool : Elem Try.prog 62 4 1 1 := elem_mk (z := .bool false) Try.underlying62 (by kernel_rfl) rfl (by omega)
theorem infoBool : (Try.prog.info? 4).map (fun i => (i.zero, i.size, i.bytes)) = some (some (.bool false), 1, 1) := by kernel_rfl

end Go.Proofs.Ytpgkpgdompfkpaa
