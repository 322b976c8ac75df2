/- The laws' own functions on slices of Int64. Conditions: as each states. -/
import Derived.Test.YtgnjohkfgllhmaaDat
import Derived.Test.YtgnjohkfgllhmaaProg
import Derived.RegionTactic
import Derived.ChangeAlike
import Derived.Outline
import Derived.Deep.RegionWith
import Derived.StillTailTactics
import Derived.BigQuiet
import Derived.Deep.QuietTactic
import Derived.WalkSmall
namespace Go.Proofs.Ytgnjohkfgllhmaa
open Go.RowKit
set_option linter.unusedVariables false
set_option maxRecDepth 100000

theorem elemInt64 : Elem Try.prog 129 2 1 8 := elem_mk (z := .int .i64 0) Try.underlying129 (by kernel_rfl) rfl (by omega)
theorem infoInt64 : (Try.prog.info? 2).map (fun i => (i.zero, i.size, i.bytes)) = some (some (.int .i64 0), 1, 8) := by kernel_rfl

end Go.Proofs.Ytgnjohkfgllhmaa
