/- The laws' own functions on slices of Bool. Conditions: as each states. -/
import Derived.RegionTactic
import Derived.ChangeAlike
import Derived.Outline
import Derived.Deep.RegionWith
import Derived.StillTailTactics
import Derived.BigQuiet
import Derived.Deep.QuietTactic
import Derived.WalkSmall
import Derived.Test.YtgelkdcggnffeaaGreatFtg01
import Derived.Test.YtgelkdcggnffeaaGreatProg
namespace Go.Proofs.YtgelkdcggnffeaaGreat
open Go.RowKit
set_option linter.unusedVariables false
set_option maxRecDepth 100000

theorem infoBool : (Tryz.prog.info? 4).map (fun i => (i.zero, i.size, i.bytes)) = some (some (.bool false), 1, 1) := by kernel_rfl

end Go.Proofs.YtgelkdcggnffeaaGreat

/- The laws' own functions on slices of Int64. Conditions: as each states. -/
namespace Go.Proofs.YtgelkdcggnffeaaGreat
open Go.RowKit
set_option linter.unusedVariables false
set_option maxRecDepth 100000

end Go.Proofs.YtgelkdcggnffeaaGreat

/- The laws' own functions on slices of Pt. Conditions: as each states. -/
namespace Go.Proofs.YtgelkdcggnffeaaGreat
open Go.RowKit
set_option linter.unusedVariables false
set_option maxRecDepth 100000

theorem elemPt : Elem Tryz.prog 39 71 2 16 := elem_mk (z := .agg #[.int .i64 0, .int .i64 0]) Tryz.underlying39 (by kernel_rfl) rfl (by omega)
theorem infoPt : (Tryz.prog.info? 71).map (fun i => (i.zero, i.size, i.bytes)) = some (some (.agg #[.int .i64 0, .int .i64 0]), 2, 16) := by kernel_rfl

end Go.Proofs.YtgelkdcggnffeaaGreat

