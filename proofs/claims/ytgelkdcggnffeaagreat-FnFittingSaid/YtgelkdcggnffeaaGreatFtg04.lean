/- A state of the hint machine that came in, opened. No walk in sight. Conditions: none. -/
import Derived.RegionTactic
import Derived.ChangeAlike
import Derived.Outline
import Derived.Deep.RegionWith
import Derived.StillTailTactics
import Derived.Test.YtgelkdcggnffeaaGreatFtg03
import Derived.Test.YtgelkdcggnffeaaGreatFtg01
import Derived.Test.YtgelkdcggnffeaaGreatProg
import Derived.Test.YtgelkdcggnffeaaGreatFtg02
namespace Go.Proofs.YtgelkdcggnffeaaGreat
open Go.RowKit Go.ChangeShapes Go.WideShapes Go.Deep
set_option linter.unusedVariables false
set_option maxRecDepth 100000

end Go.Proofs.YtgelkdcggnffeaaGreat

/- The laws' own functions on slices of Knot. Conditions: as each states. -/
namespace Go.Proofs.YtgelkdcggnffeaaGreat
open Go.RowKit
set_option linter.unusedVariables false
set_option maxRecDepth 100000

theorem elemKnot : Elem Tryz.prog 47 73 3 24 := elem_mk (z := .agg #[.int .i64 0, .int .i64 0, .bool false]) Tryz.underlying47 (by kernel_rfl) rfl (by omega)
end Go.Proofs.YtgelkdcggnffeaaGreat

