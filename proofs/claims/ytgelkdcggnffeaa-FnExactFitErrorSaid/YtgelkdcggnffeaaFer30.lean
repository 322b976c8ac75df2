/- slices.Index at bool; slices.Grow and slices.Concat at points. Conditions: as each states. -/
import Derived.Lib.AppendZerosOnto
import Derived.Lib.SliceRun
import Derived.Lib.Walk
import Derived.Test.YtgelkdcggnffeaaFer29
import Derived.Test.YtgelkdcggnffeaaFer26
namespace Go.Proofs.Ytgelkdcggnffeaa
open Go.RowKit
set_option linter.unusedVariables false
set_option maxRecDepth 100000

theorem ptC_one (a : Int × Int) : ∀ u ∈ ptC a, u.oneCell' = true := by
  intro u hu
  simp only [ptC, List.mem_cons, List.not_mem_nil, or_false] at hu
  rcases hu with rfl | rfl <;> rfl

end Go.Proofs.Ytgelkdcggnffeaa

