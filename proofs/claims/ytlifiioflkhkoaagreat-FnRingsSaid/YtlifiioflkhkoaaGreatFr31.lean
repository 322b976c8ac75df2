/- slices.Equal at anchors. Conditions: as it states. -/
import Derived.Test.YtlifiioflkhkoaaGreatFr14
import Derived.Test.YtlifiioflkhkoaaGreatFr12
import Derived.Test.YtlifiioflkhkoaaGreatFr03
import Derived.Test.YtlifiioflkhkoaaGreatFr13
namespace Go.Proofs.YtlifiioflkhkoaaGreat
open Go.RowKit
set_option linter.unusedVariables false
set_option maxRecDepth 100000
end Go.Proofs.YtlifiioflkhkoaaGreat

/- Whether two outlines are the same: both sides. Conditions: as each states. -/
namespace Go.Proofs.YtlifiioflkhkoaaGreat
open Go.RowKit
set_option linter.unusedVariables false
set_option maxRecDepth 100000

theorem ne_list_at {α : Type} [DecidableEq α] {L M : List α} {k : Nat} {a b : α} (h1 : L[k]? = some a) (h2 : M[k]? = some b) (h : decide (a = b) = false) : decide (L = M) = false := by
  rw [decide_eq_false_iff_not] at *
  exact ne_of_at h1 h2 h

/-! ### the program's side -/
end Go.Proofs.YtlifiioflkhkoaaGreat

/- Row: how it lies in memory, the laws' own functions on it and on slices of it. Printed by rowgen.py. Conditions: as each states. -/
namespace Go.Proofs.YtlifiioflkhkoaaGreat
open Go.RowKit Go.ChangeShapes Go.WideShapes Go.Deep
set_option linter.unusedVariables false
set_option maxRecDepth 100000

end Go.Proofs.YtlifiioflkhkoaaGreat

