/- The loop that is fitted to a ring: the numbers alone. Conditions: as each states. -/
import Derived.Test.YtpmpbfkpiocleaaQc13
import Derived.Test.YtpmpbfkpiocleaaQc14
namespace Go.Proofs.Ytpmpbfkpiocleaa
open Go.RowKit
set_option linter.unusedVariables false
set_option maxRecDepth 100000

theorem ptAt_some {L : List (Int × Int)} {i : Nat} (h : i < L.length) : L[i]? = some (ptAt L i) := by
  unfold ptAt
  rw [List.getD_eq_getElem?_getD, List.getElem?_eq_getElem h]; rfl
theorem ptAt_eq {L : List (Int × Int)} {i : Nat} {a : Int × Int} (h : L[i]? = some a) : ptAt L i = a := by
  unfold ptAt
  rw [List.getD_eq_getElem?_getD, h]; rfl
end Go.Proofs.Ytpmpbfkpiocleaa

