/- slices.Equal at anchors. Conditions: as it states. -/
import Derived.Test.YtgnjohkfgllhmaaEqD
namespace Go.Proofs.Ytgnjohkfgllhmaa
open Go.RowKit
set_option linter.unusedVariables false
set_option maxRecDepth 100000
theorem bytes_neq {a b : ByteArray} (h : a ≠ b) : (a.toList == b.toList) = false := by
  cases h1 : (a.toList == b.toList)
  · rfl
  · exact absurd (bytes_eq h1) h

end Go.Proofs.Ytgnjohkfgllhmaa
