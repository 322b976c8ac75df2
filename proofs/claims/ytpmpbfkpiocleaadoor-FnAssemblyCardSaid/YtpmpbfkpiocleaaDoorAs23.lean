/- The walk of the reference's function that says whether blocks are nested. Conditions: as it states. -/
import Derived.Test.YtpmpbfkpiocleaaDoorAs22
namespace Go.Proofs.YtpmpbfkpiocleaaDoor
open Go.RowKit
set_option linter.unusedVariables false
set_option maxRecDepth 100000

theorem nestB_none {codes : List Int} (h : pAll codes = none) : nestB codes = false := by simp [nestB, h]
theorem nestB_some {codes : List Int} {ps : List Int} {st : List (Nat × Nat)} (h : pAll codes = some (ps, st)) : nestB codes = st.isEmpty := by
  simp only [nestB, h]; cases st <;> rfl

end Go.Proofs.YtpmpbfkpiocleaaDoor

