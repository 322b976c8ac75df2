/- Contracts of the functions that give a number of parts as a text, and the law on them. Conditions: as each states. -/
import Derived.Test.YtpmpbfkpiocleaaDoorAs27
import Derived.Test.YtpmpbfkpiocleaaDoorAs41
namespace Go.Proofs.YtpmpbfkpiocleaaDoor
open Go.RowKit
set_option linter.unusedVariables false
set_option maxRecDepth 100000

theorem decS_size {n : Int} (h1 : -9223372036854775808 ≤ n) (h2 : n ≤ 9223372036854775807) : (decS n).size ≤ 20 := by
  have := decL_len h1 h2
  simpa [decS, ByteArray.size] using this

end Go.Proofs.YtpmpbfkpiocleaaDoor

