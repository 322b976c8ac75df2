/- The segments of a loop. Printed by mk_sg1.py. Conditions: as each states. -/
import Derived.Test.YtfkidklpjiiclaaGreatTe41
namespace Go.Proofs.YtfkidklpjiiclaaGreat
open Go.RowKit
set_option linter.unusedVariables false
set_option maxRecDepth 100000

end Go.Proofs.YtfkidklpjiiclaaGreat

