/- The loop that is fitted to a ring: the reference's side. Printed by mk_fr5.py. Conditions: as each states. -/
import Derived.Test.YtlifiioflkhkoaaGreatFr18
import Derived.Test.YtlifiioflkhkoaaGreatFr11
import Derived.Test.YtlifiioflkhkoaaGreatFr10
namespace Go.Proofs.YtlifiioflkhkoaaGreat
open Go.RowKit
set_option linter.unusedVariables false
set_option maxRecDepth 100000

end Go.Proofs.YtlifiioflkhkoaaGreat

/- FitQuad, both sides, and the law. Conditions: as each states. -/
namespace Go.Proofs.YtlifiioflkhkoaaGreat
open Go.RowKit
set_option linter.unusedVariables false
set_option maxRecDepth 100000

end Go.Proofs.YtlifiioflkhkoaaGreat

