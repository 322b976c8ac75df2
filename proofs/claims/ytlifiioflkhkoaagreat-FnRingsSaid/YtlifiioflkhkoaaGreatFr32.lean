/- NamedPen: how it lies in memory, the laws' own functions on it and on slices of it. Printed by rowgen.py. Conditions: as each states. -/
import Derived.Test.YtlifiioflkhkoaaGreatFr12
import Derived.Test.YtlifiioflkhkoaaGreatFr02
import Derived.Test.YtlifiioflkhkoaaGreatFr13
namespace Go.Proofs.YtlifiioflkhkoaaGreat
open Go.RowKit Go.ChangeShapes Go.WideShapes Go.Deep
set_option linter.unusedVariables false
set_option maxRecDepth 100000

end Go.Proofs.YtlifiioflkhkoaaGreat

/- NamedPath: how it lies in memory, the laws' own functions on it and on slices of it. Printed by rowgen.py. Conditions: as each states. -/
namespace Go.Proofs.YtlifiioflkhkoaaGreat
open Go.RowKit Go.ChangeShapes Go.WideShapes Go.Deep
set_option linter.unusedVariables false
set_option maxRecDepth 100000

end Go.Proofs.YtlifiioflkhkoaaGreat

