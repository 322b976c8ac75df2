/- A curve near a path, the reference's side. Conditions: as each states. -/
import Derived.Test.YtgelkdcggnffeaaFer22
namespace Go.Proofs.Ytgelkdcggnffeaa
open Go.RowKit
set_option linter.unusedVariables false
set_option maxRecDepth 100000

end Go.Proofs.Ytgelkdcggnffeaa

