/- An outline and a point that came in, opened. No walk in sight. Conditions: none. -/
import Derived.Deep.RegionWith
import Derived.StillTailTactics
import Derived.RegionTactic
import Derived.ChangeAlike
import Derived.Outline
import Derived.Test.YtgelkdcggnffeaaGreatFtg04
import Derived.Test.YtgelkdcggnffeaaGreatFtg07
import Derived.Test.YtgelkdcggnffeaaGreatFtg05
import Derived.Test.YtgelkdcggnffeaaGreatFtg01
import Derived.Test.YtgelkdcggnffeaaGreatProg
import Derived.Test.YtgelkdcggnffeaaGreatFtg02
namespace Go.Proofs.YtgelkdcggnffeaaGreat
open Go.RowKit Go.ChangeShapes Go.WideShapes Go.Deep
set_option linter.unusedVariables false
set_option maxRecDepth 100000

end Go.Proofs.YtgelkdcggnffeaaGreat

/- Two outlines compared by the laws' functions. Conditions: as each states. -/
namespace Go.Proofs.YtgelkdcggnffeaaGreat
open Go.RowKit
set_option linter.unusedVariables false
set_option maxRecDepth 100000

end Go.Proofs.YtgelkdcggnffeaaGreat

/- The laws' own functions on slices of Part. Conditions: as each states. -/
namespace Go.Proofs.YtgelkdcggnffeaaGreat
open Go.RowKit
set_option linter.unusedVariables false
set_option maxRecDepth 100000

end Go.Proofs.YtgelkdcggnffeaaGreat

/- The laws' own functions on slices of Anchor. Conditions: as each states. -/
namespace Go.Proofs.YtgelkdcggnffeaaGreat
open Go.RowKit
set_option linter.unusedVariables false
set_option maxRecDepth 100000

end Go.Proofs.YtgelkdcggnffeaaGreat

