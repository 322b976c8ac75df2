/- Contracts of the functions that round by a state, and the walks of the laws on them. Conditions: as each states. -/
import Derived.Test.YtpmpbfkpiocleaaQc07
import Derived.Test.YtpmpbfkpiocleaaQc12
namespace Go.Proofs.Ytpmpbfkpiocleaa
open Go.RowKit
set_option linter.unusedVariables false
set_option maxRecDepth 100000

def rto (v st : Int) : Int :=
  if st = 1 then (v + 32) / 64 * 64 else if st = 2 then v / 64 * 64 + 32 else if st = 3 then (v + 16) / 32 * 32 else if st = 4 then v / 64 * 64 else if st = 5 then (v + 63) / 64 * 64 else v
/-! ### at least some number away from 0 -/
def imax (a b : Int) : Int := if b < a then a else b
def keep (v st least : Int) : Int := if v < 0 then -imax (rto (-v) st) least else imax (rto v st) least

end Go.Proofs.Ytpmpbfkpiocleaa

/- The fitting of a curve to a path: the numbers alone. Conditions: as each states. -/
namespace Go.Proofs.Ytpmpbfkpiocleaa
open Go.RowKit
set_option linter.unusedVariables false
set_option maxRecDepth 100000

theorem rnd_mid {x d M : Int} (hd : 0 < d) (h1 : -(M * d) ≤ x) (h2 : x ≤ M * d) : -M ≤ rnd x d ∧ rnd x d ≤ M := by
  unfold rnd
  have e1 : M * (2 * d) = 2 * (M * d) := by rw [Int.mul_left_comm]
  constructor
  · rw [Int.le_ediv_iff_mul_le (by omega), Int.neg_mul, e1]; omega
  · have : (2 * x + d) / (2 * d) < M + 1 := Int.ediv_lt_of_lt_mul (by omega) (by rw [Int.add_mul, e1]; omega)
    omega

/-- a curve: its three points -/
structure Qd where
  ax : Int
  ay : Int
  bx : Int
  b : Int
  cx : Int
  cy : Int
def Qd.ok (q : Qd) : Prop := ptOk q.ax q.ay = true ∧ ptOk q.bx q.b = true ∧ ptOk q.cx q.cy = true
/-- how much a curve bends -/

def szI (x y : Int) : Int := imax x (-x) + imax y (-y)
def ptAt (L : List (Int × Int)) (k : Nat) : Int × Int := L.getD k (0, 0)
end Go.Proofs.Ytpmpbfkpiocleaa

