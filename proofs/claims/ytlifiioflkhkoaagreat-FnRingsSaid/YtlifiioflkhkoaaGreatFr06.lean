/- Contracts of the functions that round by a state, and the walks of the laws on them. Conditions: as each states. -/
import Derived.Test.YtlifiioflkhkoaaGreatFr04
import Derived.Test.YtlifiioflkhkoaaGreatFr05
namespace Go.Proofs.YtlifiioflkhkoaaGreat
open Go.RowKit
set_option linter.unusedVariables false
set_option maxRecDepth 100000

def rto (v st : Int) : Int :=
  if st = 1 then (v + 32) / 64 * 64 else if st = 2 then v / 64 * 64 + 32 else if st = 3 then (v + 16) / 32 * 32 else if st = 4 then v / 64 * 64 else if st = 5 then (v + 63) / 64 * 64 else v
/-! ### at least some number away from 0 -/
def imax (a b : Int) : Int := if b < a then a else b
def keep (v st least : Int) : Int := if v < 0 then -imax (rto (-v) st) least else imax (rto v st) least

end Go.Proofs.YtlifiioflkhkoaaGreat

/- The fitting of a curve to a path: the numbers alone. Conditions: as each states. -/
namespace Go.Proofs.YtlifiioflkhkoaaGreat
open Go.RowKit
set_option linter.unusedVariables false
set_option maxRecDepth 100000

theorem rnd_shift {x a m : Int} (hm : 0 < m) : rnd (a * m + x) m = a + rnd x m := by
  unfold rnd
  have e : 2 * (a * m + x) + m = (2 * x + m) + a * (2 * m) := by rw [Int.mul_add, Int.mul_left_comm a 2 m]; omega
  rw [e, Int.add_mul_ediv_right _ _ (by omega)]; omega
/-- a curve: its three points -/
structure Qd where
  ax : Int
  ay : Int
  bx : Int
  b : Int
  cx : Int
  cy : Int
def Qd.ok (q : Qd) : Prop := ptOk q.ax q.ay = true ∧ ptOk q.bx q.b = true ∧ ptOk q.cx q.cy = true
/-- the common point of two lines -/
def lnN (ax ay cx cy dx dy : Int) : Int := turnI cx cy dx dy ax ay
def lnM (ax ay bx b cx cy dx dy : Int) : Int := turnI cx cy dx dy ax ay - turnI cx cy dx dy bx b
def lnPt (ax ay bx b n m : Int) : Int × Int := (ax + rnd ((bx - ax) * n) m, ay + rnd ((b - ay) * n) m)
theorem den_eq (ax ay bx b cx cy dx dy : Int) : (bx - ax) * (dy - cy) - (b - ay) * (dx - cx) = lnM ax ay bx b cx cy dx dy := by
  unfold lnM turnI; grind
theorem num_eq (ax ay cx cy dx dy : Int) : (cx - ax) * (dy - cy) - (cy - ay) * (dx - cx) = lnN ax ay cx cy dx dy := by
  unfold lnN turnI; grind

def ptAt (L : List (Int × Int)) (k : Nat) : Int × Int := L.getD k (0, 0)
end Go.Proofs.YtlifiioflkhkoaaGreat

/- Cubics: a point of a curve is near the path along it; quadratics are near the cubic. Numbers alone. Conditions: as each states. -/
namespace Go.Proofs.YtlifiioflkhkoaaGreat
set_option linter.unusedVariables false
set_option maxRecDepth 100000

/-! ### the sum of the sizes of two coordinates -/
/-! ### a point is near a segment if it is near a point of it -/
/-! ### rounded quotients -/
/-! ### a coordinate of a cubic at a parameter -/
end Go.Proofs.YtlifiioflkhkoaaGreat

/- The loop that is fitted to a ring: the numbers alone. Conditions: as each states. -/
namespace Go.Proofs.YtlifiioflkhkoaaGreat
open Go.RowKit
set_option linter.unusedVariables false
set_option maxRecDepth 100000

theorem ptAt_some {L : List (Int × Int)} {i : Nat} (h : i < L.length) : L[i]? = some (ptAt L i) := by
  unfold ptAt
  rw [List.getD_eq_getElem?_getD, List.getElem?_eq_getElem h]; rfl
theorem ptAt_eq {L : List (Int × Int)} {i : Nat} {a : Int × Int} (h : L[i]? = some a) : ptAt L i = a := by
  unfold ptAt
  rw [List.getD_eq_getElem?_getD, h]; rfl
/-- a part of a path: count + 1 points from i on -/
def partP (P : List (Int × Int)) (i count : Nat) : List (Int × Int) := (P.drop i).take (count + 1)
theorem partP_len {P : List (Int × Int)} {i count : Nat} (h : i + count < P.length) : (partP P i count).length = count + 1 := by
  unfold partP; rw [List.length_take, List.length_drop]; omega
theorem partP_at {P : List (Int × Int)} {i count j : Nat} (hj : j ≤ count) : (partP P i count)[j]? = P[i + j]? := by
  unfold partP
  rw [List.getElem?_take, if_pos (by omega), List.getElem?_drop]
end Go.Proofs.YtlifiioflkhkoaaGreat

