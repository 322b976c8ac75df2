/- Contracts of the functions that round by a state, and the walks of the laws on them. Conditions: as each states. -/
import Derived.Test.YtfkidklpjiiclaaGreatTe08
import Derived.Test.YtfkidklpjiiclaaGreatTe15
namespace Go.Proofs.YtfkidklpjiiclaaGreat
open Go.RowKit
set_option linter.unusedVariables false
set_option maxRecDepth 100000

/-! ### at least some number away from 0 -/
def imax (a b : Int) : Int := if b < a then a else b
end Go.Proofs.YtfkidklpjiiclaaGreat

/- The fitting of a curve to a path: the numbers alone. Conditions: as each states. -/
namespace Go.Proofs.YtfkidklpjiiclaaGreat
open Go.RowKit
set_option linter.unusedVariables false
set_option maxRecDepth 100000

/-- a coordinate of a curve at a parameter -/
def numI (a b c k n : Int) : Int := (n - k) * (n - k) * a + 2 * (n - k) * k * b + k * k * c
def mixI (a b c k n : Int) : Int := rnd (numI a b c k n) (n * n)
/-- a curve: its three points -/
structure Qd where
  ax : Int
  ay : Int
  bx : Int
  b : Int
  cx : Int
  cy : Int
def Qd.ok (q : Qd) : Prop := ptOk q.ax q.ay = true ∧ ptOk q.bx q.b = true ∧ ptOk q.cx q.cy = true
def qAt (q : Qd) (n k : Nat) : Int × Int := (mixI q.ax q.bx q.cx k n, mixI q.ay q.b q.cy k n)
def flatL (q : Qd) (n : Nat) : List (Int × Int) := (List.range (n + 1)).map (qAt q n)
theorem flatL_len (q : Qd) (n : Nat) : (flatL q n).length = n + 1 := by simp [flatL]
/-- how much a curve bends -/

def szI (x y : Int) : Int := imax x (-x) + imax y (-y)
def bendQ (q : Qd) : Int := szI (q.ax - 2 * q.bx + q.cx) (q.ay - 2 * q.b + q.cy)
def lvlOk (b : Int) (l : Nat) : Bool := decide (b ≤ 4 * 4 ^ l)
def lvl (b : Int) : Option Nat := (List.range 7).find? (lvlOk b)
theorem lvl_lt {b : Int} {l : Nat} (h : lvl b = some l) : l < 7 := by
  unfold lvl at h
  exact List.mem_range.1 (List.mem_of_find?_eq_some h)

def ptAt (L : List (Int × Int)) (k : Nat) : Int × Int := L.getD k (0, 0)
end Go.Proofs.YtfkidklpjiiclaaGreat

/- Cubics: a point of a curve is near the path along it; quadratics are near the cubic. Numbers alone. Conditions: as each states. -/
namespace Go.Proofs.YtfkidklpjiiclaaGreat
set_option linter.unusedVariables false
set_option maxRecDepth 100000

/-! ### the sum of the sizes of two coordinates -/
/-! ### a point is near a segment if it is near a point of it -/
/-! ### rounded quotients -/
/-! ### a coordinate of a cubic at a parameter -/
end Go.Proofs.YtfkidklpjiiclaaGreat

/- The loop that is fitted to a ring: the numbers alone. Conditions: as each states. -/
namespace Go.Proofs.YtfkidklpjiiclaaGreat
open Go.RowKit
set_option linter.unusedVariables false
set_option maxRecDepth 100000

theorem ptAt_some {L : List (Int × Int)} {i : Nat} (h : i < L.length) : L[i]? = some (ptAt L i) := by
  unfold ptAt
  rw [List.getD_eq_getElem?_getD, List.getElem?_eq_getElem h]; rfl
theorem ptAt_eq {L : List (Int × Int)} {i : Nat} {a : Int × Int} (h : L[i]? = some a) : ptAt L i = a := by
  unfold ptAt
  rw [List.getD_eq_getElem?_getD, h]; rfl
/-- a part of a path: count + 1 points from i on -/
def partP (P : List (Int × Int)) (i count : Nat) : List (Int × Int) := (P.drop i).take (count + 1)
theorem partP_len {P : List (Int × Int)} {i count : Nat} (h : i + count < P.length) : (partP P i count).length = count + 1 := by
  unfold partP; rw [List.length_take, List.length_drop]; omega
theorem partP_at {P : List (Int × Int)} {i count j : Nat} (hj : j ≤ count) : (partP P i count)[j]? = P[i + j]? := by
  unfold partP
  rw [List.getElem?_take, if_pos (by omega), List.getElem?_drop]
end Go.Proofs.YtfkidklpjiiclaaGreat

