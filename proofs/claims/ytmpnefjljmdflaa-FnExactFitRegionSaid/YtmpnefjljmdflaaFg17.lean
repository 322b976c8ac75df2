/- Regions, the rings along loops, the distance of both: the numbers alone. Conditions: as each states. -/
import Derived.Test.YtmpnefjljmdflaaFg16
import Derived.Test.YtmpnefjljmdflaaFg04
namespace Go.Proofs.Ytmpnefjljmdflaa
open Go.RowKit
set_option linter.unusedVariables false
set_option maxRecDepth 100000

abbrev Pnt := Int × Int
/-! ### edges -/
/-- the edges of a ring of some length, up to k -/
def edgesTo (L : List Pnt) (k : Nat) : List (Pnt × Pnt) := (List.range k).filterMap fun i => if ptAt L i = ptAt L ((i + 1) % L.length) then none else some (ptAt L i, ptAt L ((i + 1) % L.length))
def edgesL (L : List Pnt) : List (Pnt × Pnt) := edgesTo L L.length
theorem edgesTo_yes {L : List Pnt} {k : Nat} (h : ptAt L k ≠ ptAt L ((k + 1) % L.length)) : edgesTo L (k + 1) = edgesTo L k ++ [(ptAt L k, ptAt L ((k + 1) % L.length))] := by
  unfold edgesTo
  rw [List.range_succ, List.filterMap_append]
  simp [h]
theorem edgesTo_no {L : List Pnt} {k : Nat} (h : ptAt L k = ptAt L ((k + 1) % L.length)) : edgesTo L (k + 1) = edgesTo L k := by
  unfold edgesTo
  rw [List.range_succ, List.filterMap_append]
  simp [h]
theorem edgesTo_len (L : List Pnt) (k : Nat) : (edgesTo L k).length ≤ k := by
  unfold edgesTo
  refine Nat.le_trans (List.length_filterMap_le _ _) ?_
  simp
/-- how many edges some rings have -/
def edgeN (Rs : List (List Pnt)) : Nat := (Rs.map fun L => (edgesL L).length).sum
/-- a region is valid -/
def regOk (Rs : List (List Pnt)) : Bool := decide (Rs.length ≤ 40) && Rs.all pathOk && decide (edgeN Rs ≤ 400)
theorem regOk_is {Rs : List (List Pnt)} (h : regOk Rs = true) : Rs.length ≤ 40 ∧ (∀ L ∈ Rs, pathOk L = true) ∧ edgeN Rs ≤ 400 := by
  unfold regOk at h
  simp only [Bool.and_eq_true, decide_eq_true_eq, List.all_eq_true] at h
  exact ⟨h.1.1, h.1.2, h.2⟩
theorem regOk_many {Rs : List (List Pnt)} (h : 40 < Rs.length) : regOk Rs = false := by
  unfold regOk
  rw [decide_eq_false (by omega)]; rfl
theorem regOk_bad {Rs : List (List Pnt)} {L : List Pnt} (hL : L ∈ Rs) (h : pathOk L = false) : regOk Rs = false := by
  have : Rs.all pathOk = false := List.all_eq_false.2 ⟨L, hL, by simp [h]⟩
  unfold regOk
  rw [this]; simp
theorem regOk_end {Rs : List (List Pnt)} (h1 : Rs.length ≤ 40) (h2 : ∀ L ∈ Rs, pathOk L = true) : regOk Rs = decide (edgeN Rs ≤ 400) := by
  unfold regOk
  rw [decide_eq_true h1, List.all_eq_true.2 h2]; rfl

/-! ### the knots of a loop with those between -/
/-! ### segments -/
/-! ### the distance of a region and an outline -/
end Go.Proofs.Ytmpnefjljmdflaa

