/- Outlines in memory: slices of loops, each a slice of knots; the laws' own functions on them. Conditions: as each states. -/
import Derived.Test.YtpgkpgdompfkpaaFKnot
import Derived.WalkSmall
namespace Go.Proofs.Ytpgkpgdompfkpaa
open Go.RowKit
set_option linter.unusedVariables false
set_option maxRecDepth 100000

abbrev Knot := Int × Int × Bool
/-- a loop is a slice of knots -/
abbrev loopR : Rel (List Knot) := SliceR 3 (FlatR knotC)
theorem good_loop : Good loopR := good_slice 3 (good_flat _)
/-- the loops of an outline -/
abbrev OutRd (w : World) (lo hi : Nat) (A : Option Addr) (n : Nat) (Ls : List (List Knot)) : Prop := RdS 1 loopR w lo hi A n Ls
theorem out_at {w : World} {lo hi : Nat} {A : Option Addr} {n : Nat} {Ls : List (List Knot)} (h : OutRd w lo hi A n Ls) {j : Nat} (hj : j < n) :
    ∃ b off K A' n' c', A = some ⟨b, off, none⟩ ∧ lo ≤ b ∧ b < hi ∧ Ls[j]? = some K ∧ w.cell? ⟨b, off + j, none⟩ = some (.slice A' n' c') ∧ n' ≤ maxLen ∧ RdS 3 (FlatR knotC) w lo hi A' n' K := by
  obtain ⟨hl, h⟩ := h
  obtain ⟨b, off, rfl, h1, h2, h3⟩ := h (by omega)
  have hja : Ls[j]? = some (Ls[j]'(by omega)) := List.getElem?_eq_getElem (by omega)
  obtain ⟨es, e1, e2, A', n', c', rfl, hm, hr⟩ := h3 j _ hja
  have := e2 0 _ rfl
  simp only [Nat.mul_one, Nat.add_zero] at this
  exact ⟨b, off, _, A', n', c', rfl, h1, h2, hja, this, hm, hr⟩

/-- how many loops and knots there are -/
def outSize (Ls : List (List Knot)) : Nat := Ls.length + (Ls.map List.length).sum
theorem sum_take_le (L : List Nat) (k : Nat) : (L.take k).sum ≤ L.sum := by
  have := List.take_append_drop k L
  have h2 := congrArg List.sum this
  rw [List.sum_append] at h2
  omega
theorem sum_take_succ {L : List Nat} {k x : Nat} (h : L[k]? = some x) : (L.take (k + 1)).sum = (L.take k).sum + x := by
  have hl := (List.getElem?_eq_some_iff.1 h).1
  rw [List.take_succ_eq_append_getElem hl, List.sum_append]
  rw [List.getElem?_eq_getElem hl] at h
  injection h with h
  simp [h]
theorem map_at {α β : Type} {f : α → β} {L : List α} {k : Nat} {a : α} (h : L[k]? = some a) : (L.map f)[k]? = some (f a) := by rw [List.getElem?_map, h]; rfl

/-- what is left of a count: none, or the number -/
def LeftR (left r : Int) (size : Nat) : Prop := r < 0 ∨ (0 ≤ r ∧ r = left - size)

end Go.Proofs.Ytpgkpgdompfkpaa
