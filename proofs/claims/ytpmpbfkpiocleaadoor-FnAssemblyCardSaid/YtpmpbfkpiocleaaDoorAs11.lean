/- mapOutline, over whatever closure of points. Conditions: as it states. -/
import Derived.Test.YtpmpbfkpiocleaaDoorAs10
namespace Go.Proofs.YtpmpbfkpiocleaaDoor
open Go.RowKit
set_option linter.unusedVariables false
set_option maxRecDepth 100000

def mapK (g : Int × Int → Int × Int) (p : Knot) : Knot := ((g (p.1, p.2.1)).1, (g (p.1, p.2.1)).2, p.2.2)
/-- the first k turned, the others not -/
def half {α : Type} (f : α → α) (L : List α) (k : Nat) : List α := (L.take k).map f ++ L.drop k
theorem half_length {α : Type} (f : α → α) (L : List α) (k : Nat) : (half f L k).length = L.length := by simp [half]; omega
theorem half_at {α : Type} (f : α → α) (L : List α) (k : Nat) {j : Nat} {a : α} (h : L[j]? = some a) : (half f L k)[j]? = some (if j < k then f a else a) := by
  have hl := (List.getElem?_eq_some_iff.1 h).1
  unfold half
  by_cases hj : j < k
  · rw [List.getElem?_append_left (by simp; omega), if_pos hj, List.getElem?_map, List.getElem?_take_of_lt hj, h]; rfl
  · rw [List.getElem?_append_right (by simp; omega), if_neg hj, List.getElem?_drop]
    rw [show k + (j - (List.map f (List.take k L)).length) = j by simp; omega, h]
theorem half_at_inv {α : Type} (f : α → α) (L : List α) (k : Nat) {j : Nat} {b : α} (h : (half f L k)[j]? = some b) : ∃ a, L[j]? = some a ∧ b = if j < k then f a else a := by
  have hl := (List.getElem?_eq_some_iff.1 h).1
  rw [half_length] at hl
  have ha : L[j]? = some L[j] := List.getElem?_eq_getElem hl
  rw [half_at f L k ha] at h
  injection h with h
  exact ⟨_, ha, h.symm⟩

theorem map_set (g : Int × Int → Int × Int) {K : List Knot} {q : Nat} {p : Knot} (hp : K[q]? = some p) :
    (((half (mapK g) K q).flatMap knotC).set (q * 3) (.int .i64 (g (p.1, p.2.1)).1)).set (q * 3 + 1) (.int .i64 (g (p.1, p.2.1)).2) = (half (mapK g) K (q + 1)).flatMap knotC := by
  have hql := (List.getElem?_eq_some_iff.1 hp).1
  have hfl : ((half (mapK g) K q).flatMap knotC).length = K.length * 3 := by rw [flat_length knotC_len, half_length]
  refine flat_ext knotC_len (half_length _ _ _) (by rw [List.length_set, List.length_set, hfl]) fun j a hj i hi => ?_
  obtain ⟨a0, ha0, rfl⟩ := half_at_inv _ _ _ hj
  have h0 := half_at (mapK g) K q ha0
  have hf := flat_get knotC_len _ j _ i h0 hi
  by_cases hjq : j = q
  · subst hjq
    have e := Option.some.inj (ha0.symm.trans hp)
    subst e
    rw [if_neg (by omega)] at hf
    rw [if_pos (by omega)]
    match i, hi with
    | 0, _ => rw [List.getElem?_set_ne (by omega), Nat.add_zero, List.getElem?_set_self (by omega)]; rfl
    | 1, _ => rw [List.getElem?_set_self (by rw [List.length_set]; omega)]; rfl
    | 2, _ => rw [List.getElem?_set_ne (by omega), List.getElem?_set_ne (by omega), hf]; rfl
  · rw [List.getElem?_set_ne (by omega), List.getElem?_set_ne (by omega), hf]
    simp only [show (j < q + 1) ↔ (j < q) by omega]

end Go.Proofs.YtpmpbfkpiocleaaDoor

