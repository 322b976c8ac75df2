/- slices.Clone at knots; the sums of points. Conditions: as each states. -/
import Derived.Deep.RegionLaw
import Derived.Test.YtgfbcbbcnineiaaGreatSc15
namespace Go.Proofs.YtgfbcbbcnineiaaGreat
open Go.RowKit
set_option linter.unusedVariables false
set_option maxRecDepth 100000

end Go.Proofs.YtgfbcbbcnineiaaGreat

/- copyOutline. Conditions: as each states. -/
namespace Go.Proofs.YtgfbcbbcnineiaaGreat
open Go.RowKit
set_option linter.unusedVariables false
set_option maxRecDepth 100000

/-- the first k loops stand in the row ys, each in a block of its own -/
def OutTo (w : World) (lo : Nat) (Ao : Option Addr) (k co : Nat) (ys : List Value) (Ls : List (List Knot)) : Prop := w.ownsRow lo 166 1 (.slice Ao k co) k ys ∧
  (∀ (j : Nat) (K : List Knot), j < k → Ls[j]? = some K → ∃ (Aj : Option Addr) (cj : Nat), ys[j]? = some (.slice Aj K.length cj) ∧ w.ownsRow lo 179 3 (.slice Aj K.length cj) K.length (K.flatMap knotC)) ∧
  (∀ (i j : Nat) (u v : Value), i ≠ j → ys[i]? = some u → ys[j]? = some v → ApartV u v)
theorem OutTo.kept {w w' : World} {lo k co : Nat} {Ao : Option Addr} {ys : List Value} {Ls : List (List Knot)} (h : OutTo w lo Ao k co ys Ls) (hb : Below w.heap.size w w') : OutTo w' lo Ao k co ys Ls := by
  obtain ⟨h1, h2, h3⟩ := h
  refine ⟨own_below h1 hb, fun j K hj hK => ?_, h3⟩
  obtain ⟨Aj, cj, h4, h5⟩ := h2 j K hj hK
  exact ⟨Aj, cj, h4, own_below h5 hb⟩
theorem OutTo.set {w : World} {lo k co : Nat} {Ao : Option Addr} {ys : List Value} {Ls : List (List Knot)} (h : OutTo w lo Ao k co ys Ls) {a : Addr} (ha : a.block < lo) (u : Value) : OutTo (w.setCell a u) lo Ao k co ys Ls := by
  obtain ⟨h1, h2, h3⟩ := h
  refine ⟨ownsRow_setCell_below h1 ha u, fun j K hj hK => ?_, h3⟩
  obtain ⟨Aj, cj, h4, h5⟩ := h2 j K hj hK
  exact ⟨Aj, cj, h4, ownsRow_setCell_below h5 ha u⟩
end Go.Proofs.YtgfbcbbcnineiaaGreat

