/- Marks in an outline of the call's own, and whether they are held. Conditions: as each states. -/
import Derived.Test.YtgfbcbbcnineiaaGreatSc09
import Derived.Test.YtgfbcbbcnineiaaGreatSc14
namespace Go.Proofs.YtgfbcbbcnineiaaGreat
open Go.RowKit
set_option linter.unusedVariables false
set_option maxRecDepth 100000

theorem own_same {w w' : World} {lo e size n : Nat} {v : Value} {xs : List Value} (h : w.ownsRow lo e size v n xs) (hs : ∀ g, v.ownBlock = some g → w'.heap[g]? = w.heap[g]?) : w'.ownsRow lo e size v n xs := by
  refine ⟨h.1, ?_⟩
  rcases h.2 with h2 | ⟨g, cap, cur, hv, hg, hh, r⟩
  · exact .inl h2
  · exact .inr ⟨g, cap, cur, hv, hg, (hs g (by rw [hv]; rfl)).trans hh, r⟩
/-- the same, and its blocks lie from lo to hi -/
def OutIn (w : World) (lo hi : Nat) (A : Option Addr) (n c : Nat) (ys : List Value) (Ls : List (List Knot)) : Prop := Ls.length = n ∧ w.ownsRow lo 166 1 (.slice A n c) n ys ∧
  (∀ (j : Nat) (K : List Knot), Ls[j]? = some K → ∃ (Aj : Option Addr) (cj : Nat), ys[j]? = some (.slice Aj K.length cj) ∧ w.ownsRow lo 179 3 (.slice Aj K.length cj) K.length (K.flatMap knotC)) ∧
  (∀ (i j : Nat) (u v : Value), i ≠ j → ys[i]? = some u → ys[j]? = some v → ApartV u v) ∧
  (∀ g, (Value.slice A n c).ownBlock = some g → g < hi) ∧ (∀ (j : Nat) (v : Value) (g : Nat), ys[j]? = some v → v.ownBlock = some g → g < hi)
theorem OutIn.own {w : World} {lo hi n c : Nat} {A : Option Addr} {ys : List Value} {Ls : List (List Knot)} (h : OutIn w lo hi A n c ys Ls) : OutOwn w lo A n c Ls := ⟨ys, h.1, h.2.1, h.2.2.1, h.2.2.2.1⟩
theorem OutOwn.in {w : World} {lo n c : Nat} {A : Option Addr} {Ls : List (List Knot)} (h : OutOwn w lo A n c Ls) : ∃ ys, OutIn w lo w.heap.size A n c ys Ls := by
  obtain ⟨ys, h1, h2, h3, h4⟩ := h
  refine ⟨ys, h1, h2, h3, h4, fun g hg => (h2.lt g hg).2, fun j v g hj hg => ?_⟩
  have hjl := (List.getElem?_eq_some_iff.1 hj).1
  obtain ⟨Aj, cj, h5, h6⟩ := h3 j _ (List.getElem?_eq_getElem (by have := h2.1; omega))
  rw [hj] at h5
  injection h5 with h5
  subst h5
  exact (h6.lt g hg).2
theorem OutIn.same {w w' : World} {lo hi n c : Nat} {A : Option Addr} {ys : List Value} {Ls : List (List Knot)} (h : OutIn w lo hi A n c ys Ls) (hs : SameB lo hi w w') : OutIn w' lo hi A n c ys Ls := by
  obtain ⟨h1, h2, h3, h4, h5, h6⟩ := h
  refine ⟨h1, own_same h2 fun g hg => hs g (h2.lt g hg).1 (h5 g hg), fun j K hj => ?_, h4, h5, h6⟩
  obtain ⟨Aj, cj, h7, h8⟩ := h3 j K hj
  exact ⟨Aj, cj, h7, own_same h8 fun g hg => hs g (h8.lt g hg).1 (h6 j _ g h7 hg)⟩
theorem OutIn.rd {w : World} {lo hi n c : Nat} {A : Option Addr} {ys : List Value} {Ls : List (List Knot)} (h : OutIn w lo hi A n c ys Ls) (hm : ∀ K ∈ Ls, K.length ≤ maxLen) : OutRd w lo w.heap.size A n Ls := h.own.rd hm

end Go.Proofs.YtgfbcbbcnineiaaGreat

