/- slices.Clone at knots; the sums of points. Conditions: as each states. -/
import Derived.Deep.RegionLaw
import Derived.StillTailTactics
import Derived.Deep.RegionHeld3
import Derived.Test.YtpmpbfkpiocleaaQv30
namespace Go.Proofs.Ytpmpbfkpiocleaa
open Go.RowKit
set_option linter.unusedVariables false
set_option maxRecDepth 100000

theorem src_rd {α : Type} {k : Nat} {f : α → List Value} (hk : ∀ a, (f a).length = k) (h1 : ∀ a, ∀ u ∈ f a, u.oneCell' = true) {w : World} {lo hi : Nat} {A : Option Addr} {n : Nat} {L : List α} (h : RdS k (FlatR f) w lo hi A n L) : Src w k A n (L.flatMap f) := by
  refine ⟨by rw [flat_length hk, h.1], fun u hu => ?_, fun hn => ?_⟩
  · obtain ⟨a, _, ha⟩ := List.mem_flatMap.1 hu
    exact h1 a u ha
  · obtain ⟨hl, hx⟩ := h
    obtain ⟨b, off, rfl, _, _, h3⟩ := hx hn
    refine ⟨_, rfl, fun j u hj => ?_⟩
    have hjl := (List.getElem?_eq_some_iff.1 hj).1
    rw [flat_length hk, hl] at hjl
    have hk0 : 0 < k := by
      rcases Nat.eq_zero_or_pos k with h0 | h0
      · subst h0; simp at hjl
      · exact h0
    have hq : j / k < L.length := by rw [hl]; exact (Nat.div_lt_iff_lt_mul hk0).2 hjl
    have hm := Nat.mod_lt j hk0
    have e := Nat.div_add_mod j k
    obtain ⟨es, e1, e2, e3⟩ := h3 (j / k) _ (List.getElem?_eq_getElem hq)
    have h5 := flat_get hk L (j / k) _ (j % k) (List.getElem?_eq_getElem hq) hm
    rw [show j / k * k + j % k = j by rw [Nat.mul_comm]; exact e, hj] at h5
    have e3' : es = f L[j / k] := e3
    have h6 := e2 (j % k) u (by rw [e3']; exact h5.symm)
    rw [show (⟨b, off, none⟩ : Addr).add j = ⟨b, off + j, none⟩ by unfold Addr.add; split <;> simp_all, show off + j = off + j / k * k + j % k by rw [Nat.add_assoc, Nat.mul_comm (j / k) k, e]]
    exact h6
end Go.Proofs.Ytpmpbfkpiocleaa

/- copyOutline. Conditions: as each states. -/
namespace Go.Proofs.Ytpmpbfkpiocleaa
open Go.RowKit
set_option linter.unusedVariables false
set_option maxRecDepth 100000

end Go.Proofs.Ytpmpbfkpiocleaa

/- copyOutline, walked. Conditions: as it states. -/
namespace Go.Proofs.Ytpmpbfkpiocleaa
open Go.RowKit
set_option linter.unusedVariables false
set_option maxRecDepth 100000

end Go.Proofs.Ytpmpbfkpiocleaa

/- mapOutline, over whatever closure of points. Conditions: as it states. -/
namespace Go.Proofs.Ytpmpbfkpiocleaa
open Go.RowKit
set_option linter.unusedVariables false
set_option maxRecDepth 100000

end Go.Proofs.Ytpmpbfkpiocleaa

