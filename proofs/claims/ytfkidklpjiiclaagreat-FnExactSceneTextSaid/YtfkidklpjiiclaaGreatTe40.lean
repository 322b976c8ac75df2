/- FitRegion, both sides. Printed by mk_rg2.py. Conditions: as each states. -/
import Derived.Test.YtfkidklpjiiclaaGreatTe34
import Derived.Test.YtfkidklpjiiclaaGreatTe04
import Derived.Test.YtfkidklpjiiclaaGreatTe30
namespace Go.Proofs.YtfkidklpjiiclaaGreat
open Go.RowKit
set_option linter.unusedVariables false
set_option maxRecDepth 100000

/-- each ring's slice is no longer than its array -/
def RegCap (w : World) (A : Option Addr) (n : Nat) : Prop := ∀ (j b off : Nat) (A' : Option Addr) (n' c' : Nat), j < n → A = some ⟨b, off, none⟩ → w.cell? ⟨b, off + j, none⟩ = some (.slice A' n' c') → n' ≤ c'
theorem RegCap.frame {w w' : World} {A : Option Addr} {n lo hi : Nat} {Rs : List (List Pnt)} (h : RegCap w A n) (hr : RegRd w lo hi A n Rs) (hs : SameB lo hi w w') : RegCap w' A n := fun j b off A' n' c' hj hA hc => by
  obtain ⟨b', off', hA', h1, h2, _⟩ := hr.2 (by omega)
  rw [hA] at hA'
  injection hA' with hA'
  injection hA' with e1 e2
  subst e1 e2
  rw [hs.cell h1 h2] at hc
  exact h j b off A' n' c' hj hA hc
theorem RegOwn.cap {w : World} {lo n c : Nat} {A : Option Addr} {Rs : List (List Pnt)} (h : RegOwn w lo A n c Rs) : RegCap w A n := fun j b off A' n' c' hj hA hc => by
  obtain ⟨ys, h1, h2, h3, _⟩ := h
  obtain ⟨g, hg, _, _, _, hcell, _⟩ := own_at h2 (by omega)
  rw [hA] at hg
  injection hg with hg
  injection hg with e1 e2
  subst e1 e2
  have hl : j < Rs.length := by omega
  obtain ⟨Aj, cj, h4, h5⟩ := h3 j _ (List.getElem?_eq_getElem hl)
  have h6 := hcell j (by omega)
  rw [Nat.zero_add] at hc
  rw [hc, h4] at h6
  injection h6 with h6
  injection h6 with e3 e4 e5
  subst e3 e4 e5
  rcases Nat.eq_zero_or_pos (Rs[j]).length with h0 | h0
  · omega
  · obtain ⟨_, _, _, _, h7, _⟩ := own_at h5 h0
    exact h7
end Go.Proofs.YtfkidklpjiiclaaGreat

/- Middles of points; the knots of a loop with those between, the reference's side. Printed by mk_fo1.py. Conditions: as each states. -/
namespace Go.Proofs.YtfkidklpjiiclaaGreat
open Go.RowKit
set_option linter.unusedVariables false
set_option maxRecDepth 100000

end Go.Proofs.YtfkidklpjiiclaaGreat

