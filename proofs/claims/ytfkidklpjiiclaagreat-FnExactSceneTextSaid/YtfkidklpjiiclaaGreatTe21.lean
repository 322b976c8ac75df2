/- A curve near a path, the reference's side. Conditions: as each states. -/
import Derived.Test.YtfkidklpjiiclaaGreatTe20
import Derived.Test.YtfkidklpjiiclaaGreatTe19
namespace Go.Proofs.YtfkidklpjiiclaaGreat
open Go.RowKit
set_option linter.unusedVariables false
set_option maxRecDepth 100000

end Go.Proofs.YtfkidklpjiiclaaGreat

/- The first corner of a ring, parts of a path: the reference's side. Conditions: as each states. -/
namespace Go.Proofs.YtfkidklpjiiclaaGreat
open Go.RowKit
set_option linter.unusedVariables false
set_option maxRecDepth 100000

theorem RdS.pts {w : World} {lo hi : Nat} {A : Option Addr} {n : Nat} {L : List (Int × Int)} (h : RdS 2 (FlatR ptC) w lo hi A n L) (hn : 0 < n) :
    ∃ b off, A = some ⟨b, off, none⟩ ∧ lo ≤ b ∧ b < hi ∧ ∀ j, j < n → w.cell? ⟨b, off + j * 2, none⟩ = some (.int .i64 (ptAt L j).1) ∧ w.cell? ⟨b, off + j * 2 + 1, none⟩ = some (.int .i64 (ptAt L j).2) := by
  obtain ⟨b, off, a, hA, h1, h2, _, _⟩ := h.at hn
  refine ⟨b, off, hA, h1, h2, fun j hj => ?_⟩
  obtain ⟨b', off', a', hA', _, _, h3, h4⟩ := h.at hj
  rw [hA] at hA'
  injection hA' with hA'
  injection hA' with e1 e2
  subst e1 e2
  rw [ptAt_eq h3]
  exact ⟨by have := h4 0 _ rfl; simpa using this, h4 1 _ rfl⟩
theorem mod_i {a n : Nat} : ((a : Nat) : Int).tmod (n : Int) = ((a % n : Nat) : Int) := (Int.ofNat_tmod a n).symm
end Go.Proofs.YtfkidklpjiiclaaGreat

