/- A curve near a path, the reference's side. Conditions: as each states. -/
import Derived.Test.YtlifiioflkhkoaaGreatFr09
import Derived.Test.YtlifiioflkhkoaaGreatFr08
import Derived.Test.YtlifiioflkhkoaaGreatFr03
import Derived.Test.YtlifiioflkhkoaaGreatFr02
namespace Go.Proofs.YtlifiioflkhkoaaGreat
open Go.RowKit
set_option linter.unusedVariables false
set_option maxRecDepth 100000

end Go.Proofs.YtlifiioflkhkoaaGreat

/- The first corner of a ring, parts of a path: the reference's side. Conditions: as each states. -/
namespace Go.Proofs.YtlifiioflkhkoaaGreat
open Go.RowKit
set_option linter.unusedVariables false
set_option maxRecDepth 100000

theorem RdS.pts {w : World} {lo hi : Nat} {A : Option Addr} {n : Nat} {L : List (Int × Int)} (h : RdS 2 (FlatR ptC) w lo hi A n L) (hn : 0 < n) :
    ∃ b off, A = some ⟨b, off, none⟩ ∧ lo ≤ b ∧ b < hi ∧ ∀ j, j < n → w.cell? ⟨b, off + j * 2, none⟩ = some (.int .i64 (ptAt L j).1) ∧ w.cell? ⟨b, off + j * 2 + 1, none⟩ = some (.int .i64 (ptAt L j).2) := by
  obtain ⟨b, off, a, hA, h1, h2, _, _⟩ := h.at hn
  refine ⟨b, off, hA, h1, h2, fun j hj => ?_⟩
  obtain ⟨b', off', a', hA', _, _, h3, h4⟩ := h.at hj
  rw [hA] at hA'
  injection hA' with hA'
  injection hA' with e1 e2
  subst e1 e2
  rw [ptAt_eq h3]
  exact ⟨by have := h4 0 _ rfl; simpa using this, h4 1 _ rfl⟩
theorem mod_i {a n : Nat} : ((a : Nat) : Int).tmod (n : Int) = ((a % n : Nat) : Int) := (Int.ofNat_tmod a n).symm
end Go.Proofs.YtlifiioflkhkoaaGreat

/- A state of the hint machine that came in, opened. No walk in sight. Conditions: none. -/
namespace Go.Proofs.YtlifiioflkhkoaaGreat
open Go.RowKit Go.ChangeShapes Go.WideShapes Go.Deep
set_option linter.unusedVariables false
set_option maxRecDepth 100000

end Go.Proofs.YtlifiioflkhkoaaGreat

/- Marks in slices of Knot, and whether they are held. Conditions: as each states. -/
namespace Go.Proofs.YtlifiioflkhkoaaGreat
open Go.RowKit
set_option linter.unusedVariables false
set_option maxRecDepth 100000

end Go.Proofs.YtlifiioflkhkoaaGreat

/- Marks in an outline of the call's own, and whether they are held. Conditions: as each states. -/
namespace Go.Proofs.YtlifiioflkhkoaaGreat
open Go.RowKit
set_option linter.unusedVariables false
set_option maxRecDepth 100000

theorem own_same {w w' : World} {lo e size n : Nat} {v : Value} {xs : List Value} (h : w.ownsRow lo e size v n xs) (hs : ∀ g, v.ownBlock = some g → w'.heap[g]? = w.heap[g]?) : w'.ownsRow lo e size v n xs := by
  refine ⟨h.1, ?_⟩
  rcases h.2 with h2 | ⟨g, cap, cur, hv, hg, hh, r⟩
  · exact .inl h2
  · exact .inr ⟨g, cap, cur, hv, hg, (hs g (by rw [hv]; rfl)).trans hh, r⟩
theorem own_kind {w : World} {lo e size n : Nat} {v : Value} {xs : List Value} (h : w.ownsRow lo e size v n xs) {g : Nat} (hg : v.ownBlock = some g) : ∃ c, w.heap[g]? = some (.cells c e (0, 0)) := by
  rcases h.2 with ⟨rfl, _⟩ | ⟨g', cap, cur, rfl, _, hh, _⟩
  · simp [Value.ownBlock] at hg
  · simp [Value.ownBlock] at hg; subst hg; exact ⟨_, hh⟩
theorem own_ne_kind {w : World} {lo e size n lo' e' size' n' : Nat} {v v' : Value} {xs xs' : List Value} (h : w.ownsRow lo e size v n xs) (h' : w.ownsRow lo' e' size' v' n' xs') (he : e ≠ e') {g : Nat} (hg : v.ownBlock = some g) : v'.ownBlock ≠ some g := by
  intro hg'
  obtain ⟨c, h1⟩ := own_kind h hg
  obtain ⟨c', h2⟩ := own_kind h' hg'
  rw [h1] at h2
  injection h2 with h2
  injection h2 with _ h2 _
  exact he h2

end Go.Proofs.YtlifiioflkhkoaaGreat

