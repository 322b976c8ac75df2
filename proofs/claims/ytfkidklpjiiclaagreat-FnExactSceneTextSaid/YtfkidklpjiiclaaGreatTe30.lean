/- Straight ways: both sides. Conditions: as each states. -/
import Derived.StillTail
import Derived.Deep.RegionHeld3
import Derived.Test.YtfkidklpjiiclaaGreatTe21
import Derived.Test.YtfkidklpjiiclaaGreatTe01
namespace Go.Proofs.YtfkidklpjiiclaaGreat
open Go.RowKit
set_option linter.unusedVariables false
set_option maxRecDepth 100000

end Go.Proofs.YtfkidklpjiiclaaGreat

/- A region that draws its order, whose last operations wait for all that stand ahead of them: its head by itself (with what is held in S), its tail in order. No program in sight. Conditions: as each states. -/
namespace Go.Proofs.YtfkidklpjiiclaaGreat
set_option linter.unusedVariables false
set_option maxRecDepth 100000

structure HRel (n : Nat) (l : List Oper) (h f : Array Bool) : Prop where
  hs : h.size = n
  fs : f.size = l.length
  hn : n < l.length
  eq : ∀ j, j < n → f.getD j true = h.getD j true
  tl : ∀ t, n ≤ t → t < l.length → f.getD t true = false
theorem HRel.set {n : Nat} {l : List Oper} {h f : Array Bool} (r : HRel n l h f) {i : Nat} (hi : i < n) : HRel n l (h.setIfInBounds i true) (f.setIfInBounds i true) := by
  refine ⟨by simp [r.hs], by simp [r.fs], r.hn, fun j hj => ?_, fun t h1 h2 => ?_⟩
  · by_cases hij : i = j
    · subst hij
      have h1 := r.hs
      have h2 := r.fs
      have h3 := r.hn
      simp [hi, h1, show i < f.size by omega]
    · rw [getD_set_ne true hij, getD_set_ne true hij]; exact r.eq j hj
  · rw [getD_set_ne true (by omega)]; exact r.tl t h1 h2
end Go.Proofs.YtfkidklpjiiclaaGreat

