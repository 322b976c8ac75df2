/- The whole outline of a glyph: the reference's walk. Printed by mk_whs.py. Conditions: as each states. -/
import Derived.Deep.RegionHeld3
import Derived.Test.YtgdkabljgabjoaaGreatDoorGw10
import Derived.Test.YtgdkabljgabjoaaGreatDoorGw05
namespace Go.Proofs.YtgdkabljgabjoaaGreatDoor
open Go.RowKit
set_option linter.unusedVariables false
set_option maxRecDepth 100000

theorem OutTo.more {w : World} {lo k co : Nat} {Ao : Option Addr} {ys : List Value} {Ls Ls' : List (List Knot)} (h : OutTo w lo Ao k co ys Ls) (he : ∀ j, j < k → Ls'[j]? = Ls[j]?) : OutTo w lo Ao k co ys Ls' := ⟨h.1, fun j K hj hK => h.2.1 j K hj (by rw [← he j hj]; exact hK), h.2.2⟩
/-- the loops so far: the box X of their slice, and the rows above it -/
def WO (w : World) (X Z : Nat) (Lr : List (List Knot)) (Ao : Option Addr) (co : Nat) (ys : List Value) : Prop := OutTo w Z Ao Lr.length co ys Lr ∧ w.heap[X]? = some (.cells #[.slice Ao Lr.length co] 24 (0, 0)) ∧ X < w.heap.size ∧ Z ≤ X
theorem WO.below {w w' : World} {X Z co : Nat} {Lr : List (List Knot)} {Ao : Option Addr} {ys : List Value} (h : WO w X Z Lr Ao co ys) (hb : Below w.heap.size w w') : WO w' X Z Lr Ao co ys :=
  ⟨h.1.kept hb, (hb.block X h.2.2.1).trans h.2.1, Nat.lt_of_lt_of_le h.2.2.1 hb.size, h.2.2.2⟩
/-- no block but X and those of loops has changed -/
def FrT (X : Nat) (w w' : World) : Prop := ∀ (b : Nat) (cs : Array Value) (ty : TypeId), w.heap[b]? = some (.cells cs ty (0, 0)) → b ≠ X → ty ≠ 113 → w'.heap[b]? = some (.cells cs ty (0, 0))
theorem FrT.refl (X : Nat) (w : World) : FrT X w w := fun b cs ty h _ _ => h
theorem FrT.trans {X : Nat} {a b c : World} (h : FrT X a b) (k : FrT X b c) : FrT X a c := fun g cs ty h1 h2 h3 => k g cs ty (h g cs ty h1 h2 h3) h2 h3
theorem FrT.below {X : Nat} {w a b : World} (h : FrT X w a) (hb : Below a.heap.size a b) : FrT X w b := fun g cs ty h1 h2 h3 => by
  have h4 := h g cs ty h1 h2 h3
  have hlt := (Array.getElem?_eq_some_iff.1 h4).1
  exact (hb.block g hlt).trans h4
theorem FrT.grown {X lo size n : Nat} {w a b : World} {v : Value} {xs : List Value} (h : FrT X w a) (ho : a.ownsRow lo 113 size v n xs) (hg : a.grownBy b v.ownBlock) : FrT X w b := fun g cs ty h1 h2 h3 => by
  have h4 := h g cs ty h1 h2 h3
  have hlt := (Array.getElem?_eq_some_iff.1 h4).1
  refine (hg.block g hlt fun e => ?_).trans h4
  obtain ⟨cc, hcc⟩ := own_kind ho e.symm
  rw [h4] at hcc
  injection hcc with hcc
  injection hcc with _ h5 _
  exact h3 h5
theorem take_snocW {α : Type} {L : List α} {k : Nat} {a : α} (h : L[k]? = some a) : L.take (k + 1) = L.take k ++ [a] := by
  rw [List.take_add_one, h]; rfl
/-- what the walk asks of each glyph -/
def GlB (g : Gl) : Prop := g.out.length ≤ 12 ∧ (∀ K ∈ g.out, K.length ≤ 60 ∧ ∀ q ∈ K, (-262144 ≤ q.1 ∧ q.1 ≤ 262144) ∧ (-262144 ≤ q.2.1 ∧ q.2.1 ≤ 262144)) ∧ g.parts.length ≤ 6 ∧ ∀ r ∈ g.parts, (-262144 ≤ r.2.1 ∧ r.2.1 ≤ 262144) ∧ (-262144 ≤ r.2.2 ∧ r.2.2 ≤ 262144)

end Go.Proofs.YtgdkabljgabjoaaGreatDoor

