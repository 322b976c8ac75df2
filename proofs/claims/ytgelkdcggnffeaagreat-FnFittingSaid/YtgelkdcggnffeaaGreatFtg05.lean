/- Outlines in memory: slices of loops, each a slice of knots; the laws' own functions on them. Conditions: as each states. -/
import Derived.WalkSmall
import Derived.OneCell
import Derived.Test.YtgelkdcggnffeaaGreatFtg04
namespace Go.Proofs.YtgelkdcggnffeaaGreat
open Go.RowKit
set_option linter.unusedVariables false
set_option maxRecDepth 100000

abbrev Knot := Int × Int × Bool
/-- a loop is a slice of knots -/
abbrev loopR : Rel (List Knot) := SliceR 3 (FlatR knotC)
theorem good_loop : Good loopR := good_slice 3 (good_flat _)
/-- the loops of an outline -/
abbrev OutRd (w : World) (lo hi : Nat) (A : Option Addr) (n : Nat) (Ls : List (List Knot)) : Prop := RdS 1 loopR w lo hi A n Ls
theorem out_at {w : World} {lo hi : Nat} {A : Option Addr} {n : Nat} {Ls : List (List Knot)} (h : OutRd w lo hi A n Ls) {j : Nat} (hj : j < n) :
    ∃ b off K A' n' c', A = some ⟨b, off, none⟩ ∧ lo ≤ b ∧ b < hi ∧ Ls[j]? = some K ∧ w.cell? ⟨b, off + j, none⟩ = some (.slice A' n' c') ∧ n' ≤ maxLen ∧ RdS 3 (FlatR knotC) w lo hi A' n' K := by
  obtain ⟨hl, h⟩ := h
  obtain ⟨b, off, rfl, h1, h2, h3⟩ := h (by omega)
  have hja : Ls[j]? = some (Ls[j]'(by omega)) := List.getElem?_eq_getElem (by omega)
  obtain ⟨es, e1, e2, A', n', c', rfl, hm, hr⟩ := h3 j _ hja
  have := e2 0 _ rfl
  simp only [Nat.mul_one, Nat.add_zero] at this
  exact ⟨b, off, _, A', n', c', rfl, h1, h2, hja, this, hm, hr⟩

end Go.Proofs.YtgelkdcggnffeaaGreat

/- An outline's copy: the laws' functions that turn an outline of theirs into one of the program's. Conditions: as each states. -/
namespace Go.Proofs.YtgelkdcggnffeaaGreat
open Go.RowKit
set_option linter.unusedVariables false
set_option maxRecDepth 100000

/-- no block of one is a block of the other -/
def ApartV (u v : Value) : Prop := ∀ g, u.ownBlock = some g → v.ownBlock ≠ some g
/-- an outline of the call's own: its row, its loops' rows, each in a block of its own -/
def OutOwn (w : World) (lo : Nat) (A : Option Addr) (n c : Nat) (Ls : List (List Knot)) : Prop := ∃ ys : List Value, Ls.length = n ∧ w.ownsRow lo 49 1 (.slice A n c) n ys ∧
  (∀ (j : Nat) (K : List Knot), Ls[j]? = some K → ∃ (Aj : Option Addr) (cj : Nat), ys[j]? = some (.slice Aj K.length cj) ∧ w.ownsRow lo 73 3 (.slice Aj K.length cj) K.length (K.flatMap knotC)) ∧
  (∀ (i j : Nat) (u v : Value), i ≠ j → ys[i]? = some u → ys[j]? = some v → ApartV u v)
theorem OutOwn.kept {w w' : World} {lo n c : Nat} {A : Option Addr} {Ls : List (List Knot)} (h : OutOwn w lo A n c Ls) (hb : Below w.heap.size w w') : OutOwn w' lo A n c Ls := by
  obtain ⟨ys, h1, h2, h3, h4⟩ := h
  refine ⟨ys, h1, own_below h2 hb, fun j K hj => ?_, h4⟩
  obtain ⟨Aj, cj, h5, h6⟩ := h3 j K hj
  exact ⟨Aj, cj, h5, own_below h6 hb⟩
theorem OutOwn.rd {w : World} {lo n c : Nat} {A : Option Addr} {Ls : List (List Knot)} (h : OutOwn w lo A n c Ls) (hm : ∀ K ∈ Ls, K.length ≤ maxLen) : OutRd w lo w.heap.size A n Ls := by
  obtain ⟨ys, h1, h2, h3, h4⟩ := h
  refine ⟨h1, fun hn => ?_⟩
  obtain ⟨g, rfl, hg1, hg2, _, hc, _⟩ := own_at h2 hn
  refine ⟨g, 0, rfl, hg1, hg2, fun j K hj => ?_⟩
  obtain ⟨Aj, cj, h5, h6⟩ := h3 j K hj
  refine ⟨[.slice Aj K.length cj], rfl, fun i u hu => ?_, Aj, K.length, cj, rfl, hm K (List.mem_of_getElem? hj), rdS_own knotC_len (by omega) h6 rfl⟩
  match i, hu with
  | 0, hu =>
    injection hu with hu
    subst hu
    have hjl := (List.getElem?_eq_some_iff.1 hj).1
    simp only [Nat.mul_one, Nat.add_zero, Nat.zero_add]
    rw [hc j (by omega), h5]
theorem OutOwn.stored_below {w : World} {lo n c : Nat} {A : Option Addr} {Ls : List (List Knot)} (h : OutOwn w lo A n c Ls) {a : Addr} (ha : a.block < lo) (u : Value) : OutOwn (w.setCell a u) lo A n c Ls := by
  obtain ⟨ys, h1, h2, h3, h4⟩ := h
  refine ⟨ys, h1, ownsRow_setCell_below h2 ha u, fun j K hj => ?_, h4⟩
  obtain ⟨Aj, cj, h5, h6⟩ := h3 j K hj
  exact ⟨Aj, cj, h5, ownsRow_setCell_below h6 ha u⟩
theorem own_lower {w : World} {lo lo' e size n : Nat} {v : Value} {xs : List Value} (h : w.ownsRow lo e size v n xs) (hl : lo' ≤ lo) : w.ownsRow lo' e size v n xs := by
  refine ⟨h.1, ?_⟩
  rcases h.2 with h2 | ⟨g, cap, cur, hv, hg, r⟩
  · exact .inl h2
  · exact .inr ⟨g, cap, cur, hv, Nat.le_trans hl hg, r⟩
theorem OutOwn.base {w : World} {lo lo' n c : Nat} {A : Option Addr} {Ls : List (List Knot)} (h : OutOwn w lo A n c Ls) (hl : lo' ≤ lo) : OutOwn w lo' A n c Ls := by
  obtain ⟨ys, h1, h2, h3, h4⟩ := h
  refine ⟨ys, h1, own_lower h2 hl, fun j K hj => ?_, h4⟩
  obtain ⟨Aj, cj, h5, h6⟩ := h3 j K hj
  exact ⟨Aj, cj, h5, own_lower h6 hl⟩

theorem elemLoop : Elem Tryz.prog 29 49 1 24 := elem_mk (z := .agg #[.slice none 0 0]) Tryz.underlying29 (by kernel_rfl) rfl (by omega)
end Go.Proofs.YtgelkdcggnffeaaGreat

