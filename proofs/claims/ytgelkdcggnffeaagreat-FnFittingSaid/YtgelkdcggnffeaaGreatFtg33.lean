/- Regions, as outlines are: XOut turned. Conditions: as each states. -/
import Derived.WalkSmall
import Derived.OneCell
import Derived.Test.YtgelkdcggnffeaaGreatFtg05
import Derived.Test.YtgelkdcggnffeaaGreatFtg02
namespace Go.Proofs.YtgelkdcggnffeaaGreat
open Go.RowKit
set_option linter.unusedVariables false
set_option maxRecDepth 100000

/-- a loop is a slice of knots -/
abbrev ringR : Rel (List (Int × Int)) := SliceR 2 (FlatR ptC)
theorem good_ring : Good ringR := good_slice 2 (good_flat _)
/-- the loops of an outline -/
abbrev RegRd (w : World) (lo hi : Nat) (A : Option Addr) (n : Nat) (Ls : List (List (Int × Int))) : Prop := RdS 1 ringR w lo hi A n Ls
theorem reg_at {w : World} {lo hi : Nat} {A : Option Addr} {n : Nat} {Ls : List (List (Int × Int))} (h : RegRd w lo hi A n Ls) {j : Nat} (hj : j < n) :
    ∃ b off K A' n' c', A = some ⟨b, off, none⟩ ∧ lo ≤ b ∧ b < hi ∧ Ls[j]? = some K ∧ w.cell? ⟨b, off + j, none⟩ = some (.slice A' n' c') ∧ n' ≤ maxLen ∧ RdS 2 (FlatR ptC) w lo hi A' n' K := by
  obtain ⟨hl, h⟩ := h
  obtain ⟨b, off, rfl, h1, h2, h3⟩ := h (by omega)
  have hja : Ls[j]? = some (Ls[j]'(by omega)) := List.getElem?_eq_getElem (by omega)
  obtain ⟨es, e1, e2, A', n', c', rfl, hm, hr⟩ := h3 j _ hja
  have := e2 0 _ rfl
  simp only [Nat.mul_one, Nat.add_zero] at this
  exact ⟨b, off, _, A', n', c', rfl, h1, h2, hja, this, hm, hr⟩

end Go.Proofs.YtgelkdcggnffeaaGreat

/- Regions, as outlines are: XOutT turned. Conditions: as each states. -/
namespace Go.Proofs.YtgelkdcggnffeaaGreat
open Go.RowKit
set_option linter.unusedVariables false
set_option maxRecDepth 100000

/-- an outline of the call's own: its row, its loops' rows, each in a block of its own -/
def RegOwn (w : World) (lo : Nat) (A : Option Addr) (n c : Nat) (Ls : List (List (Int × Int))) : Prop := ∃ ys : List Value, Ls.length = n ∧ w.ownsRow lo 41 1 (.slice A n c) n ys ∧
  (∀ (j : Nat) (K : List (Int × Int)), Ls[j]? = some K → ∃ (Aj : Option Addr) (cj : Nat), ys[j]? = some (.slice Aj K.length cj) ∧ w.ownsRow lo 71 2 (.slice Aj K.length cj) K.length (K.flatMap ptC)) ∧
  (∀ (i j : Nat) (u v : Value), i ≠ j → ys[i]? = some u → ys[j]? = some v → ApartV u v)
theorem RegOwn.kept {w w' : World} {lo n c : Nat} {A : Option Addr} {Ls : List (List (Int × Int))} (h : RegOwn w lo A n c Ls) (hb : Below w.heap.size w w') : RegOwn w' lo A n c Ls := by
  obtain ⟨ys, h1, h2, h3, h4⟩ := h
  refine ⟨ys, h1, own_below h2 hb, fun j K hj => ?_, h4⟩
  obtain ⟨Aj, cj, h5, h6⟩ := h3 j K hj
  exact ⟨Aj, cj, h5, own_below h6 hb⟩
theorem RegOwn.rd {w : World} {lo n c : Nat} {A : Option Addr} {Ls : List (List (Int × Int))} (h : RegOwn w lo A n c Ls) (hm : ∀ K ∈ Ls, K.length ≤ maxLen) : RegRd w lo w.heap.size A n Ls := by
  obtain ⟨ys, h1, h2, h3, h4⟩ := h
  refine ⟨h1, fun hn => ?_⟩
  obtain ⟨g, rfl, hg1, hg2, _, hc, _⟩ := own_at h2 hn
  refine ⟨g, 0, rfl, hg1, hg2, fun j K hj => ?_⟩
  obtain ⟨Aj, cj, h5, h6⟩ := h3 j K hj
  refine ⟨[.slice Aj K.length cj], rfl, fun i u hu => ?_, Aj, K.length, cj, rfl, hm K (List.mem_of_getElem? hj), rdS_own ptC_len (by omega) h6 rfl⟩
  match i, hu with
  | 0, hu =>
    injection hu with hu
    subst hu
    have hjl := (List.getElem?_eq_some_iff.1 hj).1
    simp only [Nat.mul_one, Nat.add_zero, Nat.zero_add]
    rw [hc j (by omega), h5]
theorem RegOwn.stored_below {w : World} {lo n c : Nat} {A : Option Addr} {Ls : List (List (Int × Int))} (h : RegOwn w lo A n c Ls) {a : Addr} (ha : a.block < lo) (u : Value) : RegOwn (w.setCell a u) lo A n c Ls := by
  obtain ⟨ys, h1, h2, h3, h4⟩ := h
  refine ⟨ys, h1, ownsRow_setCell_below h2 ha u, fun j K hj => ?_, h4⟩
  obtain ⟨Aj, cj, h5, h6⟩ := h3 j K hj
  exact ⟨Aj, cj, h5, ownsRow_setCell_below h6 ha u⟩
theorem RegOwn.base {w : World} {lo lo' n c : Nat} {A : Option Addr} {Ls : List (List (Int × Int))} (h : RegOwn w lo A n c Ls) (hl : lo' ≤ lo) : RegOwn w lo' A n c Ls := by
  obtain ⟨ys, h1, h2, h3, h4⟩ := h
  refine ⟨ys, h1, own_lower h2 hl, fun j K hj => ?_, h4⟩
  obtain ⟨Aj, cj, h5, h6⟩ := h3 j K hj
  exact ⟨Aj, cj, h5, own_lower h6 hl⟩

theorem elemRing : Elem Tryz.prog 24 41 1 24 := elem_mk (z := .agg #[.slice none 0 0]) Tryz.underlying24 (by kernel_rfl) rfl (by omega)
end Go.Proofs.YtgelkdcggnffeaaGreat

