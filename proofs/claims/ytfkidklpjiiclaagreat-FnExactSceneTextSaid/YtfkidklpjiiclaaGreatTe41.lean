/- The ring along a loop: the reference's side. Printed by mk_fo2.py. Conditions: as each states. -/
import Derived.Lib.QuietBelow
import Derived.Test.YtfkidklpjiiclaaGreatTe40
import Derived.Test.YtfkidklpjiiclaaGreatTe24
import Derived.Test.YtfkidklpjiiclaaGreatTe04
import Derived.Test.YtfkidklpjiiclaaGreatTe34
import Derived.Test.YtfkidklpjiiclaaGreatTe29
import Derived.Test.YtfkidklpjiiclaaGreatTe30
namespace Go.Proofs.YtfkidklpjiiclaaGreat
open Go.RowKit
set_option linter.unusedVariables false
set_option maxRecDepth 100000

/-- a ring's variable X and its row, in blocks behind it -/
def RingB (w : World) (X : Nat) (A : Option Addr) (c : Nat) (L : List Pnt) : Prop :=
  w.heap[X]? = some (.cells #[.slice A L.length c] 155 (0, 0)) ∧ w.ownsRow (X + 1) 148 2 (.slice A L.length c) L.length (L.flatMap ptC)
theorem RingB.lt {w : World} {X c : Nat} {A : Option Addr} {L : List Pnt} (h : RingB w X A c L) : X < w.heap.size := (Array.getElem?_eq_some_iff.1 h.1).1
theorem RingB.below {w w' : World} {X c : Nat} {A : Option Addr} {L : List Pnt} (h : RingB w X A c L) (hb : Below w.heap.size w w') : RingB w' X A c L := ⟨(hb.block X h.lt).trans h.1, own_below h.2 hb⟩
theorem RingB.cell {w : World} {X c : Nat} {A : Option Addr} {L : List Pnt} (h : RingB w X A c L) : w.cell? ⟨X, 0, none⟩ = some (.slice A L.length c) := by rw [Go.Joins.cell_of_block h.1]; rfl
theorem RingB.free {w : World} {X c : Nat} {A : Option Addr} {L : List Pnt} (h : RingB w X A c L) : ∀ o, w.frozen? ⟨X, o, none⟩ = false := Go.Joins.unfrozen_of_block h.1
theorem RingB.blk {w W w5 : World} {X c : Nat} {A : Option Addr} {L : List Pnt} (h : RingB w X A c L) (hW : Below w.heap.size w W) (hg : W.grownBy w5 (Value.slice A L.length c).ownBlock) : w5.heap[X]? = some (.cells #[.slice A L.length c] 155 (0, 0)) :=
  (hg.block X (Nat.lt_of_lt_of_le h.lt hW.size) (fun e => by have := (h.2.lt X e.symm).1; omega)).trans ((hW.block X h.lt).trans h.1)
theorem flat_drop {q : Qd} {n : Nat} (hn : 1 ≤ n) : partP (flatL q n) 0 (n - 1) = (flatL q n).dropLast := by
  unfold partP
  rw [List.drop_zero, List.dropLast_eq_take, flatL_len]
  congr 1; omega

/-- the points along a curve, in one form -/
def FlatOne (q : Qd) (w w' : World) (A : Option Addr) (m : Nat) (g : Bool) : Prop :=
  Below w.heap.size w w' ∧ ((g = false ∧ curvL q = none) ∨ (g = true ∧ ∃ M L, curvL q = some M ∧ m = M.length + 1 ∧ 1 ≤ M.length ∧ M.length ≤ 64 ∧ RdS 2 (FlatR ptC) w' w.heap.size w'.heap.size A m L ∧ partP L 0 (m - 2) = M))
theorem FlatTo.one {q : Qd} {w w' : World} {e : Ending} (h : FlatTo q w e w' (.bool false) (.bool true)) : ∃ A m c g, e = .returned (.tuple #[.slice A m c, .bool g]) ∧ FlatOne q w w' A m g := by
  rcases h with ⟨hl, he, hb⟩ | ⟨l, A, c, hl, he, hr, hb⟩
  · exact ⟨none, 0, 0, false, he, hb, .inl ⟨rfl, by unfold curvL; rw [hl]⟩⟩
  · have hl7 := lvl_lt hl
    have h1 : 1 ≤ 2 ^ l := Nat.one_le_two_pow
    have h2 : 2 ^ l ≤ 64 := Nat.le_trans (Nat.pow_le_pow_right (by omega) (show l ≤ 6 by omega)) (by decide)
    have hlen : (flatL q (2 ^ l)).dropLast.length = 2 ^ l := by rw [List.length_dropLast, flatL_len]; omega
    refine ⟨A, _, c, true, he, hb, .inr ⟨rfl, (flatL q (2 ^ l)).dropLast, flatL q (2 ^ l), by unfold curvL; rw [hl], by rw [hlen], by omega, by omega, hr, ?_⟩⟩
    rw [show 2 ^ l + 1 - 2 = 2 ^ l - 1 by omega]
    exact flat_drop h1

end Go.Proofs.YtfkidklpjiiclaaGreat

/- Regions, as outlines are: XCopy turned. Conditions: as each states. -/
namespace Go.Proofs.YtfkidklpjiiclaaGreat
open Go.RowKit
set_option linter.unusedVariables false
set_option maxRecDepth 100000

/-- the first k loops stand in the row ys, each in a block of its own -/
def RegTo (w : World) (lo : Nat) (Ao : Option Addr) (k co : Nat) (ys : List Value) (Ls : List (List (Int × Int))) : Prop := w.ownsRow lo 155 1 (.slice Ao k co) k ys ∧
  (∀ (j : Nat) (K : List (Int × Int)), j < k → Ls[j]? = some K → ∃ (Aj : Option Addr) (cj : Nat), ys[j]? = some (.slice Aj K.length cj) ∧ w.ownsRow lo 148 2 (.slice Aj K.length cj) K.length (K.flatMap ptC)) ∧
  (∀ (i j : Nat) (u v : Value), i ≠ j → ys[i]? = some u → ys[j]? = some v → ApartV u v)
theorem RegTo.kept {w w' : World} {lo k co : Nat} {Ao : Option Addr} {ys : List Value} {Ls : List (List (Int × Int))} (h : RegTo w lo Ao k co ys Ls) (hb : Below w.heap.size w w') : RegTo w' lo Ao k co ys Ls := by
  obtain ⟨h1, h2, h3⟩ := h
  refine ⟨own_below h1 hb, fun j K hj hK => ?_, h3⟩
  obtain ⟨Aj, cj, h4, h5⟩ := h2 j K hj hK
  exact ⟨Aj, cj, h4, own_below h5 hb⟩
theorem RegTo.set {w : World} {lo k co : Nat} {Ao : Option Addr} {ys : List Value} {Ls : List (List (Int × Int))} (h : RegTo w lo Ao k co ys Ls) {a : Addr} (ha : a.block < lo) (u : Value) : RegTo (w.setCell a u) lo Ao k co ys Ls := by
  obtain ⟨h1, h2, h3⟩ := h
  refine ⟨ownsRow_setCell_below h1 ha u, fun j K hj hK => ?_, h3⟩
  obtain ⟨Aj, cj, h4, h5⟩ := h2 j K hj hK
  exact ⟨Aj, cj, h4, ownsRow_setCell_below h5 ha u⟩
/-- one loop more: a row that lies above all that stood before, appended -/
theorem RegTo.next {w w1 w2 : World} {lo B k co c2 cc : Nat} {Ao A2 A3 : Option Addr} {ys : List Value} {Ls : List (List (Int × Int))} {K : List (Int × Int)} (h : RegTo w lo Ao k co ys Ls) (hK : Ls[k]? = some K)
    (hb : Below w.heap.size w w1) (hr : w1.ownsRow B 148 2 (.slice A2 K.length c2) K.length (K.flatMap ptC)) (hB : w.heap.size ≤ B) (hlo : lo ≤ w.heap.size)
    (ho : w2.ownsRow lo 155 1 (.slice A3 (k + 1) cc) (k + 1) (ys ++ [.slice A2 K.length c2])) (hg : w1.grownBy w2 (Value.slice Ao k co).ownBlock) : RegTo w2 lo A3 (k + 1) cc (ys ++ [.slice A2 K.length c2]) Ls := by
  obtain ⟨h1, h2, h3⟩ := h
  have h1' := own_below h1 hb
  have hyl := h1.1
  rw [Nat.mul_one] at hyl
  have hne : ∀ {g : Nat} {v : Value} {n : Nat} {xs : List Value} {B' : Nat}, w1.ownsRow B' 148 2 v n xs → v.ownBlock = some g → w2.heap[g]? = w1.heap[g]? := fun {g v n xs B'} hv hg' =>
    hg.block g (hv.lt g hg').2 fun e => own_ne_kind hv h1' (by decide) hg' e.symm
  refine ⟨ho, fun j K' hj hK' => ?_, fun i j u v hij hu hv => ?_⟩
  · by_cases hjk : j = k
    · subst hjk
      have e := Option.some.inj (hK.symm.trans hK')
      subst e
      refine ⟨A2, c2, by rw [List.getElem?_append_right (by omega), hyl]; simp, own_lower (own_same hr fun g hg' => hne hr hg') (by omega)⟩
    · obtain ⟨Aj, cj, h4, h5⟩ := h2 j K' (by omega) hK'
      refine ⟨Aj, cj, by rw [List.getElem?_append_left (by omega)]; exact h4, own_same (own_below h5 hb) fun g hg' => hne (own_below h5 hb) hg'⟩
  · have hold : ∀ (j : Nat) (v : Value), j < k → ys[j]? = some v → j < Ls.length → ∀ g, v.ownBlock = some g → g < w.heap.size := fun j v hj hv hjl g hg' => by
      obtain ⟨Aj, cj, h4, h5⟩ := h2 j _ hj (List.getElem?_eq_getElem hjl)
      rw [hv] at h4
      injection h4 with h4
      subst h4
      exact (h5.lt g hg').2
    have hkl := (List.getElem?_eq_some_iff.1 hK).1
    have hil := (List.getElem?_eq_some_iff.1 hu).1
    have hjl := (List.getElem?_eq_some_iff.1 hv).1
    simp at hil hjl
    by_cases hik : i < k
    · rw [List.getElem?_append_left (by omega)] at hu
      by_cases hjk : j < k
      · rw [List.getElem?_append_left (by omega)] at hv
        exact h3 i j u v hij hu hv
      · obtain rfl : j = k := by omega
        rw [List.getElem?_append_right (by omega), hyl] at hv
        simp at hv
        subst hv
        intro g hgu hgv
        have := hold i u hik hu (by omega) g hgu
        have := (hr.lt g hgv).1
        omega
    · obtain rfl : i = k := by omega
      rw [List.getElem?_append_right (by omega), hyl] at hu
      rw [List.getElem?_append_left (by omega)] at hv
      simp at hu
      subst hu
      intro g hgu hgv
      have := hold j v (by omega) hv (by omega) g hgv
      have := (hr.lt g hgu).1
      omega
end Go.Proofs.YtfkidklpjiiclaaGreat

/- The region along an outline: the reference's side. Printed by mk_fo3.py. Conditions: as each states. -/
namespace Go.Proofs.YtfkidklpjiiclaaGreat
open Go.RowKit
set_option linter.unusedVariables false
set_option maxRecDepth 100000

end Go.Proofs.YtfkidklpjiiclaaGreat

/- Segments of a loop and the ring along them: the numbers alone. Conditions: as each states. -/
namespace Go.Proofs.YtfkidklpjiiclaaGreat
open Go.RowKit
set_option linter.unusedVariables false
set_option maxRecDepth 100000

end Go.Proofs.YtfkidklpjiiclaaGreat

/- A region that draws its order, whose last operations wait for all that stand ahead of them, and whose head only reads and makes memory: its head in the text's order, its tail behind it. No program in sight. Conditions: as each states. -/
namespace Go.Proofs.YtfkidklpjiiclaaGreat
open Go.RowKit
set_option linter.unusedVariables false
set_option maxRecDepth 100000

end Go.Proofs.YtfkidklpjiiclaaGreat

