/- An argument that is a slice of structs of two numbers, opened. No walk in sight. Conditions: none. -/
import Derived.Test.YtjcjmjcgeojhiaaHintS
import Derived.Deep.Slices
import Derived.Deep.Fields
import Derived.ChangeSame
import Derived.ProofKit
namespace Go.Proofs.Ytjcjmjcgeojhiaa
open Go.RowKit Go.ChangeShapes Go.WideShapes Go.Deep
set_option linter.unusedVariables false
set_option maxRecDepth 100000

theorem list_of_all {α : Type} (d : α) (P : Nat → α → Prop) : ∀ n : Nat, (∀ i, i < n → ∃ a, P i a) → ∃ L : List α, L.length = n ∧ ∀ i, i < n → P i (L.getD i d) := by
  intro n
  induction n with
  | zero => intro _; exact ⟨[], rfl, fun i hi => absurd hi (Nat.not_lt_zero i)⟩
  | succ n ih =>
    intro h
    obtain ⟨L, hl, hL⟩ := ih fun i hi => h i (by omega)
    obtain ⟨a, ha⟩ := h n (by omega)
    refine ⟨L ++ [a], by simp [hl], fun i hi => ?_⟩
    rcases Nat.lt_or_ge i n with h' | h'
    · have := hL i h'
      rw [List.getD_eq_getElem?_getD, List.getElem?_append_left (by omega), ← List.getD_eq_getElem?_getD]; exact this
    · obtain rfl : i = n := by omega
      rw [List.getD_eq_getElem?_getD, List.getElem?_append_right (by omega), hl]; simpa using ha

theorem cell_lt {w : World} {a : Addr} {v : Value} (h : w.cell? a = some v) : a.block < w.heap.size := by
  unfold World.cell? at h
  split at h
  · rename_i hc; exact (Array.getElem?_eq_some_iff.1 hc).1
  · cases h

theorem open_pairs {H : Type} {enc : TypeId × Value → H} {P : Program} {w : World} {t e i64 : TypeId} {f0 f1 : Field} {fuel : Nat} {x : DataW H × List MemPlace} (ht : P.underlying t = some (.slice e)) (he : P.underlying e = some (.struct #[f0, f1]))
    (hone : oneCellFields P #[f0, f1] = true) (hC : P.cellsOf e = 2) (hf0 : f0.type = i64) (hf1 : f1.type = i64) (hi : P.underlying i64 = some (.int .i64)) {A : Option Addr} {n c : Nat} (h : DataW.trod enc P w 0 (fun _ => true) true fuel t (Value.slice A n c).cells.toList = some x) :
    ∃ L : List (Int × Int), RdH w A n L ∧ n ≤ maxLen := by
  have h' : DataW.trod enc P w 0 (fun _ => true) true fuel t [.slice A n c] = some x := by simpa [Value.cells] using h
  rcases open_slice ht h' with ⟨hcs, _⟩ | ⟨a, len, cap, m, n', D, Pl, hcs, hb, hl, hm, hmm, hx, hel⟩
  · injection hcs with hcs; injection hcs with h1 h2 h3
    subst h1; subst h2
    exact ⟨[], ⟨rfl, fun h => absurd h (Nat.lt_irrefl 0)⟩, Nat.zero_le _⟩
  · injection hcs with hcs; injection hcs with h1 h2 h3
    subst h1; subst h2; subst h3
    simp only [if_true] at hmm
    subst hmm
    have hall : ∀ i, i < n → ∃ p : Int × Int, w.cell? (a.add (i * 2)) = some (.int .i64 p.1) ∧ w.cell? (a.add (i * 2 + 1)) = some (.int .i64 p.2) := by
      intro i hi'
      obtain ⟨cs', hc, ht'⟩ := hel i (by omega)
      rw [hC] at hc
      obtain ⟨_, hcl, hat⟩ := World.cells?_some hc
      obtain ⟨ys, n'', hn', hy, hlen, hyl, hf⟩ := DataW.trod_struct he ht'
      obtain ⟨o0, k0⟩ := hone_of hone 0 f0 rfl
      obtain ⟨o1, k1⟩ := hone_of hone 1 f1 rfl
      match cs', hcl with
      | [u0, u1], _ =>
        match ys, hyl with
        | [y0, y1], _ =>
          have g0 := hf 0 f0 rfl
          have g1 := hf 1 f1 rfl
          rw [o0, k0, hf0] at g0
          rw [o1, k1, hf1] at g1
          obtain ⟨q0, e0, _, _⟩ := DataW.trod_int hi (show DataW.trod enc P w 0 (fun _ => true) true n'' i64 [u0] = some y0 by simpa using g0)
          obtain ⟨q1, e1, _, _⟩ := DataW.trod_int hi (show DataW.trod enc P w 0 (fun _ => true) true n'' i64 [u1] = some y1 by simpa using g1)
          simp at e0 e1
          subst e0; subst e1
          have a0 := hat 0 (by omega)
          have a1 := hat 1 (by omega)
          rw [Go.Deep.add_add] at a0 a1
          exact ⟨(q0, q1), by simpa using a0, by simpa using a1⟩
    obtain ⟨L, hL, hLp⟩ := list_of_all (0, 0) _ n hall
    refine ⟨L, ⟨hL, fun hn => ?_⟩, by omega⟩
    obtain ⟨b, off, spot⟩ := a
    have hsp := World.cell?_spot (hLp 0 hn).1
    have hbl := cell_lt (hLp 0 hn).1
    simp [Addr.add] at hsp hbl
    subst hsp
    refine ⟨b, off, rfl, hbl, fun j hj => ?_⟩
    have := hLp j hj
    have e1 : (⟨b, off, none⟩ : Addr).add (j * 2) = ⟨b, off + j * 2, none⟩ := by unfold Addr.add; split <;> simp_all
    have e2 : (⟨b, off, none⟩ : Addr).add (j * 2 + 1) = ⟨b, off + j * 2 + 1, none⟩ := by unfold Addr.add; rw [if_neg (by omega)]; simp [Nat.add_assoc]
    rw [e1, e2] at this
    exact this
end Go.Proofs.Ytjcjmjcgeojhiaa
