/- Marks in slices of Knot, and whether they are held. Conditions: as each states. -/
import Derived.Deep.RegionLaw
import Derived.StillTailTactics
import Derived.Deep.RegionHeld3
import Derived.Test.YtfkidklpjiiclaaGreatTe03
namespace Go.Proofs.YtfkidklpjiiclaaGreat
open Go.RowKit
set_option linter.unusedVariables false
set_option maxRecDepth 100000

end Go.Proofs.YtfkidklpjiiclaaGreat

/- Marks in an outline of the call's own, and whether they are held. Conditions: as each states. -/
namespace Go.Proofs.YtfkidklpjiiclaaGreat
open Go.RowKit
set_option linter.unusedVariables false
set_option maxRecDepth 100000

theorem own_same {w w' : World} {lo e size n : Nat} {v : Value} {xs : List Value} (h : w.ownsRow lo e size v n xs) (hs : ∀ g, v.ownBlock = some g → w'.heap[g]? = w.heap[g]?) : w'.ownsRow lo e size v n xs := by
  refine ⟨h.1, ?_⟩
  rcases h.2 with h2 | ⟨g, cap, cur, hv, hg, hh, r⟩
  · exact .inl h2
  · exact .inr ⟨g, cap, cur, hv, hg, (hs g (by rw [hv]; rfl)).trans hh, r⟩
theorem own_kind {w : World} {lo e size n : Nat} {v : Value} {xs : List Value} (h : w.ownsRow lo e size v n xs) {g : Nat} (hg : v.ownBlock = some g) : ∃ c, w.heap[g]? = some (.cells c e (0, 0)) := by
  rcases h.2 with ⟨rfl, _⟩ | ⟨g', cap, cur, rfl, _, hh, _⟩
  · simp [Value.ownBlock] at hg
  · simp [Value.ownBlock] at hg; subst hg; exact ⟨_, hh⟩
theorem own_ne_kind {w : World} {lo e size n lo' e' size' n' : Nat} {v v' : Value} {xs xs' : List Value} (h : w.ownsRow lo e size v n xs) (h' : w.ownsRow lo' e' size' v' n' xs') (he : e ≠ e') {g : Nat} (hg : v.ownBlock = some g) : v'.ownBlock ≠ some g := by
  intro hg'
  obtain ⟨c, h1⟩ := own_kind h hg
  obtain ⟨c', h2⟩ := own_kind h' hg'
  rw [h1] at h2
  injection h2 with h2
  injection h2 with _ h2 _
  exact he h2

/-- the same, and its blocks lie from lo to hi -/
def OutIn (w : World) (lo hi : Nat) (A : Option Addr) (n c : Nat) (ys : List Value) (Ls : List (List Knot)) : Prop := Ls.length = n ∧ w.ownsRow lo 231 1 (.slice A n c) n ys ∧
  (∀ (j : Nat) (K : List Knot), Ls[j]? = some K → ∃ (Aj : Option Addr) (cj : Nat), ys[j]? = some (.slice Aj K.length cj) ∧ w.ownsRow lo 238 3 (.slice Aj K.length cj) K.length (K.flatMap knotC)) ∧
  (∀ (i j : Nat) (u v : Value), i ≠ j → ys[i]? = some u → ys[j]? = some v → ApartV u v) ∧
  (∀ g, (Value.slice A n c).ownBlock = some g → g < hi) ∧ (∀ (j : Nat) (v : Value) (g : Nat), ys[j]? = some v → v.ownBlock = some g → g < hi)
theorem OutIn.own {w : World} {lo hi n c : Nat} {A : Option Addr} {ys : List Value} {Ls : List (List Knot)} (h : OutIn w lo hi A n c ys Ls) : OutOwn w lo A n c Ls := ⟨ys, h.1, h.2.1, h.2.2.1, h.2.2.2.1⟩
theorem OutOwn.in {w : World} {lo n c : Nat} {A : Option Addr} {Ls : List (List Knot)} (h : OutOwn w lo A n c Ls) : ∃ ys, OutIn w lo w.heap.size A n c ys Ls := by
  obtain ⟨ys, h1, h2, h3, h4⟩ := h
  refine ⟨ys, h1, h2, h3, h4, fun g hg => (h2.lt g hg).2, fun j v g hj hg => ?_⟩
  have hjl := (List.getElem?_eq_some_iff.1 hj).1
  obtain ⟨Aj, cj, h5, h6⟩ := h3 j _ (List.getElem?_eq_getElem (by have := h2.1; omega))
  rw [hj] at h5
  injection h5 with h5
  subst h5
  exact (h6.lt g hg).2
theorem OutIn.same {w w' : World} {lo hi n c : Nat} {A : Option Addr} {ys : List Value} {Ls : List (List Knot)} (h : OutIn w lo hi A n c ys Ls) (hs : SameB lo hi w w') : OutIn w' lo hi A n c ys Ls := by
  obtain ⟨h1, h2, h3, h4, h5, h6⟩ := h
  refine ⟨h1, own_same h2 fun g hg => hs g (h2.lt g hg).1 (h5 g hg), fun j K hj => ?_, h4, h5, h6⟩
  obtain ⟨Aj, cj, h7, h8⟩ := h3 j K hj
  exact ⟨Aj, cj, h7, own_same h8 fun g hg => hs g (h8.lt g hg).1 (h6 j _ g h7 hg)⟩
theorem OutIn.rd {w : World} {lo hi n c : Nat} {A : Option Addr} {ys : List Value} {Ls : List (List Knot)} (h : OutIn w lo hi A n c ys Ls) (hm : ∀ K ∈ Ls, K.length ≤ maxLen) : OutRd w lo w.heap.size A n Ls := h.own.rd hm

end Go.Proofs.YtfkidklpjiiclaaGreat

/- slices.Clone at knots; the sums of points. Conditions: as each states. -/
namespace Go.Proofs.YtfkidklpjiiclaaGreat
open Go.RowKit
set_option linter.unusedVariables false
set_option maxRecDepth 100000

theorem src_rd {α : Type} {k : Nat} {f : α → List Value} (hk : ∀ a, (f a).length = k) (h1 : ∀ a, ∀ u ∈ f a, u.oneCell' = true) {w : World} {lo hi : Nat} {A : Option Addr} {n : Nat} {L : List α} (h : RdS k (FlatR f) w lo hi A n L) : Src w k A n (L.flatMap f) := by
  refine ⟨by rw [flat_length hk, h.1], fun u hu => ?_, fun hn => ?_⟩
  · obtain ⟨a, _, ha⟩ := List.mem_flatMap.1 hu
    exact h1 a u ha
  · obtain ⟨hl, hx⟩ := h
    obtain ⟨b, off, rfl, _, _, h3⟩ := hx hn
    refine ⟨_, rfl, fun j u hj => ?_⟩
    have hjl := (List.getElem?_eq_some_iff.1 hj).1
    rw [flat_length hk, hl] at hjl
    have hk0 : 0 < k := by
      rcases Nat.eq_zero_or_pos k with h0 | h0
      · subst h0; simp at hjl
      · exact h0
    have hq : j / k < L.length := by rw [hl]; exact (Nat.div_lt_iff_lt_mul hk0).2 hjl
    have hm := Nat.mod_lt j hk0
    have e := Nat.div_add_mod j k
    obtain ⟨es, e1, e2, e3⟩ := h3 (j / k) _ (List.getElem?_eq_getElem hq)
    have h5 := flat_get hk L (j / k) _ (j % k) (List.getElem?_eq_getElem hq) hm
    rw [show j / k * k + j % k = j by rw [Nat.mul_comm]; exact e, hj] at h5
    have e3' : es = f L[j / k] := e3
    have h6 := e2 (j % k) u (by rw [e3']; exact h5.symm)
    rw [show (⟨b, off, none⟩ : Addr).add j = ⟨b, off + j, none⟩ by unfold Addr.add; split <;> simp_all, show off + j = off + j / k * k + j % k by rw [Nat.add_assoc, Nat.mul_comm (j / k) k, e]]
    exact h6
theorem src_new0 {w : World} {size m : Nat} {A : Option Addr} {news : List Value} (h : Src w size A m news) (o : Obj) : Src (w.alloc o) size A m news := by
  obtain ⟨h1, h2, h3⟩ := h
  refine ⟨h1, h2, fun hm => ?_⟩
  obtain ⟨ad, h4, h5⟩ := h3 hm
  exact ⟨ad, h4, fun j u hj => Lib.cell?_alloc_some _ (h5 j u hj)⟩
end Go.Proofs.YtfkidklpjiiclaaGreat

/- copyOutline. Conditions: as each states. -/
namespace Go.Proofs.YtfkidklpjiiclaaGreat
open Go.RowKit
set_option linter.unusedVariables false
set_option maxRecDepth 100000

/-- the first k loops stand in the row ys, each in a block of its own -/
def OutTo (w : World) (lo : Nat) (Ao : Option Addr) (k co : Nat) (ys : List Value) (Ls : List (List Knot)) : Prop := w.ownsRow lo 231 1 (.slice Ao k co) k ys ∧
  (∀ (j : Nat) (K : List Knot), j < k → Ls[j]? = some K → ∃ (Aj : Option Addr) (cj : Nat), ys[j]? = some (.slice Aj K.length cj) ∧ w.ownsRow lo 238 3 (.slice Aj K.length cj) K.length (K.flatMap knotC)) ∧
  (∀ (i j : Nat) (u v : Value), i ≠ j → ys[i]? = some u → ys[j]? = some v → ApartV u v)
theorem OutTo.kept {w w' : World} {lo k co : Nat} {Ao : Option Addr} {ys : List Value} {Ls : List (List Knot)} (h : OutTo w lo Ao k co ys Ls) (hb : Below w.heap.size w w') : OutTo w' lo Ao k co ys Ls := by
  obtain ⟨h1, h2, h3⟩ := h
  refine ⟨own_below h1 hb, fun j K hj hK => ?_, h3⟩
  obtain ⟨Aj, cj, h4, h5⟩ := h2 j K hj hK
  exact ⟨Aj, cj, h4, own_below h5 hb⟩
theorem OutTo.set {w : World} {lo k co : Nat} {Ao : Option Addr} {ys : List Value} {Ls : List (List Knot)} (h : OutTo w lo Ao k co ys Ls) {a : Addr} (ha : a.block < lo) (u : Value) : OutTo (w.setCell a u) lo Ao k co ys Ls := by
  obtain ⟨h1, h2, h3⟩ := h
  refine ⟨ownsRow_setCell_below h1 ha u, fun j K hj hK => ?_, h3⟩
  obtain ⟨Aj, cj, h4, h5⟩ := h2 j K hj hK
  exact ⟨Aj, cj, h4, ownsRow_setCell_below h5 ha u⟩
/-- one loop more: a row that lies above all that stood before, appended -/
theorem OutTo.next {w w1 w2 : World} {lo B k co c2 cc : Nat} {Ao A2 A3 : Option Addr} {ys : List Value} {Ls : List (List Knot)} {K : List Knot} (h : OutTo w lo Ao k co ys Ls) (hK : Ls[k]? = some K)
    (hb : Below w.heap.size w w1) (hr : w1.ownsRow B 238 3 (.slice A2 K.length c2) K.length (K.flatMap knotC)) (hB : w.heap.size ≤ B) (hlo : lo ≤ w.heap.size)
    (ho : w2.ownsRow lo 231 1 (.slice A3 (k + 1) cc) (k + 1) (ys ++ [.slice A2 K.length c2])) (hg : w1.grownBy w2 (Value.slice Ao k co).ownBlock) : OutTo w2 lo A3 (k + 1) cc (ys ++ [.slice A2 K.length c2]) Ls := by
  obtain ⟨h1, h2, h3⟩ := h
  have h1' := own_below h1 hb
  have hyl := h1.1
  rw [Nat.mul_one] at hyl
  have hne : ∀ {g : Nat} {v : Value} {n : Nat} {xs : List Value} {B' : Nat}, w1.ownsRow B' 238 3 v n xs → v.ownBlock = some g → w2.heap[g]? = w1.heap[g]? := fun {g v n xs B'} hv hg' =>
    hg.block g (hv.lt g hg').2 fun e => own_ne_kind hv h1' (by decide) hg' e.symm
  refine ⟨ho, fun j K' hj hK' => ?_, fun i j u v hij hu hv => ?_⟩
  · by_cases hjk : j = k
    · subst hjk
      have e := Option.some.inj (hK.symm.trans hK')
      subst e
      refine ⟨A2, c2, by rw [List.getElem?_append_right (by omega), hyl]; simp, own_lower (own_same hr fun g hg' => hne hr hg') (by omega)⟩
    · obtain ⟨Aj, cj, h4, h5⟩ := h2 j K' (by omega) hK'
      refine ⟨Aj, cj, by rw [List.getElem?_append_left (by omega)]; exact h4, own_same (own_below h5 hb) fun g hg' => hne (own_below h5 hb) hg'⟩
  · have hold : ∀ (j : Nat) (v : Value), j < k → ys[j]? = some v → j < Ls.length → ∀ g, v.ownBlock = some g → g < w.heap.size := fun j v hj hv hjl g hg' => by
      obtain ⟨Aj, cj, h4, h5⟩ := h2 j _ hj (List.getElem?_eq_getElem hjl)
      rw [hv] at h4
      injection h4 with h4
      subst h4
      exact (h5.lt g hg').2
    have hkl := (List.getElem?_eq_some_iff.1 hK).1
    have hil := (List.getElem?_eq_some_iff.1 hu).1
    have hjl := (List.getElem?_eq_some_iff.1 hv).1
    simp at hil hjl
    by_cases hik : i < k
    · rw [List.getElem?_append_left (by omega)] at hu
      by_cases hjk : j < k
      · rw [List.getElem?_append_left (by omega)] at hv
        exact h3 i j u v hij hu hv
      · obtain rfl : j = k := by omega
        rw [List.getElem?_append_right (by omega), hyl] at hv
        simp at hv
        subst hv
        intro g hgu hgv
        have := hold i u hik hu (by omega) g hgu
        have := (hr.lt g hgv).1
        omega
    · obtain rfl : i = k := by omega
      rw [List.getElem?_append_right (by omega), hyl] at hu
      rw [List.getElem?_append_left (by omega)] at hv
      simp at hu
      subst hu
      intro g hgu hgv
      have := hold j v (by omega) hv (by omega) g hgv
      have := (hr.lt g hgu).1
      omega
end Go.Proofs.YtfkidklpjiiclaaGreat

/- copyOutline, walked. Conditions: as it states. -/
namespace Go.Proofs.YtfkidklpjiiclaaGreat
open Go.RowKit
set_option linter.unusedVariables false
set_option maxRecDepth 100000

end Go.Proofs.YtfkidklpjiiclaaGreat

/- mapOutline, over whatever closure of points. Conditions: as it states. -/
namespace Go.Proofs.YtfkidklpjiiclaaGreat
open Go.RowKit
set_option linter.unusedVariables false
set_option maxRecDepth 100000

end Go.Proofs.YtfkidklpjiiclaaGreat

