/- slices.Clone at knots; the sums of points. Conditions: as each states. -/
import Derived.Deep.RegionLaw
import Derived.StillTailTactics
import Derived.Deep.RegionHeld3
import Derived.Test.YtlifiioflkhkoaaGreatFr10
namespace Go.Proofs.YtlifiioflkhkoaaGreat
open Go.RowKit
set_option linter.unusedVariables false
set_option maxRecDepth 100000

theorem src_rd {α : Type} {k : Nat} {f : α → List Value} (hk : ∀ a, (f a).length = k) (h1 : ∀ a, ∀ u ∈ f a, u.oneCell' = true) {w : World} {lo hi : Nat} {A : Option Addr} {n : Nat} {L : List α} (h : RdS k (FlatR f) w lo hi A n L) : Src w k A n (L.flatMap f) := by
  refine ⟨by rw [flat_length hk, h.1], fun u hu => ?_, fun hn => ?_⟩
  · obtain ⟨a, _, ha⟩ := List.mem_flatMap.1 hu
    exact h1 a u ha
  · obtain ⟨hl, hx⟩ := h
    obtain ⟨b, off, rfl, _, _, h3⟩ := hx hn
    refine ⟨_, rfl, fun j u hj => ?_⟩
    have hjl := (List.getElem?_eq_some_iff.1 hj).1
    rw [flat_length hk, hl] at hjl
    have hk0 : 0 < k := by
      rcases Nat.eq_zero_or_pos k with h0 | h0
      · subst h0; simp at hjl
      · exact h0
    have hq : j / k < L.length := by rw [hl]; exact (Nat.div_lt_iff_lt_mul hk0).2 hjl
    have hm := Nat.mod_lt j hk0
    have e := Nat.div_add_mod j k
    obtain ⟨es, e1, e2, e3⟩ := h3 (j / k) _ (List.getElem?_eq_getElem hq)
    have h5 := flat_get hk L (j / k) _ (j % k) (List.getElem?_eq_getElem hq) hm
    rw [show j / k * k + j % k = j by rw [Nat.mul_comm]; exact e, hj] at h5
    have e3' : es = f L[j / k] := e3
    have h6 := e2 (j % k) u (by rw [e3']; exact h5.symm)
    rw [show (⟨b, off, none⟩ : Addr).add j = ⟨b, off + j, none⟩ by unfold Addr.add; split <;> simp_all, show off + j = off + j / k * k + j % k by rw [Nat.add_assoc, Nat.mul_comm (j / k) k, e]]
    exact h6
theorem src_new0 {w : World} {size m : Nat} {A : Option Addr} {news : List Value} (h : Src w size A m news) (o : Obj) : Src (w.alloc o) size A m news := by
  obtain ⟨h1, h2, h3⟩ := h
  refine ⟨h1, h2, fun hm => ?_⟩
  obtain ⟨ad, h4, h5⟩ := h3 hm
  exact ⟨ad, h4, fun j u hj => Lib.cell?_alloc_some _ (h5 j u hj)⟩
end Go.Proofs.YtlifiioflkhkoaaGreat

/- copyOutline. Conditions: as each states. -/
namespace Go.Proofs.YtlifiioflkhkoaaGreat
open Go.RowKit
set_option linter.unusedVariables false
set_option maxRecDepth 100000

end Go.Proofs.YtlifiioflkhkoaaGreat

/- copyOutline, walked. Conditions: as it states. -/
namespace Go.Proofs.YtlifiioflkhkoaaGreat
open Go.RowKit
set_option linter.unusedVariables false
set_option maxRecDepth 100000

/-- an append to a row of the call's own, as one step of a region that draws -/
theorem stepAppAt {P : Program} {w : World} {ops : Array Oper} {o : Oper} {a : Act} {K : Act → World → Prop} {Q : Exit → Act → World → Prop} {E' : Prop} (hgd : o.guard = none) (s x : Operand) {t e : TypeId} {size bytes : Nat} (E : Elem P t e size bytes)
    (ho : o.op = .call { callee := .builtin .append, args := #[s, x], argTypes := #[t, t] })
    {base : Nat} {v : Value} {n : Nat} {xs : List Value} (hs : a.eval s = v) (hown : w.ownsRow base e size v n xs)
    {A : Option Addr} {m c : Nat} {news : List Value} (hx : a.eval x = .slice A m c) (hsrc : Src w size A m news) (h63 : n + m ≤ 1000000000) (hbytes : bytes ≤ 100000) (hbase : base ≤ w.heap.size) (k : Nat) (hk : k = n + m)
    (h : ∀ A' c' w', w'.ownsRow base e size (.slice A' k c') k (xs ++ news) → w.grownBy w' v.ownBlock → K (a.put o.dst (.slice A' k c')) w') :
    if Region.wanted o (yielded ops a.tmps) = true then Oper.wp P o a w K Q else E' := by
  have hw : Region.wanted o (yielded ops a.tmps) = true := by simp [Region.wanted, hgd]
  rw [if_pos hw]
  obtain ⟨v', w', hr, h2, h3, h4⟩ := run_app (P := P) E o.type hown (c := c) hsrc h63 hbytes hbase
  obtain ⟨A', c', rfl⟩ := own_form h2
  unfold Oper.wp execOp
  simp only [ho, resolve, invoke, builtin, Sem.run_bind, Sem.run_pure, Result.andThen_ok, List.map_toArray, List.map_cons, List.map_nil, hs, hx, hr]
  subst hk
  exact h A' c' w' h2 h3

end Go.Proofs.YtlifiioflkhkoaaGreat

/- mapOutline, over whatever closure of points. Conditions: as it states. -/
namespace Go.Proofs.YtlifiioflkhkoaaGreat
open Go.RowKit
set_option linter.unusedVariables false
set_option maxRecDepth 100000

def mapK (g : Int × Int → Int × Int) (p : Knot) : Knot := ((g (p.1, p.2.1)).1, (g (p.1, p.2.1)).2, p.2.2)
/-- the first k turned, the others not -/
def half {α : Type} (f : α → α) (L : List α) (k : Nat) : List α := (L.take k).map f ++ L.drop k
theorem half_length {α : Type} (f : α → α) (L : List α) (k : Nat) : (half f L k).length = L.length := by simp [half]; omega
theorem half_at {α : Type} (f : α → α) (L : List α) (k : Nat) {j : Nat} {a : α} (h : L[j]? = some a) : (half f L k)[j]? = some (if j < k then f a else a) := by
  have hl := (List.getElem?_eq_some_iff.1 h).1
  unfold half
  by_cases hj : j < k
  · rw [List.getElem?_append_left (by simp; omega), if_pos hj, List.getElem?_map, List.getElem?_take_of_lt hj, h]; rfl
  · rw [List.getElem?_append_right (by simp; omega), if_neg hj, List.getElem?_drop]
    rw [show k + (j - (List.map f (List.take k L)).length) = j by simp; omega, h]
theorem half_at_inv {α : Type} (f : α → α) (L : List α) (k : Nat) {j : Nat} {b : α} (h : (half f L k)[j]? = some b) : ∃ a, L[j]? = some a ∧ b = if j < k then f a else a := by
  have hl := (List.getElem?_eq_some_iff.1 h).1
  rw [half_length] at hl
  have ha : L[j]? = some L[j] := List.getElem?_eq_getElem hl
  rw [half_at f L k ha] at h
  injection h with h
  exact ⟨_, ha, h.symm⟩

theorem map_set (g : Int × Int → Int × Int) {K : List Knot} {q : Nat} {p : Knot} (hp : K[q]? = some p) :
    (((half (mapK g) K q).flatMap knotC).set (q * 3) (.int .i64 (g (p.1, p.2.1)).1)).set (q * 3 + 1) (.int .i64 (g (p.1, p.2.1)).2) = (half (mapK g) K (q + 1)).flatMap knotC := by
  have hql := (List.getElem?_eq_some_iff.1 hp).1
  have hfl : ((half (mapK g) K q).flatMap knotC).length = K.length * 3 := by rw [flat_length knotC_len, half_length]
  refine flat_ext knotC_len (half_length _ _ _) (by rw [List.length_set, List.length_set, hfl]) fun j a hj i hi => ?_
  obtain ⟨a0, ha0, rfl⟩ := half_at_inv _ _ _ hj
  have h0 := half_at (mapK g) K q ha0
  have hf := flat_get knotC_len _ j _ i h0 hi
  by_cases hjq : j = q
  · subst hjq
    have e := Option.some.inj (ha0.symm.trans hp)
    subst e
    rw [if_neg (by omega)] at hf
    rw [if_pos (by omega)]
    match i, hi with
    | 0, _ => rw [List.getElem?_set_ne (by omega), Nat.add_zero, List.getElem?_set_self (by omega)]; rfl
    | 1, _ => rw [List.getElem?_set_self (by rw [List.length_set]; omega)]; rfl
    | 2, _ => rw [List.getElem?_set_ne (by omega), List.getElem?_set_ne (by omega), hf]; rfl
  · rw [List.getElem?_set_ne (by omega), List.getElem?_set_ne (by omega), hf]
    simp only [show (j < q + 1) ↔ (j < q) by omega]

end Go.Proofs.YtlifiioflkhkoaaGreat

