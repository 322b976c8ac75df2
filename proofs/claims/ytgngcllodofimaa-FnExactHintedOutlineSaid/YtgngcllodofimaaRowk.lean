/- Rows of the call's own, each in a block of its own. Conditions: as each states. -/
import Derived.Test.YtgngcllodofimaaOutM
import Derived.Deep.RegionLaw
namespace Go.Proofs.Ytgngcllodofimaa
open Go.RowKit
set_option linter.unusedVariables false
set_option maxRecDepth 100000

structure RowE where
  e : TypeId
  size : Nat
  v : Value
  n : Nat
  xs : List Value

def Rows (w : World) (lo : Nat) (R : List RowE) : Prop :=
  (∀ (i : Nat) (r : RowE), R[i]? = some r → w.ownsRow lo r.e r.size r.v r.n r.xs) ∧ (∀ (i j : Nat) (r s : RowE), i ≠ j → R[i]? = some r → R[j]? = some s → ApartV r.v s.v)

theorem Rows.own {w : World} {lo : Nat} {R : List RowE} (h : Rows w lo R) (i : Nat) {r : RowE} (hi : R[i]? = some r) : w.ownsRow lo r.e r.size r.v r.n r.xs := h.1 i r hi
theorem Rows.below {w w' : World} {lo : Nat} {R : List RowE} (h : Rows w lo R) (hb : Below w.heap.size w w') : Rows w' lo R := ⟨fun i r hi => own_below (h.1 i r hi) hb, h.2⟩
theorem Rows.alloc {w : World} {lo : Nat} {R : List RowE} (h : Rows w lo R) (o : Obj) : Rows (w.alloc o) lo R := ⟨fun i r hi => (h.1 i r hi).alloc o, h.2⟩
theorem Rows.drew {w : World} {lo : Nat} {R : List RowE} (h : Rows w lo R) : Rows w.drew lo R := ⟨fun i r hi => World.ownsRow.drew (h.1 i r hi), h.2⟩
theorem Rows.set {w : World} {lo : Nat} {R : List RowE} (h : Rows w lo R) {a : Addr} (ha : a.block < lo) (u : Value) : Rows (w.setCell a u) lo R := ⟨fun i r hi => ownsRow_setCell_below (h.1 i r hi) ha u, h.2⟩
theorem Rows.lower {w : World} {lo lo' : Nat} {R : List RowE} (h : Rows w lo R) (hl : lo' ≤ lo) : Rows w lo' R := ⟨fun i r hi => own_lower (h.1 i r hi) hl, h.2⟩
theorem Rows.nil (w : World) (lo : Nat) : Rows w lo [] := ⟨fun i r hi => by simp at hi, fun i j r s _ hi => by simp at hi⟩
/-- a row laid in the place of another, in a block that stood nowhere before or in the old one's -/
theorem Rows.put {w w' : World} {lo : Nat} {R : List RowE} (h : Rows w lo R) (i : Nat) {r : RowE} (hi : R[i]? = some r) {e size : Nat} {v' : Value} {n' : Nat} {xs' : List Value} (ho : w'.ownsRow lo e size v' n' xs') (hg : w.grownBy w' r.v.ownBlock)
    (hv : ∀ g, v'.ownBlock = some g → r.v.ownBlock = some g ∨ w.heap.size ≤ g) : Rows w' lo (R.set i ⟨e, size, v', n', xs'⟩) := by
  have hil := (List.getElem?_eq_some_iff.1 hi).1
  have key : ∀ (j : Nat) (s : RowE), j ≠ i → R[j]? = some s → w'.ownsRow lo s.e s.size s.v s.n s.xs ∧ ApartV v' s.v := fun j s hj hs => by
    have hap := h.2 i j r s (Ne.symm hj) hi hs
    refine ⟨own_same (h.1 j s hs) fun g hgs => ?_, fun g hgv => ?_⟩
    · exact hg.block g ((h.1 j s hs).lt g hgs).2 fun e => hap g e.symm hgs
    · rcases hv g hgv with h1 | h1
      · exact hap g h1
      · intro h2
        have := ((h.1 j s hs).lt g h2).2
        omega
  refine ⟨fun j s hs => ?_, fun j k s t hjk hs ht => ?_⟩
  · by_cases hj : j = i
    · subst hj
      rw [List.getElem?_set_self hil] at hs
      injection hs with hs; subst hs
      exact ho
    · rw [List.getElem?_set_ne (Ne.symm hj)] at hs
      exact (key j s hj hs).1
  · by_cases hj : j = i
    · subst hj
      rw [List.getElem?_set_self hil] at hs
      rw [List.getElem?_set_ne hjk] at ht
      injection hs with hs; subst hs
      exact (key k t (Ne.symm hjk) ht).2
    · rw [List.getElem?_set_ne (Ne.symm hj)] at hs
      by_cases hk : k = i
      · subst hk
        rw [List.getElem?_set_self hil] at ht
        injection ht with ht; subst ht
        exact fun g h1 h2 => (key j s hj hs).2 g h2 h1
      · rw [List.getElem?_set_ne (Ne.symm hk)] at ht
        exact h.2 j k s t hjk hs ht
theorem Rows.app {w w' : World} {lo : Nat} {R : List RowE} (h : Rows w lo R) (i : Nat) {r : RowE} (hi : R[i]? = some r) {e size : Nat} {v' : Value} {n' : Nat} {xs' : List Value} (ho : w'.ownsRow lo e size v' n' xs') (hg : w.grownBy w' r.v.ownBlock)
    (hv : v'.ownBlock = r.v.ownBlock ∨ v'.ownBlock = some w.heap.size) : Rows w' lo (R.set i ⟨e, size, v', n', xs'⟩) :=
  h.put i hi ho hg fun g hgv => by
    rcases hv with h1 | h1
    · exact .inl (h1 ▸ hgv)
    · right
      rw [h1] at hgv; injection hgv with hgv; omega
/-- a row that a call has made -/
theorem Rows.fresh {w w' : World} {lo B : Nat} {R : List RowE} (h : Rows w lo R) (i : Nat) {r : RowE} (hi : R[i]? = some r) {e size : Nat} {v' : Value} {n' : Nat} {xs' : List Value} (ho : w'.ownsRow B e size v' n' xs') (hB : w.heap.size ≤ B) (hlo : lo ≤ w.heap.size) (hb : Below w.heap.size w w') :
    Rows w' lo (R.set i ⟨e, size, v', n', xs'⟩) :=
  h.put i hi (own_lower ho (by omega)) ⟨hb.os, hb.tape, hb.output, hb.size, fun k hk _ => hb.block k hk⟩ fun g hgv => .inr (by have := (ho.lt g hgv).1; omega)
/-- one row more, that a call has made -/
theorem Rows.cons {w w' : World} {lo B : Nat} {R : List RowE} (h : Rows w lo R) {e size : Nat} {v' : Value} {n' : Nat} {xs' : List Value} (ho : w'.ownsRow B e size v' n' xs') (hB : w.heap.size ≤ B) (hlo : lo ≤ w.heap.size) (hb : Below w.heap.size w w') :
    Rows w' lo (⟨e, size, v', n', xs'⟩ :: R) := by
  have hR := h.below hb
  have hap : ∀ (j : Nat) (s : RowE), R[j]? = some s → ApartV v' s.v := fun j s hs g h1 h2 => by
    have := (ho.lt g h1).1
    have := ((h.1 j s hs).lt g h2).2
    omega
  refine ⟨fun j s hs => ?_, fun j k s t hjk hs ht => ?_⟩
  · match j, hs with
    | 0, hs => simp at hs; subst hs; exact own_lower ho (by omega)
    | j + 1, hs => exact hR.1 j s (by simpa using hs)
  · match j, k, hs, ht with
    | 0, 0, _, _ => exact absurd rfl hjk
    | 0, k + 1, hs, ht => simp at hs; subst hs; exact hap k t (by simpa using ht)
    | j + 1, 0, hs, ht => simp at ht; subst ht; exact fun g h1 h2 => hap j s (by simpa using hs) g h2 h1
    | j + 1, k + 1, hs, ht => exact hR.2 j k s t (by omega) (by simpa using hs) (by simpa using ht)
theorem Rows.nils (w : World) (lo : Nat) {R : List RowE} (h : Rows w lo R) (e size : Nat) : Rows w lo (⟨e, size, .slice none 0 0, 0, []⟩ :: R) := by
  refine ⟨fun j s hs => ?_, fun j k s t hjk hs ht => ?_⟩
  · match j, hs with
    | 0, hs => simp at hs; subst hs; exact World.ownsRow_nil _ _ _ _
    | j + 1, hs => exact h.1 j s (by simpa using hs)
  · match j, k, hs, ht with
    | 0, 0, _, _ => exact absurd rfl hjk
    | 0, k + 1, hs, ht => simp at hs; subst hs; exact fun g h1 => by simp [Value.ownBlock] at h1
    | j + 1, 0, hs, ht => simp at ht; subst ht; exact fun g h1 h2 => by simp [Value.ownBlock] at h2
    | j + 1, k + 1, hs, ht => exact h.2 j k s t (by omega) (by simpa using hs) (by simpa using ht)
/-- a box with its cells, as a row -/
theorem own_box {w : World} {x lo e size : Nat} {cs : List Value} (h : w.heap[x]? = some (.cells cs.toArray e (0, 0))) (hx : lo ≤ x) (hs : cs.length = size) : w.ownsRow lo e size (.slice (some ⟨x, 0, none⟩) 1 1) 1 cs :=
  ⟨by simp [hs], .inr ⟨x, 1, cs.toArray, rfl, hx, h, Nat.le_refl _, by unfold maxLen; omega, by simp [hs], by simp [← hs]⟩⟩
theorem own_block {w : World} {lo e size n : Nat} {v : Value} {xs : List Value} (h : w.ownsRow lo e size v n xs) {g : Nat} (hg : v.ownBlock = some g) : lo ≤ g ∧ g < w.heap.size := h.lt g hg
theorem Rows.tail {w : World} {lo : Nat} {r : RowE} {R : List RowE} (h : Rows w lo (r :: R)) : Rows w lo R :=
  ⟨fun i s hs => h.1 (i + 1) s (by simpa using hs), fun i j s t hij hs ht => h.2 (i + 1) (j + 1) s t (by omega) (by simpa using hs) (by simpa using ht)⟩
/-- a block of the call's own that no row lies in -/
theorem Rows.box {w w' : World} {lo x e size : Nat} {R : List RowE} {cs : List Value} (h : Rows w lo R) (hx : w'.heap[x]? = some (.cells cs.toArray e (0, 0))) (hs : cs.length = size) (hB : w.heap.size ≤ x) (hlo : lo ≤ w.heap.size) (hb : Below w.heap.size w w') :
    Rows w' lo (⟨e, size, .slice (some ⟨x, 0, none⟩) 1 1, 1, cs⟩ :: R) := h.cons (B := x) (own_box hx (Nat.le_refl _) hs) hB hlo hb
theorem src_many {w : World} {size b m : Nat} {cs : List Value} {t : TypeId} (hl : cs.length = m * size) (h1 : ∀ u ∈ cs, u.oneCell' = true) (hb : b = w.heap.size) : Src (w.alloc (.cells cs.toArray t)) size (some ⟨b, 0, none⟩) m cs := by
  subst hb
  exact ⟨hl, h1, fun _ => ⟨_, rfl, fun j u hu => by
    have : (⟨w.heap.size, 0, none⟩ : Addr).add j = ⟨w.heap.size, j, none⟩ := by unfold Addr.add; split <;> simp_all
    rw [this, cell_of_row _ _ _ _ _ _ (heap_alloc_new w _)]
    simpa using hu⟩⟩
theorem own_cellR {w : World} {lo e size n c g : Nat} {ys : List Value} (h : w.ownsRow lo e size (.slice (some ⟨g, 0, none⟩) n c) n ys) (j : Nat) (hj : j < n * size) : w.cell? ⟨g, j, none⟩ = ys[j]? := h.cellAt j hj
/-- rows, and a box that none of them lies in -/
structure RowsX (w : World) (lo X : Nat) (R : List RowE) : Prop where
  rows : Rows w lo R
  out : ∀ (i : Nat) (r : RowE), R[i]? = some r → r.v.ownBlock ≠ some X
  lt : X < w.heap.size
theorem RowsX.own {w : World} {lo X : Nat} {R : List RowE} (h : RowsX w lo X R) (i : Nat) {r : RowE} (hi : R[i]? = some r) : w.ownsRow lo r.e r.size r.v r.n r.xs := h.rows.own i hi
theorem RowsX.below {w w' : World} {lo X : Nat} {R : List RowE} (h : RowsX w lo X R) (hb : Below w.heap.size w w') : RowsX w' lo X R := ⟨h.rows.below hb, h.out, Nat.lt_of_lt_of_le h.lt hb.size⟩
theorem RowsX.alloc {w : World} {lo X : Nat} {R : List RowE} (h : RowsX w lo X R) (o : Obj) : RowsX (w.alloc o) lo X R := h.below (Go.Joins.below_alloc1 _ _)
theorem RowsX.drew {w : World} {lo X : Nat} {R : List RowE} (h : RowsX w lo X R) : RowsX w.drew lo X R := ⟨h.rows.drew, h.out, h.lt⟩
theorem RowsX.setX {w : World} {lo X j : Nat} {R : List RowE} (h : RowsX w lo X R) (u : Value) : RowsX (w.setCell ⟨X, j, none⟩ u) lo X R :=
  ⟨⟨fun i r hi => ownsRow_setCell_other (h.rows.1 i r hi) (h.out i r hi) u, h.rows.2⟩, h.out, by simpa using h.lt⟩
theorem RowsX.put {w w' : World} {lo X : Nat} {R : List RowE} (h : RowsX w lo X R) (i : Nat) {r : RowE} (hi : R[i]? = some r) {e size : Nat} {v' : Value} {n' : Nat} {xs' : List Value} (ho : w'.ownsRow lo e size v' n' xs') (hg : w.grownBy w' r.v.ownBlock)
    (hv : ∀ g, v'.ownBlock = some g → r.v.ownBlock = some g ∨ w.heap.size ≤ g) : RowsX w' lo X (R.set i ⟨e, size, v', n', xs'⟩) := by
  have hil := (List.getElem?_eq_some_iff.1 hi).1
  refine ⟨h.rows.put i hi ho hg hv, fun j s hs => ?_, Nat.lt_of_lt_of_le h.lt hg.size⟩
  by_cases hj : j = i
  · subst hj
    rw [List.getElem?_set_self hil] at hs
    injection hs with hs; subst hs
    intro e
    rcases hv X e with h1 | h1
    · exact h.out j r hi h1
    · have := h.lt; omega
  · rw [List.getElem?_set_ne (Ne.symm hj)] at hs
    exact h.out j s hs
theorem RowsX.app {w w' : World} {lo X : Nat} {R : List RowE} (h : RowsX w lo X R) (i : Nat) {r : RowE} (hi : R[i]? = some r) {e size : Nat} {v' : Value} {n' : Nat} {xs' : List Value} (ho : w'.ownsRow lo e size v' n' xs') (hg : w.grownBy w' r.v.ownBlock)
    (hv : v'.ownBlock = r.v.ownBlock ∨ v'.ownBlock = some w.heap.size) : RowsX w' lo X (R.set i ⟨e, size, v', n', xs'⟩) :=
  h.put i hi ho hg fun g hgv => by
    rcases hv with h1 | h1
    · exact .inl (h1 ▸ hgv)
    · right
      rw [h1] at hgv; injection hgv with hgv; omega
theorem RowsX.fresh {w w' : World} {lo X B : Nat} {R : List RowE} (h : RowsX w lo X R) (i : Nat) {r : RowE} (hi : R[i]? = some r) {e size : Nat} {v' : Value} {n' : Nat} {xs' : List Value} (ho : w'.ownsRow B e size v' n' xs') (hB : w.heap.size ≤ B) (hlo : lo ≤ w.heap.size) (hb : Below w.heap.size w w') :
    RowsX w' lo X (R.set i ⟨e, size, v', n', xs'⟩) :=
  h.put i hi (own_lower ho (by omega)) ⟨hb.os, hb.tape, hb.output, hb.size, fun k hk _ => hb.block k hk⟩ fun g hgv => .inr (by have := (ho.lt g hgv).1; omega)
theorem RowsX.block {w w' : World} {lo X : Nat} {R : List RowE} (h : RowsX w lo X R) (i : Nat) {r : RowE} (hi : R[i]? = some r) (hg : w.grownBy w' r.v.ownBlock) : w'.heap[X]? = w.heap[X]? := hg.block X h.lt fun e => h.out i r hi e.symm
/-- an append to a row of the call's own, as one step of a region that draws; where the new row lies -/
theorem stepAppR {P : Program} {w : World} {ops : Array Oper} {o : Oper} {a : Act} {K : Act → World → Prop} {Q : Exit → Act → World → Prop} {E' : Prop} (hgd : o.guard = none) (s x : Operand) {t e : TypeId} {size bytes : Nat} (E : Elem P t e size bytes)
    (ho : o.op = .call { callee := .builtin .append, args := #[s, x], argTypes := #[t, t] })
    {base : Nat} {v : Value} {n : Nat} {xs : List Value} (hs : a.eval s = v) (hown : w.ownsRow base e size v n xs)
    {A : Option Addr} {m c : Nat} {news : List Value} (hx : a.eval x = .slice A m c) (hsrc : Src w size A m news) (h63 : n + m ≤ 1000000000) (hbytes : bytes ≤ 100000) (hbase : base ≤ w.heap.size) (k : Nat) (hk : k = n + m)
    (h : ∀ A' c' w', w'.ownsRow base e size (.slice A' k c') k (xs ++ news) → w.grownBy w' v.ownBlock → ((Value.slice A' k c').ownBlock = v.ownBlock ∨ (Value.slice A' k c').ownBlock = some w.heap.size) → K (a.put o.dst (.slice A' k c')) w') :
    if Region.wanted o (yielded ops a.tmps) = true then Oper.wp P o a w K Q else E' := by
  have hw : Region.wanted o (yielded ops a.tmps) = true := by simp [Region.wanted, hgd]
  rw [if_pos hw]
  obtain ⟨v', w', hr, h2, h3, h4⟩ := run_app (P := P) E o.type hown (c := c) hsrc h63 hbytes hbase
  obtain ⟨A', c', rfl⟩ := own_form h2
  unfold Oper.wp execOp
  simp only [ho, resolve, invoke, builtin, Sem.run_bind, Sem.run_pure, Result.andThen_ok, List.map_toArray, List.map_cons, List.map_nil, hs, hx, hr]
  subst hk
  exact h A' c' w' h2 h3 h4
end Go.Proofs.Ytgngcllodofimaa
