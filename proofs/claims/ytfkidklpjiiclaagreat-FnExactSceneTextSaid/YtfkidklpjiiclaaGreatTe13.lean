/- Whether a point is near a segment: the numbers alone. No program in sight. Conditions: as each states. -/
import Derived.WalkSmall
import Derived.Test.YtfkidklpjiiclaaGreatTe01
import Derived.Test.YtfkidklpjiiclaaGreatTe02
import Derived.Test.YtfkidklpjiiclaaGreatTe08
import Derived.Test.YtfkidklpjiiclaaGreatTe03
namespace Go.Proofs.YtfkidklpjiiclaaGreat
set_option linter.unusedVariables false
set_option maxRecDepth 100000

def turnI (ax ay bx b px py : Int) : Int := (bx - ax) * (py - ay) - (b - ay) * (px - ax)
/-! ### a product in two words of 62 bits -/
theorem prod_bd {x y A B : Int} (h1 : -A ≤ x) (h2 : x ≤ A) (h3 : -B ≤ y) (h4 : y ≤ B) : -(A * B) ≤ x * y ∧ x * y ≤ A * B := by
  have hA : 0 ≤ A := by omega
  have hB : 0 ≤ B := by omega
  have e1 : 0 ≤ (A - x) * (B + y) := Int.mul_nonneg (by omega) (by omega)
  have e2 : 0 ≤ (A + x) * (B - y) := Int.mul_nonneg (by omega) (by omega)
  have e3 : 0 ≤ (A - x) * (B - y) := Int.mul_nonneg (by omega) (by omega)
  have e4 : 0 ≤ (A + x) * (B + y) := Int.mul_nonneg (by omega) (by omega)
  have f1 : (A - x) * (B + y) = A * B + A * y - x * B - x * y := by grind
  have f2 : (A + x) * (B - y) = A * B - A * y + x * B - x * y := by grind
  have f3 : (A - x) * (B - y) = A * B - A * y - x * B + x * y := by grind
  have f4 : (A + x) * (B + y) = A * B + A * y + x * B + x * y := by grind
  omega
end Go.Proofs.YtfkidklpjiiclaaGreat

/- Hulls of points, plainly: sorted without twins, chains, the hull. No program in sight. Conditions: none. -/
namespace Go.Proofs.YtfkidklpjiiclaaGreat
open Go.RowKit
set_option linter.unusedVariables false
set_option maxRecDepth 100000

abbrev Pn := Int × Int
/-- before, by Y and then by X -/
def befB (a b : Pn) : Bool := decide (a.2 < b.2) || (decide (a.2 = b.2) && decide (a.1 < b.1))
theorem bef_iff {a b : Pn} : befB a b = true ↔ a.2 < b.2 ∨ a.2 = b.2 ∧ a.1 < b.1 := by
  unfold befB; simp
theorem bef_asymm {a b : Pn} (h : befB a b = true) : befB b a = false := by
  cases h' : befB b a
  · rfl
  · rw [bef_iff] at h h'; omega
theorem bef_irr (a : Pn) : befB a a = false := by
  cases h' : befB a a
  · rfl
  · rw [bef_iff] at h'; omega
theorem bef_trans {a b c : Pn} (h : befB a b = true) (h' : befB b c = true) : befB a c = true := by
  rw [bef_iff] at *; omega
theorem bef_tri (a b : Pn) : befB a b = true ∨ a = b ∨ befB b a = true := by
  rw [bef_iff, bef_iff]
  rcases Int.lt_trichotomy a.2 b.2 with h | h | h
  · exact .inl (.inl h)
  · rcases Int.lt_trichotomy a.1 b.1 with h' | h' | h'
    · exact .inl (.inr ⟨h, h'⟩)
    · exact .inr (.inl (Prod.ext h' h))
    · exact .inr (.inr (.inr ⟨h.symm, h'⟩))
  · exact .inr (.inr (.inl h))
/-- strictly rising -/
abbrev Ris (L : List Pn) : Prop := L.Pairwise fun a b => befB a b = true
/-- two rising lists with the same members are one -/
theorem ris_eq : ∀ {L M : List Pn}, Ris L → Ris M → (∀ x, x ∈ L ↔ x ∈ M) → L = M
  | [], [], _, _, _ => rfl
  | [], b :: M, _, _, h => by have := (h b).2 (by simp); simp at this
  | a :: L, [], _, _, h => by have := (h a).1 (by simp); simp at this
  | a :: L, b :: M, hl, hm, h => by
    have hl1 := List.pairwise_cons.1 hl
    have hm1 := List.pairwise_cons.1 hm
    have hab : a = b := by
      rcases List.mem_cons.1 ((h a).1 (by simp)) with e | e
      · exact e
      · rcases List.mem_cons.1 ((h b).2 (by simp)) with e' | e'
        · exact e'.symm
        · have h1 := hm1.1 a e
          have h2 := hl1.1 b e'
          rw [bef_asymm h1] at h2; cases h2
    subst hab
    congr 1
    refine ris_eq hl1.2 hm1.2 fun x => ⟨fun hx => ?_, fun hx => ?_⟩
    · rcases List.mem_cons.1 ((h x).1 (by simp [hx])) with e | e
      · subst e; have := hl1.1 x hx; rw [bef_irr] at this; cases this
      · exact e
    · rcases List.mem_cons.1 ((h x).2 (by simp [hx])) with e | e
      · subst e; have := hm1.1 x hx; rw [bef_irr] at this; cases this
      · exact e
/-- where a point goes: behind all that are not behind it -/
def posP (p : Pn) (S : List Pn) : Nat → Nat
  | 0 => 0
  | k + 1 => if befB p (S.getD k (0, 0)) then posP p S k else k + 1
theorem pos_le (p : Pn) (S : List Pn) : ∀ k, posP p S k ≤ k
  | 0 => Nat.le_refl _
  | k + 1 => by
    unfold posP
    split
    · exact Nat.le_succ_of_le (pos_le p S k)
    · exact Nat.le_refl _
def putP (S : List Pn) (p : Pn) : List Pn :=
  if 0 < posP p S S.length ∧ S.getD (posP p S S.length - 1) (0, 0) = p then S else (S.take (posP p S S.length) ++ [p]) ++ S.drop (posP p S S.length)
/-- what stands behind the place is behind the point; what stands ahead of it is not -/
theorem pos_spec (p : Pn) (S : List Pn) : ∀ k, (∀ j, posP p S k ≤ j → j < k → befB p (S.getD j (0, 0)) = true) ∧ (0 < posP p S k → befB p (S.getD (posP p S k - 1) (0, 0)) = false)
  | 0 => ⟨fun j _ h => absurd h (Nat.not_lt_zero j), fun h => absurd h (by simp [posP])⟩
  | k + 1 => by
    obtain ⟨h1, h2⟩ := pos_spec p S k
    unfold posP
    by_cases hb : befB p (S.getD k (0, 0)) = true
    · rw [if_pos hb]
      refine ⟨fun j hj hk => ?_, h2⟩
      rcases Nat.lt_or_ge j k with h | h
      · exact h1 j hj h
      · have : j = k := by omega
        rw [this]; exact hb
    · rw [if_neg hb]
      refine ⟨fun j hj hk => by omega, fun _ => ?_⟩
      simpa using hb
theorem ris_get {S : List Pn} (h : Ris S) {i j : Nat} (hij : i < j) (hj : j < S.length) : befB (S.getD i (0, 0)) (S.getD j (0, 0)) = true := by
  have := List.pairwise_iff_getElem.1 h i j (by omega) hj hij
  rw [List.getD_eq_getElem?_getD, List.getD_eq_getElem?_getD, List.getElem?_eq_getElem (by omega), List.getElem?_eq_getElem hj]
  exact this
theorem put_ris {S : List Pn} (h : Ris S) (p : Pn) : Ris (putP S p) ∧ ∀ x, x ∈ putP S p ↔ x ∈ S ∨ x = p := by
  have hle := pos_le p S S.length
  obtain ⟨h1, h2⟩ := pos_spec p S S.length
  unfold putP
  obtain ⟨k, hk⟩ : ∃ k, k = posP p S S.length := ⟨_, rfl⟩
  rw [← hk] at h1 h2 hle ⊢
  by_cases hc : 0 < k ∧ S.getD (k - 1) (0, 0) = p
  · rw [if_pos hc]
    refine ⟨h, fun x => ⟨.inl, fun hx => ?_⟩⟩
    rcases hx with hx | hx
    · exact hx
    · rw [hx, ← hc.2, List.getD_eq_getElem?_getD, List.getElem?_eq_getElem (by omega)]
      exact List.getElem_mem _
  · rw [if_neg hc]
    have hbefore : ∀ x ∈ S.take k, befB x p = true := by
      intro x hx
      obtain ⟨j, hj⟩ := List.getElem?_of_mem hx
      have hjl := (List.getElem?_eq_some_iff.1 hj).1
      rw [List.length_take] at hjl
      rw [List.getElem?_take_of_lt (by omega)] at hj
      have hxj : S.getD j (0, 0) = x := by rw [List.getD_eq_getElem?_getD, hj]; rfl
      have h3 := h2 (by omega)
      have h4 : S.getD (k - 1) (0, 0) ≠ p := fun e => hc ⟨by omega, e⟩
      have h5 : befB (S.getD (k - 1) (0, 0)) p = true := by
        rcases bef_tri (S.getD (k - 1) (0, 0)) p with e | e | e
        · exact e
        · exact absurd e h4
        · rw [h3] at e; cases e
      rcases Nat.lt_or_ge j (k - 1) with hlt | hge
      · have := ris_get h hlt (by omega)
        rw [hxj] at this
        exact bef_trans this h5
      · have : j = k - 1 := by omega
        rw [this] at hxj; rw [← hxj]; exact h5
    have hafter : ∀ x ∈ S.drop k, befB p x = true := by
      intro x hx
      obtain ⟨j, hj⟩ := List.getElem?_of_mem hx
      rw [List.getElem?_drop] at hj
      have hjl := (List.getElem?_eq_some_iff.1 hj).1
      have := h1 (k + j) (by omega) hjl
      rw [List.getD_eq_getElem?_getD, hj] at this
      exact this
    have hsplit := List.take_append_drop k S
    refine ⟨?_, fun x => ?_⟩
    · have hp : Ris (S.take k ++ S.drop k) := by rw [hsplit]; exact h
      rw [Ris, List.pairwise_append] at hp
      rw [Ris, List.pairwise_append, List.pairwise_append]
      refine ⟨⟨hp.1, List.pairwise_singleton _ _, fun a ha b hb => ?_⟩, hp.2.1, fun a ha b hb => ?_⟩
      · rw [List.mem_singleton.1 hb]; exact hbefore a ha
      · rcases List.mem_append.1 ha with ha | ha
        · exact hp.2.2 a ha b hb
        · rw [List.mem_singleton.1 ha]; exact hafter b hb
    · have hm : x ∈ S ↔ x ∈ S.take k ∨ x ∈ S.drop k := by rw [← List.mem_append, hsplit]
      rw [hm]
      simp only [List.mem_append, List.mem_singleton]
      constructor
      · rintro ((h | h) | h)
        · exact .inl (.inl h)
        · exact .inr h
        · exact .inl (.inr h)
      · rintro ((h | h) | h)
        · exact .inl (.inl h)
        · exact .inr h
        · exact .inl (.inr h)
/-- the points in order, none twice -/
def sortU (L : List Pn) : List Pn := L.foldl putP []
theorem foldl_put : ∀ (L S : List Pn), Ris S → Ris (L.foldl putP S) ∧ ∀ x, x ∈ L.foldl putP S ↔ x ∈ S ∨ x ∈ L
  | [], S, h => ⟨h, fun x => by simp⟩
  | p :: L, S, h => by
    obtain ⟨h1, h2⟩ := put_ris h p
    obtain ⟨h3, h4⟩ := foldl_put L (putP S p) h1
    refine ⟨h3, fun x => ?_⟩
    rw [List.foldl_cons, h4, h2, List.mem_cons]
    constructor
    · rintro ((h | h) | h)
      · exact .inl h
      · exact .inr (.inl h)
      · exact .inr (.inr h)
    · rintro (h | h | h)
      · exact .inl (.inl h)
      · exact .inl (.inr h)
      · exact .inr h
theorem sortU_ris (L : List Pn) : Ris (sortU L) := (foldl_put L [] List.Pairwise.nil).1
theorem sortU_mem (L : List Pn) (x : Pn) : x ∈ sortU L ↔ x ∈ L := by
  have := (foldl_put L [] List.Pairwise.nil).2 x
  unfold sortU; simpa using this
/-- runs of one are made one: what slices.Compact keeps, place by place -/
def keepL (L : List Pn) : Nat → List Pn
  | 0 => []
  | k + 1 => if k = 0 ∨ L.getD k (0, 0) ≠ L.getD (k - 1) (0, 0) then keepL L k ++ [L.getD k (0, 0)] else keepL L k
abbrev WRis (L : List Pn) : Prop := L.Pairwise fun a b => befB b a = false
theorem wris_get {S : List Pn} (h : WRis S) {i j : Nat} (hij : i < j) (hj : j < S.length) : befB (S.getD j (0, 0)) (S.getD i (0, 0)) = false := by
  have := List.pairwise_iff_getElem.1 h i j (by omega) hj hij
  rw [List.getD_eq_getElem?_getD, List.getD_eq_getElem?_getD, List.getElem?_eq_getElem hj, List.getElem?_eq_getElem (by omega)]
  exact this
theorem keep_ris {L : List Pn} (h : WRis L) : ∀ k, k ≤ L.length → Ris (keepL L k) ∧ (∀ x, x ∈ keepL L k ↔ x ∈ L.take k) ∧ (keepL L k).length ≤ k
  | 0, _ => ⟨List.Pairwise.nil, fun x => by simp [keepL], Nat.le_refl _⟩
  | k + 1, hk => by
    obtain ⟨h1, h2, h3⟩ := keep_ris h k (by omega)
    have ht : L.take (k + 1) = L.take k ++ [L.getD k (0, 0)] := by
      rw [List.take_succ_eq_append_getElem (by omega), List.getD_eq_getElem?_getD, List.getElem?_eq_getElem (by omega)]; rfl
    unfold keepL
    by_cases hc : k = 0 ∨ L.getD k (0, 0) ≠ L.getD (k - 1) (0, 0)
    · rw [if_pos hc]
      refine ⟨?_, fun x => by rw [ht, List.mem_append, List.mem_append, h2], by simp; omega⟩
      rw [Ris, List.pairwise_append]
      refine ⟨h1, List.pairwise_singleton _ _, fun a ha b hb => ?_⟩
      rw [List.mem_singleton.1 hb]
      have ha' := (h2 a).1 ha
      obtain ⟨j, hj⟩ := List.getElem?_of_mem ha'
      have hjl := (List.getElem?_eq_some_iff.1 hj).1
      rw [List.length_take] at hjl
      rw [List.getElem?_take_of_lt (by omega)] at hj
      have haj : L.getD j (0, 0) = a := by rw [List.getD_eq_getElem?_getD, hj]; rfl
      rcases hc with hc | hc
      · omega
      have hlast : befB (L.getD (k - 1) (0, 0)) (L.getD k (0, 0)) = true := by
        rcases bef_tri (L.getD (k - 1) (0, 0)) (L.getD k (0, 0)) with e | e | e
        · exact e
        · exact absurd e.symm hc
        · rw [wris_get h (by omega) (by omega)] at e; cases e
      rcases Nat.lt_or_ge j (k - 1) with hlt | hge
      · have h4 := wris_get h hlt (by omega : k - 1 < L.length)
        rw [haj] at h4
        rcases bef_tri a (L.getD (k - 1) (0, 0)) with e | e | e
        · exact bef_trans e hlast
        · rw [e]; exact hlast
        · rw [h4] at e; cases e
      · have : j = k - 1 := by omega
        rw [this] at haj; rw [← haj]; exact hlast
    · rw [if_neg hc]
      have hc1 : ¬ k = 0 := fun e => hc (.inl e)
      have hc2 : L.getD k (0, 0) = L.getD (k - 1) (0, 0) := Decidable.byContradiction fun e => hc (.inr e)
      refine ⟨h1, fun x => ?_, by omega⟩
      rw [ht, List.mem_append, h2, List.mem_singleton]
      constructor
      · exact .inl
      · rintro (hx | hx)
        · exact hx
        · rw [hx, hc2, List.getD_eq_getElem?_getD, List.getElem?_eq_getElem (by omega)]
          show L[k - 1] ∈ L.take k
          rw [List.mem_take_iff_getElem]
          exact ⟨k - 1, by omega, rfl⟩
/-- a sorted list, its runs made one, is the list in order with none twice -/
theorem keep_sortU {L M : List Pn} (hp : M.Perm L) (hw : WRis M) : keepL M M.length = sortU L := by
  obtain ⟨h1, h2, _⟩ := keep_ris hw M.length (Nat.le_refl _)
  refine ris_eq h1 (sortU_ris L) fun x => ?_
  rw [h2, sortU_mem, List.take_length]
  exact hp.mem_iff
/-! ### chains -/
def turnP (a b c : Pn) : Int := turnI a.1 a.2 b.1 b.2 c.1 c.2
def popR (p : Pn) : List Pn → List Pn
  | b :: a :: t => if turnP a b p ≤ 0 then popR p (a :: t) else b :: a :: t
  | r => r
def chainR (L : List Pn) : List Pn := L.foldl (fun r p => p :: popR p r) []
def chainL (L : List Pn) : List Pn := (chainR L).reverse
def hullL (L : List Pn) : List Pn := if (sortU L).length < 3 then sortU L else (chainL (sortU L)).dropLast ++ (chainL (sortU L).reverse).dropLast
theorem pop_len (p : Pn) : ∀ r, (popR p r).length ≤ r.length
  | [] => Nat.le_refl _
  | [a] => Nat.le_refl _
  | b :: a :: t => by
    unfold popR
    split
    · have := pop_len p (a :: t); simp at *; omega
    · exact Nat.le_refl _
theorem pop_mem (p : Pn) : ∀ r, ∀ x ∈ popR p r, x ∈ r
  | [], x, h => h
  | [a], x, h => h
  | b :: a :: t, x, h => by
    unfold popR at h
    split at h
    · exact List.mem_cons_of_mem _ (pop_mem p (a :: t) x h)
    · exact h
end Go.Proofs.YtfkidklpjiiclaaGreat

/- A state of the hint machine in its box: thirteen cells. Conditions: none. -/
namespace Go.Proofs.YtfkidklpjiiclaaGreat
open Go.RowKit
set_option linter.unusedVariables false
set_option maxRecDepth 100000


def BoxH (w : World) (x : Nat) (d : HinterD) (h : HinterH) : Prop := w.cell? ⟨x, 0, none⟩ = some (.int .i64 d.size) ∧ w.cell? ⟨x, 1, none⟩ = some (.slice h.orig.A h.orig.n h.orig.c) ∧ w.cell? ⟨x, 2, none⟩ = some (.slice h.now.A h.now.n h.now.c) ∧ w.cell? ⟨x, 3, none⟩ = some (.slice h.tx.A h.tx.n h.tx.c) ∧ w.cell? ⟨x, 4, none⟩ = some (.slice h.ty.A h.ty.n h.ty.c) ∧ w.cell? ⟨x, 5, none⟩ = some (.slice h.ends.A h.ends.n h.ends.c) ∧ w.cell? ⟨x, 6, none⟩ = some (.slice h.values.A h.values.n h.values.c) ∧ w.cell? ⟨x, 7, none⟩ = some (.slice h.stack.A h.stack.n h.stack.c) ∧ w.cell? ⟨x, 8, none⟩ = some (.bool d.axisY) ∧ w.cell? ⟨x, 9, none⟩ = some (.int .i64 d.ref) ∧ w.cell? ⟨x, 10, none⟩ = some (.int .i64 d.state) ∧ w.cell? ⟨x, 11, none⟩ = some (.int .i64 d.cut) ∧ w.cell? ⟨x, 12, none⟩ = some (.int .i64 d.least)
def BoxesH (w : World) (x y : Nat) (d : HinterD) (h : HinterH) (d' : HinterD) (h' : HinterH) : Prop := w.cell? ⟨x, 0, none⟩ = some (.int .i64 d.size) ∧ w.cell? ⟨x, 1, none⟩ = some (.slice h.orig.A h.orig.n h.orig.c) ∧ w.cell? ⟨x, 2, none⟩ = some (.slice h.now.A h.now.n h.now.c) ∧ w.cell? ⟨x, 3, none⟩ = some (.slice h.tx.A h.tx.n h.tx.c) ∧ w.cell? ⟨x, 4, none⟩ = some (.slice h.ty.A h.ty.n h.ty.c) ∧ w.cell? ⟨x, 5, none⟩ = some (.slice h.ends.A h.ends.n h.ends.c) ∧ w.cell? ⟨x, 6, none⟩ = some (.slice h.values.A h.values.n h.values.c) ∧ w.cell? ⟨x, 7, none⟩ = some (.slice h.stack.A h.stack.n h.stack.c) ∧ w.cell? ⟨x, 8, none⟩ = some (.bool d.axisY) ∧ w.cell? ⟨x, 9, none⟩ = some (.int .i64 d.ref) ∧ w.cell? ⟨x, 10, none⟩ = some (.int .i64 d.state) ∧ w.cell? ⟨x, 11, none⟩ = some (.int .i64 d.cut) ∧ w.cell? ⟨x, 12, none⟩ = some (.int .i64 d.least) ∧ w.cell? ⟨y, 0, none⟩ = some (.int .i64 d'.size) ∧ w.cell? ⟨y, 1, none⟩ = some (.slice h'.orig.A h'.orig.n h'.orig.c) ∧ w.cell? ⟨y, 2, none⟩ = some (.slice h'.now.A h'.now.n h'.now.c) ∧ w.cell? ⟨y, 3, none⟩ = some (.slice h'.tx.A h'.tx.n h'.tx.c) ∧ w.cell? ⟨y, 4, none⟩ = some (.slice h'.ty.A h'.ty.n h'.ty.c) ∧ w.cell? ⟨y, 5, none⟩ = some (.slice h'.ends.A h'.ends.n h'.ends.c) ∧ w.cell? ⟨y, 6, none⟩ = some (.slice h'.values.A h'.values.n h'.values.c) ∧ w.cell? ⟨y, 7, none⟩ = some (.slice h'.stack.A h'.stack.n h'.stack.c) ∧ w.cell? ⟨y, 8, none⟩ = some (.bool d'.axisY) ∧ w.cell? ⟨y, 9, none⟩ = some (.int .i64 d'.ref) ∧ w.cell? ⟨y, 10, none⟩ = some (.int .i64 d'.state) ∧ w.cell? ⟨y, 11, none⟩ = some (.int .i64 d'.cut) ∧ w.cell? ⟨y, 12, none⟩ = some (.int .i64 d'.least)
theorem BoxH.below {w w' : World} {x B : Nat} {d : HinterD} {h : HinterH} (s : BoxH w x d h) (hb : Below B w w') (hB : x + 1 ≤ B) : BoxH w' x d h := by
  obtain ⟨s0, s1, s2, s3, s4, s5, s6, s7, s8, s9, s10, s11, s12⟩ := s
  exact ⟨(hb.cell (p := ⟨x, 0, none⟩) (by show _ < B; simp; omega)).trans s0, (hb.cell (p := ⟨x, 1, none⟩) (by show _ < B; simp; omega)).trans s1, (hb.cell (p := ⟨x, 2, none⟩) (by show _ < B; simp; omega)).trans s2, (hb.cell (p := ⟨x, 3, none⟩) (by show _ < B; simp; omega)).trans s3, (hb.cell (p := ⟨x, 4, none⟩) (by show _ < B; simp; omega)).trans s4, (hb.cell (p := ⟨x, 5, none⟩) (by show _ < B; simp; omega)).trans s5, (hb.cell (p := ⟨x, 6, none⟩) (by show _ < B; simp; omega)).trans s6, (hb.cell (p := ⟨x, 7, none⟩) (by show _ < B; simp; omega)).trans s7, (hb.cell (p := ⟨x, 8, none⟩) (by show _ < B; simp; omega)).trans s8, (hb.cell (p := ⟨x, 9, none⟩) (by show _ < B; simp; omega)).trans s9, (hb.cell (p := ⟨x, 10, none⟩) (by show _ < B; simp; omega)).trans s10, (hb.cell (p := ⟨x, 11, none⟩) (by show _ < B; simp; omega)).trans s11, (hb.cell (p := ⟨x, 12, none⟩) (by show _ < B; simp; omega)).trans s12⟩
theorem BoxH.drew {w : World} {x : Nat} {d : HinterD} {h : HinterH} (s : BoxH w x d h) : BoxH w.drew x d h := s
theorem BoxH.alloc {w : World} {x : Nat} {d : HinterD} {h : HinterH} (s : BoxH w x d h) (hx : x < w.heap.size) (o : Obj) : BoxH (w.alloc o) x d h :=
  s.below (Go.Joins.below_alloc1 w o) hx
theorem BoxH.two {w : World} {x y : Nat} {d : HinterD} {h : HinterH} {d' : HinterD} {h' : HinterH} (s : BoxH w x d h) (t : BoxH w y d' h') : BoxesH w x y d h d' h' := by
  obtain ⟨s0, s1, s2, s3, s4, s5, s6, s7, s8, s9, s10, s11, s12⟩ := s
  obtain ⟨t0, t1, t2, t3, t4, t5, t6, t7, t8, t9, t10, t11, t12⟩ := t
  exact ⟨s0, s1, s2, s3, s4, s5, s6, s7, s8, s9, s10, s11, s12, t0, t1, t2, t3, t4, t5, t6, t7, t8, t9, t10, t11, t12⟩
end Go.Proofs.YtfkidklpjiiclaaGreat

/- Whether all numbers and all points of a list are small: both sides. Conditions: as each states. -/
namespace Go.Proofs.YtfkidklpjiiclaaGreat
open Go.RowKit
set_option linter.unusedVariables false
set_option maxRecDepth 100000

theorem all_take_step {α : Type} {f : α → Bool} {L : List α} {k : Nat} {a : α} (h : (L.take k).all f = true) (ha : L[k]? = some a) (hf : f a = true) : (L.take (k + 1)).all f = true := by
  have hl := (List.getElem?_eq_some_iff.1 ha).1
  rw [List.take_succ_eq_append_getElem hl, List.all_append, h]
  rw [List.getElem?_eq_getElem hl] at ha
  injection ha with ha
  simp [ha, hf]
theorem all_no {α : Type} {f : α → Bool} {L : List α} {k : Nat} {a : α} (ha : L[k]? = some a) (hf : f a = false) : L.all f = false := by
  rw [List.all_eq_false]
  exact ⟨a, List.mem_of_getElem? ha, by simp [hf]⟩
theorem all_done {α : Type} {f : α → Bool} {L : List α} {n : Nat} (h : (L.take n).all f = true) (hl : L.length = n) : L.all f = true := by
  rwa [List.take_of_length_le (by omega)] at h

end Go.Proofs.YtfkidklpjiiclaaGreat

/- Whether loops and outlines are valid: both sides. Conditions: as each states. -/
namespace Go.Proofs.YtfkidklpjiiclaaGreat
open Go.RowKit
set_option linter.unusedVariables false
set_option maxRecDepth 100000

def ptOk (x y : Int) : Bool := inB x (-262144) 262144 && inB y (-262144) 262144
def knotOk (k : Knot) : Bool := ptOk k.1 k.2.1
def headOn (K : List Knot) : Bool := match K with | [] => false | k :: _ => k.2.2
def loopOk (K : List Knot) : Bool := inB K.length 1 60 && headOn K && K.all knotOk
def outOk (Ls : List (List Knot)) : Bool := Ls.all loopOk && decide (Ls.length ≤ 12)
theorem ptOk_iff {x y : Int} : ptOk x y = true ↔ (-262144 ≤ x ∧ x ≤ 262144) ∧ (-262144 ≤ y ∧ y ≤ 262144) := by simp [ptOk, inB_iff]

theorem l03Ok_any (x y : Int) (w : World) : Calls Tryz.prog 112 #[.agg #[.int .i64 x, .int .i64 y]] w fun e w' => e = .returned (.bool (ptOk x y)) ∧ Below w.heap.size w w' := by
  cases t0 : inB x (-262144) 262144
  all_goals
    go_enter Tryz.func112, Tryz.ntmps112
    go_wp2_with (go_at_call 105; refine (l00In_any _ _ _ _).mono ?_; rintro e w' ⟨rfl, rfl⟩)
    go_ret
    exact ⟨ret_bool (by simp [ptOk, t0]), Go.Joins.below_alloc1 _ _⟩
theorem validPt_any (x y : Int) (w : World) : Calls Tryz.prog 80 #[.agg #[.int .i64 x, .int .i64 y]] w fun e w' => e = .returned (.bool (ptOk x y)) ∧ Below w.heap.size w w' := by
  by_cases h1 : -262144 ≤ x <;> by_cases h2 : x ≤ 262144 <;> by_cases h3 : -262144 ≤ y
  all_goals try (exfalso; omega)
  all_goals
    go_enter Tryz.func80, Tryz.ntmps80
    go_wp2
    go_ret
    exact ⟨ret_bool (by first | (simp [ptOk, inB, h1, h2, h3]; done) | (rw [Bool.eq_iff_iff]; simp [ptOk, inB]; omega)), Go.Joins.below_alloc1 _ _⟩

theorem headOn_at {K : List Knot} {k : Knot} (h : K[0]? = some k) : headOn K = k.2.2 := by
  cases K with
  | nil => simp at h
  | cons a K => simp at h; rw [h]; rfl

set_option maxHeartbeats 2000000 in
theorem l10Loop_any (b off : Nat) (A : Option Addr) (n c lo hi : Nat) (K : List Knot) (v : Bool) (hv : v = loopOk K) (w : World) (hb : b < w.heap.size) (hcell : w.cell? ⟨b, off, none⟩ = some (.slice A n c)) (hr : RdS 3 (FlatR knotC) w lo hi A n K) (hhi : hi ≤ w.heap.size) (hn : n ≤ 1000000000) :
    Calls Tryz.prog 154 #[.pointer (some ⟨b, off, none⟩)] w fun e w' => e = .returned (.bool v) ∧ Below w.heap.size w w' := by
  have hl := Lib.hid hr.1
  replace hv := Lib.hid hv
  have hIN : ∀ x : Bool, x = inB (n : Int) 1 60 → inB (K.length : Int) 1 60 = x := fun x h => by rw [h, hl.out]
  cases t0 : inB (n : Int) 1 60
  · have hvf : v = false := by rw [hv.out, loopOk, hIN _ t0.symm]; rfl
    subst hvf
    replace hr := Lib.hid hr
    clear hIN
    go_enter Tryz.func154, Tryz.ntmps154
    go_wp2_with (go_at_call 105; refine (l00In_any _ _ _ _).mono ?_; rintro e w' ⟨rfl, rfl⟩)
    go_ret
    exact ⟨rfl, Below.refl _ _⟩
  obtain ⟨hn1, hn60⟩ := inB_iff.1 t0
  obtain ⟨b1, o1, ⟨x0, x1, x2⟩, rfl, hb0, hbw, hja, hcs⟩ := hr.at (j := 0) (by omega)
  have q2 := hcs 2 _ rfl
  simp only [Nat.zero_mul, Nat.add_zero] at q2
  clear hcs
  have hho := headOn_at hja
  have hb1w : b1 < w.heap.size := by omega
  replace hr := Lib.hid hr
  cases x2
  · have hvf : v = false := by rw [hv.out, loopOk, hIN _ t0.symm, hho]; rfl
    subst hvf
    clear hIN hho hja hb0 hbw
    go_enter Tryz.func154, Tryz.ntmps154
    go_wp2_with (go_at_call 105; refine (l00In_any _ _ _ _).mono ?_; rintro e w' ⟨rfl, rfl⟩)
    go_ret
    exact ⟨rfl, Below.refl _ _⟩
  have hvr : v = K.all knotOk := by rw [hv.out, loopOk, hIN _ t0.symm, hho]; simp
  replace hvr := Lib.hid hvr
  clear hIN hho hja hb0 hbw hv
  go_enter Tryz.func154, Tryz.ntmps154
  go_wp2_with (go_at_call 105; refine (l00In_any _ _ _ _).mono ?_; rintro e w' ⟨rfl, rfl⟩)
  clear q2
  go_loopw [3] (fun i wr => ∃ k : Nat, i = .int .i64 k ∧ k ≤ n ∧ (K.take k).all knotOk = true ∧ Below w.heap.size w wr) (fun i wr => n - (intOf i).toNat)
  case atStart => exact ⟨0, rfl, Nat.zero_le _, rfl, Below.refl _ _⟩
  case round =>
    obtain ⟨k, rfl, hk, hall, hbel⟩ := hrel
    replace hall := Lib.hid hall
    have hcw : wr.cell? ⟨b, off, none⟩ = some (.slice (some ⟨b1, o1, none⟩) n c) := (hbel.cell (p := ⟨b, off, none⟩) hb).trans hcell
    have hbr : b < wr.heap.size := by have := hbel.size; omega
    by_cases hlt : k < n
    · obtain ⟨b2, o2, ⟨y0, y1, y2⟩, hA, _, hbw, hja, hcs⟩ := (hr.out.frame (good_flat _) (Below.sameB hbel hhi)).at hlt
      injection hA with hA
      injection hA with hA1 hA2
      subst hA1 hA2
      have q0 := hcs 0 _ rfl
      have q1 := hcs 1 _ rfl
      simp only [Nat.add_zero] at q0 q1
      clear hcs
      have hb2 : b1 < wr.heap.size := by have := hbel.size; omega
      replace hja := Lib.hid hja
      cases t1 : ptOk y0 y1
      · have hvf : v = false := by rw [hvr.out]; exact all_no hja.out t1
        subst hvf
        go_wp2_with (go_at_call 112; refine (l03Ok_any _ _ _).mono ?_; rintro e w1 ⟨rfl, hb1⟩)
        go_ret
        exact ⟨rfl, hbel.trans (hb1.mono hbel.size)⟩
      · go_wp2_with (go_at_call 112; refine (l03Ok_any _ _ _).mono ?_; rintro e w1 ⟨rfl, hb1⟩)
        go_roundw
        case rel => exact ⟨k + 1, by go_num, by omega, all_take_step hall.out hja.out t1, hbel.trans (hb1.mono hbel.size)⟩
        case measure => simp [intOf]; omega
    · have hkn : k = n := by omega
      have hvt : v = true := by rw [hvr.out]; exact all_done (by rw [← hkn]; exact hall.out) hl.out
      subst hvt
      replace hkn := Lib.hid hkn
      go_wp2_with fail
      go_ret
      exact ⟨rfl, hbel⟩

set_option maxHeartbeats 2000000 in
theorem l10OkAt_any (x xo : Nat) (A : Option Addr) (n c lo hi : Nat) (Ls : List (List Knot)) (v : Bool) (hv : v = outOk Ls) (w : World) (hx : x < w.heap.size) (hcell : w.cell? ⟨x, xo, none⟩ = some (.slice A n c)) (hr : OutRd w lo hi A n Ls) (hhi : hi ≤ w.heap.size) (hn : n ≤ 1000000000) (hK : ∀ K ∈ Ls, K.length ≤ 1000000000) :
    Calls Tryz.prog 111 #[.pointer (some ⟨x, xo, none⟩)] w fun e w' => e = .returned (.bool v) ∧ Below w.heap.size w w' := by
  have hl := Lib.hid hr.1
  replace hv := Lib.hid hv
  replace hr := Lib.hid hr
  replace hK := Lib.hid hK
  go_enter Tryz.func111, Tryz.ntmps111
  go_wp2_with fail
  go_loopw [3] (fun i wr => ∃ k : Nat, i = .int .i64 k ∧ k ≤ n ∧ (Ls.take k).all loopOk = true ∧ Below w.heap.size w wr) (fun i wr => n - (intOf i).toNat)
  case atStart => exact ⟨0, rfl, Nat.zero_le _, rfl, Below.refl _ _⟩
  case round =>
    obtain ⟨k, rfl, hk, hall, hbel⟩ := hrel
    replace hall := Lib.hid hall
    have hcw : wr.cell? ⟨x, xo, none⟩ = some (.slice A n c) := (hbel.cell (p := ⟨x, xo, none⟩) hx).trans hcell
    have hxr : x < wr.heap.size := by have := hbel.size; omega
    by_cases hlt : k < n
    · obtain ⟨b1, o1, K, A1, n1, c1, hA, hb0, hb, hja, q0, hm, hr1⟩ := out_at (hr.out.frame good_loop (Below.sameB hbel hhi)) hlt
      rw [hA] at hcw
      have hbw : b1 < wr.heap.size := by have := hbel.size; omega
      have hsz := hbel.size
      obtain ⟨t, ht⟩ : ∃ t, t = loopOk K := ⟨_, rfl⟩
      have hcall := Lib.hid (l10Loop_any b1 (o1 + k) A1 n1 c1 lo hi K t ht wr hbw q0 hr1 (by omega) (by rw [← hr1.1]; exact hK.out K (List.mem_of_getElem? hja)))
      clear hr1 hm hb0 hb
      replace hja := Lib.hid hja
      replace ht := Lib.hid ht
      replace hA := Lib.hid hA
      go_wp2_with fail
      refine hcall.out.mono ?_
      rintro e w1 ⟨rfl, hb1⟩
      have hbel1 := hbel.trans (hb1.mono hbel.size)
      cases t
      · have hvf : v = false := by rw [hv.out, outOk, all_no hja.out ht.out.symm]; rfl
        subst hvf
        go_wp2_with fail
        go_ret
        exact ⟨rfl, hbel1⟩
      · go_wp2_with fail
        go_roundw
        case rel => exact ⟨k + 1, by go_num, by omega, all_take_step hall.out hja.out ht.out.symm, hbel1⟩
        case measure => simp [intOf]; omega
    · have hkn : k = n := by omega
      have hvt : v = decide (n ≤ 12) := by rw [hv.out, outOk, all_done (n := n) (by rw [← hkn]; exact hall.out) hl.out, hl.out]; simp
      replace hkn := Lib.hid hkn
      replace hvt := Lib.hid hvt
      by_cases h12 : n ≤ 12
      all_goals
        go_wp2_with fail
        go_ret
        exact ⟨ret_bool (by rw [hvt.out]; simp; omega), hbel⟩

/-! ### the program's side -/
theorem badKnot_any (x y : Int) (z : Bool) (w : World) : Calls Tryz.prog 167 #[.agg #[.int .i64 x, .int .i64 y, .bool z]] w fun e w' => e = .returned (.bool (!knotOk (x, y, z))) ∧ Below w.heap.size w w' := by
  go_enter Tryz.func167, Tryz.ntmps167
  go_wp2_with (go_at_call 80; refine (validPt_any _ _ _).mono ?_; rintro e w1 ⟨rfl, hb1⟩)
  go_ret
  exact ⟨rfl, (Go.Joins.below_alloc1 _ _).trans (hb1.mono (by simp))⟩

set_option maxHeartbeats 1000000 in
theorem knotIndex_any (A : Option Addr) (n c lo hi : Nat) (K : List Knot) (w : World) (hr : RdS 3 (FlatR knotC) w lo hi A n K) (hhi : hi ≤ w.heap.size) (hn : n ≤ 1000000000) :
    Calls Tryz.prog 191 #[.slice A n c, .func (.func 167) #[] #[]] w fun e w' => ∃ r : Int, e = .returned (.int .i64 r) ∧ decide (0 ≤ r) = !(K.all knotOk) ∧ Below w.heap.size w w' := by
  replace hr := Lib.hid hr
  go_enter Tryz.func191, Tryz.ntmps191
  go_wp2_with fail
  go_loopw [8] (fun i wr => ∃ k : Nat, i = .int .i64 k ∧ k ≤ n ∧ (K.take k).all knotOk = true ∧ Below w.heap.size w wr) (fun i wr => n - (intOf i).toNat)
  case atStart => exact ⟨0, rfl, Nat.zero_le _, rfl, Below.refl _ _⟩
  case round =>
    obtain ⟨k, rfl, hk, hall, hbel⟩ := hrel
    replace hall := Lib.hid hall
    by_cases hlt : k < n
    · obtain ⟨b1, o1, ⟨x0, x1, x2⟩, rfl, _, hbw, hja, hcs⟩ := (hr.out.frame (good_flat _) (Below.sameB hbel hhi)).at hlt
      have q0 := hcs 0 _ rfl
      have q1 := hcs 1 _ rfl
      have q2 := hcs 2 _ rfl
      simp only [Nat.add_zero] at q0 q1 q2
      clear hcs
      replace hja := Lib.hid hja
      cases hv : knotOk (x0, x1, x2)
      · go_wp2_with (go_at_call 167; refine (badKnot_any _ _ _ _).mono ?_; rintro e w1 ⟨rfl, hb1⟩)
        go_ret
        exact ⟨k, rfl, by rw [all_no hja.out hv]; simp, hbel.trans (hb1.mono hbel.size)⟩
      · go_wp2_with (go_at_call 167; refine (badKnot_any _ _ _ _).mono ?_; rintro e w1 ⟨rfl, hb1⟩)
        go_roundw
        case rel => exact ⟨k + 1, by go_num, by omega, all_take_step hall.out hja.out hv, hbel.trans (hb1.mono hbel.size)⟩
        case measure => simp [intOf]; omega
    · have hkn : k = n := by omega
      have hfin := Lib.hid (all_done (by rw [← hkn]; exact hall.out) hr.out.1)
      replace hkn := Lib.hid hkn
      go_wp2_with fail
      go_ret
      exact ⟨-1, rfl, by rw [hfin.out]; rfl, hbel⟩
theorem knotContains_any (A : Option Addr) (n c lo hi : Nat) (K : List Knot) (b : Bool) (hb : b = !(K.all knotOk)) (w : World) (hr : RdS 3 (FlatR knotC) w lo hi A n K) (hhi : hi ≤ w.heap.size) (hn : n ≤ 1000000000) :
    Calls Tryz.prog 166 #[.slice A n c, .func (.func 167) #[] #[]] w fun e w' => e = .returned (.bool b) ∧ Below w.heap.size w w' := by
  have hi := Lib.hid (knotIndex_any A n c lo hi K w hr hhi hn)
  replace hb := Lib.hid hb
  go_enter Tryz.func166, Tryz.ntmps166
  go_wp2_with fail
  refine hi.out.mono ?_
  rintro e w1 ⟨r, rfl, hd, hb1⟩
  replace hd := Lib.hid hd
  go_wp2_with fail
  go_ret
  exact ⟨ret_bool (by rw [hb.out]; exact hd.out), hb1⟩

set_option maxHeartbeats 2000000 in
theorem validLoop_any (A : Option Addr) (n c lo hi : Nat) (K : List Knot) (v : Bool) (hv : v = loopOk K) (w : World) (hr : RdS 3 (FlatR knotC) w lo hi A n K) (hhi : hi ≤ w.heap.size) (hn : n ≤ 1000000000) :
    Calls Tryz.prog 133 #[.agg #[.slice A n c]] w fun e w' => e = .returned (.bool v) ∧ Below w.heap.size w w' := by
  have hl := Lib.hid hr.1
  replace hv := Lib.hid hv
  by_cases hn1 : 1 ≤ n
  rotate_left
  · have hvf : v = false := by
      rw [hv.out, loopOk]
      have : inB (K.length : Int) 1 60 = false := inB_false.2 (by have := hl.out; omega)
      rw [this]; rfl
    subst hvf
    clear hr
    go_enter Tryz.func133, Tryz.ntmps133
    go_wp2_with fail
    go_ret
    exact ⟨rfl, Go.Joins.below_alloc1 _ _⟩
  by_cases hn60 : n ≤ 60
  rotate_left
  · have hvf : v = false := by
      rw [hv.out, loopOk]
      have : inB (K.length : Int) 1 60 = false := inB_false.2 (by have := hl.out; omega)
      rw [this]; rfl
    subst hvf
    clear hr
    go_enter Tryz.func133, Tryz.ntmps133
    go_wp2_with fail
    go_ret
    exact ⟨rfl, Go.Joins.below_alloc1 _ _⟩
  have hin : inB (K.length : Int) 1 60 = true := inB_iff.2 (by have := hl.out; omega)
  obtain ⟨b1, o1, ⟨x0, x1, x2⟩, rfl, hb0, hbw, hja, hcs⟩ := hr.at (j := 0) (by omega)
  have q2 := hcs 2 _ rfl
  simp only [Nat.zero_mul, Nat.add_zero] at q2
  clear hcs
  have hho := headOn_at hja
  have hb1w : b1 < w.heap.size := by omega
  replace hr := Lib.hid hr
  cases x2
  · have hvf : v = false := by rw [hv.out, loopOk, hin, hho]; rfl
    subst hvf
    clear hho hja hb0 hbw hin
    go_enter Tryz.func133, Tryz.ntmps133
    go_wp2_with fail
    go_ret
    exact ⟨rfl, Go.Joins.below_alloc1 _ _⟩
  have hvr : v = K.all knotOk := by rw [hv.out, loopOk, hin, hho]; simp
  obtain ⟨t, ht⟩ : ∃ t, t = !(K.all knotOk) := ⟨_, rfl⟩
  have hcall := Lib.hid (fun o => knotContains_any (some ⟨b1, o1, none⟩) n c lo hi K t ht (w.alloc o) (hr.out.frame (good_flat _) (SameB.alloc (SameB.refl _ _ _) hhi _)) (by simp; omega) hn)
  have hvt : v = !t := by rw [hvr, ht]; simp
  subst hvt
  replace ht := Lib.hid ht
  replace hvr := Lib.hid hvr
  clear hho hja hb0 hbw hv hin
  go_enter Tryz.func133, Tryz.ntmps133
  go_wp2_with fail
  refine (hcall.out _).mono ?_
  rintro e w1 ⟨rfl, hb1⟩
  go_wp2_with fail
  go_ret
  exact ⟨rfl, (Go.Joins.below_alloc1 _ _).trans (hb1.mono (by simp))⟩

theorem badLoop_any (A : Option Addr) (n c lo hi : Nat) (K : List Knot) (v : Bool) (hv : v = loopOk K) (w : World) (hr : RdS 3 (FlatR knotC) w lo hi A n K) (hhi : hi ≤ w.heap.size) (hn : n ≤ 1000000000) :
    Calls Tryz.prog 132 #[.agg #[.slice A n c]] w fun e w' => e = .returned (.bool (!v)) ∧ Below w.heap.size w w' := by
  have hcall := Lib.hid (fun o => validLoop_any A n c lo hi K v hv (w.alloc o) (hr.frame (good_flat _) (SameB.alloc (SameB.refl _ _ _) hhi _)) (by simp; omega) hn)
  replace hv := Lib.hid hv
  clear hr
  go_enter Tryz.func132, Tryz.ntmps132
  go_wp2_with fail
  refine (hcall.out _).mono ?_
  rintro e w1 ⟨rfl, hb1⟩
  go_wp2_with fail
  go_ret
  exact ⟨rfl, (Go.Joins.below_alloc1 _ _).trans (hb1.mono (by simp))⟩

set_option maxHeartbeats 1000000 in
theorem loopIndex_any (A : Option Addr) (n c lo hi : Nat) (Ls : List (List Knot)) (w : World) (hr : OutRd w lo hi A n Ls) (hhi : hi ≤ w.heap.size) (hn : n ≤ 1000000000) (hK : ∀ K ∈ Ls, K.length ≤ 1000000000) :
    Calls Tryz.prog 165 #[.slice A n c, .func (.func 132) #[] #[]] w fun e w' => ∃ r : Int, e = .returned (.int .i64 r) ∧ decide (0 ≤ r) = !(Ls.all loopOk) ∧ Below w.heap.size w w' := by
  have hl := Lib.hid hr.1
  replace hr := Lib.hid hr
  replace hK := Lib.hid hK
  go_enter Tryz.func165, Tryz.ntmps165
  go_wp2_with fail
  go_loopw [8] (fun i wr => ∃ k : Nat, i = .int .i64 k ∧ k ≤ n ∧ (Ls.take k).all loopOk = true ∧ Below w.heap.size w wr) (fun i wr => n - (intOf i).toNat)
  case atStart => exact ⟨0, rfl, Nat.zero_le _, rfl, Below.refl _ _⟩
  case round =>
    obtain ⟨k, rfl, hk, hall, hbel⟩ := hrel
    replace hall := Lib.hid hall
    by_cases hlt : k < n
    · obtain ⟨b1, o1, K, A1, n1, c1, rfl, hb0, hb, hja, q0, hm, hr1⟩ := out_at (hr.out.frame good_loop (Below.sameB hbel hhi)) hlt
      have hbw : b1 < wr.heap.size := by have := hbel.size; omega
      have hsz := hbel.size
      obtain ⟨t, ht⟩ : ∃ t, t = loopOk K := ⟨_, rfl⟩
      have hcall := Lib.hid (badLoop_any A1 n1 c1 lo hi K t ht wr hr1 (by omega) (by rw [← hr1.1]; exact hK.out K (List.mem_of_getElem? hja)))
      clear hr1 hm hb0 hb
      replace hja := Lib.hid hja
      replace ht := Lib.hid ht
      go_wp2_with fail
      refine hcall.out.mono ?_
      rintro e w1 ⟨rfl, hb1⟩
      have hbel1 := hbel.trans (hb1.mono hbel.size)
      cases t
      · go_wp2_with fail
        go_ret
        exact ⟨k, rfl, by rw [all_no hja.out ht.out.symm]; simp, hbel1⟩
      · go_wp2_with fail
        go_roundw
        case rel => exact ⟨k + 1, by go_num, by omega, all_take_step hall.out hja.out ht.out.symm, hbel1⟩
        case measure => simp [intOf]; omega
    · have hkn : k = n := by omega
      have hfin := Lib.hid (all_done (by rw [← hkn]; exact hall.out) hl.out)
      replace hkn := Lib.hid hkn
      go_wp2_with fail
      go_ret
      exact ⟨-1, rfl, by rw [hfin.out]; rfl, hbel⟩
theorem loopContains_any (A : Option Addr) (n c lo hi : Nat) (Ls : List (List Knot)) (b : Bool) (hb : b = !(Ls.all loopOk)) (w : World) (hr : OutRd w lo hi A n Ls) (hhi : hi ≤ w.heap.size) (hn : n ≤ 1000000000) (hK : ∀ K ∈ Ls, K.length ≤ 1000000000) :
    Calls Tryz.prog 131 #[.slice A n c, .func (.func 132) #[] #[]] w fun e w' => e = .returned (.bool b) ∧ Below w.heap.size w w' := by
  have hi := Lib.hid (loopIndex_any A n c lo hi Ls w hr hhi hn hK)
  replace hb := Lib.hid hb
  go_enter Tryz.func131, Tryz.ntmps131
  go_wp2_with fail
  refine hi.out.mono ?_
  rintro e w1 ⟨r, rfl, hd, hb1⟩
  replace hd := Lib.hid hd
  go_wp2_with fail
  go_ret
  exact ⟨ret_bool (by rw [hb.out]; exact hd.out), hb1⟩

set_option maxHeartbeats 1000000 in
theorem validOutline_any (A : Option Addr) (n c lo hi : Nat) (Ls : List (List Knot)) (v : Bool) (hv : v = outOk Ls) (w : World) (hr : OutRd w lo hi A n Ls) (hhi : hi ≤ w.heap.size) (hn : n ≤ 1000000000) (hK : ∀ K ∈ Ls, K.length ≤ 1000000000) :
    Calls Tryz.prog 79 #[.agg #[.slice A n c]] w fun e w' => e = .returned (.bool v) ∧ Below w.heap.size w w' := by
  have hl := Lib.hid hr.1
  by_cases h12 : n ≤ 12
  rotate_left
  · have hvf : v = false := by rw [hv, outOk, decide_eq_false (by rw [hl.out]; exact h12)]; simp
    subst hvf
    clear hr hv
    go_enter Tryz.func79, Tryz.ntmps79
    go_wp2_with fail
    go_ret
    exact ⟨rfl, Go.Joins.below_alloc1 _ _⟩
  obtain ⟨t, ht⟩ : ∃ t, t = !(Ls.all loopOk) := ⟨_, rfl⟩
  have hcall := Lib.hid (fun o => loopContains_any A n c lo hi Ls t ht (w.alloc o) (hr.frame good_loop (SameB.alloc (SameB.refl _ _ _) hhi _)) (by simp; omega) hn hK)
  have hvt : v = !t := by rw [hv, ht, outOk, decide_eq_true (by rw [hl.out]; exact h12)]; simp
  subst hvt
  replace ht := Lib.hid ht
  clear hv hr
  go_enter Tryz.func79, Tryz.ntmps79
  go_wp2_with fail
  refine (hcall.out _).mono ?_
  rintro e w1 ⟨rfl, hb1⟩
  go_wp2_with fail
  go_ret
  exact ⟨rfl, (Go.Joins.below_alloc1 _ _).trans (hb1.mono (by simp))⟩
end Go.Proofs.YtfkidklpjiiclaaGreat

