/- Ways of segments through hot points, and rounds of them: the numbers alone. Conditions: as each states. -/
import Derived.Shelf.SlLaysF0
import Derived.Ground.SlsfProg
import Derived.Ground.NamesProg
import Derived.Deep.CutBlock
import Derived.Test.YtlifiioflkhkoaaGreatFr28
import Derived.Test.YtlifiioflkhkoaaGreatFr29
namespace Go.Proofs.YtlifiioflkhkoaaGreat
set_option linter.unusedVariables false
set_option maxRecDepth 100000

def keyW (a b p : Pnt) : Bnd := (walkF a b p).1.1
def inBx (a b p : Pnt) : Bool := decide (min a.2 b.2 - 1 ≤ p.2) && (decide (p.2 ≤ max a.2 b.2 + 1) && (decide (min a.1 b.1 - 1 ≤ p.1) && decide (p.1 ≤ max a.1 b.1 + 1)))
def onW (a b p : Pnt) : Bool := inBx a b p && (walkF a b p).2
def candF (a b : Pnt) (hot : List Pnt) : List Pnt := hot.filter (onW a b)
def leW (x y : Bnd) : Prop := valB x < valB y ∨ valB x = valB y ∧ (x.2.2 = true ∨ y.2.2 = false)
instance leW_dec (x y : Bnd) : Decidable (leW x y) := by unfold leW; infer_instance
/-- the way of a segment through hot points -/
def wayL (a b : Pnt) (hot : List Pnt) : List Pnt := (candF a b hot).mergeSort fun p q => decide (leW (keyW a b p) (keyW a b q))
theorem leW_trans {x y z : Bnd} (h1 : leW x y) (h2 : leW y z) : leW x z := by
  unfold leW at *
  rcases h1 with h1 | ⟨h1, h3⟩ <;> rcases h2 with h2 | ⟨h2, h4⟩
  · left; grind
  · left; grind
  · left; grind
  · right
    refine ⟨by grind, ?_⟩
    rcases h3 with h3 | h3
    · exact .inl h3
    · rcases h4 with h4 | h4
      · rw [h3] at h4; cases h4
      · exact .inr h4
theorem leW_total (x y : Bnd) : leW x y ∨ leW y x := by
  unfold leW
  rcases (by grind : valB x < valB y ∨ valB y < valB x ∨ valB x = valB y) with h | h | h
  · exact .inl (.inl h)
  · exact .inr (.inl h)
  · cases hx : x.2.2
    · right; right; exact ⟨h.symm, .inr rfl⟩
    · left; right; exact ⟨h, .inl rfl⟩
theorem cmpW_le {x y : Bnd} (hx : posB x) (hy : posB y) : ¬ cmpW y x < 0 ↔ leW x y := by
  rw [cmpW_neg hy hx]
  unfold leW
  constructor
  · intro h
    rcases (by grind : valB x < valB y ∨ valB y < valB x ∨ valB x = valB y) with h1 | h1 | h1
    · exact .inl h1
    · exact absurd (.inl h1) h
    · refine .inr ⟨h1, ?_⟩
      cases hx : x.2.2
      · cases hy : y.2.2
        · exact .inr rfl
        · exact absurd (.inr ⟨h1.symm, hy, hx⟩) h
      · exact .inl rfl
  · rintro (h | ⟨h, h3⟩) (h2 | ⟨h2, h4, h5⟩)
    · exact absurd h2 (by grind)
    · exact absurd h2 (by grind)
    · exact absurd h2 (by grind)
    · rcases h3 with h3 | h3
      · rw [h3] at h5; cases h5
      · rw [h3] at h4; cases h4
theorem key_pos {a b p : Pnt} (h : (walkF a b p).2 = true) : posB (keyW a b p) := (walk_yes h).1.1
theorem onW_walk {a b p : Pnt} (h : onW a b p = true) : (walkF a b p).2 = true := by
  unfold onW at h; simp at h; exact h.2
theorem cand_mem {a b : Pnt} {hot : List Pnt} {p : Pnt} : p ∈ candF a b hot ↔ p ∈ hot ∧ onW a b p = true := List.mem_filter
theorem way_perm (a b : Pnt) (hot : List Pnt) : (wayL a b hot).Perm (candF a b hot) := List.mergeSort_perm _ _
theorem way_mem {a b : Pnt} {hot : List Pnt} {p : Pnt} : p ∈ wayL a b hot ↔ p ∈ hot ∧ onW a b p = true := ((way_perm a b hot).mem_iff).trans cand_mem
theorem way_sorted (a b : Pnt) (hot : List Pnt) : (wayL a b hot).Pairwise fun p q => leW (keyW a b p) (keyW a b q) := by
  have h := List.pairwise_mergeSort (le := fun p q => decide (leW (keyW a b p) (keyW a b q))) (fun x y z h1 h2 => by simp only [decide_eq_true_eq] at *; exact leW_trans h1 h2) (fun x y => by simpa using leW_total _ _) (candF a b hot)
  exact h.imp (by simp)
theorem way_is {a b : Pnt} {hot M : List Pnt} (h1 : M.Perm (candF a b hot)) (h2 : M.Pairwise fun p q => leW (keyW a b p) (keyW a b q)) : M = wayL a b hot := by
  refine List.Perm.eq_of_pairwise (le := fun p q => leW (keyW a b p) (keyW a b q)) ?_ h2 (way_sorted a b hot) (h1.trans (way_perm a b hot).symm)
  intro p q hp hq h3 h4
  have wp := onW_walk (cand_mem.1 (h1.mem_iff.1 hp)).2
  have wq := onW_walk (way_mem.1 hq).2
  rcases Decidable.em (p = q) with e | e
  · exact e
  · exfalso
    rcases key_total wp wq e with h | h
    · exact (cmpW_le (key_pos wq) (key_pos wp)).2 h4 h
    · exact (cmpW_le (key_pos wp) (key_pos wq)).2 h3 h
theorem way_nodup {a b : Pnt} {hot : List Pnt} (h : hot.Nodup) : (wayL a b hot).Nodup := (way_perm a b hot).symm.nodup (h.filter _)
theorem on_start (a b : Pnt) : onW a b a = true := by
  unfold onW
  rw [walk_of (inP_start a b)]
  unfold inBx
  simp; omega
theorem on_end (a b : Pnt) : onW a b b = true := by
  unfold onW
  rw [walk_of (inP_end a b)]
  unfold inBx
  simp; omega
theorem way_ends {a b : Pnt} {hot : List Pnt} (hn : hot.Nodup) (ha : a ∈ hot) (hb : b ∈ hot) (hab : a ≠ b) : ∃ R, wayL a b hot = a :: (R ++ [b]) := by
  have hs := way_sorted a b hot
  have ma : a ∈ wayL a b hot := way_mem.2 ⟨ha, on_start a b⟩
  have mb : b ∈ wayL a b hot := way_mem.2 ⟨hb, on_end a b⟩
  have hon : ∀ p ∈ wayL a b hot, (walkF a b p).2 = true := fun p hp => onW_walk (way_mem.1 hp).2
  have wa := hon a ma
  have wb := hon b mb
  cases hM : wayL a b hot with
  | nil => rw [hM] at ma; cases ma
  | cons x T =>
    rw [hM] at hs ma mb hon
    have hxa : x = a := by
      rcases Decidable.em (x = a) with e | e
      · exact e
      · exfalso
        have wx := hon x List.mem_cons_self
        rcases List.mem_cons.1 ma with h | h
        · exact e h.symm
        · have h1 := (List.pairwise_cons.1 hs).1 a h
          exact (cmpW_le (key_pos wx) (key_pos wa)).2 h1 (key_first wx e)
    subst hxa
    rcases List.mem_cons.1 mb with h | h
    · exact absurd h.symm hab
    rcases List.eq_nil_or_concat T with h0 | ⟨R, y, h0⟩
    · rw [h0] at h; cases h
    · rw [List.concat_eq_append] at h0
      subst h0
      have hyb : y = b := by
        rcases Decidable.em (y = b) with e | e
        · exact e
        · exfalso
          have wy := hon y (by simp)
          rcases List.mem_append.1 h with h1 | h1
          · have h2 := (List.pairwise_append.1 (List.pairwise_cons.1 hs).2).2.2 b h1 y (by simp)
            exact (cmpW_le (key_pos wb) (key_pos wy)).2 h2 (key_last wy e)
          · exact e (List.mem_singleton.1 h1).symm
      rw [hyb]
      exact ⟨R, rfl⟩

/- neighbours that differ -/
def Cd : List Pnt → Prop
  | [] => True
  | [_] => True
  | x :: y :: T => x ≠ y ∧ Cd (y :: T)
theorem cd_nodup : ∀ {L : List Pnt}, L.Nodup → Cd L
  | [], _ => trivial
  | [_], _ => trivial
  | x :: y :: T, h => by
    obtain ⟨h1, h2⟩ := List.nodup_cons.1 h
    exact ⟨fun e => h1 (by rw [e]; exact List.mem_cons_self), cd_nodup h2⟩
theorem cd_join : ∀ {B : List Pnt} {y : Pnt} {R : List Pnt}, Cd (B ++ [y]) → Cd (y :: R) → Cd (B ++ y :: R)
  | [], _, _, _, h => h
  | [x], _, _, h1, h2 => ⟨h1.1, h2⟩
  | x :: z :: B, y, R, h1, h2 => ⟨h1.1, cd_join (B := z :: B) h1.2 h2⟩
theorem cd_at : ∀ {L : List Pnt} {i : Nat}, Cd L → i + 1 < L.length → ptAt L i ≠ ptAt L (i + 1)
  | [], _, _, h => by simp at h
  | [_], _, _, h => by simp at h
  | x :: y :: T, 0, h, _ => h.1
  | x :: y :: T, i + 1, h, hl => cd_at (L := y :: T) (i := i) h.2 (by simpa using hl)
/-- no point repeats, all around -/
def Tight (L : List Pnt) : Prop := ∀ i, i < L.length → ptAt L i ≠ ptAt L ((i + 1) % L.length)
def PathE (s : Pnt) : List (Pnt × Pnt) → Pnt → Prop
  | [], t => s = t
  | e :: E, t => e.1 = s ∧ PathE e.2 E t
theorem PathE.snoc : ∀ {s t u : Pnt} {E : List (Pnt × Pnt)}, PathE s E t → PathE s (E ++ [(t, u)]) u
  | s, t, u, [], h => ⟨h.symm, rfl⟩
  | s, t, u, e :: E, h => ⟨h.1, h.2.snoc⟩
theorem edges_path (L : List Pnt) (hL : 0 < L.length) : ∀ k, k ≤ L.length → PathE (ptAt L 0) (edgesTo L k) (ptAt L (k % L.length))
  | 0, _ => by show ptAt L 0 = _; rw [Nat.zero_mod]
  | k + 1, hk => by
    have ih := edges_path L hL k (by omega)
    rw [Nat.mod_eq_of_lt (by omega)] at ih
    by_cases h : ptAt L k = ptAt L ((k + 1) % L.length)
    · rw [edgesTo_no h, ← h]; exact ih
    · rw [edgesTo_yes h]; exact ih.snoc
theorem edges_ring (L : List Pnt) (hL : 0 < L.length) : PathE (ptAt L 0) (edgesL L) (ptAt L 0) := by
  have := edges_path L hL L.length (Nat.le_refl _)
  rwa [Nat.mod_self] at this
theorem edges_mem {L : List Pnt} {e : Pnt × Pnt} (h : e ∈ edgesL L) : e.1 ≠ e.2 ∧ e.1 ∈ L ∧ e.2 ∈ L := by
  unfold edgesL edgesTo at h
  obtain ⟨i, hi, hf⟩ := List.mem_filterMap.1 h
  have hil := List.mem_range.1 hi
  have hm : ∀ j, j < L.length → ptAt L j ∈ L := fun j hj => by
    unfold ptAt; rw [List.getD_eq_getElem?_getD, List.getElem?_eq_getElem hj]; exact List.getElem_mem hj
  split at hf
  · cases hf
  · rename_i hne
    injection hf with hf
    subst hf
    exact ⟨hne, hm i hil, hm _ (Nat.mod_lt _ (by omega))⟩
/-- blocks over a closed path of edges -/
theorem blocks_cd {B : Pnt × Pnt → List Pnt} : ∀ {E : List (Pnt × Pnt)} {s t : Pnt}, PathE s E t → (∀ e ∈ E, (∃ R, B e = e.1 :: R) ∧ Cd (B e ++ [e.2])) → (E ≠ [] → ∃ R, E.flatMap B ++ [t] = s :: R) ∧ Cd (E.flatMap B ++ [t])
  | [], s, t, h, _ => ⟨fun h => absurd rfl h, trivial⟩
  | e :: E, s, t, h, hB => by
    obtain ⟨⟨R, hR⟩, hc⟩ := hB e List.mem_cons_self
    obtain ⟨h1, h2⟩ := blocks_cd h.2 fun e' he => hB e' (List.mem_cons_of_mem _ he)
    refine ⟨fun _ => ⟨R ++ (E.flatMap B ++ [t]), by rw [List.flatMap_cons, hR, ← h.1]; simp⟩, ?_⟩
    rw [List.flatMap_cons, List.append_assoc]
    cases E with
    | nil =>
      have ht : e.2 = t := h.2
      simp only [List.flatMap_nil, List.nil_append]
      rw [← ht]; exact hc
    | cons e' E' =>
      obtain ⟨R', hR'⟩ := h1 (by simp)
      rw [hR'] at h2 ⊢
      exact cd_join hc h2
theorem tight_of_cd {N : List Pnt} {t : Pnt} (h : Cd (N ++ [t])) (ht : 0 < N.length → ptAt N 0 = t) : Tight N := by
  intro i hi
  have hn := cd_at (i := i) h (by simp; omega)
  have hat : ptAt (N ++ [t]) i = ptAt N i := by unfold ptAt; rw [List.getD_eq_getElem?_getD, List.getD_eq_getElem?_getD, List.getElem?_append_left hi]
  rw [hat] at hn
  by_cases he : i + 1 < N.length
  · rw [Nat.mod_eq_of_lt he]
    have hat2 : ptAt (N ++ [t]) (i + 1) = ptAt N (i + 1) := by unfold ptAt; rw [List.getD_eq_getElem?_getD, List.getD_eq_getElem?_getD, List.getElem?_append_left he]
    rw [hat2] at hn; exact hn
  · have hie : i + 1 = N.length := by omega
    have hat2 : ptAt (N ++ [t]) (i + 1) = t := by unfold ptAt; rw [List.getD_eq_getElem?_getD, List.getElem?_append_right (by omega), hie, Nat.sub_self]; rfl
    rw [hat2] at hn
    rw [hie, Nat.mod_self, ht (by omega)]; exact hn
theorem blocks_tight {B : Pnt × Pnt → List Pnt} {L : List Pnt} (hB : ∀ e ∈ edgesL L, (∃ R, B e = e.1 :: R) ∧ Cd (B e ++ [e.2])) : Tight ((edgesL L).flatMap B) := by
  by_cases hL : 0 < L.length
  · obtain ⟨h1, h2⟩ := blocks_cd (edges_ring L hL) hB
    refine tight_of_cd h2 fun h0 => ?_
    have hne : edgesL L ≠ [] := fun h => by rw [h] at h0; simp at h0
    obtain ⟨R, hR⟩ := h1 hne
    cases hN : (edgesL L).flatMap B with
    | nil => rw [hN] at h0; simp at h0
    | cons x T =>
      rw [hN] at hR
      injection hR with hR _
  · have : L = [] := List.eq_nil_of_length_eq_zero (by omega)
    subst this
    intro i hi
    simp [edgesL, edgesTo] at hi
theorem tight_edges {L : List Pnt} (h : Tight L) : (edgesL L).map Prod.fst = L := by
  have hk : ∀ k, k ≤ L.length → (edgesTo L k).map Prod.fst = L.take k := by
    intro k
    induction k with
    | zero => intro _; simp [edgesTo]
    | succ k ih =>
      intro hk
      rw [edgesTo_yes (h k (by omega)), List.map_append, ih (by omega), List.take_succ_eq_append_getElem (by omega)]
      unfold ptAt
      rw [List.getD_eq_getElem?_getD, List.getElem?_eq_getElem (by omega)]
      rfl
  have := hk L.length (Nat.le_refl _)
  rwa [List.take_length] at this
theorem tight_len {L : List Pnt} (h : Tight L) : (edgesL L).length = L.length := by
  rw [← List.length_map (f := Prod.fst), tight_edges h]
theorem drop_tight (L : List Pnt) : Tight ((edgesL L).map Prod.fst) := by
  have h := blocks_tight (B := fun e => [e.1]) (L := L) fun e he => ⟨⟨[], rfl⟩, (edges_mem he).1, trivial⟩
  have e : (edgesL L).flatMap (fun e => [e.1]) = (edgesL L).map Prod.fst := by
    induction edgesL L with
    | nil => rfl
    | cons a T ih => rw [List.flatMap_cons, ih]; rfl
  rw [← e]; exact h

/-- a ring's next round -/
def nextL (hot L : List Pnt) : List Pnt := (edgesL L).flatMap fun e => (wayL e.1 e.2 hot).dropLast
def nextTo (hot L : List Pnt) (k : Nat) : List Pnt := ((edgesL L).take k).flatMap fun e => (wayL e.1 e.2 hot).dropLast
theorem nextTo_next {hot L : List Pnt} {k : Nat} {e : Pnt × Pnt} (h : (edgesL L)[k]? = some e) : nextTo hot L (k + 1) = nextTo hot L k ++ (wayL e.1 e.2 hot).dropLast := by
  unfold nextTo
  rw [List.take_add_one, h]
  simp
theorem nextTo_all {hot L : List Pnt} {k : Nat} (h : k = (edgesL L).length) : nextTo hot L k = nextL hot L := by
  unfold nextTo nextL
  rw [h, List.take_length]
def nextR (hot : List Pnt) (Rs : List (List Pnt)) : List (List Pnt) := Rs.map (nextL hot)
theorem way_block {hot : List Pnt} (hn : hot.Nodup) {e : Pnt × Pnt} (h1 : e.1 ∈ hot) (h2 : e.2 ∈ hot) (hne : e.1 ≠ e.2) : ∃ R, (wayL e.1 e.2 hot).dropLast = e.1 :: R ∧ wayL e.1 e.2 hot = e.1 :: (R ++ [e.2]) := by
  obtain ⟨R, hR⟩ := way_ends hn h1 h2 hne
  refine ⟨R, ?_, hR⟩
  rw [hR, show e.1 :: (R ++ [e.2]) = (e.1 :: R) ++ [e.2] from rfl, List.dropLast_concat]
theorem next_tight {hot L : List Pnt} (hn : hot.Nodup) (hL : ∀ p ∈ L, p ∈ hot) : Tight (nextL hot L) := by
  refine blocks_tight fun e he => ?_
  obtain ⟨h1, h2, h3⟩ := edges_mem he
  obtain ⟨R, hR, hw⟩ := way_block hn (hL _ h2) (hL _ h3) h1
  refine ⟨⟨R, hR⟩, ?_⟩
  rw [hR, show e.1 :: R ++ [e.2] = e.1 :: (R ++ [e.2]) from rfl, ← hw]
  exact cd_nodup (way_nodup hn)
theorem next_mem {hot L : List Pnt} {p : Pnt} (h : p ∈ nextL hot L) : p ∈ hot := by
  obtain ⟨e, _, hp⟩ := List.mem_flatMap.1 h
  exact (way_mem.1 ((List.dropLast_sublist _).subset hp)).1
theorem flat_ge {B : Pnt × Pnt → List Pnt} : ∀ {E : List (Pnt × Pnt)}, (∀ e ∈ E, ∃ R, B e = e.1 :: R) → E.length ≤ (E.flatMap B).length ∧ ((E.flatMap B).length = E.length → E.flatMap B = E.map Prod.fst)
  | [], _ => ⟨Nat.le_refl _, fun _ => rfl⟩
  | e :: E, h => by
    obtain ⟨R, hR⟩ := h e List.mem_cons_self
    obtain ⟨h1, h2⟩ := flat_ge fun e' he => h e' (List.mem_cons_of_mem _ he)
    rw [List.flatMap_cons, hR, List.length_append, List.length_cons, List.length_cons]
    refine ⟨by omega, fun hl => ?_⟩
    have h0 : R = [] := List.eq_nil_of_length_eq_zero (by omega)
    subst h0
    rw [h2 (by simp only [List.length_nil] at hl; omega)]
    rfl
theorem next_len {hot L : List Pnt} (hn : hot.Nodup) (hL : ∀ p ∈ L, p ∈ hot) (ht : Tight L) : L.length ≤ (nextL hot L).length ∧ ((nextL hot L).length = L.length → nextL hot L = L) := by
  have h := flat_ge (B := fun e => (wayL e.1 e.2 hot).dropLast) (E := edgesL L) fun e he => by
    obtain ⟨h1, h2, h3⟩ := edges_mem he
    obtain ⟨R, hR, _⟩ := way_block hn (hL _ h2) (hL _ h3) h1
    exact ⟨R, hR⟩
  rw [tight_len ht, tight_edges ht] at h
  exact h
/-- how many points a region has -/
def totR (Rs : List (List Pnt)) : Nat := (Rs.map List.length).sum
theorem next_tot {hot : List Pnt} (hn : hot.Nodup) : ∀ {Rs : List (List Pnt)}, (∀ L ∈ Rs, Tight L ∧ ∀ p ∈ L, p ∈ hot) → totR Rs ≤ totR (nextR hot Rs) ∧ (totR (nextR hot Rs) = totR Rs → nextR hot Rs = Rs)
  | [], _ => ⟨Nat.le_refl _, fun _ => rfl⟩
  | L :: Rs, h => by
    obtain ⟨h1, h2⟩ := h L List.mem_cons_self
    obtain ⟨h3, h4⟩ := next_len hn h2 h1
    obtain ⟨h5, h6⟩ := next_tot hn fun K hK => h K (List.mem_cons_of_mem _ hK)
    unfold totR nextR at *
    simp only [List.map_cons, List.sum_cons] at *
    refine ⟨by omega, fun he => ?_⟩
    rw [h4 (by omega), h6 (by omega)]
theorem tot_le : ∀ {Rs : List (List Pnt)} {m : Nat}, (∀ L ∈ Rs, L.length ≤ m) → totR Rs ≤ Rs.length * m
  | [], _, _ => Nat.zero_le _
  | L :: Rs, m, h => by
    have h1 := h L List.mem_cons_self
    have h2 := tot_le fun K hK => h K (List.mem_cons_of_mem _ hK)
    unfold totR at *
    simp only [List.map_cons, List.sum_cons, List.length_cons, Nat.succ_mul] at *
    omega
/-- the rounds' end: the region at which nothing changes, or none where it grows too large -/
inductive SnapTo (hot : List Pnt) : List (List Pnt) → Option (List (List Pnt)) → Prop
  | stop (Rs) : nextR hot Rs = Rs → SnapTo hot Rs (some Rs)
  | full (Rs) : nextR hot Rs ≠ Rs → regOk (nextR hot Rs) = false → SnapTo hot Rs none
  | step (Rs X) : nextR hot Rs ≠ Rs → regOk (nextR hot Rs) = true → SnapTo hot (nextR hot Rs) X → SnapTo hot Rs X
theorem SnapTo.unique {hot : List Pnt} {Rs : List (List Pnt)} {X Y : Option (List (List Pnt))} (h : SnapTo hot Rs X) (h' : SnapTo hot Rs Y) : X = Y := by
  induction h with
  | stop Rs h1 =>
    cases h' with
    | stop => rfl
    | full _ h2 => exact absurd h1 h2
    | step _ _ h2 => exact absurd h1 h2
  | full Rs h1 h2 =>
    cases h' with
    | stop _ h3 => exact absurd h3 h1
    | full => rfl
    | step _ _ h3 h4 => rw [h2] at h4; cases h4
  | step Rs X h1 h2 h3 ih =>
    cases h' with
    | stop _ h4 => exact absurd h4 h1
    | full _ h4 h5 => rw [h2] at h5; cases h5
    | step _ _ h4 h5 h6 => exact ih h6
end Go.Proofs.YtlifiioflkhkoaaGreat

/- Way points compared and sorted: the program's side. Printed by mk_wp1.py. Conditions: as each states. -/
namespace Go.Proofs.YtlifiioflkhkoaaGreat
open Go.RowKit Go.Shelf Go.Lib Go.Sort Go.Proofs
set_option linter.unusedVariables false
set_option maxRecDepth 100000
set_option linter.unusedSimpArgs false

def Tryz.insWay_ren : Go.Shelf.Ren := ⟨fun | 20 => 141 | n => n, fun | 24 => 153 | 22 => 145 | 3 => 3 | 25 => 156 | 4 => 4 | 0 => 0 | n => n, fun | n => n⟩
theorem Tryz.insWay : Go.Proofs.SlLaysF0.n20 Tryz.prog Tryz.insWay_ren := {
  mixed := by kernel_rfl
  f20 := ⟨Tryz.f141.name, by decide, Tryz.func141.trans (congrArg some (by kernel_rfl))⟩
  t0 := Tryz.underlying0
  a0 := Tryz.isAgg0
  z0 := Tryz.sizeOf0
  v0 := Tryz.zeroValue0
  t3 := Tryz.underlying3
  a3 := Tryz.isAgg3
  z3 := Tryz.sizeOf3
  v3 := Tryz.zeroValue3
  t4 := Tryz.underlying4
  a4 := Tryz.isAgg4
  z4 := Tryz.sizeOf4
  v4 := Tryz.zeroValue4
  t22 := Tryz.underlying145
  a22 := Tryz.isAgg145
  z22 := Tryz.sizeOf145
  v22 := Tryz.zeroValue145
  t25 := Tryz.underlying156
  a25 := Tryz.isAgg156
  z25 := Tryz.sizeOf156
  v25 := Tryz.zeroValue156 }

set_option maxHeartbeats 2000000 in
theorem compareBoundG_any (x y : Bnd) (v : Int) (hv : v = cmpB x y) (w : World) (hx : BndOk x) (hy : BndOk y) :
    Calls Tryz.prog 114 #[.agg #[.int .i64 x.1, .int .i64 x.2.1, .bool x.2.2], .agg #[.int .i64 y.1, .int .i64 y.2.1, .bool y.2.2]] w fun e w' => e = .returned (.int .i64 v) ∧ Grew w w' := by
  obtain ⟨a1, a2, a3⟩ := x
  obtain ⟨b1, b2, b3⟩ := y
  obtain ⟨x1, x2, x3, x4⟩ := hx
  obtain ⟨y1, y2, y3, y4⟩ := hy
  unfold cmpB at hv
  dsimp only at *
  have m1 := prod_bd (x := a1) (y := b2) (A := 4194304) (B := 4194304) (by omega) (by omega) (by omega) (by omega)
  have m2 := prod_bd (x := b1) (y := a2) (A := 4194304) (B := 4194304) (by omega) (by omega) (by omega) (by omega)
  obtain ⟨p1, hp1⟩ : ∃ p, p = a1 * b2 := ⟨_, rfl⟩
  obtain ⟨p2, hp2⟩ : ∃ p, p = b1 * a2 := ⟨_, rfl⟩
  rw [← hp1, ← hp2] at hv
  rw [← hp1] at m1
  rw [← hp2] at m2
  have q1 : IntKind.i64.wrap (a1 * b2) = p1 := by rw [← hp1]; exact wi (by omega)
  have q2 : IntKind.i64.wrap (b1 * a2) = p2 := by rw [← hp2]; exact wi (by omega)
  have q3 : IntKind.i64.wrap (p1 - p2) = p1 - p2 := wi (by omega)
  have hc := Lib.hid (fun W => sign_any (p1 - p2) W v hv)
  have hb0 := Go.Joins.below_alloc2 w (.cells #[.int .i64 a1, .int .i64 a2, .bool a3] 147 (0, 0)) (.cells #[.int .i64 b1, .int .i64 b2, .bool b3] 147 (0, 0))
  clear hp1 hp2 m1 m2 hv x1 x2 x3 x4 y1 y2 y3 y4
  go_enter Tryz.func114, Tryz.ntmps114
  go_wp2_with fail
  refine (hc.out _).mono ?_
  rintro e w1 ⟨rfl, rfl⟩
  go_wp2_with fail
  go_ret
  exact ⟨rfl, ((Grew.refl w).alloc _).alloc _⟩


abbrev WPt := Pnt × Bnd
def wpC (z : WPt) : List Value := [.int .i64 z.1.1, .int .i64 z.1.2, .int .i64 z.2.1, .int .i64 z.2.2.1, .bool z.2.2.2]
theorem wpC_len (z : WPt) : (wpC z).length = 5 := rfl
theorem wpC_one (z : WPt) : ∀ v ∈ wpC z, v.oneCell' = true := by
  intro v hv
  unfold wpC at hv
  simp at hv
  rcases hv with rfl | rfl | rfl | rfl | rfl <;> rfl
theorem cells5 {w : World} {b : Nat} {x y u v : Int} {c : Bool} {t : TypeId} (h : w.heap[b]? = some (.cells #[.int .i64 x, .int .i64 y, .int .i64 u, .int .i64 v, .bool c] t (0, 0))) : w.cell? ⟨b, 0, none⟩ = some (.int .i64 x) ∧ w.cell? ⟨b, 1, none⟩ = some (.int .i64 y) ∧ w.cell? ⟨b, 2, none⟩ = some (.int .i64 u) ∧ w.cell? ⟨b, 3, none⟩ = some (.int .i64 v) ∧ w.cell? ⟨b, 4, none⟩ = some (.bool c) ∧ (∀ o, w.frozen? ⟨b, o, none⟩ = false) ∧ b < w.heap.size :=
  ⟨by rw [Go.Joins.cell_of_block h]; rfl, by rw [Go.Joins.cell_of_block h]; rfl, by rw [Go.Joins.cell_of_block h]; rfl, by rw [Go.Joins.cell_of_block h]; rfl, by rw [Go.Joins.cell_of_block h]; rfl, Go.Joins.unfrozen_of_block h, (Array.getElem?_eq_some_iff.1 h).1⟩

set_option maxHeartbeats 8000000 in
theorem cmpWP_any (x y : WPt) (v : Int) (hv : v = cmpW x.2 y.2) (w : World) (hx : BndOk x.2) (hy : BndOk y.2) :
    Calls Tryz.prog 113 #[.agg (wpC x).toArray, .agg (wpC y).toArray] w fun e w' => e = .returned (.int .i64 v) ∧ Grew w w' := by
  obtain ⟨⟨x1, x2⟩, x3, x4, x5⟩ := x
  obtain ⟨⟨y1, y2⟩, y3, y4, y5⟩ := y
  obtain ⟨c, hcd⟩ : ∃ c, c = cmpB (x3, x4, x5) (y3, y4, y5) := ⟨_, rfl⟩
  have hc := fun W => compareBoundG_any (x3, x4, x5) (y3, y4, y5) c hcd W hx hy
  unfold cmpW at hv
  dsimp only at hv hc
  simp only [wpC]
  rw [← hcd] at hv
  clear hcd hx hy
  have hX := heap_new2 w (.cells #[.int .i64 x1, .int .i64 x2, .int .i64 x3, .int .i64 x4, .bool x5] 153 (0, 0)) (.cells #[.int .i64 y1, .int .i64 y2, .int .i64 y3, .int .i64 y4, .bool y5] 153 (0, 0))
  have hG0 := Lib.hid (((Grew.refl w).alloc (.cells #[.int .i64 x1, .int .i64 x2, .int .i64 x3, .int .i64 x4, .bool x5] 153 (0, 0))).alloc (.cells #[.int .i64 y1, .int .i64 y2, .int .i64 y3, .int .i64 y4, .bool y5] 153 (0, 0)))
  have hz0 : ((w.alloc (.cells #[.int .i64 x1, .int .i64 x2, .int .i64 x3, .int .i64 x4, .bool x5] 153 (0, 0))).alloc (.cells #[.int .i64 y1, .int .i64 y2, .int .i64 y3, .int .i64 y4, .bool y5] 153 (0, 0))).heap.size = w.heap.size + 2 := by simp
  obtain ⟨hX, hY⟩ := hX
  have g1 : w.heap.size < ((w.alloc (.cells #[.int .i64 x1, .int .i64 x2, .int .i64 x3, .int .i64 x4, .bool x5] 153 (0, 0))).alloc (.cells #[.int .i64 y1, .int .i64 y2, .int .i64 y3, .int .i64 y4, .bool y5] 153 (0, 0))).heap.size := by omega
  have g2 : w.heap.size + 1 < ((w.alloc (.cells #[.int .i64 x1, .int .i64 x2, .int .i64 x3, .int .i64 x4, .bool x5] 153 (0, 0))).alloc (.cells #[.int .i64 y1, .int .i64 y2, .int .i64 y3, .int .i64 y4, .bool y5] 153 (0, 0))).heap.size := by omega
  clear hz0
  obtain ⟨p0, p1, p2, p3, p4, pf, pl⟩ := cells5 hX
  obtain ⟨q0, q1, q2, q3, q4, qf, ql⟩ := cells5 hY
  by_cases h0 : c = 0
  rotate_left
  · have e0 : (c == 0) = false := by simpa using h0
    rw [if_pos h0] at hv
    subst hv
    clear h0
    replace hc := Lib.hid hc
    go_enter Tryz.func113, Tryz.ntmps113
    go_upto_region 1 with fail
    generalize (w.alloc (.cells #[.int .i64 x1, .int .i64 x2, .int .i64 x3, .int .i64 x4, .bool x5] 153 (0, 0))).alloc (.cells #[.int .i64 y1, .int .i64 y2, .int .i64 y3, .int .i64 y4, .bool y5] 153 (0, 0)) = v0 at *
    generalize w.heap.size = X at *
    go_wp2_with (go_at_call 114; refine (hc.out _).mono ?_; rintro e w1 ⟨rfl, hg1⟩; obtain ⟨k0, k1, k2, k3, k4, kf, kl⟩ := cells5 (show w1.heap[X]? = some (.cells #[.int .i64 x1, .int .i64 x2, .int .i64 x3, .int .i64 x4, .bool x5] 153 (0, 0)) from (hg1.below.block _ g1).trans hX); obtain ⟨j0, j1, j2, j3, j4, jf, jl⟩ := cells5 (show w1.heap[X + 1]? = some (.cells #[.int .i64 y1, .int .i64 y2, .int .i64 y3, .int .i64 y4, .bool y5] 153 (0, 0)) from (hg1.below.block _ g2).trans hY); clear p0 p1 p2 p3 p4 pf pl q0 q1 q2 q3 q4 qf ql hX hY g1 g2; replace hg1 := Lib.hid hg1)
    go_ret
    exact ⟨rfl, hG0.out.trans hg1.out⟩
  have e0 : (c == 0) = true := by simpa using h0
  rw [if_neg (by simpa using h0)] at hv
  replace h0 := Lib.hid h0
  cases x5
  · cases y5
    · have hv0 : v = 0 := by rw [hv]; rfl
      subst hv0
      clear hv
      replace hc := Lib.hid hc
      go_enter Tryz.func113, Tryz.ntmps113
      go_upto_region 1 with fail
      generalize (w.alloc (.cells #[.int .i64 x1, .int .i64 x2, .int .i64 x3, .int .i64 x4, .bool false] 153 (0, 0))).alloc (.cells #[.int .i64 y1, .int .i64 y2, .int .i64 y3, .int .i64 y4, .bool false] 153 (0, 0)) = v0 at *
      generalize w.heap.size = X at *
      go_wp2_with (go_at_call 114; refine (hc.out _).mono ?_; rintro e w1 ⟨rfl, hg1⟩; obtain ⟨k0, k1, k2, k3, k4, kf, kl⟩ := cells5 (show w1.heap[X]? = some (.cells #[.int .i64 x1, .int .i64 x2, .int .i64 x3, .int .i64 x4, .bool false] 153 (0, 0)) from (hg1.below.block _ g1).trans hX); obtain ⟨j0, j1, j2, j3, j4, jf, jl⟩ := cells5 (show w1.heap[X + 1]? = some (.cells #[.int .i64 y1, .int .i64 y2, .int .i64 y3, .int .i64 y4, .bool false] 153 (0, 0)) from (hg1.below.block _ g2).trans hY); clear p0 p1 p2 p3 p4 pf pl q0 q1 q2 q3 q4 qf ql hX hY g1 g2; replace hg1 := Lib.hid hg1)
      go_ret
      exact ⟨rfl, hG0.out.trans hg1.out⟩
    · have hv0 : v = 1 := by rw [hv]; rfl
      subst hv0
      clear hv
      replace hc := Lib.hid hc
      go_enter Tryz.func113, Tryz.ntmps113
      go_upto_region 1 with fail
      generalize (w.alloc (.cells #[.int .i64 x1, .int .i64 x2, .int .i64 x3, .int .i64 x4, .bool false] 153 (0, 0))).alloc (.cells #[.int .i64 y1, .int .i64 y2, .int .i64 y3, .int .i64 y4, .bool true] 153 (0, 0)) = v0 at *
      generalize w.heap.size = X at *
      go_wp2_with (go_at_call 114; refine (hc.out _).mono ?_; rintro e w1 ⟨rfl, hg1⟩; obtain ⟨k0, k1, k2, k3, k4, kf, kl⟩ := cells5 (show w1.heap[X]? = some (.cells #[.int .i64 x1, .int .i64 x2, .int .i64 x3, .int .i64 x4, .bool false] 153 (0, 0)) from (hg1.below.block _ g1).trans hX); obtain ⟨j0, j1, j2, j3, j4, jf, jl⟩ := cells5 (show w1.heap[X + 1]? = some (.cells #[.int .i64 y1, .int .i64 y2, .int .i64 y3, .int .i64 y4, .bool true] 153 (0, 0)) from (hg1.below.block _ g2).trans hY); clear p0 p1 p2 p3 p4 pf pl q0 q1 q2 q3 q4 qf ql hX hY g1 g2; replace hg1 := Lib.hid hg1)
      go_ret
      exact ⟨rfl, hG0.out.trans hg1.out⟩
  · cases y5
    · have hv0 : v = -1 := by rw [hv]; rfl
      subst hv0
      clear hv
      replace hc := Lib.hid hc
      go_enter Tryz.func113, Tryz.ntmps113
      go_upto_region 1 with fail
      generalize (w.alloc (.cells #[.int .i64 x1, .int .i64 x2, .int .i64 x3, .int .i64 x4, .bool true] 153 (0, 0))).alloc (.cells #[.int .i64 y1, .int .i64 y2, .int .i64 y3, .int .i64 y4, .bool false] 153 (0, 0)) = v0 at *
      generalize w.heap.size = X at *
      go_wp2_with (go_at_call 114; refine (hc.out _).mono ?_; rintro e w1 ⟨rfl, hg1⟩; obtain ⟨k0, k1, k2, k3, k4, kf, kl⟩ := cells5 (show w1.heap[X]? = some (.cells #[.int .i64 x1, .int .i64 x2, .int .i64 x3, .int .i64 x4, .bool true] 153 (0, 0)) from (hg1.below.block _ g1).trans hX); obtain ⟨j0, j1, j2, j3, j4, jf, jl⟩ := cells5 (show w1.heap[X + 1]? = some (.cells #[.int .i64 y1, .int .i64 y2, .int .i64 y3, .int .i64 y4, .bool false] 153 (0, 0)) from (hg1.below.block _ g2).trans hY); clear p0 p1 p2 p3 p4 pf pl q0 q1 q2 q3 q4 qf ql hX hY g1 g2; replace hg1 := Lib.hid hg1)
      go_ret
      exact ⟨rfl, hG0.out.trans hg1.out⟩
    · have hv0 : v = 0 := by rw [hv]; rfl
      subst hv0
      clear hv
      replace hc := Lib.hid hc
      go_enter Tryz.func113, Tryz.ntmps113
      go_upto_region 1 with fail
      generalize (w.alloc (.cells #[.int .i64 x1, .int .i64 x2, .int .i64 x3, .int .i64 x4, .bool true] 153 (0, 0))).alloc (.cells #[.int .i64 y1, .int .i64 y2, .int .i64 y3, .int .i64 y4, .bool true] 153 (0, 0)) = v0 at *
      generalize w.heap.size = X at *
      go_wp2_with (go_at_call 114; refine (hc.out _).mono ?_; rintro e w1 ⟨rfl, hg1⟩; obtain ⟨k0, k1, k2, k3, k4, kf, kl⟩ := cells5 (show w1.heap[X]? = some (.cells #[.int .i64 x1, .int .i64 x2, .int .i64 x3, .int .i64 x4, .bool true] 153 (0, 0)) from (hg1.below.block _ g1).trans hX); obtain ⟨j0, j1, j2, j3, j4, jf, jl⟩ := cells5 (show w1.heap[X + 1]? = some (.cells #[.int .i64 y1, .int .i64 y2, .int .i64 y3, .int .i64 y4, .bool true] 153 (0, 0)) from (hg1.below.block _ g2).trans hY); clear p0 p1 p2 p3 p4 pf pl q0 q1 q2 q3 q4 qf ql hX hY g1 g2; replace hg1 := Lib.hid hg1)
      go_ret
      exact ⟨rfl, hG0.out.trans hg1.out⟩

/-- a bound within limits -/
abbrev WPk := {x : WPt // BndOk x.2}
instance : Inhabited WPk := ⟨⟨((0, 0), (0, 1, true)), by unfold BndOk; dsimp only; omega⟩⟩
def encY5 (x : WPk) : List Value := wpC x.1
def cfY5 (x y : WPk) : Int := cmpW x.1.2 y.1.2
theorem ltY5 (x y : WPk) : ltOf cfY5 x y = decide (cmpW x.1.2 y.1.2 < 0) := rfl
theorem bndPos {x : Bnd} (h : BndOk x) : posB x := h.2.2.1
theorem swoY5 : SWO (ltOf cfY5) where
  irrefl x := by
    rw [ltY5, decide_eq_false_iff_not]
    exact (cmpW_le (bndPos x.2) (bndPos x.2)).2 (by rcases leW_total x.1.2 x.1.2 with h | h <;> exact h)
  trans x y z h1 h2 := by
    rw [ltY5, decide_eq_true_iff] at *
    rw [cmpW_neg (bndPos x.2) (bndPos y.2)] at h1
    rw [cmpW_neg (bndPos y.2) (bndPos z.2)] at h2
    rw [cmpW_neg (bndPos x.2) (bndPos z.2)]
    rcases h1 with h1 | ⟨h1, h3, h4⟩ <;> rcases h2 with h2 | ⟨h2, h5, h6⟩
    · left; grind
    · left; grind
    · left; grind
    · rw [h4] at h5; cases h5
  ntrans x y z h1 h2 := by
    rw [ltY5, decide_eq_false_iff_not] at *
    have a1 := (cmpW_le (bndPos y.2) (bndPos x.2)).1 h1
    have a2 := (cmpW_le (bndPos z.2) (bndPos y.2)).1 h2
    exact (cmpW_le (bndPos z.2) (bndPos x.2)).2 (leW_trans a2 a1)
theorem cmpLaysW (w : World) (gb size : Nat) : CmpLays Tryz.prog 113 #[] encY5 5 cfY5 gb 0 size w := fun m os dk hs x y => by
  exact cmpWP_any x.1 y.1 _ rfl _ x.2 y.2
theorem flat_valW (d : List WPk) : d.flatMap encY5 = (d.map Subtype.val).flatMap wpC := by
  rw [List.flatMap_map]; rfl
theorem sortWays_any (A : Option Addr) (n c lo : Nat) (D : List WPt) (w : World) (ho : w.ownsRow lo 153 5 (.slice A n c) n (D.flatMap wpC)) (hl : D.length = n) (hn : n ≤ 1000000) (hD : ∀ x ∈ D, BndOk x.2) :
    Calls Tryz.prog 112 #[.slice A n c, .func (.func 113) #[] #[]] w fun e w' =>
      e = .returned (.tuple #[]) ∧ ∃ M : List WPt, M.Perm D ∧ (M.Pairwise fun x y => leW x.2 y.2) ∧ w'.ownsRow lo 153 5 (.slice A n c) n (M.flatMap wpC) ∧ (lo ≤ w.heap.size → Below lo w w') := by
  have hcase : (n = 0 ∧ D = []) ∨ ∃ gb, A = some ⟨gb, 0, none⟩ := by
    by_cases h0 : 0 < n
    · obtain ⟨g, hg, _⟩ := own_at ho h0
      exact .inr ⟨g, hg⟩
    · have : n = 0 := by omega
      subst this
      exact .inl ⟨rfl, List.eq_nil_of_length_eq_zero hl⟩
  rcases hcase with ⟨rfl, rfl⟩ | ⟨gb, rfl⟩
  · refine (sortStable_none stW_lays Tryz.insWay rfl A c _ #[] w).mono ?_
    rintro e w' ⟨rfl, rfl⟩
    exact ⟨rfl, [], .refl _, List.Pairwise.nil, ho, fun _ => Below.refl _ _⟩
  · obtain ⟨D', hD'⟩ : ∃ D' : List WPk, D'.map Subtype.val = D := attach_val D hD
    have hl' : D'.length = n := by rw [← hl, ← hD', List.length_map]
    obtain ⟨hgB, hgl⟩ := ho.lt gb rfl
    have eg : ∀ args w, (callFunc 113 args).run Tryz.prog w = .ok (.enter 113 args) w := enters_of Tryz.func113 (by kernel_rfl) rfl
    refine (sortStable_any stW_lays 5 (by omega) Tryz.isAgg153 Tryz.sizeOf153 encY5 (fun x => wpC_len x.1) (fun x => wpC_one x.1) cfY5 swoY5 _ #[] eg Tryz.insWay rfl rfl lo n c gb 153 D' w (by rw [flat_valW, hD']; exact ho) hl' (by omega) (cmpLaysW w gb n)).mono ?_
    rintro e w' ⟨rfl, M, hp, hs, ho', ht⟩
    refine ⟨rfl, M.map Subtype.val, ?_, ?_, ?_, fun hlo => ht.below hgB hlo⟩
    · rw [← hD']; exact hp.map _
    · rw [List.pairwise_map]
      refine hs.imp fun {x y} h => ?_
      rw [ltY5, decide_eq_false_iff_not] at h
      exact (cmpW_le (bndPos x.2) (bndPos y.2)).1 h
    · rw [← flat_valW]; exact ho'
end Go.Proofs.YtlifiioflkhkoaaGreat

/- The way of a segment through hot points: the program's side. Conditions: as each states. -/
namespace Go.Proofs.YtlifiioflkhkoaaGreat
open Go.RowKit
set_option linter.unusedVariables false
set_option maxRecDepth 100000
set_option linter.unusedSimpArgs false

theorem two_pts {w : World} {g : Nat} {ax ay bx ey : Int} (h : w.heap[g]? = some (.cells #[.int .i64 ax, .int .i64 ay, .int .i64 bx, .int .i64 ey] 28 (0, 0))) : RdS 2 (FlatR ptC) w g (g + 1) (some ⟨g, 0, none⟩) 2 [(ax, ay), (bx, ey)] := by
  refine ⟨rfl, fun _ => ⟨g, 0, rfl, Nat.le_refl _, by omega, ?_⟩⟩
  intro j a hj
  rcases j with _ | _ | j
  · injection hj with hj
    subst hj
    refine ⟨_, rfl, ?_, rfl⟩
    intro i u hu
    rcases i with _ | _ | i
    · injection hu with hu; subst hu; rw [Go.Joins.cell_of_block h]; rfl
    · injection hu with hu; subst hu; rw [Go.Joins.cell_of_block h]; rfl
    · simp [ptC] at hu
  · injection hj with hj
    subst hj
    refine ⟨_, rfl, ?_, rfl⟩
    intro i u hu
    rcases i with _ | _ | i
    · injection hu with hu; subst hu; rw [Go.Joins.cell_of_block h]; rfl
    · injection hu with hu; subst hu; rw [Go.Joins.cell_of_block h]; rfl
    · simp [ptC] at hu
  · simp at hj

theorem elemWay : Elem Tryz.prog 145 153 5 40 := elem_mk (z := .agg #[.int .i64 0, .int .i64 0, .int .i64 0, .int .i64 0, .bool false]) Tryz.underlying145 (by kernel_rfl) rfl (by omega)
def wptL (a b : Pnt) (L : List Pnt) : List WPt := L.map fun p => (p, keyW a b p)
theorem cand_yes {a b p : Pnt} {hot : List Pnt} {k : Nat} (h : hot[k]? = some p) (ho : onW a b p = true) : candF a b (hot.take (k + 1)) = candF a b (hot.take k) ++ [p] := by
  unfold candF
  rw [List.take_add_one, h, List.filter_append]
  simp [ho]
theorem cand_no {a b p : Pnt} {hot : List Pnt} {k : Nat} (h : hot[k]? = some p) (ho : onW a b p = false) : candF a b (hot.take (k + 1)) = candF a b (hot.take k) := by
  unfold candF
  rw [List.take_add_one, h, List.filter_append]
  simp [ho]
theorem cand_none {a b : Pnt} {L : List Pnt} (h : ∀ p ∈ L, onW a b p = false) : candF a b L = [] := by
  unfold candF
  rw [List.filter_eq_nil_iff]
  intro p hp
  rw [h p hp]; simp
theorem cand_rest {a b : Pnt} {hot : List Pnt} {k : Nat} (h : ∀ p ∈ hot.drop k, onW a b p = false) : candF a b hot = candF a b (hot.take k) := by
  have e : candF a b hot = candF a b (hot.take k) ++ candF a b (hot.drop k) := by unfold candF; rw [← List.filter_append, List.take_append_drop]
  rw [e, cand_none h, List.append_nil]
theorem cand_len (a b : Pnt) (L : List Pnt) : (candF a b L).length ≤ L.length := List.length_filter_le _ _
theorem on_low {a b p : Pnt} (h : p.2 < min a.2 b.2 - 1) : onW a b p = false := by
  unfold onW inBx
  rw [decide_eq_false (show ¬ min a.2 b.2 - 1 ≤ p.2 by omega)]; rfl
theorem on_high {a b p : Pnt} (h : max a.2 b.2 + 1 < p.2) : onW a b p = false := by
  unfold onW inBx
  rw [decide_eq_false (show ¬ p.2 ≤ max a.2 b.2 + 1 by omega)]; simp
theorem on_left {a b p : Pnt} (h : p.1 < min a.1 b.1 - 1) : onW a b p = false := by
  unfold onW inBx
  rw [decide_eq_false (show ¬ min a.1 b.1 - 1 ≤ p.1 by omega)]; simp
theorem on_right {a b p : Pnt} (h : max a.1 b.1 + 1 < p.1) : onW a b p = false := by
  unfold onW inBx
  rw [decide_eq_false (show ¬ p.1 ≤ max a.1 b.1 + 1 by omega)]; simp
theorem on_box {a b p : Pnt} (h1 : min a.2 b.2 - 1 ≤ p.2) (h2 : p.2 ≤ max a.2 b.2 + 1) (h3 : min a.1 b.1 - 1 ≤ p.1) (h4 : p.1 ≤ max a.1 b.1 + 1) : onW a b p = (walkF a b p).2 := by
  unfold onW inBx
  rw [decide_eq_true h1, decide_eq_true h2, decide_eq_true h3, decide_eq_true h4]; rfl
theorem walk_ok {a b p : Pnt} (ha : pt2Ok a = true) (hb : pt2Ok b = true) (hp : pt2Ok p = true) : BndOk (keyW a b p) := by
  obtain ⟨⟨a1, a2⟩, a3, a4⟩ := ptOk_iff.1 ha
  obtain ⟨⟨b1, b2⟩, b3, b4⟩ := ptOk_iff.1 hb
  obtain ⟨⟨p1, p2⟩, p3, p4⟩ := ptOk_iff.1 hp
  have h1 := clip_ok (W := unitB) (f := 2 * a.1) (d := 2 * (b.1 - a.1)) (l := 2 * p.1 - 1) unit_ok.1 unit_ok.2 (by omega) (by omega) (by omega)
  unfold keyW walkF
  split
  · exact (clip_ok h1.1 h1.2 (by omega) (by omega) (by omega)).1
  · exact h1.1
theorem way_pts {a b : Pnt} {hot : List Pnt} {M : List WPt} (h1 : M.Perm (wptL a b (candF a b hot))) (h2 : M.Pairwise fun x y => leW x.2 y.2) : M.map Prod.fst = wayL a b hot := by
  have hm : ∀ x ∈ M, x.2 = keyW a b x.1 := fun x hx => by
    obtain ⟨p, _, rfl⟩ := List.mem_map.1 (h1.mem_iff.1 hx); rfl
  refine way_is ?_ ?_
  · have := h1.map Prod.fst
    rwa [wptL, List.map_map, show (Prod.fst ∘ fun p => (p, keyW a b p)) = id from rfl, List.map_id] at this
  · rw [List.pairwise_map]
    refine List.Pairwise.imp_of_mem ?_ h2
    intro x y hx hy h
    rw [← hm x hx, ← hm y hy]; exact h

theorem own_down {w : World} {base base' size n : Nat} {e : TypeId} {v : Value} {xs : List Value} (h : w.ownsRow base e size v n xs) (hb : base' ≤ base) : w.ownsRow base' e size v n xs := by
  refine ⟨h.1, ?_⟩
  rcases h.2 with h | ⟨g, cap, cur, h1, h2, h3⟩
  · exact .inl h
  · exact .inr ⟨g, cap, cur, h1, by omega, h3⟩

set_option maxHeartbeats 16000000 in
theorem snapEdge_any (a b : Pnt) (A : Option Addr) (n c lo hi : Nat) (hot W : List Pnt) (hW : W = wayL a b hot) (w : World) (hr : RdS 2 (FlatR ptC) w lo hi A n hot) (hhi : hi ≤ w.heap.size) (hn0 : 1 ≤ n) (hn : n ≤ 1000) (hcap : n ≤ c) (hris : hot.Pairwise fun p q => p.2 ≤ q.2) (hok : ∀ p ∈ hot, pt2Ok p = true) (ha : pt2Ok a = true) (hb : pt2Ok b = true) :
    Calls Tryz.prog 95 #[.agg #[.int .i64 a.1, .int .i64 a.2], .agg #[.int .i64 b.1, .int .i64 b.2], .slice A n c] w fun e w' => ∃ (A' : Option Addr) (c' : Nat), e = .returned (.slice A' W.length c') ∧ w'.ownsRow w.heap.size 28 2 (.slice A' W.length c') W.length (W.flatMap ptC) ∧ Below w.heap.size w w' := by
  have hll := Lib.hid hr.1
  have hwalk := Lib.hid (fun p C (hC : C = walkF a b p) W hp => walkPixel_any a b p C hC W ha hb hp)
  have hbok := Lib.hid (fun p hp => walk_ok ha hb (hok p hp))
  obtain ⟨⟨a1, a2⟩, a3, a4⟩ := ptOk_iff.1 ha
  obtain ⟨⟨b1, b2⟩, b3, b4⟩ := ptOk_iff.1 hb
  have honlow := Lib.hid (fun p h => on_low (a := a) (b := b) (p := p) h)
  have honhigh := Lib.hid (fun p h => on_high (a := a) (b := b) (p := p) h)
  have honleft := Lib.hid (fun p h => on_left (a := a) (b := b) (p := p) h)
  have honright := Lib.hid (fun p h => on_right (a := a) (b := b) (p := p) h)
  have honbox := Lib.hid (fun p h1 h2 h3 h4 => on_box (a := a) (b := b) (p := p) h1 h2 h3 h4)
  obtain ⟨C, hC⟩ : ∃ C, C = candF a b hot := ⟨_, rfl⟩
  have hway := Lib.hid (fun M (h1 : M.Perm (wptL a b C)) h2 => hW.trans (way_pts (a := a) (b := b) (hot := hot) (M := M) (hC ▸ h1) h2).symm)
  clear hW ha hb
  replace hC := Lib.hid hC
  obtain ⟨ax, ay⟩ := a
  obtain ⟨bx, ey⟩ := b
  dsimp only at *
  obtain ⟨l1, hl1⟩ : ∃ x, x = min ax bx := ⟨_, rfl⟩
  obtain ⟨l2, hl2⟩ : ∃ x, x = min ay ey := ⟨_, rfl⟩
  obtain ⟨u1, hu1⟩ : ∃ x, x = max ax bx := ⟨_, rfl⟩
  obtain ⟨u2, hu2⟩ : ∃ x, x = max ay ey := ⟨_, rfl⟩
  rw [← hl2] at honlow
  rw [← hu2] at honhigh
  rw [← hl1] at honleft
  rw [← hu1] at honright
  rw [← hl1, ← hl2, ← hu1, ← hu2] at honbox
  have g1 : -262144 ≤ l1 ∧ l1 ≤ 262144 := by omega
  have g2 : -262144 ≤ l2 ∧ l2 ≤ 262144 := by omega
  have g3 : -262144 ≤ u1 ∧ u1 ≤ 262144 := by omega
  have g4 : -262144 ≤ u2 ∧ u2 ≤ 262144 := by omega
  clear a1 a2 a3 a4 b1 b2 b3 b4
  have hbd := Lib.hid (show ∀ (g : Nat) (V : World), V.heap[g]? = some (.cells #[.int .i64 ax, .int .i64 ay, .int .i64 bx, .int .i64 ey] 28 (0, 0)) → Calls Tryz.prog 108 #[.slice (some ⟨g, 0, none⟩) 2 2] V fun e w' => e = .returned (.tuple #[.agg #[.int .i64 l1, .int .i64 l2], .agg #[.int .i64 u1, .int .i64 u2]]) ∧ Below V.heap.size V w' from fun g V h => by
    refine (boundsOf2_any g g (g + 1) _ V (two_pts h) (by have := (Array.getElem?_eq_some_iff.1 h).1; omega)).mono ?_
    rintro e w' ⟨a, b, c, d, rfl, hbx, hbl⟩
    obtain ⟨e1, e2, e3, e4⟩ := BoxF.two rfl hbx
    rw [e1, e2, e3, e4, hl1, hl2, hu1, hu2]
    exact ⟨rfl, hbl⟩)
  clear hl1 hl2 hu1 hu2
  have k2 : IntKind.i64.wrap (l2 - 1) = l2 - 1 := wi (by omega)
  have k1 : IntKind.i64.wrap (l1 - 1) = l1 - 1 := wi (by omega)
  have k3 : IntKind.i64.wrap (u1 + 1) = u1 + 1 := wi (by omega)
  have k4 : IntKind.i64.wrap (u2 + 1) = u2 + 1 := wi (by omega)
  have hbin := Lib.hid (fun V hV hh => binY_any (l2 - 1) A n c lo hi hot hris hok (by omega) V hV hh (by omega))
  have hb0 := Go.Joins.below_alloc2 w (.cells #[.int .i64 ax, .int .i64 ay] 28 (0, 0)) (.cells #[.int .i64 bx, .int .i64 ey] 28 (0, 0))
  have hnew := heap_new2 w (.cells #[.int .i64 ax, .int .i64 ay] 28 (0, 0)) (.cells #[.int .i64 bx, .int .i64 ey] 28 (0, 0))
  have hz0 : ((w.alloc (.cells #[.int .i64 ax, .int .i64 ay] 28 (0, 0))).alloc (.cells #[.int .i64 bx, .int .i64 ey] 28 (0, 0))).heap.size = w.heap.size + 2 := by simp
  go_enter Tryz.func95, Tryz.ntmps95
  go_upto_region 1 with fail
  generalize (w.alloc (.cells #[.int .i64 ax, .int .i64 ay] 28 (0, 0))).alloc (.cells #[.int .i64 bx, .int .i64 ey] 28 (0, 0)) = v0 at *
  obtain ⟨Y, hY⟩ : ∃ Y, Y = w.heap.size := ⟨_, rfl⟩
  rw [← hY] at hnew hz0 ⊢
  obtain ⟨hP, hQ⟩ := hnew
  replace hP : PB v0 Y ax ay := hP
  replace hQ : PB v0 (Y + 1) bx ey := hQ
  obtain ⟨p0, p1, pf, pl⟩ := hP.cells
  obtain ⟨q0, q1, qf, ql⟩ := hQ.cells
  have hPH := Lib.hid hP
  have hQH := Lib.hid hQ
  have hr0 := Lib.hid (hr.frame (good_flat _) (Below.sameB hb0 hhi))
  have hB0 := Lib.hid hb0
  have hYw := Lib.hid hY
  have hsz : hi ≤ v0.heap.size := by omega
  clear hr hP hQ hb0 hY hhi
  have hbd2 := Lib.hid (hbd.out (Y + 2) (v0.alloc (.cells #[.int .i64 ax, .int .i64 ay, .int .i64 bx, .int .i64 ey] 28 (0, 0))) (by rw [← hz0]; exact heap_alloc_new _ _))
  clear hbd
  go_upto_region 2 with (go_at_call 108; refine hbd2.out.mono ?_; rintro e w1 ⟨rfl, hb1⟩; replace hb1 := Lib.hid ((Go.Joins.below_alloc1 v0 _).trans (hb1.mono (by simp))))
  have hz1 := hb1.out.size
  have hbb := Lib.hid (hb1.out.trans ((Go.Joins.below_alloc2 w1 (.cells #[.int .i64 l1, .int .i64 l2] 28 (0, 0)) (.cells #[.int .i64 u1, .int .i64 u2] 28 (0, 0))).mono (by omega)))
  have hnw := heap_new2 w1 (.cells #[.int .i64 l1, .int .i64 l2] 28 (0, 0)) (.cells #[.int .i64 u1, .int .i64 u2] 28 (0, 0))
  have hz2 : ((w1.alloc (.cells #[.int .i64 l1, .int .i64 l2] 28 (0, 0))).alloc (.cells #[.int .i64 u1, .int .i64 u2] 28 (0, 0))).heap.size = w1.heap.size + 2 := by simp
  generalize (w1.alloc (.cells #[.int .i64 l1, .int .i64 l2] 28 (0, 0))).alloc (.cells #[.int .i64 u1, .int .i64 u2] 28 (0, 0)) = v2 at *
  generalize w1.heap.size = Z at *
  obtain ⟨hL, hU⟩ := hnw
  replace hL : PB v2 Z l1 l2 := hL
  replace hU : PB v2 (Z + 1) u1 u2 := hU
  obtain ⟨s0, s1, sf, sl⟩ := hL.cells
  obtain ⟨t0, t1, tf, tl⟩ := hU.cells
  have hr2 := hr0.out.frame (good_flat _) (Below.sameB hbb.out hsz)
  have hbin2 := Lib.hid (hbin.out v2 hr2 (by omega))
  obtain ⟨b, off, rfl, hb0, hb, hcs⟩ := hr2.pts (by omega)
  have hLH := Lib.hid hL
  have hUH := Lib.hid hU
  have hr2H := Lib.hid hr2
  clear hbin hL hU hr2 hb1 p0 p1 pf q0 q1 qf hbd2 hcs t0
  go_upto_region 4 with (go_at_call 109; refine hbin2.out.mono ?_; rintro e w3 ⟨f, t, rfl, hfn, hlo, hup, hb3⟩; replace hlo := Lib.hid hlo; replace hup := Lib.hid hup; replace hb3 := Lib.hid hb3; have hf0 : (0 : Int) ≤ (f : Int) ∧ (f : Int) ≤ (n : Int) := (by omega); have hf1 : (f : Int) ≤ (c : Int) := (by omega); have hf2 : (n : Int) ≤ (c : Int) := (by omega))
  obtain ⟨m, hm⟩ : ∃ m, m = n - f := ⟨_, rfl⟩
  go_cut [36, 37, 38] (fun s36 s37 s38 wx => ∃ (o c' : Nat), s36 = .slice (some ⟨b, o, none⟩) m c' ∧ (0 < m → o = off + f * 2) ∧ s37 = .int .i64 m ∧ s38 = .int .i64 0 ∧ w3 = wx)
  case first =>
    by_cases hfc : c - f = 0
    · go_wp2_with fail
      go_meet
      case rel => exact ⟨_, _, by rw [hm], fun h => by omega, by rw [hm], rfl, rfl⟩
    · go_wp2_with fail
      go_meet
      case rel => exact ⟨_, _, by rw [hm], fun _ => rfl, by rw [hm], rfl, rfl⟩
  obtain ⟨o, c', rfl, ho, rfl, rfl, hwx⟩ := hcut
  subst hwx
  have hmn : f + m ≤ n ∧ n ≤ f + m := by omega
  replace hm := Lib.hid hm
  go_upto_block 0 with fail
  have hz3 := hb3.out.size
  have hP3 := Lib.hid ((hPH.out.below hbb.out).below hb3.out)
  have hQ3 := Lib.hid ((hQH.out.below hbb.out).below hb3.out)
  have hL3 := Lib.hid (hLH.out.below hb3.out)
  have hU3 := Lib.hid (hUH.out.below hb3.out)
  have hr3 := Lib.hid (hr2H.out.frame (good_flat _) (Below.sameB hb3.out (by omega)))
  have hB3 := Lib.hid (hB0.out.trans ((hbb.out.trans (hb3.out.mono hbb.out.size)).mono (by have := hYw.out; omega)))
  have hr3s : hi ≤ w3.heap.size := by have := hbb.out.size; omega
  have hw3s := hB3.out.size
  clear s0 s1 sf sl tf tl pl ql hz1 hz2 hz0 hbb hb3 hB0 hbin2 hb0 hPH hQH hLH hUH hr0 hr2H k2
  go_cut [11] (fun s11 wx => ∃ (q : Nat) (A1 : Option Addr) (c1 : Nat), s11 = .slice A1 q c1 ∧ q ≤ 1000 ∧ Hid (q = C.length) ∧ Hid (wx.ownsRow w3.heap.size 153 5 (.slice A1 q c1) q ((wptL (ax, ay) (bx, ey) C).flatMap wpC)) ∧ Below w3.heap.size w3 wx)
  case first =>
    go_wp2_with fail
    go_loopg [11, 38] m (fun kx s11 iv wr => ∃ (k q : Nat) (A1 : Option Addr) (c1 : Nat), iv = .int .i64 k ∧ s11 = .slice A1 q c1 ∧ k ≤ m ∧ m - k ≤ kx ∧ q ≤ k ∧ Hid (q = (candF (ax, ay) (bx, ey) (hot.take (f + k))).length) ∧ Hid (wr.ownsRow w3.heap.size 153 5 (.slice A1 q c1) q ((wptL (ax, ay) (bx, ey) (candF (ax, ay) (bx, ey) (hot.take (f + k)))).flatMap wpC)) ∧ Below w3.heap.size w3 wr)
    case atStart =>
      have h0 : candF (ax, ay) (bx, ey) (hot.take (f + 0)) = [] := by
        refine cand_none fun p hp => honlow.out p ?_
        obtain ⟨j, hj⟩ := List.getElem?_of_mem hp
        have hjl := (List.getElem?_eq_some_iff.1 hj).1
        rw [List.length_take] at hjl
        rw [List.getElem?_take_of_lt (by omega)] at hj
        have h1 := hlo.out j (by omega)
        unfold atY ptAt at h1
        rw [List.getD_eq_getElem?_getD, hj] at h1
        exact h1
      refine ⟨0, 0, none, 0, rfl, rfl, Nat.zero_le _, Nat.le_refl _, Nat.le_refl _, ?_, ?_, Below.refl _ _⟩
      · rw [h0]; exact Lib.hid rfl
      · rw [h0]; exact Lib.hid (World.ownsRow_nil _ _ _ _)
    case round =>
    obtain ⟨k, q, A1, c1, rfl, rfl, hk, hkx, hqk, hq, hown, hbx⟩ := hrel
    generalize wr = xr at *
    have hzx := hbx.size
    by_cases hlt : k < m
    rotate_left
    · have hki : ¬ (k : Int) < (m : Int) := by omega
      go_wp2_with fail
      go_meet
      case rel =>
        have h0 : hot.take (f + k) = hot := List.take_of_length_le (by have := hll.out; omega)
        rw [h0, ← hC.out] at hq hown
        exact ⟨q, A1, c1, rfl, by omega, hq, hown, hbx⟩
    have hki : (k : Int) < (m : Int) := by omega
    have i1 : (0 : Int) ≤ (k : Int) ∧ (k : Int) < (m : Int) := by omega
    obtain ⟨b', off', hbe, _, hbb, hcs⟩ := (hr3.out.frame (good_flat _) (Below.sameB hbx hr3s)).pts (by omega)
    injection hbe with hbe
    injection hbe with hbe1 hbe2
    subst hbe1 hbe2
    obtain ⟨d0, d1⟩ := hcs (f + k) (by omega)
    rw [show off + (f + k) * 2 = o + k * 2 by have := ho (by omega); omega] at d0 d1
    obtain ⟨⟨px, py⟩, hp⟩ : ∃ p, p = ptAt hot (f + k) := ⟨_, rfl⟩
    have hja : hot[f + k]? = some (px, py) := by
      rw [hp]; unfold ptAt
      rw [List.getD_eq_getElem?_getD, List.getElem?_eq_getElem (by have := hll.out; omega)]; rfl
    have hpo := hok _ (List.mem_of_getElem? hja)
    have hlow : l2 - 1 ≤ py := by
      have := hup.out (f + k) (by omega) (by omega)
      unfold atY at this
      rw [← hp] at this; exact this
    rw [← hp] at d0 d1
    dsimp only at d0 d1
    obtain ⟨⟨y1, y2⟩, y3, y4⟩ := ptOk_iff.1 hpo
    dsimp only at y1 y2 y3 y4
    have hbw : b < xr.heap.size := by omega
    have hL5 := (hL3.out.below hbx)
    have hU5 := (hU3.out.below hbx)
    have hP5 := (hP3.out.below hbx)
    have hQ5 := (hQ3.out.below hbx)
    have hjaH := Lib.hid hja
    have hal := Go.Joins.below_alloc1 xr (.cells #[.int .i64 px, .int .i64 py] 28 (0, 0))
    have hpb : PB (xr.alloc (.cells #[.int .i64 px, .int .i64 py] 28 (0, 0))) xr.heap.size px py := heap_alloc_new xr _
    have hp7 : (xr.alloc (.cells #[.int .i64 px, .int .i64 py] 28 (0, 0))).heap.size = xr.heap.size + 1 := by simp
    have hL7 := hL5.below hal
    have hU7 := hU5.below hal
    have hP7 := hP5.below hal
    have hQ7 := hQ5.below hal
    have HO7 := Lib.hid (own_below hown.out hal)
    have hb7 := Lib.hid (hbx.trans (hal.mono hzx))
    clear hcs hp hja hL5 hU5 hP5 hQ5 hal
    go_upto_region 7 with fail
    clear d0 d1
    generalize xr.alloc (.cells #[.int .i64 px, .int .i64 py] 28 (0, 0)) = w7 at *
    obtain ⟨P, hPe⟩ : ∃ P, P = xr.heap.size := ⟨_, rfl⟩
    rw [← hPe] at hpb hp7 hzx hbw ⊢
    obtain ⟨e0, e1, ef, el⟩ := hpb.cells
    obtain ⟨s0, s1, sf, sl⟩ := hL7.cells
    obtain ⟨t0, t1, tf, tl⟩ := hU7.cells
    obtain ⟨j0, j1, jf, jl⟩ := hP7.cells
    obtain ⟨m0, m1, mf, ml⟩ := hQ7.cells
    have hz7 := hb7.out.size
    have hpbH := Lib.hid hpb
    replace hPe := Lib.hid hPe
    clear hpb hL7 hU7 hP7 hQ7 hp7
    by_cases hbr : u2 + 1 < py
    · go_wp2_with fail
      go_meet
      case rel =>
        have h0 : candF (ax, ay) (bx, ey) hot = candF (ax, ay) (bx, ey) (hot.take (f + k)) := by
          refine cand_rest fun p hp => honhigh.out p ?_
          obtain ⟨j, hj⟩ := List.getElem?_of_mem hp
          rw [List.getElem?_drop] at hj
          have hjl := (List.getElem?_eq_some_iff.1 hj).1
          have h1 := ris_atY hris (show f + k ≤ f + k + j by omega) hjl
          unfold atY ptAt at h1
          rw [List.getD_eq_getElem?_getD, List.getD_eq_getElem?_getD, hj, hjaH.out] at h1
          have : py ≤ p.2 := h1
          omega
        rw [← h0, ← hC.out] at hq HO7
        exact ⟨q, A1, c1, rfl, by omega, hq, HO7, hb7.out⟩
    by_cases h1 : px < l1 - 1
    · have hno := cand_no hjaH.out (honleft.out (px, py) h1)
      replace hno := Lib.hid hno
      go_wp2_with fail
      go_roundg (m - (k + 1))
      case measure => omega
      case rel => exact ⟨k + 1, q, A1, c1, by go_num, rfl, by omega, Nat.le_refl _, by omega, by rw [← Nat.add_assoc, hno.out]; exact hq, by rw [← Nat.add_assoc, hno.out]; exact HO7, hb7.out⟩
    by_cases h2 : u1 + 1 < px
    · have hno := cand_no hjaH.out (honright.out (px, py) h2)
      replace hno := Lib.hid hno
      go_wp2_with fail
      go_roundg (m - (k + 1))
      case measure => omega
      case rel => exact ⟨k + 1, q, A1, c1, by go_num, rfl, by omega, Nat.le_refl _, by omega, by rw [← Nat.add_assoc, hno.out]; exact hq, by rw [← Nat.add_assoc, hno.out]; exact HO7, hb7.out⟩
    have hon := honbox.out (px, py) hlow (by dsimp only; omega) (by dsimp only; omega) (by dsimp only; omega)
    obtain ⟨D, hD⟩ : ∃ D, D = walkF (ax, ay) (bx, ey) (px, py) := ⟨_, rfl⟩
    have hwk := Lib.hid (fun V => hwalk.out (px, py) D hD V hpo)
    rw [← hD] at hon
    have hkey : keyW (ax, ay) (bx, ey) (px, py) = D.1.1 := by unfold keyW; rw [← hD]
    clear hD
    obtain ⟨⟨⟨z1, z2, z3⟩, z4, z5, z6⟩, kk⟩ := D
    dsimp only at hwk hon hkey
    replace hkey := Lib.hid hkey
    cases kk
    · have hno := Lib.hid (cand_no hjaH.out hon)
      clear hon
      go_wp2_with (go_at_call 111; refine (hwk.out _).mono ?_; rintro e w8 ⟨rfl, hb8⟩)
      go_roundg (m - (k + 1))
      case measure => omega
      case rel => exact ⟨k + 1, q, A1, c1, by go_num, rfl, by omega, Nat.le_refl _, by omega, by rw [← Nat.add_assoc, hno.out]; exact hq, by rw [← Nat.add_assoc, hno.out]; exact Lib.hid ((own_below HO7.out hb8).alloc _), (hb7.out.trans (hb8.mono hz7)).alloc (by have := hb8.size; omega) _⟩
    · have hyes := Lib.hid (cand_yes hjaH.out hon)
      clear hon
      have hq1 : q ≤ 1000 := by omega
      go_wp2_with (first | (go_at_call 111; refine (hwk.out _).mono ?_; rintro e w8 ⟨rfl, hb8⟩; obtain ⟨n0, n1, nf, nl⟩ := PB.cells (hpbH.out.below hb8); have HO8 := Lib.hid (own_below HO7.out hb8); have hb9 := Lib.hid (hb7.out.trans (hb8.mono hz7)); have hz8 := hb8.size; clear e0 e1 ef el s0 s1 sf sl t0 t1 tf tl j0 j1 jf jl m0 m1 mf ml hb8) | (at_builtin; refine wpApp rfl (.tmp 70) (.tmp 75) elemWay rfl (v := .slice A1 q c1) (n := q) (xs := (wptL (ax, ay) (bx, ey) (candF (ax, ay) (bx, ey) (hot.take (f + k)))).flatMap wpC) rfl ((HO8.out.alloc _).alloc _) rfl (src_at (cs := [.int .i64 px, .int .i64 py, .int .i64 z1, .int .i64 z2, .bool z3]) rfl (by simp [Value.oneCell']) (by simp)) (by omega) (by omega) (by simp; omega) (q + 1) rfl ?_; intro A8 c8 w9 ho9 hb10; replace ho9 := Lib.hid ho9))
      go_roundg (m - (k + 1))
      case measure => omega
      case rel =>
        refine ⟨k + 1, q + 1, A8, c8, by go_num, rfl, by omega, Nat.le_refl _, by omega, ?_, ?_, ((hb9.out.alloc (by omega) _).alloc (by simp; try omega) _).trans (hb10.mono (by simp; try omega))⟩
        · rw [← Nat.add_assoc, hyes.out, List.length_append, ← hq.out]; exact Lib.hid rfl
        · rw [← Nat.add_assoc, hyes.out]
          unfold wptL
          rw [List.map_append, List.flatMap_append]
          unfold wptL at ho9
          refine Lib.hid ?_
          have h9 := ho9.out
          rw [List.map_cons, List.map_nil, hkey.out]
          exact h9
  obtain ⟨q, A1, c1, rfl, hq9, hq, hown, hbc⟩ := hcut
  generalize wc = w4 at *
  have hz4 := hbc.size
  have hDok : ∀ x ∈ wptL (ax, ay) (bx, ey) C, BndOk x.2 := by
    intro x hx
    obtain ⟨p, hp, rfl⟩ := List.mem_map.1 hx
    rw [hC.out] at hp
    exact hbok.out p (cand_mem.1 hp).1
  have hDl : (wptL (ax, ay) (bx, ey) C).length = q := by unfold wptL; rw [List.length_map, ← hq.out]
  have hs := Lib.hid (sortWays_any A1 q c1 _ _ w4 hown.out hDl (by omega) hDok)
  have hB4 := Lib.hid (hB3.out.trans (hbc.mono hw3s))
  have hDl' := Lib.hid hDl
  clear hDok hDl hown hbc hP3 hQ3 hL3 hU3 hr3 hlo hup hwalk honlow honhigh honleft honright honbox
  go_wp2_with (go_at_call 112; refine hs.out.mono ?_; rintro e w5 ⟨rfl, M, hM1, hM2, ho5, hb5⟩; replace hM1 := Lib.hid hM1; replace hM2 := Lib.hid hM2; replace ho5 := Lib.hid ho5; replace hb5 := Lib.hid hb5)
  have hMl : M.length = q := by rw [hM1.out.length_eq]; exact hDl'.out
  have hWM := hway.out M hM1.out hM2.out
  have hWl : W.length = q := by rw [hWM, List.length_map]; exact hMl
  have hb5' := hb5.out hz4
  have hz5 := hb5'.size
  have hM := Lib.hid (rdS_own wpC_len (by omega) ho5.out hMl)
  have hB5 := Lib.hid (hB4.out.trans (hb5'.mono hw3s))
  have hzw5 := hB5.out.size
  replace hWM := Lib.hid hWM
  clear hs ho5 hb5 hb5' hM1 hM2 hway
  go_loopg [16, 82] q (fun kx s16 iv wr => ∃ (k : Nat) (A2 : Option Addr) (c2 : Nat), iv = .int .i64 k ∧ s16 = .slice A2 k c2 ∧ k ≤ q ∧ q - k ≤ kx ∧ Hid (wr.ownsRow w5.heap.size 28 2 (.slice A2 k c2) k ((W.take k).flatMap ptC)) ∧ Below w5.heap.size w5 wr)
  case atStart => exact ⟨0, none, 0, rfl, rfl, Nat.zero_le _, Nat.le_refl _, Lib.hid (World.ownsRow_nil _ _ _ _), Below.refl _ _⟩
  case round =>
  obtain ⟨k, A2, c2, rfl, rfl, hk, hkx, hown, hbx⟩ := hrel
  generalize wr = xr at *
  have hzx := hbx.size
  by_cases hlt : k < q
  rotate_left
  · have hkq : k = q := by omega
    have hki : ¬ (k : Int) < (q : Int) := by omega
    go_wp2_with fail
    go_ret
    have h9 := hown.out
    rw [hkq, List.take_of_length_le (by omega)] at h9
    refine ⟨A2, c2, by rw [← hkq]; rfl, own_down h9 (by omega), hB5.out.trans (hbx.mono (by omega))⟩
  have hki : (k : Int) < (q : Int) := by omega
  have i1 : (0 : Int) ≤ (k : Int) ∧ (k : Int) < (q : Int) := by omega
  obtain ⟨g, og, x, hA, hg1, hg2, hja, hcs⟩ := (hM.out.frame (good_flat _) (Below.sameB hbx (Nat.le_refl _))).at hlt
  subst hA
  obtain ⟨⟨px, py⟩, x3, x4, x5⟩ := x
  have c0 := hcs 0 _ rfl
  have c1' := hcs 1 _ rfl
  have c2' := hcs 2 _ rfl
  have c3 := hcs 3 _ rfl
  have c4 := hcs 4 _ rfl
  simp only [Nat.add_zero] at c0
  dsimp only at c0 c1' c2' c3 c4
  have hgw : g < xr.heap.size := by omega
  have hWk : W[k]? = some (px, py) := by rw [hWM.out, List.getElem?_map, hja]; rfl
  have hWn : W.take (k + 1) = W.take k ++ [(px, py)] := by rw [List.take_add_one, hWk]; rfl
  replace hWn := Lib.hid hWn
  clear hcs hja hWk hg2 hg1
  go_wp2_with (at_builtin; refine wpApp rfl (.tmp 86) (.tmp 89) elemPt rfl (v := .slice A2 k c2) (n := k) (xs := (W.take k).flatMap ptC) rfl ((hown.out.alloc _).alloc _) rfl (src_at (cs := [.int .i64 px, .int .i64 py]) rfl (by simp [Value.oneCell']) (by simp)) (by omega) (by omega) (by simp; try omega) (k + 1) rfl ?_; intro A8 c8 w9 ho9 hb10; replace ho9 := Lib.hid ho9; replace hb10 := Lib.hid hb10)
  go_roundg (q - (k + 1))
  case measure => omega
  case rel =>
    refine ⟨k + 1, A8, c8, by go_num, rfl, by omega, Nat.le_refl _, ?_, ((hbx.alloc (by omega) _).alloc (by simp; try omega) _).trans (hb10.out.mono (by simp; try omega))⟩
    rw [hWn.out, List.flatMap_append]
    exact ho9
end Go.Proofs.YtlifiioflkhkoaaGreat

