/- Parts before what they are parts of: the order and the depths, in numbers alone. No program in sight. Conditions: as each states. -/
import Derived.StillTail
import Derived.Deep.RegionHeld3
import Derived.Test.YtgdkabljgabjoaaGreatDoorGw01
import Derived.Test.YtgdkabljgabjoaaGreatDoorGw07
import Derived.Test.YtgdkabljgabjoaaGreatDoorGw09
namespace Go.Proofs.YtgdkabljgabjoaaGreatDoor
set_option linter.unusedVariables false
set_option maxRecDepth 100000

def stepO (T : List (List Int)) (out : List Int) (i : Nat) : List Int := match T[i]? with
  | none => out
  | some ps => if (i : Int) ∈ out then out else if ∀ p ∈ ps, p ∈ out then out ++ [(i : Int)] else out
def passK (T : List (List Int)) (out : List Int) : Nat → List Int
  | 0 => out
  | k + 1 => stepO T (passK T out k) k
def orderF (T : List (List Int)) : Nat → List Int → List Int
  | 0, out => out
  | f + 1, out => if (passK T out T.length).length = out.length then out else orderF T f (passK T out T.length)
def order (T : List (List Int)) : List Int := orderF T (T.length + 1) []

structure Ord (T : List (List Int)) (out : List Int) : Prop where
  nodup : out.Nodup
  rng : ∀ x ∈ out, 0 ≤ x ∧ x.toNat < T.length
  ready : ∀ (t : Nat) (x : Int), out[t]? = some x → ∀ ps, T[x.toNat]? = some ps → ∀ p ∈ ps, p ∈ out.take t
theorem Ord.nil (T : List (List Int)) : Ord T [] := ⟨List.nodup_nil, fun x h => by simp at h, fun t x h => by simp at h⟩
theorem stepO_in {T : List (List Int)} {out : List Int} {i : Nat} (h : (i : Int) ∈ out) : stepO T out i = out := by
  unfold stepO; split <;> simp [h]
theorem stepO_wait {T : List (List Int)} {out : List Int} {i : Nat} {ps : List Int} (hi : T[i]? = some ps) (h : ¬ ∀ p ∈ ps, p ∈ out) : stepO T out i = out := by
  unfold stepO; rw [hi]; simp only; rw [if_neg h]; split <;> rfl
theorem stepO_add {T : List (List Int)} {out : List Int} {i : Nat} {ps : List Int} (hi : T[i]? = some ps) (h0 : (i : Int) ∉ out) (h : ∀ p ∈ ps, p ∈ out) : stepO T out i = out ++ [(i : Int)] := by
  unfold stepO; rw [hi]; simp only; rw [if_neg h0, if_pos h]
theorem stepO_cases (T : List (List Int)) (out : List Int) (i : Nat) : stepO T out i = out ∨ ∃ ps, T[i]? = some ps ∧ (i : Int) ∉ out ∧ (∀ p ∈ ps, p ∈ out) ∧ stepO T out i = out ++ [(i : Int)] := by
  cases hi : T[i]? with
  | none => left; unfold stepO; rw [hi]
  | some ps =>
    by_cases h0 : (i : Int) ∈ out
    · exact .inl (stepO_in h0)
    · by_cases h : ∀ p ∈ ps, p ∈ out
      · exact .inr ⟨ps, rfl, h0, h, stepO_add hi h0 h⟩
      · exact .inl (stepO_wait hi h)
theorem Ord.step {T : List (List Int)} {out : List Int} (h : Ord T out) (i : Nat) : Ord T (stepO T out i) := by
  rcases stepO_cases T out i with e | ⟨ps, hi, h0, hp, e⟩
  · rw [e]; exact h
  · rw [e]
    have hil := (List.getElem?_eq_some_iff.1 hi).1
    refine ⟨?_, ?_, ?_⟩
    · rw [List.nodup_append]
      refine ⟨h.nodup, by simp, fun a ha b hb => ?_⟩
      simp at hb; subst hb; rintro rfl; exact h0 ha
    · intro x hx
      rcases List.mem_append.1 hx with hx | hx
      · exact h.rng x hx
      · simp at hx; subst hx; exact ⟨by omega, by simpa using hil⟩
    · intro t x ht ps' hps p hpp
      rcases Nat.lt_or_ge t out.length with hlt | hge
      · rw [List.getElem?_append_left hlt] at ht
        rw [List.take_append_of_le_length (by omega)]
        exact h.ready t x ht ps' hps p hpp
      · rw [List.getElem?_append_right hge] at ht
        have h1 : t - out.length = 0 := by
          rcases Nat.eq_zero_or_pos (t - out.length) with h | h
          · exact h
          · rw [List.getElem?_eq_none (by simp; omega)] at ht; cases ht
        rw [h1] at ht
        simp at ht
        subst ht
        rw [Int.toNat_natCast, hi] at hps
        injection hps with hps
        subst hps
        have : t = out.length := by omega
        subst this
        rw [List.take_left]
        exact hp p hpp
theorem Ord.passK {T : List (List Int)} {out : List Int} (h : Ord T out) (k : Nat) : Ord T (passK T out k) := by
  induction k with
  | zero => exact h
  | succ k ih => exact ih.step k
theorem stepO_pre (T : List (List Int)) (out : List Int) (i : Nat) : ∃ s, stepO T out i = out ++ s := by
  rcases stepO_cases T out i with e | ⟨ps, hi, h0, hp, e⟩
  · exact ⟨[], by rw [e]; simp⟩
  · exact ⟨_, e⟩
theorem passK_pre (T : List (List Int)) (out : List Int) (k : Nat) : ∃ s, passK T out k = out ++ s := by
  induction k with
  | zero => exact ⟨[], by simp [passK]⟩
  | succ k ih =>
    obtain ⟨s, h⟩ := ih
    obtain ⟨s', h'⟩ := stepO_pre T (passK T out k) k
    exact ⟨s ++ s', by rw [passK, h', h, List.append_assoc]⟩
theorem passK_le (T : List (List Int)) (out : List Int) (k : Nat) : out.length ≤ (passK T out k).length := by
  obtain ⟨s, h⟩ := passK_pre T out k
  rw [h, List.length_append]; omega
theorem passK_eq {T : List (List Int)} {out : List Int} {k : Nat} (h : (passK T out k).length = out.length) : passK T out k = out := by
  obtain ⟨s, e⟩ := passK_pre T out k
  rw [e, List.length_append] at h
  have : s = [] := List.eq_nil_of_length_eq_zero (by omega)
  rw [e, this, List.append_nil]
theorem nodup_le {l : List Nat} {n : Nat} (hd : l.Nodup) (h : ∀ x ∈ l, x < n) : l.length ≤ n := by
  induction n generalizing l with
  | zero =>
    cases l with
    | nil => simp
    | cons a l => exact absurd (h a (by simp)) (by omega)
  | succ n ih =>
    have h1 : (l.erase n).length ≤ n := by
      refine ih (hd.erase n) fun x hx => ?_
      have hx' := (hd.mem_erase_iff).1 hx
      have := h x hx'.2
      omega
    by_cases hm : n ∈ l
    · rw [List.length_erase_of_mem hm] at h1; omega
    · rw [List.erase_of_not_mem hm] at h1; omega
theorem Ord.le {T : List (List Int)} {out : List Int} (h : Ord T out) : out.length ≤ T.length := by
  have h1 : (out.map Int.toNat).Nodup := by
    unfold List.Nodup
    rw [List.pairwise_map]
    refine List.Pairwise.imp_of_mem (fun {a b} ha hb hne => ?_) h.nodup
    have := h.rng a ha
    have := h.rng b hb
    omega
  have h2 := nodup_le h1 (n := T.length) fun x hx => by
    obtain ⟨a, ha, rfl⟩ := List.mem_map.1 hx
    exact (h.rng a ha).2
  simpa using h2
/-- what is still to come leads to the order -/
structure OrdTo (T : List (List Int)) (out : List Int) (f : Nat) : Prop where
  ord : Ord T out
  to : order T = orderF T f out
  fuel : T.length + 1 ≤ out.length + f
theorem OrdTo.start (T : List (List Int)) : OrdTo T [] (T.length + 1) := ⟨Ord.nil T, rfl, by simp⟩
theorem OrdTo.done {T : List (List Int)} {out : List Int} {f : Nat} (h : OrdTo T out f) (he : (passK T out T.length).length = out.length) : order T = out := by
  have := h.ord.le
  have := h.fuel
  obtain ⟨g, rfl⟩ : ∃ g, f = g + 1 := ⟨f - 1, by omega⟩
  rw [h.to, orderF, if_pos he]
theorem OrdTo.next {T : List (List Int)} {out : List Int} {f : Nat} (h : OrdTo T out f) (he : (passK T out T.length).length ≠ out.length) : ∃ g, f = g + 1 ∧ OrdTo T (passK T out T.length) g := by
  have := h.ord.le
  have := h.fuel
  have hp := passK_le T out T.length
  obtain ⟨g, rfl⟩ : ∃ g, f = g + 1 := ⟨f - 1, by omega⟩
  exact ⟨g, rfl, h.ord.passK _, by rw [h.to, orderF, if_neg he], by omega⟩
theorem OrdTo.full {T : List (List Int)} {out : List Int} {f : Nat} (h : OrdTo T out f) (hl : out.length = T.length) : order T = out := by
  refine h.done ?_
  have := (h.ord.passK T.length).le
  have := passK_le T out T.length
  omega
theorem orderF_ord {T : List (List Int)} : ∀ (f : Nat) {out : List Int}, Ord T out → Ord T (orderF T f out) := by
  intro f
  induction f with
  | zero => intro out h; exact h
  | succ f ih =>
    intro out h
    unfold orderF
    split
    · exact h
    · exact ih (h.passK _)
theorem order_ord (T : List (List Int)) : Ord T (order T) := orderF_ord _ (Ord.nil T)
/-- each number stands in a full list -/
theorem Ord.mem_of_full {T : List (List Int)} {out : List Int} (h : Ord T out) (hl : out.length = T.length) {i : Nat} (hi : i < T.length) : (i : Int) ∈ out := by
  by_cases hm : (i : Int) ∈ out
  · exact hm
  · have h1 : ((i : Int) :: out).map Int.toNat |>.Nodup := by
      unfold List.Nodup
      rw [List.pairwise_map]
      refine List.Pairwise.imp_of_mem (R := fun a b => a ≠ b) (fun {a b} ha hb hne => ?_) (List.nodup_cons.2 ⟨hm, h.nodup⟩)
      have ha' : 0 ≤ a := by
        rcases List.mem_cons.1 ha with rfl | ha
        · omega
        · exact (h.rng a ha).1
      have hb' : 0 ≤ b := by
        rcases List.mem_cons.1 hb with rfl | hb
        · omega
        · exact (h.rng b hb).1
      omega
    have h2 := nodup_le h1 (n := T.length) fun x hx => by
      obtain ⟨a, ha, rfl⟩ := List.mem_map.1 hx
      rcases List.mem_cons.1 ha with rfl | ha
      · simpa using hi
      · exact (h.rng a ha).2
    simp at h2
    omega
theorem Ord.parts_lt {T : List (List Int)} {out : List Int} (h : Ord T out) (hl : out.length = T.length) {i : Nat} {ps : List Int} (hi : T[i]? = some ps) {p : Int} (hp : p ∈ ps) : 0 ≤ p ∧ p.toNat < T.length := by
  have hil := (List.getElem?_eq_some_iff.1 hi).1
  obtain ⟨t, ht⟩ := List.getElem?_of_mem (h.mem_of_full hl hil)
  exact h.rng p (List.mem_of_mem_take (h.ready t _ ht ps (by rw [Int.toNat_natCast]; exact hi) p hp))

/-! ### depths -/
def dOf (D : Int → Int) (ps : List Int) : Int := ps.foldl (fun m p => max m (D p + 1)) 0
def depF (T : List (List Int)) (out : List Int) : Int → Int := out.foldl (fun D x => fun j => if j = x then dOf D ((T[x.toNat]?).getD []) else D j) (fun _ => -1)
theorem depF_nil (T : List (List Int)) (j : Int) : depF T [] j = -1 := rfl
theorem depF_snoc (T : List (List Int)) (out : List Int) (x j : Int) : depF T (out ++ [x]) j = if j = x then dOf (depF T out) ((T[x.toNat]?).getD []) else depF T out j := by
  unfold depF; rw [List.foldl_append]; rfl
theorem dOf_snoc (D : Int → Int) (ps : List Int) (p : Int) : dOf D (ps ++ [p]) = max (dOf D ps) (D p + 1) := by
  unfold dOf; rw [List.foldl_append]; rfl
theorem list_snoc_ind {α : Type} {motive : List α → Prop} (l : List α) (h0 : motive []) (h1 : ∀ l a, motive l → motive (l ++ [a])) : motive l := by
  have : ∀ n (l : List α), l.length = n → motive l := by
    intro n
    induction n with
    | zero => intro l hl; rw [List.eq_nil_of_length_eq_zero hl]; exact h0
    | succ n ih =>
      intro l hl
      have hne : l ≠ [] := by rintro rfl; simp at hl
      rw [← List.dropLast_concat_getLast hne]
      exact h1 _ _ (ih _ (by rw [List.length_dropLast]; omega))
  exact this _ l rfl
theorem dOf_bd (D : Int → Int) (ps : List Int) (B : Int) (h0 : 0 ≤ B) (h : ∀ p ∈ ps, D p + 1 ≤ B) : 0 ≤ dOf D ps ∧ dOf D ps ≤ B := by
  induction ps using list_snoc_ind with
  | h0 => exact ⟨Int.le_refl _, h0⟩
  | h1 l a ih =>
    rw [dOf_snoc]
    have := ih fun p hp => h p (by simp [hp])
    have := h a (by simp)
    omega
theorem dOf_congr {D E : Int → Int} {ps : List Int} (h : ∀ p ∈ ps, D p = E p) : dOf D ps = dOf E ps := by
  induction ps using list_snoc_ind with
  | h0 => rfl
  | h1 l a ih => rw [dOf_snoc, dOf_snoc, ih fun p hp => h p (by simp [hp]), h a (by simp)]
theorem depF_bd (T : List (List Int)) (out : List Int) (j : Int) : -1 ≤ depF T out j ∧ depF T out j + 1 ≤ out.length := by
  induction out using list_snoc_ind generalizing j with
  | h0 => rw [depF_nil]; simp
  | h1 l a ih =>
    rw [depF_snoc]
    split
    · have := dOf_bd (depF T l) ((T[a.toNat]?).getD []) l.length (by omega) fun p _ => (ih p).2
      simp; omega
    · have := ih j
      simp; omega
theorem depF_out {T : List (List Int)} {out : List Int} {j : Int} (h : j ∉ out) : depF T out j = -1 := by
  induction out using list_snoc_ind with
  | h0 => rfl
  | h1 l a ih =>
    rw [depF_snoc, if_neg (by rintro rfl; exact h (by simp))]
    exact ih fun hm => h (by simp [hm])
theorem depF_in {T : List (List Int)} {out : List Int} {j : Int} (h : j ∈ out) : 0 ≤ depF T out j := by
  induction out using list_snoc_ind with
  | h0 => simp at h
  | h1 l a ih =>
    rw [depF_snoc]
    split
    · exact (dOf_bd (depF T l) _ l.length (by omega) fun p _ => (depF_bd T l p).2).1
    · rename_i hne
      rcases List.mem_append.1 h with h | h
      · exact ih h
      · simp at h; exact absurd h hne
theorem depF_iff {T : List (List Int)} {out : List Int} {j : Int} : 0 ≤ depF T out j ↔ j ∈ out := by
  constructor
  · intro h
    by_cases hm : j ∈ out
    · exact hm
    · rw [depF_out hm] at h; omega
  · exact depF_in
theorem depF_stay {T : List (List Int)} {out s : List Int} {j : Int} (h : j ∉ s) : depF T (out ++ s) j = depF T out j := by
  induction s using list_snoc_ind with
  | h0 => simp
  | h1 l a ih => rw [← List.append_assoc, depF_snoc, if_neg (by rintro rfl; exact h (by simp)), ih fun hm => h (by simp [hm])]
theorem depF_take {T : List (List Int)} {out : List Int} (ho : Ord T out) {t : Nat} {j : Int} (h : j ∈ out.take t) : depF T out j = depF T (out.take t) j := by
  have e := List.take_append_drop t out
  have hd := ho.nodup
  rw [← e, List.nodup_append] at hd
  conv => lhs; rw [← e]
  exact depF_stay fun hm => hd.2.2 j h j hm rfl
/-- the depth at its place in the order -/
theorem depF_at {T : List (List Int)} {out : List Int} (ho : Ord T out) {t : Nat} {x : Int} (h : out[t]? = some x) {ps : List Int} (hps : T[x.toNat]? = some ps) : depF T out x = dOf (depF T out) ps := by
  have hl := (List.getElem?_eq_some_iff.1 h).1
  have e : out.take (t + 1) = out.take t ++ [x] := by
    rw [List.take_succ_eq_append_getElem hl]
    rw [List.getElem?_eq_getElem hl] at h
    injection h with h; rw [h]
  rw [depF_take ho (t := t + 1) (by rw [e]; simp), e, depF_snoc, if_pos rfl, hps, Option.getD_some]
  exact dOf_congr fun p hp => (depF_take ho (ho.ready t x h ps hps p hp)).symm
end Go.Proofs.YtgdkabljgabjoaaGreatDoor

/- Whether glyphs and sets of glyphs are valid, in data alone. No walk in sight. Conditions: as each states. -/
namespace Go.Proofs.YtgdkabljgabjoaaGreatDoor
set_option linter.unusedVariables false
set_option maxRecDepth 100000

def partOk (p : Part) : Bool := inB p.1 0 39 && ptOk p.2.1 p.2.2
def anchFree (L : List Anch) (a : Anch) : Bool := L.all fun b => decide (b.1 ≠ a.1)
def anchAt (L : List Anch) (j : Nat) : Bool := match L[j]? with
  | some a => nameB a.1 && ptOk a.2.1 a.2.2 && anchFree (L.take j) a
  | none => true
def anchsOk (L : List Anch) : Bool := (List.range L.length).all (anchAt L)
def glyphOk (g : Gl) : Bool := nameB g.name && inB g.code (-1) 65535 && inB g.adv 0 262144 && outOk g.out && decide (g.parts.length ≤ 6) && decide (g.anchors.length ≤ 6) && decide (g.hints.size ≤ 400) &&
  g.parts.all partOk && anchsOk g.anchors && (decide (g.parts.length = 0) || decide (g.out.length = 0))
def clash (a b : Gl) : Bool := decide (a.name = b.name) || (decide (0 ≤ a.code) && decide (a.code = b.code))
def glFree (L : List Gl) (g : Gl) : Bool := L.all fun b => !clash b g
def glAt (L : List Gl) (j : Nat) : Bool := match L[j]? with
  | some g => glyphOk g && glFree (L.take j) g
  | none => true
def tgts (L : List Gl) : List (List Int) := L.map fun g => g.parts.map (·.1)
def setOk (s : GSet) : Bool := inB s.unit 16 16384 && decide (s.gl.length ≤ 40) && (List.range s.gl.length).all (glAt s.gl) && decide ((order (tgts s.gl)).length = s.gl.length)

theorem range_step {f : Nat → Bool} {k : Nat} (h : (List.range k).all f = true) (h1 : f k = true) : (List.range (k + 1)).all f = true := by
  rw [List.range_succ, List.all_append, h]; simp [h1]
theorem range_no {f : Nat → Bool} {n k : Nat} (hk : k < n) (h : f k = false) : (List.range n).all f = false := by
  rw [List.all_eq_false]; exact ⟨k, List.mem_range.2 hk, by simp [h]⟩
theorem range_at {f : Nat → Bool} {n k : Nat} (h : (List.range n).all f = true) (hk : k < n) : f k = true := List.all_eq_true.1 h k (List.mem_range.2 hk)
theorem anchAt_eq {L : List Anch} {j : Nat} {a : Anch} (h : L[j]? = some a) : anchAt L j = (nameB a.1 && ptOk a.2.1 a.2.2 && anchFree (L.take j) a) := by unfold anchAt; rw [h]
theorem glAt_eq {L : List Gl} {j : Nat} {g : Gl} (h : L[j]? = some g) : glAt L j = (glyphOk g && glFree (L.take j) g) := by unfold glAt; rw [h]
theorem anchFree_step {L : List Anch} {k : Nat} {a b : Anch} (h : anchFree (L.take k) a = true) (hb : L[k]? = some b) (hne : b.1 ≠ a.1) : anchFree (L.take (k + 1)) a = true := by
  have hl := (List.getElem?_eq_some_iff.1 hb).1
  rw [List.getElem?_eq_getElem hl] at hb; injection hb with hb
  unfold anchFree at *
  rw [List.take_succ_eq_append_getElem hl, List.all_append, h, hb]; simp [hne]
theorem anchFree_no {L : List Anch} {k j : Nat} {a b : Anch} (hk : k < j) (hb : L[k]? = some b) (he : b.1 = a.1) : anchFree (L.take j) a = false := by
  have hl := (List.getElem?_eq_some_iff.1 hb).1
  unfold anchFree
  rw [List.all_eq_false]
  exact ⟨b, List.mem_of_getElem? (i := k) (by rw [List.getElem?_take_of_lt hk]; exact hb), by simp [he]⟩
theorem glFree_step {L : List Gl} {k : Nat} {a b : Gl} (h : glFree (L.take k) a = true) (hb : L[k]? = some b) (hne : clash b a = false) : glFree (L.take (k + 1)) a = true := by
  have hl := (List.getElem?_eq_some_iff.1 hb).1
  rw [List.getElem?_eq_getElem hl] at hb; injection hb with hb
  unfold glFree at *
  rw [List.take_succ_eq_append_getElem hl, List.all_append, h, hb]; simp [hne]
theorem glFree_no {L : List Gl} {k j : Nat} {a b : Gl} (hk : k < j) (hb : L[k]? = some b) (he : clash b a = true) : glFree (L.take j) a = false := by
  unfold glFree
  rw [List.all_eq_false]
  exact ⟨b, List.mem_of_getElem? (i := k) (by rw [List.getElem?_take_of_lt hk]; exact hb), by simp [he]⟩
theorem tgts_length (L : List Gl) : (tgts L).length = L.length := by simp [tgts]
theorem tgts_at {L : List Gl} {j : Nat} {g : Gl} (h : L[j]? = some g) : (tgts L)[j]? = some (g.parts.map (·.1)) := by unfold tgts; rw [List.getElem?_map, h]; rfl
theorem all_noX {α : Type} {f : α → Bool} {L : List α} {k : Nat} {a : α} (h : L[k]? = some a) (hf : f a = false) : L.all f = false := by
  rw [List.all_eq_false]; exact ⟨a, List.mem_of_getElem? h, by simp [hf]⟩
theorem all_stepX {α : Type} {f : α → Bool} {L : List α} {k : Nat} {a : α} (h0 : (L.take k).all f = true) (h : L[k]? = some a) (hf : f a = true) : (L.take (k + 1)).all f = true := by
  have hl := (List.getElem?_eq_some_iff.1 h).1
  rw [List.getElem?_eq_getElem hl] at h; injection h with h
  rw [List.take_succ_eq_append_getElem hl, List.all_append, h0, h]; simp [hf]

/-! ### a glyph's tests, one by one -/
theorem glyph_f1 {g : Gl} (h : nameB g.name = false) : glyphOk g = false := by simp [glyphOk, h]
theorem glyph_f2 {g : Gl} (h : inB g.code (-1) 65535 = false) : glyphOk g = false := by simp [glyphOk, h]
theorem glyph_f3 {g : Gl} (h : inB g.adv 0 262144 = false) : glyphOk g = false := by simp [glyphOk, h]
theorem glyph_f4 {g : Gl} (h : outOk g.out = false) : glyphOk g = false := by simp [glyphOk, h]
theorem glyph_f5 {g : Gl} (h : 6 < g.parts.length) : glyphOk g = false := by simp [glyphOk, Nat.not_le.2 h]
theorem glyph_f6 {g : Gl} (h : 6 < g.anchors.length) : glyphOk g = false := by simp [glyphOk, Nat.not_le.2 h]
theorem glyph_f7 {g : Gl} (h : 400 < g.hints.size) : glyphOk g = false := by simp [glyphOk, Nat.not_le.2 h]
theorem glyph_f8 {g : Gl} {k : Nat} {p : Part} (h : g.parts[k]? = some p) (hp : partOk p = false) : glyphOk g = false := by simp [glyphOk, all_noX h hp]
theorem glyph_f9 {g : Gl} {k : Nat} (h : k < g.anchors.length) (hp : anchAt g.anchors k = false) : glyphOk g = false := by
  have : anchsOk g.anchors = false := range_no h hp
  simp [glyphOk, this]
theorem glyph_f10 {g : Gl} (h : 0 < g.parts.length) (h1 : 0 < g.out.length) : glyphOk g = false := by
  have e1 : ¬ g.parts.length = 0 := by omega
  have e2 : ¬ g.out.length = 0 := by omega
  simp only [glyphOk, e1, e2, decide_false, Bool.or_self, Bool.and_false]
theorem glyph_t {g : Gl} (h1 : nameB g.name = true) (h2 : inB g.code (-1) 65535 = true) (h3 : inB g.adv 0 262144 = true) (h4 : outOk g.out = true) (h5 : g.parts.length ≤ 6) (h6 : g.anchors.length ≤ 6) (h7 : g.hints.size ≤ 400)
    (h8 : (g.parts.take g.parts.length).all partOk = true) (h9 : (List.range g.anchors.length).all (anchAt g.anchors) = true) (h10 : g.parts.length = 0 ∨ g.out.length = 0) : glyphOk g = true := by
  rw [List.take_length] at h8
  have e9 : anchsOk g.anchors = true := h9
  have e10 : (decide (g.parts.length = 0) || decide (g.out.length = 0)) = true := by simpa using h10
  simp only [glyphOk, h1, h2, h3, h4, h5, h6, h7, h8, e9, e10, decide_true, Bool.and_self]
/-- what a valid glyph is -/
theorem glyph_is {g : Gl} (h : glyphOk g = true) : outOk g.out = true ∧ g.parts.length ≤ 6 ∧ g.anchors.length ≤ 6 ∧ g.hints.size ≤ 400 ∧ (∀ p ∈ g.parts, partOk p = true) ∧ (∀ a ∈ g.anchors, ptOk a.2.1 a.2.2 = true) := by
  simp only [glyphOk, Bool.and_eq_true, decide_eq_true_eq, List.all_eq_true] at h
  obtain ⟨⟨⟨⟨⟨⟨⟨⟨⟨h1, h2⟩, h3⟩, h4⟩, h5⟩, h6⟩, h7⟩, h8⟩, h9⟩, h10⟩ := h
  refine ⟨h4, h5, h6, h7, h8, fun a ha => ?_⟩
  obtain ⟨j, hj⟩ := List.getElem?_of_mem ha
  have := range_at h9 (List.getElem?_eq_some_iff.1 hj).1
  rw [anchAt_eq hj] at this
  simp at this
  exact this.1.2
theorem set_is {s : GSet} (h : setOk s = true) : s.gl.length ≤ 40 ∧ (∀ g ∈ s.gl, glyphOk g = true) ∧ (order (tgts s.gl)).length = s.gl.length := by
  simp only [setOk, Bool.and_eq_true, decide_eq_true_eq] at h
  obtain ⟨⟨⟨h1, h2⟩, h3⟩, h4⟩ := h
  refine ⟨h2, fun g hg => ?_, h4⟩
  obtain ⟨j, hj⟩ := List.getElem?_of_mem hg
  have := range_at h3 (List.getElem?_eq_some_iff.1 hj).1
  rw [glAt_eq hj] at this
  simp at this
  exact this.1
theorem set_f1 {s : GSet} (h : inB s.unit 16 16384 = false) : setOk s = false := by simp [setOk, h]
theorem set_f2 {s : GSet} (h : 40 < s.gl.length) : setOk s = false := by simp [setOk, Nat.not_le.2 h]
theorem set_f3 {s : GSet} {k : Nat} (hk : k < s.gl.length) (h : glAt s.gl k = false) : setOk s = false := by simp [setOk, range_no hk h]
theorem set_f4 {s : GSet} (h : (order (tgts s.gl)).length ≠ s.gl.length) : setOk s = false := by simp [setOk, h]
theorem set_f5 {s : GSet} {k : Nat} {g : Gl} {p : Part} (hg : s.gl[k]? = some g) (hp : p ∈ g.parts) (h : (s.gl.length : Int) ≤ p.1) : setOk s = false := by
  refine set_f4 fun he => ?_
  have := ((order_ord (tgts s.gl)).parts_lt (by rw [he, tgts_length]) (tgts_at hg) (List.mem_map_of_mem (f := (·.1)) hp))
  rw [tgts_length] at this
  omega
theorem set_eq {s : GSet} (h1 : inB s.unit 16 16384 = true) (h2 : s.gl.length ≤ 40) (h3 : (List.range s.gl.length).all (glAt s.gl) = true) : setOk s = decide ((order (tgts s.gl)).length = s.gl.length) := by
  simp only [setOk, h1, h2, h3, decide_true, Bool.true_and]
end Go.Proofs.YtgdkabljgabjoaaGreatDoor

/- What is reckoned of a glyph out of what is reckoned of its parts: in the order in which parts come first. No walk in sight. Conditions: as each states. -/
namespace Go.Proofs.YtgdkabljgabjoaaGreatDoor
set_option linter.unusedVariables false
set_option maxRecDepth 100000

def memF {α : Type} (G : (Int → α) → Int → α) (z : α) (out : List Int) : Int → α := out.foldl (fun D x => fun j => if j = x then G D x else D j) (fun _ => z)
variable {α : Type} {G : (Int → α) → Int → α} {z : α} {T : List (List Int)} {out : List Int}
theorem memF_nil (G : (Int → α) → Int → α) (z : α) (j : Int) : memF G z [] j = z := rfl
theorem memF_snoc (G : (Int → α) → Int → α) (z : α) (out : List Int) (x j : Int) : memF G z (out ++ [x]) j = if j = x then G (memF G z out) x else memF G z out j := by
  unfold memF; rw [List.foldl_append]; rfl
theorem memF_stay {s : List Int} {j : Int} (h : j ∉ s) : memF G z (out ++ s) j = memF G z out j := by
  induction s using list_snoc_ind with
  | h0 => simp
  | h1 l a ih => rw [← List.append_assoc, memF_snoc, if_neg (by rintro rfl; exact h (by simp)), ih fun hm => h (by simp [hm])]
theorem memF_take (ho : Ord T out) {t : Nat} {j : Int} (h : j ∈ out.take t) : memF G z out j = memF G z (out.take t) j := by
  have e := List.take_append_drop t out
  have hd := ho.nodup
  rw [← e, List.nodup_append] at hd
  conv => lhs; rw [← e]
  exact memF_stay fun hm => hd.2.2 j h j hm rfl
/-- what is reckoned of x asks of x's parts alone -/
def Loc (T : List (List Int)) (G : (Int → α) → Int → α) : Prop := ∀ (D E : Int → α) (x : Int) (ps : List Int), T[x.toNat]? = some ps → (∀ p ∈ ps, D p = E p) → G D x = G E x
theorem take_snoc_at {l : List Int} {t : Nat} {x : Int} (h : l[t]? = some x) : l.take (t + 1) = l.take t ++ [x] := by
  have hl := (List.getElem?_eq_some_iff.1 h).1
  rw [List.take_succ_eq_append_getElem hl]
  rw [List.getElem?_eq_getElem hl] at h
  injection h with h; rw [h]
theorem memF_at (hG : Loc T G) (ho : Ord T out) {t : Nat} {x : Int} (h : out[t]? = some x) {ps : List Int} (hps : T[x.toNat]? = some ps) : memF G z out x = G (memF G z out) x := by
  have e := take_snoc_at h
  rw [memF_take ho (t := t + 1) (by rw [e]; simp), e, memF_snoc, if_pos rfl]
  exact hG _ _ x ps hps fun p hp => (memF_take ho (ho.ready t x h ps hps p hp)).symm
/-! ### the number of loops -/
def cntS (D : Int → Int) (a : Int) (ps : List Part) : Int := ps.foldl (fun a p => a + D p.1) a
def cntM (D : Int → Int) (a : Int) (ps : List Part) : Int := ps.foldl (fun a p => min (a + D p.1) 13) a
theorem cntS_snoc (D : Int → Int) (a : Int) (ps : List Part) (p : Part) : cntS D a (ps ++ [p]) = cntS D a ps + D p.1 := by unfold cntS; rw [List.foldl_append]; rfl
theorem cntM_snoc (D : Int → Int) (a : Int) (ps : List Part) (p : Part) : cntM D a (ps ++ [p]) = min (cntM D a ps + D p.1) 13 := by unfold cntM; rw [List.foldl_append]; rfl
theorem cnt_M (D : Int → Int) (a : Int) (ps : List Part) (ha : a ≤ 13) (hD : ∀ p ∈ ps, 0 ≤ D p.1) : cntM D a ps = min (cntS D a ps) 13 := by
  induction ps using list_snoc_ind with
  | h0 => simp only [cntM, cntS, List.foldl_nil]; omega
  | h1 l p ih =>
    rw [cntM_snoc, cntS_snoc, ih fun p hp => hD p (by simp [hp])]
    have := hD p (by simp)
    omega
theorem cntS_bd (D : Int → Int) (a : Int) (ps : List Part) (B : Int) (hD : ∀ p ∈ ps, 0 ≤ D p.1 ∧ D p.1 ≤ B) : a ≤ cntS D a ps ∧ cntS D a ps ≤ a + ps.length * B := by
  induction ps using list_snoc_ind with
  | h0 => simp [cntS]
  | h1 l p ih =>
    rw [cntS_snoc]
    have h1 := ih fun p hp => hD p (by simp [hp])
    have h2 := hD p (by simp)
    have e : (((l ++ [p]).length : Nat) : Int) * B = l.length * B + B := by
      rw [List.length_append]; simp only [List.length_cons, List.length_nil, Nat.zero_add]; rw [Int.natCast_add, Int.add_mul]; simp
    rw [e]
    omega
theorem cntS_congr {D E : Int → Int} {ps : List Part} (a : Int) (h : ∀ p ∈ ps, D p.1 = E p.1) : cntS D a ps = cntS E a ps := by
  induction ps using list_snoc_ind with
  | h0 => rfl
  | h1 l p ih => rw [cntS_snoc, cntS_snoc, ih fun p hp => h p (by simp [hp]), h p (by simp)]
def cntG (L : List Gl) (D : Int → Int) (x : Int) : Int := match L[x.toNat]? with
  | some g => min (cntS D g.out.length g.parts) 13
  | none => 0
theorem cntG_eq {L : List Gl} {g : Gl} {x : Int} (h : L[x.toNat]? = some g) (D : Int → Int) : cntG L D x = min (cntS D g.out.length g.parts) 13 := by unfold cntG; rw [h]
theorem cntG_none {L : List Gl} {x : Int} (h : L[x.toNat]? = none) (D : Int → Int) : cntG L D x = 0 := by unfold cntG; rw [h]
theorem tgts_get {L : List Gl} {j : Nat} {ps : List Int} (h : (tgts L)[j]? = some ps) : ∃ g, L[j]? = some g ∧ ps = g.parts.map (·.1) := by
  unfold tgts at h
  rw [List.getElem?_map] at h
  cases hg : L[j]? with
  | none => rw [hg] at h; cases h
  | some g => rw [hg] at h; injection h with h; exact ⟨g, rfl, h.symm⟩
theorem cntG_loc (L : List Gl) : Loc (tgts L) (cntG L) := by
  intro D E x ps hps hD
  obtain ⟨g, hg, rfl⟩ := tgts_get hps
  rw [cntG_eq hg, cntG_eq hg, cntS_congr _ fun p hp => hD p.1 (List.mem_map_of_mem (f := (·.1)) hp)]
def cntF (L : List Gl) (out : List Int) : Int → Int := memF (cntG L) 0 out
theorem cntF_bd (L : List Gl) (out : List Int) (j : Int) : 0 ≤ cntF L out j ∧ cntF L out j ≤ 13 := by
  unfold cntF
  induction out using list_snoc_ind generalizing j with
  | h0 => rw [memF_nil]; omega
  | h1 l a ih =>
    rw [memF_snoc]
    split
    · cases hg : L[a.toNat]? with
      | none => rw [cntG_none hg]; omega
      | some g =>
        rw [cntG_eq hg]
        have := (cntS_bd (memF (cntG L) 0 l) g.out.length g.parts 13 fun p _ => ih p.1).1
        omega
    · exact ih j
end Go.Proofs.YtgdkabljgabjoaaGreatDoor

/- The whole outline of a glyph: its own loops and those of its parts, moved. No walk in sight. Conditions: as each states. -/
namespace Go.Proofs.YtgdkabljgabjoaaGreatDoor
set_option linter.unusedVariables false
set_option maxRecDepth 100000

def movP (m : Int × Int) (q : Knot) : Knot := (q.1 + m.1, q.2.1 + m.2, q.2.2)
/-- of one glyph, given those of its parts -/
def wholeG (L : List Gl) (C : Int → Int) (D : Int → Int × Int → List (List Knot)) (x : Int) : Int × Int → List (List Knot) := match L[x.toNat]? with
  | some g => fun m => g.out.map (List.map (movP m)) ++ g.parts.flatMap fun p => if 0 < C p.1 then D p.1 (m.1 + p.2.1, m.2 + p.2.2) else []
  | none => fun _ => []
theorem wholeG_eq {L : List Gl} {g : Gl} {x : Int} (h : L[x.toNat]? = some g) (C : Int → Int) (D : Int → Int × Int → List (List Knot)) : wholeG L C D x = fun m => g.out.map (List.map (movP m)) ++ g.parts.flatMap fun p => if 0 < C p.1 then D p.1 (m.1 + p.2.1, m.2 + p.2.2) else [] := by unfold wholeG; rw [h]
theorem flatMap_congr' {α β : Type} {f g : α → List β} {l : List α} (h : ∀ a ∈ l, f a = g a) : l.flatMap f = l.flatMap g := by
  induction l with
  | nil => rfl
  | cons a l ih => rw [List.flatMap_cons, List.flatMap_cons, h a List.mem_cons_self, ih fun b hb => h b (List.mem_cons_of_mem _ hb)]
theorem wholeG_loc (L : List Gl) (C : Int → Int) : Loc (tgts L) (wholeG L C) := by
  intro D E x ps hps hD
  obtain ⟨g, hg, rfl⟩ := tgts_get hps
  rw [wholeG_eq hg, wholeG_eq hg]
  funext m
  congr 1
  refine flatMap_congr' fun p hp => ?_
  rw [hD p.1 (List.mem_map_of_mem (f := (·.1)) hp)]
def wholeF (L : List Gl) (C : Int → Int) (out : List Int) : Int → Int × Int → List (List Knot) := memF (wholeG L C) (fun _ => []) out
theorem wholeF_at {L : List Gl} {C : Int → Int} {out : List Int} (ho : Ord (tgts L) out) {t : Nat} {x : Int} (hx : out[t]? = some x) {g : Gl} (hg : L[x.toNat]? = some g) (m : Int × Int) :
    wholeF L C out x m = g.out.map (List.map (movP m)) ++ g.parts.flatMap fun p => if 0 < C p.1 then wholeF L C out p.1 (m.1 + p.2.1, m.2 + p.2.2) else [] := by
  have hps : (tgts L)[x.toNat]? = some (g.parts.map (·.1)) := by unfold tgts; rw [List.getElem?_map, hg]; rfl
  unfold wholeF
  rw [memF_at (wholeG_loc L C) ho hx hps, wholeG_eq hg]
theorem cntF_at {L : List Gl} {out : List Int} (ho : Ord (tgts L) out) {t : Nat} {x : Int} (hx : out[t]? = some x) {g : Gl} (hg : L[x.toNat]? = some g) : cntF L out x = min (cntS (cntF L out) g.out.length g.parts) 13 := by
  have hps : (tgts L)[x.toNat]? = some (g.parts.map (·.1)) := by unfold tgts; rw [List.getElem?_map, hg]; rfl
  unfold cntF
  rw [memF_at (cntG_loc L) ho hx hps, cntG_eq hg]
/-- the part stands ahead of the glyph in the order -/
theorem part_at {L : List Gl} {out : List Int} (ho : Ord (tgts L) out) {t : Nat} {x : Int} (hx : out[t]? = some x) {g : Gl} (hg : L[x.toNat]? = some g) {p : Part} (hp : p ∈ g.parts) : ∃ s, s < t ∧ out[s]? = some p.1 := by
  have hps : (tgts L)[x.toNat]? = some (g.parts.map (·.1)) := by unfold tgts; rw [List.getElem?_map, hg]; rfl
  have hm := ho.ready t x hx _ hps p.1 (List.mem_map_of_mem (f := (·.1)) hp)
  obtain ⟨s, hs⟩ := List.getElem?_of_mem hm
  have hst : s < t := by
    have := (List.getElem?_eq_some_iff.1 hs).1
    rw [List.length_take] at this; omega
  rw [List.getElem?_take_of_lt hst] at hs
  exact ⟨s, hst, hs⟩
theorem sum_parts (C : Int → Int) (W : Int → Int × Int → List (List Knot)) (m : Int × Int) (ps : List Part) (h : ∀ p ∈ ps, ∀ m', C p.1 ≤ 12 → ((W p.1 m').length : Int) = C p.1) (h0 : ∀ p ∈ ps, 0 ≤ C p.1) (a : Int) (ha : 0 ≤ a) (hs : cntS C a ps ≤ 12) :
    a + ((ps.flatMap fun p => if 0 < C p.1 then W p.1 (m.1 + p.2.1, m.2 + p.2.2) else []).length : Int) = cntS C a ps := by
  induction ps generalizing a with
  | nil => simp [cntS]
  | cons p ps ih =>
    have hp0 := h0 p List.mem_cons_self
    have e : cntS C a (p :: ps) = cntS C (a + C p.1) ps := rfl
    rw [e] at hs ⊢
    have hmono : a + C p.1 ≤ cntS C (a + C p.1) ps := by
      have hb : ∀ (qs : List Part) (b : Int), (∀ q ∈ qs, 0 ≤ C q.1) → b ≤ cntS C b qs := by
        intro qs
        induction qs with
        | nil => intro b _; exact Int.le_refl _
        | cons q qs ih2 =>
          intro b hq
          have h1 := hq q List.mem_cons_self
          have h2 := ih2 (b + C q.1) fun r hr => hq r (List.mem_cons_of_mem _ hr)
          show b ≤ cntS C (b + C q.1) qs
          omega
      exact hb ps _ fun q hq => h0 q (List.mem_cons_of_mem _ hq)
    have h1 := ih (fun q hq => h q (List.mem_cons_of_mem _ hq)) (fun q hq => h0 q (List.mem_cons_of_mem _ hq)) (a + C p.1) (by omega) hs
    rw [← h1, List.flatMap_cons, List.length_append]
    by_cases hc : 0 < C p.1
    · rw [if_pos hc]
      have h2 := h p List.mem_cons_self (m.1 + p.2.1, m.2 + p.2.2) (by omega)
      push_cast
      omega
    · rw [if_neg hc]
      have : C p.1 = 0 := by omega
      simp only [List.length_nil]
      push_cast
      omega
/-- as many loops as are counted, where these are not too many -/
theorem wholeF_len {L : List Gl} {out : List Int} (ho : Ord (tgts L) out) : ∀ (t : Nat) (x : Int), out[t]? = some x → (∃ g, L[x.toNat]? = some g) → (∀ (t' : Nat) (y : Int), out[t']? = some y → ∃ g, L[y.toNat]? = some g) → ∀ (m : Int × Int), cntF L out x ≤ 12 → ((wholeF L (cntF L out) out x m).length : Int) = cntF L out x := by
  intro t
  induction t using Nat.strongRecOn with
  | _ t ih =>
    intro x hx ⟨g, hg⟩ hall m hc
    rw [wholeF_at ho hx hg, cntF_at ho hx hg, List.length_append, List.length_map]
    rw [cntF_at ho hx hg] at hc
    have hs : cntS (cntF L out) g.out.length g.parts ≤ 12 := by omega
    have h1 := sum_parts (cntF L out) (wholeF L (cntF L out) out) m g.parts (fun p hp m' hcp => by
      obtain ⟨s, hst, hso⟩ := part_at ho hx hg hp
      exact ih s hst p.1 hso (hall s p.1 hso) hall m' hcp) (fun p _ => (cntF_bd L out p.1).1) g.out.length (by omega) hs
    push_cast
    omega
/-- what a part has is no more than what the glyph has -/
theorem part_le {L : List Gl} {out : List Int} (ho : Ord (tgts L) out) {t : Nat} {x : Int} (hx : out[t]? = some x) {g : Gl} (hg : L[x.toNat]? = some g) (hc : cntF L out x ≤ 12) {p : Part} (hp : p ∈ g.parts) : cntF L out p.1 ≤ 12 := by
  rw [cntF_at ho hx hg] at hc
  have hs : cntS (cntF L out) g.out.length g.parts ≤ 12 := by omega
  have hb : ∀ (qs : List Part) (b : Int), p ∈ qs → 0 ≤ b → (∀ q ∈ qs, 0 ≤ cntF L out q.1) → cntF L out p.1 ≤ cntS (cntF L out) b qs := by
    intro qs
    induction qs with
    | nil => intro b h; cases h
    | cons q qs ih =>
      intro b hm hb0 hq
      have hq0 := hq q List.mem_cons_self
      show _ ≤ cntS (cntF L out) (b + cntF L out q.1) qs
      rcases List.mem_cons.1 hm with rfl | hm
      · have := (cntS_bd (cntF L out) (b + cntF L out p.1) qs 13 fun q _ => cntF_bd L out q.1).1
        omega
      · exact ih _ hm (by omega) fun r hr => hq r (List.mem_cons_of_mem _ hr)
  have := hb g.parts g.out.length hp (by omega) fun q _ => (cntF_bd L out q.1).1
  omega
end Go.Proofs.YtgdkabljgabjoaaGreatDoor

/- A region that draws its order, whose last operations wait for all that stand ahead of them: its head by itself (with what is held in S), its tail in order. No program in sight. Conditions: as each states. -/
namespace Go.Proofs.YtgdkabljgabjoaaGreatDoor
set_option linter.unusedVariables false
set_option maxRecDepth 100000

/-- what is to be shown behind the head: the tail, in order -/
def QTail (P : Program) (ops : Array Oper) (l : List Oper) (Q : Exit → Act → World → Prop) : Exit → Act → World → Prop
  | .normal, a, w => wpList P ops Q l a w
  | e, a, w => Q e a w
theorem wp_of_tail {P : Program} {Q : Exit → Act → World → Prop} {ops : Array Oper} {l : List Oper} {o : Oper} {a : Act} {w : World} {K K' : Act → World → Prop} (h : ∀ a w, K a w → K' a w)
    (hh : Oper.wp P o a w K (QTail P ops l Q)) : Oper.wp P o a w K' Q := by
  have h1 := Oper.wp_mono h hh
  clear hh
  unfold Oper.wp at *
  generalize (execOp a.eval o).run P w = r at *
  cases r with
  | ok n w' =>
    cases n <;> first
      | exact h1
      | (refine Calls.mono h1 fun e w'' he => ?_
         cases e <;> exact he)
  | halt x w' => cases x <;> exact h1
theorem wpAny_more {P : Program} {md : Region.Mode} {ops : Array Oper} {Q : Exit → Act → World → Prop} : ∀ (g : Nat) (listed : Array Bool) (a : Act) (w : World), wpAny P md ops Q g listed a w → wpAny P md ops Q (g + 1) listed a w
  | 0, listed, a, w, h => ⟨fun _ => h.2, by rw [h.1]; intro i hi; cases hi⟩
  | g + 1, listed, a, w, h => ⟨h.1, fun i hi => wpOp_mono (fun a' w' h' => wpAny_more g _ a' w' h') (h.2 i hi)⟩
theorem wpAny_plus {P : Program} {md : Region.Mode} {ops : Array Oper} {Q : Exit → Act → World → Prop} {g : Nat} {listed : Array Bool} {a : Act} {w : World} (h : wpAny P md ops Q g listed a w) (k : Nat) : wpAny P md ops Q (k + g) listed a w := by
  induction k with
  | zero => rw [Nat.zero_add]; exact h
  | succ k ih => rw [show k + 1 + g = (k + g) + 1 by omega]; exact wpAny_more _ _ _ _ ih
theorem leastN {p : Nat → Prop} (hp : ∀ j, p j ∨ ¬ p j) : ∀ (j : Nat), p j → ∃ i, i ≤ j ∧ p i ∧ ∀ k, k < i → ¬ p k := by
  intro j
  induction j using Nat.strongRecOn with
  | _ j ih =>
    intro hj
    by_cases h : ∃ k, k < j ∧ p k
    · obtain ⟨k, hk, hpk⟩ := h
      obtain ⟨i, h1, h2, h3⟩ := ih k hk hpk
      exact ⟨i, by omega, h2, h3⟩
    · exact ⟨j, Nat.le_refl _, hj, fun k hk hpk => h ⟨k, hk, hpk⟩⟩

def backRB (l : List Oper) (n : Nat) : Bool := (List.range n).all fun i => match l[i]? with
  | some o => o.after.all (fun e => decide (e.on < i)) && o.guard.isNone
  | none => false
def maskL (n m : Nat) : Array Bool := (List.replicate n true ++ List.replicate m false).toArray
def headRB (l : List Oper) (n : Nat) : Bool := decide (n < l.length) && Region.sinkB .any l.toArray n && Region.chainB .any l.toArray n && backRB l n && Region.seqB .any l.toArray (l.length - n) n (maskL n (l.length - n))
theorem back_specR {l : List Oper} {n i : Nat} (h : backRB l n = true) (hi : i < n) : ∃ o, l[i]? = some o ∧ (∀ e ∈ o.after, e.on < i) ∧ o.guard = none := by
  have h1 := List.all_eq_true.1 h i (List.mem_range.2 hi)
  cases ho : l[i]? with
  | none => rw [ho] at h1; cases h1
  | some o =>
    rw [ho] at h1
    simp only [Bool.and_eq_true] at h1
    refine ⟨o, rfl, fun e he => ?_, by simpa using h1.2⟩
    have := Array.all_eq_true'.1 h1.1 e he
    simpa using this

structure HRel (n : Nat) (l : List Oper) (h f : Array Bool) : Prop where
  hs : h.size = n
  fs : f.size = l.length
  hn : n < l.length
  eq : ∀ j, j < n → f.getD j true = h.getD j true
  tl : ∀ t, n ≤ t → t < l.length → f.getD t true = false
theorem getD_two {a : Array Bool} {j : Nat} (hj : j < a.size) : a.getD j false = a.getD j true := by simp [hj]
theorem getD_out {a : Array Bool} {j : Nat} {d : Bool} (hj : a.size ≤ j) : a.getD j d = d := by simp [Array.getElem?_eq_none hj]
theorem HRel.fb {n : Nat} {l : List Oper} {h f : Array Bool} (r : HRel n l h f) (j : Nat) : f.getD j false = h.getD j false := by
  rcases Nat.lt_or_ge j n with hj | hj
  · rw [getD_two (by have := r.fs; have := r.hn; omega), getD_two (by have := r.hs; omega)]
    exact r.eq j hj
  · rw [getD_out (a := h) (by have := r.hs; omega)]
    rcases Nat.lt_or_ge j l.length with h2 | h2
    · rw [getD_two (by have := r.fs; omega)]; exact r.tl j hj h2
    · exact getD_out (by have := r.fs; omega)
theorem ready_head {md : Region.Mode} {n : Nat} {l : List Oper} {h f : Array Bool} (r : HRel n l h f) {j : Nat} (hj : j < n) : j ∈ Region.ready md l.toArray f ↔ j ∈ Region.ready md (l.take n).toArray h := by
  rw [mem_ready, mem_ready, r.eq j hj]
  have e : (l.take n).toArray[j]? = l.toArray[j]? := by simp [hj]
  rw [e]
  simp only [r.fb]
theorem HRel.set {n : Nat} {l : List Oper} {h f : Array Bool} (r : HRel n l h f) {i : Nat} (hi : i < n) : HRel n l (h.setIfInBounds i true) (f.setIfInBounds i true) := by
  refine ⟨by simp [r.hs], by simp [r.fs], r.hn, fun j hj => ?_, fun t h1 h2 => ?_⟩
  · by_cases hij : i = j
    · subst hij
      have h1 := r.hs
      have h2 := r.fs
      have h3 := r.hn
      simp [hi, h1, show i < f.size by omega]
    · rw [getD_set_ne true hij, getD_set_ne true hij]; exact r.eq j hj
  · rw [getD_set_ne true (by omega)]; exact r.tl t h1 h2
theorem HRel.mask {n : Nat} {l : List Oper} {h f : Array Bool} (r : HRel n l h f) (hall : ∀ j, j < n → h.getD j true = true) : f = maskL n (l.length - n) := by
  have h1 := r.hn
  apply Array.ext
  · rw [r.fs]; simp [maskL]; omega
  · intro i hi1 hi2
    rw [r.fs] at hi1
    have hg : f[i] = f.getD i true := by simp [show i < f.size by rw [r.fs]; exact hi1]
    rw [hg]
    rcases Nat.lt_or_ge i n with hj | hj
    · rw [r.eq i hj, hall i hj]
      simp [maskL, hj]
    · rw [r.tl i hj hi1]
      simp [maskL, List.getElem_append, Nat.not_lt.2 hj]

theorem wpAny_of_take {P : Program} {Q : Exit → Act → World → Prop} {n : Nat} {l : List Oper} (hs : Region.sinkB .any l.toArray n = true) (hc : Region.chainB .any l.toArray n = true) (hb : backRB l n = true) (hq : Region.seqB .any l.toArray (l.length - n) n (maskL n (l.length - n)) = true) :
    ∀ (fuel : Nat) (h f : Array Bool) (a : Act) (w : World), HRel n l h f → HeadInv .any l.toArray n f → wpAny P .any (l.take n).toArray (QTail P l.toArray (l.drop n) Q) fuel h a w → wpAny P .any l.toArray Q (fuel + (l.length - n)) f a w := by
  intro fuel
  induction fuel with
  | zero =>
    intro h f a w r inv hh
    by_cases hall : ∀ j, j < n → h.getD j true = true
    · rw [r.mask hall, Nat.zero_add]
      have hdl : (l.drop n).length = l.length - n := by simp
      have := wpAny_of_seq (md := .any) (ops := l.toArray) (Q' := Q) (l.drop n) n (maskL n (l.length - n)) a w (fun j => by simp [List.getElem?_drop]) (by rw [hdl]; exact hq) hh.2
      rwa [hdl] at this
    · exfalso
      obtain ⟨j, hj⟩ : ∃ j, j < n ∧ h.getD j true = false := by
        refine Classical.byContradiction fun hno => hall fun j hj => ?_
        cases hv : h.getD j true with
        | true => rfl
        | false => exact absurd ⟨j, hj, hv⟩ hno
      obtain ⟨i, hi, hpi, hmin⟩ := leastN (p := fun j => j < n ∧ h.getD j true = false) (fun j => Classical.em _) j hj
      obtain ⟨o, ho, hon, _⟩ := back_specR hb hpi.1
      have hr : i ∈ Region.ready .any (l.take n).toArray h := mem_ready.2 ⟨hpi.2, o, by simpa [List.getElem?_take, hpi.1] using ho, fun e he _ => by
        have h1 := hon e he
        have h2 := hmin e.on h1
        rw [getD_two (by have := r.hs; have := hpi.1; omega)]
        cases hv : h.getD e.on true with
        | true => rfl
        | false => exact absurd ⟨by have := hpi.1; omega, hv⟩ h2⟩
      rw [hh.1] at hr
      cases hr
  | succ fuel ih =>
    intro h f a w r inv hh
    by_cases hall : ∀ j, j < n → h.getD j true = true
    · have h0 : Region.ready .any (l.take n).toArray h = [] := by
        cases hr : Region.ready .any (l.take n).toArray h with
        | nil => rfl
        | cons x xs =>
          exfalso
          have hx : x ∈ Region.ready .any (l.take n).toArray h := by rw [hr]; exact List.mem_cons_self
          obtain ⟨h1, o, h2, _⟩ := mem_ready.1 hx
          have hxn : x < n := by
            have h3 := (Array.getElem?_eq_some_iff.1 h2).1
            simp at h3; omega
          rw [hall x hxn] at h1; cases h1
      rw [r.mask hall]
      have hdl : (l.drop n).length = l.length - n := by simp
      have := wpAny_of_seq (md := .any) (ops := l.toArray) (Q' := Q) (l.drop n) n (maskL n (l.length - n)) a w (fun j => by simp [List.getElem?_drop]) (by rw [hdl]; exact hq) (hh.1 h0)
      rw [hdl] at this
      exact wpAny_plus this _
    · obtain ⟨j, hj⟩ : ∃ j, j < n ∧ h.getD j true = false := by
        refine Classical.byContradiction fun hno => hall fun j hj => ?_
        cases hv : h.getD j true with
        | true => rfl
        | false => exact absurd ⟨j, hj, hv⟩ hno
      obtain ⟨i, hi, hpi, hmin⟩ := leastN (p := fun j => j < n ∧ h.getD j true = false) (fun j => Classical.em _) j hj
      obtain ⟨o, ho, hon, _⟩ := back_specR hb hpi.1
      have hr : i ∈ Region.ready .any (l.take n).toArray h := mem_ready.2 ⟨hpi.2, o, by simpa [List.getElem?_take, hpi.1] using ho, fun e he _ => by
        have h1 := hon e he
        have h2 := hmin e.on h1
        rw [getD_two (by have := r.hs; have := hpi.1; omega)]
        cases hv : h.getD e.on true with
        | true => rfl
        | false => exact absurd ⟨by have := hpi.1; omega, hv⟩ h2⟩
      have hrf := (ready_head r hpi.1).2 hr
      rw [show fuel + 1 + (l.length - n) = (fuel + (l.length - n)) + 1 by omega]
      refine ⟨fun h0 => (by rw [h0] at hrf; cases hrf), fun k hk => ?_⟩
      have hkn : k < n := by
        rcases Nat.lt_or_ge k n with h1 | h1
        · exact h1
        · exact absurd hk (tail_waits hs hc (by simpa using r.hn) inv (n - i) i rfl hpi.1 (by rw [r.eq i hpi.1]; exact hpi.2) k h1)
      have hkh := (ready_head r hkn).1 hk
      have hop := hh.2 k hkh
      obtain ⟨o', ho', _, hgd⟩ := back_specR hb hkn
      have e1 : (l.take n).toArray[k]? = some o' := by simpa [List.getElem?_take, hkn] using ho'
      have e2 : l.toArray[k]? = some o' := by simpa using ho'
      have hw : ∀ y, Region.wanted o' y = true := fun y => by simp [Region.wanted, hgd]
      unfold wpOp at hop ⊢
      rw [e1] at hop
      rw [e2]
      simp only [hw, if_true] at hop ⊢
      rcases hop with hop | ⟨h1, h2⟩
      · exact .inl (wp_of_tail (fun a' w' h' => ih _ _ a' w' (r.set hkn) (inv.set hk hkn) h') hop)
      · exact .inr ⟨h1, h2⟩

/-- the head by itself, and the tail in order -/
theorem wp_region_head {P : Program} {Q : Exit → Act → World → Prop} {id : Nat} {a : Act} {w : World} {l : List Oper} (n : Nat) (S : World → Prop) (hm : P.follows .mixedOrders = true) (hB : headRB l n = true) (hS : S w.drew)
    (h : S w.drew → wpAnyH P .any (l.take n).toArray (QTail P l.toArray (l.drop n) Q) S n (Array.replicate n false) a w.drew) : (Code.region id l.toArray true).wp P Q a w := by
  simp only [headRB, Bool.and_eq_true, decide_eq_true_eq] at hB
  obtain ⟨⟨⟨⟨hn, hs⟩, hc⟩, hb⟩, hq⟩ := hB
  have inv0 : HeadInv .any l.toArray n (Array.replicate l.length false) :=
    ⟨by simp, fun j oj _ hl => (by rw [getD_replicate_false] at hl; cases hl), fun t _ ht => getD_in (by simpa using ht) (getD_replicate_false _ _)⟩
  have r0 : HRel n l (Array.replicate n false) (Array.replicate l.length false) :=
    ⟨by simp, by simp, hn, fun j hj => by rw [getD_in (by simp; omega) (getD_replicate_false _ _), getD_in (by simp; omega) (getD_replicate_false _ _)], fun t _ ht => getD_in (by simpa using ht) (getD_replicate_false _ _)⟩
  refine wp_region_any hm ?_
  have := wpAny_of_take hs hc hb hq n _ _ a _ r0 inv0 (wpAny_of_held _ _ _ _ (h hS))
  rw [show n + (l.length - n) = l.toArray.size by simp; omega] at this
  simpa using this
end Go.Proofs.YtgdkabljgabjoaaGreatDoor

