/- The plain law of FnFitting: the loops that are fitted to rings are within the tolerance of them. Conditions: as each states. -/
import Derived.Lib.QuietBelow
import Derived.Test.YtgelkdcggnffeaaGreatFtg20
import Derived.Test.YtgelkdcggnffeaaGreatFtg36
import Derived.Test.YtgelkdcggnffeaaGreatFtg14
import Derived.Test.YtgelkdcggnffeaaGreatFtg28
namespace Go.Proofs.YtgelkdcggnffeaaGreat
open Go.RowKit
set_option linter.unusedVariables false
set_option maxRecDepth 100000

theorem near_a {ax ay bx b r : Int} (h : 0 ≤ r) : nearB ax ay bx b ax ay r = true := by
  have h1 : 0 ≤ r * r := Int.mul_nonneg h h
  have h2 : sqI ax ay ax ay = 0 := by unfold sqI; rw [Int.sub_self, Int.sub_self]; rfl
  unfold nearB
  rw [h2, decide_eq_true h1]; rfl
theorem near_b {ax ay bx b r : Int} (h : 0 ≤ r) : nearB ax ay bx b bx b r = true := by
  have h1 : 0 ≤ r * r := Int.mul_nonneg h h
  have h2 : sqI bx b bx b = 0 := by unfold sqI; rw [Int.sub_self, Int.sub_self]; rfl
  unfold nearB
  rw [h2, decide_eq_true h1]; simp
/-- a point is near two points that follow one another in a path -/
def NearTo (M : List Pnt) (p : Pnt) (r : Int) : Prop := ∃ (i : Nat) (a b : Pnt), M[i]? = some a ∧ M[i + 1]? = some b ∧ nearB a.1 a.2 b.1 b.2 p.1 p.2 r = true
theorem NearTo.yes {M : List Pnt} {p : Pnt} {r : Int} (h : NearTo M p r) : nearP M p.1 p.2 r = true := by
  obtain ⟨i, a, b, h1, h2, h3⟩ := h
  exact nearP_yes h1 h2 h3
theorem near_ex {p : Pnt} {r : Int} : ∀ {M : List Pnt}, 2 ≤ M.length → nearP M p.1 p.2 r = true → NearTo M p r := by
  intro M
  induction M with
  | nil => intro h; simp at h
  | cons a M ih =>
    intro hl hn
    cases M with
    | nil => simp at hl
    | cons b M =>
      cases M with
      | nil => rw [nearP_pair] at hn; exact ⟨0, a, b, rfl, rfl, hn⟩
      | cons c M =>
        rw [nearP_cons2 _ _ _ _ _ _ (by simp), Bool.or_eq_true] at hn
        rcases hn with hn | hn
        · exact ⟨0, a, b, rfl, rfl, hn⟩
        · obtain ⟨i, x, y, h1, h2, h3⟩ := ih (by simp) hn
          exact ⟨i + 1, x, y, by simpa using h1, by simpa using h2, h3⟩
theorem NearTo.right {M : List Pnt} {p : Pnt} {r : Int} (h : NearTo M p r) (A : List Pnt) : NearTo (A ++ M) p r := by
  obtain ⟨i, a, b, h1, h2, h3⟩ := h
  refine ⟨A.length + i, a, b, ?_, ?_, h3⟩
  · rw [List.getElem?_append_right (by omega)]; simpa using h1
  · rw [List.getElem?_append_right (by omega), show A.length + i + 1 - A.length = i + 1 by omega]; exact h2
theorem NearTo.left {M : List Pnt} {p : Pnt} {r : Int} (h : NearTo M p r) (A : List Pnt) : NearTo (M ++ A) p r := by
  obtain ⟨i, a, b, h1, h2, h3⟩ := h
  have l1 := (List.getElem?_eq_some_iff.1 h1).1
  have l2 := (List.getElem?_eq_some_iff.1 h2).1
  exact ⟨i, a, b, by rw [List.getElem?_append_left l1]; exact h1, by rw [List.getElem?_append_left l2]; exact h2, h3⟩

/-- the knots that are fitted, from a point on -/
inductive Fits (P : List Pnt) (n : Nat) (t : Int) : Nat → List Knot → Prop
  | done {i : Nat} : i = n → Fits P n t i []
  | line {i k : Nat} {K : List Knot} : 1 ≤ k → i + k ≤ n → (k = 1 ∨ strW P i k t = true) → Fits P n t (i + k) K → Fits P n t i (((ptAt P i).1, (ptAt P i).2, true) :: K)
  | curve {i k : Nat} {p : Pnt} {K : List Knot} : 2 ≤ k → i + k ≤ n → fitB (partP P i k) t = some p → Fits P n t (i + k) K → Fits P n t i (((ptAt P i).1, (ptAt P i).2, true) :: (p.1, p.2, false) :: K)
theorem fitK_fits {P : List Pnt} {n : Nat} {t : Int} : ∀ (d i : Nat), n - i = d → i ≤ n → Fits P n t i (fitK P n t i) := by
  intro d
  induction d using Nat.strongRecOn with
  | ind d ih =>
    intro i hd hi
    rcases Nat.lt_or_ge i n with h | h
    rotate_left
    · rw [fitK_end h]; exact .done (by omega)
    have hb := endW_bd (P := P) (n := n) (e := i + 1) rfl (by omega)
    obtain ⟨k, o, hf, hk1, hk2, ho⟩ := fitW_is (P := P) (i := i) (t := t) (c := endW P n (i + 1) - i) (by omega)
    have hnext := ih (n - (i + k)) (by omega) (i + k) rfl (by omega)
    rcases ho with ⟨rfl, rfl⟩ | ⟨rfl, h2, hs⟩ | ⟨p, rfl, h2, hfb⟩
    · rw [fitK_none h hf (by omega)]; exact .line (by omega) (by omega) (.inl rfl) hnext
    · rw [fitK_none h hf (by omega)]; exact .line (by omega) (by omega) (.inr hs) hnext
    · rw [fitK_some h hf (by omega)]; exact .curve h2 (by omega) hfb hnext

/-! ### the ring along a list of knots, from its front -/
theorem knAt_drop (F : List Knot) (i j : Nat) : knAt (F.drop i) j = knAt F (i + j) := by
  unfold knAt
  rw [List.getD_eq_getElem?_getD, List.getD_eq_getElem?_getD, List.getElem?_drop]
theorem segQ_drop (F : List Knot) (i j : Nat) : segQ (F.drop i) j = segQ F (i + j) := by
  unfold segQ
  rw [knAt_drop, knAt_drop, knAt_drop]; rfl
theorem ringI_drop {F : List Knot} : ∀ (d i j : Nat), F.length - (i + j) = d → ringI (F.drop i) j = ringI F (i + j) := by
  intro d
  induction d using Nat.strongRecOn with
  | ind d ih =>
    intro i j hd
    rcases Nat.lt_or_ge (i + j + 1) F.length with h | h
    rotate_left
    · rw [ringI_end h, ringI_end (by rw [List.length_drop]; omega)]
    have h' : j + 1 < (F.drop i).length := by rw [List.length_drop]; omega
    cases hon : (knAt F (i + j + 1)).2.2 with
    | true =>
      rw [ringI_on h hon, ringI_on h' (by rw [knAt_drop]; exact hon), knAt_drop, ih _ (by omega) i (j + 1) rfl]; rfl
    | false =>
      cases hc : curvL (segQ F (i + j)) with
      | none => rw [ringI_bad h hon hc, ringI_bad h' (by rw [knAt_drop]; exact hon) (by rw [segQ_drop]; exact hc)]
      | some Q => rw [ringI_off h hon hc, ringI_off h' (by rw [knAt_drop]; exact hon) (by rw [segQ_drop]; exact hc), ih _ (by omega) i (j + 2) rfl]; rfl
theorem ringI_cons (a : Knot) (F : List Knot) (j : Nat) : ringI (a :: F) (j + 1) = ringI F j := by
  have := ringI_drop (F := a :: F) _ 1 j rfl
  rw [List.drop_one, List.tail_cons] at this
  rw [this, Nat.add_comm]
theorem ring_line {a b : Knot} {F : List Knot} {R : List Pnt} (hb : b.2.2 = true) (h : ringI (b :: F) 0 = some R) : ringI (a :: b :: F) 0 = some (knP a :: R) := by
  rw [ringI_on (by simp) (by rw [show knAt (a :: b :: F) 1 = b from rfl]; exact hb), ringI_cons, h]; rfl
theorem ring_curve {a b c : Knot} {F : List Knot} {Q R : List Pnt} (hb : b.2.2 = false) (hq : curvL ⟨a.1, a.2.1, b.1, b.2.1, c.1, c.2.1⟩ = some Q) (h : ringI (c :: F) 0 = some R) : ringI (a :: b :: c :: F) 0 = some (Q ++ R) := by
  have hs : segQ (a :: b :: c :: F) 0 = ⟨a.1, a.2.1, b.1, b.2.1, c.1, c.2.1⟩ := rfl
  have hb' : (knAt (a :: b :: c :: F) (0 + 1)).2.2 = false := hb
  rw [ringI_off (i := 0) (P := Q) (by simp) hb' (by rw [hs]; exact hq), ringI_cons, ringI_cons, h]

/-! ### along a curve -/
theorem mix_0 (a b c : Int) {n : Nat} (hn : 0 < n) : mixI a b c ((0 : Nat) : Int) (n : Int) = a := by
  unfold mixI
  have e : numI a b c ((0 : Nat) : Int) (n : Int) = (n : Int) * (n : Int) * a := by unfold numI; grind
  rw [e]; exact rnd_exact (Int.mul_pos (by omega) (by omega))
theorem mix_1 (a b c : Int) {n : Nat} (hn : 0 < n) : mixI a b c (n : Int) (n : Int) = c := by
  unfold mixI
  have e : numI a b c (n : Int) (n : Int) = (n : Int) * (n : Int) * c := by unfold numI; grind
  rw [e]; exact rnd_exact (Int.mul_pos (by omega) (by omega))
theorem flat_first (q : Qd) {n : Nat} (hn : 0 < n) : (flatL q n)[0]? = some (q.ax, q.ay) := by
  unfold flatL
  rw [List.getElem?_map, List.getElem?_range (by omega)]
  simp only [Option.map_some, qAt, mix_0 _ _ _ hn]
theorem flat_last (q : Qd) {n : Nat} (hn : 0 < n) : (flatL q n)[n]? = some (q.cx, q.cy) := by
  unfold flatL
  rw [List.getElem?_map, List.getElem?_range (by omega)]
  simp only [Option.map_some, qAt, mix_1 _ _ _ hn]
theorem dropLast_snoc {α : Type} {L : List α} {n : Nat} {a : α} (hl : L.length = n + 1) (h : L[n]? = some a) : L = L.dropLast ++ [a] := by
  have hne : L ≠ [] := by rintro rfl; simp at hl
  have := List.dropLast_concat_getLast hne
  rw [List.getLast_eq_getElem] at this
  have e : L[L.length - 1]? = some a := by rw [hl, Nat.add_sub_cancel]; exact h
  rw [List.getElem?_eq_getElem (by omega)] at e
  injection e with e
  rw [e] at this
  exact this.symm

/-- what is known of the ring from a point of the path on -/
structure Along (P : List Pnt) (n : Nat) (t : Int) (i : Nat) (M R : List Pnt) : Prop where
  eq : M = R ++ [ptAt P n]
  head : M[0]? = some (ptAt P i)
  there : i < n → ∀ j, i ≤ j → j ≤ n → NearTo M (ptAt P j) t
  back : ∀ p ∈ R, NearTo P p t
theorem fits_ring {P : List Pnt} {n : Nat} {t : Int} (hP : P.length = n + 1) (ht : 0 ≤ t) {i : Nat} {K : List Knot} (h : Fits P n t i K) : ∃ R, ringI (K ++ [((ptAt P n).1, (ptAt P n).2, true)]) 0 = some R ∧ Along P n t i (R ++ [ptAt P n]) R ∧ i ≤ n ∧
    ∃ F, K ++ [((ptAt P n).1, (ptAt P n).2, true)] = ((ptAt P i).1, (ptAt P i).2, true) :: F := by
  have hat : ∀ j, j ≤ n → P[j]? = some (ptAt P j) := fun j hj => ptAt_some (by omega)
  induction h with
  | @done i hi =>
    subst hi
    exact ⟨[], ringI_end (by simp), ⟨rfl, rfl, fun h => by omega, fun p hp => by cases hp⟩, Nat.le_refl _, [], rfl⟩
  | @line i k K hk hik hs hf ih =>
    obtain ⟨R, hR, hA, _, F, hF⟩ := ih
    rw [hF] at hR
    refine ⟨knP ((ptAt P i).1, (ptAt P i).2, true) :: R, ?_, ?_, by omega, _, List.cons_append⟩
    · rw [List.cons_append, hF]; exact ring_line rfl hR
    have e0 : knP ((ptAt P i).1, (ptAt P i).2, true) = ptAt P i := rfl
    rw [e0]
    refine ⟨rfl, rfl, fun _ j h1 h2 => ?_, fun p hp => ?_⟩
    · rw [List.cons_append]
      by_cases hj : j ≤ i + k
      · have hnear : nearB (ptAt P i).1 (ptAt P i).2 (ptAt P (i + k)).1 (ptAt P (i + k)).2 (ptAt P j).1 (ptAt P j).2 t = true := by
          rcases hs with rfl | hs
          · rcases (show j = i ∨ j = i + 1 by omega) with rfl | rfl
            · exact near_a ht
            · exact near_b ht
          · unfold strW withinB at hs
            rw [List.all_eq_true] at hs
            have hm : ptAt P j ∈ partP P i k := List.mem_of_getElem? (i := j - i) (by rw [partP_at (by omega), show i + (j - i) = j by omega]; exact hat j (by omega))
            have := hs _ hm
            rw [nearP_pair] at this; exact this
        exact ⟨0, ptAt P i, ptAt P (i + k), rfl, by simpa using hA.head, hnear⟩
      · have := hA.there (by omega) j (by omega) h2
        exact this.right [ptAt P i]
    · rcases List.mem_cons.1 hp with rfl | hp
      · exact ⟨i, ptAt P i, ptAt P (i + 1), hat i (by omega), hat (i + 1) (by omega), near_a ht⟩
      · exact hA.back p hp
  | @curve i k p K hk hik hfb hf ih =>
    obtain ⟨R, hR, hA, _, F, hF⟩ := ih
    rw [hF] at hR
    have hpl : (partP P i k).length = k + 1 := partP_len (by omega)
    have g0 : ptAt (partP P i k) 0 = ptAt P i := by rw [partP_pt (by omega)]; rfl
    have g1 : ptAt (partP P i k) ((partP P i k).length - 1) = ptAt P (i + k) := by rw [hpl, Nat.add_sub_cancel, partP_pt (Nat.le_refl _)]
    obtain ⟨l, hl, hw1, hw2⟩ : ∃ l, lvl (bendQ ⟨(ptAt P i).1, (ptAt P i).2, p.1, p.2, (ptAt P (i + k)).1, (ptAt P (i + k)).2⟩) = some l ∧ withinB (partP P i k) (flatL ⟨(ptAt P i).1, (ptAt P i).2, p.1, p.2, (ptAt P (i + k)).1, (ptAt P (i + k)).2⟩ (2 ^ l)) t = true ∧ withinB (flatL ⟨(ptAt P i).1, (ptAt P i).2, p.1, p.2, (ptAt P (i + k)).1, (ptAt P (i + k)).2⟩ (2 ^ l)) (partP P i k) t = true := by
      unfold fitB at hfb
      split at hfb
      · cases hfb
      · rename_i p' hp'
        rw [g0, g1] at hfb
        simp only at hfb
        split at hfb
        · cases hfb
        · rename_i l hl
          split at hfb
          · rename_i hw
            injection hfb with hfb
            subst hfb
            exact ⟨l, hl, hw.1, hw.2⟩
          · cases hfb
    have hn0 : 0 < 2 ^ l := Nat.two_pow_pos l
    obtain ⟨q, hq⟩ : ∃ q : Qd, q = ⟨(ptAt P i).1, (ptAt P i).2, p.1, p.2, (ptAt P (i + k)).1, (ptAt P (i + k)).2⟩ := ⟨_, rfl⟩
    rw [← hq] at hl hw1 hw2
    have hfl : flatL q (2 ^ l) = (flatL q (2 ^ l)).dropLast ++ [ptAt P (i + k)] := dropLast_snoc (flatL_len _ _) (by rw [flat_last q hn0, hq])
    have hff : (flatL q (2 ^ l))[0]? = some (ptAt P i) := by rw [flat_first q hn0, hq]
    have hcv : curvL q = some (flatL q (2 ^ l)).dropLast := by unfold curvL; rw [hl]
    have hlen := flatL_len q (2 ^ l)
    have hD : (flatL q (2 ^ l)).dropLast[0]? = some (ptAt P i) := by
      rw [hfl, List.getElem?_append_left (by rw [List.length_dropLast]; omega)] at hff; exact hff
    refine ⟨(flatL q (2 ^ l)).dropLast ++ R, ?_, ?_, by omega, _, List.cons_append⟩
    · rw [List.cons_append, List.cons_append, hF]
      exact ring_curve rfl (by rw [← hcv, hq]) hR
    -- the tail begins with the curve's last point
    obtain ⟨Z, hZ⟩ : ∃ Z, R ++ [ptAt P n] = ptAt P (i + k) :: Z := by
      have := hA.head
      cases hm : R ++ [ptAt P n] with
      | nil => rw [hm] at this; simp at this
      | cons a Z => rw [hm] at this; simp at this; exact ⟨Z, by rw [this]⟩
    have hM : (flatL q (2 ^ l)).dropLast ++ R ++ [ptAt P n] = flatL q (2 ^ l) ++ Z := by
      rw [List.append_assoc, hZ]
      conv => rhs; rw [hfl]
      rw [List.append_assoc]; rfl
    refine ⟨rfl, ?_, fun _ j h1 h2 => ?_, fun x hx => ?_⟩
    · rw [List.append_assoc, List.getElem?_append_left (by rw [List.length_dropLast]; omega)]; exact hD
    · by_cases hj : j ≤ i + k
      · have hm : ptAt P j ∈ partP P i k := List.mem_of_getElem? (i := j - i) (by rw [partP_at (by omega), show i + (j - i) = j by omega]; exact hat j (by omega))
        unfold withinB at hw1
        rw [List.all_eq_true] at hw1
        rw [hM]
        exact (near_ex (by omega) (hw1 _ hm)).left Z
      · rw [List.append_assoc]
        exact (hA.there (by omega) j (by omega) h2).right _
    · rcases List.mem_append.1 hx with hx | hx
      · unfold withinB at hw2
        rw [List.all_eq_true] at hw2
        obtain ⟨j, a, b, h1, h2, h3⟩ := near_ex (by omega) (hw2 x ((List.dropLast_sublist _).subset hx))
        have hj : j + 1 < k + 1 := by have := (List.getElem?_eq_some_iff.1 h2).1; omega
        rw [partP_at (by omega)] at h1 h2
        exact ⟨i + j, a, b, h1, by rw [Nat.add_assoc]; exact h2, h3⟩
      · exact hA.back x hx

/-! ### nothing stands between the knots of a fitted loop -/
theorem fits_nomid {P : List Pnt} {n : Nat} {t : Int} {i : Nat} {K : List Knot} (h : Fits P n t i K) : ∀ (j : Nat) (a b : Knot), K[j]? = some a → K[j + 1]? = some b → a.2.2 = true ∨ b.2.2 = true := by
  induction h with
  | done => intro j a b h; simp at h
  | @line i k K hk hik hs hf ih =>
    intro j a b h1 h2
    cases j with
    | zero => simp at h1; subst h1; exact .inl rfl
    | succ j => exact ih j a b (by simpa using h1) (by simpa using h2)
  | @curve i k p K hk hik hfb hf ih =>
    intro j a b h1 h2
    match j with
    | 0 => simp at h1; subst h1; exact .inl rfl
    | 1 =>
      right
      cases hf with
      | done => simp at h2
      | line => simp at h2; subst h2; rfl
      | curve => simp at h2; subst h2; rfl
    | j + 2 => exact ih j a b (by simpa using h1) (by simpa using h2)
theorem fits_head {P : List Pnt} {n : Nat} {t : Int} {i : Nat} {K : List Knot} (h : Fits P n t i K) (hi : i < n) : ∃ K', K = ((ptAt P i).1, (ptAt P i).2, true) :: K' := by
  cases h with
  | done h => omega
  | line => exact ⟨_, rfl⟩
  | curve => exact ⟨_, rfl⟩
theorem full_take {K : List Knot} (hon : (knAt K 0).2.2 = true) (h : ∀ (j : Nat) (a b : Knot), K[j]? = some a → K[j + 1]? = some b → a.2.2 = true ∨ b.2.2 = true) : ∀ k, k ≤ K.length → fullTo K k = K.take k := by
  intro k
  induction k with
  | zero => intro _; simp [fullTo]
  | succ k ih =>
    intro hk
    rw [fullTo_succ, ih (by omega), List.take_succ_eq_append_getElem (by omega)]
    have hm : midK (knAt K k) (knAt K ((k + 1) % K.length)) = [] := by
      unfold midK
      rw [if_neg]
      rintro ⟨h1, h2⟩
      rcases Nat.lt_or_ge (k + 1) K.length with h3 | h3
      · rw [Nat.mod_eq_of_lt h3] at h2
        rcases h k _ _ (knAt_some (by omega)) (knAt_some h3) with h4 | h4
        · rw [h4] at h1; cases h1
        · rw [h4] at h2; cases h2
      · rw [show k + 1 = K.length by omega, Nat.mod_self, hon] at h2; cases h2
    have e : K[k]'(by omega) = knAt K k := (knAt_eq (List.getElem?_eq_getElem (by omega))).symm
    rw [hm, e]
/-- a ring and the ring along the loop that is fitted to it -/
theorem fit_near {L : List Pnt} {t : Int} (h0 : 0 < L.length) (ht : 0 ≤ t) : ∃ R, ringL (ringK L t) = some R ∧ nearD L R t = true := by
  have hs := firstC_lt h0
  obtain ⟨s, hse⟩ : ∃ s, s = firstC L := ⟨_, rfl⟩
  rw [← hse] at hs
  have hf := fitK_fits (P := rotL L s) (n := L.length) (t := t) _ 0 rfl (Nat.zero_le _)
  have hK : ringK L t = fitK (rotL L s) L.length t 0 := by unfold ringK; rw [hse]
  rw [← hK] at hf
  obtain ⟨K', hK'⟩ := fits_head hf h0
  have hon : (knAt (ringK L t) 0).2.2 = true := by rw [hK']; rfl
  have hfull : fullK (ringK L t) = ringK L t ++ [((ptAt (rotL L s) L.length).1, (ptAt (rotL L s) L.length).2, true)] := by
    unfold fullK
    rw [full_take hon (fits_nomid hf) _ (Nat.le_refl _), List.take_length, hK']
    have : ptAt (rotL L s) L.length = ptAt (rotL L s) 0 := by
      rw [rotL_pt (Nat.le_refl _), rotL_pt (Nat.zero_le _), Nat.add_mod_right, Nat.add_zero]
    rw [this]; rfl
  obtain ⟨R, hR, hA, -⟩ := fits_ring (rotL_len L s) ht hf
  refine ⟨R, by unfold ringL; rw [hfull]; exact hR, ?_⟩
  have hR0 : 0 < R.length := by
    rcases Nat.eq_zero_or_pos R.length with h | h
    · exfalso
      have := List.eq_nil_of_length_eq_zero h
      subst this
      obtain ⟨i, a, b, _, h2, _⟩ := hA.there h0 0 (Nat.le_refl _) (Nat.zero_le _)
      simp at h2
    · exact h
  have hcl : R ++ [ptAt (rotL L s) L.length] = clo R := by
    unfold clo
    have h1 := hA.head
    rw [List.getElem?_append_left hR0] at h1
    have h2 : ptAt R 0 = ptAt (rotL L s) 0 := ptAt_eq h1
    have : ptAt (rotL L s) L.length = ptAt (rotL L s) 0 := by
      rw [rotL_pt (Nat.le_refl _), rotL_pt (Nat.zero_le _), Nat.add_mod_right, Nat.add_zero]
    rw [h2, this]
  rw [hcl] at hA
  unfold nearD
  rw [Bool.and_eq_true]
  constructor
  · unfold withinB
    rw [List.all_eq_true]
    intro p hp
    obtain ⟨j, hj⟩ := List.mem_iff_getElem?.1 hp
    have hjl := (List.getElem?_eq_some_iff.1 hj).1
    -- the place of j in the turned ring
    have hx : ∃ x, x < L.length ∧ (s + x) % L.length = j := by
      refine ⟨(j + L.length - s) % L.length, Nat.mod_lt _ h0, ?_⟩
      rw [Nat.add_mod_mod, show s + (j + L.length - s) = j + L.length by omega, Nat.add_mod_right, Nat.mod_eq_of_lt hjl]
    obtain ⟨x, hx1, hx2⟩ := hx
    have := hA.there h0 x (Nat.zero_le _) (by omega)
    rw [rotL_pt (by omega), hx2, ptAt_eq hj] at this
    exact this.yes
  · unfold withinB
    rw [List.all_eq_true]
    intro p hp
    obtain ⟨j, a, b, h1, h2, h3⟩ := hA.back p hp
    have hj := (List.getElem?_eq_some_iff.1 h2).1
    rw [rotL_len] at hj
    rw [rotL_at (by omega)] at h1 h2
    injection h1 with h1
    injection h2 with h2
    have hq : (s + j) % L.length < L.length := Nat.mod_lt _ h0
    refine NearTo.yes ⟨(s + j) % L.length, a, b, ?_, ?_, h3⟩
    · unfold clo
      rw [List.getElem?_append_left hq, ptAt_some hq, h1]
    · unfold clo
      have e : (s + (j + 1)) % L.length = ((s + j) % L.length + 1) % L.length := by rw [Nat.mod_add_mod, Nat.add_assoc]
      rcases Nat.lt_or_ge ((s + j) % L.length + 1) L.length with h4 | h4
      · rw [Nat.mod_eq_of_lt h4] at e
        rw [List.getElem?_append_left h4, ptAt_some h4, ← e, h2]
      · have h5 : (s + j) % L.length + 1 = L.length := by omega
        rw [h5, Nat.mod_self] at e
        rw [h5, List.getElem?_append_right (Nat.le_refl _), Nat.sub_self, ← h2, e]; rfl
end Go.Proofs.YtgelkdcggnffeaaGreat

/- Loops that are fitted to valid rings are a valid outline, and near them: the numbers alone. Conditions: as each states. -/
namespace Go.Proofs.YtgelkdcggnffeaaGreat
open Go.RowKit
set_option linter.unusedVariables false
set_option maxRecDepth 100000

theorem fitB_ok {L : List Pnt} {t : Int} {p : Pnt} (h : fitB L t = some p) : ptOk p.1 p.2 = true := by
  unfold fitB at h
  split at h
  · cases h
  · rename_i p' hl
    have hp := line_ok hl
    simp only at h
    split at h
    · cases h
    · split at h
      · injection h with h
        subst h; exact hp
      · cases h
theorem fits_ok {P : List Pnt} {n : Nat} {t : Int} {i : Nat} {K : List Knot} (h : Fits P n t i K) (hP : ∀ j, j ≤ n → ptOk (ptAt P j).1 (ptAt P j).2 = true) : ∀ k ∈ K, knotOk k = true := by
  induction h with
  | done => intro k hk; cases hk
  | line h1 h2 h3 h4 ih =>
    intro k hk
    rcases List.mem_cons.1 hk with rfl | hk
    · exact hP _ (by omega)
    · exact ih k hk
  | curve h1 h2 h3 h4 ih =>
    intro k hk
    rcases List.mem_cons.1 hk with rfl | hk
    · exact hP _ (by omega)
    rcases List.mem_cons.1 hk with rfl | hk
    · exact fitB_ok h3
    · exact ih k hk
theorem ringK_loop {L : List Pnt} {t : Int} (h : pathOk L = true) (h60 : ¬ 60 < (ringK L t).length) : loopOk (ringK L t) = true := by
  obtain ⟨h1, h2, h3⟩ := pathOk_is h
  have hs := firstC_lt h1
  obtain ⟨s, hse⟩ : ∃ s, s = firstC L := ⟨_, rfl⟩
  rw [← hse] at hs
  have hf := fitK_fits (P := rotL L s) (n := L.length) (t := t) _ 0 rfl (Nat.zero_le _)
  have hK : ringK L t = fitK (rotL L s) L.length t 0 := by unfold ringK; rw [hse]
  rw [← hK] at hf
  have hok := fits_ok hf (fun j hj => by
    rw [rotL_pt hj]
    exact h3 _ (List.mem_of_getElem? (ptAt_some (Nat.mod_lt _ h1))))
  obtain ⟨K', hK'⟩ := fits_head hf h1
  unfold loopOk
  rw [Bool.and_eq_true, Bool.and_eq_true]
  refine ⟨⟨inB_iff.2 ⟨?_, by omega⟩, by rw [hK']; rfl⟩, List.all_eq_true.2 hok⟩
  rw [hK', List.length_cons]; omega
theorem rings_map {t : Int} (ht : 0 ≤ t) : ∀ {Ss : List (List Pnt)}, (∀ L ∈ Ss, pathOk L = true) → ∃ Fs, ringsL (Ss.map fun L => ringK L t) = some Fs ∧ Fs.length = Ss.length ∧ ∀ (j : Nat) (L F : List Pnt), Ss[j]? = some L → Fs[j]? = some F → nearD L F t = true := by
  intro Ss
  induction Ss with
  | nil => intro _; exact ⟨[], rfl, rfl, fun j L F h => by cases h⟩
  | cons L Ss ih =>
    intro h
    obtain ⟨Fs, h1, h2, h3⟩ := ih fun L' hL' => h L' (List.mem_cons_of_mem _ hL')
    obtain ⟨h4, _, _⟩ := pathOk_is (h L (List.mem_cons_self ..))
    obtain ⟨R, hR, hn⟩ := fit_near (L := L) (t := t) h4 ht
    refine ⟨R :: Fs, ?_, by simp [h2], fun j L' F' hj hj' => ?_⟩
    · rw [List.map_cons, ringsL, hR, h1]
    · cases j with
      | zero =>
        simp at hj hj'
        subst hj hj'; exact hn
      | succ j => exact h3 j L' F' (by simpa using hj) (by simpa using hj')
theorem feR_is {Rs : List (List Pnt)} {Ls : List (List Knot)} (h1 : regOk Rs = true) (h3 : Rs.length = Ls.length) : feR Rs Ls true = match flatO Ls with
    | none => (0, 5)
    | some Fs => match leastD Rs Fs with | none => (0, 2) | some d => ((d : Int), 0) := by
  have hn : ¬ (regOk Rs = false ∨ true = false ∨ Rs.length ≠ Ls.length) := by
    rintro (h | h | h)
    · rw [h1] at h; cases h
    · cases h
    · exact h h3
  unfold feR
  rw [if_neg hn]
  cases flatO Ls <;> rfl
/-- what the law asks -/
theorem fit_law {Rs : List (List Pnt)} {t : Int} (hok : regOk Rs = true) (h0 : 1 ≤ t) (h1 : t ≤ 12) :
    (∃ cd : Int, fgR Rs t = ([], cd) ∧ cd ≠ 0) ∨ (∃ Ls, fgR Rs t = (Ls, 0) ∧ outOk Ls = true ∧ Ls.length = Rs.length ∧ (feR Rs Ls (outOk Ls) = (0, 5) ∨ ∃ d : Nat, feR Rs Ls (outOk Ls) = ((d : Int), 0) ∧ (d : Int) ≤ t)) := by
  have ht : inB t 1 262144 = true := inB_iff.2 ⟨h0, by omega⟩
  obtain ⟨hl40, hp, _⟩ := regOk_is hok
  unfold fgR
  rw [if_neg (by rw [hok]; simp), if_neg (by rw [ht]; simp)]
  split
  · exact .inl ⟨5, rfl, by omega⟩
  rename_i hno
  right
  have hno1 : ∀ L ∈ Rs, ¬ 60 < (ringK L t).length := fun L hL h => hno (.inl (List.any_eq_true.2 ⟨L, hL, decide_eq_true h⟩))
  have hno2 : Rs.length ≤ 12 := Nat.le_of_not_lt fun h => hno (.inr h)
  have ho : outOk (Rs.map fun L => ringK L t) = true := by
    unfold outOk
    rw [Bool.and_eq_true]
    refine ⟨List.all_eq_true.2 fun K hK => ?_, decide_eq_true (by rw [List.length_map]; exact hno2)⟩
    obtain ⟨L, hL, rfl⟩ := List.mem_map.1 hK
    exact ringK_loop (hp L hL) (hno1 L hL)
  refine ⟨_, rfl, ho, by rw [List.length_map], ?_⟩
  obtain ⟨Fs, hF1, hF2, hF3⟩ := rings_map (t := t) (by omega) hp
  rw [ho, feR_is hok (by rw [List.length_map])]
  unfold flatO
  rw [hF1]
  simp only
  by_cases hr : regOk Fs = true
  · rw [if_pos hr]
    right
    simp only
    have hall : allD Rs Fs t = true := by
      refine List.all_eq_true.2 fun j hj => ?_
      have hjl := List.mem_range.1 hj
      have e1 : Rs[j]? = some (Rs[j]'hjl) := List.getElem?_eq_getElem hjl
      have e2 : Fs[j]? = some (Fs[j]'(by omega)) := List.getElem?_eq_getElem (by omega)
      have g1 : Rs.getD j [] = Rs[j]'hjl := by rw [List.getD_eq_getElem?_getD, e1]; rfl
      have g2 : Fs.getD j [] = Fs[j]'(by omega) := by rw [List.getD_eq_getElem?_getD, e2]; rfl
      rw [g1, g2]
      exact hF3 j _ _ e1 e2
    obtain ⟨n, rfl⟩ : ∃ n : Nat, t = n := ⟨t.toNat, by omega⟩
    obtain ⟨d, hd, hpd, hmin⟩ := leastN (p := fun j : Nat => allD Rs Fs (j : Int) = true) (fun j => Classical.em _) n hall
    have hl := leastD_some (Rs := Rs) (Fs := Fs) (d := d) (by omega) (fun j hj => by
      cases hv : allD Rs Fs (j : Int) with
      | false => rfl
      | true => exact absurd hv (hmin j hj)) hpd
    rw [hl]
    exact ⟨d, rfl, by omega⟩
  · rw [if_neg hr]
    exact .inl rfl
end Go.Proofs.YtgelkdcggnffeaaGreat

/- Segments of a loop and the ring along them: the numbers alone. Conditions: as each states. -/
namespace Go.Proofs.YtgelkdcggnffeaaGreat
open Go.RowKit
set_option linter.unusedVariables false
set_option maxRecDepth 100000

/-- a segment: its curve, and whether it is straight -/
abbrev Seg := Qd × Bool
/-- the straight segment between two points -/
def strQ (a b : Pnt) : Qd := ⟨a.1, a.2, (midP a b).1, (midP a b).2, b.1, b.2⟩
/-- the segments of a full list of knots, from i on -/
def segsI (F : List Knot) (i : Nat) : List Seg :=
  if i + 1 < F.length then
    if (knAt F (i + 1)).2.2 = true then (strQ (knP (knAt F i)) (knP (knAt F (i + 1))), true) :: segsI F (i + 1)
    else (segQ F i, false) :: segsI F (i + 2)
  else []
termination_by F.length - i
theorem segsI_end {F : List Knot} {i : Nat} (h : F.length ≤ i + 1) : segsI F i = [] := by rw [segsI, if_neg (by omega)]
theorem segsI_on {F : List Knot} {i : Nat} (h : i + 1 < F.length) (h1 : (knAt F (i + 1)).2.2 = true) : segsI F i = (strQ (knP (knAt F i)) (knP (knAt F (i + 1))), true) :: segsI F (i + 1) := by
  rw [segsI, if_pos h, if_pos h1]
theorem segsI_off {F : List Knot} {i : Nat} (h : i + 1 < F.length) (h1 : (knAt F (i + 1)).2.2 = false) : segsI F i = (segQ F i, false) :: segsI F (i + 2) := by
  rw [segsI, if_pos h, if_neg (by simp [h1])]
/-- the ring along segments -/
def ringS : List Seg → Option (List Pnt)
  | [] => some []
  | (q, s) :: r => if s = true then match ringS r with | none => none | some R => some ((q.ax, q.ay) :: R)
    else match curvL q with
      | none => none
      | some P => match ringS r with | none => none | some R => some (P ++ R)
theorem ringS_segs (F : List Knot) (i : Nat) : ringS (segsI F i) = ringI F i := by
  induction hn : F.length - i using Nat.strongRecOn generalizing i with
  | _ n ih =>
    by_cases h : i + 1 < F.length
    · cases h1 : (knAt F (i + 1)).2.2 with
      | true => rw [segsI_on h h1, ringI_on h h1, ringS, if_pos rfl, ih (F.length - (i + 1)) (by omega) (i + 1) rfl]; rfl
      | false =>
        rw [segsI_off h h1, ringS, if_neg (by simp)]
        cases h2 : curvL (segQ F i) with
        | none => rw [ringI_bad h h1 h2]
        | some P => rw [ringI_off h h1 h2, ih (F.length - (i + 2)) (by omega) (i + 2) rfl]; rfl
    · rw [segsI_end (by omega), ringI_end (by omega)]; rfl
theorem knP_ok {F : List Knot} (h : KsOk F) {j : Nat} (hj : j < F.length) : ptOk (knP (knAt F j)).1 (knP (knAt F j)).2 = true := h _ (List.mem_of_getElem? (knAt_some hj))
theorem segsI_ok {F : List Knot} (h : KsOk F) (hl : (knAt F (F.length - 1)).2.2 = true) (i : Nat) : (segsI F i).length ≤ F.length - i ∧ ∀ s ∈ segsI F i, s.1.ok := by
  induction hn : F.length - i using Nat.strongRecOn generalizing i with
  | _ n ih =>
    by_cases h0 : i + 1 < F.length
    · cases h1 : (knAt F (i + 1)).2.2 with
      | true =>
        obtain ⟨g1, g2⟩ := ih (F.length - (i + 1)) (by omega) (i + 1) rfl
        rw [segsI_on h0 h1]
        refine ⟨by simp only [List.length_cons]; omega, fun s hs => ?_⟩
        rcases List.mem_cons.1 hs with rfl | hs
        · have ha := knP_ok h (j := i) (by omega)
          have hb := knP_ok h (j := i + 1) (by omega)
          exact ⟨ha, mid_ok ha hb, hb⟩
        · exact g2 s hs
      | false =>
        have hne : i + 1 ≠ F.length - 1 := fun e => by rw [e, hl] at h1; exact Bool.noConfusion h1
        obtain ⟨g1, g2⟩ := ih (F.length - (i + 2)) (by omega) (i + 2) rfl
        rw [segsI_off h0 h1]
        refine ⟨by simp only [List.length_cons]; omega, fun s hs => ?_⟩
        rcases List.mem_cons.1 hs with rfl | hs
        · exact ⟨knP_ok h (j := i) (by omega), knP_ok h (j := i + 1) (by omega), knP_ok h (j := i + 2) (by omega)⟩
        · exact g2 s hs
    · rw [segsI_end (by omega)]
      exact ⟨Nat.zero_le _, fun s hs => by cases hs⟩
/-- a segment's cells -/
def segC (s : Seg) : List Value := [.int .i64 s.1.ax, .int .i64 s.1.ay, .int .i64 s.1.bx, .int .i64 s.1.b, .int .i64 s.1.cx, .int .i64 s.1.cy, .bool s.2]
theorem segC_len (s : Seg) : (segC s).length = 7 := rfl
end Go.Proofs.YtgelkdcggnffeaaGreat

/- A region that draws its order, whose last operations wait for all that stand ahead of them, and whose head only reads and makes memory: its head in the text's order, its tail behind it. No program in sight. Conditions: as each states. -/
namespace Go.Proofs.YtgelkdcggnffeaaGreat
open Go.RowKit
set_option linter.unusedVariables false
set_option maxRecDepth 100000

end Go.Proofs.YtgelkdcggnffeaaGreat

