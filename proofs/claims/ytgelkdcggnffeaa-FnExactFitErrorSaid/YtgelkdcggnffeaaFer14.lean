/- The loop that is fitted to a ring: the numbers alone. Conditions: as each states. -/
import Derived.Test.YtgelkdcggnffeaaFer12
import Derived.Test.YtgelkdcggnffeaaFer13
import Derived.Test.YtgelkdcggnffeaaFer03
namespace Go.Proofs.Ytgelkdcggnffeaa
open Go.RowKit
set_option linter.unusedVariables false
set_option maxRecDepth 100000

theorem ptAt_some {L : List (Int × Int)} {i : Nat} (h : i < L.length) : L[i]? = some (ptAt L i) := by
  unfold ptAt
  rw [List.getD_eq_getElem?_getD, List.getElem?_eq_getElem h]; rfl
theorem ptAt_eq {L : List (Int × Int)} {i : Nat} {a : Int × Int} (h : L[i]? = some a) : ptAt L i = a := by
  unfold ptAt
  rw [List.getD_eq_getElem?_getD, h]; rfl
/-- a part of a path: count + 1 points from i on -/
def partP (P : List (Int × Int)) (i count : Nat) : List (Int × Int) := (P.drop i).take (count + 1)
theorem partP_len {P : List (Int × Int)} {i count : Nat} (h : i + count < P.length) : (partP P i count).length = count + 1 := by
  unfold partP; rw [List.length_take, List.length_drop]; omega
theorem partP_at {P : List (Int × Int)} {i count j : Nat} (hj : j ≤ count) : (partP P i count)[j]? = P[i + j]? := by
  unfold partP
  rw [List.getElem?_take, if_pos (by omega), List.getElem?_drop]
end Go.Proofs.Ytgelkdcggnffeaa

/- Regions, the rings along loops, the distance of both: the numbers alone. Conditions: as each states. -/
namespace Go.Proofs.Ytgelkdcggnffeaa
open Go.RowKit
set_option linter.unusedVariables false
set_option maxRecDepth 100000

abbrev Pnt := Int × Int
/-! ### edges -/
/-- the edges of a ring of some length, up to k -/
def edgesTo (L : List Pnt) (k : Nat) : List (Pnt × Pnt) := (List.range k).filterMap fun i => if ptAt L i = ptAt L ((i + 1) % L.length) then none else some (ptAt L i, ptAt L ((i + 1) % L.length))
def edgesL (L : List Pnt) : List (Pnt × Pnt) := edgesTo L L.length
theorem edgesTo_yes {L : List Pnt} {k : Nat} (h : ptAt L k ≠ ptAt L ((k + 1) % L.length)) : edgesTo L (k + 1) = edgesTo L k ++ [(ptAt L k, ptAt L ((k + 1) % L.length))] := by
  unfold edgesTo
  rw [List.range_succ, List.filterMap_append]
  simp [h]
theorem edgesTo_no {L : List Pnt} {k : Nat} (h : ptAt L k = ptAt L ((k + 1) % L.length)) : edgesTo L (k + 1) = edgesTo L k := by
  unfold edgesTo
  rw [List.range_succ, List.filterMap_append]
  simp [h]
theorem edgesTo_len (L : List Pnt) (k : Nat) : (edgesTo L k).length ≤ k := by
  unfold edgesTo
  refine Nat.le_trans (List.length_filterMap_le _ _) ?_
  simp
/-- how many edges some rings have -/
def edgeN (Rs : List (List Pnt)) : Nat := (Rs.map fun L => (edgesL L).length).sum
/-- a region is valid -/
def regOk (Rs : List (List Pnt)) : Bool := decide (Rs.length ≤ 40) && Rs.all pathOk && decide (edgeN Rs ≤ 400)
theorem regOk_is {Rs : List (List Pnt)} (h : regOk Rs = true) : Rs.length ≤ 40 ∧ (∀ L ∈ Rs, pathOk L = true) ∧ edgeN Rs ≤ 400 := by
  unfold regOk at h
  simp only [Bool.and_eq_true, decide_eq_true_eq, List.all_eq_true] at h
  exact ⟨h.1.1, h.1.2, h.2⟩
theorem regOk_many {Rs : List (List Pnt)} (h : 40 < Rs.length) : regOk Rs = false := by
  unfold regOk
  rw [decide_eq_false (by omega)]; rfl
theorem regOk_bad {Rs : List (List Pnt)} {L : List Pnt} (hL : L ∈ Rs) (h : pathOk L = false) : regOk Rs = false := by
  have : Rs.all pathOk = false := List.all_eq_false.2 ⟨L, hL, by simp [h]⟩
  unfold regOk
  rw [this]; simp
theorem regOk_end {Rs : List (List Pnt)} (h1 : Rs.length ≤ 40) (h2 : ∀ L ∈ Rs, pathOk L = true) : regOk Rs = decide (edgeN Rs ≤ 400) := by
  unfold regOk
  rw [decide_eq_true h1, List.all_eq_true.2 h2]; rfl

/-! ### the knots of a loop with those between -/
def midP (a b : Pnt) : Pnt := (rnd (a.1 + b.1) 2, rnd (a.2 + b.2) 2)
def knAt (K : List Knot) (i : Nat) : Knot := K.getD i (0, 0, false)
theorem knAt_some {K : List Knot} {i : Nat} (h : i < K.length) : K[i]? = some (knAt K i) := by
  unfold knAt
  rw [List.getD_eq_getElem?_getD, List.getElem?_eq_getElem h]; rfl
theorem knAt_eq {K : List Knot} {i : Nat} {a : Knot} (h : K[i]? = some a) : knAt K i = a := by
  unfold knAt
  rw [List.getD_eq_getElem?_getD, h]; rfl
def knP (k : Knot) : Pnt := (k.1, k.2.1)
def midK (a b : Knot) : List Knot := if a.2.2 = false ∧ b.2.2 = false then [((midP (knP a) (knP b)).1, (midP (knP a) (knP b)).2, true)] else []
def fullTo (K : List Knot) (k : Nat) : List Knot := (List.range k).flatMap fun i => knAt K i :: midK (knAt K i) (knAt K ((i + 1) % K.length))
def fullK (K : List Knot) : List Knot := fullTo K K.length ++ [knAt K 0]
theorem fullTo_succ (K : List Knot) (k : Nat) : fullTo K (k + 1) = fullTo K k ++ (knAt K k :: midK (knAt K k) (knAt K ((k + 1) % K.length))) := by
  unfold fullTo
  rw [List.range_succ, List.flatMap_append]; simp
theorem midK_len (a b : Knot) : (midK a b).length ≤ 1 := by unfold midK; split <;> simp
theorem fullTo_len (K : List Knot) (k : Nat) : k ≤ (fullTo K k).length ∧ (fullTo K k).length ≤ 2 * k := by
  induction k with
  | zero => simp [fullTo]
  | succ k ih =>
    rw [fullTo_succ, List.length_append, List.length_cons]
    have := midK_len (knAt K k) (knAt K ((k + 1) % K.length))
    omega
theorem fullK_len (K : List Knot) : K.length + 1 ≤ (fullK K).length ∧ (fullK K).length ≤ 2 * K.length + 1 := by
  have := fullTo_len K K.length
  unfold fullK
  rw [List.length_append, List.length_singleton]
  omega
theorem mid_ok {a b : Pnt} (ha : ptOk a.1 a.2 = true) (hb : ptOk b.1 b.2 = true) : ptOk (midP a b).1 (midP a b).2 = true := by
  obtain ⟨a1, a2⟩ := ptOk_iff.1 ha
  obtain ⟨b1, b2⟩ := ptOk_iff.1 hb
  refine ptOk_iff.2 ⟨?_, ?_⟩
  · exact rnd_mid (by omega) (by omega) (by omega)
  · exact rnd_mid (by omega) (by omega) (by omega)
/-- all knots are valid points -/
def KsOk (K : List Knot) : Prop := ∀ k ∈ K, ptOk k.1 k.2.1 = true
theorem fullTo_ok {K : List Knot} (h : KsOk K) {k : Nat} (hk : k ≤ K.length) : KsOk (fullTo K k) := by
  induction k with
  | zero => intro q hq; simp [fullTo] at hq
  | succ k ih =>
    intro q hq
    have hq1 : ptOk (knAt K k).1 (knAt K k).2.1 = true := h _ (List.mem_of_getElem? (knAt_some (by omega)))
    have hq2 : ptOk (knAt K ((k + 1) % K.length)).1 (knAt K ((k + 1) % K.length)).2.1 = true := h _ (List.mem_of_getElem? (knAt_some (Nat.mod_lt _ (by omega))))
    rw [fullTo_succ] at hq
    rcases List.mem_append.1 hq with hq | hq
    · exact ih (by omega) q hq
    · rcases List.mem_cons.1 hq with rfl | hq
      · exact hq1
      · unfold midK at hq
        split at hq
        · rw [List.mem_singleton] at hq
          subst hq
          exact mid_ok (a := knP (knAt K k)) (b := knP (knAt K ((k + 1) % K.length))) hq1 hq2
        · cases hq
theorem fullK_ok {K : List Knot} (h : KsOk K) (h0 : 0 < K.length) : KsOk (fullK K) := by
  intro q hq
  unfold fullK at hq
  rcases List.mem_append.1 hq with hq | hq
  · exact fullTo_ok h (Nat.le_refl _) q hq
  · rw [List.mem_singleton] at hq
    subst hq
    exact h _ (List.mem_of_getElem? (knAt_some h0))
theorem fullK_last (K : List Knot) : knAt (fullK K) ((fullK K).length - 1) = knAt K 0 := by
  unfold fullK
  apply knAt_eq
  rw [List.length_append, List.length_singleton, Nat.add_sub_cancel, List.getElem?_append_right (Nat.le_refl _), Nat.sub_self]; rfl

/-! ### segments -/
def segQ (F : List Knot) (i : Nat) : Qd := ⟨(knAt F i).1, (knAt F i).2.1, (knAt F (i + 1)).1, (knAt F (i + 1)).2.1, (knAt F (i + 2)).1, (knAt F (i + 2)).2.1⟩
/-- the points along the curve of a segment, but the last -/
def curvL (q : Qd) : Option (List Pnt) := match lvl (bendQ q) with | none => none | some l => some (flatL q (2 ^ l)).dropLast
/-- the ring along the segments from i on -/
def ringI (F : List Knot) (i : Nat) : Option (List Pnt) :=
  if i + 1 < F.length then
    if (knAt F (i + 1)).2.2 = true then match ringI F (i + 1) with | none => none | some R => some (knP (knAt F i) :: R)
    else match curvL (segQ F i) with
      | none => none
      | some P => match ringI F (i + 2) with | none => none | some R => some (P ++ R)
  else some []
termination_by F.length - i
theorem ringI_end {F : List Knot} {i : Nat} (h : F.length ≤ i + 1) : ringI F i = some [] := by rw [ringI, if_neg (by omega)]
theorem ringI_on {F : List Knot} {i : Nat} (h : i + 1 < F.length) (h1 : (knAt F (i + 1)).2.2 = true) : ringI F i = match ringI F (i + 1) with | none => none | some R => some (knP (knAt F i) :: R) := by
  rw [ringI, if_pos h, if_pos h1]
theorem ringI_bad {F : List Knot} {i : Nat} (h : i + 1 < F.length) (h1 : (knAt F (i + 1)).2.2 = false) (h2 : curvL (segQ F i) = none) : ringI F i = none := by
  rw [ringI, if_pos h, if_neg (by simp [h1]), h2]
theorem ringI_off {F : List Knot} {i : Nat} {P : List Pnt} (h : i + 1 < F.length) (h1 : (knAt F (i + 1)).2.2 = false) (h2 : curvL (segQ F i) = some P) : ringI F i = match ringI F (i + 2) with | none => none | some R => some (P ++ R) := by
  rw [ringI, if_pos h, if_neg (by simp [h1]), h2]
/-- the ring along a loop -/
def ringL (K : List Knot) : Option (List Pnt) := ringI (fullK K) 0
/-- so far -/
def ringX (out : List Pnt) (r : Option (List Pnt)) : Option (List Pnt) := match r with | none => none | some R => some (out ++ R)
theorem ringX_on {F : List Knot} {i : Nat} {out : List Pnt} (h : i + 1 < F.length) (h1 : (knAt F (i + 1)).2.2 = true) : ringX out (ringI F i) = ringX (out ++ [knP (knAt F i)]) (ringI F (i + 1)) := by
  rw [ringI_on h h1]; cases ringI F (i + 1) <;> simp [ringX]
theorem ringX_off {F : List Knot} {i : Nat} {out P : List Pnt} (h : i + 1 < F.length) (h1 : (knAt F (i + 1)).2.2 = false) (h2 : curvL (segQ F i) = some P) : ringX out (ringI F i) = ringX (out ++ P) (ringI F (i + 2)) := by
  rw [ringI_off h h1 h2]; cases ringI F (i + 2) <;> simp [ringX]
/-- the rings along loops -/
def ringsL : List (List Knot) → Option (List (List Pnt))
  | [] => some []
  | K :: Ls => match ringL K with | none => none | some R => match ringsL Ls with | none => none | some Rs => some (R :: Rs)
/-- the flattened outline: a valid region, or none -/
def flatO (Ls : List (List Knot)) : Option (List (List Pnt)) := match ringsL Ls with | none => none | some Rs => if regOk Rs = true then some Rs else none

/-! ### the distance of a region and an outline -/
def clo (L : List Pnt) : List Pnt := L ++ [ptAt L 0]
theorem clo_len (L : List Pnt) : (clo L).length = L.length + 1 := by simp [clo]
theorem within_clo {L M : List Pnt} {d : Int} (h : 0 < L.length) : withinB (clo L) M d = withinB L M d := by
  unfold withinB clo
  rw [List.all_append]
  have h1 : ptAt L 0 ∈ L := List.mem_of_getElem? (ptAt_some h)
  cases h2 : L.all (fun p => nearP M p.1 p.2 d) with
  | false => rfl
  | true =>
    have := List.all_eq_true.1 h2 _ h1
    simp [this]
/-- two rings are within a distance of one another -/
def nearD (L M : List Pnt) (d : Int) : Bool := withinB L (clo M) d && withinB M (clo L) d
theorem nearB_mono {ax ay bx b px py r s : Int} (h0 : 0 ≤ r) (h : r ≤ s) (hn : nearB ax ay bx b px py r = true) : nearB ax ay bx b px py s = true := by
  have h1 : r * r ≤ s * s := Int.mul_le_mul h h h0 (by omega)
  have h2 := Int.mul_le_mul_of_nonneg_right h1 (sqI_nonneg ax ay bx b)
  unfold nearB at hn ⊢
  simp only [Bool.or_eq_true, Bool.and_eq_true, decide_eq_true_eq] at hn ⊢
  omega
theorem nearP_mono {r s px py : Int} (h0 : 0 ≤ r) (h : r ≤ s) : ∀ {L : List Pnt}, nearP L px py r = true → nearP L px py s = true := by
  intro L
  induction L with
  | nil => intro h; exact h
  | cons a L ih =>
    intro hn
    cases L with
    | nil => exact nearB_mono h0 h hn
    | cons b L =>
      cases L with
      | nil => rw [nearP_pair] at hn ⊢; exact nearB_mono h0 h hn
      | cons c L =>
        rw [nearP_cons2 _ _ _ _ _ _ (by simp), Bool.or_eq_true] at hn ⊢
        rcases hn with hn | hn
        · exact .inl (nearB_mono h0 h hn)
        · exact .inr (ih hn)
theorem within_mono {r s : Int} (h0 : 0 ≤ r) (h : r ≤ s) {L M : List Pnt} (hn : withinB L M r = true) : withinB L M s = true := by
  unfold withinB at hn ⊢
  rw [List.all_eq_true] at hn ⊢
  exact fun p hp => nearP_mono h0 h (hn p hp)
theorem nearD_mono {r s : Int} (h0 : 0 ≤ r) (h : r ≤ s) {L M : List Pnt} (hn : nearD L M r = true) : nearD L M s = true := by
  unfold nearD at hn ⊢
  rw [Bool.and_eq_true] at hn ⊢
  exact ⟨within_mono h0 h hn.1, within_mono h0 h hn.2⟩
/-- all rings of two regions, pairwise -/
def allD (Rs Fs : List (List Pnt)) (d : Int) : Bool := (List.range Rs.length).all fun i => nearD (Rs.getD i []) (Fs.getD i []) d
/-- the least distance up to 64 -/
def leastD (Rs Fs : List (List Pnt)) : Option Nat := (List.range 65).find? fun d => allD Rs Fs (d : Int)
def feR (Rs : List (List Pnt)) (Ls : List (List Knot)) (okO : Bool) : Int × Int :=
  if regOk Rs = false ∨ okO = false ∨ Rs.length ≠ Ls.length then (0, 1) else match flatO Ls with
    | none => (0, 5)
    | some Fs => match leastD Rs Fs with | none => (0, 2) | some d => ((d : Int), 0)
theorem leastD_some {Rs Fs : List (List Pnt)} {d : Nat} (hd : d < 65) (h0 : ∀ j : Nat, j < d → allD Rs Fs (j : Int) = false) (h1 : allD Rs Fs (d : Int) = true) : leastD Rs Fs = some d := by
  unfold leastD
  rw [List.find?_eq_some_iff_append]
  refine ⟨h1, List.range d, List.range' (d + 1) (64 - d), ?_, fun a ha => by simp [h0 a (List.mem_range.1 ha)]⟩
  rw [List.range_eq_range', List.range_eq_range', show 65 = d + (1 + (64 - d)) by omega, ← List.range'_append_1, Nat.zero_add, ← List.range'_append_1]; rfl
theorem leastD_none {Rs Fs : List (List Pnt)} (h0 : ∀ j : Nat, j < 65 → allD Rs Fs (j : Int) = false) : leastD Rs Fs = none := by
  unfold leastD
  rw [List.find?_eq_none]
  intro x hx
  simp [h0 x (List.mem_range.1 hx)]
end Go.Proofs.Ytgelkdcggnffeaa

