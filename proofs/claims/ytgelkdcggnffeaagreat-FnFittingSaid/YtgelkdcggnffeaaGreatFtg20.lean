/- Regions, the rings along loops, the distance of both: the numbers alone. Conditions: as each states. -/
import Derived.Test.YtgelkdcggnffeaaGreatFtg19
import Derived.Test.YtgelkdcggnffeaaGreatFtg05
import Derived.Test.YtgelkdcggnffeaaGreatFtg12
namespace Go.Proofs.YtgelkdcggnffeaaGreat
open Go.RowKit
set_option linter.unusedVariables false
set_option maxRecDepth 100000

abbrev Pnt := Int × Int
/-! ### edges -/
/-- the edges of a ring of some length, up to k -/
def edgesTo (L : List Pnt) (k : Nat) : List (Pnt × Pnt) := (List.range k).filterMap fun i => if ptAt L i = ptAt L ((i + 1) % L.length) then none else some (ptAt L i, ptAt L ((i + 1) % L.length))
def edgesL (L : List Pnt) : List (Pnt × Pnt) := edgesTo L L.length
theorem edgesTo_yes {L : List Pnt} {k : Nat} (h : ptAt L k ≠ ptAt L ((k + 1) % L.length)) : edgesTo L (k + 1) = edgesTo L k ++ [(ptAt L k, ptAt L ((k + 1) % L.length))] := by
  unfold edgesTo
  rw [List.range_succ, List.filterMap_append]
  simp [h]
theorem edgesTo_no {L : List Pnt} {k : Nat} (h : ptAt L k = ptAt L ((k + 1) % L.length)) : edgesTo L (k + 1) = edgesTo L k := by
  unfold edgesTo
  rw [List.range_succ, List.filterMap_append]
  simp [h]
theorem edgesTo_len (L : List Pnt) (k : Nat) : (edgesTo L k).length ≤ k := by
  unfold edgesTo
  refine Nat.le_trans (List.length_filterMap_le _ _) ?_
  simp
/-- how many edges some rings have -/
def edgeN (Rs : List (List Pnt)) : Nat := (Rs.map fun L => (edgesL L).length).sum
/-- a region is valid -/
def regOk (Rs : List (List Pnt)) : Bool := decide (Rs.length ≤ 40) && Rs.all pathOk && decide (edgeN Rs ≤ 400)
theorem regOk_is {Rs : List (List Pnt)} (h : regOk Rs = true) : Rs.length ≤ 40 ∧ (∀ L ∈ Rs, pathOk L = true) ∧ edgeN Rs ≤ 400 := by
  unfold regOk at h
  simp only [Bool.and_eq_true, decide_eq_true_eq, List.all_eq_true] at h
  exact ⟨h.1.1, h.1.2, h.2⟩
theorem regOk_many {Rs : List (List Pnt)} (h : 40 < Rs.length) : regOk Rs = false := by
  unfold regOk
  rw [decide_eq_false (by omega)]; rfl
theorem regOk_bad {Rs : List (List Pnt)} {L : List Pnt} (hL : L ∈ Rs) (h : pathOk L = false) : regOk Rs = false := by
  have : Rs.all pathOk = false := List.all_eq_false.2 ⟨L, hL, by simp [h]⟩
  unfold regOk
  rw [this]; simp
theorem regOk_end {Rs : List (List Pnt)} (h1 : Rs.length ≤ 40) (h2 : ∀ L ∈ Rs, pathOk L = true) : regOk Rs = decide (edgeN Rs ≤ 400) := by
  unfold regOk
  rw [decide_eq_true h1, List.all_eq_true.2 h2]; rfl

/-! ### the knots of a loop with those between -/
def midP (a b : Pnt) : Pnt := (rnd (a.1 + b.1) 2, rnd (a.2 + b.2) 2)
def knAt (K : List Knot) (i : Nat) : Knot := K.getD i (0, 0, false)
theorem knAt_some {K : List Knot} {i : Nat} (h : i < K.length) : K[i]? = some (knAt K i) := by
  unfold knAt
  rw [List.getD_eq_getElem?_getD, List.getElem?_eq_getElem h]; rfl
theorem knAt_eq {K : List Knot} {i : Nat} {a : Knot} (h : K[i]? = some a) : knAt K i = a := by
  unfold knAt
  rw [List.getD_eq_getElem?_getD, h]; rfl
def knP (k : Knot) : Pnt := (k.1, k.2.1)
def midK (a b : Knot) : List Knot := if a.2.2 = false ∧ b.2.2 = false then [((midP (knP a) (knP b)).1, (midP (knP a) (knP b)).2, true)] else []
def fullTo (K : List Knot) (k : Nat) : List Knot := (List.range k).flatMap fun i => knAt K i :: midK (knAt K i) (knAt K ((i + 1) % K.length))
def fullK (K : List Knot) : List Knot := fullTo K K.length ++ [knAt K 0]
theorem fullTo_succ (K : List Knot) (k : Nat) : fullTo K (k + 1) = fullTo K k ++ (knAt K k :: midK (knAt K k) (knAt K ((k + 1) % K.length))) := by
  unfold fullTo
  rw [List.range_succ, List.flatMap_append]; simp
theorem midK_len (a b : Knot) : (midK a b).length ≤ 1 := by unfold midK; split <;> simp
theorem fullTo_len (K : List Knot) (k : Nat) : k ≤ (fullTo K k).length ∧ (fullTo K k).length ≤ 2 * k := by
  induction k with
  | zero => simp [fullTo]
  | succ k ih =>
    rw [fullTo_succ, List.length_append, List.length_cons]
    have := midK_len (knAt K k) (knAt K ((k + 1) % K.length))
    omega
theorem fullK_len (K : List Knot) : K.length + 1 ≤ (fullK K).length ∧ (fullK K).length ≤ 2 * K.length + 1 := by
  have := fullTo_len K K.length
  unfold fullK
  rw [List.length_append, List.length_singleton]
  omega
theorem mid_ok {a b : Pnt} (ha : ptOk a.1 a.2 = true) (hb : ptOk b.1 b.2 = true) : ptOk (midP a b).1 (midP a b).2 = true := by
  obtain ⟨a1, a2⟩ := ptOk_iff.1 ha
  obtain ⟨b1, b2⟩ := ptOk_iff.1 hb
  refine ptOk_iff.2 ⟨?_, ?_⟩
  · exact rnd_mid (by omega) (by omega) (by omega)
  · exact rnd_mid (by omega) (by omega) (by omega)
/-- all knots are valid points -/
def KsOk (K : List Knot) : Prop := ∀ k ∈ K, ptOk k.1 k.2.1 = true
theorem fullTo_ok {K : List Knot} (h : KsOk K) {k : Nat} (hk : k ≤ K.length) : KsOk (fullTo K k) := by
  induction k with
  | zero => intro q hq; simp [fullTo] at hq
  | succ k ih =>
    intro q hq
    have hq1 : ptOk (knAt K k).1 (knAt K k).2.1 = true := h _ (List.mem_of_getElem? (knAt_some (by omega)))
    have hq2 : ptOk (knAt K ((k + 1) % K.length)).1 (knAt K ((k + 1) % K.length)).2.1 = true := h _ (List.mem_of_getElem? (knAt_some (Nat.mod_lt _ (by omega))))
    rw [fullTo_succ] at hq
    rcases List.mem_append.1 hq with hq | hq
    · exact ih (by omega) q hq
    · rcases List.mem_cons.1 hq with rfl | hq
      · exact hq1
      · unfold midK at hq
        split at hq
        · rw [List.mem_singleton] at hq
          subst hq
          exact mid_ok (a := knP (knAt K k)) (b := knP (knAt K ((k + 1) % K.length))) hq1 hq2
        · cases hq
theorem fullK_ok {K : List Knot} (h : KsOk K) (h0 : 0 < K.length) : KsOk (fullK K) := by
  intro q hq
  unfold fullK at hq
  rcases List.mem_append.1 hq with hq | hq
  · exact fullTo_ok h (Nat.le_refl _) q hq
  · rw [List.mem_singleton] at hq
    subst hq
    exact h _ (List.mem_of_getElem? (knAt_some h0))
theorem fullK_last (K : List Knot) : knAt (fullK K) ((fullK K).length - 1) = knAt K 0 := by
  unfold fullK
  apply knAt_eq
  rw [List.length_append, List.length_singleton, Nat.add_sub_cancel, List.getElem?_append_right (Nat.le_refl _), Nat.sub_self]; rfl

/-! ### segments -/
def segQ (F : List Knot) (i : Nat) : Qd := ⟨(knAt F i).1, (knAt F i).2.1, (knAt F (i + 1)).1, (knAt F (i + 1)).2.1, (knAt F (i + 2)).1, (knAt F (i + 2)).2.1⟩
/-- the points along the curve of a segment, but the last -/
def curvL (q : Qd) : Option (List Pnt) := match lvl (bendQ q) with | none => none | some l => some (flatL q (2 ^ l)).dropLast
/-- the ring along the segments from i on -/
def ringI (F : List Knot) (i : Nat) : Option (List Pnt) :=
  if i + 1 < F.length then
    if (knAt F (i + 1)).2.2 = true then match ringI F (i + 1) with | none => none | some R => some (knP (knAt F i) :: R)
    else match curvL (segQ F i) with
      | none => none
      | some P => match ringI F (i + 2) with | none => none | some R => some (P ++ R)
  else some []
termination_by F.length - i
theorem ringI_end {F : List Knot} {i : Nat} (h : F.length ≤ i + 1) : ringI F i = some [] := by rw [ringI, if_neg (by omega)]
theorem ringI_on {F : List Knot} {i : Nat} (h : i + 1 < F.length) (h1 : (knAt F (i + 1)).2.2 = true) : ringI F i = match ringI F (i + 1) with | none => none | some R => some (knP (knAt F i) :: R) := by
  rw [ringI, if_pos h, if_pos h1]
theorem ringI_bad {F : List Knot} {i : Nat} (h : i + 1 < F.length) (h1 : (knAt F (i + 1)).2.2 = false) (h2 : curvL (segQ F i) = none) : ringI F i = none := by
  rw [ringI, if_pos h, if_neg (by simp [h1]), h2]
theorem ringI_off {F : List Knot} {i : Nat} {P : List Pnt} (h : i + 1 < F.length) (h1 : (knAt F (i + 1)).2.2 = false) (h2 : curvL (segQ F i) = some P) : ringI F i = match ringI F (i + 2) with | none => none | some R => some (P ++ R) := by
  rw [ringI, if_pos h, if_neg (by simp [h1]), h2]
/-- the ring along a loop -/
def ringL (K : List Knot) : Option (List Pnt) := ringI (fullK K) 0
/-- so far -/
def ringX (out : List Pnt) (r : Option (List Pnt)) : Option (List Pnt) := match r with | none => none | some R => some (out ++ R)
theorem ringX_on {F : List Knot} {i : Nat} {out : List Pnt} (h : i + 1 < F.length) (h1 : (knAt F (i + 1)).2.2 = true) : ringX out (ringI F i) = ringX (out ++ [knP (knAt F i)]) (ringI F (i + 1)) := by
  rw [ringI_on h h1]; cases ringI F (i + 1) <;> simp [ringX]
theorem ringX_off {F : List Knot} {i : Nat} {out P : List Pnt} (h : i + 1 < F.length) (h1 : (knAt F (i + 1)).2.2 = false) (h2 : curvL (segQ F i) = some P) : ringX out (ringI F i) = ringX (out ++ P) (ringI F (i + 2)) := by
  rw [ringI_off h h1 h2]; cases ringI F (i + 2) <;> simp [ringX]
/-- the rings along loops -/
def ringsL : List (List Knot) → Option (List (List Pnt))
  | [] => some []
  | K :: Ls => match ringL K with | none => none | some R => match ringsL Ls with | none => none | some Rs => some (R :: Rs)
/-- the flattened outline: a valid region, or none -/
def flatO (Ls : List (List Knot)) : Option (List (List Pnt)) := match ringsL Ls with | none => none | some Rs => if regOk Rs = true then some Rs else none

/-! ### the distance of a region and an outline -/
def clo (L : List Pnt) : List Pnt := L ++ [ptAt L 0]
theorem clo_len (L : List Pnt) : (clo L).length = L.length + 1 := by simp [clo]
theorem within_clo {L M : List Pnt} {d : Int} (h : 0 < L.length) : withinB (clo L) M d = withinB L M d := by
  unfold withinB clo
  rw [List.all_append]
  have h1 : ptAt L 0 ∈ L := List.mem_of_getElem? (ptAt_some h)
  cases h2 : L.all (fun p => nearP M p.1 p.2 d) with
  | false => rfl
  | true =>
    have := List.all_eq_true.1 h2 _ h1
    simp [this]
/-- two rings are within a distance of one another -/
def nearD (L M : List Pnt) (d : Int) : Bool := withinB L (clo M) d && withinB M (clo L) d
theorem nearB_mono {ax ay bx b px py r s : Int} (h0 : 0 ≤ r) (h : r ≤ s) (hn : nearB ax ay bx b px py r = true) : nearB ax ay bx b px py s = true := by
  have h1 : r * r ≤ s * s := Int.mul_le_mul h h h0 (by omega)
  have h2 := Int.mul_le_mul_of_nonneg_right h1 (sqI_nonneg ax ay bx b)
  unfold nearB at hn ⊢
  simp only [Bool.or_eq_true, Bool.and_eq_true, decide_eq_true_eq] at hn ⊢
  omega
theorem nearP_mono {r s px py : Int} (h0 : 0 ≤ r) (h : r ≤ s) : ∀ {L : List Pnt}, nearP L px py r = true → nearP L px py s = true := by
  intro L
  induction L with
  | nil => intro h; exact h
  | cons a L ih =>
    intro hn
    cases L with
    | nil => exact nearB_mono h0 h hn
    | cons b L =>
      cases L with
      | nil => rw [nearP_pair] at hn ⊢; exact nearB_mono h0 h hn
      | cons c L =>
        rw [nearP_cons2 _ _ _ _ _ _ (by simp), Bool.or_eq_true] at hn ⊢
        rcases hn with hn | hn
        · exact .inl (nearB_mono h0 h hn)
        · exact .inr (ih hn)
theorem within_mono {r s : Int} (h0 : 0 ≤ r) (h : r ≤ s) {L M : List Pnt} (hn : withinB L M r = true) : withinB L M s = true := by
  unfold withinB at hn ⊢
  rw [List.all_eq_true] at hn ⊢
  exact fun p hp => nearP_mono h0 h (hn p hp)
theorem nearD_mono {r s : Int} (h0 : 0 ≤ r) (h : r ≤ s) {L M : List Pnt} (hn : nearD L M r = true) : nearD L M s = true := by
  unfold nearD at hn ⊢
  rw [Bool.and_eq_true] at hn ⊢
  exact ⟨within_mono h0 h hn.1, within_mono h0 h hn.2⟩
/-- all rings of two regions, pairwise -/
def allD (Rs Fs : List (List Pnt)) (d : Int) : Bool := (List.range Rs.length).all fun i => nearD (Rs.getD i []) (Fs.getD i []) d
/-- the least distance up to 64 -/
def leastD (Rs Fs : List (List Pnt)) : Option Nat := (List.range 65).find? fun d => allD Rs Fs (d : Int)
def feR (Rs : List (List Pnt)) (Ls : List (List Knot)) (okO : Bool) : Int × Int :=
  if regOk Rs = false ∨ okO = false ∨ Rs.length ≠ Ls.length then (0, 1) else match flatO Ls with
    | none => (0, 5)
    | some Fs => match leastD Rs Fs with | none => (0, 2) | some d => ((d : Int), 0)
theorem leastD_some {Rs Fs : List (List Pnt)} {d : Nat} (hd : d < 65) (h0 : ∀ j : Nat, j < d → allD Rs Fs (j : Int) = false) (h1 : allD Rs Fs (d : Int) = true) : leastD Rs Fs = some d := by
  unfold leastD
  rw [List.find?_eq_some_iff_append]
  refine ⟨h1, List.range d, List.range' (d + 1) (64 - d), ?_, fun a ha => by simp [h0 a (List.mem_range.1 ha)]⟩
  rw [List.range_eq_range', List.range_eq_range', show 65 = d + (1 + (64 - d)) by omega, ← List.range'_append_1, Nat.zero_add, ← List.range'_append_1]; rfl
theorem leastD_none {Rs Fs : List (List Pnt)} (h0 : ∀ j : Nat, j < 65 → allD Rs Fs (j : Int) = false) : leastD Rs Fs = none := by
  unfold leastD
  rw [List.find?_eq_none]
  intro x hx
  simp [h0 x (List.mem_range.1 hx)]
end Go.Proofs.YtgelkdcggnffeaaGreat

/- A drawn loop: its points are bounded, its first knot lies on the curve. Printed by mk_ftd.py. Conditions: as each states. -/
namespace Go.Proofs.YtgelkdcggnffeaaGreat
open Go.RowKit
set_option linter.unusedVariables false
set_option maxRecDepth 100000

/-- the points of knots are bounded -/
def KIn (m : Int) (K : List Knot) : Prop := ∀ q ∈ K, InSq m (q.1, q.2.1)
theorem headK_in {m : Int} {K : List Knot} (h : KIn m K) : KIn m (headK K) := by
  cases K with
  | nil => exact h
  | cons k K =>
    intro q hq
    rcases List.mem_cons.1 hq with rfl | hq
    · exact h k (List.mem_cons_self ..)
    · exact h q (List.mem_cons_of_mem _ hq)
theorem headK_on {K : List Knot} (h : 1 ≤ K.length) : (knAt (headK K) 0).2.2 = true := by
  cases K with
  | nil => simp at h
  | cons k K => rfl

set_option maxHeartbeats 4000000 in
theorem l10DrawLoopV_any (b k : Nat) (m : Int) (w : World) (hs : Src0 w b k) (hk : k ≤ 999990000) (hm0 : 0 ≤ m) (hm1 : m ≤ 100000) :
    Calls Tryz.prog 28 #[.pointer (some ⟨b, 0, none⟩), .int .i64 m] w fun e w' => ∃ (A' : Option Addr) (n' c' k' : Nat) (K : List Knot), e = .returned (.agg #[.slice A' n' c']) ∧ K.length = n' ∧ (KIn m K ∧ (knAt K 0).2.2 = true) ∧ 1 ≤ n' ∧ n' ≤ 9 ∧
      w'.ownsRow w.heap.size 73 3 (.slice A' n' c') n' (K.flatMap knotC) ∧ Src0 w' b k' ∧ k' ≤ k + 200 ∧ w.grownBy w' (some b) := by
  have hbl := hs.lt
  have hnew := heap_new2 w (.cells #[.slice none 0 0] 49 (0, 0)) (.cells #[.slice none 0 0] 49 (0, 0))
  have hB0 : Below w.heap.size w ((w.alloc (.cells #[.slice none 0 0] 49 (0, 0))).alloc (.cells #[.slice none 0 0] 49 (0, 0))) := Go.Joins.below_alloc2 _ _ _
  have hz0 : ((w.alloc (.cells #[.slice none 0 0] 49 (0, 0))).alloc (.cells #[.slice none 0 0] 49 (0, 0))).heap.size = w.heap.size + 2 := by simp
  have hs0 := Lib.hid (hs.kept hB0 hbl)
  clear hs
  go_enter Tryz.func28, Tryz.ntmps28
  go_wp2_with fail
  generalize ((w.alloc (.cells #[.slice none 0 0] 49 (0, 0))).alloc (.cells #[.slice none 0 0] 49 (0, 0))) = w0 at *
  refine (pick_any b k 9 w0 hs0.out (by omega)).mono ?_
  rintro e w1 ⟨r, k1, rfl, hr0, hr1, _, hs1, hk1, hg1⟩
  have hr9 := hr1 (by omega)
  have hz1 := hg1.size
  have HX1 := Lib.hid ((hg1.block w.heap.size (by omega) (by intro e; injection e with e; omega)).trans hnew.1)
  have HO1 := Lib.hid ((hg1.block (w.heap.size + 1) (by omega) (by intro e; injection e with e; omega)).trans hnew.2)
  have hG1 := grown_tr (grown_of hB0 (some b)) hg1
  replace hs1 := Lib.hid hs1
  obtain ⟨N, hN⟩ : ∃ N : Nat, (N : Int) = 1 + r := ⟨(1 + r).toNat, by omega⟩
  clear hr1 hnew hg1 hB0 hs0
  go_wp2_with fail
  go_loopw [6] (fun i wr => ∃ (t k2 : Nat) (Ao : Option Addr) (co : Nat) (K : List Knot), i = .int .i64 t ∧ K.length + t = N ∧ KIn m K ∧ wr.heap[w.heap.size + 1]? = some (.cells #[.slice Ao K.length co] 49 (0, 0)) ∧ wr.heap[w.heap.size]? = some (.cells #[.slice none 0 0] 49 (0, 0)) ∧
    wr.ownsRow (w.heap.size + 2) 73 3 (.slice Ao K.length co) K.length (K.flatMap knotC) ∧ Src0 wr b k2 ∧ k2 + 12 * t ≤ k + 2 + 12 * N ∧ w.heap.size + 2 ≤ wr.heap.size ∧ w.grownBy wr (some b)) (fun i wr => (intOf i).toNat)
  case atStart => exact ⟨N, k1, none, 0, [], by rw [hN], by simp, (show KIn m [] from fun q hq => by cases hq), HO1.out, HX1.out, World.ownsRow_nil _ _ _ _, hs1.out, by omega, by omega, hG1⟩
  case round =>
    clear HX1 HO1 hG1 hs1 hz1
    obtain ⟨t, k2, Ao, co, K, rfl, hKt, hKS, HO, HX, hrow, hsr, hk2, hzr, hG⟩ := hrel
    have c1 : wr.cell? ⟨w.heap.size + 1, 0, none⟩ = some (.slice Ao K.length co) := by rw [Go.Joins.cell_of_block HO]; rfl
    have f1 : ∀ o, wr.frozen? ⟨w.heap.size + 1, o, none⟩ = false := Go.Joins.unfrozen_of_block HO
    have hXl : w.heap.size + 1 < wr.heap.size := by omega
    have hbr := hsr.lt
    replace HO := Lib.hid HO
    replace hKS := Lib.hid hKS
    replace HX := Lib.hid HX
    by_cases ht : 0 < t
    · have hti : (0 : Int) < (t : Int) := by omega
      have hcD := Lib.hid (l03Draw_any b k2 m wr.drew hsr.drew (by omega) hm0 (by omega))
      have hcP := Lib.hid (fun (k3 : Nat) (W : World) (h : Src0 W b k3) (hk : k3 ≤ 999999990) => pick_any b k3 5 W h hk)
      replace hrow := Lib.hid hrow
      go_wp2_with fail
      go_region_law (first
        | (refine stepAppAt rfl (.tmp 16) (.tmp 24) elemKnot rfl (v := .slice Ao K.length co) (n := K.length) (xs := K.flatMap knotC) rfl ((own_grown hrow.out hG4.out (by omega)).alloc _) rfl (src_at (cs := [.int .i64 x, .int .i64 y, .bool (decide (1 < r4))]) rfl (by simp [Value.oneCell']) (by simp)) (by omega) (by omega) (by simp; omega) (K.length + 1) rfl ?_; intro A5 c5 w5 ho5 hg5; have hne : ∀ g, g < w.heap.size + 2 → (Value.slice Ao K.length co).ownBlock ≠ some g := (fun g hg e => by have := (hrow.out.lt _ e).1; omega); have hk5 : ∀ g, g < w.heap.size + 2 → w5.heap[g]? = w4.heap[g]? := (fun g hg => (hg5.block g (by simp; omega) (fun e => hne g hg e.symm)).trans (Below.heap_alloc _ _ _ (by omega))); have q5 : w5.cell? ⟨w.heap.size + 1, 0, none⟩ = some (.slice Ao K.length co) := ((World.cell?_of_block (hk5 (w.heap.size + 1) (by omega))).trans q4); have f5 : ∀ o, w5.frozen? ⟨w.heap.size + 1, o, none⟩ = false := (fun o => (World.frozen?_of_block (hk5 (w.heap.size + 1) (by omega))).trans ((World.frozen?_of_block H4.out).trans (f1 o))); have hz5 : w4.heap.size + 1 ≤ w5.heap.size := (by have := hg5.size; simp at this; exact this); replace hk5 := Lib.hid hk5; replace ho5 := Lib.hid ho5; replace hg5 := Lib.hid hg5; clear hne)
        | (go_simp; go_at_call 51; refine hcD.out.mono ?_; rintro e w3 ⟨x, y, k3, rfl, hin, hs3, hk3, hg3⟩; have hz3 : wr.heap.size ≤ w3.heap.size := hg3.size; have H3 : w3.heap[w.heap.size + 1]? = wr.heap[w.heap.size + 1]? := hg3.block (w.heap.size + 1) hXl (by intro e; injection e with e; omega); have q3 : w3.cell? ⟨w.heap.size + 1, 0, none⟩ = some (.slice Ao K.length co) := (World.cell?_of_block H3).trans c1; have q3l : w.heap.size + 1 < w3.heap.size := (by omega); replace H3 := Lib.hid H3; replace hg3 := Lib.hid hg3; replace hs3 := Lib.hid hs3; replace hin := Lib.hid hin; dsimp only)
        | (go_simp; go_at_call 31; refine (hcP.out k3 w3 hs3.out (by omega)).mono ?_; rintro e w4 ⟨r4, k4, rfl, _, _, _, hs4, hk4, hg4⟩; have hz4 : w3.heap.size ≤ w4.heap.size := hg4.size; have hG4 : Hid (wr.grownBy w4 (some b)) := grown_tr (show wr.grownBy w3 (some b) from ⟨hg3.out.os, hg3.out.tape, hg3.out.output, hg3.out.size, hg3.out.block⟩) hg4; have H4 : Hid (w4.heap[w.heap.size + 1]? = wr.heap[w.heap.size + 1]?) := (hg4.block (w.heap.size + 1) (by omega) (by intro e; injection e with e; omega)).trans H3.out; have q4 : w4.cell? ⟨w.heap.size + 1, 0, none⟩ = some (.slice Ao K.length co) := (World.cell?_of_block H4.out).trans c1; have q4l : w.heap.size + 1 < w4.heap.size := (by omega); replace hs4 := Lib.hid hs4; clear hg4; dsimp only))
      all_goals
        go_wp2_with fail
        go_roundw
        case rel =>
          have hgg := hg5.out
          refine ⟨t - 1, k4, A5, c5, K ++ [(x, y, decide (1 < r4))], by go_num, by simp; omega, (show KIn m (K ++ [(x, y, decide (1 < r4))]) from fun q hq => by
            rcases List.mem_append.1 hq with hq | hq
            · exact hKS.out q hq
            · rw [List.mem_singleton] at hq; subst hq; exact hin.out), ?_, ?_, ?_, ?_, by omega, by simp; omega, ?_⟩
          · rw [List.length_append]; exact Go.Joins.block_setCell ((hk5.out _ (by omega)).trans (H4.out.trans HO.out)) _
          · exact (Below.heap_setCell _ _ _ _ (by simp)).trans ((hk5.out _ (by omega)).trans ((hG4.out.block w.heap.size (by omega) (by intro e; injection e with e; omega)).trans HX.out))
          · rw [List.length_append, List.flatMap_append]
            exact ownsRow_setCell_below ho5.out (by simp) _
          · exact (hs4.out.keepL fun g hg => hk5.out g (by omega)).set (by omega)
          · refine grown_setO ⟨hgg.os.trans (hG4.out.os.trans hG.os), hgg.tape.trans (hG4.out.tape.trans hG.tape), hgg.output.trans (hG4.out.output.trans hG.output), by omega, fun i hi hn => ?_⟩ (by omega) _ _
            exact (hk5.out i (by omega)).trans ((hG4.out.block i (by omega) hn).trans (hG.block i hi hn))
        case measure => simp [intOf]; omega
    · have ht0 : t = 0 := by omega
      have hKN : K.length = N := by omega
      have hN1 : 1 ≤ N := by omega
      have hN9 : N ≤ 9 := by omega
      have hti : ¬ (0 : Int) < (t : Int) := by omega
      obtain ⟨g, hA, hgB, hgl, hnc, hcell, hfr⟩ := own_at hrow (by omega)
      subst hA
      have e2 := hcell 2 (by omega)
      rw [List.getElem?_eq_getElem (by rw [hrow.1]; omega)] at e2
      have ef := hfr 2
      have hsto := hrow.stored 2 (.bool true)
      generalize (K.flatMap knotC)[2]'(by rw [hrow.1]; omega) = v2 at e2
      have hgX : ¬ g = w.heap.size + 1 := by omega
      have hgX2 : ¬ w.heap.size + 1 = g := by omega
      have r0 : wr.cell? ⟨w.heap.size, 0, none⟩ = some (.slice none 0 0) := by rw [Go.Joins.cell_of_block HX.out]; rfl
      have rf : ∀ o, wr.frozen? ⟨w.heap.size, o, none⟩ = false := Go.Joins.unfrozen_of_block HX.out
      have rl : w.heap.size < wr.heap.size := by omega
      have hgX3 : ¬ g = w.heap.size := by omega
      have hgX4 : ¬ w.heap.size = g := by omega
      have hK0 : (0 : Int) < (K.length : Int) := by omega
      replace hrow := Lib.hid hrow
      replace hsto := Lib.hid hsto
      replace ht0 := Lib.hid ht0
      replace hKN := Lib.hid hKN
      replace hKt := Lib.hid hKt
      clear hcell hfr hnc
      go_wp2_with fail
      have hsame : ∀ i, i < w.heap.size → ((wr.setCell ⟨g, 2, none⟩ (.bool true)).setCell ⟨w.heap.size, 0, none⟩ (.slice (some ⟨g, 0, none⟩) K.length co)).heap[i]? = wr.heap[i]? := fun i hi =>
        (Below.heap_setCell _ _ _ _ (by simp; omega)).trans (Below.heap_setCell _ _ _ _ (by simp; omega))
      refine bodyPost_ret (v := .agg #[.slice (some ⟨g, 0, none⟩) K.length co]) (by simp [results, Tryz.results28, go_sem, r0]) rfl ⟨_, _, _, rfl, k2, headK K, by rw [headK_len], ⟨headK_in hKS.out, headK_on (by have := hKN.out; omega)⟩, by have := hKN.out; omega, by have := hKN.out; omega, ?_, ?_, by omega, ?_⟩
      · rw [← headK_cells (by have := hKN.out; omega)]
        exact own_lower (ownsRow_setCell_below hsto.out.1 (by simp) _) (by omega)
      · exact hsr.keepL fun i hi => hsame i (by omega)
      · exact ⟨hG.os, hG.tape, hG.output, by simp; omega, fun i hi hn => (hsame i hi).trans (hG.block i hi hn)⟩
end Go.Proofs.YtgelkdcggnffeaaGreat

