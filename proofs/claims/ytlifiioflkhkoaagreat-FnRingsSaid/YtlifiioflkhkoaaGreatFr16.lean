/- Merging in place: the numbers alone. Conditions: as each states. -/
import Derived.Shelf.SlSortCmp.KitK
import Derived.Sort.LotA
import Derived.BigQuiet
import Derived.StillTailTactics
import Derived.Lib.Hide
import Derived.Laws.BitsLemmas
import Derived.Test.YtlifiioflkhkoaaGreatFr06
import Derived.Test.YtlifiioflkhkoaaGreatFr02
import Derived.Test.YtlifiioflkhkoaaGreatFr05
import Derived.Test.YtlifiioflkhkoaaGreatFr12
namespace Go.Proofs.YtlifiioflkhkoaaGreat
open Go.Sort
set_option linter.unusedVariables false
set_option maxRecDepth 100000
set_option linter.unusedSectionVars false
variable {α : Type}

/-- in order -/
def SortedL (lt : α → α → Bool) (L : List α) : Prop := L.Pairwise fun x y => lt y x = false
def leOf (lt : α → α → Bool) (x y : α) : Bool := !lt y x
def mrg (lt : α → α → Bool) (X Y : List α) : List α := List.merge X Y (leOf lt)
theorem mrg_nil_right (lt : α → α → Bool) (X : List α) : mrg lt X [] = X := by simp [mrg]
theorem mrg_nil_left (lt : α → α → Bool) (Y : List α) : mrg lt [] Y = Y := by simp [mrg]
theorem mrg_left {lt : α → α → Bool} {x y : α} (X Y : List α) (h : lt y x = false) : mrg lt (x :: X) (y :: Y) = x :: mrg lt X (y :: Y) := by
  unfold mrg
  rw [List.cons_merge_cons_pos]
  simp [leOf, h]
theorem mrg_right {lt : α → α → Bool} {x y : α} (X Y : List α) (h : lt y x = true) : mrg lt (x :: X) (y :: Y) = y :: mrg lt (x :: X) Y := by
  unfold mrg
  rw [List.cons_merge_cons_neg]
  simp [leOf, h]
theorem mrg_len (lt : α → α → Bool) (X Y : List α) : (mrg lt X Y).length = X.length + Y.length := by
  unfold mrg
  exact List.length_merge ..
theorem mrg_perm (lt : α → α → Bool) (X Y : List α) : (mrg lt X Y).Perm (X ++ Y) := List.merge_perm_append _
/-- at a cut: what is left of it comes first -/
theorem mrg_split {lt : α → α → Bool} : ∀ (A1 B1 : List α) {A2 B2 : List α}, (∀ a ∈ A1, ∀ b ∈ B2, lt b a = false) → (∀ b ∈ B1, ∀ a ∈ A2, lt b a = true) →
    mrg lt (A1 ++ A2) (B1 ++ B2) = mrg lt A1 B1 ++ mrg lt A2 B2
  | [], [], A2, B2, _, _ => by simp [mrg_nil_left]
  | a :: A1, [], A2, B2, h1, h2 => by
    match B2 with
    | [] => simp [mrg_nil_right]
    | b :: B2 =>
      have ih := mrg_split A1 [] (A2 := A2) (B2 := b :: B2) (fun a' ha => h1 a' (List.mem_cons_of_mem _ ha)) h2
      simp only [List.nil_append, List.cons_append, mrg_nil_right] at ih ⊢
      rw [mrg_left _ _ (h1 a List.mem_cons_self b List.mem_cons_self), ih]
  | [], b :: B1, A2, B2, h1, h2 => by
    match A2 with
    | [] => simp [mrg_nil_left]
    | a :: A2 =>
      have ih := mrg_split [] B1 (A2 := a :: A2) (B2 := B2) h1 (fun b' hb => h2 b' (List.mem_cons_of_mem _ hb))
      simp only [List.nil_append, List.cons_append, mrg_nil_left] at ih ⊢
      rw [mrg_right _ _ (h2 b List.mem_cons_self a List.mem_cons_self), ih]
  | a :: A1, b :: B1, A2, B2, h1, h2 => by
    cases h : lt b a with
    | false =>
      have ih := mrg_split A1 (b :: B1) (A2 := A2) (B2 := B2) (fun a' ha => h1 a' (List.mem_cons_of_mem _ ha)) h2
      simp only [List.cons_append] at ih ⊢
      rw [mrg_left _ _ h, mrg_left _ _ h, ih, List.cons_append]
    | true =>
      have ih := mrg_split (a :: A1) B1 (A2 := A2) (B2 := B2) h1 (fun b' hb => h2 b' (List.mem_cons_of_mem _ hb))
      simp only [List.cons_append] at ih ⊢
      rw [mrg_right _ _ h, mrg_right _ _ h, ih, List.cons_append]
theorem mrg_sorted {lt : α → α → Bool} (hO : SWO lt) {X Y : List α} (hX : SortedL lt X) (hY : SortedL lt Y) : SortedL lt (mrg lt X Y) := by
  unfold SortedL mrg at *
  have := List.pairwise_merge (le := leOf lt) (fun a b c h1 h2 => by
      simp only [leOf, Bool.not_eq_true'] at h1 h2 ⊢
      exact hO.ntrans _ _ _ h2 h1) (fun a b => by
      simp only [leOf, Bool.or_eq_true, Bool.not_eq_true']
      cases h : lt b a with
      | false => exact Or.inl rfl
      | true =>
        right
        cases h' : lt a b with
        | false => rfl
        | true => have := hO.trans _ _ _ h h'; rw [hO.irrefl] at this; cases this) X Y
    (hX.imp fun h => by simp [leOf, h]) (hY.imp fun h => by simp [leOf, h])
  exact this.imp fun h => by simpa [leOf] using h

/-! ### lists in an array -/
variable [Inhabited α]
theorem at_list (d : Array α) (i : Nat) : d[i]! = d.toList[i]! := by rw [List.getElem!_eq_getElem?_getD, Array.getElem!_eq_getD, Array.getD_eq_getD_getElem?, Array.getElem?_toList]
theorem at_mid {d : Array α} {A B : List α} {x : α} (h : d.toList = A ++ x :: B) : d[A.length]! = x := by
  rw [at_list, h]; simp
theorem at_mid' {d : Array α} {A B : List α} {x : α} {i : Nat} (h : d.toList = A ++ x :: B) (hi : A.length = i) : d[i]! = x := by subst hi; exact at_mid h
theorem size_list {d : Array α} {L : List α} (h : d.toList = L) : d.size = L.length := by rw [← h]; simp
theorem swp_list {d : Array α} {A B C : List α} {x y : α} (h : d.toList = A ++ x :: (B ++ y :: C)) : (swp d A.length (A.length + 1 + B.length)).toList = A ++ y :: (B ++ x :: C) := by
  have hx : d[A.length]! = x := at_mid h
  have hy : d[A.length + 1 + B.length]! = y := at_mid' (A := A ++ x :: B) (B := C) (by rw [h]; simp) (by simp; omega)
  unfold swp
  rw [hx, hy]
  simp only [Array.toList_setIfInBounds, h]
  rw [List.set_append_right _ _ (Nat.le_refl _), Nat.sub_self, List.set_cons_zero, List.set_append_right _ _ (by omega)]
  rw [show A.length + 1 + B.length - A.length = B.length + 1 by omega, List.set_cons_succ, List.set_append_right _ _ (Nat.le_refl _), Nat.sub_self, List.set_cons_zero]
theorem swp_list' {d : Array α} {A B C : List α} {x y : α} {i j : Nat} (h : d.toList = A ++ x :: (B ++ y :: C)) (hi : A.length = i) (hj : A.length + 1 + B.length = j) : (swp d i j).toList = A ++ y :: (B ++ x :: C) := by
  subst hi hj; exact swp_list h
end Go.Proofs.YtlifiioflkhkoaaGreat

/- Merging in place: the three ways of a step: the numbers alone. Conditions: as each states. -/
namespace Go.Proofs.YtlifiioflkhkoaaGreat
open Go.Sort
set_option linter.unusedVariables false
set_option maxRecDepth 100000
variable {α : Type}
theorem sorted_app {lt : α → α → Bool} {A B : List α} : SortedL lt (A ++ B) ↔ SortedL lt A ∧ SortedL lt B ∧ ∀ a ∈ A, ∀ b ∈ B, lt b a = false := by
  unfold SortedL
  exact List.pairwise_append
theorem sorted_last {lt : α → α → Bool} (hO : SWO lt) {A : List α} {x : α} (h : SortedL lt (A ++ [x])) : ∀ a ∈ A ++ [x], lt x a = false := by
  intro a ha
  rcases List.mem_append.1 ha with ha | ha
  · exact (sorted_app.1 h).2.2 a ha x (by simp)
  · rw [List.mem_singleton.1 ha]; exact hO.irrefl x
theorem sorted_head {lt : α → α → Bool} (hO : SWO lt) {B : List α} {y : α} (h : SortedL lt (y :: B)) : ∀ b ∈ y :: B, lt b y = false := by
  intro b hb
  rcases List.mem_cons.1 hb with hb | hb
  · rw [hb]; exact hO.irrefl y
  · exact (List.pairwise_cons.1 h).1 b hb
theorem lt_chain {lt : α → α → Bool} (hO : SWO lt) {b y x a : α} (h1 : lt y b = false) (h2 : lt y x = true) (h3 : lt a x = false) : lt b a = true := by
  cases h : lt b a with
  | true => rfl
  | false =>
    have h4 : lt y a = false := hO.ntrans _ _ _ h1 h
    have h5 : lt y x = false := hO.ntrans _ _ _ h4 h3
    rw [h2] at h5; cases h5
theorem split_ok {lt : α → α → Bool} (hO : SWO lt) {A1 A2 B1 B2 : List α} (hX : SortedL lt (A1 ++ A2)) (hY : SortedL lt (B1 ++ B2))
    (h1 : A1 = [] ∨ B2 = [] ∨ ∃ A' x y B', A1 = A' ++ [x] ∧ B2 = y :: B' ∧ lt y x = false) (h2 : B1 = [] ∨ A2 = [] ∨ ∃ B' y x A', B1 = B' ++ [y] ∧ A2 = x :: A' ∧ lt y x = true) :
    mrg lt (A1 ++ A2) (B1 ++ B2) = mrg lt A1 B1 ++ mrg lt A2 B2 := by
  refine mrg_split A1 B1 ?_ ?_
  · rcases h1 with rfl | rfl | ⟨A', x, y, B', rfl, rfl, h⟩
    · intro a ha; cases ha
    · intro a ha b hb; cases hb
    · intro a ha b hb
      have e1 := sorted_last hO (sorted_app.1 hX).1 a ha
      have e2 := sorted_head hO (sorted_app.1 hY).2.1 b hb
      exact hO.ntrans _ _ _ (hO.ntrans _ _ _ e2 h) e1
  · rcases h2 with rfl | rfl | ⟨B', y, x, A', rfl, rfl, h⟩
    · intro b hb; cases hb
    · intro b hb a ha; cases ha
    · intro b hb a ha
      have e1 := sorted_last hO (sorted_app.1 hY).1 b hb
      have e2 := sorted_head hO (sorted_app.1 hX).2.1 a ha
      exact lt_chain hO e1 h e2
theorem mrg_one_l {lt : α → α → Bool} (hO : SWO lt) {x : α} {Y1 Y2 : List α} (hY : SortedL lt (Y1 ++ Y2)) (h1 : Y1 = [] ∨ ∃ Y' y, Y1 = Y' ++ [y] ∧ lt y x = true) (h2 : Y2 = [] ∨ ∃ y Y', Y2 = y :: Y' ∧ lt y x = false) :
    mrg lt [x] (Y1 ++ Y2) = Y1 ++ x :: Y2 := by
  have h := split_ok hO (A1 := []) (A2 := [x]) (B1 := Y1) (B2 := Y2) (List.pairwise_singleton _ _) hY (.inl rfl) (by
    rcases h1 with h1 | ⟨Y', y, h1, h3⟩
    · exact .inl h1
    · exact .inr (.inr ⟨Y', y, x, [], h1, rfl, h3⟩))
  simp only [List.nil_append, mrg_nil_left] at h
  rw [h]
  rcases h2 with rfl | ⟨y, Y', rfl, h3⟩
  · rw [mrg_nil_right]
  · rw [mrg_left _ _ h3, mrg_nil_left]
theorem mrg_one_r {lt : α → α → Bool} (hO : SWO lt) {y : α} {X1 X2 : List α} (hX : SortedL lt (X1 ++ X2)) (h1 : X1 = [] ∨ ∃ X' x, X1 = X' ++ [x] ∧ lt y x = false) (h2 : X2 = [] ∨ ∃ x X', X2 = x :: X' ∧ lt y x = true) :
    mrg lt (X1 ++ X2) [y] = X1 ++ y :: X2 := by
  have h := split_ok hO (A1 := X1) (A2 := X2) (B1 := []) (B2 := [y]) hX (List.pairwise_singleton _ _) (by
    rcases h1 with h1 | ⟨Y', x, h1, h3⟩
    · exact .inl h1
    · exact .inr (.inr ⟨Y', x, y, [], h1, rfl, h3⟩)) (.inl rfl)
  simp only [List.nil_append, mrg_nil_right] at h
  rw [h]
  rcases h2 with rfl | ⟨x, Y', rfl, h3⟩
  · rw [mrg_nil_left]
  · rw [mrg_right _ _ h3, mrg_nil_right]
/-! ### at places -/
variable [Inhabited α]
/-- a list cut at a place: what stands ahead of it and behind it -/
theorem cut_at {d : Array α} {A X B : List α} (h : d.toList = A ++ (X ++ B)) (i : Nat) (h1 : A.length ≤ i) (h2 : i ≤ A.length + X.length) :
    ∃ X1 X2, X = X1 ++ X2 ∧ X1.length = i - A.length ∧ (i = A.length ∧ X1 = [] ∨ ∃ X' x, X1 = X' ++ [x] ∧ d[i - 1]! = x) ∧ (i = A.length + X.length ∧ X2 = [] ∨ ∃ x X', X2 = x :: X' ∧ d[i]! = x) := by
  refine ⟨X.take (i - A.length), X.drop (i - A.length), (List.take_append_drop _ _).symm, by rw [List.length_take]; omega, ?_, ?_⟩
  · by_cases he : i = A.length
    · exact .inl ⟨he, by rw [he, Nat.sub_self]; rfl⟩
    · right
      have hl : i - A.length - 1 < X.length := by omega
      refine ⟨X.take (i - A.length - 1), X[i - A.length - 1], ?_, ?_⟩
      · have := List.take_succ_eq_append_getElem hl
        rw [show i - A.length - 1 + 1 = i - A.length by omega] at this
        exact this
      · refine at_mid' (A := A ++ X.take (i - A.length - 1)) (B := X.drop (i - A.length - 1 + 1) ++ B) ?_ (by rw [List.length_append, List.length_take]; omega)
        rw [h, List.append_assoc]
        congr 1
        rw [← List.cons_append, ← List.append_assoc, ← List.drop_eq_getElem_cons hl, List.take_append_drop]
  · by_cases he : i = A.length + X.length
    · exact .inl ⟨he, by rw [he]; simp⟩
    · right
      have hl : i - A.length < X.length := by omega
      refine ⟨X[i - A.length], X.drop (i - A.length + 1), List.drop_eq_getElem_cons hl, ?_⟩
      refine at_mid' (A := A ++ X.take (i - A.length)) (B := X.drop (i - A.length + 1) ++ B) ?_ (by rw [List.length_append, List.length_take]; omega)
      rw [h, List.append_assoc]
      congr 1
      rw [← List.cons_append, ← List.append_assoc, ← List.drop_eq_getElem_cons hl, List.take_append_drop]
end Go.Proofs.YtlifiioflkhkoaaGreat

/- Regions, the rings along loops, the distance of both: the numbers alone. Conditions: as each states. -/
namespace Go.Proofs.YtlifiioflkhkoaaGreat
open Go.RowKit
set_option linter.unusedVariables false
set_option maxRecDepth 100000

abbrev Pnt := Int × Int
/-! ### edges -/
/-- the edges of a ring of some length, up to k -/
def edgesTo (L : List Pnt) (k : Nat) : List (Pnt × Pnt) := (List.range k).filterMap fun i => if ptAt L i = ptAt L ((i + 1) % L.length) then none else some (ptAt L i, ptAt L ((i + 1) % L.length))
def edgesL (L : List Pnt) : List (Pnt × Pnt) := edgesTo L L.length
theorem edgesTo_yes {L : List Pnt} {k : Nat} (h : ptAt L k ≠ ptAt L ((k + 1) % L.length)) : edgesTo L (k + 1) = edgesTo L k ++ [(ptAt L k, ptAt L ((k + 1) % L.length))] := by
  unfold edgesTo
  rw [List.range_succ, List.filterMap_append]
  simp [h]
theorem edgesTo_no {L : List Pnt} {k : Nat} (h : ptAt L k = ptAt L ((k + 1) % L.length)) : edgesTo L (k + 1) = edgesTo L k := by
  unfold edgesTo
  rw [List.range_succ, List.filterMap_append]
  simp [h]
theorem edgesTo_len (L : List Pnt) (k : Nat) : (edgesTo L k).length ≤ k := by
  unfold edgesTo
  refine Nat.le_trans (List.length_filterMap_le _ _) ?_
  simp
/-- how many edges some rings have -/
def edgeN (Rs : List (List Pnt)) : Nat := (Rs.map fun L => (edgesL L).length).sum
/-- a region is valid -/
def regOk (Rs : List (List Pnt)) : Bool := decide (Rs.length ≤ 40) && Rs.all pathOk && decide (edgeN Rs ≤ 400)
theorem regOk_is {Rs : List (List Pnt)} (h : regOk Rs = true) : Rs.length ≤ 40 ∧ (∀ L ∈ Rs, pathOk L = true) ∧ edgeN Rs ≤ 400 := by
  unfold regOk at h
  simp only [Bool.and_eq_true, decide_eq_true_eq, List.all_eq_true] at h
  exact ⟨h.1.1, h.1.2, h.2⟩
theorem regOk_many {Rs : List (List Pnt)} (h : 40 < Rs.length) : regOk Rs = false := by
  unfold regOk
  rw [decide_eq_false (by omega)]; rfl
theorem regOk_bad {Rs : List (List Pnt)} {L : List Pnt} (hL : L ∈ Rs) (h : pathOk L = false) : regOk Rs = false := by
  have : Rs.all pathOk = false := List.all_eq_false.2 ⟨L, hL, by simp [h]⟩
  unfold regOk
  rw [this]; simp
theorem regOk_end {Rs : List (List Pnt)} (h1 : Rs.length ≤ 40) (h2 : ∀ L ∈ Rs, pathOk L = true) : regOk Rs = decide (edgeN Rs ≤ 400) := by
  unfold regOk
  rw [decide_eq_true h1, List.all_eq_true.2 h2]; rfl

/-! ### the knots of a loop with those between -/
/-! ### segments -/
/-! ### the distance of a region and an outline -/
def clo (L : List Pnt) : List Pnt := L ++ [ptAt L 0]
end Go.Proofs.YtlifiioflkhkoaaGreat

/- Rings without the points at which they do not turn: areas, winding numbers and edges stay: the numbers alone. Conditions: as each states. -/
namespace Go.Proofs.YtlifiioflkhkoaaGreat
open Go.RowKit
set_option linter.unusedVariables false
set_option maxRecDepth 100000

/-- twice the signed area of a triangle -/
def tn (a b c : Pnt) : Int := turnI a.1 a.2 b.1 b.2 c.1 c.2
/-! ### the pairs of neighbours of a ring -/
def prs (a : Pnt) : List Pnt → Pnt → List (Pnt × Pnt)
  | [], z => [(a, z)]
  | b :: R, z => (a, b) :: prs b R z
def cyc : List Pnt → List (Pnt × Pnt)
  | [] => []
  | a :: R => prs a R a
theorem prs_app (a : Pnt) (A : List Pnt) (v : Pnt) (B : List Pnt) (z : Pnt) : prs a (A ++ v :: B) z = prs a A v ++ prs v B z := by
  induction A generalizing a with
  | nil => rfl
  | cons b A ih => simp only [List.cons_append, prs, ih]
def lastP (a : Pnt) : List Pnt → Pnt
  | [] => a
  | b :: R => lastP b R
def initP (a : Pnt) : List Pnt → List (Pnt × Pnt)
  | [] => []
  | b :: R => (a, b) :: initP b R
theorem prs_last (a : Pnt) (R : List Pnt) (z : Pnt) : prs a R z = initP a R ++ [(lastP a R, z)] := by
  induction R generalizing a with
  | nil => rfl
  | cons b R ih => simp only [prs, initP, lastP, ih, List.cons_append]
theorem prs_len (a : Pnt) (R : List Pnt) (z : Pnt) : (prs a R z).length = R.length + 1 := by
  induction R generalizing a with
  | nil => rfl
  | cons b R ih => simp [prs, ih]
theorem prs_at (a : Pnt) (R : List Pnt) (z : Pnt) (i : Nat) (h : i < R.length + 1) : (prs a R z)[i]? = some ((a :: R).getD i (0, 0), (R ++ [z]).getD i (0, 0)) := by
  induction R generalizing a i with
  | nil =>
    obtain rfl : i = 0 := by simp at h; omega
    rfl
  | cons b R ih =>
    cases i with
    | zero => rfl
    | succ i =>
      simp only [prs, List.getElem?_cons_succ, List.getD_cons_succ, List.cons_append]
      exact ih b i (by simpa using h)
theorem cyc_len (L : List Pnt) : (cyc L).length = L.length := by
  cases L with
  | nil => rfl
  | cons a R => simp [cyc, prs_len]
theorem cyc_at (L : List Pnt) (i : Nat) (h : i < L.length) : (cyc L)[i]? = some (ptAt L i, ptAt L ((i + 1) % L.length)) := by
  cases L with
  | nil => simp at h
  | cons a R =>
    rw [cyc, prs_at a R a i (by simpa using h)]
    unfold ptAt
    congr 2
    by_cases hi : i + 1 < R.length + 1
    · rw [List.length_cons, Nat.mod_eq_of_lt hi, List.getD_cons_succ, List.getD_eq_getElem?_getD, List.getD_eq_getElem?_getD, List.getElem?_append_left (by omega)]
    · have : i = R.length := by simp at h; omega
      subst this
      simp
theorem cyc_map (L : List Pnt) : cyc L = (List.range L.length).map fun i => (ptAt L i, ptAt L ((i + 1) % L.length)) := by
  apply List.ext_getElem?
  intro i
  by_cases h : i < L.length
  · rw [cyc_at L i h]; simp [h]
  · rw [List.getElem?_eq_none (by rw [cyc_len]; omega), List.getElem?_eq_none (by simp; omega)]
def realE (e : Pnt × Pnt) : Bool := !decide (e.1 = e.2)
theorem edges_cyc (L : List Pnt) : edgesL L = (cyc L).filter realE := by
  rw [cyc_map, edgesL, edgesTo, List.filter_map]
  generalize List.range L.length = R
  induction R with
  | nil => rfl
  | cons i R ih =>
    by_cases h : ptAt L i = ptAt L ((i + 1) % L.length)
    · simp [h, realE, ih]
    · simp [h, realE, ih]
/-- the neighbours of a point that is taken out -/
theorem cyc_del (A : List Pnt) (v : Pnt) (B : List Pnt) (h : A ++ B ≠ []) : ∃ rest u w, (cyc (A ++ v :: B)).Perm ((u, v) :: (v, w) :: rest) ∧ (cyc (A ++ B)).Perm ((u, w) :: rest) ∧
    u = ptAt (A ++ v :: B) ((A.length + (A ++ v :: B).length - 1) % (A ++ v :: B).length) ∧ w = ptAt (A ++ v :: B) ((A.length + 1) % (A ++ v :: B).length) := by
  have hcl := cyc_len (A ++ v :: B)
  have key : ∀ u w rest, (cyc (A ++ v :: B)).Perm ((u, v) :: (v, w) :: rest) → (cyc (A ++ B)).Perm ((u, w) :: rest) → (cyc (A ++ v :: B))[A.length]? = some (v, w) →
      (cyc (A ++ v :: B))[(A.length + (A ++ v :: B).length - 1) % (A ++ v :: B).length]? = some (u, v) → ∃ rest u w, (cyc (A ++ v :: B)).Perm ((u, v) :: (v, w) :: rest) ∧ (cyc (A ++ B)).Perm ((u, w) :: rest) ∧
    u = ptAt (A ++ v :: B) ((A.length + (A ++ v :: B).length - 1) % (A ++ v :: B).length) ∧ w = ptAt (A ++ v :: B) ((A.length + 1) % (A ++ v :: B).length) := by
    intro u w rest h1 h2 h3 h4
    refine ⟨rest, u, w, h1, h2, ?_, ?_⟩
    · rw [cyc_at _ _ (Nat.mod_lt _ (by rw [List.length_append, List.length_cons]; omega))] at h4
      injection h4 with h4
      injection h4 with h4 h5
      exact h4.symm
    · rw [cyc_at _ _ (by rw [List.length_append, List.length_cons]; omega)] at h3
      injection h3 with h3
      injection h3 with h3 h5
      exact h5.symm
  cases A with
  | nil =>
    cases B with
    | nil => exact absurd rfl h
    | cons w B' =>
      refine key (lastP w B') w (initP w B') ?_ ?_ ?_ ?_
      · simp only [List.nil_append, cyc, prs, prs_last]
        exact (List.Perm.cons _ (List.perm_append_comm (l₂ := [_]))).trans (List.Perm.swap _ _ _)
      · simp only [List.nil_append, cyc, prs_last]
        exact List.perm_append_comm (l₂ := [_])
      · simp [cyc, prs]
      · have e : (([] : List Pnt).length + ([] ++ v :: w :: B').length - 1) % ([] ++ v :: w :: B').length = B'.length + 1 := by
          simp only [List.nil_append, List.length_nil, List.length_cons, Nat.zero_add]
          exact Nat.mod_eq_of_lt (by omega)
        rw [e]
        have hl : (initP w B').length = B'.length := by
          have := prs_len w B' v
          rw [prs_last, List.length_append] at this
          simpa using this
        simp only [List.nil_append, cyc, prs, prs_last, List.getElem?_cons_succ]
        rw [List.getElem?_append_right (by omega), hl, Nat.sub_self]; rfl
  | cons x A' =>
    have hi : (initP x A').length = A'.length := by
      have := prs_len x A' v
      rw [prs_last, List.length_append] at this
      simpa using this
    have e : ((x :: A').length + ((x :: A') ++ v :: B).length - 1) % ((x :: A') ++ v :: B).length = A'.length := by
      have : (x :: A').length + ((x :: A') ++ v :: B).length - 1 = A'.length + ((x :: A') ++ v :: B).length := by simp; omega
      rw [this, Nat.add_mod_right]
      exact Nat.mod_eq_of_lt (by simp; omega)
    cases B with
    | nil =>
      refine key (lastP x A') x (initP x A') ?_ ?_ ?_ ?_
      · simp only [List.cons_append, cyc, prs_app, prs]
        rw [prs_last x A' v]
        simp only [List.append_assoc]
        exact (List.perm_append_comm (l₂ := [_, _]))
      · simp only [List.append_nil, cyc, prs_last]
        exact List.perm_append_comm (l₂ := [_])
      · simp only [List.cons_append, cyc, prs_app, prs, List.length_cons]
        rw [prs_last x A' v]
        rw [List.getElem?_append_right (by simp [hi]), List.length_append, hi]; simp
      · rw [e]
        simp only [List.cons_append, cyc, prs_app]
        rw [prs_last x A' v]
        simp only [List.append_assoc]
        rw [List.getElem?_append_right (by omega), hi, Nat.sub_self]; rfl
    | cons w B' =>
      refine key (lastP x A') w (initP x A' ++ prs w B' x) ?_ ?_ ?_ ?_
      · simp only [List.cons_append, cyc, prs_app, prs]
        rw [prs_last x A' v]
        simp only [List.append_assoc]
        exact List.perm_append_comm_assoc (initP x A') [_, _] _
      · simp only [List.cons_append, cyc, prs_app]
        rw [prs_last x A' w]
        simp only [List.append_assoc]
        exact List.perm_append_comm_assoc (initP x A') [_] _
      · simp only [List.cons_append, cyc, prs_app, prs, List.length_cons]
        rw [prs_last x A' v]
        rw [List.getElem?_append_right (by simp [hi]), List.length_append, hi]; simp
      · rw [e]
        simp only [List.cons_append, cyc, prs_app]
        rw [prs_last x A' v]
        simp only [List.append_assoc]
        rw [List.getElem?_append_right (by omega), hi, Nat.sub_self]; rfl
theorem cyc_rot (A B : List Pnt) : (cyc (A ++ B)).Perm (cyc (B ++ A)) := by
  cases A with
  | nil => simp
  | cons a A =>
    cases B with
    | nil => simp
    | cons b B =>
      simp only [List.cons_append, cyc, prs_app]
      exact List.perm_append_comm

/-! ### taking out -/
def flatAt (L : List Pnt) (i : Nat) : Bool := decide (tn (ptAt L ((i + L.length - 1) % L.length)) (ptAt L i) (ptAt L ((i + 1) % L.length)) = 0)
def flat1 (L : List Pnt) : Option Nat := (List.range L.length).find? (flatAt L)
def simpF : Nat → List Pnt → List Pnt
  | 0, L => L
  | k + 1, L => match flat1 L with
    | none => L
    | some i => simpF k (L.eraseIdx i)
def simpL (L : List Pnt) : List Pnt := simpF L.length L
theorem flat1_some {L : List Pnt} {i : Nat} (h : flat1 L = some i) : i < L.length ∧ flatAt L i = true := by
  unfold flat1 at h
  have h1 := List.find?_some h
  have h2 := List.mem_of_find?_eq_some h
  exact ⟨List.mem_range.1 h2, h1⟩
theorem simpF_ind {P : List Pnt → Prop} (hs : ∀ L i, i < L.length → flatAt L i = true → P L → P (L.eraseIdx i)) : ∀ (k : Nat) (L : List Pnt), P L → P (simpF k L)
  | 0, L, h => h
  | k + 1, L, h => by
    unfold simpF
    cases hf : flat1 L with
    | none => exact h
    | some i =>
      obtain ⟨h1, h2⟩ := flat1_some hf
      exact simpF_ind hs k _ (hs L i h1 h2 h)
theorem simpL_ind {P : List Pnt → Prop} (hs : ∀ L i, i < L.length → flatAt L i = true → P L → P (L.eraseIdx i)) (L : List Pnt) (h : P L) : P (simpL L) := simpF_ind hs _ L h
/-- a step, on the pairs -/
theorem del_step {L : List Pnt} {i : Nat} (hi : i < L.length) (hf : flatAt L i = true) : (L.eraseIdx i = [] ∧ ∃ v, cyc L = [(v, v)]) ∨
    ∃ rest u v w, tn u v w = 0 ∧ (cyc L).Perm ((u, v) :: (v, w) :: rest) ∧ (cyc (L.eraseIdx i)).Perm ((u, w) :: rest) := by
  obtain ⟨A, v, B, rfl, hA⟩ : ∃ A v B, L = A ++ v :: B ∧ A.length = i := ⟨L.take i, L[i], L.drop (i + 1), by rw [← List.drop_eq_getElem_cons hi, List.take_append_drop], by simp; omega⟩
  subst hA
  have he : (A ++ v :: B).eraseIdx A.length = A ++ B := by
    rw [List.eraseIdx_append_of_length_le (Nat.le_refl _), Nat.sub_self]; rfl
  rw [he]
  by_cases hn : A ++ B = []
  · obtain ⟨rfl, rfl⟩ := List.append_eq_nil_iff.1 hn
    exact .inl ⟨rfl, v, rfl⟩
  · obtain ⟨rest, u, w, h1, h2, h3, h4⟩ := cyc_del A v B hn
    refine .inr ⟨rest, u, v, w, ?_, h1, h2⟩
    unfold flatAt at hf
    rw [← h3, ← h4] at hf
    have hv : ptAt (A ++ v :: B) A.length = v := by unfold ptAt; simp
    rw [hv] at hf
    exact of_decide_eq_true hf
/-! ### areas -/
def crossE (e : Pnt × Pnt) : Int := e.1.1 * e.2.2 - e.1.2 * e.2.1
def sumE (f : Pnt × Pnt → Int) (E : List (Pnt × Pnt)) : Int := (E.map f).sum
theorem perm_sumI {L M : List Int} (h : L.Perm M) : L.sum = M.sum := by
  induction h with
  | nil => rfl
  | cons a _ ih => simp only [List.sum_cons, ih]
  | swap a b l => simp only [List.sum_cons]; omega
  | trans _ _ h1 h2 => exact h1.trans h2
theorem sumE_perm {f : Pnt × Pnt → Int} {E F : List (Pnt × Pnt)} (h : E.Perm F) : sumE f E = sumE f F := perm_sumI (h.map f)
theorem sumE_cons (f : Pnt × Pnt → Int) (e : Pnt × Pnt) (E : List (Pnt × Pnt)) : sumE f (e :: E) = f e + sumE f E := by simp [sumE]
theorem sumE_nil (f : Pnt × Pnt → Int) : sumE f [] = 0 := rfl
theorem sumE_app (f : Pnt × Pnt → Int) (E F : List (Pnt × Pnt)) : sumE f (E ++ F) = sumE f E + sumE f F := by simp [sumE]
theorem sumE_real {f : Pnt × Pnt → Int} (h : ∀ a, f (a, a) = 0) (E : List (Pnt × Pnt)) : sumE f (E.filter realE) = sumE f E := by
  induction E with
  | nil => rfl
  | cons e E ih =>
    by_cases he : e.1 = e.2
    · have : f e = 0 := by
        obtain ⟨a, b⟩ := e
        simp only at he
        subst he
        exact h a
      rw [List.filter_cons_of_neg (by simp [realE, he]), ih, sumE_cons, this]; omega
    · rw [List.filter_cons_of_pos (by simp [realE, he]), sumE_cons, sumE_cons, ih]
theorem simp_sum {f : Pnt × Pnt → Int} (h0 : ∀ a, f (a, a) = 0) (h : ∀ u v w, tn u v w = 0 → f (u, v) + f (v, w) = f (u, w)) (L : List Pnt) : sumE f (cyc (simpL L)) = sumE f (cyc L) := by
  refine simpL_ind (P := fun M => sumE f (cyc M) = sumE f (cyc L)) (fun M i hi hf hM => ?_) L rfl
  rw [← hM]
  rcases del_step hi hf with ⟨h1, v, h2⟩ | ⟨rest, u, v, w, ht, h1, h2⟩
  · rw [h1, h2, sumE_cons, h0]; rfl
  · rw [sumE_perm h1, sumE_perm h2, sumE_cons, sumE_cons, sumE_cons, ← h u v w ht]; omega
theorem cross_self (a : Pnt) : crossE (a, a) = 0 := by
  unfold crossE; grind
theorem cross_flat (u v w : Pnt) (h : tn u v w = 0) : crossE (u, v) + crossE (v, w) = crossE (u, w) := by
  unfold tn turnI at h
  unfold crossE
  grind
/-! ### winding numbers -/
def wndE (p : Pnt) (e : Pnt × Pnt) : Int := if e.1.2 ≤ p.2 ∧ p.2 < e.2.2 ∧ 0 < tn e.1 e.2 p then 1 else if e.2.2 ≤ p.2 ∧ p.2 < e.1.2 ∧ tn e.1 e.2 p < 0 then -1 else 0
theorem wnd_self (p a : Pnt) : wndE p (a, a) = 0 := by
  unfold wndE
  rw [if_neg (by intro ⟨h1, h2, _⟩; simp only at h1 h2; omega), if_neg (by intro ⟨h1, h2, _⟩; simp only at h1 h2; omega)]
theorem sgn_same {a b x y : Int} (hx : 0 < x) (hy : 0 < y) (h : a * x = b * y) : (0 < a ↔ 0 < b) ∧ (a < 0 ↔ b < 0) := by
  rcases Int.lt_trichotomy a 0 with ha | ha | ha
  · have h1 := Int.mul_neg_of_neg_of_pos ha hx
    rcases Int.lt_trichotomy b 0 with hb | hb | hb
    · omega
    · subst hb; omega
    · have := Int.mul_pos hb hy; omega
  · subst ha
    rcases Int.lt_trichotomy b 0 with hb | hb | hb
    · have := Int.mul_neg_of_neg_of_pos hb hy; omega
    · omega
    · have := Int.mul_pos hb hy; omega
  · have h1 := Int.mul_pos ha hx
    rcases Int.lt_trichotomy b 0 with hb | hb | hb
    · have := Int.mul_neg_of_neg_of_pos hb hy; omega
    · subst hb; omega
    · omega
theorem wnd_flat (p u v w : Pnt) (h : tn u v w = 0) : wndE p (u, v) + wndE p (v, w) = wndE p (u, w) := by
  have e1 : tn u v p * (v.2 - w.2) = -tn v w p * (v.2 - u.2) := by unfold tn turnI at *; grind
  have e2 : tn v w p * (w.2 - u.2) = tn u w p * (w.2 - v.2) := by unfold tn turnI at *; grind
  have e3 : tn u v p * (w.2 - u.2) = tn u w p * (v.2 - u.2) := by unfold tn turnI at *; grind
  have n1 : tn u v p * (w.2 - v.2) = -tn v w p * (u.2 - v.2) := by unfold tn turnI at *; grind
  have n2 : tn v w p * (u.2 - w.2) = tn u w p * (v.2 - w.2) := by unfold tn turnI at *; grind
  have n3 : tn u v p * (u.2 - w.2) = tn u w p * (u.2 - v.2) := by unfold tn turnI at *; grind
  unfold wndE
  simp only
  generalize tn u v p = A at *
  generalize tn v w p = B at *
  generalize tn u w p = C at *
  by_cases hu : p.2 < u.2 <;> by_cases hv : p.2 < v.2 <;> by_cases hw : p.2 < w.2
  · repeat (first | rw [if_neg (by omega)])
    rfl
  · have := sgn_same (by omega) (by omega) n2
    split <;> split <;> split <;> (try split) <;> (try split) <;> (try split) <;> omega
  · have := sgn_same (by omega) (by omega) n1
    split <;> split <;> split <;> (try split) <;> (try split) <;> (try split) <;> omega
  · have := sgn_same (by omega) (by omega) n3
    split <;> split <;> split <;> (try split) <;> (try split) <;> (try split) <;> omega
  · have := sgn_same (by omega) (by omega) e3
    split <;> split <;> split <;> (try split) <;> (try split) <;> (try split) <;> omega
  · have := sgn_same (by omega) (by omega) e1
    split <;> split <;> split <;> (try split) <;> (try split) <;> (try split) <;> omega
  · have := sgn_same (by omega) (by omega) e2
    split <;> split <;> split <;> (try split) <;> (try split) <;> (try split) <;> omega
  · repeat (first | rw [if_neg (by omega)])
    rfl
end Go.Proofs.YtlifiioflkhkoaaGreat

/- Points on edges; tidy regions: the numbers alone. Conditions: as each states. -/
namespace Go.Proofs.YtlifiioflkhkoaaGreat
open Go.RowKit
set_option linter.unusedVariables false
set_option maxRecDepth 100000

/-- a point is on a segment -/
def onE (a b p : Pnt) : Prop := tn a b p = 0 ∧ min a.1 b.1 ≤ p.1 ∧ p.1 ≤ max a.1 b.1 ∧ min a.2 b.2 ≤ p.2 ∧ p.2 ≤ max a.2 b.2
def offE (p : Pnt) (e : Pnt × Pnt) : Prop := e.1 ≠ e.2 → ¬ onE e.1 e.2 p
theorem mono_up {a b X Y : Int} (hX : 0 < X) (hY : 0 ≤ Y) (h : b * X = Y * a) (ha : 0 ≤ a) : 0 ≤ b := by
  have h1 := Int.mul_nonneg hY ha
  refine Int.not_lt.1 fun hb => ?_
  have := Int.mul_neg_of_neg_of_pos hb hX; omega
theorem zero_of {a X : Int} (hX : X ≠ 0) (h : a * X = 0) : a = 0 := by
  rcases Int.mul_eq_zero.1 h with h | h
  · exact h
  · exact absurd h hX
/-- on a line, what is between u and w is between u and v or between v and w -/
theorem box_split {X Y vx vy px py : Int} (h0 : X ≠ 0 ∨ Y ≠ 0) (hv : vy * X = Y * vx) (hp : py * X = Y * px) (b1 : min 0 X ≤ px) (b2 : px ≤ max 0 X) (b3 : min 0 Y ≤ py) (b4 : py ≤ max 0 Y) :
    (min 0 vx ≤ px ∧ px ≤ max 0 vx ∧ min 0 vy ≤ py ∧ py ≤ max 0 vy) ∨ (min vx X ≤ px ∧ px ≤ max vx X ∧ min vy Y ≤ py ∧ py ≤ max vy Y) := by
  rcases Int.lt_trichotomy X 0 with hX | hX | hX
  · rcases Int.le_total 0 Y with hY | hY
    · have m1 : px ≤ vx → vy ≤ py := fun h => by
        have := mono_up (a := vx - px) (b := py - vy) (X := -X) (Y := Y) (by omega) hY (by grind) (by omega); omega
      have m2 : vx ≤ px → py ≤ vy := fun h => by
        have := mono_up (a := px - vx) (b := vy - py) (X := -X) (Y := Y) (by omega) hY (by grind) (by omega); omega
      omega
    · have m1 : px ≤ vx → py ≤ vy := fun h => by
        have := mono_up (a := vx - px) (b := vy - py) (X := -X) (Y := -Y) (by omega) (by omega) (by grind) (by omega); omega
      have m2 : vx ≤ px → vy ≤ py := fun h => by
        have := mono_up (a := px - vx) (b := py - vy) (X := -X) (Y := -Y) (by omega) (by omega) (by grind) (by omega); omega
      omega
  · subst hX
    have hY : Y ≠ 0 := by omega
    have hvx : vx = 0 := zero_of hY (by grind)
    have hpx : px = 0 := zero_of hY (by grind)
    omega
  · rcases Int.le_total 0 Y with hY | hY
    · have m1 : px ≤ vx → py ≤ vy := fun h => by
        have := mono_up (a := vx - px) (b := vy - py) (X := X) (Y := Y) hX hY (by grind) (by omega); omega
      have m2 : vx ≤ px → vy ≤ py := fun h => by
        have := mono_up (a := px - vx) (b := py - vy) (X := X) (Y := Y) hX hY (by grind) (by omega); omega
      omega
    · have m1 : px ≤ vx → vy ≤ py := fun h => by
        have := mono_up (a := vx - px) (b := py - vy) (X := X) (Y := -Y) hX (by omega) (by grind) (by omega); omega
      have m2 : vx ≤ px → py ≤ vy := fun h => by
        have := mono_up (a := px - vx) (b := vy - py) (X := X) (Y := -Y) hX (by omega) (by grind) (by omega); omega
      omega
theorem on_flat {u v w p : Pnt} (hne : u ≠ w) (h : tn u v w = 0) (ho : onE u w p) : onE u v p ∨ onE v w p := by
  obtain ⟨ux, uy⟩ := u
  obtain ⟨vx, vy⟩ := v
  obtain ⟨wx, wy⟩ := w
  obtain ⟨px, py⟩ := p
  unfold onE tn turnI at *
  simp only at *
  obtain ⟨h1, b1, b2, b3, b4⟩ := ho
  have hd : wx - ux ≠ 0 ∨ wy - uy ≠ 0 := by
    refine Classical.byContradiction fun hc => hne ?_
    have : wx = ux ∧ wy = uy := by omega
    rw [this.1, this.2]
  have ev : (vy - uy) * (wx - ux) = (wy - uy) * (vx - ux) := by grind
  have ep : (py - uy) * (wx - ux) = (wy - uy) * (px - ux) := by grind
  have tv : (vx - ux) * (py - uy) - (vy - uy) * (px - ux) = 0 := by
    rcases hd with hd | hd
    · refine zero_of hd ?_
      have e : ((vx - ux) * (py - uy) - (vy - uy) * (px - ux)) * (wx - ux) = (vx - ux) * ((py - uy) * (wx - ux)) - ((vy - uy) * (wx - ux)) * (px - ux) := by grind
      rw [e, ev, ep]; grind
    · refine zero_of hd ?_
      have e : ((vx - ux) * (py - uy) - (vy - uy) * (px - ux)) * (wy - uy) = ((wy - uy) * (vx - ux)) * (py - uy) - (vy - uy) * ((wy - uy) * (px - ux)) := by grind
      rw [e, ← ev, ← ep]; grind
  have tw : (wx - vx) * (py - vy) - (wy - vy) * (px - vx) = 0 := by grind
  rcases box_split hd ev ep (by omega) (by omega) (by omega) (by omega) with hb | hb
  · exact .inl ⟨tv, by omega⟩
  · exact .inr ⟨tw, by omega⟩
theorem off_flat {p u v w : Pnt} (h : tn u v w = 0) (h1 : offE p (u, v)) (h2 : offE p (v, w)) : offE p (u, w) := by
  intro hne ho
  by_cases huv : u = v
  · subst huv; exact h2 hne ho
  · by_cases hvw : v = w
    · subst hvw; exact h1 hne ho
    · rcases on_flat hne h ho with ho | ho
      · exact h1 huv ho
      · exact h2 hvw ho
theorem simp_off {p : Pnt} (L : List Pnt) (h : ∀ e ∈ cyc L, offE p e) : ∀ e ∈ cyc (simpL L), offE p e := by
  refine simpL_ind (P := fun M => ∀ e ∈ cyc M, offE p e) (fun M i hi hf hM => ?_) L h
  rcases del_step hi hf with ⟨h1, v, h2⟩ | ⟨rest, u, v, w, ht, h1, h2⟩
  · rw [h1]; intro e he; cases he
  · intro e he
    have he := h2.mem_iff.1 he
    rcases List.mem_cons.1 he with rfl | he
    · exact off_flat ht (hM _ (h1.mem_iff.2 List.mem_cons_self)) (hM _ (h1.mem_iff.2 (List.mem_cons_of_mem _ List.mem_cons_self)))
    · exact hM _ (h1.mem_iff.2 (List.mem_cons_of_mem _ (List.mem_cons_of_mem _ he)))
theorem simp_sub (L : List Pnt) : (∀ q ∈ simpL L, q ∈ L) ∧ (simpL L).length ≤ L.length :=
  simpL_ind (P := fun M => (∀ q ∈ M, q ∈ L) ∧ M.length ≤ L.length) (fun M i hi hf hM => ⟨fun q hq => hM.1 q (List.mem_of_mem_eraseIdx hq), by rw [List.length_eraseIdx]; split <;> omega⟩) L ⟨fun q h => h, Nat.le_refl _⟩
theorem simp_edges (L : List Pnt) : (edgesL (simpL L)).length ≤ (edgesL L).length := by
  rw [edges_cyc, edges_cyc]
  refine simpL_ind (P := fun M => ((cyc M).filter realE).length ≤ ((cyc L).filter realE).length) (fun M i hi hf hM => Nat.le_trans ?_ hM) L (Nat.le_refl _)
  rcases del_step hi hf with ⟨h1, v, h2⟩ | ⟨rest, u, v, w, ht, h1, h2⟩
  · rw [h1]; exact Nat.zero_le _
  · rw [(h1.filter _).length_eq, (h2.filter _).length_eq]
    have e : ∀ a b : Pnt, (((a, b) :: rest).filter realE).length = (if a = b then 0 else 1) + (rest.filter realE).length := fun a b => by
      by_cases h : a = b
      · rw [List.filter_cons_of_neg (by simp [realE, h]), if_pos h]; omega
      · rw [List.filter_cons_of_pos (by simp [realE, h]), if_neg h, List.length_cons]; omega
    have e2 : (((u, v) :: (v, w) :: rest).filter realE).length = (if u = v then 0 else 1) + (((v, w) :: rest).filter realE).length := by
      by_cases h : u = v
      · rw [List.filter_cons_of_neg (by simp [realE, h]), if_pos h]; omega
      · rw [List.filter_cons_of_pos (by simp [realE, h]), if_neg h, List.length_cons]; omega
    rw [e2, e, e]
    by_cases huv : u = v
    · subst huv; split <;> simp_all
    · by_cases hvw : v = w
      · subst hvw; split <;> simp_all
      · rw [if_neg huv, if_neg hvw]; split <;> omega
/-! ### turned and ordered -/
/-- behind, as the program orders points: by y and then by x -/
def yx (a b : Pnt) : Int := if a.2 < b.2 then -1 else if b.2 < a.2 then 1 else if a.1 < b.1 then -1 else if b.1 < a.1 then 1 else 0
theorem yx_zero {a b : Pnt} : yx a b = 0 ↔ a = b := by
  unfold yx
  constructor
  · intro h
    split at h
    · omega
    split at h
    · omega
    split at h
    · omega
    split at h
    · omega
    exact Prod.ext (by omega) (by omega)
  · rintro rfl; simp
theorem yx_neg (a b : Pnt) : yx b a = -yx a b := by
  unfold yx
  repeat' split
  all_goals omega
theorem yx_lt {a b : Pnt} : yx a b < 0 ↔ a.2 < b.2 ∨ a.2 = b.2 ∧ a.1 < b.1 := by
  unfold yx
  repeat' split
  all_goals omega
/-- lists of points, point by point -/
def cmpL : List Pnt → List Pnt → Int
  | [], [] => 0
  | [], _ :: _ => -1
  | _ :: _, [] => 1
  | a :: A, b :: B => if yx a b = 0 then cmpL A B else yx a b
theorem cmpL_zero : ∀ {A B : List Pnt}, cmpL A B = 0 ↔ A = B
  | [], [] => by simp [cmpL]
  | [], b :: B => by simp [cmpL]
  | a :: A, [] => by simp [cmpL]
  | a :: A, b :: B => by
    unfold cmpL
    split
    · rename_i h
      rw [cmpL_zero, yx_zero.1 h]; simp
    · rename_i h
      constructor
      · intro h'; exact absurd h' h
      · intro h'; injection h' with h1 h2; exact absurd (yx_zero.2 h1) h
theorem cmpL_neg : ∀ (A B : List Pnt), cmpL B A = -cmpL A B
  | [], [] => by simp [cmpL]
  | [], b :: B => by simp [cmpL]
  | a :: A, [] => by simp [cmpL]
  | a :: A, b :: B => by
    unfold cmpL
    have := yx_neg a b
    by_cases h : yx a b = 0
    · rw [if_pos h, if_pos (by omega), cmpL_neg A B]
    · rw [if_neg h, if_neg (by omega), this]
theorem cmpL_trans : ∀ {A B C : List Pnt}, cmpL A B < 0 → cmpL B C < 0 → cmpL A C < 0
  | [], [], _, h, _ => by simp [cmpL] at h
  | [], b :: B, [], _, h => by simp [cmpL] at h
  | [], b :: B, c :: C, _, _ => by simp [cmpL]
  | a :: A, [], _, h, _ => by simp [cmpL] at h
  | a :: A, b :: B, [], _, h => by simp [cmpL] at h
  | a :: A, b :: B, c :: C, h1, h2 => by
    unfold cmpL at *
    have t1 := @yx_lt a b
    have t2 := @yx_lt b c
    have t3 := @yx_lt a c
    by_cases e1 : yx a b = 0
    · rw [if_pos e1] at h1
      have := yx_zero.1 e1
      subst this
      by_cases e2 : yx a c = 0
      · rw [if_pos e2] at h2 ⊢; exact cmpL_trans h1 h2
      · rw [if_neg e2] at h2 ⊢; exact h2
    · rw [if_neg e1] at h1
      by_cases e2 : yx b c = 0
      · have := yx_zero.1 e2
        subst this
        rw [if_neg e1]; exact h1
      · rw [if_neg e2] at h2
        have h3 : yx a c < 0 := t3.2 (by have := t1.1 h1; have := t2.1 h2; omega)
        rw [if_neg (by omega)]; exact h3
/-- the ring turned, step by step -/
def rotK (L : List Pnt) (k : Nat) : List Pnt := L.drop k ++ L.take k
def turnStep (L best : List Pnt) (k : Nat) : List Pnt := if 0 < yx (ptAt L k) (ptAt best 0) then best else if cmpL (rotK L k) best < 0 then rotK L k else best
def turnTo (L : List Pnt) : Nat → List Pnt
  | 0 => L
  | k + 1 => if k = 0 then L else turnStep L (turnTo L k) k
def turnL (L : List Pnt) : List Pnt := turnTo L L.length
theorem turnTo_rot (L : List Pnt) : ∀ k, ∃ j, turnTo L k = rotK L j
  | 0 => ⟨0, by simp [turnTo, rotK]⟩
  | k + 1 => by
    unfold turnTo
    split
    · exact ⟨0, by simp [rotK]⟩
    · obtain ⟨j, hj⟩ := turnTo_rot L k
      unfold turnStep
      split
      · exact ⟨j, hj⟩
      · split
        · exact ⟨k, rfl⟩
        · exact ⟨j, hj⟩
theorem rotK_perm (L : List Pnt) (k : Nat) : (rotK L k).Perm L := by
  unfold rotK
  exact List.perm_append_comm.trans (by rw [List.take_append_drop])
theorem rotK_cyc (L : List Pnt) (k : Nat) : (cyc (rotK L k)).Perm (cyc L) := by
  unfold rotK
  exact (cyc_rot _ _).trans (by rw [List.take_append_drop])
theorem turnL_perm (L : List Pnt) : (turnL L).Perm L := by
  obtain ⟨j, hj⟩ := turnTo_rot L L.length
  unfold turnL; rw [hj]; exact rotK_perm L j
theorem turnL_cyc (L : List Pnt) : (cyc (turnL L)).Perm (cyc L) := by
  obtain ⟨j, hj⟩ := turnTo_rot L L.length
  unfold turnL; rw [hj]; exact rotK_cyc L j
/-! ### regions -/
def leR (A B : List Pnt) : Bool := !decide (cmpL B A < 0)
def orderR (Rs : List (List Pnt)) : List (List Pnt) := (Rs.map turnL).mergeSort leR
def keepS (Rs : List (List Pnt)) : List (List Pnt) := (Rs.map simpL).filter fun L => !L.isEmpty
def tidyR (Rs : List (List Pnt)) : List (List Pnt) := orderR (keepS Rs)
def regE (Rs : List (List Pnt)) : List (Pnt × Pnt) := Rs.flatMap cyc
theorem perm_flat {α β : Type} {f : α → List β} {L M : List α} (h : L.Perm M) : (L.flatMap f).Perm (M.flatMap f) := List.Perm.flatMap_right f h
theorem map_flat_perm {f : List Pnt → List Pnt} (h : ∀ L, (cyc (f L)).Perm (cyc L)) (Rs : List (List Pnt)) : (regE (Rs.map f)).Perm (regE Rs) := by
  induction Rs with
  | nil => exact .refl _
  | cons L Rs ih =>
    unfold regE at *
    simp only [List.map_cons, List.flatMap_cons]
    exact (h L).append ih
theorem order_E (Rs : List (List Pnt)) : (regE (orderR Rs)).Perm (regE Rs) := (perm_flat (List.mergeSort_perm _ _)).trans (map_flat_perm turnL_cyc Rs)
theorem keep_E (Rs : List (List Pnt)) : regE (keepS Rs) = (Rs.map simpL).flatMap cyc := by
  unfold regE keepS
  induction Rs with
  | nil => rfl
  | cons L Rs ih =>
    simp only [List.map_cons, List.flatMap_cons, List.filter_cons]
    cases h : simpL L with
    | nil => simp only [List.isEmpty_nil, Bool.not_true]; rw [if_neg (by simp), ih]; rfl
    | cons a A => simp only [List.isEmpty_cons, Bool.not_false, List.flatMap_cons, ih, if_true]
theorem tidy_sum {f : Pnt × Pnt → Int} (h0 : ∀ a, f (a, a) = 0) (h : ∀ u v w, tn u v w = 0 → f (u, v) + f (v, w) = f (u, w)) (Rs : List (List Pnt)) : sumE f (regE (tidyR Rs)) = sumE f (regE Rs) := by
  unfold tidyR
  rw [sumE_perm (order_E _), keep_E]
  unfold regE
  induction Rs with
  | nil => rfl
  | cons L Rs ih =>
    simp only [List.map_cons, List.flatMap_cons, sumE_app, ih, simp_sum h0 h]
theorem tidy_off {p : Pnt} (Rs : List (List Pnt)) (h : ∀ e ∈ regE Rs, offE p e) : ∀ e ∈ regE (tidyR Rs), offE p e := by
  unfold tidyR
  intro e he
  have he := (order_E _).mem_iff.1 he
  rw [keep_E] at he
  obtain ⟨M, hM, he⟩ := List.mem_flatMap.1 he
  obtain ⟨L, hL, rfl⟩ := List.mem_map.1 hM
  exact simp_off L (fun e' he' => h e' (List.mem_flatMap.2 ⟨L, hL, he'⟩)) e he
theorem tidy_mem {Rs : List (List Pnt)} {M : List Pnt} (h : M ∈ tidyR Rs) : ∃ L ∈ Rs, (∀ q ∈ M, q ∈ L) ∧ M.length ≤ L.length ∧ 1 ≤ M.length := by
  unfold tidyR orderR at h
  have h := (List.mergeSort_perm _ _).mem_iff.1 h
  obtain ⟨K, hK, rfl⟩ := List.mem_map.1 h
  unfold keepS at hK
  obtain ⟨hK, hne⟩ := List.mem_filter.1 hK
  obtain ⟨L, hL, rfl⟩ := List.mem_map.1 hK
  refine ⟨L, hL, fun q hq => (simp_sub L).1 q ((turnL_perm _).mem_iff.1 hq), ?_, ?_⟩
  · rw [(turnL_perm _).length_eq]; exact (simp_sub L).2
  · rw [(turnL_perm _).length_eq]
    cases h : simpL L with
    | nil => rw [h] at hne; cases hne
    | cons a A => simp
theorem tidy_len (Rs : List (List Pnt)) : (tidyR Rs).length ≤ Rs.length := by
  unfold tidyR orderR keepS
  rw [List.length_mergeSort, List.length_map]
  refine Nat.le_trans (List.length_filter_le _ _) ?_
  simp
theorem edgeN_E (Rs : List (List Pnt)) : edgeN Rs = ((regE Rs).filter realE).length := by
  unfold edgeN regE
  induction Rs with
  | nil => rfl
  | cons L Rs ih =>
    simp only [List.map_cons, List.sum_cons, List.flatMap_cons, List.filter_append, List.length_append]
    rw [ih, edges_cyc]
theorem tidy_edgeN (Rs : List (List Pnt)) : edgeN (tidyR Rs) ≤ edgeN Rs := by
  rw [edgeN_E, edgeN_E]
  unfold tidyR
  rw [((order_E _).filter _).length_eq, keep_E]
  unfold regE
  induction Rs with
  | nil => exact Nat.le_refl _
  | cons L Rs ih =>
    simp only [List.map_cons, List.flatMap_cons, List.filter_append, List.length_append]
    have := simp_edges L
    rw [edges_cyc, edges_cyc] at this
    omega
theorem tidy_ok {Rs : List (List Pnt)} (h : regOk Rs = true) : regOk (tidyR Rs) = true := by
  obtain ⟨h1, h2, h3⟩ := regOk_is h
  unfold regOk
  have e1 := tidy_len Rs
  have e2 := tidy_edgeN Rs
  have ha : (tidyR Rs).all pathOk = true := List.all_eq_true.2 fun M hM => by
    obtain ⟨L, hL, hs, hl, hl1⟩ := tidy_mem hM
    obtain ⟨p1, p2, p3⟩ := pathOk_is (h2 L hL)
    unfold pathOk
    rw [(inB_iff (n := (M.length : Int))).2 (by omega)]
    simp only [Bool.true_and, List.all_eq_true]
    exact fun q hq => p3 q (hs q hq)
  rw [decide_eq_true (by omega), decide_eq_true (by omega), ha]; rfl
theorem tidy_area (Rs : List (List Pnt)) : sumE crossE (regE (tidyR Rs)) = sumE crossE (regE Rs) := tidy_sum cross_self cross_flat Rs
theorem tidy_wind (p : Pnt) (Rs : List (List Pnt)) : sumE (wndE p) (regE (tidyR Rs)) = sumE (wndE p) (regE Rs) := tidy_sum (wnd_self p) (wnd_flat p) Rs
end Go.Proofs.YtlifiioflkhkoaaGreat

/- The source of draws: a block that holds the code, the place and the seed. Conditions: as each states. -/
namespace Go.Proofs.YtlifiioflkhkoaaGreat
open Go.RowKit
set_option linter.unusedVariables false
set_option maxRecDepth 100000

/-- a byte's cell -/
def u8R : Rel Int := AndR (FlatR fun v : Int => [.int .u8 v]) fun v => 0 ≤ v ∧ v ≤ 255
theorem good_u8 : Good u8R := good_and (good_flat _) _
theorem opens_u8 : Opens Tryz.prog 5 u8R := by
  intro H enc w fuel cs x h
  obtain ⟨n, rfl, _, hw⟩ := DataW.trod_int Tryz.underlying5 h
  refine ⟨n, rfl, ?_⟩
  have e1 : IntKind.u8.min = 0 := rfl
  have e2 : IntKind.u8.max = 255 := rfl
  simp [Lit.wf, e1, e2] at hw
  show 0 ≤ n ∧ n ≤ 255
  omega
/-- block b is a source: its code, its place k, its seed -/
def SrcR (w : World) (b : Nat) (A : Option Addr) (n c k : Nat) (seed : Int) : Prop := w.heap[b]? = some (.cells #[.slice A n c, .int .i64 (k : Int), .int .u64 seed] 71 (0, 0))
theorem SrcR.lt {w : World} {b : Nat} {A : Option Addr} {n c k : Nat} {seed : Int} (h : SrcR w b A n c k seed) : b < w.heap.size := (Array.getElem?_eq_some_iff.1 h).1
theorem SrcR.c0 {w : World} {b : Nat} {A : Option Addr} {n c k : Nat} {seed : Int} (h : SrcR w b A n c k seed) : w.cell? ⟨b, 0, none⟩ = some (.slice A n c) := by rw [Go.Joins.cell_of_block h]; rfl
theorem SrcR.c1 {w : World} {b : Nat} {A : Option Addr} {n c k : Nat} {seed : Int} (h : SrcR w b A n c k seed) : w.cell? ⟨b, 1, none⟩ = some (.int .i64 k) := by rw [Go.Joins.cell_of_block h]; rfl
theorem SrcR.c2 {w : World} {b : Nat} {A : Option Addr} {n c k : Nat} {seed : Int} (h : SrcR w b A n c k seed) : w.cell? ⟨b, 2, none⟩ = some (.int .u64 seed) := by rw [Go.Joins.cell_of_block h]; rfl
theorem SrcR.fz {w : World} {b : Nat} {A : Option Addr} {n c k : Nat} {seed : Int} (h : SrcR w b A n c k seed) (o : Nat) : w.frozen? ⟨b, o, none⟩ = false := Go.Joins.unfrozen_of_block h o
theorem SrcR.keep {w w' : World} {b : Nat} {A : Option Addr} {n c k : Nat} {seed : Int} (h : SrcR w b A n c k seed) (hk : w'.heap[b]? = w.heap[b]?) : SrcR w' b A n c k seed := hk.trans h
theorem SrcR.drewN {w : World} {b : Nat} {A : Option Addr} {n c k : Nat} {seed : Int} (h : SrcR w b A n c k seed) (q : Nat) : SrcR (w.drewN q) b A n c k seed := h
theorem SrcR.set {w : World} {b : Nat} {A : Option Addr} {n c k : Nat} {seed : Int} (h : SrcR w b A n c k seed) (k' : Nat) (seed' : Int) : SrcR ((w.setCell ⟨b, 1, none⟩ (.int .i64 (k' : Int))).setCell ⟨b, 2, none⟩ (.int .u64 seed')) b A n c k' seed' :=
  Go.Joins.block_setCell (Go.Joins.block_setCell h (.int .i64 (k' : Int))) (.int .u64 seed')

theorem u8_at {w : World} {lo hi n : Nat} {A : Option Addr} {L : List Int} (h : RdS 1 u8R w lo hi A n L) {j : Nat} (hj : j < n) : ∃ b off v, A = some ⟨b, off, none⟩ ∧ lo ≤ b ∧ b < hi ∧ 0 ≤ v ∧ v ≤ 255 ∧ w.cell? ⟨b, off + j, none⟩ = some (.int .u8 v) := by
  obtain ⟨h1, h2⟩ := RdS.parted (R := FlatR fun v : Int => [.int .u8 v]) (p := fun v => 0 ≤ v ∧ v ≤ 255) h
  obtain ⟨b, off, v, rfl, hb0, hb1, hja, hcs⟩ := h1.at hj
  have h3 := h2 v (List.mem_of_getElem? hja)
  exact ⟨b, off, v, rfl, hb0, hb1, h3.1, h3.2, by have := hcs 0 _ rfl; simpa using this⟩

theorem u64_wrap_bd (n : Int) : 0 ≤ IntKind.u64.wrap n ∧ IntKind.u64.wrap n < 2 ^ 64 := by rw [IntKind.wrap_u64]; omega
theorem byte_of {sd : Int} (h : 0 ≤ sd ∧ sd < 2 ^ 64) : 0 ≤ wrap64 (bits BinOp.and IntKind.u64 (sd / 1099511627776) 255) ∧ wrap64 (bits BinOp.and IntKind.u64 (sd / 1099511627776) 255) ≤ 255 := by
  have e := bits_mask .u64 64 (by decide) (fun n h0 h1 => by rw [IntKind.wrap_u64]; omega) 8 (by omega) (sd / 1099511627776) (by omega) (by omega)
  have e2 : (2 : Int) ^ 8 - 1 = 255 := by decide
  rw [e2] at e
  rw [e]
  have e3 : (2 : Int) ^ 8 = 256 := by decide
  rw [e3]
  have hb : 0 ≤ sd / 1099511627776 % 256 ∧ sd / 1099511627776 % 256 ≤ 255 := by omega
  rw [IntWalk.wrap64_in _ (by omega)]
  exact hb
theorem grown_setA {w W : World} {b : Nat} (h : w.grownBy W (some b)) (o : Nat) (u : Value) : w.grownBy (W.setCell ⟨b, o, none⟩ u) (some b) :=
  ⟨h.os, h.tape, h.output, by simpa using h.size, fun i hi hn => (Below.heap_setCell W ⟨b, o, none⟩ u i (fun e => hn (by rw [e]))).trans (h.block i hi hn)⟩
theorem grown_drewA {w W : World} {row : Option Nat} (h : w.grownBy W row) (q : Nat) : w.grownBy (W.drewN q) row := ⟨h.os, h.tape, h.output, h.size, h.block⟩
set_option maxHeartbeats 1000000 in
theorem next_any (b : Nat) (A : Option Addr) (n c k lo hi : Nat) (seed : Int) (L : List Int) (w : World) (hs : SrcR w b A n c k seed) (hr : RdS 1 u8R w lo hi A n L) (hn : n ≤ 1000000000) (hk : k ≤ 1000000000) :
    Calls Tryz.prog 38 #[.pointer (some ⟨b, 0, none⟩)] w fun e w' => ∃ (x seed' : Int), e = .returned (.int .i64 x) ∧ 0 ≤ x ∧ x ≤ 255 ∧ SrcR w' b A n c (k + 1) seed' ∧ w.grownBy w' (some b) := by
  have c0 := hs.c0
  have c1 := hs.c1
  have c2 := hs.c2
  have f1 := hs.fz 1
  have f2 := hs.fz 2
  have hb := hs.lt
  replace hs := Lib.hid hs
  by_cases hlt : k < n
  · obtain ⟨b1, o1, v, rfl, _, hbw, hv0, hv1, q0⟩ := u8_at hr hlt
    clear hr
    have hb1 := cell_lt q0
    simp only at hb1
    have hki : decide ((k : Int) < (n : Int)) = true := by simp; omega
    have hkj : decide ((k : Int) + 1 ≤ (n : Int)) = true := by simp; omega
    have hkb : (0 : Int) ≤ (k : Int) ∧ (k : Int) < (n : Int) := by omega
    go_enter Tryz.func38, Tryz.ntmps38
    go_wp2_with fail
    go_quiet (fail)
    go_wp2_with fail
    obtain ⟨nq1, hq1⟩ : ∃ m, m = nq := ⟨_, rfl⟩
    subst hq1
    go_quiet (fail)
    go_wp2_with fail
    generalize hsd : IntKind.u64.wrap (IntKind.u64.wrap (IntKind.u64.wrap (seed * 6364136223846793005) + v) + 1442695040888963407) = sd
    clear hsd
    have hs2 := Lib.hid ((hs.out.drewN (nq1 + nq)).set (k + 1) sd)
    go_quiet (fail)
    go_wp2_with fail
    go_ret
    exact ⟨v, sd, rfl, hv0, hv1, hs2.out, by repeat (first | exact World.grownBy.refl _ _ | refine grown_setA ?_ _ _ | refine grown_drewA ?_ _)⟩
  · clear hr
    have hki : decide ((k : Int) < (n : Int)) = false := by simp; omega
    have hkj : decide ((k : Int) + 1 ≤ (n : Int)) = false := by simp; omega
    go_enter Tryz.func38, Tryz.ntmps38
    go_wp2_with fail
    go_quiet (fail)
    go_wp2_with fail
    have hx := u64_wrap_bd (IntKind.u64.wrap (IntKind.u64.wrap (seed * 6364136223846793005)) + 1442695040888963407)
    generalize hsd : IntKind.u64.wrap (IntKind.u64.wrap (IntKind.u64.wrap (seed * 6364136223846793005)) + 1442695040888963407) = sd at hx
    clear hsd
    replace hx := Lib.hid (byte_of hx)
    have hs2 := Lib.hid ((hs.out.drewN nq).set (k + 1) sd)
    go_quiet (fail)
    go_wp2_with fail
    go_ret
    exact ⟨_, sd, rfl, hx.out.1, hx.out.2, hs2.out, by repeat (first | exact World.grownBy.refl _ _ | refine grown_setA ?_ _ _ | refine grown_drewA ?_ _)⟩
/-- block b is a source whose place is k -/
def Src0 (w : World) (b k : Nat) : Prop := ∃ (A : Option Addr) (n c lo hi : Nat) (seed : Int) (L : List Int), SrcR w b A n c k seed ∧ RdS 1 u8R w lo hi A n L ∧ hi ≤ b ∧ n ≤ 1000000000
theorem Src0.lt {w : World} {b k : Nat} (h : Src0 w b k) : b < w.heap.size := by obtain ⟨_, _, _, _, _, _, _, h, _⟩ := h; exact h.lt
theorem Src0.kept {w w' : World} {b k B : Nat} (h : Src0 w b k) (hb : Below B w w') (hB : b < B) : Src0 w' b k := by
  obtain ⟨A, n, c, lo, hi, seed, L, h1, h2, h3, h4⟩ := h
  exact ⟨A, n, c, lo, hi, seed, L, h1.keep (hb.block b hB), h2.frame good_u8 (Below.sameB hb (by omega)), h3, h4⟩
theorem Src0.drew {w : World} {b k : Nat} (h : Src0 w b k) : Src0 w.drew b k := h
theorem nextS_any (b k : Nat) (w : World) (hs : Src0 w b k) (hk : k ≤ 1000000000) :
    Calls Tryz.prog 38 #[.pointer (some ⟨b, 0, none⟩)] w fun e w' => ∃ x : Int, e = .returned (.int .i64 x) ∧ 0 ≤ x ∧ x ≤ 255 ∧ Src0 w' b (k + 1) ∧ w.grownBy w' (some b) := by
  obtain ⟨A, n, c, lo, hi, seed, L, h1, h2, h3, h4⟩ := hs
  refine (next_any b A n c k lo hi seed L w h1 h2 h4 hk).mono ?_
  rintro e w' ⟨x, seed', rfl, hx0, hx1, hs', hg⟩
  exact ⟨x, rfl, hx0, hx1, ⟨A, n, c, lo, hi, seed', L, hs', h2.frame good_u8 (fun i h5 h6 => hg.block i (by have := h1.lt; omega) (by intro e; injection e with e; omega)), h3, h4⟩, hg⟩
theorem grown_tr {a b c : World} {row : Option Nat} (h : a.grownBy b row) (k : b.grownBy c row) : a.grownBy c row :=
  ⟨k.os.trans h.os, k.tape.trans h.tape, k.output.trans h.output, Nat.le_trans h.size k.size, fun i hi hn => (k.block i (Nat.lt_of_lt_of_le hi h.size) hn).trans (h.block i hi hn)⟩
theorem grown_of {W w' : World} (hb : Below W.heap.size W w') (row : Option Nat) : W.grownBy w' row := ⟨hb.os, hb.tape, hb.output, hb.size, fun k hk _ => hb.block k hk⟩

set_option maxHeartbeats 1000000 in
theorem pick_any (b k : Nat) (m : Int) (w : World) (hs : Src0 w b k) (hk : k ≤ 999999990) :
    Calls Tryz.prog 16 #[.pointer (some ⟨b, 0, none⟩), .int .i64 m] w fun e w' => ∃ (r : Int) (k' : Nat), e = .returned (.int .i64 r) ∧ 0 ≤ r ∧ (1 < m → r < m) ∧ (m ≤ 1 → r = 0) ∧ Src0 w' b k' ∧ k' ≤ k + 2 ∧ w.grownBy w' (some b) := by
  have hs0 := Lib.hid hs
  have hc := Lib.hid (nextS_any b k w hs (by omega))
  clear hs
  by_cases h1 : m ≤ 1
  · go_enter Tryz.func16, Tryz.ntmps16
    go_wp2_with fail
    go_ret
    exact ⟨0, k, rfl, by omega, by omega, fun _ => rfl, hs0.out, by omega, World.grownBy.refl _ _⟩
  by_cases h2 : 200 < m
  · go_enter Tryz.func16, Tryz.ntmps16
    go_wp2_with fail
    refine hc.out.mono ?_
    rintro e w1 ⟨x, rfl, hx0, hx1, hs1, hg1⟩
    have hc1 := Lib.hid (nextS_any b (k + 1) w1 hs1 (by omega))
    clear hs1 hc
    go_wp2_with fail
    refine hc1.out.mono ?_
    rintro e w2 ⟨y, rfl, hy0, hy1, hs2, hg2⟩
    replace hs2 := Lib.hid hs2
    go_wp2_with fail
    go_ret
    have hy := Int.emod_nonneg (x * 256 + y) (show m ≠ 0 by omega)
    have hz := Int.emod_lt_of_pos (x * 256 + y) (show 0 < m by omega)
    exact ⟨_, _, rfl, by omega, fun _ => by omega, by omega, hs2.out, by omega, grown_tr hg1 hg2⟩
  · go_enter Tryz.func16, Tryz.ntmps16
    go_wp2_with fail
    refine hc.out.mono ?_
    rintro e w1 ⟨x, rfl, hx0, hx1, hs1, hg1⟩
    replace hs1 := Lib.hid hs1
    go_wp2_with fail
    go_ret
    have hy := Int.emod_nonneg x (show m ≠ 0 by omega)
    have hz := Int.emod_lt_of_pos x (show 0 < m by omega)
    exact ⟨_, _, rfl, by omega, fun _ => by omega, by omega, hs1.out, by omega, hg1⟩

theorem one_any (b k : Nat) (m : Int) (w : World) (hs : Src0 w b k) (hk : k ≤ 999999990) :
    Calls Tryz.prog 36 #[.pointer (some ⟨b, 0, none⟩), .int .i64 m] w fun e w' => ∃ (r : Bool) (k' : Nat), e = .returned (.bool r) ∧ Src0 w' b k' ∧ k' ≤ k + 2 ∧ w.grownBy w' (some b) := by
  have hc := Lib.hid (pick_any b k m w hs hk)
  clear hs
  go_enter Tryz.func36, Tryz.ntmps36
  go_wp2_with fail
  refine hc.out.mono ?_
  rintro e w1 ⟨r, k', rfl, _, _, _, hs1, hk1, hg1⟩
  replace hs1 := Lib.hid hs1
  go_wp2_with fail
  go_ret
  exact ⟨_, k', rfl, hs1.out, hk1, hg1⟩

set_option maxHeartbeats 1000000 in
theorem among_any (b k : Nat) (A : Option Addr) (n c lo hi : Nat) (L : List Int) (w : World) (hs : Src0 w b k) (hk : k ≤ 999999990) (hr : RdS 1 (FlatR intC) w lo hi A n L) (hb : b < lo ∨ hi ≤ b) (hhi : hi ≤ w.heap.size) (hn : 1 ≤ n) (hn' : n ≤ 1000000) :
    Calls Tryz.prog 57 #[.pointer (some ⟨b, 0, none⟩), .slice A n c] w fun e w' => ∃ (r : Int) (k' : Nat), e = .returned (.int .i64 r) ∧ r ∈ L ∧ Src0 w' b k' ∧ k' ≤ k + 2 ∧ w.grownBy w' (some b) := by
  have hc := Lib.hid (pick_any b k n w hs hk)
  have hbl := hs.lt
  clear hs
  obtain ⟨b0, o0, _, rfl, hb0, hb1, _, _⟩ := hr.at (j := 0) (by omega)
  replace hr := Lib.hid hr
  go_enter Tryz.func57, Tryz.ntmps57
  go_wp2_with fail
  refine hc.out.mono ?_
  rintro e w1 ⟨r, k', rfl, h0, h1, h2, hs1, hk1, hg1⟩
  have hz1 := hg1.size
  obtain ⟨m, rfl⟩ : ∃ m : Nat, r = m := ⟨r.toNat, by omega⟩
  have hmn : m < n := by
    rcases Nat.lt_or_ge 1 n with h | h
    · have := h1 (by omega); omega
    · have := h2 (by omega); omega
  obtain ⟨b2, o2, v, hA, _, hbw, hja, hcs⟩ := (hr.out.frame (good_flat _) (grown_sameB hg1 hhi hb)).at hmn
  injection hA with hA
  injection hA with hA1 hA2
  subst hA1 hA2
  have q0 := hcs 0 _ rfl
  simp only [Nat.mul_one, Nat.add_zero] at q0
  have hmk : (0 : Int) ≤ (m : Int) ∧ (m : Int) < (n : Int) := by omega
  have hbw' : b0 < w1.heap.size := by omega
  replace hja := Lib.hid hja
  replace hs1 := Lib.hid hs1
  clear hcs h1 h2
  go_wp2_with fail
  go_ret
  exact ⟨v, k', rfl, List.mem_of_getElem? hja.out, hs1.out, hk1, hg1⟩

set_option maxHeartbeats 1000000 in
theorem l03Coord_any (b k : Nat) (m : Int) (w : World) (hs : Src0 w b k) (hk : k ≤ 999999900) (hm0 : 0 ≤ m) (hm1 : m ≤ 1000000000) :
    Calls Tryz.prog 70 #[.pointer (some ⟨b, 0, none⟩), .int .i64 m] w fun e w' => ∃ (r : Int) (k' : Nat), e = .returned (.int .i64 r) ∧ -m ≤ r ∧ r ≤ m ∧ Src0 w' b k' ∧ k' ≤ k + 5 ∧ w.grownBy w' (some b) := by
  have hc := Lib.hid (nextS_any b k w hs (by omega))
  clear hs
  go_enter Tryz.func70, Tryz.ntmps70
  go_wp2_with fail
  refine hc.out.mono ?_
  rintro e w1 ⟨x, rfl, hx0, hx1, hs1, hg1⟩
  have hc1 := Lib.hid (nextS_any b (k + 1) w1 hs1 (by omega))
  clear hs1 hc
  go_wp2_with fail
  refine hc1.out.mono ?_
  rintro e w2 ⟨y, rfl, hy0, hy1, hs2, hg2⟩
  have hc2 := Lib.hid (nextS_any b (k + 1 + 1) w2 hs2 (by omega))
  replace hg2 := grown_tr hg1 hg2
  clear hs2 hc1 hg1
  go_wp2_with fail
  refine hc2.out.mono ?_
  rintro e w3 ⟨z, rfl, hz0, hz1, hs3, hg3⟩
  have hc3 := Lib.hid (one_any b (k + 1 + 1 + 1) 2 w3 hs3 (by omega))
  replace hg3 := grown_tr hg2 hg3
  clear hs3 hc2 hg2
  have hv0 := Int.emod_nonneg (x * 65536 + y * 256 + z) (show m + 1 ≠ 0 by omega)
  have hv1 := Int.emod_lt_of_pos (x * 65536 + y * 256 + z) (show 0 < m + 1 by omega)
  go_wp2_with fail
  refine hc3.out.mono ?_
  rintro e w4 ⟨t, k', rfl, hs4, hk4, hg4⟩
  replace hg4 := grown_tr hg3 hg4
  replace hs4 := Lib.hid hs4
  clear hc3 hg3
  generalize (x * 65536 + y * 256 + z) % (m + 1) = v at *
  cases t
  · go_wp2_with fail
    go_ret
    exact ⟨_, k', rfl, by omega, by omega, hs4.out, by omega, hg4⟩
  · go_wp2_with fail
    go_ret
    exact ⟨_, k', rfl, by omega, by omega, hs4.out, by omega, hg4⟩
end Go.Proofs.YtlifiioflkhkoaaGreat

