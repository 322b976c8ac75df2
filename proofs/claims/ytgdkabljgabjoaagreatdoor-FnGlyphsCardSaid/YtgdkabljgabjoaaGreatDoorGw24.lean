/- strings.Cut at one byte. Conditions: as it states. -/
import Derived.Deep.QuietTactic
import Derived.WalkSmall
import Derived.Lib.SplitLaws
import Derived.Test.YtgdkabljgabjoaaGreatDoorGw21
import Derived.Test.YtgdkabljgabjoaaGreatDoorShelf
import Derived.Test.YtgdkabljgabjoaaGreatDoorGw23
namespace Go.Proofs.YtgdkabljgabjoaaGreatDoor
open Go.RowKit
set_option linter.unusedVariables false
set_option maxRecDepth 100000

theorem indexByte_cases : ∀ (l : List UInt8) (c : UInt8), (Lib.indexByte l c = -1 ∧ ∀ x ∈ l, x ≠ c) ∨ ∃ i : Nat, Lib.indexByte l c = i ∧ i < l.length ∧ l[i]? = some c ∧ ∀ x ∈ l.take i, x ≠ c := by
  intro l c
  induction l with
  | nil => left; exact ⟨rfl, by simp⟩
  | cons b l ih =>
    by_cases h : b = c
    · right; exact ⟨0, by simp [Lib.indexByte, h], by simp, by simp [h], by simp⟩
    · rcases ih with ⟨h1, h2⟩ | ⟨i, h1, h2, h3, h4⟩
      · left
        refine ⟨by simp [Lib.indexByte, h, h1], fun x hx => ?_⟩
        rcases List.mem_cons.1 hx with rfl | hx
        · exact h
        · exact h2 x hx
      · right
        have hne : ¬ ((i : Int) = -1) := by omega
        refine ⟨i + 1, by simp [Lib.indexByte, h, h1, hne], by simp; omega, by simpa using h3, fun x hx => ?_⟩
        rw [List.take_succ_cons] at hx
        rcases List.mem_cons.1 hx with rfl | hx
        · exact h
        · exact h4 x hx

def CutPost (s : ByteArray) (c : UInt8) (w : World) (e : Ending) (w' : World) : Prop :=
  (∃ i : Nat, e = .returned (.tuple #[.string (s.extract 0 i), .string (s.extract (i + 1) s.size), .bool true]) ∧ i < s.size ∧ s.data.toList[i]? = some c ∧ (∀ x ∈ s.data.toList.take i, x ≠ c) ∧ Below w.heap.size w w') ∨
  (e = .returned (.tuple #[.string s, .string ⟨#[]⟩, .bool false]) ∧ (∀ x ∈ s.data.toList, x ≠ c) ∧ Below w.heap.size w w')

theorem cutLite_any (s : ByteArray) (c : UInt8) (w : World) (hs : s.size ≤ 1048576) :
    Calls Tryz.prog 92 #[.string s, .string ⟨#[c]⟩] w fun e w' => CutPost s c w e w' := by
  rcases indexByte_cases s.data.toList c with ⟨h1, h2⟩ | ⟨i, h1, h2, h3, h4⟩
  · replace h2 := Lib.hid h2
    go_enter Tryz.func92, Tryz.ntmps92
    go_wp2_with (go_at_call 95; refine (Tryz.stringslite_Index_one _ _ _).mono ?_; rintro e w' ⟨rfl, rfl⟩)
    go_ret3
    exact .inr ⟨rfl, h2.out, Below.refl _ _⟩
  · have hi : i < s.size := by simpa using h2
    replace h2 := Lib.hid h2
    replace h3 := Lib.hid h3
    replace h4 := Lib.hid h4
    have b1 : (0 : Int) ≤ (i : Int) ∧ (i : Int) ≤ (s.size : Int) := by omega
    have b2 : (0 : Int) ≤ (i : Int) + 1 ∧ (i : Int) + 1 ≤ (s.size : Int) := by omega
    go_enter Tryz.func92, Tryz.ntmps92
    go_wp2_with (go_at_call 95; refine (Tryz.stringslite_Index_one _ _ _).mono ?_; rintro e w' ⟨rfl, rfl⟩)
    go_quiet (fail)
    go_wp2_with fail
    go_ret3
    exact .inl ⟨i, rfl, hi, h3.out, h4.out, below_drewN (Below.refl _ _) _⟩

theorem cutByte_any (s : ByteArray) (c : UInt8) (w : World) (hs : s.size ≤ 1048576) :
    Calls Tryz.prog 44 #[.string s, .string ⟨#[c]⟩] w fun e w' => CutPost s c w e w' := by
  go_enter Tryz.func44, Tryz.ntmps44
  go_wp2_with fail
  refine (cutLite_any s c _ hs).mono ?_
  rintro e w1 (⟨i, rfl, h1, h2, h3, h4⟩ | ⟨rfl, h1, h2⟩)
  · replace h2 := Lib.hid h2
    replace h3 := Lib.hid h3
    go_wp2_with fail
    go_ret3
    exact .inl ⟨i, rfl, h1, h2.out, h3.out, h4⟩
  · replace h1 := Lib.hid h1
    go_wp2_with fail
    go_ret3
    exact .inr ⟨rfl, h1.out, h2⟩
end Go.Proofs.YtgdkabljgabjoaaGreatDoor

/- strings.Split at one byte is the split of the reference: plain facts. Conditions: as each states. -/
namespace Go.Proofs.YtgdkabljgabjoaaGreatDoor
open Go.RowKit
set_option linter.unusedVariables false
set_option maxRecDepth 100000

theorem ix_hit (c : UInt8) (r : List UInt8) : ∀ a : List UInt8, (∀ x ∈ a, x ≠ c) → Lib.index (a ++ c :: r) [c] = a.length := by
  intro a
  induction a with
  | nil => intro _; simp [Lib.index, List.isPrefixOf]
  | cons b a ih =>
    intro h
    have hb : b ≠ c := h b (List.mem_cons_self ..)
    have hp : ([c] : List UInt8).isPrefixOf (b :: (a ++ c :: r)) = false := by simp [List.isPrefixOf, Ne.symm hb]
    have hi := ih (fun x hx => h x (List.mem_cons_of_mem _ hx))
    rw [List.cons_append, Lib.index, hp, hi, if_neg (by simp), if_neg (by rw [beq_iff_eq]; omega)]
    rw [List.length_cons]; omega
theorem first_at (c : UInt8) : ∀ l : List UInt8, (∀ x ∈ l, x ≠ c) ∨ ∃ a r, l = a ++ c :: r ∧ ∀ x ∈ a, x ≠ c := by
  intro l
  induction l with
  | nil => exact .inl (by simp)
  | cons b l ih =>
    by_cases h : b = c
    · exact .inr ⟨[], l, by rw [h]; rfl, by simp⟩
    · rcases ih with h1 | ⟨a, r, rfl, h1⟩
      · exact .inl (by intro x hx; rcases List.mem_cons.1 hx with rfl | hx; exact h; exact h1 x hx)
      · exact .inr ⟨b :: a, r, rfl, by intro x hx; rcases List.mem_cons.1 hx with rfl | hx; exact h; exact h1 x hx⟩
theorem count_miss1 (c : UInt8) {a : List UInt8} (h : ∀ x ∈ a, x ≠ c) : a.count c = 0 := by
  rw [List.count_eq_zero]
  exact fun hc => h c hc rfl
theorem splitK_is (c : UInt8) : ∀ (n : Nat) (l : List UInt8), l.length ≤ n → Lib.splitK [c] 0 (l.count c) l = splitF c l := by
  intro n
  induction n with
  | zero =>
    intro l h
    obtain rfl : l = [] := List.length_eq_zero_iff.1 (by omega)
    rfl
  | succ n ih =>
    intro l h
    rcases first_at c l with h1 | ⟨a, r, rfl, h1⟩
    · rw [count_miss1 c h1, splitF_last c l h1]; rfl
    · have e : (a ++ c :: r).count c = r.count c + 1 := by rw [List.count_append, count_miss1 c h1, List.count_cons_self]; omega
      rw [e, Lib.splitK, ix_hit c r a h1, if_neg (by rw [beq_iff_eq]; omega), splitF_hit c a r h1]
      have h2 : (a ++ c :: r).take ((a.length : Int).toNat + 0) = a := by simp
      have h3 : (a ++ c :: r).drop ((a.length : Int).toNat + ([c] : List UInt8).length) = r := by
        have e4 : a ++ c :: r = (a ++ [c]) ++ r := by simp
        rw [e4]
        exact List.drop_left' (by simp)
      rw [h2, h3, ih r (by simp at h; omega)]
def bytesOf (l : List UInt8) : ByteArray := ⟨l.toArray⟩
theorem splitB_is (c : UInt8) (s : ByteArray) : Lib.splitB ⟨#[c]⟩ 0 (Lib.countB s ⟨#[c]⟩) s = (splitF c s.data.toList).map fun l => ⟨l.toArray⟩ := by
  have hc : Lib.countB s ⟨#[c]⟩ = s.data.toList.count c := by
    rw [← Lib.count_one]

  have h := Lib.splitB_data ⟨#[c]⟩ 0 (s.data.toList.count c) s
  have h2 := splitK_is c s.data.toList.length s.data.toList (Nat.le_refl _)
  rw [hc]
  have h3 : (Lib.splitB ⟨#[c]⟩ 0 (s.data.toList.count c) s).map (·.data.toList) = splitF c s.data.toList := h.trans h2
  rw [← h3, List.map_map]
  exact (List.map_id _).symm
theorem countB_is (c : UInt8) (s : ByteArray) : Lib.countB s ⟨#[c]⟩ + 1 = (splitF c s.data.toList).length := by
  have h := congrArg List.length (splitB_is c s)
  rw [Lib.splitB_all ⟨#[c]⟩ (by show 1 ≤ 1; exact Nat.le_refl 1) 0 _ s rfl, List.length_map] at h
  exact h
/-- a text whose last byte is the separator: what stands ahead of it, then nothing -/
theorem splitF_end (c : UInt8) : ∀ (n : Nat) (l : List UInt8), l.length ≤ n → splitF c (l ++ [c]) = splitF c l ++ [[]] := by
  intro n
  induction n with
  | zero =>
    intro l h
    obtain rfl : l = [] := List.length_eq_zero_iff.1 (by omega)
    exact (splitF_hit c [] [] (by simp)).trans rfl
  | succ n ih =>
    intro l h
    rcases first_at c l with h1 | ⟨a, r, rfl, h1⟩
    · rw [splitF_hit c l [] h1, splitF_last c l h1, splitF_last c [] (by simp)]; rfl
    · have e : (a ++ c :: r) ++ [c] = a ++ c :: (r ++ [c]) := by simp
      rw [e, splitF_hit c a _ h1, splitF_hit c a _ h1, ih r (by simp at h; omega)]; rfl
theorem splitF_tail (c d : UInt8) (hd : d ≠ c) : ∀ (n : Nat) (l : List UInt8), l.length ≤ n → (splitF c (l ++ [d])).getLast? ≠ some [] := by
  intro n
  induction n with
  | zero =>
    intro l h
    obtain rfl : l = [] := List.length_eq_zero_iff.1 (by omega)
    rw [List.nil_append, splitF_last c [d] (by simpa using hd)]; simp
  | succ n ih =>
    intro l h
    rcases first_at c l with h1 | ⟨a, r, rfl, h1⟩
    · rw [splitF_last c (l ++ [d]) (by intro x hx; rcases List.mem_append.1 hx with hx | hx; exact h1 x hx; (rw [List.mem_singleton] at hx; subst hx; exact hd))]; simp
    · have e : (a ++ c :: r) ++ [d] = a ++ c :: (r ++ [d]) := by simp
      rw [e, splitF_hit c a _ h1]
      have := ih r (by simp at h; omega)
      obtain ⟨y, ys, hy⟩ := List.exists_cons_of_ne_nil (splitF_ne c (r ++ [d]))
      rw [hy] at this ⊢
      simpa [List.getLast?_cons] using this
end Go.Proofs.YtgdkabljgabjoaaGreatDoor

/- The reading of a point's text, both sides. Conditions: as each states. -/
namespace Go.Proofs.YtgdkabljgabjoaaGreatDoor
open Go.RowKit
set_option linter.unusedVariables false
set_option maxRecDepth 100000

theorem cut_uniq {c : UInt8} : ∀ {a a' b b' : List UInt8}, (∀ x ∈ a, x ≠ c) → (∀ x ∈ a', x ≠ c) → a ++ c :: b = a' ++ c :: b' → a = a' ∧ b = b'
  | [], [], b, b', _, _, h => by simp at h; exact ⟨rfl, h⟩
  | [], x :: a', b, b', _, h2, h => by simp at h; exact absurd h.1.symm (h2 x (by simp))
  | x :: a, [], b, b', h1, _, h => by simp at h; exact absurd h.1 (h1 x (by simp))
  | x :: a, y :: a', b, b', h1, h2, h => by
    simp at h
    obtain ⟨e1, e2⟩ := cut_uniq (fun z hz => h1 z (by simp [hz])) (fun z hz => h2 z (by simp [hz])) h.2
    exact ⟨by rw [h.1, e1], e2⟩
theorem ptT_cut (x y : Int) : ptT x y = decL x ++ 44 :: decL y := by unfold ptT; simp
theorem isDec_of {a : List UInt8} {n : Int} (h : a = decL n) (hn : n.natAbs < 10 ^ 18) : IsDec ⟨a.toArray⟩ n := ⟨by rw [h]; rfl, hn⟩
theorem isDec_is {a : List UInt8} {n : Int} (h : IsDec ⟨a.toArray⟩ n) : a = decL n := by
  have := congrArg (fun s : ByteArray => s.data.toList) h.1
  simpa [decS] using this
theorem decL_inj {a b : Int} (h : decL a = decL b) (ha : a.natAbs < 10 ^ 18) (hb : b.natAbs < 10 ^ 18) : a = b := IsDec.unique (isDec_of rfl ha) (isDec_of h hb)
theorem pt_small {x y : Int} (h : ptOk x y = true) : x.natAbs < 10 ^ 18 ∧ y.natAbs < 10 ^ 18 := by
  have := ptOk_iff.1 h
  omega
/-- what reading a point comes to -/
def PTPost (s : ByteArray) (w : World) (e : Ending) (w' : World) : Prop :=
  (∃ x y, s.data.toList = ptT x y ∧ ptOk x y = true ∧ e = .returned (.tuple #[.agg #[.int .i64 x, .int .i64 y], .bool true]) ∧ Below w.heap.size w w') ∨
  ((∀ x y, ptOk x y = true → s.data.toList ≠ ptT x y) ∧ e = .returned (.tuple #[.agg #[.int .i64 0, .int .i64 0], .bool false]) ∧ Below w.heap.size w w')
theorem pt_no44 {l : List UInt8} (h : ∀ x ∈ l, x ≠ 44) : ∀ x y, ptOk x y = true → l ≠ ptT x y := fun x y _ e => by
  rw [ptT_cut] at e
  exact h 44 (by rw [e]; simp) rfl
theorem pt_noA {a b : List UInt8} (h : ∀ x ∈ a, x ≠ 44) (ha : ∀ n, ¬ IsDec ⟨a.toArray⟩ n) : ∀ x y, ptOk x y = true → a ++ 44 :: b ≠ ptT x y := fun x y hk e => by
  rw [ptT_cut] at e
  exact ha x (isDec_of (cut_uniq h decL_no44 e).1 (pt_small hk).1)
theorem pt_noB {a b : List UInt8} (h : ∀ x ∈ a, x ≠ 44) (hb : ∀ n, ¬ IsDec ⟨b.toArray⟩ n) : ∀ x y, ptOk x y = true → a ++ 44 :: b ≠ ptT x y := fun x y hk e => by
  rw [ptT_cut] at e
  exact hb y (isDec_of (cut_uniq h decL_no44 e).2 (pt_small hk).2)
theorem pt_noK {a b : List UInt8} {x y : Int} (h : ∀ x ∈ a, x ≠ 44) (ha : IsDec ⟨a.toArray⟩ x) (hb : IsDec ⟨b.toArray⟩ y) (hk : ptOk x y = false) : ∀ x y, ptOk x y = true → a ++ 44 :: b ≠ ptT x y := fun x' y' hk' e => by
  rw [ptT_cut] at e
  obtain ⟨e1, e2⟩ := cut_uniq h decL_no44 e
  have h1 := decL_inj ((isDec_is ha).symm.trans e1) ha.2 (pt_small hk').1
  have h2 := decL_inj ((isDec_is hb).symm.trans e2) hb.2 (pt_small hk').2
  subst h1 h2
  rw [hk] at hk'; cases hk'
theorem pt_yes {a b : List UInt8} {x y : Int} (ha : IsDec ⟨a.toArray⟩ x) (hb : IsDec ⟨b.toArray⟩ y) : a ++ 44 :: b = ptT x y := by
  rw [ptT_cut, ← isDec_is ha, ← isDec_is hb]
/-! ### knots -/
theorem ptT_no126 {x y : Int} : ∀ c ∈ ptT x y, c ≠ 126 := by
  intro c hc
  unfold ptT at hc
  simp only [List.mem_append, List.mem_singleton] at hc
  rcases hc with hc | hc | hc
  · exact decL_no (by decide) (.inr (by decide)) c hc
  · subst hc; decide
  · exact decL_no (by decide) (.inr (by decide)) c hc
theorem knot_off {k : Knot} {r : List UInt8} (h : knotT k = 126 :: r) : k.2.2 = false ∧ r = ptT k.1 k.2.1 := by
  unfold knotT at h
  cases hk : k.2.2 with
  | true =>
    rw [hk] at h
    simp at h
    exact absurd rfl (ptT_no126 (x := k.1) (y := k.2.1) 126 (by rw [h]; simp))
  | false =>
    rw [hk] at h
    simp at h
    exact ⟨rfl, h.symm⟩
theorem knot_on {k : Knot} (h : ∀ r, knotT k ≠ 126 :: r) : k.2.2 = true ∧ knotT k = ptT k.1 k.2.1 := by
  cases hk : k.2.2 with
  | true => exact ⟨rfl, by unfold knotT; rw [hk]; simp⟩
  | false => exact absurd (show knotT k = 126 :: ptT k.1 k.2.1 by unfold knotT; rw [hk]; simp) (h _)
theorem pt_uniq {x y x' y' : Int} (h : ptT x y = ptT x' y') (h1 : ptOk x y = true) (h2 : ptOk x' y' = true) : x = x' ∧ y = y' := by
  rw [ptT_cut, ptT_cut] at h
  obtain ⟨e1, e2⟩ := cut_uniq decL_no44 decL_no44 h
  exact ⟨decL_inj e1 (pt_small h1).1 (pt_small h2).1, decL_inj e2 (pt_small h1).2 (pt_small h2).2⟩
/-- reading a point whose text it is -/
theorem PTPost.get {s : ByteArray} {w w' : World} {e : Ending} (h : PTPost s w e w') : ∃ (x y : Int) (t : Bool), e = .returned (.tuple #[.agg #[.int .i64 x, .int .i64 y], .bool t]) ∧ (∀ x0 y0, s.data.toList = ptT x0 y0 → ptOk x0 y0 = true → t = true ∧ x = x0 ∧ y = y0) ∧ Below w.heap.size w w' := by
  rcases h with ⟨x, y, h1, h2, rfl, hb⟩ | ⟨h1, rfl, hb⟩
  · exact ⟨x, y, true, rfl, fun x0 y0 h3 h4 => ⟨rfl, pt_uniq (h1.symm.trans h3) h2 h4⟩, hb⟩
  · exact ⟨0, 0, false, rfl, fun x0 y0 h3 h4 => absurd h3 (h1 x0 y0 h4), hb⟩
end Go.Proofs.YtgdkabljgabjoaaGreatDoor

/- The reading of a point's text: the walks. Conditions: as each states. -/
namespace Go.Proofs.YtgdkabljgabjoaaGreatDoor
open Go.RowKit
set_option linter.unusedVariables false
set_option maxRecDepth 100000
set_option maxRecDepth 100000

end Go.Proofs.YtgdkabljgabjoaaGreatDoor

/- The reading of a point's text: the program's walk. Conditions: as each states. -/
namespace Go.Proofs.YtgdkabljgabjoaaGreatDoor
open Go.RowKit
set_option linter.unusedVariables false
set_option maxRecDepth 100000
set_option maxRecDepth 100000

theorem rd_form {s : ByteArray} {w w2 : World} {e : Ending} (h : RDPost s w e w2) : ∃ (x : Int) (t : Bool), e = .returned (.tuple #[.int .i64 x, .bool t]) ∧ (t = true ∧ IsDec s x ∨ t = false ∧ ∀ n, ¬ IsDec s n) ∧ Below w.heap.size w w2 := by
  rcases h with ⟨x, h1, rfl, hb⟩ | ⟨h1, rfl, hb⟩
  · exact ⟨x, true, rfl, .inl ⟨rfl, h1⟩, hb⟩
  · exact ⟨0, false, rfl, .inr ⟨rfl, h1⟩, hb⟩
theorem pt_two {w : World} {B x y : Nat} {u v : Int} {t : TypeId} (h : w.heap[B]? = some (.cells #[.int .i64 u, .int .i64 v] t (0, 0))) : w.cell? ⟨B, 0, none⟩ = some (.int .i64 u) ∧ w.cell? ⟨B, 1, none⟩ = some (.int .i64 v) ∧ (∀ o, w.frozen? ⟨B, o, none⟩ = false) ∧ B < w.heap.size :=
  ⟨by rw [Go.Joins.cell_of_block h]; rfl, by rw [Go.Joins.cell_of_block h]; rfl, Go.Joins.unfrozen_of_block h, (Array.getElem?_eq_some_iff.1 h).1⟩

set_option maxHeartbeats 8000000 in
theorem implReadPt_any (s : ByteArray) (w : World) (hs : s.size ≤ 1048576) :
    Calls Tryz.prog 80 #[.string s] w fun e w' => PTPost s w e w' := by
  have hB0 : Below w.heap.size w (w.alloc (.cells #[.int .i64 0, .int .i64 0] 102 (0, 0))) := Go.Joins.below_alloc1 _ _
  have hx0 := heap_alloc_new w (.cells #[.int .i64 0, .int .i64 0] 102 (0, 0))
  have hz0 : w.heap.size < (w.alloc (.cells #[.int .i64 0, .int .i64 0] 102 (0, 0))).heap.size := by simp
  have hcs := Lib.hid (fun W => cutByte_any s 44 W hs)
  have hfin : ∀ W : World, Below w.heap.size w W → ∀ u v : Value, Below w.heap.size w ((W.setCell ⟨w.heap.size, 0, none⟩ u).setCell ⟨w.heap.size, 1, none⟩ v) := fun W h u v => (h.setCell (p := ⟨w.heap.size, 0, none⟩) (Nat.le_refl _) _).setCell (p := ⟨w.heap.size, 1, none⟩) (Nat.le_refl _) _
  replace hfin := Lib.hid hfin
  replace hx0 := Lib.hid hx0
  replace hB0 := Lib.hid hB0
  go_enter Tryz.func80, Tryz.ntmps80
  go_upto_region 1 with fail
  generalize w.alloc (.cells #[.int .i64 0, .int .i64 0] 102 (0, 0)) = w0 at *
  go_wp2_with fail
  refine (hcs.out _).mono ?_
  rintro e w1 (⟨i, rfl, hi, hi2, hi3, hb1⟩ | ⟨rfl, hi3, hb1⟩)
  rotate_left
  · have hno := Lib.hid (pt_no44 hi3)
    have hx1 := (hb1.block _ hz0).trans hx0.out
    obtain ⟨r0, r1, rf, rl⟩ := pt_two (x := 0) (y := 0) hx1
    have hB1 := Lib.hid (hB0.out.trans (hb1.mono (Nat.le_of_lt hz0)))
    clear hb1 hx1 hi3 hx0 hB0
    go_wp2_with fail
    exact bodyPost_ret (v := .tuple #[.agg #[.int .i64 0, .int .i64 0], .bool false]) (by simp [results, Tryz.results80, go_sem, r0, r1]) rfl (.inr ⟨hno.out, rfl, hfin.out _ hB1.out _ _⟩)
  obtain ⟨a, ha⟩ : ∃ a, a = s.data.toList.take i := ⟨_, rfl⟩
  obtain ⟨b, hb⟩ : ∃ b, b = s.data.toList.drop (i + 1) := ⟨_, rfl⟩
  have hil : i < s.data.toList.length := by simpa using hi
  have hse : s.data.toList = a ++ 44 :: b := by
    have h1 : s.data.toList[i] = 44 := by
      rw [List.getElem?_eq_getElem hil] at hi2
      exact Option.some.inj hi2
    have h2 := List.take_append_drop i s.data.toList
    rw [List.drop_eq_getElem_cons hil, h1] at h2
    rw [ha, hb]; exact h2.symm
  have hw1 : s.extract 0 i = ⟨a.toArray⟩ := by rw [ha, extract_mk]; rfl
  have hw2 : s.extract (i + 1) s.size = ⟨b.toArray⟩ := by rw [hb, extract_mk, List.take_of_length_le (by simp)]
  have ha44 : ∀ x ∈ a, x ≠ 44 := by rw [ha]; exact hi3
  have hlen : s.size = a.length + b.length + 1 := by
    have := congrArg List.length hse
    simp at this
    omega
  have hA := Lib.hid (fun W => ReadDecimal_any ⟨a.toArray⟩ W (by show a.length ≤ 1048576; omega))
  have hBd := Lib.hid (fun W => ReadDecimal_any ⟨b.toArray⟩ W (by show b.length ≤ 1048576; omega))
  have hx1 := (hb1.block _ hz0).trans hx0.out
  have hB1 := hB0.out.trans (hb1.mono (Nat.le_of_lt hz0))
  have hz1 : w.heap.size < w1.heap.size := Nat.lt_of_lt_of_le hz0 hb1.size
  have hbb : Below w1.heap.size w1 (w1.alloc (.cells #[.int .i64 0, .int .i64 0] 102 (0, 0))) := Go.Joins.below_alloc1 _ _
  have hx2 := Lib.hid ((hbb.block _ hz1).trans hx1)
  have hP2 := Lib.hid (heap_alloc_new w1 (.cells #[.int .i64 0, .int .i64 0] 102 (0, 0)))
  have hB2 := Lib.hid (hB1.trans (hbb.mono (Nat.le_of_lt hz1)))
  replace hse := Lib.hid hse
  replace ha44 := Lib.hid ha44
  rw [hw1, hw2]
  clear hw1 hw2 ha hb hil hlen hi hi2 hi3 hcs hx0 hB0 hz0 hb1 hx1 hB1 hbb
  go_upto_region 5 with fail
  generalize w1.alloc (.cells #[.int .i64 0, .int .i64 0] 102 (0, 0)) = w2 at *
  obtain ⟨X, hX⟩ : ∃ X, X = w1.heap.size := ⟨_, rfl⟩
  rw [← hX] at hP2 hz1 ⊢
  clear hX
  go_wp2_with fail
  refine (hA.out _).mono ?_
  intro e w3 hA2
  obtain ⟨x, t, rfl, hxt, hb3⟩ := rd_form hA2
  have hx3 := (hb3.block _ (pt_two (x := 0) (y := 0) hx2.out).2.2.2).trans hx2.out
  have hP3 := (hb3.block _ (pt_two (x := 0) (y := 0) hP2.out).2.2.2).trans hP2.out
  obtain ⟨r0, r1, rf, rl⟩ := pt_two (x := 0) (y := 0) hx3
  obtain ⟨p0, p1, pf, pl⟩ := pt_two (x := 0) (y := 0) hP3
  have hB3 := Lib.hid (hB2.out.trans (hb3.mono (hB2.out.size)))
  replace hx3 := Lib.hid hx3
  replace hP3 := Lib.hid hP3
  have hne : ¬ X = w.heap.size := by omega
  have hne2 : ¬ w.heap.size = X := by omega
  clear hA2 hA hb3 hx2 hP2 hB2
  rcases hxt with ⟨rfl, hX⟩ | ⟨rfl, hX⟩
  rotate_left
  · have hno : Hid (∀ x y, ptOk x y = true → s.data.toList ≠ ptT x y) := by show ∀ x y, ptOk x y = true → s.data.toList ≠ ptT x y; rw [hse.out]; exact pt_noA ha44.out hX
    clear hX
    go_wp2_with fail
    exact bodyPost_ret (v := .tuple #[.agg #[.int .i64 0, .int .i64 0], .bool false]) (by simp [results, Tryz.results80, go_sem, r0, r1]) rfl (.inr ⟨hno.out, rfl, hfin.out _ (hB3.out.setCell (p := ⟨X, 0, none⟩) (Nat.le_of_lt hz1) _) _ _⟩)
  replace hX := Lib.hid hX
  have hP4 := Lib.hid (Go.Joins.block_setCell hP3.out (i := 0) (.int .i64 x))
  have hx4 := Lib.hid ((Below.heap_setCell w3 ⟨X, 0, none⟩ (.int .i64 x) w.heap.size (by simp only; omega)).trans hx3.out)
  have hB4 := Lib.hid (hB3.out.setCell (p := ⟨X, 0, none⟩) (Nat.le_of_lt hz1) (.int .i64 x))
  clear hP3 hx3 hB3
  go_upto_region 8 with fail
  generalize w3.setCell ⟨X, 0, none⟩ (.int .i64 x) = w4 at *
  go_wp2_with fail
  refine (hBd.out _).mono ?_
  intro e w5 hA5
  obtain ⟨y, t2, rfl, hyt, hb5⟩ := rd_form hA5
  have hl4 : w.heap.size < w4.heap.size := (Array.getElem?_eq_some_iff.1 hx4.out).1
  have hX4 : X < w4.heap.size := (Array.getElem?_eq_some_iff.1 hP4.out).1
  have hx5 := (hb5.block _ hl4).trans hx4.out
  have hP5 : w5.heap[X]? = some (.cells #[.int .i64 x, .int .i64 0] 102 (0, 0)) := (hb5.block _ hX4).trans hP4.out
  obtain ⟨r0, r1, rf, rl⟩ := pt_two (x := 0) (y := 0) hx5
  obtain ⟨p0, p1, pf, pl⟩ := pt_two (x := 0) (y := 0) hP5
  have hB5 := Lib.hid (hB4.out.trans (hb5.mono hB4.out.size))
  have hfin5 : ∀ u v z : Value, Below w.heap.size w (((w5.setCell ⟨X, 1, none⟩ z).setCell ⟨w.heap.size, 0, none⟩ u).setCell ⟨w.heap.size, 1, none⟩ v) := fun u v z => hfin.out _ (hB5.out.setCell (p := ⟨X, 1, none⟩) (Nat.le_of_lt hz1) _) _ _
  replace hfin5 := Lib.hid hfin5
  have hP6 := Lib.hid (Go.Joins.block_setCell hP5 (i := 1) (.int .i64 y))
  have hx6 := Lib.hid ((Below.heap_setCell w5 ⟨X, 1, none⟩ (.int .i64 y) w.heap.size (by simp only; omega)).trans hx5)
  have hB6 := Lib.hid (hB5.out.setCell (p := ⟨X, 1, none⟩) (Nat.le_of_lt hz1) (.int .i64 y))
  have hkO := Lib.hid (fun W => validPt_any x y W)
  clear hA5 hBd hb5 hx4 hP4 hB4 hx5 hP5 hB5 hl4 hX4
  rcases hyt with ⟨rfl, hY⟩ | ⟨rfl, hY⟩
  rotate_left
  · have hno : Hid (∀ x y, ptOk x y = true → s.data.toList ≠ ptT x y) := by show ∀ x y, ptOk x y = true → s.data.toList ≠ ptT x y; rw [hse.out]; exact pt_noB ha44.out hY
    clear hY
    go_wp2_with fail
    exact bodyPost_ret (v := .tuple #[.agg #[.int .i64 0, .int .i64 0], .bool false]) (by simp [results, Tryz.results80, go_sem, r0, r1]) rfl (.inr ⟨hno.out, rfl, hfin5.out _ _ _⟩)
  replace hY := Lib.hid hY
  clear hfin5
  go_upto_region 9 with fail
  generalize w5.setCell ⟨X, 1, none⟩ (.int .i64 y) = w6 at *
  obtain ⟨r0, r1, rf, rl⟩ := pt_two (x := 0) (y := 0) hx6.out
  obtain ⟨p0, p1, pf, pl⟩ := pt_two (u := x) (v := y) (x := 0) (y := 0) hP6.out
  go_wp2_with fail
  refine (hkO.out _).mono ?_
  rintro e w7 ⟨rfl, hb7⟩
  have hx7 := (hb7.block _ rl).trans hx6.out
  have hP7 : w7.heap[X]? = some (.cells #[.int .i64 x, .int .i64 y] 102 (0, 0)) := (hb7.block _ pl).trans hP6.out
  obtain ⟨r0, r1, rf, rl⟩ := pt_two (x := 0) (y := 0) hx7
  obtain ⟨p0, p1, pf, pl⟩ := pt_two (x := 0) (y := 0) hP7
  have hB7 := Lib.hid (hB6.out.trans (hb7.mono hB6.out.size))
  clear hb7 hx7 hP7 hx6 hP6 hB6 hkO
  cases hk : ptOk x y
  · have hno : Hid (∀ x y, ptOk x y = true → s.data.toList ≠ ptT x y) := by show ∀ x y, ptOk x y = true → s.data.toList ≠ ptT x y; rw [hse.out]; exact pt_noK ha44.out hX.out hY.out hk
    replace hk := Lib.hid hk
    go_wp2_with fail
    exact bodyPost_ret (v := .tuple #[.agg #[.int .i64 0, .int .i64 0], .bool false]) (by simp [results, Tryz.results80, go_sem, r0, r1]) rfl (.inr ⟨hno.out, rfl, hfin.out _ hB7.out _ _⟩)
  · replace hk := Lib.hid hk
    go_wp2_with fail
    exact bodyPost_ret (v := .tuple #[.agg #[.int .i64 x, .int .i64 y], .bool true]) (by simp [results, Tryz.results80, go_sem, r0, r1]) rfl (.inl ⟨x, y, hse.out.trans (pt_yes hX.out hY.out), hk.out, rfl, hfin.out _ hB7.out _ _⟩)
end Go.Proofs.YtgdkabljgabjoaaGreatDoor

