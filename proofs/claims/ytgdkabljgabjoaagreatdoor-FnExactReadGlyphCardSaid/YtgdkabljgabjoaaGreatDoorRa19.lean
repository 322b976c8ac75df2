/- strings.Cut at one byte. Conditions: as it states. -/
import Derived.Deep.QuietTactic
import Derived.WalkSmall
import Derived.Lib.SplitLaws
import Derived.Test.YtgdkabljgabjoaaGreatDoorRa14
import Derived.Test.YtgdkabljgabjoaaGreatDoorShelf
import Derived.Test.YtgdkabljgabjoaaGreatDoorRa15
import Derived.Test.YtgdkabljgabjoaaGreatDoorRa18
namespace Go.Proofs.YtgdkabljgabjoaaGreatDoor
open Go.RowKit
set_option linter.unusedVariables false
set_option maxRecDepth 100000

theorem indexByte_cases : ∀ (l : List UInt8) (c : UInt8), (Lib.indexByte l c = -1 ∧ ∀ x ∈ l, x ≠ c) ∨ ∃ i : Nat, Lib.indexByte l c = i ∧ i < l.length ∧ l[i]? = some c ∧ ∀ x ∈ l.take i, x ≠ c := by
  intro l c
  induction l with
  | nil => left; exact ⟨rfl, by simp⟩
  | cons b l ih =>
    by_cases h : b = c
    · right; exact ⟨0, by simp [Lib.indexByte, h], by simp, by simp [h], by simp⟩
    · rcases ih with ⟨h1, h2⟩ | ⟨i, h1, h2, h3, h4⟩
      · left
        refine ⟨by simp [Lib.indexByte, h, h1], fun x hx => ?_⟩
        rcases List.mem_cons.1 hx with rfl | hx
        · exact h
        · exact h2 x hx
      · right
        have hne : ¬ ((i : Int) = -1) := by omega
        refine ⟨i + 1, by simp [Lib.indexByte, h, h1, hne], by simp; omega, by simpa using h3, fun x hx => ?_⟩
        rw [List.take_succ_cons] at hx
        rcases List.mem_cons.1 hx with rfl | hx
        · exact h
        · exact h4 x hx

def CutPost (s : ByteArray) (c : UInt8) (w : World) (e : Ending) (w' : World) : Prop :=
  (∃ i : Nat, e = .returned (.tuple #[.string (s.extract 0 i), .string (s.extract (i + 1) s.size), .bool true]) ∧ i < s.size ∧ s.data.toList[i]? = some c ∧ (∀ x ∈ s.data.toList.take i, x ≠ c) ∧ Below w.heap.size w w') ∨
  (e = .returned (.tuple #[.string s, .string ⟨#[]⟩, .bool false]) ∧ (∀ x ∈ s.data.toList, x ≠ c) ∧ Below w.heap.size w w')

theorem cutLite_any (s : ByteArray) (c : UInt8) (w : World) (hs : s.size ≤ 1048576) :
    Calls Tryz.prog 92 #[.string s, .string ⟨#[c]⟩] w fun e w' => CutPost s c w e w' := by
  rcases indexByte_cases s.data.toList c with ⟨h1, h2⟩ | ⟨i, h1, h2, h3, h4⟩
  · replace h2 := Lib.hid h2
    go_enter Tryz.func92, Tryz.ntmps92
    go_wp2_with (go_at_call 95; refine (Tryz.stringslite_Index_one _ _ _).mono ?_; rintro e w' ⟨rfl, rfl⟩)
    go_ret3
    exact .inr ⟨rfl, h2.out, Below.refl _ _⟩
  · have hi : i < s.size := by simpa using h2
    replace h2 := Lib.hid h2
    replace h3 := Lib.hid h3
    replace h4 := Lib.hid h4
    have b1 : (0 : Int) ≤ (i : Int) ∧ (i : Int) ≤ (s.size : Int) := by omega
    have b2 : (0 : Int) ≤ (i : Int) + 1 ∧ (i : Int) + 1 ≤ (s.size : Int) := by omega
    go_enter Tryz.func92, Tryz.ntmps92
    go_wp2_with (go_at_call 95; refine (Tryz.stringslite_Index_one _ _ _).mono ?_; rintro e w' ⟨rfl, rfl⟩)
    go_quiet (fail)
    go_wp2_with fail
    go_ret3
    exact .inl ⟨i, rfl, hi, h3.out, h4.out, below_drewN (Below.refl _ _) _⟩

theorem cutByte_any (s : ByteArray) (c : UInt8) (w : World) (hs : s.size ≤ 1048576) :
    Calls Tryz.prog 44 #[.string s, .string ⟨#[c]⟩] w fun e w' => CutPost s c w e w' := by
  go_enter Tryz.func44, Tryz.ntmps44
  go_wp2_with fail
  refine (cutLite_any s c _ hs).mono ?_
  rintro e w1 (⟨i, rfl, h1, h2, h3, h4⟩ | ⟨rfl, h1, h2⟩)
  · replace h2 := Lib.hid h2
    replace h3 := Lib.hid h3
    go_wp2_with fail
    go_ret3
    exact .inl ⟨i, rfl, h1, h2.out, h3.out, h4⟩
  · replace h1 := Lib.hid h1
    go_wp2_with fail
    go_ret3
    exact .inr ⟨rfl, h1.out, h2⟩
end Go.Proofs.YtgdkabljgabjoaaGreatDoor

/- strings.Split at one byte is the split of the reference: plain facts. Conditions: as each states. -/
namespace Go.Proofs.YtgdkabljgabjoaaGreatDoor
open Go.RowKit
set_option linter.unusedVariables false
set_option maxRecDepth 100000

theorem ix_miss (c : UInt8) : ∀ l : List UInt8, (∀ x ∈ l, x ≠ c) → Lib.index l [c] = -1 := by
  intro l
  induction l with
  | nil => intro _; rfl
  | cons a l ih =>
    intro h
    have ha : a ≠ c := h a (List.mem_cons_self ..)
    have hp : ([c] : List UInt8).isPrefixOf (a :: l) = false := by simp [List.isPrefixOf, Ne.symm ha]
    rw [Lib.index, hp, ih (fun x hx => h x (List.mem_cons_of_mem _ hx))]
    rfl
theorem ix_hit (c : UInt8) (r : List UInt8) : ∀ a : List UInt8, (∀ x ∈ a, x ≠ c) → Lib.index (a ++ c :: r) [c] = a.length := by
  intro a
  induction a with
  | nil => intro _; simp [Lib.index, List.isPrefixOf]
  | cons b a ih =>
    intro h
    have hb : b ≠ c := h b (List.mem_cons_self ..)
    have hp : ([c] : List UInt8).isPrefixOf (b :: (a ++ c :: r)) = false := by simp [List.isPrefixOf, Ne.symm hb]
    have hi := ih (fun x hx => h x (List.mem_cons_of_mem _ hx))
    rw [List.cons_append, Lib.index, hp, hi, if_neg (by simp), if_neg (by rw [beq_iff_eq]; omega)]
    rw [List.length_cons]; omega
theorem first_at (c : UInt8) : ∀ l : List UInt8, (∀ x ∈ l, x ≠ c) ∨ ∃ a r, l = a ++ c :: r ∧ ∀ x ∈ a, x ≠ c := by
  intro l
  induction l with
  | nil => exact .inl (by simp)
  | cons b l ih =>
    by_cases h : b = c
    · exact .inr ⟨[], l, by rw [h]; rfl, by simp⟩
    · rcases ih with h1 | ⟨a, r, rfl, h1⟩
      · exact .inl (by intro x hx; rcases List.mem_cons.1 hx with rfl | hx; exact h; exact h1 x hx)
      · exact .inr ⟨b :: a, r, rfl, by intro x hx; rcases List.mem_cons.1 hx with rfl | hx; exact h; exact h1 x hx⟩
theorem count_miss1 (c : UInt8) {a : List UInt8} (h : ∀ x ∈ a, x ≠ c) : a.count c = 0 := by
  rw [List.count_eq_zero]
  exact fun hc => h c hc rfl
theorem splitK_is (c : UInt8) : ∀ (n : Nat) (l : List UInt8), l.length ≤ n → Lib.splitK [c] 0 (l.count c) l = splitF c l := by
  intro n
  induction n with
  | zero =>
    intro l h
    obtain rfl : l = [] := List.length_eq_zero_iff.1 (by omega)
    rfl
  | succ n ih =>
    intro l h
    rcases first_at c l with h1 | ⟨a, r, rfl, h1⟩
    · rw [count_miss1 c h1, splitF_last c l h1]; rfl
    · have e : (a ++ c :: r).count c = r.count c + 1 := by rw [List.count_append, count_miss1 c h1, List.count_cons_self]; omega
      rw [e, Lib.splitK, ix_hit c r a h1, if_neg (by rw [beq_iff_eq]; omega), splitF_hit c a r h1]
      have h2 : (a ++ c :: r).take ((a.length : Int).toNat + 0) = a := by simp
      have h3 : (a ++ c :: r).drop ((a.length : Int).toNat + ([c] : List UInt8).length) = r := by
        have e4 : a ++ c :: r = (a ++ [c]) ++ r := by simp
        rw [e4]
        exact List.drop_left' (by simp)
      rw [h2, h3, ih r (by simp at h; omega)]
def bytesOf (l : List UInt8) : ByteArray := ⟨l.toArray⟩
theorem splitB_is (c : UInt8) (s : ByteArray) : Lib.splitB ⟨#[c]⟩ 0 (Lib.countB s ⟨#[c]⟩) s = (splitF c s.data.toList).map fun l => ⟨l.toArray⟩ := by
  have hc : Lib.countB s ⟨#[c]⟩ = s.data.toList.count c := by
    rw [← Lib.count_one]

  have h := Lib.splitB_data ⟨#[c]⟩ 0 (s.data.toList.count c) s
  have h2 := splitK_is c s.data.toList.length s.data.toList (Nat.le_refl _)
  rw [hc]
  have h3 : (Lib.splitB ⟨#[c]⟩ 0 (s.data.toList.count c) s).map (·.data.toList) = splitF c s.data.toList := h.trans h2
  rw [← h3, List.map_map]
  exact (List.map_id _).symm
theorem countB_is (c : UInt8) (s : ByteArray) : Lib.countB s ⟨#[c]⟩ + 1 = (splitF c s.data.toList).length := by
  have h := congrArg List.length (splitB_is c s)
  rw [Lib.splitB_all ⟨#[c]⟩ (by show 1 ≤ 1; exact Nat.le_refl 1) 0 _ s rfl, List.length_map] at h
  exact h
theorem splitF_cons_ne (c a : UInt8) (l : List UInt8) (h : a ≠ c) : ∃ x xs, splitF c l = x :: xs ∧ splitF c (a :: l) = (a :: x) :: xs := by
  rcases first_at c l with h1 | ⟨p, r, rfl, h1⟩
  · exact ⟨l, [], splitF_last c l h1, splitF_last c (a :: l) (by intro x hx; rcases List.mem_cons.1 hx with rfl | hx; exact h; exact h1 x hx)⟩
  · exact ⟨p, splitF c r, splitF_hit c p r h1, splitF_hit c (a :: p) r (by intro x hx; rcases List.mem_cons.1 hx with rfl | hx; exact h; exact h1 x hx)⟩
/-- a text whose last byte is the separator: what stands ahead of it, then nothing -/
theorem splitF_end (c : UInt8) : ∀ (n : Nat) (l : List UInt8), l.length ≤ n → splitF c (l ++ [c]) = splitF c l ++ [[]] := by
  intro n
  induction n with
  | zero =>
    intro l h
    obtain rfl : l = [] := List.length_eq_zero_iff.1 (by omega)
    exact (splitF_hit c [] [] (by simp)).trans rfl
  | succ n ih =>
    intro l h
    rcases first_at c l with h1 | ⟨a, r, rfl, h1⟩
    · rw [splitF_hit c l [] h1, splitF_last c l h1, splitF_last c [] (by simp)]; rfl
    · have e : (a ++ c :: r) ++ [c] = a ++ c :: (r ++ [c]) := by simp
      rw [e, splitF_hit c a _ h1, splitF_hit c a _ h1, ih r (by simp at h; omega)]; rfl
theorem splitF_tail (c d : UInt8) (hd : d ≠ c) : ∀ (n : Nat) (l : List UInt8), l.length ≤ n → (splitF c (l ++ [d])).getLast? ≠ some [] := by
  intro n
  induction n with
  | zero =>
    intro l h
    obtain rfl : l = [] := List.length_eq_zero_iff.1 (by omega)
    rw [List.nil_append, splitF_last c [d] (by simpa using hd)]; simp
  | succ n ih =>
    intro l h
    rcases first_at c l with h1 | ⟨a, r, rfl, h1⟩
    · rw [splitF_last c (l ++ [d]) (by intro x hx; rcases List.mem_append.1 hx with hx | hx; exact h1 x hx; (rw [List.mem_singleton] at hx; subst hx; exact hd))]; simp
    · have e : (a ++ c :: r) ++ [d] = a ++ c :: (r ++ [d]) := by simp
      rw [e, splitF_hit c a _ h1]
      have := ih r (by simp at h; omega)
      obtain ⟨y, ys, hy⟩ := List.exists_cons_of_ne_nil (splitF_ne c (r ++ [d]))
      rw [hy] at this ⊢
      simpa [List.getLast?_cons] using this
end Go.Proofs.YtgdkabljgabjoaaGreatDoor

/- The reading of a point's text, both sides. Conditions: as each states. -/
namespace Go.Proofs.YtgdkabljgabjoaaGreatDoor
open Go.RowKit
set_option linter.unusedVariables false
set_option maxRecDepth 100000

theorem cut_uniq {c : UInt8} : ∀ {a a' b b' : List UInt8}, (∀ x ∈ a, x ≠ c) → (∀ x ∈ a', x ≠ c) → a ++ c :: b = a' ++ c :: b' → a = a' ∧ b = b'
  | [], [], b, b', _, _, h => by simp at h; exact ⟨rfl, h⟩
  | [], x :: a', b, b', _, h2, h => by simp at h; exact absurd h.1.symm (h2 x (by simp))
  | x :: a, [], b, b', h1, _, h => by simp at h; exact absurd h.1 (h1 x (by simp))
  | x :: a, y :: a', b, b', h1, h2, h => by
    simp at h
    obtain ⟨e1, e2⟩ := cut_uniq (fun z hz => h1 z (by simp [hz])) (fun z hz => h2 z (by simp [hz])) h.2
    exact ⟨by rw [h.1, e1], e2⟩
theorem ptT_cut (x y : Int) : ptT x y = decL x ++ 44 :: decL y := by unfold ptT; simp
theorem isDec_of {a : List UInt8} {n : Int} (h : a = decL n) (hn : n.natAbs < 10 ^ 18) : IsDec ⟨a.toArray⟩ n := ⟨by rw [h]; rfl, hn⟩
theorem isDec_is {a : List UInt8} {n : Int} (h : IsDec ⟨a.toArray⟩ n) : a = decL n := by
  have := congrArg (fun s : ByteArray => s.data.toList) h.1
  simpa [decS] using this
theorem decL_inj {a b : Int} (h : decL a = decL b) (ha : a.natAbs < 10 ^ 18) (hb : b.natAbs < 10 ^ 18) : a = b := IsDec.unique (isDec_of rfl ha) (isDec_of h hb)
theorem pt_small {x y : Int} (h : ptOk x y = true) : x.natAbs < 10 ^ 18 ∧ y.natAbs < 10 ^ 18 := by
  have := ptOk_iff.1 h
  omega
/-- what reading a point comes to -/
def PTPost (s : ByteArray) (w : World) (e : Ending) (w' : World) : Prop :=
  (∃ x y, s.data.toList = ptT x y ∧ ptOk x y = true ∧ e = .returned (.tuple #[.agg #[.int .i64 x, .int .i64 y], .bool true]) ∧ Below w.heap.size w w') ∨
  ((∀ x y, ptOk x y = true → s.data.toList ≠ ptT x y) ∧ e = .returned (.tuple #[.agg #[.int .i64 0, .int .i64 0], .bool false]) ∧ Below w.heap.size w w')
theorem pt_no44 {l : List UInt8} (h : ∀ x ∈ l, x ≠ 44) : ∀ x y, ptOk x y = true → l ≠ ptT x y := fun x y _ e => by
  rw [ptT_cut] at e
  exact h 44 (by rw [e]; simp) rfl
theorem pt_noA {a b : List UInt8} (h : ∀ x ∈ a, x ≠ 44) (ha : ∀ n, ¬ IsDec ⟨a.toArray⟩ n) : ∀ x y, ptOk x y = true → a ++ 44 :: b ≠ ptT x y := fun x y hk e => by
  rw [ptT_cut] at e
  exact ha x (isDec_of (cut_uniq h decL_no44 e).1 (pt_small hk).1)
theorem pt_noB {a b : List UInt8} (h : ∀ x ∈ a, x ≠ 44) (hb : ∀ n, ¬ IsDec ⟨b.toArray⟩ n) : ∀ x y, ptOk x y = true → a ++ 44 :: b ≠ ptT x y := fun x y hk e => by
  rw [ptT_cut] at e
  exact hb y (isDec_of (cut_uniq h decL_no44 e).2 (pt_small hk).2)
theorem pt_noK {a b : List UInt8} {x y : Int} (h : ∀ x ∈ a, x ≠ 44) (ha : IsDec ⟨a.toArray⟩ x) (hb : IsDec ⟨b.toArray⟩ y) (hk : ptOk x y = false) : ∀ x y, ptOk x y = true → a ++ 44 :: b ≠ ptT x y := fun x' y' hk' e => by
  rw [ptT_cut] at e
  obtain ⟨e1, e2⟩ := cut_uniq h decL_no44 e
  have h1 := decL_inj ((isDec_is ha).symm.trans e1) ha.2 (pt_small hk').1
  have h2 := decL_inj ((isDec_is hb).symm.trans e2) hb.2 (pt_small hk').2
  subst h1 h2
  rw [hk] at hk'; cases hk'
theorem pt_yes {a b : List UInt8} {x y : Int} (ha : IsDec ⟨a.toArray⟩ x) (hb : IsDec ⟨b.toArray⟩ y) : a ++ 44 :: b = ptT x y := by
  rw [ptT_cut, ← isDec_is ha, ← isDec_is hb]
theorem split_pair {c : UInt8} {l a b : List UInt8} (h : splitF c l = [a, b]) : l = a ++ c :: b ∧ ∀ x ∈ a, x ≠ c := by
  rcases first_at c l with h1 | ⟨u, t, rfl, h1⟩
  · rw [splitF_last c l h1] at h; simp at h
  · rw [splitF_hit c u t h1] at h
    injection h with e1 h
    subst e1
    rcases first_at c t with h2 | ⟨u2, t2, rfl, h2⟩
    · rw [splitF_last c t h2] at h
      injection h with h _
      subst h
      exact ⟨rfl, h1⟩
    · rw [splitF_hit c u2 t2 h2] at h
      injection h with _ h
      exact absurd h (splitF_ne c t2)
theorem pt_split {l : List UInt8} (h : (splitF 44 l).length ≠ 2) : ∀ x y, ptOk x y = true → l ≠ ptT x y := fun x y _ e => h (by rw [e, split_pt]; rfl)
/-! ### knots -/
theorem ptT_ne {x y : Int} : ptT x y ≠ [] := by rw [ptT_cut]; simp
theorem ptT_no126 {x y : Int} : ∀ c ∈ ptT x y, c ≠ 126 := by
  intro c hc
  unfold ptT at hc
  simp only [List.mem_append, List.mem_singleton] at hc
  rcases hc with hc | hc | hc
  · exact decL_no (by decide) (.inr (by decide)) c hc
  · subst hc; decide
  · exact decL_no (by decide) (.inr (by decide)) c hc
theorem knot_off {k : Knot} {r : List UInt8} (h : knotT k = 126 :: r) : k.2.2 = false ∧ r = ptT k.1 k.2.1 := by
  unfold knotT at h
  cases hk : k.2.2 with
  | true =>
    rw [hk] at h
    simp at h
    exact absurd rfl (ptT_no126 (x := k.1) (y := k.2.1) 126 (by rw [h]; simp))
  | false =>
    rw [hk] at h
    simp at h
    exact ⟨rfl, h.symm⟩
theorem knot_on {k : Knot} (h : ∀ r, knotT k ≠ 126 :: r) : k.2.2 = true ∧ knotT k = ptT k.1 k.2.1 := by
  cases hk : k.2.2 with
  | true => exact ⟨rfl, by unfold knotT; rw [hk]; simp⟩
  | false => exact absurd (show knotT k = 126 :: ptT k.1 k.2.1 by unfold knotT; rw [hk]; simp) (h _)
theorem pt_uniq {x y x' y' : Int} (h : ptT x y = ptT x' y') (h1 : ptOk x y = true) (h2 : ptOk x' y' = true) : x = x' ∧ y = y' := by
  rw [ptT_cut, ptT_cut] at h
  obtain ⟨e1, e2⟩ := cut_uniq decL_no44 decL_no44 h
  exact ⟨decL_inj e1 (pt_small h1).1 (pt_small h2).1, decL_inj e2 (pt_small h1).2 (pt_small h2).2⟩
/-- reading a point whose text it is -/
theorem PTPost.get {s : ByteArray} {w w' : World} {e : Ending} (h : PTPost s w e w') : ∃ (x y : Int) (t : Bool), e = .returned (.tuple #[.agg #[.int .i64 x, .int .i64 y], .bool t]) ∧ (∀ x0 y0, s.data.toList = ptT x0 y0 → ptOk x0 y0 = true → t = true ∧ x = x0 ∧ y = y0) ∧ Below w.heap.size w w' := by
  rcases h with ⟨x, y, h1, h2, rfl, hb⟩ | ⟨h1, rfl, hb⟩
  · exact ⟨x, y, true, rfl, fun x0 y0 h3 h4 => ⟨rfl, pt_uniq (h1.symm.trans h3) h2 h4⟩, hb⟩
  · exact ⟨0, 0, false, rfl, fun x0 y0 h3 h4 => absurd h3 (h1 x0 y0 h4), hb⟩
end Go.Proofs.YtgdkabljgabjoaaGreatDoor

