/- strings.Split at one byte is the split of the reference: plain facts. Conditions: as each states. -/
import Derived.Test.YtjmogpolipinlaaDoorSplit
import Derived.Lib.SplitLaws
namespace Go.Proofs.YtjmogpolipinlaaDoor
open Go.RowKit
set_option linter.unusedVariables false
set_option maxRecDepth 100000

theorem ix_miss (c : UInt8) : ∀ l : List UInt8, (∀ x ∈ l, x ≠ c) → Lib.index l [c] = -1 := by
  intro l
  induction l with
  | nil => intro _; rfl
  | cons a l ih =>
    intro h
    have ha : a ≠ c := h a (List.mem_cons_self ..)
    have hp : ([c] : List UInt8).isPrefixOf (a :: l) = false := by simp [List.isPrefixOf, Ne.symm ha]
    rw [Lib.index, hp, ih (fun x hx => h x (List.mem_cons_of_mem _ hx))]
    rfl
theorem ix_hit (c : UInt8) (r : List UInt8) : ∀ a : List UInt8, (∀ x ∈ a, x ≠ c) → Lib.index (a ++ c :: r) [c] = a.length := by
  intro a
  induction a with
  | nil => intro _; simp [Lib.index, List.isPrefixOf]
  | cons b a ih =>
    intro h
    have hb : b ≠ c := h b (List.mem_cons_self ..)
    have hp : ([c] : List UInt8).isPrefixOf (b :: (a ++ c :: r)) = false := by simp [List.isPrefixOf, Ne.symm hb]
    have hi := ih (fun x hx => h x (List.mem_cons_of_mem _ hx))
    rw [List.cons_append, Lib.index, hp, hi, if_neg (by simp), if_neg (by rw [beq_iff_eq]; omega)]
    rw [List.length_cons]; omega
theorem first_at (c : UInt8) : ∀ l : List UInt8, (∀ x ∈ l, x ≠ c) ∨ ∃ a r, l = a ++ c :: r ∧ ∀ x ∈ a, x ≠ c := by
  intro l
  induction l with
  | nil => exact .inl (by simp)
  | cons b l ih =>
    by_cases h : b = c
    · exact .inr ⟨[], l, by rw [h]; rfl, by simp⟩
    · rcases ih with h1 | ⟨a, r, rfl, h1⟩
      · exact .inl (by intro x hx; rcases List.mem_cons.1 hx with rfl | hx; exact h; exact h1 x hx)
      · exact .inr ⟨b :: a, r, rfl, by intro x hx; rcases List.mem_cons.1 hx with rfl | hx; exact h; exact h1 x hx⟩
theorem count_miss1 (c : UInt8) {a : List UInt8} (h : ∀ x ∈ a, x ≠ c) : a.count c = 0 := by
  rw [List.count_eq_zero]
  exact fun hc => h c hc rfl
theorem splitK_is (c : UInt8) : ∀ (n : Nat) (l : List UInt8), l.length ≤ n → Lib.splitK [c] 0 (l.count c) l = splitF c l := by
  intro n
  induction n with
  | zero =>
    intro l h
    obtain rfl : l = [] := List.length_eq_zero_iff.1 (by omega)
    rfl
  | succ n ih =>
    intro l h
    rcases first_at c l with h1 | ⟨a, r, rfl, h1⟩
    · rw [count_miss1 c h1, splitF_last c l h1]; rfl
    · have e : (a ++ c :: r).count c = r.count c + 1 := by rw [List.count_append, count_miss1 c h1, List.count_cons_self]; omega
      rw [e, Lib.splitK, ix_hit c r a h1, if_neg (by rw [beq_iff_eq]; omega), splitF_hit c a r h1]
      have h2 : (a ++ c :: r).take ((a.length : Int).toNat + 0) = a := by simp
      have h3 : (a ++ c :: r).drop ((a.length : Int).toNat + ([c] : List UInt8).length) = r := by
        have e4 : a ++ c :: r = (a ++ [c]) ++ r := by simp
        rw [e4]
        exact List.drop_left' (by simp)
      rw [h2, h3, ih r (by simp at h; omega)]
def bytesOf (l : List UInt8) : ByteArray := ⟨l.toArray⟩
theorem splitB_is (c : UInt8) (s : ByteArray) : Lib.splitB ⟨#[c]⟩ 0 (Lib.countB s ⟨#[c]⟩) s = (splitF c s.data.toList).map fun l => ⟨l.toArray⟩ := by
  have hc : Lib.countB s ⟨#[c]⟩ = s.data.toList.count c := by
    rw [← Lib.count_one]

  have h := Lib.splitB_data ⟨#[c]⟩ 0 (s.data.toList.count c) s
  have h2 := splitK_is c s.data.toList.length s.data.toList (Nat.le_refl _)
  rw [hc]
  have h3 : (Lib.splitB ⟨#[c]⟩ 0 (s.data.toList.count c) s).map (·.data.toList) = splitF c s.data.toList := h.trans h2
  rw [← h3, List.map_map]
  exact (List.map_id _).symm
theorem countB_is (c : UInt8) (s : ByteArray) : Lib.countB s ⟨#[c]⟩ + 1 = (splitF c s.data.toList).length := by
  have h := congrArg List.length (splitB_is c s)
  rw [Lib.splitB_all ⟨#[c]⟩ (by show 1 ≤ 1; exact Nat.le_refl 1) 0 _ s rfl, List.length_map] at h
  exact h
theorem splitF_cons_ne (c a : UInt8) (l : List UInt8) (h : a ≠ c) : ∃ x xs, splitF c l = x :: xs ∧ splitF c (a :: l) = (a :: x) :: xs := by
  rcases first_at c l with h1 | ⟨p, r, rfl, h1⟩
  · exact ⟨l, [], splitF_last c l h1, splitF_last c (a :: l) (by intro x hx; rcases List.mem_cons.1 hx with rfl | hx; exact h; exact h1 x hx)⟩
  · exact ⟨p, splitF c r, splitF_hit c p r h1, splitF_hit c (a :: p) r (by intro x hx; rcases List.mem_cons.1 hx with rfl | hx; exact h; exact h1 x hx)⟩
/-- a text whose last byte is the separator: what stands ahead of it, then nothing -/
theorem splitF_end (c : UInt8) : ∀ (n : Nat) (l : List UInt8), l.length ≤ n → splitF c (l ++ [c]) = splitF c l ++ [[]] := by
  intro n
  induction n with
  | zero =>
    intro l h
    obtain rfl : l = [] := List.length_eq_zero_iff.1 (by omega)
    exact (splitF_hit c [] [] (by simp)).trans rfl
  | succ n ih =>
    intro l h
    rcases first_at c l with h1 | ⟨a, r, rfl, h1⟩
    · rw [splitF_hit c l [] h1, splitF_last c l h1, splitF_last c [] (by simp)]; rfl
    · have e : (a ++ c :: r) ++ [c] = a ++ c :: (r ++ [c]) := by simp
      rw [e, splitF_hit c a _ h1, splitF_hit c a _ h1, ih r (by simp at h; omega)]; rfl
theorem splitF_tail (c d : UInt8) (hd : d ≠ c) : ∀ (n : Nat) (l : List UInt8), l.length ≤ n → (splitF c (l ++ [d])).getLast? ≠ some [] := by
  intro n
  induction n with
  | zero =>
    intro l h
    obtain rfl : l = [] := List.length_eq_zero_iff.1 (by omega)
    rw [List.nil_append, splitF_last c [d] (by simpa using hd)]; simp
  | succ n ih =>
    intro l h
    rcases first_at c l with h1 | ⟨a, r, rfl, h1⟩
    · rw [splitF_last c (l ++ [d]) (by intro x hx; rcases List.mem_append.1 hx with hx | hx; exact h1 x hx; (rw [List.mem_singleton] at hx; subst hx; exact hd))]; simp
    · have e : (a ++ c :: r) ++ [d] = a ++ c :: (r ++ [d]) := by simp
      rw [e, splitF_hit c a _ h1]
      have := ih r (by simp at h; omega)
      obtain ⟨y, ys, hy⟩ := List.exists_cons_of_ne_nil (splitF_ne c (r ++ [d]))
      rw [hy] at this ⊢
      simpa [List.getLast?_cons] using this
end Go.Proofs.YtjmogpolipinlaaDoor
