/- The walk of the function that splits a text. Conditions: as it states. -/
import Derived.BigQuiet
import Derived.Outline
import Derived.Lib.SplitLaws
import Derived.Test.YtpmpbfkpiocleaaDoorAs01
import Derived.Test.YtpmpbfkpiocleaaDoorProg
namespace Go.Proofs.YtpmpbfkpiocleaaDoor
open Go.RowKit
set_option linter.unusedVariables false
set_option maxRecDepth 100000

def splitF (b : UInt8) : List UInt8 → List (List UInt8)
  | [] => [[]]
  | c :: l => if c = b then [] :: splitF b l else match splitF b l with | [] => [[c]] | x :: r => (c :: x) :: r
theorem splitF_ne (b : UInt8) (l : List UInt8) : splitF b l ≠ [] := by
  cases l with
  | nil => simp [splitF]
  | cons c l => rw [splitF]; split
                · simp
                · split <;> simp
theorem splitF_hit (b : UInt8) : ∀ (a l : List UInt8), (∀ c ∈ a, c ≠ b) → splitF b (a ++ b :: l) = a :: splitF b l := by
  intro a
  induction a with
  | nil => intro l _; simp [splitF]
  | cons c a ih =>
    intro l h
    have h1 := ih l (fun c hc => h c (List.mem_cons_of_mem _ hc))
    rw [List.cons_append, splitF, if_neg (h c (by simp)), h1]
theorem splitF_last (b : UInt8) : ∀ a : List UInt8, (∀ c ∈ a, c ≠ b) → splitF b a = [a] := by
  intro a
  induction a with
  | nil => intro _; rfl
  | cons c a ih =>
    intro h
    rw [splitF, if_neg (h c (by simp)), ih (fun c hc => h c (List.mem_cons_of_mem _ hc))]
/-- behind i bytes: the pieces P, the next one from f on -/
def SplitTo (s : ByteArray) (b : UInt8) (i f : Nat) (P : List (List UInt8)) : Prop :=
  f ≤ i ∧ i ≤ s.size ∧ P.length ≤ i ∧ splitF b s.data.toList = P ++ splitF b (s.data.toList.drop f) ∧ ∀ c ∈ (s.data.toList.take i).drop f, c ≠ b
theorem SplitTo.start (s : ByteArray) (b : UInt8) : SplitTo s b 0 0 [] := ⟨Nat.le_refl _, Nat.zero_le _, Nat.zero_le _, by simp, by simp⟩
theorem SplitTo.done {s : ByteArray} {b : UInt8} {f : Nat} {P : List (List UInt8)} (h : SplitTo s b s.size f P) : splitF b s.data.toList = P ++ [s.data.toList.drop f] := by
  obtain ⟨h1, h2, h3, h4, h5⟩ := h
  rw [List.take_of_length_le (by simp)] at h5
  rw [h4, splitF_last _ _ h5]

theorem extract_mk (s : ByteArray) (f i : Nat) : s.extract f i = ⟨((s.data.toList.take i).drop f).toArray⟩ := by
  have h : (s.extract f i).data.toList = (s.data.toList.take i).drop f := by simp [ByteArray.data_extract, List.drop_take]
  rw [← h]

end Go.Proofs.YtpmpbfkpiocleaaDoor

/- strings.Split at one byte is the split of the reference: plain facts. Conditions: as each states. -/
namespace Go.Proofs.YtpmpbfkpiocleaaDoor
open Go.RowKit
set_option linter.unusedVariables false
set_option maxRecDepth 100000

theorem ix_hit (c : UInt8) (r : List UInt8) : ∀ a : List UInt8, (∀ x ∈ a, x ≠ c) → Lib.index (a ++ c :: r) [c] = a.length := by
  intro a
  induction a with
  | nil => intro _; simp [Lib.index, List.isPrefixOf]
  | cons b a ih =>
    intro h
    have hb : b ≠ c := h b (List.mem_cons_self ..)
    have hp : ([c] : List UInt8).isPrefixOf (b :: (a ++ c :: r)) = false := by simp [List.isPrefixOf, Ne.symm hb]
    have hi := ih (fun x hx => h x (List.mem_cons_of_mem _ hx))
    rw [List.cons_append, Lib.index, hp, hi, if_neg (by simp), if_neg (by rw [beq_iff_eq]; omega)]
    rw [List.length_cons]; omega
theorem first_at (c : UInt8) : ∀ l : List UInt8, (∀ x ∈ l, x ≠ c) ∨ ∃ a r, l = a ++ c :: r ∧ ∀ x ∈ a, x ≠ c := by
  intro l
  induction l with
  | nil => exact .inl (by simp)
  | cons b l ih =>
    by_cases h : b = c
    · exact .inr ⟨[], l, by rw [h]; rfl, by simp⟩
    · rcases ih with h1 | ⟨a, r, rfl, h1⟩
      · exact .inl (by intro x hx; rcases List.mem_cons.1 hx with rfl | hx; exact h; exact h1 x hx)
      · exact .inr ⟨b :: a, r, rfl, by intro x hx; rcases List.mem_cons.1 hx with rfl | hx; exact h; exact h1 x hx⟩
theorem count_miss1 (c : UInt8) {a : List UInt8} (h : ∀ x ∈ a, x ≠ c) : a.count c = 0 := by
  rw [List.count_eq_zero]
  exact fun hc => h c hc rfl
theorem splitK_is (c : UInt8) : ∀ (n : Nat) (l : List UInt8), l.length ≤ n → Lib.splitK [c] 0 (l.count c) l = splitF c l := by
  intro n
  induction n with
  | zero =>
    intro l h
    obtain rfl : l = [] := List.length_eq_zero_iff.1 (by omega)
    rfl
  | succ n ih =>
    intro l h
    rcases first_at c l with h1 | ⟨a, r, rfl, h1⟩
    · rw [count_miss1 c h1, splitF_last c l h1]; rfl
    · have e : (a ++ c :: r).count c = r.count c + 1 := by rw [List.count_append, count_miss1 c h1, List.count_cons_self]; omega
      rw [e, Lib.splitK, ix_hit c r a h1, if_neg (by rw [beq_iff_eq]; omega), splitF_hit c a r h1]
      have h2 : (a ++ c :: r).take ((a.length : Int).toNat + 0) = a := by simp
      have h3 : (a ++ c :: r).drop ((a.length : Int).toNat + ([c] : List UInt8).length) = r := by
        have e4 : a ++ c :: r = (a ++ [c]) ++ r := by simp
        rw [e4]
        exact List.drop_left' (by simp)
      rw [h2, h3, ih r (by simp at h; omega)]
def bytesOf (l : List UInt8) : ByteArray := ⟨l.toArray⟩
theorem splitB_is (c : UInt8) (s : ByteArray) : Lib.splitB ⟨#[c]⟩ 0 (Lib.countB s ⟨#[c]⟩) s = (splitF c s.data.toList).map fun l => ⟨l.toArray⟩ := by
  have hc : Lib.countB s ⟨#[c]⟩ = s.data.toList.count c := by
    rw [← Lib.count_one]

  have h := Lib.splitB_data ⟨#[c]⟩ 0 (s.data.toList.count c) s
  have h2 := splitK_is c s.data.toList.length s.data.toList (Nat.le_refl _)
  rw [hc]
  have h3 : (Lib.splitB ⟨#[c]⟩ 0 (s.data.toList.count c) s).map (·.data.toList) = splitF c s.data.toList := h.trans h2
  rw [← h3, List.map_map]
  exact (List.map_id _).symm
theorem countB_is (c : UInt8) (s : ByteArray) : Lib.countB s ⟨#[c]⟩ + 1 = (splitF c s.data.toList).length := by
  have h := congrArg List.length (splitB_is c s)
  rw [Lib.splitB_all ⟨#[c]⟩ (by show 1 ≤ 1; exact Nat.le_refl 1) 0 _ s rfl, List.length_map] at h
  exact h
/-- a text whose last byte is the separator: what stands ahead of it, then nothing -/
theorem splitF_end (c : UInt8) : ∀ (n : Nat) (l : List UInt8), l.length ≤ n → splitF c (l ++ [c]) = splitF c l ++ [[]] := by
  intro n
  induction n with
  | zero =>
    intro l h
    obtain rfl : l = [] := List.length_eq_zero_iff.1 (by omega)
    exact (splitF_hit c [] [] (by simp)).trans rfl
  | succ n ih =>
    intro l h
    rcases first_at c l with h1 | ⟨a, r, rfl, h1⟩
    · rw [splitF_hit c l [] h1, splitF_last c l h1, splitF_last c [] (by simp)]; rfl
    · have e : (a ++ c :: r) ++ [c] = a ++ c :: (r ++ [c]) := by simp
      rw [e, splitF_hit c a _ h1, splitF_hit c a _ h1, ih r (by simp at h; omega)]; rfl
theorem splitF_tail (c d : UInt8) (hd : d ≠ c) : ∀ (n : Nat) (l : List UInt8), l.length ≤ n → (splitF c (l ++ [d])).getLast? ≠ some [] := by
  intro n
  induction n with
  | zero =>
    intro l h
    obtain rfl : l = [] := List.length_eq_zero_iff.1 (by omega)
    rw [List.nil_append, splitF_last c [d] (by simpa using hd)]; simp
  | succ n ih =>
    intro l h
    rcases first_at c l with h1 | ⟨a, r, rfl, h1⟩
    · rw [splitF_last c (l ++ [d]) (by intro x hx; rcases List.mem_append.1 hx with hx | hx; exact h1 x hx; (rw [List.mem_singleton] at hx; subst hx; exact hd))]; simp
    · have e : (a ++ c :: r) ++ [d] = a ++ c :: (r ++ [d]) := by simp
      rw [e, splitF_hit c a _ h1]
      have := ih r (by simp at h; omega)
      obtain ⟨y, ys, hy⟩ := List.exists_cons_of_ne_nil (splitF_ne c (r ++ [d]))
      rw [hy] at this ⊢
      simpa [List.getLast?_cons] using this
end Go.Proofs.YtpmpbfkpiocleaaDoor

