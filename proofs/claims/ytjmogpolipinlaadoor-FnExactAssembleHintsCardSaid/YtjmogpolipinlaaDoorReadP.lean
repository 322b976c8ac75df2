/- The number that digits say: plain facts. No program in sight. Conditions: none. -/
import Derived.Test.YtjmogpolipinlaaDoorDecP
namespace Go.Proofs.YtjmogpolipinlaaDoor
open Go.RowKit
set_option linter.unusedVariables false
set_option maxRecDepth 100000

def isDig (c : UInt8) : Bool := decide (48 ≤ c.toNat) && decide (c.toNat ≤ 57)
/-- the number of digits, from a on -/
def valF (a : Nat) (l : List UInt8) : Nat := l.foldl (fun a c => 10 * a + (c.toNat - 48)) a
def val (l : List UInt8) : Nat := valF 0 l
theorem val_snoc (l : List UInt8) (c : UInt8) : val (l ++ [c]) = 10 * val l + (c.toNat - 48) := by simp [val, valF, List.foldl_append]
theorem valF_lt : ∀ (l : List UInt8) (a : Nat), l.all isDig = true → valF a l < (a + 1) * 10 ^ l.length := by
  intro l
  induction l with
  | nil => intro a _; simp [valF]
  | cons c l ih =>
    intro a h
    rw [List.all_cons, Bool.and_eq_true] at h
    have h2 : c.toNat ≤ 57 := by have := h.1; simp [isDig] at this; omega
    have h1 := ih (10 * a + (c.toNat - 48)) h.2
    have h3 : (10 * a + (c.toNat - 48) + 1) * 10 ^ l.length ≤ (10 * a + 10) * 10 ^ l.length := Nat.mul_le_mul_right _ (by omega)
    have h4 : (a + 1) * 10 ^ (l.length + 1) = (10 * a + 10) * 10 ^ l.length := by rw [Nat.pow_succ]; grind
    show valF (10 * a + (c.toNat - 48)) l < (a + 1) * 10 ^ (l.length + 1)
    omega
theorem val_lt (l : List UInt8) (h : l.all isDig = true) : val l < 10 ^ l.length := by
  have := valF_lt l 0 h
  simpa [val] using this
theorem digs_digits : ∀ (f n : Nat), n ≤ f → (digs n).all isDig = true := by
  intro f
  induction f with
  | zero => intro n h; obtain rfl : n = 0 := by omega
            rfl
  | succ f ih =>
    intro n h
    by_cases h0 : n = 0
    · subst h0; rfl
    · rw [digs_step h0, List.all_append, ih (n / 10) (by omega)]
      have : (UInt8.ofNat (48 + n % 10)).toNat = 48 + n % 10 := by rw [UInt8.toNat_ofNat']; omega
      simp only [List.all_cons, List.all_nil, isDig, this, Bool.and_true, Bool.true_and, Bool.and_eq_true, decide_eq_true_eq]
      omega
theorem digs_val : ∀ (f n : Nat), n ≤ f → val (digs n) = n := by
  intro f
  induction f with
  | zero => intro n h; obtain rfl : n = 0 := by omega
            rfl
  | succ f ih =>
    intro n h
    by_cases h0 : n = 0
    · subst h0; rfl
    · rw [digs_step h0, val_snoc, ih (n / 10) (by omega)]
      have : (UInt8.ofNat (48 + n % 10)).toNat = 48 + n % 10 := by rw [UInt8.toNat_ofNat']; omega
      rw [this]; omega
theorem dec1_digits (n : Nat) : (dec1 n).all isDig = true := by
  unfold dec1; split
  · rfl
  · exact digs_digits n n (Nat.le_refl _)
theorem dec1_val (n : Nat) : val (dec1 n) = n := by
  unfold dec1; split
  · rename_i h; subst h; rfl
  · exact digs_val n n (Nat.le_refl _)
theorem dec1_ne (n : Nat) : dec1 n ≠ [] := by
  unfold dec1; split
  · simp
  · exact digs_ne ‹_›
theorem dec1_len18 {n : Nat} (h : n < 10 ^ 18) : (dec1 n).length ≤ 18 := by
  unfold dec1; split
  · simp
  · exact digs_len 18 n h
theorem dec1_head (n : Nat) : (dec1 n).head? ≠ some 45 := by
  have h := dec1_digits n
  cases hd : dec1 n with
  | nil => simp
  | cons c l =>
    rw [hd] at h
    simp [isDig] at h
    intro e
    simp at e
    subst e
    have := h.1.1
    simp at this

/-- s is the decimal form of n, of 18 digits at most -/
def IsDec (s : ByteArray) (n : Int) : Prop := s = decS n ∧ n.natAbs < 10 ^ 18
theorem decS_inj_list {a b : Int} (h : decS a = decS b) : decL a = decL b := by
  unfold decS at h
  injection h with h
  simpa using h
theorem decL_neg {n : Int} (h : n < 0) : decL n = 45 :: dec1 n.natAbs := by simp [decL, h]
theorem decL_pos {n : Int} (h : 0 ≤ n) : decL n = dec1 n.natAbs := by unfold decL; rw [if_neg (by omega)]; rfl
theorem IsDec.unique {s : ByteArray} {a b : Int} (ha : IsDec s a) (hb : IsDec s b) : a = b := by
  have h := decS_inj_list (ha.1.symm.trans hb.1)
  rcases Int.lt_or_le a 0 with h1 | h1 <;> rcases Int.lt_or_le b 0 with h2 | h2
  · rw [decL_neg h1, decL_neg h2] at h
    injection h with _ h
    have := congrArg val h
    rw [dec1_val, dec1_val] at this
    omega
  · rw [decL_neg h1, decL_pos h2] at h
    exact absurd (by rw [← h]; rfl) (dec1_head b.natAbs)
  · rw [decL_pos h1, decL_neg h2] at h
    exact absurd (by rw [h]; rfl) (dec1_head a.natAbs)
  · rw [decL_pos h1, decL_pos h2] at h
    have := congrArg val h
    rw [dec1_val, dec1_val] at this
    omega
end Go.Proofs.YtjmogpolipinlaaDoor
