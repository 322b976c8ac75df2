/- The text of a number of parts is read in one way alone: plain facts. No program in sight. Conditions: none. -/
import Derived.Test.YtgngcllodofimaaReadP
import Derived.Test.YtgngcllodofimaaPixels
namespace Go.Proofs.Ytgngcllodofimaa
open Go.RowKit
set_option linter.unusedVariables false
set_option maxRecDepth 100000

theorem digit1 : ∀ d : Nat, d < 10 → decL (d : Int) = [UInt8.ofNat (48 + d)] := by decide +kernel
/-- the text: a sign, the pixels, a colon, two digits -/
theorem pixL_form (v : Int) : pixL v = (if v < 0 then [45] else []) ++ (dec1 (v.natAbs / 64) ++ [58, UInt8.ofNat (48 + v.natAbs % 64 / 10), UInt8.ofNat (48 + v.natAbs % 64 % 10)]) := by
  unfold pixL
  rw [digit1 (v.natAbs % 64 / 10) (by omega), digit1 (v.natAbs % 64 % 10) (by omega), decL_pos (n := ((v.natAbs / 64 : Nat) : Int)) (by omega), Int.natAbs_natCast]
  simp
/-- s is the text of v -/
def IsPix (s : ByteArray) (v : Int) : Prop := s = pixS v ∧ -1099511627776 ≤ v ∧ v ≤ 1099511627776
theorem IsPix.list {s : ByteArray} {v : Int} (h : IsPix s v) : s.data.toList = pixL v := by rw [h.1]; simp [pixS]
theorem dig58 {c : UInt8} (h : isDig c = true) : c ≠ 58 := by
  intro e; subst e; simp [isDig] at h
theorem dec1_58 (n : Nat) : ∀ c ∈ dec1 n, c ≠ 58 := fun c hc => dig58 (List.all_eq_true.1 (dec1_digits n) c hc)
/-- a text without a sign, cut at its first colon -/
theorem cut_unique {b : UInt8} {a a' l l' : List UInt8} (h : a ++ b :: l = a' ++ b :: l') (h1 : ∀ c ∈ a, c ≠ b) (h2 : ∀ c ∈ a', c ≠ b) : a = a' ∧ l = l' := by
  induction a generalizing a' with
  | nil =>
    cases a' with
    | nil => simp at h; exact ⟨rfl, h⟩
    | cons c a' => simp at h; exact absurd h.1.symm (h2 c (by simp))
  | cons c a ih =>
    cases a' with
    | nil => simp at h; exact absurd h.1 (h1 c (by simp))
    | cons c' a' =>
      simp at h
      obtain ⟨e1, e2⟩ := ih h.2 (fun x hx => h1 x (List.mem_cons_of_mem _ hx)) (fun x hx => h2 x (List.mem_cons_of_mem _ hx))
      exact ⟨by rw [h.1, e1], e2⟩
theorem digit_nat (d : Nat) (h : d < 10) : (UInt8.ofNat (48 + d)).toNat = 48 + d := by rw [UInt8.toNat_ofNat']; omega
theorem IsPix.unique {s : ByteArray} {a b : Int} (ha : IsPix s a) (hb : IsPix s b) : a = b := by
  have h := ha.list.symm.trans hb.list
  rw [pixL_form, pixL_form] at h
  have key : ∀ x y : Nat, dec1 (x / 64) ++ [58, UInt8.ofNat (48 + x % 64 / 10), UInt8.ofNat (48 + x % 64 % 10)] = dec1 (y / 64) ++ [58, UInt8.ofNat (48 + y % 64 / 10), UInt8.ofNat (48 + y % 64 % 10)] → x = y := by
    intro x y e
    obtain ⟨e1, e2⟩ := cut_unique e (dec1_58 _) (dec1_58 _)
    have e3 := congrArg val e1
    rw [dec1_val, dec1_val] at e3
    simp only [List.cons.injEq, and_true] at e2
    have e4 := congrArg UInt8.toNat e2.1
    have e5 := congrArg UInt8.toNat e2.2
    rw [digit_nat _ (by omega), digit_nat _ (by omega)] at e4 e5
    omega
  have hne : ∀ (x : Nat) (l : List UInt8), dec1 (x / 64) ++ l ≠ 45 :: l → True := fun _ _ _ => trivial
  have h45 : ∀ (x : Nat) (l l' : List UInt8), dec1 x ++ l = 45 :: l' → False := by
    intro x l l' e
    have := dec1_head x
    cases hd : dec1 x with
    | nil => exact dec1_ne x hd
    | cons c r => rw [hd] at e this; simp at e this; exact this e.1
  by_cases h1 : a < 0 <;> by_cases h2 : b < 0
  · rw [if_pos h1, if_pos h2] at h
    have := key _ _ (List.append_cancel_left h)
    omega
  · rw [if_pos h1, if_neg h2] at h
    exact (h45 _ _ _ h.symm).elim
  · rw [if_neg h1, if_pos h2] at h
    exact (h45 _ _ _ h).elim
  · rw [if_neg h1, if_neg h2] at h
    have := key _ _ (List.append_cancel_left h)
    omega
end Go.Proofs.Ytgngcllodofimaa
