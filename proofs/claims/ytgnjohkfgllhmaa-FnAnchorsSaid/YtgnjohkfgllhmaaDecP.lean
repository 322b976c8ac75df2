/- The decimal digits of a number: plain facts. No program in sight. Conditions: none. -/
import Derived.Test.YtgnjohkfgllhmaaMem
namespace Go.Proofs.Ytgnjohkfgllhmaa
open Go.RowKit
set_option linter.unusedVariables false
set_option maxRecDepth 100000

/-- the digits of a number, none of 0 -/
def digsF : Nat → Nat → List UInt8
  | 0, _ => []
  | f + 1, n => if n = 0 then [] else digsF f (n / 10) ++ [UInt8.ofNat (48 + n % 10)]
def digs (n : Nat) : List UInt8 := digsF n n

theorem digsF_enough : ∀ (f g n : Nat), n ≤ f → n ≤ g → digsF f n = digsF g n := by
  intro f
  induction f with
  | zero =>
    intro g n h _
    have : n = 0 := by omega
    subst this
    cases g <;> simp [digsF]
  | succ f ih =>
    intro g n h h'
    cases g with
    | zero =>
      have : n = 0 := by omega
      subst this
      simp [digsF]
    | succ g =>
      simp only [digsF]
      split
      · rfl
      · rw [ih g (n / 10) (by omega) (by omega)]
theorem digs_zero : digs 0 = [] := rfl
theorem digs_step {n : Nat} (h : n ≠ 0) : digs n = digs (n / 10) ++ [UInt8.ofNat (48 + n % 10)] := by
  unfold digs
  cases n with
  | zero => exact absurd rfl h
  | succ n =>
    simp only [digsF, Nat.add_eq_zero_iff, Nat.succ_ne_self, and_false, if_false]
    rw [digsF_enough n ((n + 1) / 10) ((n + 1) / 10) (by omega) (Nat.le_refl _)]
theorem digs_len : ∀ (f n : Nat), n < 10 ^ f → (digs n).length ≤ f := by
  intro f
  induction f with
  | zero => intro n h; have : n = 0 := by simpa using h
            subst this; simp [digs_zero]
  | succ f ih =>
    intro n h
    by_cases h0 : n = 0
    · subst h0; simp [digs_zero]
    · rw [digs_step h0]
      have := ih (n / 10) (by rw [Nat.pow_succ] at h; omega)
      simp; omega
theorem digs_len19 {n : Nat} (h : n ≤ 9223372036854775808) : (digs n).length ≤ 19 := digs_len 19 n (by omega)
theorem digs_ne {n : Nat} (h : n ≠ 0) : digs n ≠ [] := by rw [digs_step h]; simp

/-- the decimal form -/
def dec1 (n : Nat) : List UInt8 := if n = 0 then [48] else digs n
def decL (n : Int) : List UInt8 := (if n < 0 then [45] else []) ++ dec1 n.natAbs
def decS (n : Int) : ByteArray := ⟨(decL n).toArray⟩
theorem dec1_len {n : Nat} (h : n ≤ 9223372036854775808) : (dec1 n).length ≤ 19 := by
  unfold dec1; split
  · simp
  · exact digs_len19 h
theorem decL_len {n : Int} (h1 : -9223372036854775808 ≤ n) (h2 : n ≤ 9223372036854775807) : (decL n).length ≤ 20 := by
  unfold decL
  have := dec1_len (n := n.natAbs) (by omega)
  rw [List.length_append]
  split <;> simp <;> omega

theorem natAbs_tdiv10 (k : Int) : (k.tdiv 10).natAbs = k.natAbs / 10 := by rw [Int.natAbs_tdiv]; rfl
theorem natAbs_tmod10 (k : Int) : (k.tmod 10).natAbs = k.natAbs % 10 := by rw [Int.natAbs_tmod]; rfl
theorem tmod10_neg {x : Int} (h : x < 0) : x.tmod 10 ≤ 0 ∧ -9 ≤ x.tmod 10 ∧ x.tmod 10 = -((x.natAbs % 10 : Nat) : Int) ∧ x.tdiv 10 = -((x.natAbs / 10 : Nat) : Int) := by
  obtain ⟨y, rfl⟩ : ∃ y : Nat, x = -(y : Int) := ⟨x.natAbs, by omega⟩
  rw [Int.neg_tmod, Int.neg_tdiv, Int.natAbs_neg, Int.natAbs_natCast]
  have e1 : ((y : Int).tmod 10) = ((y % 10 : Nat) : Int) := by rw [Int.tmod_eq_emod_of_nonneg (by omega)]; omega
  have e2 : ((y : Int).tdiv 10) = ((y / 10 : Nat) : Int) := by rw [Int.tdiv_eq_ediv_of_nonneg (by omega)]; omega
  rw [e1, e2]
  omega
theorem byteV_digit (d : Nat) (ds : List UInt8) (v : Int) (h : v = 48 + (d % 10 : Nat)) : byteV (UInt8.ofNat (48 + d % 10) :: ds) = [.int .u8 v] ++ byteV ds := by
  have h8 : (UInt8.ofNat (48 + d % 10)).toNat = 48 + d % 10 := by
    rw [UInt8.toNat_ofNat']; omega
  simp only [byteV, List.map_cons, h8, List.cons_append, List.nil_append]
  congr 2; omega
end Go.Proofs.Ytgnjohkfgllhmaa
