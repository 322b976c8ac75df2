/- Plain facts and words: no program in sight. Conditions: none. -/
import Derived.WalkKit
import Derived.WalkSpells
import Derived.WalkLawsBesides
import Derived.Lib.Hide
namespace Go.Proofs.Ytgnjohkfgllhmaa
open Go.RowKit
set_option linter.unusedVariables false
set_option maxRecDepth 100000

/-- a number lies in a range -/
def inB (n a b : Int) : Bool := decide (a ≤ n) && decide (n ≤ b)
theorem inB_iff {n a b : Int} : inB n a b = true ↔ a ≤ n ∧ n ≤ b := by simp [inB]
theorem inB_false {n a b : Int} : inB n a b = false ↔ n < a ∨ b < n := by
  simp only [inB, Bool.and_eq_false_iff, decide_eq_false_iff_not]; omega

/-- the integer nearest to a quotient, halves up -/
def rnd (n d : Int) : Int := (2 * n + d) / (2 * d)

theorem ret_int {k : IntKind} {a b : Int} (h : a = b) : Ending.returned (.int k a) = .returned (.int k b) := by rw [h]
theorem ret_bool {a b : Bool} (h : a = b) : Ending.returned (.bool a) = .returned (.bool b) := by rw [h]
theorem ret_string {a b : ByteArray} (h : a = b) : Ending.returned (.string a) = .returned (.string b) := by rw [h]

theorem rnd_up {n d : Int} (hd : 0 < d) (h : d - n % d ≤ n % d) : n / d + 1 = rnd n d := by
  unfold rnd
  have h1 := Int.emod_add_mul_ediv n d
  have h2 := Int.emod_lt_of_pos n hd
  have h0 := Int.emod_nonneg n (Int.ne_of_gt hd)
  generalize n / d = q at *
  generalize n % d = r at *
  have : 2 * n + d = (2 * r - d) + (q + 1) * (2 * d) := by rw [← h1]; grind
  rw [this, Int.add_mul_ediv_right _ _ (by omega), Int.ediv_eq_zero_of_lt (by omega) (by omega)]; omega
theorem rnd_down {n d : Int} (hd : 0 < d) (h : n % d < d - n % d) : n / d = rnd n d := by
  unfold rnd
  have h1 := Int.emod_add_mul_ediv n d
  have h2 := Int.emod_lt_of_pos n hd
  have h0 := Int.emod_nonneg n (Int.ne_of_gt hd)
  generalize n / d = q at *
  generalize n % d = r at *
  have : 2 * n + d = (2 * r + d) + q * (2 * d) := by rw [← h1]; grind
  rw [this, Int.add_mul_ediv_right _ _ (by omega), Int.ediv_eq_zero_of_lt (by omega) (by omega)]; omega
theorem tmod_lt0 {n d : Int} (hd : 0 < d) (h : n.tmod d < 0) : n.tmod d + d = n % d ∧ n.tdiv d - 1 = n / d := by
  rw [Int.tdiv_eq_ediv, Int.tmod_eq_emod] at *
  split at h
  · have := Int.emod_nonneg n (Int.ne_of_gt hd); omega
  · rename_i hc
    rw [if_neg hc, if_neg hc]
    rw [Int.sign_eq_one_of_pos hd] at *
    have : (d.natAbs : Int) = d := by omega
    rw [this]; omega
theorem tmod_ge0 {n d : Int} (hd : 0 < d) (h : 0 ≤ n.tmod d) : n.tmod d = n % d ∧ n.tdiv d = n / d := by
  rw [Int.tdiv_eq_ediv, Int.tmod_eq_emod] at *
  split at h
  · rename_i hc; rw [if_pos hc, if_pos hc]; simp
  · rename_i hc
    have h2 := Int.emod_lt_of_pos n hd
    have : (d.natAbs : Int) = d := by omega
    omega
theorem tdiv_bd {n d : Int} {B : Int} (hd : 0 < d) (h1 : -B ≤ n) (h2 : n ≤ B) : -B ≤ n.tdiv d ∧ n.tdiv d ≤ B := by
  rcases Int.lt_or_le (n.tmod d) 0 with h | h
  · have ⟨_, e2⟩ := tmod_lt0 hd h
    have h3 : -B ≤ n / d := by
      rw [Int.le_ediv_iff_mul_le hd]
      rcases Int.lt_or_le B 0 with hB | hB
      · omega
      · have : B * 1 ≤ B * d := Int.mul_le_mul_of_nonneg_left (by omega) hB
        rw [Int.neg_mul]; omega
    have h4 : n / d < 0 := by
      rw [Int.ediv_lt_iff_lt_mul hd]
      have : n.tmod d ≤ 0 := by omega
      rcases Int.lt_or_le n 0 with hn | hn
      · omega
      · have := Int.tmod_nonneg d hn; omega
    have : -B ≤ 0 := by
      have : n < 0 := by
        rcases Int.lt_or_le n 0 with hn | hn
        · exact hn
        · have := Int.tmod_nonneg d hn; omega
      omega
    omega
  · have ⟨_, e2⟩ := tmod_ge0 hd h
    rw [e2]
    have hB : 0 ≤ B := by omega
    have hm : B * 1 ≤ B * d := Int.mul_le_mul_of_nonneg_left (by omega) hB
    constructor
    · rw [Int.le_ediv_iff_mul_le hd, Int.neg_mul]; omega
    · have := (Int.ediv_lt_iff_lt_mul (a := n) (b := B + 1) hd).2 (by rw [Int.add_mul]; omega)
      omega
theorem bytes_eq {a b : ByteArray} (h : (a.toList == b.toList) = true) : a = b := by
  have h := eq_of_beq h
  rw [ByteArray.toList_eq, ByteArray.toList_eq] at h
  cases a; cases b; simp at h; simpa using h
theorem bytes_ne {a b : ByteArray} (h : (a.toList == b.toList) = false) : a ≠ b := by
  rintro rfl; simp at h
end Go.Proofs.Ytgnjohkfgllhmaa
