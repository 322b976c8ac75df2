/- Contracts of the small functions on numbers: what each returns. Conditions: as each states. -/
import Derived.Test.YtgnjohkfgllhmaaBase
import Derived.Test.YtgnjohkfgllhmaaProg
import Derived.BigQuiet
import Derived.Outline
namespace Go.Proofs.Ytgnjohkfgllhmaa
open Go.RowKit
set_option linter.unusedVariables false
set_option maxRecDepth 100000

theorem l00In_any (n a b : Int) (w : World) :
    Calls Try.prog 83 #[.int .i64 n, .int .i64 a, .int .i64 b] w fun e w' => e = .returned (.bool (inB n a b)) ∧ w = w' := by
  by_cases h : a ≤ n
  all_goals
    go_enter Try.func83, Try.ntmps83
    go_wp2
    go_ret
    exact ⟨ret_bool (by simp [inB]; omega), rfl⟩

/-! ### scaling -/
def askB (v size unit : Int) : Bool := inB v (-262144) 262144 && inB size 1 128 && inB unit 16 16384
theorem askB_of {v size unit : Int} (h1 : inB v (-262144) 262144 = true) (h2 : inB size 1 128 = true) (h3 : inB unit 16 16384 = true) : askB v size unit = true := by simp [askB, h1, h2, h3]
theorem askB_f1 {v size unit : Int} (h1 : inB v (-262144) 262144 = false) : askB v size unit = false := by simp [askB, h1]
theorem askB_f2 {v size unit : Int} (h1 : inB size 1 128 = false) : askB v size unit = false := by simp [askB, h1]
theorem askB_f3 {v size unit : Int} (h1 : inB unit 16 16384 = false) : askB v size unit = false := by simp [askB, h1]

theorem ask_bounds {v size unit : Int} (h : askB v size unit = true) : -262144 ≤ v ∧ v ≤ 262144 ∧ 1 ≤ size ∧ size ≤ 128 ∧ 16 ≤ unit ∧ unit ≤ 16384 := by
  simp [askB, inB] at h; omega
theorem mul_bd {a b A B : Int} (ha : -A ≤ a) (ha' : a ≤ A) (hb : 0 ≤ b) (hb' : b ≤ B) : -(A * B) ≤ a * b ∧ a * b ≤ A * B := by
  have hA : 0 ≤ A := by omega
  have h1 : A * b ≤ A * B := Int.mul_le_mul_of_nonneg_left hb' hA
  have h2 : a * b ≤ A * b := Int.mul_le_mul_of_nonneg_right ha' hb
  have h3 : -A * b ≤ a * b := Int.mul_le_mul_of_nonneg_right ha hb
  rw [Int.neg_mul] at h3
  omega

def scalesB (size unit : Int) : Bool := inB size 1 128 && inB unit 16 16384
/-! ### the two laws -/
end Go.Proofs.Ytgnjohkfgllhmaa
