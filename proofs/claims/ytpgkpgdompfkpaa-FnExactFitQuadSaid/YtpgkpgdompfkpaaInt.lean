/- Contracts of the small functions on numbers: what each returns. Conditions: as each states. -/
import Derived.Test.YtpgkpgdompfkpaaBase
import Derived.Test.YtpgkpgdompfkpaaProg
import Derived.BigQuiet
import Derived.Outline
namespace Go.Proofs.Ytpgkpgdompfkpaa
open Go.RowKit
set_option linter.unusedVariables false
set_option maxRecDepth 100000

theorem l00In_any (n a b : Int) (w : World) :
    Calls Try.prog 39 #[.int .i64 n, .int .i64 a, .int .i64 b] w fun e w' => e = .returned (.bool (inB n a b)) ∧ w = w' := by
  by_cases h : a ≤ n
  all_goals
    go_enter Try.func39, Try.ntmps39
    go_wp2
    go_ret
    exact ⟨ret_bool (by simp [inB]; omega), rfl⟩

theorem l03Round_any (n d : Int) (w : World) (hd : 0 < d) (hd2 : d ≤ 4611686018427387904) (h1 : -4611686018427387904 ≤ n) (h2 : n ≤ 4611686018427387904) :
    Calls Try.prog 57 #[.int .i64 n, .int .i64 d] w fun e w' => e = .returned (.int .i64 (rnd n d)) ∧ w = w' := by
  have hm1 := Int.tmod_lt_of_pos n hd
  have hm2 := Int.lt_tmod_of_pos n hd
  obtain ⟨hq1, hq2⟩ := tdiv_bd hd h1 h2
  go_enter Try.func57, Try.ntmps57
  go_wp2
  · have ⟨e1, e2⟩ := tmod_lt0 (n := n) hd ‹_›
    go_ret
    exact ⟨ret_int (by rw [← rnd_up hd (by omega)]; omega), rfl⟩
  · have ⟨e1, e2⟩ := tmod_lt0 (n := n) hd ‹_›
    go_ret
    exact ⟨ret_int (by rw [← rnd_down hd (by omega)]; omega), rfl⟩
  · have ⟨e1, e2⟩ := tmod_ge0 (n := n) hd ‹_›
    go_ret
    exact ⟨ret_int (by rw [← rnd_up hd (by omega)]; omega), rfl⟩
  · have ⟨e1, e2⟩ := tmod_ge0 (n := n) hd ‹_›
    go_ret
    exact ⟨ret_int (by rw [← rnd_down hd (by omega)]; omega), rfl⟩

theorem floorDiv_any (n d : Int) (w : World) (hd : 0 < d) (h1 : -9223372036854775807 ≤ n) (h2 : n ≤ 9223372036854775807) :
    Calls Try.prog 80 #[.int .i64 n, .int .i64 d] w fun e w' => e = .returned (.int .i64 (n / d)) ∧ w = w' := by
  obtain ⟨hq1, hq2⟩ := tdiv_bd hd h1 h2
  go_enter Try.func80, Try.ntmps80
  go_wp2
  · have ⟨e1, e2⟩ := tmod_lt0 (n := n) hd ‹_›
    go_ret
    exact ⟨ret_int (by omega), rfl⟩
  · have ⟨e1, e2⟩ := tmod_ge0 (n := n) hd ‹_›
    go_ret
    exact ⟨ret_int (by omega), rfl⟩

theorem DivRound_pos (n d : Int) (w : World) (hd : 0 < d) (hd2 : d ≤ 4611686018427387904) (h1 : -4611686018427387904 ≤ n) (h2 : n ≤ 4611686018427387904) :
    Calls Try.prog 75 #[.int .i64 n, .int .i64 d] w fun e w' => e = .returned (.int .i64 (rnd n d)) ∧ w = w' := by
  have E1 := Lib.hid (Int.emod_add_mul_ediv n d)
  have e2 := Int.emod_lt_of_pos n hd
  have e3 := Int.emod_nonneg n (Int.ne_of_gt hd)
  have i1 : n / d * d ≤ n := by have := E1.out; rw [Int.mul_comm]; omega
  have i2 : n - d < n / d * d := by have := E1.out; rw [Int.mul_comm]; omega
  have i3 : -4611686018427387904 ≤ n / d := by rw [Int.le_ediv_iff_mul_le hd]; omega
  have i4 : n / d ≤ 4611686018427387904 := by
    have := (Int.ediv_lt_iff_lt_mul (a := n) (b := 4611686018427387904 + 1) hd).2 (by omega)
    omega
  go_enter Try.func75, Try.ntmps75
  go_wp2_with (go_at_call 80; refine (floorDiv_any _ _ _ (by omega) (by omega) (by omega)).mono ?_; rintro e w' ⟨rfl, rfl⟩)
  · go_ret
    exact ⟨ret_int (rnd_up hd (by have := E1.out; rw [Int.mul_comm] at this; omega)), rfl⟩
  · go_ret
    exact ⟨ret_int (rnd_down hd (by have := E1.out; rw [Int.mul_comm] at this; omega)), rfl⟩

theorem DivRound_neg (n d : Int) (w : World) (hd : d ≤ 0) :
    Calls Try.prog 75 #[.int .i64 n, .int .i64 d] w fun e w' => e = .returned (.int .i64 0) ∧ w = w' := by
  go_enter Try.func75, Try.ntmps75
  go_wp2
  go_ret
  exact ⟨rfl, rfl⟩

/-! ### scaling -/
def askB (v size unit : Int) : Bool := inB v (-262144) 262144 && inB size 1 128 && inB unit 16 16384
theorem askB_of {v size unit : Int} (h1 : inB v (-262144) 262144 = true) (h2 : inB size 1 128 = true) (h3 : inB unit 16 16384 = true) : askB v size unit = true := by simp [askB, h1, h2, h3]
theorem askB_f1 {v size unit : Int} (h1 : inB v (-262144) 262144 = false) : askB v size unit = false := by simp [askB, h1]
theorem askB_f2 {v size unit : Int} (h1 : inB size 1 128 = false) : askB v size unit = false := by simp [askB, h1]
theorem askB_f3 {v size unit : Int} (h1 : inB unit 16 16384 = false) : askB v size unit = false := by simp [askB, h1]

theorem ask_bounds {v size unit : Int} (h : askB v size unit = true) : -262144 ≤ v ∧ v ≤ 262144 ∧ 1 ≤ size ∧ size ≤ 128 ∧ 16 ≤ unit ∧ unit ≤ 16384 := by
  simp [askB, inB] at h; omega
theorem mul_bd {a b A B : Int} (ha : -A ≤ a) (ha' : a ≤ A) (hb : 0 ≤ b) (hb' : b ≤ B) : -(A * B) ≤ a * b ∧ a * b ≤ A * B := by
  have hA : 0 ≤ A := by omega
  have h1 : A * b ≤ A * B := Int.mul_le_mul_of_nonneg_left hb' hA
  have h2 : a * b ≤ A * b := Int.mul_le_mul_of_nonneg_right ha' hb
  have h3 : -A * b ≤ a * b := Int.mul_le_mul_of_nonneg_right ha hb
  rw [Int.neg_mul] at h3
  omega

def scalesB (size unit : Int) : Bool := inB size 1 128 && inB unit 16 16384
/-! ### the two laws -/
end Go.Proofs.Ytpgkpgdompfkpaa
