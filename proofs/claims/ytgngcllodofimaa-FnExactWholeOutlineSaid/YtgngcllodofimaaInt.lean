/- Contracts of the small functions on numbers: what each returns. Conditions: as each states. -/
import Derived.Test.YtgngcllodofimaaBase
import Derived.Test.YtgngcllodofimaaProg
import Derived.BigQuiet
import Derived.Outline
namespace Go.Proofs.Ytgngcllodofimaa
open Go.RowKit
set_option linter.unusedVariables false
set_option maxRecDepth 100000

theorem l00In_any (n a b : Int) (w : World) :
    Calls Try.prog 155 #[.int .i64 n, .int .i64 a, .int .i64 b] w fun e w' => e = .returned (.bool (inB n a b)) ∧ w = w' := by
  by_cases h : a ≤ n
  all_goals
    go_enter Try.func155, Try.ntmps155
    go_wp2
    go_ret
    exact ⟨ret_bool (by simp [inB]; omega), rfl⟩

theorem l03Round_any (n d : Int) (w : World) (hd : 0 < d) (hd2 : d ≤ 4611686018427387904) (h1 : -4611686018427387904 ≤ n) (h2 : n ≤ 4611686018427387904) :
    Calls Try.prog 202 #[.int .i64 n, .int .i64 d] w fun e w' => e = .returned (.int .i64 (rnd n d)) ∧ w = w' := by
  have hm1 := Int.tmod_lt_of_pos n hd
  have hm2 := Int.lt_tmod_of_pos n hd
  obtain ⟨hq1, hq2⟩ := tdiv_bd hd h1 h2
  go_enter Try.func202, Try.ntmps202
  go_wp2
  · have ⟨e1, e2⟩ := tmod_lt0 (n := n) hd ‹_›
    go_ret
    exact ⟨ret_int (by rw [← rnd_up hd (by omega)]; omega), rfl⟩
  · have ⟨e1, e2⟩ := tmod_lt0 (n := n) hd ‹_›
    go_ret
    exact ⟨ret_int (by rw [← rnd_down hd (by omega)]; omega), rfl⟩
  · have ⟨e1, e2⟩ := tmod_ge0 (n := n) hd ‹_›
    go_ret
    exact ⟨ret_int (by rw [← rnd_up hd (by omega)]; omega), rfl⟩
  · have ⟨e1, e2⟩ := tmod_ge0 (n := n) hd ‹_›
    go_ret
    exact ⟨ret_int (by rw [← rnd_down hd (by omega)]; omega), rfl⟩

theorem floorDiv_any (n d : Int) (w : World) (hd : 0 < d) (h1 : -9223372036854775807 ≤ n) (h2 : n ≤ 9223372036854775807) :
    Calls Try.prog 63 #[.int .i64 n, .int .i64 d] w fun e w' => e = .returned (.int .i64 (n / d)) ∧ w = w' := by
  obtain ⟨hq1, hq2⟩ := tdiv_bd hd h1 h2
  go_enter Try.func63, Try.ntmps63
  go_wp2
  · have ⟨e1, e2⟩ := tmod_lt0 (n := n) hd ‹_›
    go_ret
    exact ⟨ret_int (by omega), rfl⟩
  · have ⟨e1, e2⟩ := tmod_ge0 (n := n) hd ‹_›
    go_ret
    exact ⟨ret_int (by omega), rfl⟩

theorem DivRound_pos (n d : Int) (w : World) (hd : 0 < d) (hd2 : d ≤ 4611686018427387904) (h1 : -4611686018427387904 ≤ n) (h2 : n ≤ 4611686018427387904) :
    Calls Try.prog 72 #[.int .i64 n, .int .i64 d] w fun e w' => e = .returned (.int .i64 (rnd n d)) ∧ w = w' := by
  have E1 := Lib.hid (Int.emod_add_mul_ediv n d)
  have e2 := Int.emod_lt_of_pos n hd
  have e3 := Int.emod_nonneg n (Int.ne_of_gt hd)
  have i1 : n / d * d ≤ n := by have := E1.out; rw [Int.mul_comm]; omega
  have i2 : n - d < n / d * d := by have := E1.out; rw [Int.mul_comm]; omega
  have i3 : -4611686018427387904 ≤ n / d := by rw [Int.le_ediv_iff_mul_le hd]; omega
  have i4 : n / d ≤ 4611686018427387904 := by
    have := (Int.ediv_lt_iff_lt_mul (a := n) (b := 4611686018427387904 + 1) hd).2 (by omega)
    omega
  go_enter Try.func72, Try.ntmps72
  go_wp2_with (go_at_call 63; refine (floorDiv_any _ _ _ (by omega) (by omega) (by omega)).mono ?_; rintro e w' ⟨rfl, rfl⟩)
  · go_ret
    exact ⟨ret_int (rnd_up hd (by have := E1.out; rw [Int.mul_comm] at this; omega)), rfl⟩
  · go_ret
    exact ⟨ret_int (rnd_down hd (by have := E1.out; rw [Int.mul_comm] at this; omega)), rfl⟩

theorem DivRound_neg (n d : Int) (w : World) (hd : d ≤ 0) :
    Calls Try.prog 72 #[.int .i64 n, .int .i64 d] w fun e w' => e = .returned (.int .i64 0) ∧ w = w' := by
  go_enter Try.func72, Try.ntmps72
  go_wp2
  go_ret
  exact ⟨rfl, rfl⟩

/-! ### scaling -/
def askB (v size unit : Int) : Bool := inB v (-262144) 262144 && inB size 1 128 && inB unit 16 16384
theorem askB_of {v size unit : Int} (h1 : inB v (-262144) 262144 = true) (h2 : inB size 1 128 = true) (h3 : inB unit 16 16384 = true) : askB v size unit = true := by simp [askB, h1, h2, h3]
theorem askB_f1 {v size unit : Int} (h1 : inB v (-262144) 262144 = false) : askB v size unit = false := by simp [askB, h1]
theorem askB_f2 {v size unit : Int} (h1 : inB size 1 128 = false) : askB v size unit = false := by simp [askB, h1]
theorem askB_f3 {v size unit : Int} (h1 : inB unit 16 16384 = false) : askB v size unit = false := by simp [askB, h1]

theorem l18Ask_no (v size unit : Int) (w : World) (h : askB v size unit = false) :
    Calls Try.prog 88 #[.int .i64 v, .int .i64 size, .int .i64 unit] w fun e w' => e = .returned (.int .i64 2) ∧ w = w' := by
  have h' : inB v (-262144) 262144 = false ∨ inB v (-262144) 262144 = true ∧ inB size 1 128 = false ∨ inB v (-262144) 262144 = true ∧ inB size 1 128 = true ∧ inB unit 16 16384 = false := by
    unfold askB at h
    cases h1 : inB v (-262144) 262144 <;> cases h2 : inB size 1 128 <;> cases h3 : inB unit 16 16384 <;> simp_all
  clear h
  rcases h' with h1 | ⟨h1, h2⟩ | ⟨h1, h2, h3⟩
  all_goals
    go_enter Try.func88, Try.ntmps88
    go_wp2_with (go_at_call 155; refine (l00In_any _ _ _ _).mono ?_; rintro e w' ⟨rfl, rfl⟩)
    go_ret
    exact ⟨rfl, rfl⟩

theorem l18Ask_yes (v size unit : Int) (w : World) (h : askB v size unit = true) :
    Calls Try.prog 88 #[.int .i64 v, .int .i64 size, .int .i64 unit] w fun e w' => e = .returned (.int .i64 0) ∧ w = w' := by
  have h' : inB v (-262144) 262144 = true ∧ inB size 1 128 = true ∧ inB unit 16 16384 = true := by
    simpa [askB, and_assoc] using h
  clear h
  obtain ⟨h1, h2, h3⟩ := h'
  go_enter Try.func88, Try.ntmps88
  go_wp2_with (go_at_call 155; refine (l00In_any _ _ _ _).mono ?_; rintro e w' ⟨rfl, rfl⟩)
  go_ret
  exact ⟨rfl, rfl⟩

theorem ask_bounds {v size unit : Int} (h : askB v size unit = true) : -262144 ≤ v ∧ v ≤ 262144 ∧ 1 ≤ size ∧ size ≤ 128 ∧ 16 ≤ unit ∧ unit ≤ 16384 := by
  simp [askB, inB] at h; omega
theorem mul_bd {a b A B : Int} (ha : -A ≤ a) (ha' : a ≤ A) (hb : 0 ≤ b) (hb' : b ≤ B) : -(A * B) ≤ a * b ∧ a * b ≤ A * B := by
  have hA : 0 ≤ A := by omega
  have h1 : A * b ≤ A * B := Int.mul_le_mul_of_nonneg_left hb' hA
  have h2 : a * b ≤ A * b := Int.mul_le_mul_of_nonneg_right ha' hb
  have h3 : -A * b ≤ a * b := Int.mul_le_mul_of_nonneg_right ha hb
  rw [Int.neg_mul] at h3
  omega

theorem l18Scale_any (v size unit : Int) (w : World) (h : askB v size unit = true) :
    Calls Try.prog 161 #[.int .i64 v, .int .i64 size, .int .i64 unit] w fun e w' => e = .returned (.int .i64 (rnd (v * size * 64) unit)) ∧ w = w' := by
  obtain ⟨b1, b2, b3, b4, b5, b6⟩ := ask_bounds h
  obtain ⟨c1, c2⟩ := mul_bd b1 b2 (by omega) b4
  go_enter Try.func161, Try.ntmps161
  go_wp2_with (go_at_call 202; refine (l03Round_any _ _ _ (by omega) (by omega) (by omega) (by omega)).mono ?_; rintro e w' ⟨rfl, rfl⟩)
  go_ret
  exact ⟨rfl, rfl⟩

def scalesB (size unit : Int) : Bool := inB size 1 128 && inB unit 16 16384
theorem scales_any (size unit : Int) (w : World) :
    Calls Try.prog 71 #[.int .i64 size, .int .i64 unit] w fun e w' => e = .returned (.bool (scalesB size unit)) ∧ w = w' := by
  by_cases h1 : 1 ≤ size <;> by_cases h2 : size ≤ 128 <;> by_cases h3 : 16 ≤ unit <;> by_cases h4 : unit ≤ 16384
  all_goals
    go_enter Try.func71, Try.ntmps71
    go_wp2
    go_ret
    exact ⟨ret_bool (by simp [scalesB, inB]; omega), rfl⟩

theorem implScaleTo_yes (v size unit : Int) (w : World) (h : askB v size unit = true) :
    Calls Try.prog 19 #[.int .i64 v, .int .i64 size, .int .i64 unit] w fun e w' => e = .returned (.tuple #[.int .i64 (rnd (v * size * 64) unit), .int .i64 0]) ∧ w = w' := by
  obtain ⟨b1, b2, b3, b4, b5, b6⟩ := ask_bounds h
  obtain ⟨c1, c2⟩ := mul_bd b1 b2 (by omega) b4
  have hs : scalesB size unit = true := by simp [scalesB, inB]; omega
  go_enter Try.func19, Try.ntmps19
  go_wp2_with (first | (go_at_call 71; refine (scales_any _ _ _).mono ?_; rintro e w' ⟨rfl, rfl⟩) | (go_at_call 72; refine (DivRound_pos _ _ _ (by omega) (by omega) (by omega) (by omega)).mono ?_; rintro e w' ⟨rfl, rfl⟩))
  go_ret2
  exact ⟨rfl, rfl⟩

theorem implScaleTo_no (v size unit : Int) (w : World) (h : askB v size unit = false) :
    Calls Try.prog 19 #[.int .i64 v, .int .i64 size, .int .i64 unit] w fun e w' => e = .returned (.tuple #[.int .i64 0, .int .i64 2]) ∧ w = w' := by
  by_cases h1 : v < -262144
  · go_enter Try.func19, Try.ntmps19
    go_wp2
    go_ret2
    exact ⟨rfl, rfl⟩
  by_cases h2 : 262144 < v
  · go_enter Try.func19, Try.ntmps19
    go_wp2
    go_ret2
    exact ⟨rfl, rfl⟩
  have hs : scalesB size unit = false := by simp [askB, scalesB, inB] at *; omega
  clear h
  go_enter Try.func19, Try.ntmps19
  go_wp2_with (go_at_call 71; refine (scales_any _ _ _).mono ?_; rintro e w' ⟨rfl, rfl⟩)
  go_ret2
  exact ⟨rfl, rfl⟩

theorem implScaleBack_yes (v size unit : Int) (w : World) (h : askB v size unit = true) :
    Calls Try.prog 20 #[.int .i64 v, .int .i64 size, .int .i64 unit] w fun e w' => e = .returned (.tuple #[.int .i64 (rnd (v * unit) (size * 64)), .int .i64 0]) ∧ w = w' := by
  obtain ⟨b1, b2, b3, b4, b5, b6⟩ := ask_bounds h
  obtain ⟨c1, c2⟩ := mul_bd b1 b2 (by omega) b6
  have hs : scalesB size unit = true := by simp [scalesB, inB]; omega
  go_enter Try.func20, Try.ntmps20
  go_wp2_with (first | (go_at_call 71; refine (scales_any _ _ _).mono ?_; rintro e w' ⟨rfl, rfl⟩) | (go_at_call 72; refine (DivRound_pos _ _ _ (by omega) (by omega) (by omega) (by omega)).mono ?_; rintro e w' ⟨rfl, rfl⟩))
  go_ret2
  exact ⟨rfl, rfl⟩

theorem implScaleBack_no (v size unit : Int) (w : World) (h : askB v size unit = false) :
    Calls Try.prog 20 #[.int .i64 v, .int .i64 size, .int .i64 unit] w fun e w' => e = .returned (.tuple #[.int .i64 0, .int .i64 2]) ∧ w = w' := by
  by_cases h1 : v < -262144
  · go_enter Try.func20, Try.ntmps20
    go_wp2
    go_ret2
    exact ⟨rfl, rfl⟩
  by_cases h2 : 262144 < v
  · go_enter Try.func20, Try.ntmps20
    go_wp2
    go_ret2
    exact ⟨rfl, rfl⟩
  have hs : scalesB size unit = false := by simp [askB, scalesB, inB] at *; omega
  clear h
  go_enter Try.func20, Try.ntmps20
  go_wp2_with (go_at_call 71; refine (scales_any _ _ _).mono ?_; rintro e w' ⟨rfl, rfl⟩)
  go_ret2
  exact ⟨rfl, rfl⟩

/-! ### the two laws -/
end Go.Proofs.Ytgngcllodofimaa
