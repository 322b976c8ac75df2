/- Contracts of the functions that round by a state, and the walks of the laws on them. Conditions: as each states. -/
import Derived.Test.YtgngcllodofimaaInt
namespace Go.Proofs.Ytgngcllodofimaa
open Go.RowKit
set_option linter.unusedVariables false
set_option maxRecDepth 100000

def rto (v st : Int) : Int :=
  if st = 1 then (v + 32) / 64 * 64 else if st = 2 then v / 64 * 64 + 32 else if st = 3 then (v + 16) / 32 * 32 else if st = 4 then v / 64 * 64 else if st = 5 then (v + 63) / 64 * 64 else v
theorem rto_bd (v st : Int) : v - 64 ≤ rto v st ∧ rto v st ≤ v + 64 := by
  unfold rto; repeat (split; omega)
  omega
theorem rto_1 (v : Int) : (v + 32) / 64 * 64 = rto v 1 := by simp [rto]
theorem rto_2 (v : Int) : v / 64 * 64 + 32 = rto v 2 := by simp [rto]
theorem rto_3 (v : Int) : (v + 16) / 32 * 32 = rto v 3 := by simp [rto]
theorem rto_4 (v : Int) : v / 64 * 64 = rto v 4 := by simp [rto]
theorem rto_5 (v : Int) : (v + 63) / 64 * 64 = rto v 5 := by simp [rto]
theorem rto_else {v st : Int} (h1 : (st == 1) = false) (h2 : (st == 2) = false) (h3 : (st == 3) = false) (h4 : (st == 4) = false) (h5 : (st == 5) = false) : v = rto v st := by
  simp at h1 h2 h3 h4 h5; simp [rto, h1, h2, h3, h4, h5]

theorem floorDiv64 (n d : Int) (w : World) (hd : 0 < d) (hd2 : d ≤ 64) (h1 : -2199023255552 ≤ n) (h2 : n ≤ 2199023255552) :
    Calls Try.prog 63 #[.int .i64 n, .int .i64 d] w fun e w' => e = .returned (.int .i64 (n / d)) ∧ w = w' :=
  floorDiv_any n d w hd (by omega) (by omega)

theorem implRound_in (v st : Int) (w : World) (h1 : -1099511627776 ≤ v) (h2 : v ≤ 1099511627776) :
    Calls Try.prog 13 #[.int .i64 v, .int .i64 st] w fun e w' => e = .returned (.int .i64 (rto v st)) ∧ w = w' := by
  by_cases s1 : st = 1
  · subst s1
    go_enter Try.func13, Try.ntmps13
    go_wp2_with (go_at_call 63; refine (floorDiv64 _ _ _ (by omega) (by omega) (by omega) (by omega)).mono ?_; rintro e w' ⟨rfl, rfl⟩)
    go_ret
    exact ⟨ret_int (rto_1 v), rfl⟩
  by_cases s2 : st = 2
  · subst s2
    go_enter Try.func13, Try.ntmps13
    go_wp2_with (go_at_call 63; refine (floorDiv64 _ _ _ (by omega) (by omega) (by omega) (by omega)).mono ?_; rintro e w' ⟨rfl, rfl⟩)
    go_ret
    exact ⟨ret_int (rto_2 v), rfl⟩
  by_cases s3 : st = 3
  · subst s3
    go_enter Try.func13, Try.ntmps13
    go_wp2_with (go_at_call 63; refine (floorDiv64 _ _ _ (by omega) (by omega) (by omega) (by omega)).mono ?_; rintro e w' ⟨rfl, rfl⟩)
    go_ret
    exact ⟨ret_int (rto_3 v), rfl⟩
  by_cases s4 : st = 4
  · subst s4
    go_enter Try.func13, Try.ntmps13
    go_wp2_with (go_at_call 63; refine (floorDiv64 _ _ _ (by omega) (by omega) (by omega) (by omega)).mono ?_; rintro e w' ⟨rfl, rfl⟩)
    go_ret
    exact ⟨ret_int (rto_4 v), rfl⟩
  by_cases s5 : st = 5
  · subst s5
    go_enter Try.func13, Try.ntmps13
    go_wp2_with (go_at_call 63; refine (floorDiv64 _ _ _ (by omega) (by omega) (by omega) (by omega)).mono ?_; rintro e w' ⟨rfl, rfl⟩)
    go_ret
    exact ⟨ret_int (rto_5 v), rfl⟩
  have t1 : (st == 1) = false := by simp [s1]
  have t2 : (st == 2) = false := by simp [s2]
  have t3 : (st == 3) = false := by simp [s3]
  have t4 : (st == 4) = false := by simp [s4]
  have t5 : (st == 5) = false := by simp [s5]
  clear s1 s2 s3 s4 s5
  go_enter Try.func13, Try.ntmps13
  go_wp2
  go_ret
  exact ⟨ret_int (rto_else t1 t2 t3 t4 t5), rfl⟩

theorem implRound_out (v st : Int) (w : World) (h : v < -1099511627776 ∨ 1099511627776 < v) :
    Calls Try.prog 13 #[.int .i64 v, .int .i64 st] w fun e w' => e = .returned (.int .i64 v) ∧ w = w' := by
  rcases h with h | h
  all_goals
    go_enter Try.func13, Try.ntmps13
    go_wp2
    go_ret
    exact ⟨rfl, rfl⟩

/-! ### at least some number away from 0 -/
def imax (a b : Int) : Int := if b < a then a else b
theorem imax_bd {a b A B : Int} (h1 : A ≤ b) (h2 : b ≤ B) (h3 : a ≤ B) : A ≤ imax a b ∧ imax a b ≤ B := by unfold imax; split <;> omega
theorem imax_l {a b : Int} (h : b < a) : imax a b = a := if_pos h
theorem imax_r {a b : Int} (h : a ≤ b) : imax a b = b := if_neg (by omega)

def keep (v st least : Int) : Int := if v < 0 then -imax (rto (-v) st) least else imax (rto v st) least

theorem implKeepRound_in (v st least : Int) (w : World) (h1 : -1099511627776 ≤ v) (h2 : v ≤ 1099511627776) (h3 : 0 ≤ least) (h4 : least ≤ 1099511627776) :
    Calls Try.prog 16 #[.int .i64 v, .int .i64 st, .int .i64 least] w fun e w' => e = .returned (.int .i64 (keep v st least)) ∧ w = w' := by
  by_cases hv : v < 0
  · obtain ⟨b1, b2⟩ := rto_bd (-v) st
    obtain ⟨c1, c2⟩ := imax_bd (a := rto (-v) st) (A := 0) (B := 2199023255552) h3 (by omega) (by omega)
    go_enter Try.func16, Try.ntmps16
    go_wp2_with (go_at_call 13; refine (implRound_in _ _ _ (by omega) (by omega)).mono ?_; rintro e w' ⟨rfl, rfl⟩)
    all_goals go_ret
    all_goals exact ⟨ret_int (by unfold keep imax; (repeat' split) <;> omega), rfl⟩
  · go_enter Try.func16, Try.ntmps16
    go_wp2_with (go_at_call 13; refine (implRound_in _ _ _ (by omega) (by omega)).mono ?_; rintro e w' ⟨rfl, rfl⟩)
    all_goals go_ret
    all_goals exact ⟨ret_int (by unfold keep imax; (repeat' split) <;> omega), rfl⟩

theorem implKeepRound_out (v st least : Int) (w : World) (h : inB v (-1099511627776) 1099511627776 = false ∨ inB v (-1099511627776) 1099511627776 = true ∧ inB least 0 1099511627776 = false) :
    Calls Try.prog 16 #[.int .i64 v, .int .i64 st, .int .i64 least] w fun e w' => e = .returned (.int .i64 v) ∧ w = w' := by
  have h' : v < -1099511627776 ∨ (-1099511627776 ≤ v ∧ 1099511627776 < v) ∨ (-1099511627776 ≤ v ∧ v ≤ 1099511627776 ∧ least < 0) ∨ (-1099511627776 ≤ v ∧ v ≤ 1099511627776 ∧ 0 ≤ least ∧ 1099511627776 < least) := by
    simp only [inB_iff, inB_false] at h; omega
  clear h
  rcases h' with h | ⟨h, h1⟩ | ⟨h, h1, h2⟩ | ⟨h, h1, h2, h3⟩
  all_goals
    go_enter Try.func16, Try.ntmps16
    go_wp2_with fail
    go_ret
    exact ⟨rfl, rfl⟩

end Go.Proofs.Ytgngcllodofimaa
