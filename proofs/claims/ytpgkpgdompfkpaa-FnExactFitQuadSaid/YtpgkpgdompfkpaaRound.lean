/- Contracts of the functions that round by a state, and the walks of the laws on them. Conditions: as each states. -/
import Derived.Test.YtpgkpgdompfkpaaInt
namespace Go.Proofs.Ytpgkpgdompfkpaa
open Go.RowKit
set_option linter.unusedVariables false
set_option maxRecDepth 100000

def rto (v st : Int) : Int :=
  if st = 1 then (v + 32) / 64 * 64 else if st = 2 then v / 64 * 64 + 32 else if st = 3 then (v + 16) / 32 * 32 else if st = 4 then v / 64 * 64 else if st = 5 then (v + 63) / 64 * 64 else v
theorem rto_bd (v st : Int) : v - 64 ≤ rto v st ∧ rto v st ≤ v + 64 := by
  unfold rto; repeat (split; omega)
  omega
theorem rto_1 (v : Int) : (v + 32) / 64 * 64 = rto v 1 := by simp [rto]
theorem rto_2 (v : Int) : v / 64 * 64 + 32 = rto v 2 := by simp [rto]
theorem rto_3 (v : Int) : (v + 16) / 32 * 32 = rto v 3 := by simp [rto]
theorem rto_4 (v : Int) : v / 64 * 64 = rto v 4 := by simp [rto]
theorem rto_5 (v : Int) : (v + 63) / 64 * 64 = rto v 5 := by simp [rto]
theorem rto_else {v st : Int} (h1 : (st == 1) = false) (h2 : (st == 2) = false) (h3 : (st == 3) = false) (h4 : (st == 4) = false) (h5 : (st == 5) = false) : v = rto v st := by
  simp at h1 h2 h3 h4 h5; simp [rto, h1, h2, h3, h4, h5]

theorem floorDiv64 (n d : Int) (w : World) (hd : 0 < d) (hd2 : d ≤ 64) (h1 : -2199023255552 ≤ n) (h2 : n ≤ 2199023255552) :
    Calls Try.prog 80 #[.int .i64 n, .int .i64 d] w fun e w' => e = .returned (.int .i64 (n / d)) ∧ w = w' :=
  floorDiv_any n d w hd (by omega) (by omega)

/-! ### at least some number away from 0 -/
def imax (a b : Int) : Int := if b < a then a else b
theorem imax_bd {a b A B : Int} (h1 : A ≤ b) (h2 : b ≤ B) (h3 : a ≤ B) : A ≤ imax a b ∧ imax a b ≤ B := by unfold imax; split <;> omega
theorem imax_l {a b : Int} (h : b < a) : imax a b = a := if_pos h
theorem imax_r {a b : Int} (h : a ≤ b) : imax a b = b := if_neg (by omega)

theorem l00Max_any (a b : Int) (w : World) :
    Calls Try.prog 69 #[.int .i64 a, .int .i64 b] w fun e w' => e = .returned (.int .i64 (imax a b)) ∧ w = w' := by
  go_enter Try.func69, Try.ntmps69
  go_wp2
  · go_ret
    exact ⟨ret_int (imax_l (by assumption)).symm, rfl⟩
  · go_ret
    exact ⟨ret_int (imax_r (by assumption)).symm, rfl⟩

def keep (v st least : Int) : Int := if v < 0 then -imax (rto (-v) st) least else imax (rto v st) least

end Go.Proofs.Ytpgkpgdompfkpaa
