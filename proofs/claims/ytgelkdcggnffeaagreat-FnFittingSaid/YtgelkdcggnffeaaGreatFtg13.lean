/- Contracts of the small functions on numbers: what each returns. Conditions: as each states. -/
import Derived.BigQuiet
import Derived.Outline
import Derived.WalkSmall
import Derived.Test.YtgelkdcggnffeaaGreatFtg01
import Derived.Test.YtgelkdcggnffeaaGreatProg
import Derived.Test.YtgelkdcggnffeaaGreatFtg03
import Derived.Test.YtgelkdcggnffeaaGreatFtg12
namespace Go.Proofs.YtgelkdcggnffeaaGreat
open Go.RowKit
set_option linter.unusedVariables false
set_option maxRecDepth 100000

theorem l00In_any (n a b : Int) (w : World) :
    Calls Tryz.prog 40 #[.int .i64 n, .int .i64 a, .int .i64 b] w fun e w' => e = .returned (.bool (inB n a b)) ∧ w = w' := by
  by_cases h : a ≤ n
  all_goals
    go_enter Tryz.func40, Tryz.ntmps40
    go_wp2
    go_ret
    exact ⟨ret_bool (by simp [inB]; omega), rfl⟩

theorem l03Round_any (n d : Int) (w : World) (hd : 0 < d) (hd2 : d ≤ 4611686018427387904) (h1 : -4611686018427387904 ≤ n) (h2 : n ≤ 4611686018427387904) :
    Calls Tryz.prog 95 #[.int .i64 n, .int .i64 d] w fun e w' => e = .returned (.int .i64 (rnd n d)) ∧ w = w' := by
  have hm1 := Int.tmod_lt_of_pos n hd
  have hm2 := Int.lt_tmod_of_pos n hd
  obtain ⟨hq1, hq2⟩ := tdiv_bd hd h1 h2
  go_enter Tryz.func95, Tryz.ntmps95
  go_wp2
  · have ⟨e1, e2⟩ := tmod_lt0 (n := n) hd ‹_›
    go_ret
    exact ⟨ret_int (by rw [← rnd_up hd (by omega)]; omega), rfl⟩
  · have ⟨e1, e2⟩ := tmod_lt0 (n := n) hd ‹_›
    go_ret
    exact ⟨ret_int (by rw [← rnd_down hd (by omega)]; omega), rfl⟩
  · have ⟨e1, e2⟩ := tmod_ge0 (n := n) hd ‹_›
    go_ret
    exact ⟨ret_int (by rw [← rnd_up hd (by omega)]; omega), rfl⟩
  · have ⟨e1, e2⟩ := tmod_ge0 (n := n) hd ‹_›
    go_ret
    exact ⟨ret_int (by rw [← rnd_down hd (by omega)]; omega), rfl⟩

theorem floorDiv_any (n d : Int) (w : World) (hd : 0 < d) (h1 : -9223372036854775807 ≤ n) (h2 : n ≤ 9223372036854775807) :
    Calls Tryz.prog 106 #[.int .i64 n, .int .i64 d] w fun e w' => e = .returned (.int .i64 (n / d)) ∧ w = w' := by
  obtain ⟨hq1, hq2⟩ := tdiv_bd hd h1 h2
  go_enter Tryz.func106, Tryz.ntmps106
  go_wp2
  · have ⟨e1, e2⟩ := tmod_lt0 (n := n) hd ‹_›
    go_ret
    exact ⟨ret_int (by omega), rfl⟩
  · have ⟨e1, e2⟩ := tmod_ge0 (n := n) hd ‹_›
    go_ret
    exact ⟨ret_int (by omega), rfl⟩

theorem DivRound_pos (n d : Int) (w : World) (hd : 0 < d) (hd2 : d ≤ 4611686018427387904) (h1 : -4611686018427387904 ≤ n) (h2 : n ≤ 4611686018427387904) :
    Calls Tryz.prog 101 #[.int .i64 n, .int .i64 d] w fun e w' => e = .returned (.int .i64 (rnd n d)) ∧ w = w' := by
  have E1 := Lib.hid (Int.emod_add_mul_ediv n d)
  have e2 := Int.emod_lt_of_pos n hd
  have e3 := Int.emod_nonneg n (Int.ne_of_gt hd)
  have i1 : n / d * d ≤ n := by have := E1.out; rw [Int.mul_comm]; omega
  have i2 : n - d < n / d * d := by have := E1.out; rw [Int.mul_comm]; omega
  have i3 : -4611686018427387904 ≤ n / d := by rw [Int.le_ediv_iff_mul_le hd]; omega
  have i4 : n / d ≤ 4611686018427387904 := by
    have := (Int.ediv_lt_iff_lt_mul (a := n) (b := 4611686018427387904 + 1) hd).2 (by omega)
    omega
  go_enter Tryz.func101, Tryz.ntmps101
  go_wp2_with (go_at_call 106; refine (floorDiv_any _ _ _ (by omega) (by omega) (by omega)).mono ?_; rintro e w' ⟨rfl, rfl⟩)
  · go_ret
    exact ⟨ret_int (rnd_up hd (by have := E1.out; rw [Int.mul_comm] at this; omega)), rfl⟩
  · go_ret
    exact ⟨ret_int (rnd_down hd (by have := E1.out; rw [Int.mul_comm] at this; omega)), rfl⟩

/-! ### scaling -/
/-! ### the two laws -/
end Go.Proofs.YtgelkdcggnffeaaGreat

/- Whether all numbers and all points of a list are small: both sides. Conditions: as each states. -/
namespace Go.Proofs.YtgelkdcggnffeaaGreat
open Go.RowKit
set_option linter.unusedVariables false
set_option maxRecDepth 100000

theorem all_take_step {α : Type} {f : α → Bool} {L : List α} {k : Nat} {a : α} (h : (L.take k).all f = true) (ha : L[k]? = some a) (hf : f a = true) : (L.take (k + 1)).all f = true := by
  have hl := (List.getElem?_eq_some_iff.1 ha).1
  rw [List.take_succ_eq_append_getElem hl, List.all_append, h]
  rw [List.getElem?_eq_getElem hl] at ha
  injection ha with ha
  simp [ha, hf]
theorem all_no {α : Type} {f : α → Bool} {L : List α} {k : Nat} {a : α} (ha : L[k]? = some a) (hf : f a = false) : L.all f = false := by
  rw [List.all_eq_false]
  exact ⟨a, List.mem_of_getElem? ha, by simp [hf]⟩
theorem all_done {α : Type} {f : α → Bool} {L : List α} {n : Nat} (h : (L.take n).all f = true) (hl : L.length = n) : L.all f = true := by
  rwa [List.take_of_length_le (by omega)] at h

end Go.Proofs.YtgelkdcggnffeaaGreat

