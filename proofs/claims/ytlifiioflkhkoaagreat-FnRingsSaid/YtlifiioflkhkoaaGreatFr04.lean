/- A state of the hint machine in its box: thirteen cells. Conditions: none. -/
import Derived.BigQuiet
import Derived.Outline
import Derived.WalkSmall
import Derived.Test.YtlifiioflkhkoaaGreatFr03
import Derived.Test.YtlifiioflkhkoaaGreatFr01
import Derived.Test.YtlifiioflkhkoaaGreatProg
import Derived.Test.YtlifiioflkhkoaaGreatFr02
namespace Go.Proofs.YtlifiioflkhkoaaGreat
open Go.RowKit
set_option linter.unusedVariables false
set_option maxRecDepth 100000


def BoxH (w : World) (x : Nat) (d : HinterD) (h : HinterH) : Prop := w.cell? ⟨x, 0, none⟩ = some (.int .i64 d.size) ∧ w.cell? ⟨x, 1, none⟩ = some (.slice h.orig.A h.orig.n h.orig.c) ∧ w.cell? ⟨x, 2, none⟩ = some (.slice h.now.A h.now.n h.now.c) ∧ w.cell? ⟨x, 3, none⟩ = some (.slice h.tx.A h.tx.n h.tx.c) ∧ w.cell? ⟨x, 4, none⟩ = some (.slice h.ty.A h.ty.n h.ty.c) ∧ w.cell? ⟨x, 5, none⟩ = some (.slice h.ends.A h.ends.n h.ends.c) ∧ w.cell? ⟨x, 6, none⟩ = some (.slice h.values.A h.values.n h.values.c) ∧ w.cell? ⟨x, 7, none⟩ = some (.slice h.stack.A h.stack.n h.stack.c) ∧ w.cell? ⟨x, 8, none⟩ = some (.bool d.axisY) ∧ w.cell? ⟨x, 9, none⟩ = some (.int .i64 d.ref) ∧ w.cell? ⟨x, 10, none⟩ = some (.int .i64 d.state) ∧ w.cell? ⟨x, 11, none⟩ = some (.int .i64 d.cut) ∧ w.cell? ⟨x, 12, none⟩ = some (.int .i64 d.least)
def BoxesH (w : World) (x y : Nat) (d : HinterD) (h : HinterH) (d' : HinterD) (h' : HinterH) : Prop := w.cell? ⟨x, 0, none⟩ = some (.int .i64 d.size) ∧ w.cell? ⟨x, 1, none⟩ = some (.slice h.orig.A h.orig.n h.orig.c) ∧ w.cell? ⟨x, 2, none⟩ = some (.slice h.now.A h.now.n h.now.c) ∧ w.cell? ⟨x, 3, none⟩ = some (.slice h.tx.A h.tx.n h.tx.c) ∧ w.cell? ⟨x, 4, none⟩ = some (.slice h.ty.A h.ty.n h.ty.c) ∧ w.cell? ⟨x, 5, none⟩ = some (.slice h.ends.A h.ends.n h.ends.c) ∧ w.cell? ⟨x, 6, none⟩ = some (.slice h.values.A h.values.n h.values.c) ∧ w.cell? ⟨x, 7, none⟩ = some (.slice h.stack.A h.stack.n h.stack.c) ∧ w.cell? ⟨x, 8, none⟩ = some (.bool d.axisY) ∧ w.cell? ⟨x, 9, none⟩ = some (.int .i64 d.ref) ∧ w.cell? ⟨x, 10, none⟩ = some (.int .i64 d.state) ∧ w.cell? ⟨x, 11, none⟩ = some (.int .i64 d.cut) ∧ w.cell? ⟨x, 12, none⟩ = some (.int .i64 d.least) ∧ w.cell? ⟨y, 0, none⟩ = some (.int .i64 d'.size) ∧ w.cell? ⟨y, 1, none⟩ = some (.slice h'.orig.A h'.orig.n h'.orig.c) ∧ w.cell? ⟨y, 2, none⟩ = some (.slice h'.now.A h'.now.n h'.now.c) ∧ w.cell? ⟨y, 3, none⟩ = some (.slice h'.tx.A h'.tx.n h'.tx.c) ∧ w.cell? ⟨y, 4, none⟩ = some (.slice h'.ty.A h'.ty.n h'.ty.c) ∧ w.cell? ⟨y, 5, none⟩ = some (.slice h'.ends.A h'.ends.n h'.ends.c) ∧ w.cell? ⟨y, 6, none⟩ = some (.slice h'.values.A h'.values.n h'.values.c) ∧ w.cell? ⟨y, 7, none⟩ = some (.slice h'.stack.A h'.stack.n h'.stack.c) ∧ w.cell? ⟨y, 8, none⟩ = some (.bool d'.axisY) ∧ w.cell? ⟨y, 9, none⟩ = some (.int .i64 d'.ref) ∧ w.cell? ⟨y, 10, none⟩ = some (.int .i64 d'.state) ∧ w.cell? ⟨y, 11, none⟩ = some (.int .i64 d'.cut) ∧ w.cell? ⟨y, 12, none⟩ = some (.int .i64 d'.least)
theorem BoxH.below {w w' : World} {x B : Nat} {d : HinterD} {h : HinterH} (s : BoxH w x d h) (hb : Below B w w') (hB : x + 1 ≤ B) : BoxH w' x d h := by
  obtain ⟨s0, s1, s2, s3, s4, s5, s6, s7, s8, s9, s10, s11, s12⟩ := s
  exact ⟨(hb.cell (p := ⟨x, 0, none⟩) (by show _ < B; simp; omega)).trans s0, (hb.cell (p := ⟨x, 1, none⟩) (by show _ < B; simp; omega)).trans s1, (hb.cell (p := ⟨x, 2, none⟩) (by show _ < B; simp; omega)).trans s2, (hb.cell (p := ⟨x, 3, none⟩) (by show _ < B; simp; omega)).trans s3, (hb.cell (p := ⟨x, 4, none⟩) (by show _ < B; simp; omega)).trans s4, (hb.cell (p := ⟨x, 5, none⟩) (by show _ < B; simp; omega)).trans s5, (hb.cell (p := ⟨x, 6, none⟩) (by show _ < B; simp; omega)).trans s6, (hb.cell (p := ⟨x, 7, none⟩) (by show _ < B; simp; omega)).trans s7, (hb.cell (p := ⟨x, 8, none⟩) (by show _ < B; simp; omega)).trans s8, (hb.cell (p := ⟨x, 9, none⟩) (by show _ < B; simp; omega)).trans s9, (hb.cell (p := ⟨x, 10, none⟩) (by show _ < B; simp; omega)).trans s10, (hb.cell (p := ⟨x, 11, none⟩) (by show _ < B; simp; omega)).trans s11, (hb.cell (p := ⟨x, 12, none⟩) (by show _ < B; simp; omega)).trans s12⟩
theorem BoxH.drew {w : World} {x : Nat} {d : HinterD} {h : HinterH} (s : BoxH w x d h) : BoxH w.drew x d h := s
theorem BoxH.alloc {w : World} {x : Nat} {d : HinterD} {h : HinterH} (s : BoxH w x d h) (hx : x < w.heap.size) (o : Obj) : BoxH (w.alloc o) x d h :=
  s.below (Go.Joins.below_alloc1 w o) hx
theorem BoxH.two {w : World} {x y : Nat} {d : HinterD} {h : HinterH} {d' : HinterD} {h' : HinterH} (s : BoxH w x d h) (t : BoxH w y d' h') : BoxesH w x y d h d' h' := by
  obtain ⟨s0, s1, s2, s3, s4, s5, s6, s7, s8, s9, s10, s11, s12⟩ := s
  obtain ⟨t0, t1, t2, t3, t4, t5, t6, t7, t8, t9, t10, t11, t12⟩ := t
  exact ⟨s0, s1, s2, s3, s4, s5, s6, s7, s8, s9, s10, s11, s12, t0, t1, t2, t3, t4, t5, t6, t7, t8, t9, t10, t11, t12⟩
end Go.Proofs.YtlifiioflkhkoaaGreat

/- Contracts of the small functions on numbers: what each returns. Conditions: as each states. -/
namespace Go.Proofs.YtlifiioflkhkoaaGreat
open Go.RowKit
set_option linter.unusedVariables false
set_option maxRecDepth 100000

theorem l00In_any (n a b : Int) (w : World) :
    Calls Tryz.prog 44 #[.int .i64 n, .int .i64 a, .int .i64 b] w fun e w' => e = .returned (.bool (inB n a b)) ∧ w = w' := by
  by_cases h : a ≤ n
  all_goals
    go_enter Tryz.func44, Tryz.ntmps44
    go_wp2
    go_ret
    exact ⟨ret_bool (by simp [inB]; omega), rfl⟩

theorem floorDiv_any (n d : Int) (w : World) (hd : 0 < d) (h1 : -9223372036854775807 ≤ n) (h2 : n ≤ 9223372036854775807) :
    Calls Tryz.prog 121 #[.int .i64 n, .int .i64 d] w fun e w' => e = .returned (.int .i64 (n / d)) ∧ w = w' := by
  obtain ⟨hq1, hq2⟩ := tdiv_bd hd h1 h2
  go_enter Tryz.func121, Tryz.ntmps121
  go_wp2
  · have ⟨e1, e2⟩ := tmod_lt0 (n := n) hd ‹_›
    go_ret
    exact ⟨ret_int (by omega), rfl⟩
  · have ⟨e1, e2⟩ := tmod_ge0 (n := n) hd ‹_›
    go_ret
    exact ⟨ret_int (by omega), rfl⟩

theorem DivRound_pos (n d : Int) (w : World) (hd : 0 < d) (hd2 : d ≤ 4611686018427387904) (h1 : -4611686018427387904 ≤ n) (h2 : n ≤ 4611686018427387904) :
    Calls Tryz.prog 105 #[.int .i64 n, .int .i64 d] w fun e w' => e = .returned (.int .i64 (rnd n d)) ∧ w = w' := by
  have E1 := Lib.hid (Int.emod_add_mul_ediv n d)
  have e2 := Int.emod_lt_of_pos n hd
  have e3 := Int.emod_nonneg n (Int.ne_of_gt hd)
  have i1 : n / d * d ≤ n := by have := E1.out; rw [Int.mul_comm]; omega
  have i2 : n - d < n / d * d := by have := E1.out; rw [Int.mul_comm]; omega
  have i3 : -4611686018427387904 ≤ n / d := by rw [Int.le_ediv_iff_mul_le hd]; omega
  have i4 : n / d ≤ 4611686018427387904 := by
    have := (Int.ediv_lt_iff_lt_mul (a := n) (b := 4611686018427387904 + 1) hd).2 (by omega)
    omega
  go_enter Tryz.func105, Tryz.ntmps105
  go_wp2_with (go_at_call 121; refine (floorDiv_any _ _ _ (by omega) (by omega) (by omega)).mono ?_; rintro e w' ⟨rfl, rfl⟩)
  · go_ret
    exact ⟨ret_int (rnd_up hd (by have := E1.out; rw [Int.mul_comm] at this; omega)), rfl⟩
  · go_ret
    exact ⟨ret_int (rnd_down hd (by have := E1.out; rw [Int.mul_comm] at this; omega)), rfl⟩

/-! ### scaling -/
/-! ### the two laws -/
end Go.Proofs.YtlifiioflkhkoaaGreat

/- Whether all numbers and all points of a list are small: both sides. Conditions: as each states. -/
namespace Go.Proofs.YtlifiioflkhkoaaGreat
open Go.RowKit
set_option linter.unusedVariables false
set_option maxRecDepth 100000

end Go.Proofs.YtlifiioflkhkoaaGreat

/- Whether loops and outlines are valid: both sides. Conditions: as each states. -/
namespace Go.Proofs.YtlifiioflkhkoaaGreat
open Go.RowKit
set_option linter.unusedVariables false
set_option maxRecDepth 100000

def ptOk (x y : Int) : Bool := inB x (-262144) 262144 && inB y (-262144) 262144
theorem ptOk_iff {x y : Int} : ptOk x y = true ↔ (-262144 ≤ x ∧ x ≤ 262144) ∧ (-262144 ≤ y ∧ y ≤ 262144) := by simp [ptOk, inB_iff]

theorem l03Ok_any (x y : Int) (w : World) : Calls Tryz.prog 24 #[.agg #[.int .i64 x, .int .i64 y]] w fun e w' => e = .returned (.bool (ptOk x y)) ∧ Below w.heap.size w w' := by
  cases t0 : inB x (-262144) 262144
  all_goals
    go_enter Tryz.func24, Tryz.ntmps24
    go_wp2_with (go_at_call 44; refine (l00In_any _ _ _ _).mono ?_; rintro e w' ⟨rfl, rfl⟩)
    go_ret
    exact ⟨ret_bool (by simp [ptOk, t0]), Go.Joins.below_alloc1 _ _⟩
theorem validPt_any (x y : Int) (w : World) : Calls Tryz.prog 83 #[.agg #[.int .i64 x, .int .i64 y]] w fun e w' => e = .returned (.bool (ptOk x y)) ∧ Below w.heap.size w w' := by
  by_cases h1 : -262144 ≤ x <;> by_cases h2 : x ≤ 262144 <;> by_cases h3 : -262144 ≤ y
  all_goals try (exfalso; omega)
  all_goals
    go_enter Tryz.func83, Tryz.ntmps83
    go_wp2
    go_ret
    exact ⟨ret_bool (by first | (simp [ptOk, inB, h1, h2, h3]; done) | (rw [Bool.eq_iff_iff]; simp [ptOk, inB]; omega)), Go.Joins.below_alloc1 _ _⟩

/-! ### the program's side -/
end Go.Proofs.YtlifiioflkhkoaaGreat

