/- Sizes, levels, points of curves: the program's side. Conditions: as each states. -/
import Derived.Test.YtpmpbfkpiocleaaQv16
namespace Go.Proofs.Ytpmpbfkpiocleaa
open Go.RowKit
set_option linter.unusedVariables false
set_option maxRecDepth 100000

theorem sizeOf_any (x y : Int) (w : World) (hx : -1099511627776 ≤ x ∧ x ≤ 1099511627776) (hy : -1099511627776 ≤ y ∧ y ≤ 1099511627776) :
    Calls Try.prog 50 #[.agg #[.int .i64 x, .int .i64 y]] w fun e w' => e = .returned (.int .i64 (szI x y)) ∧ Below w.heap.size w w' := by
  go_enter Try.func50, Try.ntmps50
  go_wp2_with fail
  all_goals
    go_ret
    exact ⟨ret_int (by unfold szI imax; repeat' split <;> try omega), Go.Joins.below_alloc1 _ _⟩

/-- the path along a curve, made by the call -/
def FlatTo (q : Qd) (w : World) (e : Ending) (w' : World) (bad good : Value) : Prop :=
  (lvl (bendQ q) = none ∧ e = .returned (.tuple #[.slice none 0 0, bad]) ∧ Below w.heap.size w w') ∨
  ∃ (l : Nat) (A : Option Addr) (c : Nat), lvl (bendQ q) = some l ∧ e = .returned (.tuple #[.slice A (2 ^ l + 1) c, good]) ∧ RdS 2 (FlatR ptC) w' w.heap.size w'.heap.size A (2 ^ l + 1) (flatL q (2 ^ l)) ∧ Below w.heap.size w w'
theorem bendQ_bd {q : Qd} (h : q.ok) : 0 ≤ bendQ q ∧ bendQ q ≤ 2097152 ∧ (-1048576 ≤ q.ax - 2 * q.bx + q.cx ∧ q.ax - 2 * q.bx + q.cx ≤ 1048576) ∧ (-1048576 ≤ q.ay - 2 * q.b + q.cy ∧ q.ay - 2 * q.b + q.cy ≤ 1048576) := by
  obtain ⟨h1, h2, h3⟩ := h
  obtain ⟨a1, a2⟩ := ptOk_iff.1 h1
  obtain ⟨b1, b2⟩ := ptOk_iff.1 h2
  obtain ⟨c1, c2⟩ := ptOk_iff.1 h3
  unfold bendQ szI imax
  refine ⟨?_, ?_, by omega, by omega⟩
  · repeat' split
    all_goals omega
  · repeat' split
    all_goals omega
theorem ptC_flat_snoc (L : List (Int × Int)) (p : Int × Int) : (L ++ [p]).flatMap ptC = L.flatMap ptC ++ ptC p := by simp

end Go.Proofs.Ytpmpbfkpiocleaa

