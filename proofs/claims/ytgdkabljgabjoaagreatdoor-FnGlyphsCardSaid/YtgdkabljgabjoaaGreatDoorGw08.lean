/- A state of the hint machine in its box: thirteen cells. Conditions: none. -/
import Derived.BigQuiet
import Derived.Outline
import Derived.WalkSmall
import Derived.Test.YtgdkabljgabjoaaGreatDoorGw03
import Derived.Test.YtgdkabljgabjoaaGreatDoorGw01
import Derived.Test.YtgdkabljgabjoaaGreatDoorProg
namespace Go.Proofs.YtgdkabljgabjoaaGreatDoor
open Go.RowKit
set_option linter.unusedVariables false
set_option maxRecDepth 100000


def BoxH (w : World) (x : Nat) (d : HinterD) (h : HinterH) : Prop := w.cell? ⟨x, 0, none⟩ = some (.int .i64 d.size) ∧ w.cell? ⟨x, 1, none⟩ = some (.slice h.orig.A h.orig.n h.orig.c) ∧ w.cell? ⟨x, 2, none⟩ = some (.slice h.now.A h.now.n h.now.c) ∧ w.cell? ⟨x, 3, none⟩ = some (.slice h.tx.A h.tx.n h.tx.c) ∧ w.cell? ⟨x, 4, none⟩ = some (.slice h.ty.A h.ty.n h.ty.c) ∧ w.cell? ⟨x, 5, none⟩ = some (.slice h.ends.A h.ends.n h.ends.c) ∧ w.cell? ⟨x, 6, none⟩ = some (.slice h.values.A h.values.n h.values.c) ∧ w.cell? ⟨x, 7, none⟩ = some (.slice h.stack.A h.stack.n h.stack.c) ∧ w.cell? ⟨x, 8, none⟩ = some (.bool d.axisY) ∧ w.cell? ⟨x, 9, none⟩ = some (.int .i64 d.ref) ∧ w.cell? ⟨x, 10, none⟩ = some (.int .i64 d.state) ∧ w.cell? ⟨x, 11, none⟩ = some (.int .i64 d.cut) ∧ w.cell? ⟨x, 12, none⟩ = some (.int .i64 d.least)
def BoxesH (w : World) (x y : Nat) (d : HinterD) (h : HinterH) (d' : HinterD) (h' : HinterH) : Prop := w.cell? ⟨x, 0, none⟩ = some (.int .i64 d.size) ∧ w.cell? ⟨x, 1, none⟩ = some (.slice h.orig.A h.orig.n h.orig.c) ∧ w.cell? ⟨x, 2, none⟩ = some (.slice h.now.A h.now.n h.now.c) ∧ w.cell? ⟨x, 3, none⟩ = some (.slice h.tx.A h.tx.n h.tx.c) ∧ w.cell? ⟨x, 4, none⟩ = some (.slice h.ty.A h.ty.n h.ty.c) ∧ w.cell? ⟨x, 5, none⟩ = some (.slice h.ends.A h.ends.n h.ends.c) ∧ w.cell? ⟨x, 6, none⟩ = some (.slice h.values.A h.values.n h.values.c) ∧ w.cell? ⟨x, 7, none⟩ = some (.slice h.stack.A h.stack.n h.stack.c) ∧ w.cell? ⟨x, 8, none⟩ = some (.bool d.axisY) ∧ w.cell? ⟨x, 9, none⟩ = some (.int .i64 d.ref) ∧ w.cell? ⟨x, 10, none⟩ = some (.int .i64 d.state) ∧ w.cell? ⟨x, 11, none⟩ = some (.int .i64 d.cut) ∧ w.cell? ⟨x, 12, none⟩ = some (.int .i64 d.least) ∧ w.cell? ⟨y, 0, none⟩ = some (.int .i64 d'.size) ∧ w.cell? ⟨y, 1, none⟩ = some (.slice h'.orig.A h'.orig.n h'.orig.c) ∧ w.cell? ⟨y, 2, none⟩ = some (.slice h'.now.A h'.now.n h'.now.c) ∧ w.cell? ⟨y, 3, none⟩ = some (.slice h'.tx.A h'.tx.n h'.tx.c) ∧ w.cell? ⟨y, 4, none⟩ = some (.slice h'.ty.A h'.ty.n h'.ty.c) ∧ w.cell? ⟨y, 5, none⟩ = some (.slice h'.ends.A h'.ends.n h'.ends.c) ∧ w.cell? ⟨y, 6, none⟩ = some (.slice h'.values.A h'.values.n h'.values.c) ∧ w.cell? ⟨y, 7, none⟩ = some (.slice h'.stack.A h'.stack.n h'.stack.c) ∧ w.cell? ⟨y, 8, none⟩ = some (.bool d'.axisY) ∧ w.cell? ⟨y, 9, none⟩ = some (.int .i64 d'.ref) ∧ w.cell? ⟨y, 10, none⟩ = some (.int .i64 d'.state) ∧ w.cell? ⟨y, 11, none⟩ = some (.int .i64 d'.cut) ∧ w.cell? ⟨y, 12, none⟩ = some (.int .i64 d'.least)
theorem BoxH.below {w w' : World} {x B : Nat} {d : HinterD} {h : HinterH} (s : BoxH w x d h) (hb : Below B w w') (hB : x + 1 ≤ B) : BoxH w' x d h := by
  obtain ⟨s0, s1, s2, s3, s4, s5, s6, s7, s8, s9, s10, s11, s12⟩ := s
  exact ⟨(hb.cell (p := ⟨x, 0, none⟩) (by show _ < B; simp; omega)).trans s0, (hb.cell (p := ⟨x, 1, none⟩) (by show _ < B; simp; omega)).trans s1, (hb.cell (p := ⟨x, 2, none⟩) (by show _ < B; simp; omega)).trans s2, (hb.cell (p := ⟨x, 3, none⟩) (by show _ < B; simp; omega)).trans s3, (hb.cell (p := ⟨x, 4, none⟩) (by show _ < B; simp; omega)).trans s4, (hb.cell (p := ⟨x, 5, none⟩) (by show _ < B; simp; omega)).trans s5, (hb.cell (p := ⟨x, 6, none⟩) (by show _ < B; simp; omega)).trans s6, (hb.cell (p := ⟨x, 7, none⟩) (by show _ < B; simp; omega)).trans s7, (hb.cell (p := ⟨x, 8, none⟩) (by show _ < B; simp; omega)).trans s8, (hb.cell (p := ⟨x, 9, none⟩) (by show _ < B; simp; omega)).trans s9, (hb.cell (p := ⟨x, 10, none⟩) (by show _ < B; simp; omega)).trans s10, (hb.cell (p := ⟨x, 11, none⟩) (by show _ < B; simp; omega)).trans s11, (hb.cell (p := ⟨x, 12, none⟩) (by show _ < B; simp; omega)).trans s12⟩
theorem BoxH.drew {w : World} {x : Nat} {d : HinterD} {h : HinterH} (s : BoxH w x d h) : BoxH w.drew x d h := s
theorem BoxH.alloc {w : World} {x : Nat} {d : HinterD} {h : HinterH} (s : BoxH w x d h) (hx : x < w.heap.size) (o : Obj) : BoxH (w.alloc o) x d h :=
  s.below (Go.Joins.below_alloc1 w o) hx
theorem BoxH.two {w : World} {x y : Nat} {d : HinterD} {h : HinterH} {d' : HinterD} {h' : HinterH} (s : BoxH w x d h) (t : BoxH w y d' h') : BoxesH w x y d h d' h' := by
  obtain ⟨s0, s1, s2, s3, s4, s5, s6, s7, s8, s9, s10, s11, s12⟩ := s
  obtain ⟨t0, t1, t2, t3, t4, t5, t6, t7, t8, t9, t10, t11, t12⟩ := t
  exact ⟨s0, s1, s2, s3, s4, s5, s6, s7, s8, s9, s10, s11, s12, t0, t1, t2, t3, t4, t5, t6, t7, t8, t9, t10, t11, t12⟩
end Go.Proofs.YtgdkabljgabjoaaGreatDoor

/- Contracts of the small functions on numbers: what each returns. Conditions: as each states. -/
namespace Go.Proofs.YtgdkabljgabjoaaGreatDoor
open Go.RowKit
set_option linter.unusedVariables false
set_option maxRecDepth 100000

theorem l00In_any (n a b : Int) (w : World) :
    Calls Tryz.prog 89 #[.int .i64 n, .int .i64 a, .int .i64 b] w fun e w' => e = .returned (.bool (inB n a b)) ∧ w = w' := by
  by_cases h : a ≤ n
  all_goals
    go_enter Tryz.func89, Tryz.ntmps89
    go_wp2
    go_ret
    exact ⟨ret_bool (by simp [inB]; omega), rfl⟩

/-! ### scaling -/
/-! ### the two laws -/
end Go.Proofs.YtgdkabljgabjoaaGreatDoor

/- Whether all numbers and all points of a list are small: both sides. Conditions: as each states. -/
namespace Go.Proofs.YtgdkabljgabjoaaGreatDoor
open Go.RowKit
set_option linter.unusedVariables false
set_option maxRecDepth 100000

theorem all_take_step {α : Type} {f : α → Bool} {L : List α} {k : Nat} {a : α} (h : (L.take k).all f = true) (ha : L[k]? = some a) (hf : f a = true) : (L.take (k + 1)).all f = true := by
  have hl := (List.getElem?_eq_some_iff.1 ha).1
  rw [List.take_succ_eq_append_getElem hl, List.all_append, h]
  rw [List.getElem?_eq_getElem hl] at ha
  injection ha with ha
  simp [ha, hf]
theorem all_no {α : Type} {f : α → Bool} {L : List α} {k : Nat} {a : α} (ha : L[k]? = some a) (hf : f a = false) : L.all f = false := by
  rw [List.all_eq_false]
  exact ⟨a, List.mem_of_getElem? ha, by simp [hf]⟩
theorem all_done {α : Type} {f : α → Bool} {L : List α} {n : Nat} (h : (L.take n).all f = true) (hl : L.length = n) : L.all f = true := by
  rwa [List.take_of_length_le (by omega)] at h

end Go.Proofs.YtgdkabljgabjoaaGreatDoor

