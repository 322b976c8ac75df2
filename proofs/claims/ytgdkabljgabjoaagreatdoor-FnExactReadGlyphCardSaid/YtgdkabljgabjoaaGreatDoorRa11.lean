/- Whether all numbers and all points of a list are small: both sides. Conditions: as each states. -/
import Derived.WalkSmall
import Derived.Test.YtgdkabljgabjoaaGreatDoorRa03
import Derived.Test.YtgdkabljgabjoaaGreatDoorRa10
namespace Go.Proofs.YtgdkabljgabjoaaGreatDoor
open Go.RowKit
set_option linter.unusedVariables false
set_option maxRecDepth 100000

theorem not_f {x : Bool} (h : false = !x) : x = true := by cases x <;> simp_all
def smN (x : Int) : Bool := inB x (-1073741824) 1073741824
def smP (p : Int × Int) : Bool := smN p.1 && smN p.2

theorem all_take_step {α : Type} {f : α → Bool} {L : List α} {k : Nat} {a : α} (h : (L.take k).all f = true) (ha : L[k]? = some a) (hf : f a = true) : (L.take (k + 1)).all f = true := by
  have hl := (List.getElem?_eq_some_iff.1 ha).1
  rw [List.take_succ_eq_append_getElem hl, List.all_append, h]
  rw [List.getElem?_eq_getElem hl] at ha
  injection ha with ha
  simp [ha, hf]
theorem all_no {α : Type} {f : α → Bool} {L : List α} {k : Nat} {a : α} (ha : L[k]? = some a) (hf : f a = false) : L.all f = false := by
  rw [List.all_eq_false]
  exact ⟨a, List.mem_of_getElem? ha, by simp [hf]⟩
theorem all_done {α : Type} {f : α → Bool} {L : List α} {n : Nat} (h : (L.take n).all f = true) (hl : L.length = n) : L.all f = true := by
  rwa [List.take_of_length_le (by omega)] at h

/-- all numbers of a state are small -/
def smH (d : HinterD) : Bool := d.values.all smN && d.stack.all smN && d.orig.all smP && d.now.all smP
theorem box_new (w : World) (d : HinterD) (h : HinterH) (t : TypeId) : BoxH (w.alloc (.cells #[.int .i64 d.size, .slice h.orig.A h.orig.n h.orig.c, .slice h.now.A h.now.n h.now.c, .slice h.tx.A h.tx.n h.tx.c, .slice h.ty.A h.ty.n h.ty.c, .slice h.ends.A h.ends.n h.ends.c, .slice h.values.A h.values.n h.values.c, .slice h.stack.A h.stack.n h.stack.c, .bool d.axisY, .int .i64 d.ref, .int .i64 d.state, .int .i64 d.cut, .int .i64 d.least] t (0, 0))) w.heap.size d h := boxH_new (heap_alloc_new w _) rfl
end Go.Proofs.YtgdkabljgabjoaaGreatDoor

