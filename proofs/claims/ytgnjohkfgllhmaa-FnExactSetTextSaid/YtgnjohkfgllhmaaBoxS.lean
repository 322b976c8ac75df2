/- A state of the hint machine in its box: thirteen cells. Conditions: none. -/
import Derived.Test.YtgnjohkfgllhmaaGl
namespace Go.Proofs.Ytgnjohkfgllhmaa
open Go.RowKit
set_option linter.unusedVariables false
set_option maxRecDepth 100000


def BoxS (w : World) (x : Nat) (d : GSet) (h : GSetH) : Prop := w.cell? ⟨x, 0, none⟩ = some (.int .i64 d.unit) ∧ w.cell? ⟨x, 1, none⟩ = some (.slice h.gl.A h.gl.n h.gl.c)
def BoxesS (w : World) (x y : Nat) (d : GSet) (h : GSetH) (d' : GSet) (h' : GSetH) : Prop := w.cell? ⟨x, 0, none⟩ = some (.int .i64 d.unit) ∧ w.cell? ⟨x, 1, none⟩ = some (.slice h.gl.A h.gl.n h.gl.c) ∧ w.cell? ⟨y, 0, none⟩ = some (.int .i64 d'.unit) ∧ w.cell? ⟨y, 1, none⟩ = some (.slice h'.gl.A h'.gl.n h'.gl.c)
theorem BoxS.below {w w' : World} {x B : Nat} {d : GSet} {h : GSetH} (s : BoxS w x d h) (hb : Below B w w') (hB : x + 1 ≤ B) : BoxS w' x d h := by
  obtain ⟨s0, s1⟩ := s
  exact ⟨(hb.cell (p := ⟨x, 0, none⟩) (by show _ < B; simp; omega)).trans s0, (hb.cell (p := ⟨x, 1, none⟩) (by show _ < B; simp; omega)).trans s1⟩
theorem BoxS.drew {w : World} {x : Nat} {d : GSet} {h : GSetH} (s : BoxS w x d h) : BoxS w.drew x d h := s
theorem BoxS.alloc {w : World} {x : Nat} {d : GSet} {h : GSetH} (s : BoxS w x d h) (hx : x < w.heap.size) (o : Obj) : BoxS (w.alloc o) x d h :=
  s.below (Go.Joins.below_alloc1 w o) hx
theorem BoxS.two {w : World} {x y : Nat} {d : GSet} {h : GSetH} {d' : GSet} {h' : GSetH} (s : BoxS w x d h) (t : BoxS w y d' h') : BoxesS w x y d h d' h' := by
  obtain ⟨s0, s1⟩ := s
  obtain ⟨t0, t1⟩ := t
  exact ⟨s0, s1, t0, t1⟩
theorem boxS_new {w : World} {d : GSet} {h : GSetH} {x : Nat} {t : TypeId} {cs : Array Value} (hx : w.heap[x]? = some (.cells cs t (0, 0))) (hc : cs = #[.int .i64 d.unit, .slice h.gl.A h.gl.n h.gl.c]) : BoxS w x d h := by
  subst hc
  exact ⟨by rw [Go.Joins.cell_of_block hx]; rfl, by rw [Go.Joins.cell_of_block hx]; rfl⟩

end Go.Proofs.Ytgnjohkfgllhmaa
