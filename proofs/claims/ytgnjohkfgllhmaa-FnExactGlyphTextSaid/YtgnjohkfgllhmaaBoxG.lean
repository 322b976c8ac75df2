/- A state of the hint machine in its box: thirteen cells. Conditions: none. -/
import Derived.Test.YtgnjohkfgllhmaaGl
namespace Go.Proofs.Ytgnjohkfgllhmaa
open Go.RowKit
set_option linter.unusedVariables false
set_option maxRecDepth 100000


def BoxG (w : World) (x : Nat) (d : Gl) (h : GlH) : Prop := w.cell? ⟨x, 0, none⟩ = some (.string d.name) ∧ w.cell? ⟨x, 1, none⟩ = some (.int .i64 d.code) ∧ w.cell? ⟨x, 2, none⟩ = some (.int .i64 d.adv) ∧ w.cell? ⟨x, 3, none⟩ = some (.slice h.out.A h.out.n h.out.c) ∧ w.cell? ⟨x, 4, none⟩ = some (.slice h.parts.A h.parts.n h.parts.c) ∧ w.cell? ⟨x, 5, none⟩ = some (.slice h.anchors.A h.anchors.n h.anchors.c) ∧ w.cell? ⟨x, 6, none⟩ = some (.string d.hints)
def BoxesG (w : World) (x y : Nat) (d : Gl) (h : GlH) (d' : Gl) (h' : GlH) : Prop := w.cell? ⟨x, 0, none⟩ = some (.string d.name) ∧ w.cell? ⟨x, 1, none⟩ = some (.int .i64 d.code) ∧ w.cell? ⟨x, 2, none⟩ = some (.int .i64 d.adv) ∧ w.cell? ⟨x, 3, none⟩ = some (.slice h.out.A h.out.n h.out.c) ∧ w.cell? ⟨x, 4, none⟩ = some (.slice h.parts.A h.parts.n h.parts.c) ∧ w.cell? ⟨x, 5, none⟩ = some (.slice h.anchors.A h.anchors.n h.anchors.c) ∧ w.cell? ⟨x, 6, none⟩ = some (.string d.hints) ∧ w.cell? ⟨y, 0, none⟩ = some (.string d'.name) ∧ w.cell? ⟨y, 1, none⟩ = some (.int .i64 d'.code) ∧ w.cell? ⟨y, 2, none⟩ = some (.int .i64 d'.adv) ∧ w.cell? ⟨y, 3, none⟩ = some (.slice h'.out.A h'.out.n h'.out.c) ∧ w.cell? ⟨y, 4, none⟩ = some (.slice h'.parts.A h'.parts.n h'.parts.c) ∧ w.cell? ⟨y, 5, none⟩ = some (.slice h'.anchors.A h'.anchors.n h'.anchors.c) ∧ w.cell? ⟨y, 6, none⟩ = some (.string d'.hints)
theorem BoxG.below {w w' : World} {x B : Nat} {d : Gl} {h : GlH} (s : BoxG w x d h) (hb : Below B w w') (hB : x + 1 ≤ B) : BoxG w' x d h := by
  obtain ⟨s0, s1, s2, s3, s4, s5, s6⟩ := s
  exact ⟨(hb.cell (p := ⟨x, 0, none⟩) (by show _ < B; simp; omega)).trans s0, (hb.cell (p := ⟨x, 1, none⟩) (by show _ < B; simp; omega)).trans s1, (hb.cell (p := ⟨x, 2, none⟩) (by show _ < B; simp; omega)).trans s2, (hb.cell (p := ⟨x, 3, none⟩) (by show _ < B; simp; omega)).trans s3, (hb.cell (p := ⟨x, 4, none⟩) (by show _ < B; simp; omega)).trans s4, (hb.cell (p := ⟨x, 5, none⟩) (by show _ < B; simp; omega)).trans s5, (hb.cell (p := ⟨x, 6, none⟩) (by show _ < B; simp; omega)).trans s6⟩
theorem BoxG.drew {w : World} {x : Nat} {d : Gl} {h : GlH} (s : BoxG w x d h) : BoxG w.drew x d h := s
theorem BoxG.alloc {w : World} {x : Nat} {d : Gl} {h : GlH} (s : BoxG w x d h) (hx : x < w.heap.size) (o : Obj) : BoxG (w.alloc o) x d h :=
  s.below (Go.Joins.below_alloc1 w o) hx
theorem BoxG.two {w : World} {x y : Nat} {d : Gl} {h : GlH} {d' : Gl} {h' : GlH} (s : BoxG w x d h) (t : BoxG w y d' h') : BoxesG w x y d h d' h' := by
  obtain ⟨s0, s1, s2, s3, s4, s5, s6⟩ := s
  obtain ⟨t0, t1, t2, t3, t4, t5, t6⟩ := t
  exact ⟨s0, s1, s2, s3, s4, s5, s6, t0, t1, t2, t3, t4, t5, t6⟩
theorem boxG_new {w : World} {d : Gl} {h : GlH} {x : Nat} {t : TypeId} {cs : Array Value} (hx : w.heap[x]? = some (.cells cs t (0, 0))) (hc : cs = #[.string d.name, .int .i64 d.code, .int .i64 d.adv, .slice h.out.A h.out.n h.out.c, .slice h.parts.A h.parts.n h.parts.c, .slice h.anchors.A h.anchors.n h.anchors.c, .string d.hints]) : BoxG w x d h := by
  subst hc
  exact ⟨by rw [Go.Joins.cell_of_block hx]; rfl, by rw [Go.Joins.cell_of_block hx]; rfl, by rw [Go.Joins.cell_of_block hx]; rfl, by rw [Go.Joins.cell_of_block hx]; rfl, by rw [Go.Joins.cell_of_block hx]; rfl, by rw [Go.Joins.cell_of_block hx]; rfl, by rw [Go.Joins.cell_of_block hx]; rfl⟩

end Go.Proofs.Ytgnjohkfgllhmaa
