/- A state of the hint machine that came in, opened. No walk in sight. Conditions: none. -/
import Derived.Test.YtgnjohkfgllhmaaHinter
namespace Go.Proofs.Ytgnjohkfgllhmaa
open Go.RowKit Go.ChangeShapes Go.WideShapes Go.Deep
set_option linter.unusedVariables false
set_option maxRecDepth 100000

def hinC (d : HinterD) (h : HinterH) : List Value := [.int .i64 d.size, .slice h.orig.A h.orig.n h.orig.c, .slice h.now.A h.now.n h.now.c, .slice h.tx.A h.tx.n h.tx.c, .slice h.ty.A h.ty.n h.ty.c, .slice h.ends.A h.ends.n h.ends.c, .slice h.values.A h.values.n h.values.c, .slice h.stack.A h.stack.n h.stack.c, .bool d.axisY, .int .i64 d.ref, .int .i64 d.state, .int .i64 d.cut, .int .i64 d.least]

theorem opens_lPt : Opens Try.prog 152 (FlatR ptC) := by
  intro H enc w fuel cs x h
  obtain ⟨hl, hf⟩ := struct_fields Try.underlying152 h
  have hc : Try.prog.cellsOf 152 = 2 := by kernel_rfl
  have hi : Try.prog.cellsOf 2 = 1 := by kernel_rfl
  rw [hc] at hl
  match cs, hl with
  | [c0, c1], _ =>
    obtain ⟨n0, y0, h0⟩ := struct_field hf 0 2 0 1 rfl rfl rfl hi
    obtain ⟨n1, y1, h1⟩ := struct_field hf 1 2 1 1 rfl rfl rfl hi
    obtain ⟨x0, e0⟩ := opens_int Try.underlying2 h0
    obtain ⟨x1, e1⟩ := opens_int Try.underlying2 h1
    simp [FlatR] at e0 e1
    subst e0 e1
    exact ⟨(x0, x1), rfl⟩

end Go.Proofs.Ytgnjohkfgllhmaa
