/- A state of the hint machine that came in, opened. No walk in sight. Conditions: none. -/
import Derived.Test.YtgfbcbbcnineiaaGreatSc12
import Derived.Test.YtgfbcbbcnineiaaGreatSc07
namespace Go.Proofs.YtgfbcbbcnineiaaGreat
open Go.RowKit Go.ChangeShapes Go.WideShapes Go.Deep
set_option linter.unusedVariables false
set_option maxRecDepth 100000

theorem opens_lPt : Opens Tryz.prog 154 (FlatR ptC) := by
  intro H enc w fuel cs x h
  obtain ⟨hl, hf⟩ := struct_fields Tryz.underlying154 h
  have hc : Tryz.prog.cellsOf 154 = 2 := by kernel_rfl
  have hi : Tryz.prog.cellsOf 2 = 1 := by kernel_rfl
  rw [hc] at hl
  match cs, hl with
  | [c0, c1], _ =>
    obtain ⟨n0, y0, h0⟩ := struct_field hf 0 2 0 1 rfl rfl rfl hi
    obtain ⟨n1, y1, h1⟩ := struct_field hf 1 2 1 1 rfl rfl rfl hi
    obtain ⟨x0, e0⟩ := opens_int Tryz.underlying2 h0
    obtain ⟨x1, e1⟩ := opens_int Tryz.underlying2 h1
    simp [FlatR] at e0 e1
    subst e0 e1
    exact ⟨(x0, x1), rfl⟩

end Go.Proofs.YtgfbcbbcnineiaaGreat

/- Marks in slices of Knot, and whether they are held. Conditions: as each states. -/
namespace Go.Proofs.YtgfbcbbcnineiaaGreat
open Go.RowKit
set_option linter.unusedVariables false
set_option maxRecDepth 100000

end Go.Proofs.YtgfbcbbcnineiaaGreat

