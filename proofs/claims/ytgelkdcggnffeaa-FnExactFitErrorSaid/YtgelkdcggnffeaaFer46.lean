/- mapOutline, over whatever closure of points. Conditions: as it states. -/
import Derived.Test.YtgelkdcggnffeaaFer26
import Derived.Test.YtgelkdcggnffeaaFer45
namespace Go.Proofs.Ytgelkdcggnffeaa
open Go.RowKit
set_option linter.unusedVariables false
set_option maxRecDepth 100000

end Go.Proofs.Ytgelkdcggnffeaa

/- An outline and a point that came in, opened. No walk in sight. Conditions: none. -/
namespace Go.Proofs.Ytgelkdcggnffeaa
open Go.RowKit Go.ChangeShapes Go.WideShapes Go.Deep
set_option linter.unusedVariables false
set_option maxRecDepth 100000

theorem opens_lKnot : Opens Try.prog 200 (FlatR knotC) := by
  intro H enc w fuel cs x h
  obtain ⟨hl, hf⟩ := struct_fields Try.underlying200 h
  have hc : Try.prog.cellsOf 200 = 3 := by kernel_rfl
  have hp : Try.prog.cellsOf 197 = 2 := by kernel_rfl
  have hb : Try.prog.cellsOf 4 = 1 := by kernel_rfl
  rw [hc] at hl
  match cs, hl with
  | [c0, c1, c2], _ =>
    obtain ⟨n0, y0, h0⟩ := struct_field hf 0 197 0 2 rfl rfl rfl hp
    obtain ⟨n1, y1, h1⟩ := struct_field hf 1 4 2 1 rfl rfl rfl hb
    obtain ⟨x0, e0⟩ := opens_lPt h0
    obtain ⟨x1, e1⟩ := opens_bool Try.underlying4 h1
    simp [FlatR, ptC] at e0 e1
    obtain ⟨e2, e3⟩ := e0
    subst e1 e2 e3
    exact ⟨(x0.1, x0.2, x1), rfl⟩
theorem opens_lLoop : Opens Try.prog 139 loopR := by
  have hk : Try.prog.cellsOf 200 = 3 := by kernel_rfl
  intro H enc w fuel cs x h
  exact opens_struct1 (k := 1) Try.underlying139 (by kernel_rfl) (opens_slice Try.underlying137 hk (by omega) opens_lKnot (good_flat _)) h
theorem opens_Outline {H : Type} {enc : TypeId × Value → H} {w : World} {fuel : Nat} {cs : List Value} {x : DataW H × List MemPlace} (h : DataW.trod enc Try.prog w 0 (fun _ => true) true fuel 56 cs = some x) :
    ∃ A n c Ls, cs = [.slice A n c] ∧ n ≤ maxLen ∧ OutRd w 0 w.heap.size A n Ls := by
  have hk : Try.prog.cellsOf 139 = 1 := by kernel_rfl
  obtain ⟨Ls, A, n, c, h1, h2, h3⟩ := opens_struct1 (k := 1) Try.underlying56 (by kernel_rfl) (opens_slice Try.underlying54 hk (by omega) opens_lLoop good_loop) h
  exact ⟨A, n, c, Ls, h1, h2, h3⟩
end Go.Proofs.Ytgelkdcggnffeaa

