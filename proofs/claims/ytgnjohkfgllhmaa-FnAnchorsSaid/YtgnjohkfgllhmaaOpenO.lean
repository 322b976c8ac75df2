/- An outline and a point that came in, opened. No walk in sight. Conditions: none. -/
import Derived.Test.YtgnjohkfgllhmaaOpenHin
import Derived.Test.YtgnjohkfgllhmaaMapO
namespace Go.Proofs.Ytgnjohkfgllhmaa
open Go.RowKit Go.ChangeShapes Go.WideShapes Go.Deep
set_option linter.unusedVariables false
set_option maxRecDepth 100000

theorem opens_lKnot : Opens Try.prog 211 (FlatR knotC) := by
  intro H enc w fuel cs x h
  obtain ⟨hl, hf⟩ := struct_fields Try.underlying211 h
  have hc : Try.prog.cellsOf 211 = 3 := by kernel_rfl
  have hp : Try.prog.cellsOf 152 = 2 := by kernel_rfl
  have hb : Try.prog.cellsOf 4 = 1 := by kernel_rfl
  rw [hc] at hl
  match cs, hl with
  | [c0, c1, c2], _ =>
    obtain ⟨n0, y0, h0⟩ := struct_field hf 0 152 0 2 rfl rfl rfl hp
    obtain ⟨n1, y1, h1⟩ := struct_field hf 1 4 2 1 rfl rfl rfl hb
    obtain ⟨x0, e0⟩ := opens_lPt h0
    obtain ⟨x1, e1⟩ := opens_bool Try.underlying4 h1
    simp [FlatR, ptC] at e0 e1
    obtain ⟨e2, e3⟩ := e0
    subst e1 e2 e3
    exact ⟨(x0.1, x0.2, x1), rfl⟩
theorem opens_lLoop : Opens Try.prog 190 loopR := by
  have hk : Try.prog.cellsOf 211 = 3 := by kernel_rfl
  intro H enc w fuel cs x h
  exact opens_struct1 (k := 1) Try.underlying190 (by kernel_rfl) (opens_slice Try.underlying188 hk (by omega) opens_lKnot (good_flat _)) h
theorem opens_Outline {H : Type} {enc : TypeId × Value → H} {w : World} {fuel : Nat} {cs : List Value} {x : DataW H × List MemPlace} (h : DataW.trod enc Try.prog w 0 (fun _ => true) true fuel 50 cs = some x) :
    ∃ A n c Ls, cs = [.slice A n c] ∧ n ≤ maxLen ∧ OutRd w 0 w.heap.size A n Ls := by
  have hk : Try.prog.cellsOf 190 = 1 := by kernel_rfl
  obtain ⟨Ls, A, n, c, h1, h2, h3⟩ := opens_struct1 (k := 1) Try.underlying50 (by kernel_rfl) (opens_slice Try.underlying48 hk (by omega) opens_lLoop good_loop) h
  exact ⟨A, n, c, Ls, h1, h2, h3⟩
end Go.Proofs.Ytgnjohkfgllhmaa
