/- An outline and a point that came in, opened. No walk in sight. Conditions: none. -/
import Derived.Test.YtgfbcbbcnineiaaGreatSc14
import Derived.Test.YtgfbcbbcnineiaaGreatSc18
namespace Go.Proofs.YtgfbcbbcnineiaaGreat
open Go.RowKit Go.ChangeShapes Go.WideShapes Go.Deep
set_option linter.unusedVariables false
set_option maxRecDepth 100000

theorem opens_lKnot : Opens Tryz.prog 205 (FlatR knotC) := by
  intro H enc w fuel cs x h
  obtain ⟨hl, hf⟩ := struct_fields Tryz.underlying205 h
  have hc : Tryz.prog.cellsOf 205 = 3 := by kernel_rfl
  have hp : Tryz.prog.cellsOf 154 = 2 := by kernel_rfl
  have hb : Tryz.prog.cellsOf 4 = 1 := by kernel_rfl
  rw [hc] at hl
  match cs, hl with
  | [c0, c1, c2], _ =>
    obtain ⟨n0, y0, h0⟩ := struct_field hf 0 154 0 2 rfl rfl rfl hp
    obtain ⟨n1, y1, h1⟩ := struct_field hf 1 4 2 1 rfl rfl rfl hb
    obtain ⟨x0, e0⟩ := opens_lPt h0
    obtain ⟨x1, e1⟩ := opens_bool Tryz.underlying4 h1
    simp [FlatR, ptC] at e0 e1
    obtain ⟨e2, e3⟩ := e0
    subst e1 e2 e3
    exact ⟨(x0.1, x0.2, x1), rfl⟩
theorem opens_lLoop : Opens Tryz.prog 188 loopR := by
  have hk : Tryz.prog.cellsOf 205 = 3 := by kernel_rfl
  intro H enc w fuel cs x h
  exact opens_struct1 (k := 1) Tryz.underlying188 (by kernel_rfl) (opens_slice Tryz.underlying186 hk (by omega) opens_lKnot (good_flat _)) h
theorem opens_Outline {H : Type} {enc : TypeId × Value → H} {w : World} {fuel : Nat} {cs : List Value} {x : DataW H × List MemPlace} (h : DataW.trod enc Tryz.prog w 0 (fun _ => true) true fuel 32 cs = some x) :
    ∃ A n c Ls, cs = [.slice A n c] ∧ n ≤ maxLen ∧ OutRd w 0 w.heap.size A n Ls := by
  have hk : Tryz.prog.cellsOf 188 = 1 := by kernel_rfl
  obtain ⟨Ls, A, n, c, h1, h2, h3⟩ := opens_struct1 (k := 1) Tryz.underlying32 (by kernel_rfl) (opens_slice Tryz.underlying30 hk (by omega) opens_lLoop good_loop) h
  exact ⟨A, n, c, Ls, h1, h2, h3⟩
end Go.Proofs.YtgfbcbbcnineiaaGreat

