/- A state of the hint machine that came in, opened. No walk in sight. Conditions: none. -/
import Derived.Test.YtmpnefjljmdflaaFg07
import Derived.Test.YtmpnefjljmdflaaFg37
namespace Go.Proofs.Ytmpnefjljmdflaa
open Go.RowKit Go.ChangeShapes Go.WideShapes Go.Deep
set_option linter.unusedVariables false
set_option maxRecDepth 100000

theorem opens_lPt : Opens Try.prog 178 (FlatR ptC) := by
  intro H enc w fuel cs x h
  obtain ⟨hl, hf⟩ := struct_fields Try.underlying178 h
  have hc : Try.prog.cellsOf 178 = 2 := by kernel_rfl
  have hi : Try.prog.cellsOf 2 = 1 := by kernel_rfl
  rw [hc] at hl
  match cs, hl with
  | [c0, c1], _ =>
    obtain ⟨n0, y0, h0⟩ := struct_field hf 0 2 0 1 rfl rfl rfl hi
    obtain ⟨n1, y1, h1⟩ := struct_field hf 1 2 1 1 rfl rfl rfl hi
    obtain ⟨x0, e0⟩ := opens_int Try.underlying2 h0
    obtain ⟨x1, e1⟩ := opens_int Try.underlying2 h1
    simp [FlatR] at e0 e1
    subst e0 e1
    exact ⟨(x0, x1), rfl⟩

end Go.Proofs.Ytmpnefjljmdflaa

/- A ring and a region that came in, opened. No walk in sight. Conditions: none. -/
namespace Go.Proofs.Ytmpnefjljmdflaa
open Go.RowKit Go.ChangeShapes Go.WideShapes Go.Deep
set_option linter.unusedVariables false
set_option maxRecDepth 100000

theorem opens_lRing : Opens Try.prog 53 ringR := by
  have hk : Try.prog.cellsOf 178 = 2 := by kernel_rfl
  intro H enc w fuel cs x h
  exact opens_struct1 (k := 1) Try.underlying53 (by kernel_rfl) (opens_slice Try.underlying51 hk (by omega) opens_lPt (good_flat _)) h
theorem opens_Region {H : Type} {enc : TypeId × Value → H} {w : World} {fuel : Nat} {cs : List Value} {x : DataW H × List MemPlace} (h : DataW.trod enc Try.prog w 0 (fun _ => true) true fuel 70 cs = some x) :
    ∃ A n c Rs, cs = [.slice A n c] ∧ RegRd w 0 w.heap.size A n Rs ∧ n ≤ maxLen := by
  have hk : Try.prog.cellsOf 53 = 1 := by kernel_rfl
  obtain ⟨Ls, A, n, c, h1, h2, h3⟩ := opens_struct1 (k := 1) Try.underlying70 (by kernel_rfl) (opens_slice Try.underlying68 hk (by omega) opens_lRing good_ring) h
  exact ⟨A, n, c, Ls, h1, h3, h2⟩
end Go.Proofs.Ytmpnefjljmdflaa

