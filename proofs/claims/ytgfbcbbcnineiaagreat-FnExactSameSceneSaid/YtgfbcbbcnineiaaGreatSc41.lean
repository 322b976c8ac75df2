/- A ring and a region that came in, opened. No walk in sight. Conditions: none. -/
import Derived.Test.YtgfbcbbcnineiaaGreatSc14
import Derived.Test.YtgfbcbbcnineiaaGreatSc29
namespace Go.Proofs.YtgfbcbbcnineiaaGreat
open Go.RowKit Go.ChangeShapes Go.WideShapes Go.Deep
set_option linter.unusedVariables false
set_option maxRecDepth 100000

theorem opens_lRing : Opens Tryz.prog 159 ringR := by
  have hk : Tryz.prog.cellsOf 154 = 2 := by kernel_rfl
  intro H enc w fuel cs x h
  exact opens_struct1 (k := 1) Tryz.underlying159 (by kernel_rfl) (opens_slice Tryz.underlying100 hk (by omega) opens_lPt (good_flat _)) h
theorem opens_Region {H : Type} {enc : TypeId × Value → H} {w : World} {fuel : Nat} {cs : List Value} {x : DataW H × List MemPlace} (h : DataW.trod enc Tryz.prog w 0 (fun _ => true) true fuel 39 cs = some x) :
    ∃ A n c Rs, cs = [.slice A n c] ∧ RegRd w 0 w.heap.size A n Rs ∧ n ≤ maxLen := by
  have hk : Tryz.prog.cellsOf 159 = 1 := by kernel_rfl
  obtain ⟨Ls, A, n, c, h1, h2, h3⟩ := opens_struct1 (k := 1) Tryz.underlying39 (by kernel_rfl) (opens_slice Tryz.underlying37 hk (by omega) opens_lRing good_ring) h
  exact ⟨A, n, c, Ls, h1, h3, h2⟩
end Go.Proofs.YtgfbcbbcnineiaaGreat

