/- The laws' own functions on a Glyph: the copy, the comparison. Conditions: as each states. -/
import Derived.Test.YtgdkabljgabjoaaGreatDoorGw07
namespace Go.Proofs.YtgdkabljgabjoaaGreatDoor
open Go.RowKit
set_option linter.unusedVariables false
set_option maxRecDepth 100000

end Go.Proofs.YtgdkabljgabjoaaGreatDoor

/- Slices of glyphs: the laws' copy and comparison. Conditions: as each states. -/
namespace Go.Proofs.YtgdkabljgabjoaaGreatDoor
open Go.RowKit
set_option linter.unusedVariables false
set_option maxRecDepth 100000

theorem elemGlyph : Elem Tryz.prog 34 28 7 120 := elem_mk (z := .agg #[.string ⟨#[]⟩, .int .i64 0, .int .i64 0, .slice none 0 0, .slice none 0 0, .slice none 0 0, .string ⟨#[]⟩]) Tryz.underlying34 (by kernel_rfl) rfl (by omega)
/-- the first k glyphs stand in the row ys -/
def GlTo (w : World) (lo : Nat) (L : List Gl) (k : Nat) (ys : List Value) : Prop := ∀ (j : Nat) (g : Gl), j < k → L[j]? = some g → ∃ hh : GlH, (∀ i u, (glC g hh)[i]? = some u → ys[j * 7 + i]? = some u) ∧ GlRd w lo w.heap.size g hh ∧ hh.anchors.n ≤ hh.anchors.c
theorem GlTo.kept {w w' : World} {lo k : Nat} {L : List Gl} {ys : List Value} (h : GlTo w lo L k ys) (hs : SameB lo w.heap.size w w') (hz : w.heap.size ≤ w'.heap.size) : GlTo w' lo L k ys := fun j g hj hg => by
  obtain ⟨hh, h1, h2, h3⟩ := h j g hj hg
  exact ⟨hh, h1, (h2.frame hs).wide (Nat.le_refl _) hz, h3⟩
end Go.Proofs.YtgdkabljgabjoaaGreatDoor

/- The laws' own functions on a GlyphSet: the copy, the comparison. Conditions: as each states. -/
namespace Go.Proofs.YtgdkabljgabjoaaGreatDoor
open Go.RowKit
set_option linter.unusedVariables false
set_option maxRecDepth 100000

end Go.Proofs.YtgdkabljgabjoaaGreatDoor

