/- Regions, as outlines are: XOutE turned. Conditions: as each states. -/
import Derived.Deep.RegionWith
import Derived.StillTailTactics
import Derived.Test.YtlifiioflkhkoaaGreatFr21
import Derived.Test.YtlifiioflkhkoaaGreatFr12
import Derived.Test.YtlifiioflkhkoaaGreatFr31
import Derived.Test.YtlifiioflkhkoaaGreatFr32
namespace Go.Proofs.YtlifiioflkhkoaaGreat
open Go.RowKit
set_option linter.unusedVariables false
set_option maxRecDepth 100000

end Go.Proofs.YtlifiioflkhkoaaGreat

/- The laws' own functions on a Glyph: the copy, the comparison. Conditions: as each states. -/
namespace Go.Proofs.YtlifiioflkhkoaaGreat
open Go.RowKit
set_option linter.unusedVariables false
set_option maxRecDepth 100000

end Go.Proofs.YtlifiioflkhkoaaGreat

/- Slices of glyphs: the laws' copy and comparison. Conditions: as each states. -/
namespace Go.Proofs.YtlifiioflkhkoaaGreat
open Go.RowKit
set_option linter.unusedVariables false
set_option maxRecDepth 100000

/-- the first k glyphs stand in the row ys -/
def GlTo (w : World) (lo : Nat) (L : List Gl) (k : Nat) (ys : List Value) : Prop := ∀ (j : Nat) (g : Gl), j < k → L[j]? = some g → ∃ hh : GlH, (∀ i u, (glC g hh)[i]? = some u → ys[j * 7 + i]? = some u) ∧ GlRd w lo w.heap.size g hh ∧ hh.anchors.n ≤ hh.anchors.c
theorem GlTo.kept {w w' : World} {lo k : Nat} {L : List Gl} {ys : List Value} (h : GlTo w lo L k ys) (hs : SameB lo w.heap.size w w') (hz : w.heap.size ≤ w'.heap.size) : GlTo w' lo L k ys := fun j g hj hg => by
  obtain ⟨hh, h1, h2, h3⟩ := h j g hj hg
  exact ⟨hh, h1, (h2.frame hs).wide (Nat.le_refl _) hz, h3⟩
end Go.Proofs.YtlifiioflkhkoaaGreat

/- The laws' own functions on a GlyphSet: the copy, the comparison. Conditions: as each states. -/
namespace Go.Proofs.YtlifiioflkhkoaaGreat
open Go.RowKit
set_option linter.unusedVariables false
set_option maxRecDepth 100000

end Go.Proofs.YtlifiioflkhkoaaGreat

/- Systems: slices of rows in a struct; the laws' own functions on them, and those of pens, paths, regions, over heads. Printed by mk_scene.py. Conditions: as each states. -/
namespace Go.Proofs.YtlifiioflkhkoaaGreat
open Go.RowKit Go.ChangeShapes Go.WideShapes Go.Deep
set_option linter.unusedVariables false
set_option maxRecDepth 100000

abbrev SmL {α : Type} (f : α → Nat) (b : Nat) (L : List α) : Prop := L.length ≤ b ∧ ∀ g ∈ L, f g ≤ b
theorem SmL.mono {α : Type} {f : α → Nat} {a b : Nat} {L : List α} (h : SmL f a L) (hab : a ≤ b) : SmL f b L := ⟨Nat.le_trans h.1 hab, fun g hg => Nat.le_trans (h.2 g hg) hab⟩
end Go.Proofs.YtlifiioflkhkoaaGreat

