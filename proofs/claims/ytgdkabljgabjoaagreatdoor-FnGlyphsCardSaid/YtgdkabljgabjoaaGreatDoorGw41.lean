/- A set with a glyph more. No walk in sight. Conditions: as each states. -/
import Derived.Deep.RegionHeld3
import Derived.Lib.QuietBelow
import Derived.StillTailTactics
import Derived.Deep.DeepCutAuto
import Derived.Test.YtgdkabljgabjoaaGreatDoorGw20
import Derived.Test.YtgdkabljgabjoaaGreatDoorGw27
import Derived.Test.YtgdkabljgabjoaaGreatDoorGw25
import Derived.Test.YtgdkabljgabjoaaGreatDoorGw10
import Derived.Test.YtgdkabljgabjoaaGreatDoorGw15
import Derived.Test.YtgdkabljgabjoaaGreatDoorGw17
namespace Go.Proofs.YtgdkabljgabjoaaGreatDoor
set_option linter.unusedVariables false
set_option maxRecDepth 100000

end Go.Proofs.YtgdkabljgabjoaaGreatDoor

/- impl.copyGlyph. Printed by mk_cg.py. Conditions: as each states. -/
namespace Go.Proofs.YtgdkabljgabjoaaGreatDoor
open Go.RowKit
set_option linter.unusedVariables false
set_option maxRecDepth 100000

end Go.Proofs.YtgdkabljgabjoaaGreatDoor

/- copySet and l17Own: a set of the call's own, glyph by glyph. Printed by mk_cs.py. Conditions: as each states. -/
namespace Go.Proofs.YtgdkabljgabjoaaGreatDoor
open Go.RowKit
set_option linter.unusedVariables false
set_option maxRecDepth 100000

end Go.Proofs.YtgdkabljgabjoaaGreatDoor

/- spec.l17OwnGlyph: a glyph of the call's own. Printed by mk_og.py. Conditions: as each states. -/
namespace Go.Proofs.YtgdkabljgabjoaaGreatDoor
open Go.RowKit
set_option linter.unusedVariables false
set_option maxRecDepth 100000

end Go.Proofs.YtgdkabljgabjoaaGreatDoor

/- spec.l17Own: a set of the call's own, glyph by glyph. Printed by mk_ow.py. Conditions: as each states. -/
namespace Go.Proofs.YtgdkabljgabjoaaGreatDoor
open Go.RowKit
set_option linter.unusedVariables false
set_option maxRecDepth 100000

end Go.Proofs.YtgdkabljgabjoaaGreatDoor

/- spec.AddGlyph. Printed by mk_ads.py. Conditions: as it states. -/
namespace Go.Proofs.YtgdkabljgabjoaaGreatDoor
open Go.RowKit
set_option linter.unusedVariables false
set_option maxRecDepth 100000

end Go.Proofs.YtgdkabljgabjoaaGreatDoor

/- impl.AddGlyph. Printed by mk_adi.py. Conditions: as it states. -/
namespace Go.Proofs.YtgdkabljgabjoaaGreatDoor
open Go.RowKit
set_option linter.unusedVariables false
set_option maxRecDepth 100000

end Go.Proofs.YtgdkabljgabjoaaGreatDoor

/- Whether marks in sets of glyphs are held; the marks of a set of the call's own; weak marks of a glyph. Printed by mk_held.py. Conditions: as each states. -/
namespace Go.Proofs.YtgdkabljgabjoaaGreatDoor
open Go.RowKit
set_option linter.unusedVariables false
set_option maxRecDepth 100000

end Go.Proofs.YtgdkabljgabjoaaGreatDoor

/- Whether the marks of a set of glyphs are held; the marks of a set of the call's own; weak marks of a glyph. Conditions: as each states. -/
namespace Go.Proofs.YtgdkabljgabjoaaGreatDoor
open Go.RowKit
set_option linter.unusedVariables false
set_option maxRecDepth 100000

end Go.Proofs.YtgdkabljgabjoaaGreatDoor

/- The law on AddGlyph. Printed by lawadd.py. Conditions: as it states. -/
namespace Go.Proofs.YtgdkabljgabjoaaGreatDoor
open Go.RowKit
set_option linter.unusedVariables false
set_option maxRecDepth 100000

/-- outside lo..hi the world is as it was -/
structure Keep (lo hi : Nat) (w w' : World) : Prop where
  bel : Below lo w w'
  sam : SameB hi w.heap.size w w'
  size : w.heap.size ≤ w'.heap.size
theorem Keep.block {lo hi : Nat} {w w' : World} (h : Keep lo hi w w') (b : Nat) (hb : b < lo ∨ hi ≤ b) (hlt : b < w.heap.size) : w'.heap[b]? = w.heap[b]? := by
  rcases hb with hb | hb
  · exact h.bel.block b hb
  · exact h.sam b hb hlt
theorem Keep.sameB {lo hi lo' hi' : Nat} {w w' : World} (h : Keep lo hi w w') (hh : hi' ≤ lo ∨ hi ≤ lo') (h2 : hi' ≤ w.heap.size) : SameB lo' hi' w w' := fun b h3 h4 => h.block b (by omega) (by omega)
theorem Keep.row {w w' : World} {n c g : Nat} (hg : w.grownBy w' (Value.slice (some ⟨g, 0, none⟩) n c).ownBlock) (hz : w'.heap.size = w.heap.size) : Keep g (g + 1) w w' := by
  refine ⟨⟨hg.os, hg.tape, hg.output, hg.size, fun b hb => ?_⟩, fun b h1 h2 => hg.block b h2 fun e => ?_, hg.size⟩
  · rcases Nat.lt_or_ge b w.heap.size with h | h
    · exact hg.block b h fun e => by simp [Value.ownBlock] at e; omega
    · rw [Array.getElem?_eq_none (by omega), Array.getElem?_eq_none (by omega)]
  · simp [Value.ownBlock] at e; omega
theorem GlSm.small {g : Gl} (h : GlSm g) : g.small 1048576 := by
  have hk := h.outSm.k
  obtain ⟨h1, h2, h3, h4⟩ := h
  exact ⟨by omega, fun K hK => by have := hk K hK; omega, by omega, by omega⟩
theorem GlRm.r {w : World} {lo hi : Nat} {d : Gl} {h : GlH} (r : GlRm w lo hi d h) : GlRd w lo hi d h := r.1
end Go.Proofs.YtgdkabljgabjoaaGreatDoor


