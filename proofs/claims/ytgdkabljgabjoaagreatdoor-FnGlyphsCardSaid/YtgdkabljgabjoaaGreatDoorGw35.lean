/- A line of a glyph's text read, the reference's side. Printed by mk_rgs.py. Conditions: as each states. -/
import Derived.Test.YtgdkabljgabjoaaGreatDoorGw34
import Derived.Test.YtgdkabljgabjoaaGreatDoorGw33
namespace Go.Proofs.YtgdkabljgabjoaaGreatDoor
open Go.RowKit
set_option linter.unusedVariables false
set_option maxRecDepth 100000
set_option maxRecDepth 100000

theorem LineTo.cut {d d' : Gl} {l k r : List UInt8} (h : LineTo d l d') (hc : CutTo l k r) (hk : k ≠ endW) : l = k ++ 32 :: r := by
  obtain ⟨k0, r0, h0, h1⟩ := h
  rcases hc with ⟨rfl, h2⟩ | ⟨rfl, rfl, h2⟩
  · rfl
  · rcases h1 with ⟨_, rfl⟩ | ⟨e, rfl⟩
    · exact absurd rfl (h2 32 (by simp))
    · exact absurd e hk
end Go.Proofs.YtgdkabljgabjoaaGreatDoor

