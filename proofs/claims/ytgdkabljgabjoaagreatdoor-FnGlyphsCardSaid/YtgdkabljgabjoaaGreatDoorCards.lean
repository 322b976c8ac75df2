/-
  DERIVED. GIVEN WITH THE SEED: THE CARDS: each row of YtgdkabljgabjoaaGreatDoorRows.lean that lists a variable, with what it lists TIED to the program's text (the seventh form; the later family's looks); each row that meets fmt, with fmt's text TOLD by the authors' own Lean function (tested against real Go, not proved from fmt's source: count such statements apart). THE CARD IS WHAT COUNTS. Prove the row's statement (the work); the ties are given (YtgdkabljgabjoaaGreatDoorTie.lean); close each card by the builder's one call (the guide's Derived/Test/ToyasCard.lean, 'card_holds'). Laid BY PROGRAM, IN A SANDBOX (cutbox-door.mjs). By AI agents, Wed Nov 11 2026. No macro, syntax, notation, axiom, sorry.
-/
import Derived.Test.YtgdkabljgabjoaaGreatDoorRows
import GoSem.ClaimSeven
namespace Go.Proofs.YtgdkabljgabjoaaGreatDoor
namespace Rows

/-- THE TIED CARD OF 'laws.FnExactReadGlyph'. -/
def fnExactReadGlyphCard : Claim7 := { stood := { row := fnExactReadGlyphRow, standIns := [], harness := (true, "a91d85d0c033d132f941ad2a62ada0d864e6e1366f08cff330a3ab1534473070"), looks := false }, kinds := [], alts := [], laidByText := true, laidKinds := [.data, .pinned], laidTests := true, laidLooks := .later }
def FnExactReadGlyphCardSaid : Prop := Claim7.holds Tryz.pinned (.plain (OpenSpec.ofChange fnExactReadGlyphSpec)) fnExactReadGlyphCard

/-- THE TIED CARD OF 'laws.FnExactReadSet'. -/
def fnExactReadSetCard : Claim7 := { stood := { row := fnExactReadSetRow, standIns := [], harness := (true, "a91d85d0c033d132f941ad2a62ada0d864e6e1366f08cff330a3ab1534473070"), looks := false }, kinds := [], alts := [], laidByText := true, laidKinds := [.data, .pinned], laidTests := true, laidLooks := .later }
def FnExactReadSetCardSaid : Prop := Claim7.holds Tryz.pinned (.plain (OpenSpec.ofChange fnExactReadSetSpec)) fnExactReadSetCard

/-- THE TIED CARD OF 'laws.FnGlyphs'. -/
def fnGlyphsCard : Claim7 := { stood := { row := fnGlyphsRow, standIns := [], harness := (true, "a91d85d0c033d132f941ad2a62ada0d864e6e1366f08cff330a3ab1534473070"), looks := false }, kinds := [], alts := [], laidByText := true, laidKinds := [.data, .pinned], laidTests := true, laidLooks := .later }
def FnGlyphsCardSaid : Prop := Claim7.holds Tryz.pinned (.plain (OpenSpec.ofChange fnGlyphsSpec)) fnGlyphsCard

/-- THE SECOND FORM's CARD OF 'laws.FnExactReadGlyph'. -/
def fnExactReadGlyphUptoCard : Claim7 := { stood := { row := fnExactReadGlyphUptoRow, standIns := [], harness := (true, "a91d85d0c033d132f941ad2a62ada0d864e6e1366f08cff330a3ab1534473070"), looks := false }, kinds := [], alts := [], laidByText := true, laidKinds := [.data, .pinned], laidTests := true, laidLooks := .later }
def FnExactReadGlyphUptoCardSaid : Prop := Claim7.holds Tryz.pinned (.plain (OpenSpec.upto fnExactReadGlyphSpec)) fnExactReadGlyphUptoCard

/-- THE SECOND FORM's CARD OF 'laws.FnExactReadSet'. -/
def fnExactReadSetUptoCard : Claim7 := { stood := { row := fnExactReadSetUptoRow, standIns := [], harness := (true, "a91d85d0c033d132f941ad2a62ada0d864e6e1366f08cff330a3ab1534473070"), looks := false }, kinds := [], alts := [], laidByText := true, laidKinds := [.data, .pinned], laidTests := true, laidLooks := .later }
def FnExactReadSetUptoCardSaid : Prop := Claim7.holds Tryz.pinned (.plain (OpenSpec.upto fnExactReadSetSpec)) fnExactReadSetUptoCard

/-- THE SECOND FORM's CARD OF 'laws.FnGlyphs'. -/
def fnGlyphsUptoCard : Claim7 := { stood := { row := fnGlyphsUptoRow, standIns := [], harness := (true, "a91d85d0c033d132f941ad2a62ada0d864e6e1366f08cff330a3ab1534473070"), looks := false }, kinds := [], alts := [], laidByText := true, laidKinds := [.data, .pinned], laidTests := true, laidLooks := .later }
def FnGlyphsUptoCardSaid : Prop := Claim7.holds Tryz.pinned (.plain (OpenSpec.upto fnGlyphsSpec)) fnGlyphsUptoCard
end Rows
end Go.Proofs.YtgdkabljgabjoaaGreatDoor
