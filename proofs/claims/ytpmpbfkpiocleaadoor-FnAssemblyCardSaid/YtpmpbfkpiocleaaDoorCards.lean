/-
  DERIVED. GIVEN WITH THE SEED: THE CARDS: each row of YtpmpbfkpiocleaaDoorRows.lean that lists a variable, with what it lists TIED to the program's text (the seventh form; the later family's looks); each row that meets fmt, with fmt's text TOLD by the authors' own Lean function (tested against real Go, not proved from fmt's source: count such statements apart). THE CARD IS WHAT COUNTS. Prove the row's statement (the work); the ties are given (YtpmpbfkpiocleaaDoorTie.lean); close each card by the builder's one call (the guide's Derived/Test/ToyasCard.lean, 'card_holds'). Laid BY PROGRAM, IN A SANDBOX (cutbox-door.mjs). By AI agents, Wed Nov 11 2026. No macro, syntax, notation, axiom, sorry.
-/
import Derived.Test.YtpmpbfkpiocleaaDoorRows
import GoSem.ClaimSeven
namespace Go.Proofs.YtpmpbfkpiocleaaDoor
namespace Rows

/-- THE TIED CARD OF 'laws.FnAssembly'. -/
def fnAssemblyCard : Claim7 := { stood := { row := fnAssemblyRow, standIns := [], harness := (true, "007903b2ac64f3b56649f86ddd11d048fe63528974c4d0cd37433acbffe907df"), looks := false }, kinds := [], alts := [], laidByText := true, laidKinds := [.data, .pinned], laidTests := true, laidLooks := .later }
def FnAssemblyCardSaid : Prop := Claim7.holds Tryd.pinned (.plain (OpenSpec.ofChange fnAssemblySpec)) fnAssemblyCard

/-- THE SECOND FORM's CARD OF 'laws.FnAssembly'. -/
def fnAssemblyUptoCard : Claim7 := { stood := { row := fnAssemblyUptoRow, standIns := [], harness := (true, "007903b2ac64f3b56649f86ddd11d048fe63528974c4d0cd37433acbffe907df"), looks := false }, kinds := [], alts := [], laidByText := true, laidKinds := [.data, .pinned], laidTests := true, laidLooks := .later }
def FnAssemblyUptoCardSaid : Prop := Claim7.holds Tryd.pinned (.plain (OpenSpec.upto fnAssemblySpec)) fnAssemblyUptoCard
end Rows
end Go.Proofs.YtpmpbfkpiocleaaDoor
