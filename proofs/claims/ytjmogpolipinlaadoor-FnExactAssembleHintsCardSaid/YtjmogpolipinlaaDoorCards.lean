/-
  DERIVED. GIVEN WITH THE SEED: THE CARDS: each row of YtjmogpolipinlaaDoorRows.lean that lists a variable, with what it lists TIED to the program's text (the seventh form; the later family's looks); each row that meets fmt, with fmt's text TOLD by the authors' own Lean function (tested against real Go, not proved from fmt's source: count such statements apart). THE CARD IS WHAT COUNTS. Prove the row's statement (the work); the ties are given (YtjmogpolipinlaaDoorTie.lean); close each card by the builder's one call (the guide's Derived/Test/ToyasCard.lean, 'card_holds'). Laid BY PROGRAM, IN A SANDBOX (cutbox-door.mjs). By AI agents, Wed Nov 11 2026. No macro, syntax, notation, axiom, sorry.
-/
import Derived.Test.YtjmogpolipinlaaDoorRows
import GoSem.ClaimSeven
namespace Go.Proofs.YtjmogpolipinlaaDoor
namespace Rows

/-- THE TIED CARD OF 'laws.FnExactHintName'. -/
def fnExactHintNameCard : Claim7 := { stood := { row := fnExactHintNameRow, standIns := [], harness := (true, "6890ff8c622685a644bb2e928d9bce26d93822a9db8c1aec48cb1c44b8d78cc7"), looks := false }, kinds := [], alts := [], laidByText := true, laidKinds := [.data, .pinned], laidTests := true, laidLooks := .later }
def FnExactHintNameCardSaid : Prop := Claim7.holds Tryd.pinned (.plain (OpenSpec.ofChange fnExactHintNameSpec)) fnExactHintNameCard

/-- THE TIED CARD OF 'laws.FnExactHintNamed'. -/
def fnExactHintNamedCard : Claim7 := { stood := { row := fnExactHintNamedRow, standIns := [], harness := (true, "6890ff8c622685a644bb2e928d9bce26d93822a9db8c1aec48cb1c44b8d78cc7"), looks := false }, kinds := [], alts := [], laidByText := true, laidKinds := [.data, .pinned], laidTests := true, laidLooks := .later }
def FnExactHintNamedCardSaid : Prop := Claim7.holds Tryd.pinned (.plain (OpenSpec.ofChange fnExactHintNamedSpec)) fnExactHintNamedCard

/-- THE TIED CARD OF 'laws.FnExactHintsText'. -/
def fnExactHintsTextCard : Claim7 := { stood := { row := fnExactHintsTextRow, standIns := [], harness := (true, "6890ff8c622685a644bb2e928d9bce26d93822a9db8c1aec48cb1c44b8d78cc7"), looks := false }, kinds := [], alts := [], laidByText := true, laidKinds := [.data, .pinned], laidTests := true, laidLooks := .later }
def FnExactHintsTextCardSaid : Prop := Claim7.holds Tryd.pinned (.plain (OpenSpec.ofChange fnExactHintsTextSpec)) fnExactHintsTextCard

/-- THE TIED CARD OF 'laws.FnAssembly'. -/
def fnAssemblyCard : Claim7 := { stood := { row := fnAssemblyRow, standIns := [], harness := (true, "6890ff8c622685a644bb2e928d9bce26d93822a9db8c1aec48cb1c44b8d78cc7"), looks := false }, kinds := [], alts := [], laidByText := true, laidKinds := [.data, .pinned], laidTests := true, laidLooks := .later }
def FnAssemblyCardSaid : Prop := Claim7.holds Tryd.pinned (.plain (OpenSpec.ofChange fnAssemblySpec)) fnAssemblyCard

/-- THE TIED CARD OF 'laws.FnExactAssembleHints'. -/
def fnExactAssembleHintsCard : Claim7 := { stood := { row := fnExactAssembleHintsRow, standIns := [], harness := (true, "6890ff8c622685a644bb2e928d9bce26d93822a9db8c1aec48cb1c44b8d78cc7"), looks := false }, kinds := [], alts := [], laidByText := true, laidKinds := [.data, .pinned], laidTests := true, laidLooks := .later }
def FnExactAssembleHintsCardSaid : Prop := Claim7.holds Tryd.pinned (.plain (OpenSpec.ofChange fnExactAssembleHintsSpec)) fnExactAssembleHintsCard

/-- THE SECOND FORM's CARD OF 'laws.FnExactHintName'. -/
def fnExactHintNameUptoCard : Claim7 := { stood := { row := fnExactHintNameUptoRow, standIns := [], harness := (true, "6890ff8c622685a644bb2e928d9bce26d93822a9db8c1aec48cb1c44b8d78cc7"), looks := false }, kinds := [], alts := [], laidByText := true, laidKinds := [.data, .pinned], laidTests := true, laidLooks := .later }
def FnExactHintNameUptoCardSaid : Prop := Claim7.holds Tryd.pinned (.plain (OpenSpec.upto fnExactHintNameSpec)) fnExactHintNameUptoCard

/-- THE SECOND FORM's CARD OF 'laws.FnExactHintNamed'. -/
def fnExactHintNamedUptoCard : Claim7 := { stood := { row := fnExactHintNamedUptoRow, standIns := [], harness := (true, "6890ff8c622685a644bb2e928d9bce26d93822a9db8c1aec48cb1c44b8d78cc7"), looks := false }, kinds := [], alts := [], laidByText := true, laidKinds := [.data, .pinned], laidTests := true, laidLooks := .later }
def FnExactHintNamedUptoCardSaid : Prop := Claim7.holds Tryd.pinned (.plain (OpenSpec.upto fnExactHintNamedSpec)) fnExactHintNamedUptoCard

/-- THE SECOND FORM's CARD OF 'laws.FnExactHintsText'. -/
def fnExactHintsTextUptoCard : Claim7 := { stood := { row := fnExactHintsTextUptoRow, standIns := [], harness := (true, "6890ff8c622685a644bb2e928d9bce26d93822a9db8c1aec48cb1c44b8d78cc7"), looks := false }, kinds := [], alts := [], laidByText := true, laidKinds := [.data, .pinned], laidTests := true, laidLooks := .later }
def FnExactHintsTextUptoCardSaid : Prop := Claim7.holds Tryd.pinned (.plain (OpenSpec.upto fnExactHintsTextSpec)) fnExactHintsTextUptoCard

/-- THE SECOND FORM's CARD OF 'laws.FnAssembly'. -/
def fnAssemblyUptoCard : Claim7 := { stood := { row := fnAssemblyUptoRow, standIns := [], harness := (true, "6890ff8c622685a644bb2e928d9bce26d93822a9db8c1aec48cb1c44b8d78cc7"), looks := false }, kinds := [], alts := [], laidByText := true, laidKinds := [.data, .pinned], laidTests := true, laidLooks := .later }
def FnAssemblyUptoCardSaid : Prop := Claim7.holds Tryd.pinned (.plain (OpenSpec.upto fnAssemblySpec)) fnAssemblyUptoCard

/-- THE SECOND FORM's CARD OF 'laws.FnExactAssembleHints'. -/
def fnExactAssembleHintsUptoCard : Claim7 := { stood := { row := fnExactAssembleHintsUptoRow, standIns := [], harness := (true, "6890ff8c622685a644bb2e928d9bce26d93822a9db8c1aec48cb1c44b8d78cc7"), looks := false }, kinds := [], alts := [], laidByText := true, laidKinds := [.data, .pinned], laidTests := true, laidLooks := .later }
def FnExactAssembleHintsUptoCardSaid : Prop := Claim7.holds Tryd.pinned (.plain (OpenSpec.upto fnExactAssembleHintsSpec)) fnExactAssembleHintsUptoCard
end Rows
end Go.Proofs.YtjmogpolipinlaaDoor
