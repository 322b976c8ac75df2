/-
  NARROWER THAN 'FOR EVERY INPUT', by the rows' own cells (each row's printed sentence says how): FnExactHintName: laid · FnExactHintNamed: laid · FnExactHintsText: laid · FnAssembly: laid · FnExactAssembleHints: laid.
  DERIVED. THE GIVEN ROWS OF THIS SEAT. 5 by the template 'for every input the law returns true; each argument reads behind the call as it read before'; 0 by the template 'total and deterministic' (their statements: YtjmogpolipinlaaDoorTotals.lean).
  GIVEN WITH THE SEED: the statements are not yours to turn. If you find one false, say at which input.
  Laid BY PROGRAM, IN A SANDBOX (cutbox-rows.mjs): the forced cells as the released guide's own fill.sh prints them over the translation 627f5e0817dc74b2… (all of the seat's roots in one cut). By AI agents, Wed Nov 11 2026. No macro, syntax, notation, axiom, sorry.
-/
import Derived.Test.YtjmogpolipinlaaDoorChecked
import GoSem.PinnedTables
import GoSem.Claim
import GoSem.ClaimJoined
import GoSem.ClaimMapViews
import Derived.JoinedTies
import Derived.KernelRfl
namespace Go.Proofs.YtjmogpolipinlaaDoor
/- THE CELL 'sum', in the pinned program and in every row, IS THE sha256 OF THE DUMP (.gsa) THAT YtjmogpolipinlaaDoorProg.lean LOADS. Nothing in Lean hashes anything: it is a label: what it is worth is what the hold of that sum in a sandbox is worth. -/
noncomputable def Tryd.pinned : Pinned := { name := "ytjmogpolipinlaadoor", sum := "627f5e0817dc74b2f17b18000bd0fc7f1668c6fe0ebc7ee7252196dce83b4bb8", checked := Tryd.checked }
namespace Rows
def none {H : Type} : Left H := { results := [], args := [] }

/- WHAT THE LISTED PACKAGE-LEVEL VARIABLES READ AS WHEN THE CALL BEGINS. Each datum BY PROGRAM (the guide's laid-datum.mjs) off the statement by which the dump's own 'gosem.cut.vars' lays the variable. In a bare row this is a premise. The card (YtjmogpolipinlaaDoorCards.lean) ties it to the program's text. -/
def laid_unicode_utf8_acceptRanges {H : Type} : DataW H := .agg [.agg [.lit (.int .u8 128), .lit (.int .u8 191)], .agg [.lit (.int .u8 160), .lit (.int .u8 191)], .agg [.lit (.int .u8 128), .lit (.int .u8 159)], .agg [.lit (.int .u8 144), .lit (.int .u8 191)], .agg [.lit (.int .u8 128), .lit (.int .u8 143)], .agg [.lit (.int .u8 0), .lit (.int .u8 0)], .agg [.lit (.int .u8 0), .lit (.int .u8 0)], .agg [.lit (.int .u8 0), .lit (.int .u8 0)], .agg [.lit (.int .u8 0), .lit (.int .u8 0)], .agg [.lit (.int .u8 0), .lit (.int .u8 0)], .agg [.lit (.int .u8 0), .lit (.int .u8 0)], .agg [.lit (.int .u8 0), .lit (.int .u8 0)], .agg [.lit (.int .u8 0), .lit (.int .u8 0)], .agg [.lit (.int .u8 0), .lit (.int .u8 0)], .agg [.lit (.int .u8 0), .lit (.int .u8 0)], .agg [.lit (.int .u8 0), .lit (.int .u8 0)]]
/-- One of Go's own tables, pinned by name: the form's constant. -/
def laid_unicode_utf8_first : DataW Unit := Go.Pinned.utf8First

/-- 'laws.FnExactHintName': WHATEVER THE INPUT: true; the input reads as it did. -/
def fnExactHintNameSpec : ChangeSpec := { name := "fnExactHintName", fn := fun _ => fun
  | [d] => { results := [.lit (.bool true)], args := [d] }
  | _ => none }
def fnExactHintNameRow : OpenClaim := { program := "ytjmogpolipinlaadoor", sum := "627f5e0817dc74b2f17b18000bd0fc7f1668c6fe0ebc7ee7252196dce83b4bb8", func := "loop.example/g00883/laws.FnExactHintName", spec := "fnExactHintName", inPlace := ["internal/bytealg.CountString", "internal/bytealg.IndexByteString", "internal/bytealg.IndexString"], named := ["unicode/utf8.first", "unicode/utf8.acceptRanges", "internal/bytealg.MaxLen"], apart := false, laid := [("unicode/utf8.acceptRanges", laid_unicode_utf8_acceptRanges), ("unicode/utf8.first", laid_unicode_utf8_first)] }
def FnExactHintNameSaid : Prop := fnExactHintNameRow.holds Tryd.pinned (OpenSpec.ofChange fnExactHintNameSpec)

/-- ITS FALSE NEIGHBOUR: 'it returns false'. Refute it at one input. -/
def fnExactHintNameWrong : ChangeSpec := { name := "fnExactHintName", fn := fun _ => fun
  | [d] => { results := [.lit (.bool false)], args := [d] }
  | _ => none }
def FnExactHintNameWrongFalsely : Prop := fnExactHintNameRow.holds Tryd.pinned (OpenSpec.ofChange fnExactHintNameWrong)

/-- 'laws.FnExactHintNamed': WHATEVER THE INPUT: true; the input reads as it did. -/
def fnExactHintNamedSpec : ChangeSpec := { name := "fnExactHintNamed", fn := fun _ => fun
  | [d] => { results := [.lit (.bool true)], args := [d] }
  | _ => none }
def fnExactHintNamedRow : OpenClaim := { program := "ytjmogpolipinlaadoor", sum := "627f5e0817dc74b2f17b18000bd0fc7f1668c6fe0ebc7ee7252196dce83b4bb8", func := "loop.example/g00883/laws.FnExactHintNamed", spec := "fnExactHintNamed", inPlace := ["internal/bytealg.CountString", "internal/bytealg.IndexByteString", "internal/bytealg.IndexString"], named := ["unicode/utf8.first", "unicode/utf8.acceptRanges", "internal/bytealg.MaxLen"], apart := false, laid := [("unicode/utf8.acceptRanges", laid_unicode_utf8_acceptRanges), ("unicode/utf8.first", laid_unicode_utf8_first)] }
def FnExactHintNamedSaid : Prop := fnExactHintNamedRow.holds Tryd.pinned (OpenSpec.ofChange fnExactHintNamedSpec)

/-- ITS FALSE NEIGHBOUR: 'it returns false'. Refute it at one input. -/
def fnExactHintNamedWrong : ChangeSpec := { name := "fnExactHintNamed", fn := fun _ => fun
  | [d] => { results := [.lit (.bool false)], args := [d] }
  | _ => none }
def FnExactHintNamedWrongFalsely : Prop := fnExactHintNamedRow.holds Tryd.pinned (OpenSpec.ofChange fnExactHintNamedWrong)

/-- 'laws.FnExactHintsText': WHATEVER THE INPUT: true; the input reads as it did. -/
def fnExactHintsTextSpec : ChangeSpec := { name := "fnExactHintsText", fn := fun _ => fun
  | [d] => { results := [.lit (.bool true)], args := [d] }
  | _ => none }
def fnExactHintsTextRow : OpenClaim := { program := "ytjmogpolipinlaadoor", sum := "627f5e0817dc74b2f17b18000bd0fc7f1668c6fe0ebc7ee7252196dce83b4bb8", func := "loop.example/g00883/laws.FnExactHintsText", spec := "fnExactHintsText", inPlace := ["internal/bytealg.CountString", "internal/bytealg.IndexByteString", "internal/bytealg.IndexString", "internal/abi.NoEscape"], named := ["unicode/utf8.first", "unicode/utf8.acceptRanges", "internal/bytealg.MaxLen"], apart := false, laid := [("unicode/utf8.acceptRanges", laid_unicode_utf8_acceptRanges), ("unicode/utf8.first", laid_unicode_utf8_first)] }
def FnExactHintsTextSaid : Prop := fnExactHintsTextRow.holds Tryd.pinned (OpenSpec.ofChange fnExactHintsTextSpec)

/-- ITS FALSE NEIGHBOUR: 'it returns false'. Refute it at one input. -/
def fnExactHintsTextWrong : ChangeSpec := { name := "fnExactHintsText", fn := fun _ => fun
  | [d] => { results := [.lit (.bool false)], args := [d] }
  | _ => none }
def FnExactHintsTextWrongFalsely : Prop := fnExactHintsTextRow.holds Tryd.pinned (OpenSpec.ofChange fnExactHintsTextWrong)

/-- 'laws.FnAssembly': WHATEVER THE INPUT: true; the input reads as it did. -/
def fnAssemblySpec : ChangeSpec := { name := "fnAssembly", fn := fun _ => fun
  | [d] => { results := [.lit (.bool true)], args := [d] }
  | _ => none }
def fnAssemblyRow : OpenClaim := { program := "ytjmogpolipinlaadoor", sum := "627f5e0817dc74b2f17b18000bd0fc7f1668c6fe0ebc7ee7252196dce83b4bb8", func := "loop.example/g00883/laws.FnAssembly", spec := "fnAssembly", inPlace := ["internal/abi.NoEscape", "internal/bytealg.CountString", "internal/bytealg.IndexByteString", "internal/bytealg.IndexString"], unfollowed := true, recurses := true, named := ["unicode/utf8.first", "unicode/utf8.acceptRanges", "internal/bytealg.MaxLen"], apart := false, laid := [("unicode/utf8.acceptRanges", laid_unicode_utf8_acceptRanges), ("unicode/utf8.first", laid_unicode_utf8_first)] }
def FnAssemblySaid : Prop := fnAssemblyRow.holds Tryd.pinned (OpenSpec.ofChange fnAssemblySpec)

/-- ITS FALSE NEIGHBOUR: 'it returns false'. Refute it at one input. -/
def fnAssemblyWrong : ChangeSpec := { name := "fnAssembly", fn := fun _ => fun
  | [d] => { results := [.lit (.bool false)], args := [d] }
  | _ => none }
def FnAssemblyWrongFalsely : Prop := fnAssemblyRow.holds Tryd.pinned (OpenSpec.ofChange fnAssemblyWrong)

/-- 'laws.FnExactAssembleHints': WHATEVER THE INPUT: true; the input reads as it did. -/
def fnExactAssembleHintsSpec : ChangeSpec := { name := "fnExactAssembleHints", fn := fun _ => fun
  | [d] => { results := [.lit (.bool true)], args := [d] }
  | _ => none }
def fnExactAssembleHintsRow : OpenClaim := { program := "ytjmogpolipinlaadoor", sum := "627f5e0817dc74b2f17b18000bd0fc7f1668c6fe0ebc7ee7252196dce83b4bb8", func := "loop.example/g00883/laws.FnExactAssembleHints", spec := "fnExactAssembleHints", inPlace := ["internal/bytealg.CountString", "internal/bytealg.IndexByteString", "internal/bytealg.IndexString", "internal/abi.NoEscape"], unfollowed := true, recurses := true, named := ["unicode/utf8.first", "unicode/utf8.acceptRanges", "internal/bytealg.MaxLen"], apart := false, laid := [("unicode/utf8.acceptRanges", laid_unicode_utf8_acceptRanges), ("unicode/utf8.first", laid_unicode_utf8_first)] }
def FnExactAssembleHintsSaid : Prop := fnExactAssembleHintsRow.holds Tryd.pinned (OpenSpec.ofChange fnExactAssembleHintsSpec)

/-- ITS FALSE NEIGHBOUR: 'it returns false'. Refute it at one input. -/
def fnExactAssembleHintsWrong : ChangeSpec := { name := "fnExactAssembleHints", fn := fun _ => fun
  | [d] => { results := [.lit (.bool false)], args := [d] }
  | _ => none }
def FnExactAssembleHintsWrongFalsely : Prop := fnExactAssembleHintsRow.holds Tryd.pinned (OpenSpec.ofChange fnExactAssembleHintsWrong)

/- THE SECOND FORM. 'bulk': how many values and letters a reading holds, each counted each time it is reached (what is shared counts as often as it is met; a slice's spare places count too). A statement '..UptoSaid' is the law's where the arguments, and the package variables that the reading takes, are together of bulk at most 1048576: NARROWER than '..Said'. Prove '..Said' where nothing that the law and all that it calls make is longer than what came in: it says more and counts as full. Else prove '..UptoSaid'. A law counts once. -/
mutual
def uptoBulk {H : Type} : DataW H → Nat
  | .lit (.string bytes) => bytes.length + 1
  | .lit _ => 1
  | .nil => 1
  | .ptr d => uptoBulk d + 1
  | .slice elems spare => uptoBulkAll elems + uptoBulkAll spare + 1
  | .agg parts => uptoBulkAll parts + 1
  | .iface _ d => uptoBulk d + 1
  | .map entries => uptoBulkEntries entries + 1
  | .held _ => 1
def uptoBulkAll {H : Type} : List (DataW H) → Nat
  | [] => 0
  | d :: r => uptoBulk d + uptoBulkAll r
def uptoBulkEntries {H : Type} : List (Lit × DataW H) → Nat
  | [] => 0
  | x :: r => uptoBulkEntry x + uptoBulkEntries r
def uptoBulkEntry {H : Type} : Lit × DataW H → Nat
  | (.string bytes, d) => bytes.length + uptoBulk d + 1
  | (_, d) => uptoBulk d + 1
 end
def uptoSmall : (H : Type) → List (DataW H) → Bool := fun _ ds => decide (uptoBulkAll ds ≤ 1048576)
def OpenSpec.upto (s : _root_.Go.ChangeSpec) : _root_.Go.OpenSpec := { _root_.Go.OpenSpec.ofChange s with cond := some uptoSmall }

/-- 'laws.FnExactHintName', WHERE WHAT IT READS IS OF BULK AT MOST 1048576: true; the input reads as it did. -/
def fnExactHintNameUptoRow : OpenClaim := { program := "ytjmogpolipinlaadoor", sum := "627f5e0817dc74b2f17b18000bd0fc7f1668c6fe0ebc7ee7252196dce83b4bb8", func := "loop.example/g00883/laws.FnExactHintName", spec := "fnExactHintName", inPlace := ["internal/bytealg.CountString", "internal/bytealg.IndexByteString", "internal/bytealg.IndexString"], named := ["unicode/utf8.first", "unicode/utf8.acceptRanges", "internal/bytealg.MaxLen"], apart := false, laid := [("unicode/utf8.acceptRanges", laid_unicode_utf8_acceptRanges), ("unicode/utf8.first", laid_unicode_utf8_first)], narrowed := true }
def FnExactHintNameUptoSaid : Prop := fnExactHintNameUptoRow.holds Tryd.pinned (OpenSpec.upto fnExactHintNameSpec)

/-- 'laws.FnExactHintNamed', WHERE WHAT IT READS IS OF BULK AT MOST 1048576: true; the input reads as it did. -/
def fnExactHintNamedUptoRow : OpenClaim := { program := "ytjmogpolipinlaadoor", sum := "627f5e0817dc74b2f17b18000bd0fc7f1668c6fe0ebc7ee7252196dce83b4bb8", func := "loop.example/g00883/laws.FnExactHintNamed", spec := "fnExactHintNamed", inPlace := ["internal/bytealg.CountString", "internal/bytealg.IndexByteString", "internal/bytealg.IndexString"], named := ["unicode/utf8.first", "unicode/utf8.acceptRanges", "internal/bytealg.MaxLen"], apart := false, laid := [("unicode/utf8.acceptRanges", laid_unicode_utf8_acceptRanges), ("unicode/utf8.first", laid_unicode_utf8_first)], narrowed := true }
def FnExactHintNamedUptoSaid : Prop := fnExactHintNamedUptoRow.holds Tryd.pinned (OpenSpec.upto fnExactHintNamedSpec)

/-- 'laws.FnExactHintsText', WHERE WHAT IT READS IS OF BULK AT MOST 1048576: true; the input reads as it did. -/
def fnExactHintsTextUptoRow : OpenClaim := { program := "ytjmogpolipinlaadoor", sum := "627f5e0817dc74b2f17b18000bd0fc7f1668c6fe0ebc7ee7252196dce83b4bb8", func := "loop.example/g00883/laws.FnExactHintsText", spec := "fnExactHintsText", inPlace := ["internal/bytealg.CountString", "internal/bytealg.IndexByteString", "internal/bytealg.IndexString", "internal/abi.NoEscape"], named := ["unicode/utf8.first", "unicode/utf8.acceptRanges", "internal/bytealg.MaxLen"], apart := false, laid := [("unicode/utf8.acceptRanges", laid_unicode_utf8_acceptRanges), ("unicode/utf8.first", laid_unicode_utf8_first)], narrowed := true }
def FnExactHintsTextUptoSaid : Prop := fnExactHintsTextUptoRow.holds Tryd.pinned (OpenSpec.upto fnExactHintsTextSpec)

/-- 'laws.FnAssembly', WHERE WHAT IT READS IS OF BULK AT MOST 1048576: true; the input reads as it did. -/
def fnAssemblyUptoRow : OpenClaim := { program := "ytjmogpolipinlaadoor", sum := "627f5e0817dc74b2f17b18000bd0fc7f1668c6fe0ebc7ee7252196dce83b4bb8", func := "loop.example/g00883/laws.FnAssembly", spec := "fnAssembly", inPlace := ["internal/abi.NoEscape", "internal/bytealg.CountString", "internal/bytealg.IndexByteString", "internal/bytealg.IndexString"], unfollowed := true, recurses := true, named := ["unicode/utf8.first", "unicode/utf8.acceptRanges", "internal/bytealg.MaxLen"], apart := false, laid := [("unicode/utf8.acceptRanges", laid_unicode_utf8_acceptRanges), ("unicode/utf8.first", laid_unicode_utf8_first)], narrowed := true }
def FnAssemblyUptoSaid : Prop := fnAssemblyUptoRow.holds Tryd.pinned (OpenSpec.upto fnAssemblySpec)

/-- 'laws.FnExactAssembleHints', WHERE WHAT IT READS IS OF BULK AT MOST 1048576: true; the input reads as it did. -/
def fnExactAssembleHintsUptoRow : OpenClaim := { program := "ytjmogpolipinlaadoor", sum := "627f5e0817dc74b2f17b18000bd0fc7f1668c6fe0ebc7ee7252196dce83b4bb8", func := "loop.example/g00883/laws.FnExactAssembleHints", spec := "fnExactAssembleHints", inPlace := ["internal/bytealg.CountString", "internal/bytealg.IndexByteString", "internal/bytealg.IndexString", "internal/abi.NoEscape"], unfollowed := true, recurses := true, named := ["unicode/utf8.first", "unicode/utf8.acceptRanges", "internal/bytealg.MaxLen"], apart := false, laid := [("unicode/utf8.acceptRanges", laid_unicode_utf8_acceptRanges), ("unicode/utf8.first", laid_unicode_utf8_first)], narrowed := true }
def FnExactAssembleHintsUptoSaid : Prop := fnExactAssembleHintsUptoRow.holds Tryd.pinned (OpenSpec.upto fnExactAssembleHintsSpec)

end Rows
end Go.Proofs.YtjmogpolipinlaaDoor
