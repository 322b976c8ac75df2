/-
  No cell of these rows narrows 'for every input' (looked for: loops, veiled, ifaces, maps, wideKeys, modest, calm, conditions, laid).
  DERIVED. THE GIVEN ROWS OF THIS SEAT. 12 by the template 'for every input the law returns true; each argument reads behind the call as it read before'; 0 by the template 'total and deterministic' (their statements: YtjlkdmnellbaeaaTotals.lean).
  GIVEN WITH THE SEED: the statements are not yours to turn. If you find one false, say at which input.
  Laid BY PROGRAM, IN A SANDBOX (cutbox-rows.mjs): the forced cells as the released guide's own fill.sh prints them over the translation 09767ebfec16c367… (all of the seat's roots in one cut). By AI agents, Wed Nov 11 2026. No macro, syntax, notation, axiom, sorry.
-/
import Derived.Test.YtjlkdmnellbaeaaChecked
import GoSem.Claim
import GoSem.ClaimJoined
import GoSem.ClaimMapViews
import Derived.JoinedTies
import Derived.KernelRfl
namespace Go.Proofs.Ytjlkdmnellbaeaa
/- THE CELL 'sum', in the pinned program and in every row, IS THE sha256 OF THE DUMP (.gsa) THAT YtjlkdmnellbaeaaProg.lean LOADS. Nothing in Lean hashes anything: it is a label: what it is worth is what the hold of that sum in a sandbox is worth. -/
noncomputable def Try.pinned : Pinned := { name := "ytjlkdmnellbaeaa", sum := "09767ebfec16c367861802364c0c325f0214fa84df5d4ebe247e1a9f8c52486b", checked := Try.checked }
namespace Rows
def none {H : Type} : Left H := { results := [], args := [] }

/-- 'laws.FnExactStateName': WHATEVER THE INPUT: true; the input reads as it did. -/
def fnExactStateNameSpec : ChangeSpec := { name := "fnExactStateName", fn := fun _ => fun
  | [d] => { results := [.lit (.bool true)], args := [d] }
  | _ => none }
def fnExactStateNameRow : OpenClaim := { program := "ytjlkdmnellbaeaa", sum := "09767ebfec16c367861802364c0c325f0214fa84df5d4ebe247e1a9f8c52486b", func := "loop.example/g00883/laws.FnExactStateName", spec := "fnExactStateName", apart := false }
def FnExactStateNameSaid : Prop := fnExactStateNameRow.holds Try.pinned (OpenSpec.ofChange fnExactStateNameSpec)

/-- ITS FALSE NEIGHBOUR: 'it returns false'. Refute it at one input. -/
def fnExactStateNameWrong : ChangeSpec := { name := "fnExactStateName", fn := fun _ => fun
  | [d] => { results := [.lit (.bool false)], args := [d] }
  | _ => none }
def FnExactStateNameWrongFalsely : Prop := fnExactStateNameRow.holds Try.pinned (OpenSpec.ofChange fnExactStateNameWrong)

/-- 'laws.FnExactStateNamed': WHATEVER THE INPUT: true; the input reads as it did. -/
def fnExactStateNamedSpec : ChangeSpec := { name := "fnExactStateNamed", fn := fun _ => fun
  | [d] => { results := [.lit (.bool true)], args := [d] }
  | _ => none }
def fnExactStateNamedRow : OpenClaim := { program := "ytjlkdmnellbaeaa", sum := "09767ebfec16c367861802364c0c325f0214fa84df5d4ebe247e1a9f8c52486b", func := "loop.example/g00883/laws.FnExactStateNamed", spec := "fnExactStateNamed", apart := false }
def FnExactStateNamedSaid : Prop := fnExactStateNamedRow.holds Try.pinned (OpenSpec.ofChange fnExactStateNamedSpec)

/-- ITS FALSE NEIGHBOUR: 'it returns false'. Refute it at one input. -/
def fnExactStateNamedWrong : ChangeSpec := { name := "fnExactStateNamed", fn := fun _ => fun
  | [d] => { results := [.lit (.bool false)], args := [d] }
  | _ => none }
def FnExactStateNamedWrongFalsely : Prop := fnExactStateNamedRow.holds Try.pinned (OpenSpec.ofChange fnExactStateNamedWrong)

/-- 'laws.FnExactValidHint': WHATEVER THE INPUT: true; the input reads as it did. -/
def fnExactValidHintSpec : ChangeSpec := { name := "fnExactValidHint", fn := fun _ => fun
  | [d] => { results := [.lit (.bool true)], args := [d] }
  | _ => none }
def fnExactValidHintRow : OpenClaim := { program := "ytjlkdmnellbaeaa", sum := "09767ebfec16c367861802364c0c325f0214fa84df5d4ebe247e1a9f8c52486b", func := "loop.example/g00883/laws.FnExactValidHint", spec := "fnExactValidHint", apart := false }
def FnExactValidHintSaid : Prop := fnExactValidHintRow.holds Try.pinned (OpenSpec.ofChange fnExactValidHintSpec)

/-- ITS FALSE NEIGHBOUR: 'it returns false'. Refute it at one input. -/
def fnExactValidHintWrong : ChangeSpec := { name := "fnExactValidHint", fn := fun _ => fun
  | [d] => { results := [.lit (.bool false)], args := [d] }
  | _ => none }
def FnExactValidHintWrongFalsely : Prop := fnExactValidHintRow.holds Try.pinned (OpenSpec.ofChange fnExactValidHintWrong)

/-- 'laws.FnExactScaleBack': WHATEVER THE INPUT: true; the input reads as it did. -/
def fnExactScaleBackSpec : ChangeSpec := { name := "fnExactScaleBack", fn := fun _ => fun
  | [d1, d2, d3] => { results := [.lit (.bool true)], args := [d1, d2, d3] }
  | _ => none }
def fnExactScaleBackRow : OpenClaim := { program := "ytjlkdmnellbaeaa", sum := "09767ebfec16c367861802364c0c325f0214fa84df5d4ebe247e1a9f8c52486b", func := "loop.example/g00883/laws.FnExactScaleBack", spec := "fnExactScaleBack", apart := false }
def FnExactScaleBackSaid : Prop := fnExactScaleBackRow.holds Try.pinned (OpenSpec.ofChange fnExactScaleBackSpec)

/-- ITS FALSE NEIGHBOUR: 'it returns false'. Refute it at one input. -/
def fnExactScaleBackWrong : ChangeSpec := { name := "fnExactScaleBack", fn := fun _ => fun
  | [d1, d2, d3] => { results := [.lit (.bool false)], args := [d1, d2, d3] }
  | _ => none }
def FnExactScaleBackWrongFalsely : Prop := fnExactScaleBackRow.holds Try.pinned (OpenSpec.ofChange fnExactScaleBackWrong)

/-- 'laws.FnExactScaleTo': WHATEVER THE INPUT: true; the input reads as it did. -/
def fnExactScaleToSpec : ChangeSpec := { name := "fnExactScaleTo", fn := fun _ => fun
  | [d1, d2, d3] => { results := [.lit (.bool true)], args := [d1, d2, d3] }
  | _ => none }
def fnExactScaleToRow : OpenClaim := { program := "ytjlkdmnellbaeaa", sum := "09767ebfec16c367861802364c0c325f0214fa84df5d4ebe247e1a9f8c52486b", func := "loop.example/g00883/laws.FnExactScaleTo", spec := "fnExactScaleTo", apart := false }
def FnExactScaleToSaid : Prop := fnExactScaleToRow.holds Try.pinned (OpenSpec.ofChange fnExactScaleToSpec)

/-- ITS FALSE NEIGHBOUR: 'it returns false'. Refute it at one input. -/
def fnExactScaleToWrong : ChangeSpec := { name := "fnExactScaleTo", fn := fun _ => fun
  | [d1, d2, d3] => { results := [.lit (.bool false)], args := [d1, d2, d3] }
  | _ => none }
def FnExactScaleToWrongFalsely : Prop := fnExactScaleToRow.holds Try.pinned (OpenSpec.ofChange fnExactScaleToWrong)

/-- 'laws.FnExactRoundTo': WHATEVER THE INPUT: true; the input reads as it did. -/
def fnExactRoundToSpec : ChangeSpec := { name := "fnExactRoundTo", fn := fun _ => fun
  | [d1, d2] => { results := [.lit (.bool true)], args := [d1, d2] }
  | _ => none }
def fnExactRoundToRow : OpenClaim := { program := "ytjlkdmnellbaeaa", sum := "09767ebfec16c367861802364c0c325f0214fa84df5d4ebe247e1a9f8c52486b", func := "loop.example/g00883/laws.FnExactRoundTo", spec := "fnExactRoundTo", apart := false }
def FnExactRoundToSaid : Prop := fnExactRoundToRow.holds Try.pinned (OpenSpec.ofChange fnExactRoundToSpec)

/-- ITS FALSE NEIGHBOUR: 'it returns false'. Refute it at one input. -/
def fnExactRoundToWrong : ChangeSpec := { name := "fnExactRoundTo", fn := fun _ => fun
  | [d1, d2] => { results := [.lit (.bool false)], args := [d1, d2] }
  | _ => none }
def FnExactRoundToWrongFalsely : Prop := fnExactRoundToRow.holds Try.pinned (OpenSpec.ofChange fnExactRoundToWrong)

/-- 'laws.FnExactPixelsText': WHATEVER THE INPUT: true; the input reads as it did. -/
def fnExactPixelsTextSpec : ChangeSpec := { name := "fnExactPixelsText", fn := fun _ => fun
  | [d] => { results := [.lit (.bool true)], args := [d] }
  | _ => none }
def fnExactPixelsTextRow : OpenClaim := { program := "ytjlkdmnellbaeaa", sum := "09767ebfec16c367861802364c0c325f0214fa84df5d4ebe247e1a9f8c52486b", func := "loop.example/g00883/laws.FnExactPixelsText", spec := "fnExactPixelsText", apart := false }
def FnExactPixelsTextSaid : Prop := fnExactPixelsTextRow.holds Try.pinned (OpenSpec.ofChange fnExactPixelsTextSpec)

/-- ITS FALSE NEIGHBOUR: 'it returns false'. Refute it at one input. -/
def fnExactPixelsTextWrong : ChangeSpec := { name := "fnExactPixelsText", fn := fun _ => fun
  | [d] => { results := [.lit (.bool false)], args := [d] }
  | _ => none }
def FnExactPixelsTextWrongFalsely : Prop := fnExactPixelsTextRow.holds Try.pinned (OpenSpec.ofChange fnExactPixelsTextWrong)

/-- 'laws.FnExactKeepRound': WHATEVER THE INPUT: true; the input reads as it did. -/
def fnExactKeepRoundSpec : ChangeSpec := { name := "fnExactKeepRound", fn := fun _ => fun
  | [d1, d2, d3] => { results := [.lit (.bool true)], args := [d1, d2, d3] }
  | _ => none }
def fnExactKeepRoundRow : OpenClaim := { program := "ytjlkdmnellbaeaa", sum := "09767ebfec16c367861802364c0c325f0214fa84df5d4ebe247e1a9f8c52486b", func := "loop.example/g00883/laws.FnExactKeepRound", spec := "fnExactKeepRound", apart := false }
def FnExactKeepRoundSaid : Prop := fnExactKeepRoundRow.holds Try.pinned (OpenSpec.ofChange fnExactKeepRoundSpec)

/-- ITS FALSE NEIGHBOUR: 'it returns false'. Refute it at one input. -/
def fnExactKeepRoundWrong : ChangeSpec := { name := "fnExactKeepRound", fn := fun _ => fun
  | [d1, d2, d3] => { results := [.lit (.bool false)], args := [d1, d2, d3] }
  | _ => none }
def FnExactKeepRoundWrongFalsely : Prop := fnExactKeepRoundRow.holds Try.pinned (OpenSpec.ofChange fnExactKeepRoundWrong)

/-- 'laws.FnExactValidHints': WHATEVER THE INPUT: true; the input reads as it did. -/
def fnExactValidHintsSpec : ChangeSpec := { name := "fnExactValidHints", fn := fun _ => fun
  | [d] => { results := [.lit (.bool true)], args := [d] }
  | _ => none }
def fnExactValidHintsRow : OpenClaim := { program := "ytjlkdmnellbaeaa", sum := "09767ebfec16c367861802364c0c325f0214fa84df5d4ebe247e1a9f8c52486b", func := "loop.example/g00883/laws.FnExactValidHints", spec := "fnExactValidHints", apart := false }
def FnExactValidHintsSaid : Prop := fnExactValidHintsRow.holds Try.pinned (OpenSpec.ofChange fnExactValidHintsSpec)

/-- ITS FALSE NEIGHBOUR: 'it returns false'. Refute it at one input. -/
def fnExactValidHintsWrong : ChangeSpec := { name := "fnExactValidHints", fn := fun _ => fun
  | [d] => { results := [.lit (.bool false)], args := [d] }
  | _ => none }
def FnExactValidHintsWrongFalsely : Prop := fnExactValidHintsRow.holds Try.pinned (OpenSpec.ofChange fnExactValidHintsWrong)

/-- 'laws.FnExactPartnerOf': WHATEVER THE INPUT: true; the input reads as it did. -/
def fnExactPartnerOfSpec : ChangeSpec := { name := "fnExactPartnerOf", fn := fun _ => fun
  | [d1, d2] => { results := [.lit (.bool true)], args := [d1, d2] }
  | _ => none }
def fnExactPartnerOfRow : OpenClaim := { program := "ytjlkdmnellbaeaa", sum := "09767ebfec16c367861802364c0c325f0214fa84df5d4ebe247e1a9f8c52486b", func := "loop.example/g00883/laws.FnExactPartnerOf", spec := "fnExactPartnerOf", unfollowed := true, recurses := true, apart := false }
def FnExactPartnerOfSaid : Prop := fnExactPartnerOfRow.holds Try.pinned (OpenSpec.ofChange fnExactPartnerOfSpec)

/-- ITS FALSE NEIGHBOUR: 'it returns false'. Refute it at one input. -/
def fnExactPartnerOfWrong : ChangeSpec := { name := "fnExactPartnerOf", fn := fun _ => fun
  | [d1, d2] => { results := [.lit (.bool false)], args := [d1, d2] }
  | _ => none }
def FnExactPartnerOfWrongFalsely : Prop := fnExactPartnerOfRow.holds Try.pinned (OpenSpec.ofChange fnExactPartnerOfWrong)

/-- 'laws.FnExactHintsOf': WHATEVER THE INPUT: true; the input reads as it did. -/
def fnExactHintsOfSpec : ChangeSpec := { name := "fnExactHintsOf", fn := fun _ => fun
  | [d] => { results := [.lit (.bool true)], args := [d] }
  | _ => none }
def fnExactHintsOfRow : OpenClaim := { program := "ytjlkdmnellbaeaa", sum := "09767ebfec16c367861802364c0c325f0214fa84df5d4ebe247e1a9f8c52486b", func := "loop.example/g00883/laws.FnExactHintsOf", spec := "fnExactHintsOf", apart := false }
def FnExactHintsOfSaid : Prop := fnExactHintsOfRow.holds Try.pinned (OpenSpec.ofChange fnExactHintsOfSpec)

/-- ITS FALSE NEIGHBOUR: 'it returns false'. Refute it at one input. -/
def fnExactHintsOfWrong : ChangeSpec := { name := "fnExactHintsOf", fn := fun _ => fun
  | [d] => { results := [.lit (.bool false)], args := [d] }
  | _ => none }
def FnExactHintsOfWrongFalsely : Prop := fnExactHintsOfRow.holds Try.pinned (OpenSpec.ofChange fnExactHintsOfWrong)

/-- 'laws.FnExactReadPixels': WHATEVER THE INPUT: true; the input reads as it did. -/
def fnExactReadPixelsSpec : ChangeSpec := { name := "fnExactReadPixels", fn := fun _ => fun
  | [d] => { results := [.lit (.bool true)], args := [d] }
  | _ => none }
def fnExactReadPixelsRow : OpenClaim := { program := "ytjlkdmnellbaeaa", sum := "09767ebfec16c367861802364c0c325f0214fa84df5d4ebe247e1a9f8c52486b", func := "loop.example/g00883/laws.FnExactReadPixels", spec := "fnExactReadPixels", inPlace := ["internal/bytealg.IndexByteString", "internal/bytealg.IndexString"], named := ["internal/bytealg.MaxLen"], apart := false }
def FnExactReadPixelsSaid : Prop := fnExactReadPixelsRow.holds Try.pinned (OpenSpec.ofChange fnExactReadPixelsSpec)

/-- ITS FALSE NEIGHBOUR: 'it returns false'. Refute it at one input. -/
def fnExactReadPixelsWrong : ChangeSpec := { name := "fnExactReadPixels", fn := fun _ => fun
  | [d] => { results := [.lit (.bool false)], args := [d] }
  | _ => none }
def FnExactReadPixelsWrongFalsely : Prop := fnExactReadPixelsRow.holds Try.pinned (OpenSpec.ofChange fnExactReadPixelsWrong)

/- THE SECOND FORM. 'bulk': how many values and letters a reading holds, each counted each time it is reached (what is shared counts as often as it is met; a slice's spare places count too). A statement '..UptoSaid' is the law's where the arguments, and the package variables that the reading takes, are together of bulk at most 1048576: NARROWER than '..Said'. Prove '..Said' where nothing that the law and all that it calls make is longer than what came in: it says more and counts as full. Else prove '..UptoSaid'. A law counts once. -/
mutual
def uptoBulk {H : Type} : DataW H → Nat
  | .lit (.string bytes) => bytes.length + 1
  | .lit _ => 1
  | .nil => 1
  | .ptr d => uptoBulk d + 1
  | .slice elems spare => uptoBulkAll elems + uptoBulkAll spare + 1
  | .agg parts => uptoBulkAll parts + 1
  | .iface _ d => uptoBulk d + 1
  | .map entries => uptoBulkEntries entries + 1
  | .held _ => 1
def uptoBulkAll {H : Type} : List (DataW H) → Nat
  | [] => 0
  | d :: r => uptoBulk d + uptoBulkAll r
def uptoBulkEntries {H : Type} : List (Lit × DataW H) → Nat
  | [] => 0
  | x :: r => uptoBulkEntry x + uptoBulkEntries r
def uptoBulkEntry {H : Type} : Lit × DataW H → Nat
  | (.string bytes, d) => bytes.length + uptoBulk d + 1
  | (_, d) => uptoBulk d + 1
 end
def uptoSmall : (H : Type) → List (DataW H) → Bool := fun _ ds => decide (uptoBulkAll ds ≤ 1048576)
def OpenSpec.upto (s : _root_.Go.ChangeSpec) : _root_.Go.OpenSpec := { _root_.Go.OpenSpec.ofChange s with cond := some uptoSmall }

/-- 'laws.FnExactStateName', WHERE WHAT IT READS IS OF BULK AT MOST 1048576: true; the input reads as it did. -/
def fnExactStateNameUptoRow : OpenClaim := { program := "ytjlkdmnellbaeaa", sum := "09767ebfec16c367861802364c0c325f0214fa84df5d4ebe247e1a9f8c52486b", func := "loop.example/g00883/laws.FnExactStateName", spec := "fnExactStateName", apart := false, narrowed := true }
def FnExactStateNameUptoSaid : Prop := fnExactStateNameUptoRow.holds Try.pinned (OpenSpec.upto fnExactStateNameSpec)

/-- 'laws.FnExactStateNamed', WHERE WHAT IT READS IS OF BULK AT MOST 1048576: true; the input reads as it did. -/
def fnExactStateNamedUptoRow : OpenClaim := { program := "ytjlkdmnellbaeaa", sum := "09767ebfec16c367861802364c0c325f0214fa84df5d4ebe247e1a9f8c52486b", func := "loop.example/g00883/laws.FnExactStateNamed", spec := "fnExactStateNamed", apart := false, narrowed := true }
def FnExactStateNamedUptoSaid : Prop := fnExactStateNamedUptoRow.holds Try.pinned (OpenSpec.upto fnExactStateNamedSpec)

/-- 'laws.FnExactValidHint', WHERE WHAT IT READS IS OF BULK AT MOST 1048576: true; the input reads as it did. -/
def fnExactValidHintUptoRow : OpenClaim := { program := "ytjlkdmnellbaeaa", sum := "09767ebfec16c367861802364c0c325f0214fa84df5d4ebe247e1a9f8c52486b", func := "loop.example/g00883/laws.FnExactValidHint", spec := "fnExactValidHint", apart := false, narrowed := true }
def FnExactValidHintUptoSaid : Prop := fnExactValidHintUptoRow.holds Try.pinned (OpenSpec.upto fnExactValidHintSpec)

/-- 'laws.FnExactScaleBack', WHERE WHAT IT READS IS OF BULK AT MOST 1048576: true; the input reads as it did. -/
def fnExactScaleBackUptoRow : OpenClaim := { program := "ytjlkdmnellbaeaa", sum := "09767ebfec16c367861802364c0c325f0214fa84df5d4ebe247e1a9f8c52486b", func := "loop.example/g00883/laws.FnExactScaleBack", spec := "fnExactScaleBack", apart := false, narrowed := true }
def FnExactScaleBackUptoSaid : Prop := fnExactScaleBackUptoRow.holds Try.pinned (OpenSpec.upto fnExactScaleBackSpec)

/-- 'laws.FnExactScaleTo', WHERE WHAT IT READS IS OF BULK AT MOST 1048576: true; the input reads as it did. -/
def fnExactScaleToUptoRow : OpenClaim := { program := "ytjlkdmnellbaeaa", sum := "09767ebfec16c367861802364c0c325f0214fa84df5d4ebe247e1a9f8c52486b", func := "loop.example/g00883/laws.FnExactScaleTo", spec := "fnExactScaleTo", apart := false, narrowed := true }
def FnExactScaleToUptoSaid : Prop := fnExactScaleToUptoRow.holds Try.pinned (OpenSpec.upto fnExactScaleToSpec)

/-- 'laws.FnExactRoundTo', WHERE WHAT IT READS IS OF BULK AT MOST 1048576: true; the input reads as it did. -/
def fnExactRoundToUptoRow : OpenClaim := { program := "ytjlkdmnellbaeaa", sum := "09767ebfec16c367861802364c0c325f0214fa84df5d4ebe247e1a9f8c52486b", func := "loop.example/g00883/laws.FnExactRoundTo", spec := "fnExactRoundTo", apart := false, narrowed := true }
def FnExactRoundToUptoSaid : Prop := fnExactRoundToUptoRow.holds Try.pinned (OpenSpec.upto fnExactRoundToSpec)

/-- 'laws.FnExactPixelsText', WHERE WHAT IT READS IS OF BULK AT MOST 1048576: true; the input reads as it did. -/
def fnExactPixelsTextUptoRow : OpenClaim := { program := "ytjlkdmnellbaeaa", sum := "09767ebfec16c367861802364c0c325f0214fa84df5d4ebe247e1a9f8c52486b", func := "loop.example/g00883/laws.FnExactPixelsText", spec := "fnExactPixelsText", apart := false, narrowed := true }
def FnExactPixelsTextUptoSaid : Prop := fnExactPixelsTextUptoRow.holds Try.pinned (OpenSpec.upto fnExactPixelsTextSpec)

/-- 'laws.FnExactKeepRound', WHERE WHAT IT READS IS OF BULK AT MOST 1048576: true; the input reads as it did. -/
def fnExactKeepRoundUptoRow : OpenClaim := { program := "ytjlkdmnellbaeaa", sum := "09767ebfec16c367861802364c0c325f0214fa84df5d4ebe247e1a9f8c52486b", func := "loop.example/g00883/laws.FnExactKeepRound", spec := "fnExactKeepRound", apart := false, narrowed := true }
def FnExactKeepRoundUptoSaid : Prop := fnExactKeepRoundUptoRow.holds Try.pinned (OpenSpec.upto fnExactKeepRoundSpec)

/-- 'laws.FnExactValidHints', WHERE WHAT IT READS IS OF BULK AT MOST 1048576: true; the input reads as it did. -/
def fnExactValidHintsUptoRow : OpenClaim := { program := "ytjlkdmnellbaeaa", sum := "09767ebfec16c367861802364c0c325f0214fa84df5d4ebe247e1a9f8c52486b", func := "loop.example/g00883/laws.FnExactValidHints", spec := "fnExactValidHints", apart := false, narrowed := true }
def FnExactValidHintsUptoSaid : Prop := fnExactValidHintsUptoRow.holds Try.pinned (OpenSpec.upto fnExactValidHintsSpec)

/-- 'laws.FnExactPartnerOf', WHERE WHAT IT READS IS OF BULK AT MOST 1048576: true; the input reads as it did. -/
def fnExactPartnerOfUptoRow : OpenClaim := { program := "ytjlkdmnellbaeaa", sum := "09767ebfec16c367861802364c0c325f0214fa84df5d4ebe247e1a9f8c52486b", func := "loop.example/g00883/laws.FnExactPartnerOf", spec := "fnExactPartnerOf", unfollowed := true, recurses := true, apart := false, narrowed := true }
def FnExactPartnerOfUptoSaid : Prop := fnExactPartnerOfUptoRow.holds Try.pinned (OpenSpec.upto fnExactPartnerOfSpec)

/-- 'laws.FnExactHintsOf', WHERE WHAT IT READS IS OF BULK AT MOST 1048576: true; the input reads as it did. -/
def fnExactHintsOfUptoRow : OpenClaim := { program := "ytjlkdmnellbaeaa", sum := "09767ebfec16c367861802364c0c325f0214fa84df5d4ebe247e1a9f8c52486b", func := "loop.example/g00883/laws.FnExactHintsOf", spec := "fnExactHintsOf", apart := false, narrowed := true }
def FnExactHintsOfUptoSaid : Prop := fnExactHintsOfUptoRow.holds Try.pinned (OpenSpec.upto fnExactHintsOfSpec)

/-- 'laws.FnExactReadPixels', WHERE WHAT IT READS IS OF BULK AT MOST 1048576: true; the input reads as it did. -/
def fnExactReadPixelsUptoRow : OpenClaim := { program := "ytjlkdmnellbaeaa", sum := "09767ebfec16c367861802364c0c325f0214fa84df5d4ebe247e1a9f8c52486b", func := "loop.example/g00883/laws.FnExactReadPixels", spec := "fnExactReadPixels", inPlace := ["internal/bytealg.IndexByteString", "internal/bytealg.IndexString"], named := ["internal/bytealg.MaxLen"], apart := false, narrowed := true }
def FnExactReadPixelsUptoSaid : Prop := fnExactReadPixelsUptoRow.holds Try.pinned (OpenSpec.upto fnExactReadPixelsSpec)

end Rows
end Go.Proofs.Ytjlkdmnellbaeaa
