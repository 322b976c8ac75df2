/-
  No cell of these rows narrows 'for every input' (looked for: loops, veiled, ifaces, maps, wideKeys, modest, calm, conditions, laid).
  DERIVED. THE GIVEN ROWS OF THIS SEAT. 9 by the template 'for every input the law returns true; each argument reads behind the call as it read before'; 0 by the template 'total and deterministic' (their statements: YtjcjmjcgeojhiaaTotals.lean).
  GIVEN WITH THE SEED: the statements are not yours to turn. If you find one false, say at which input.
  Laid BY PROGRAM, IN A SANDBOX (cutbox-rows.mjs): the forced cells as the released guide's own fill.sh prints them over the translation 14c36274656173f0… (all of the seat's roots in one cut). By AI agents, Wed Nov 11 2026. No macro, syntax, notation, axiom, sorry.
-/
import Derived.Test.YtjcjmjcgeojhiaaChecked
import GoSem.Claim
import GoSem.ClaimJoined
import GoSem.ClaimMapViews
import Derived.JoinedTies
import Derived.KernelRfl
namespace Go.Proofs.Ytjcjmjcgeojhiaa
/- THE CELL 'sum', in the pinned program and in every row, IS THE sha256 OF THE DUMP (.gsa) THAT YtjcjmjcgeojhiaaProg.lean LOADS. Nothing in Lean hashes anything: it is a label: what it is worth is what the hold of that sum in a sandbox is worth. -/
noncomputable def Try.pinned : Pinned := { name := "ytjcjmjcgeojhiaa", sum := "14c36274656173f0a6c75465a91d4f8958aa34f70b120883348879e12be254e1", checked := Try.checked }
namespace Rows
def none {H : Type} : Left H := { results := [], args := [] }

/-- 'laws.FnExactSameHinter': WHATEVER THE INPUT: true; the input reads as it did. -/
def fnExactSameHinterSpec : ChangeSpec := { name := "fnExactSameHinter", fn := fun _ => fun
  | [d1, d2] => { results := [.lit (.bool true)], args := [d1, d2] }
  | _ => none }
def fnExactSameHinterRow : OpenClaim := { program := "ytjcjmjcgeojhiaa", sum := "14c36274656173f0a6c75465a91d4f8958aa34f70b120883348879e12be254e1", func := "loop.example/g00883/laws.FnExactSameHinter", spec := "fnExactSameHinter", apart := false }
def FnExactSameHinterSaid : Prop := fnExactSameHinterRow.holds Try.pinned (OpenSpec.ofChange fnExactSameHinterSpec)

/-- ITS FALSE NEIGHBOUR: 'it returns false'. Refute it at one input. -/
def fnExactSameHinterWrong : ChangeSpec := { name := "fnExactSameHinter", fn := fun _ => fun
  | [d1, d2] => { results := [.lit (.bool false)], args := [d1, d2] }
  | _ => none }
def FnExactSameHinterWrongFalsely : Prop := fnExactSameHinterRow.holds Try.pinned (OpenSpec.ofChange fnExactSameHinterWrong)

/-- 'laws.FnExactValidHinter': WHATEVER THE INPUT: true; the input reads as it did. -/
def fnExactValidHinterSpec : ChangeSpec := { name := "fnExactValidHinter", fn := fun _ => fun
  | [d] => { results := [.lit (.bool true)], args := [d] }
  | _ => none }
def fnExactValidHinterRow : OpenClaim := { program := "ytjcjmjcgeojhiaa", sum := "14c36274656173f0a6c75465a91d4f8958aa34f70b120883348879e12be254e1", func := "loop.example/g00883/laws.FnExactValidHinter", spec := "fnExactValidHinter", unfollowed := true, recurses := true, apart := false }
def FnExactValidHinterSaid : Prop := fnExactValidHinterRow.holds Try.pinned (OpenSpec.ofChange fnExactValidHinterSpec)

/-- ITS FALSE NEIGHBOUR: 'it returns false'. Refute it at one input. -/
def fnExactValidHinterWrong : ChangeSpec := { name := "fnExactValidHinter", fn := fun _ => fun
  | [d] => { results := [.lit (.bool false)], args := [d] }
  | _ => none }
def FnExactValidHinterWrongFalsely : Prop := fnExactValidHinterRow.holds Try.pinned (OpenSpec.ofChange fnExactValidHinterWrong)

/-- 'laws.FnExactProgramOf': WHATEVER THE INPUT: true; the input reads as it did. -/
def fnExactProgramOfSpec : ChangeSpec := { name := "fnExactProgramOf", fn := fun _ => fun
  | [d] => { results := [.lit (.bool true)], args := [d] }
  | _ => none }
def fnExactProgramOfRow : OpenClaim := { program := "ytjcjmjcgeojhiaa", sum := "14c36274656173f0a6c75465a91d4f8958aa34f70b120883348879e12be254e1", func := "loop.example/g00883/laws.FnExactProgramOf", spec := "fnExactProgramOf", inPlace := ["internal/abi.NoEscape"], unfollowed := true, recurses := true, apart := false }
def FnExactProgramOfSaid : Prop := fnExactProgramOfRow.holds Try.pinned (OpenSpec.ofChange fnExactProgramOfSpec)

/-- ITS FALSE NEIGHBOUR: 'it returns false'. Refute it at one input. -/
def fnExactProgramOfWrong : ChangeSpec := { name := "fnExactProgramOf", fn := fun _ => fun
  | [d] => { results := [.lit (.bool false)], args := [d] }
  | _ => none }
def FnExactProgramOfWrongFalsely : Prop := fnExactProgramOfRow.holds Try.pinned (OpenSpec.ofChange fnExactProgramOfWrong)

/-- 'laws.FnExactReadPixels': WHATEVER THE INPUT: true; the input reads as it did. -/
def fnExactReadPixelsSpec : ChangeSpec := { name := "fnExactReadPixels", fn := fun _ => fun
  | [d] => { results := [.lit (.bool true)], args := [d] }
  | _ => none }
def fnExactReadPixelsRow : OpenClaim := { program := "ytjcjmjcgeojhiaa", sum := "14c36274656173f0a6c75465a91d4f8958aa34f70b120883348879e12be254e1", func := "loop.example/g00883/laws.FnExactReadPixels", spec := "fnExactReadPixels", inPlace := ["internal/bytealg.IndexByteString", "internal/bytealg.IndexString"], named := ["internal/bytealg.MaxLen"], apart := false }
def FnExactReadPixelsSaid : Prop := fnExactReadPixelsRow.holds Try.pinned (OpenSpec.ofChange fnExactReadPixelsSpec)

/-- ITS FALSE NEIGHBOUR: 'it returns false'. Refute it at one input. -/
def fnExactReadPixelsWrong : ChangeSpec := { name := "fnExactReadPixels", fn := fun _ => fun
  | [d] => { results := [.lit (.bool false)], args := [d] }
  | _ => none }
def FnExactReadPixelsWrongFalsely : Prop := fnExactReadPixelsRow.holds Try.pinned (OpenSpec.ofChange fnExactReadPixelsWrong)

/-- 'laws.FnExactMoveOutline': WHATEVER THE INPUT: true; the input reads as it did. -/
def fnExactMoveOutlineSpec : ChangeSpec := { name := "fnExactMoveOutline", fn := fun _ => fun
  | [d1, d2] => { results := [.lit (.bool true)], args := [d1, d2] }
  | _ => none }
def fnExactMoveOutlineRow : OpenClaim := { program := "ytjcjmjcgeojhiaa", sum := "14c36274656173f0a6c75465a91d4f8958aa34f70b120883348879e12be254e1", func := "loop.example/g00883/laws.FnExactMoveOutline", spec := "fnExactMoveOutline", unfollowed := true, recurses := true, apart := false }
def FnExactMoveOutlineSaid : Prop := fnExactMoveOutlineRow.holds Try.pinned (OpenSpec.ofChange fnExactMoveOutlineSpec)

/-- ITS FALSE NEIGHBOUR: 'it returns false'. Refute it at one input. -/
def fnExactMoveOutlineWrong : ChangeSpec := { name := "fnExactMoveOutline", fn := fun _ => fun
  | [d1, d2] => { results := [.lit (.bool false)], args := [d1, d2] }
  | _ => none }
def FnExactMoveOutlineWrongFalsely : Prop := fnExactMoveOutlineRow.holds Try.pinned (OpenSpec.ofChange fnExactMoveOutlineWrong)

/-- 'laws.FnRounding': WHATEVER THE INPUT: true; the input reads as it did. -/
def fnRoundingSpec : ChangeSpec := { name := "fnRounding", fn := fun _ => fun
  | [d1, d2] => { results := [.lit (.bool true)], args := [d1, d2] }
  | _ => none }
def fnRoundingRow : OpenClaim := { program := "ytjcjmjcgeojhiaa", sum := "14c36274656173f0a6c75465a91d4f8958aa34f70b120883348879e12be254e1", func := "loop.example/g00883/laws.FnRounding", spec := "fnRounding", inPlace := ["internal/bytealg.IndexByteString", "internal/bytealg.IndexString"], named := ["internal/bytealg.MaxLen"], apart := false }
def FnRoundingSaid : Prop := fnRoundingRow.holds Try.pinned (OpenSpec.ofChange fnRoundingSpec)

/-- ITS FALSE NEIGHBOUR: 'it returns false'. Refute it at one input. -/
def fnRoundingWrong : ChangeSpec := { name := "fnRounding", fn := fun _ => fun
  | [d1, d2] => { results := [.lit (.bool false)], args := [d1, d2] }
  | _ => none }
def FnRoundingWrongFalsely : Prop := fnRoundingRow.holds Try.pinned (OpenSpec.ofChange fnRoundingWrong)

/-- 'laws.FnExactScaleOutline': WHATEVER THE INPUT: true; the input reads as it did. -/
def fnExactScaleOutlineSpec : ChangeSpec := { name := "fnExactScaleOutline", fn := fun _ => fun
  | [d1, d2, d3] => { results := [.lit (.bool true)], args := [d1, d2, d3] }
  | _ => none }
def fnExactScaleOutlineRow : OpenClaim := { program := "ytjcjmjcgeojhiaa", sum := "14c36274656173f0a6c75465a91d4f8958aa34f70b120883348879e12be254e1", func := "loop.example/g00883/laws.FnExactScaleOutline", spec := "fnExactScaleOutline", unfollowed := true, recurses := true, apart := false }
def FnExactScaleOutlineSaid : Prop := fnExactScaleOutlineRow.holds Try.pinned (OpenSpec.ofChange fnExactScaleOutlineSpec)

/-- ITS FALSE NEIGHBOUR: 'it returns false'. Refute it at one input. -/
def fnExactScaleOutlineWrong : ChangeSpec := { name := "fnExactScaleOutline", fn := fun _ => fun
  | [d1, d2, d3] => { results := [.lit (.bool false)], args := [d1, d2, d3] }
  | _ => none }
def FnExactScaleOutlineWrongFalsely : Prop := fnExactScaleOutlineRow.holds Try.pinned (OpenSpec.ofChange fnExactScaleOutlineWrong)

/-- 'laws.FnExactStartHinter': WHATEVER THE INPUT: true; the input reads as it did. -/
def fnExactStartHinterSpec : ChangeSpec := { name := "fnExactStartHinter", fn := fun _ => fun
  | [d1, d2, d3, d4, d5] => { results := [.lit (.bool true)], args := [d1, d2, d3, d4, d5] }
  | _ => none }
def fnExactStartHinterRow : OpenClaim := { program := "ytjcjmjcgeojhiaa", sum := "14c36274656173f0a6c75465a91d4f8958aa34f70b120883348879e12be254e1", func := "loop.example/g00883/laws.FnExactStartHinter", spec := "fnExactStartHinter", unfollowed := true, recurses := true, apart := false }
def FnExactStartHinterSaid : Prop := fnExactStartHinterRow.holds Try.pinned (OpenSpec.ofChange fnExactStartHinterSpec)

/-- ITS FALSE NEIGHBOUR: 'it returns false'. Refute it at one input. -/
def fnExactStartHinterWrong : ChangeSpec := { name := "fnExactStartHinter", fn := fun _ => fun
  | [d1, d2, d3, d4, d5] => { results := [.lit (.bool false)], args := [d1, d2, d3, d4, d5] }
  | _ => none }
def FnExactStartHinterWrongFalsely : Prop := fnExactStartHinterRow.holds Try.pinned (OpenSpec.ofChange fnExactStartHinterWrong)

/-- 'laws.FnExactHintedOutline': WHATEVER THE INPUT: true; the input reads as it did. -/
def fnExactHintedOutlineSpec : ChangeSpec := { name := "fnExactHintedOutline", fn := fun _ => fun
  | [d1, d2] => { results := [.lit (.bool true)], args := [d1, d2] }
  | _ => none }
def fnExactHintedOutlineRow : OpenClaim := { program := "ytjcjmjcgeojhiaa", sum := "14c36274656173f0a6c75465a91d4f8958aa34f70b120883348879e12be254e1", func := "loop.example/g00883/laws.FnExactHintedOutline", spec := "fnExactHintedOutline", unfollowed := true, recurses := true, apart := false }
def FnExactHintedOutlineSaid : Prop := fnExactHintedOutlineRow.holds Try.pinned (OpenSpec.ofChange fnExactHintedOutlineSpec)

/-- ITS FALSE NEIGHBOUR: 'it returns false'. Refute it at one input. -/
def fnExactHintedOutlineWrong : ChangeSpec := { name := "fnExactHintedOutline", fn := fun _ => fun
  | [d1, d2] => { results := [.lit (.bool false)], args := [d1, d2] }
  | _ => none }
def FnExactHintedOutlineWrongFalsely : Prop := fnExactHintedOutlineRow.holds Try.pinned (OpenSpec.ofChange fnExactHintedOutlineWrong)

/- THE SECOND FORM. 'bulk': how many values and letters a reading holds, each counted each time it is reached (what is shared counts as often as it is met; a slice's spare places count too). A statement '..UptoSaid' is the law's where the arguments, and the package variables that the reading takes, are together of bulk at most 1048576: NARROWER than '..Said'. Prove '..Said' where nothing that the law and all that it calls make is longer than what came in: it says more and counts as full. Else prove '..UptoSaid'. A law counts once. -/
mutual
def uptoBulk {H : Type} : DataW H → Nat
  | .lit (.string bytes) => bytes.length + 1
  | .lit _ => 1
  | .nil => 1
  | .ptr d => uptoBulk d + 1
  | .slice elems spare => uptoBulkAll elems + uptoBulkAll spare + 1
  | .agg parts => uptoBulkAll parts + 1
  | .iface _ d => uptoBulk d + 1
  | .map entries => uptoBulkEntries entries + 1
  | .held _ => 1
def uptoBulkAll {H : Type} : List (DataW H) → Nat
  | [] => 0
  | d :: r => uptoBulk d + uptoBulkAll r
def uptoBulkEntries {H : Type} : List (Lit × DataW H) → Nat
  | [] => 0
  | x :: r => uptoBulkEntry x + uptoBulkEntries r
def uptoBulkEntry {H : Type} : Lit × DataW H → Nat
  | (.string bytes, d) => bytes.length + uptoBulk d + 1
  | (_, d) => uptoBulk d + 1
 end
def uptoSmall : (H : Type) → List (DataW H) → Bool := fun _ ds => decide (uptoBulkAll ds ≤ 1048576)
def OpenSpec.upto (s : _root_.Go.ChangeSpec) : _root_.Go.OpenSpec := { _root_.Go.OpenSpec.ofChange s with cond := some uptoSmall }

/-- 'laws.FnExactSameHinter', WHERE WHAT IT READS IS OF BULK AT MOST 1048576: true; the input reads as it did. -/
def fnExactSameHinterUptoRow : OpenClaim := { program := "ytjcjmjcgeojhiaa", sum := "14c36274656173f0a6c75465a91d4f8958aa34f70b120883348879e12be254e1", func := "loop.example/g00883/laws.FnExactSameHinter", spec := "fnExactSameHinter", apart := false, narrowed := true }
def FnExactSameHinterUptoSaid : Prop := fnExactSameHinterUptoRow.holds Try.pinned (OpenSpec.upto fnExactSameHinterSpec)

/-- 'laws.FnExactValidHinter', WHERE WHAT IT READS IS OF BULK AT MOST 1048576: true; the input reads as it did. -/
def fnExactValidHinterUptoRow : OpenClaim := { program := "ytjcjmjcgeojhiaa", sum := "14c36274656173f0a6c75465a91d4f8958aa34f70b120883348879e12be254e1", func := "loop.example/g00883/laws.FnExactValidHinter", spec := "fnExactValidHinter", unfollowed := true, recurses := true, apart := false, narrowed := true }
def FnExactValidHinterUptoSaid : Prop := fnExactValidHinterUptoRow.holds Try.pinned (OpenSpec.upto fnExactValidHinterSpec)

/-- 'laws.FnExactProgramOf', WHERE WHAT IT READS IS OF BULK AT MOST 1048576: true; the input reads as it did. -/
def fnExactProgramOfUptoRow : OpenClaim := { program := "ytjcjmjcgeojhiaa", sum := "14c36274656173f0a6c75465a91d4f8958aa34f70b120883348879e12be254e1", func := "loop.example/g00883/laws.FnExactProgramOf", spec := "fnExactProgramOf", inPlace := ["internal/abi.NoEscape"], unfollowed := true, recurses := true, apart := false, narrowed := true }
def FnExactProgramOfUptoSaid : Prop := fnExactProgramOfUptoRow.holds Try.pinned (OpenSpec.upto fnExactProgramOfSpec)

/-- 'laws.FnExactReadPixels', WHERE WHAT IT READS IS OF BULK AT MOST 1048576: true; the input reads as it did. -/
def fnExactReadPixelsUptoRow : OpenClaim := { program := "ytjcjmjcgeojhiaa", sum := "14c36274656173f0a6c75465a91d4f8958aa34f70b120883348879e12be254e1", func := "loop.example/g00883/laws.FnExactReadPixels", spec := "fnExactReadPixels", inPlace := ["internal/bytealg.IndexByteString", "internal/bytealg.IndexString"], named := ["internal/bytealg.MaxLen"], apart := false, narrowed := true }
def FnExactReadPixelsUptoSaid : Prop := fnExactReadPixelsUptoRow.holds Try.pinned (OpenSpec.upto fnExactReadPixelsSpec)

/-- 'laws.FnExactMoveOutline', WHERE WHAT IT READS IS OF BULK AT MOST 1048576: true; the input reads as it did. -/
def fnExactMoveOutlineUptoRow : OpenClaim := { program := "ytjcjmjcgeojhiaa", sum := "14c36274656173f0a6c75465a91d4f8958aa34f70b120883348879e12be254e1", func := "loop.example/g00883/laws.FnExactMoveOutline", spec := "fnExactMoveOutline", unfollowed := true, recurses := true, apart := false, narrowed := true }
def FnExactMoveOutlineUptoSaid : Prop := fnExactMoveOutlineUptoRow.holds Try.pinned (OpenSpec.upto fnExactMoveOutlineSpec)

/-- 'laws.FnRounding', WHERE WHAT IT READS IS OF BULK AT MOST 1048576: true; the input reads as it did. -/
def fnRoundingUptoRow : OpenClaim := { program := "ytjcjmjcgeojhiaa", sum := "14c36274656173f0a6c75465a91d4f8958aa34f70b120883348879e12be254e1", func := "loop.example/g00883/laws.FnRounding", spec := "fnRounding", inPlace := ["internal/bytealg.IndexByteString", "internal/bytealg.IndexString"], named := ["internal/bytealg.MaxLen"], apart := false, narrowed := true }
def FnRoundingUptoSaid : Prop := fnRoundingUptoRow.holds Try.pinned (OpenSpec.upto fnRoundingSpec)

/-- 'laws.FnExactScaleOutline', WHERE WHAT IT READS IS OF BULK AT MOST 1048576: true; the input reads as it did. -/
def fnExactScaleOutlineUptoRow : OpenClaim := { program := "ytjcjmjcgeojhiaa", sum := "14c36274656173f0a6c75465a91d4f8958aa34f70b120883348879e12be254e1", func := "loop.example/g00883/laws.FnExactScaleOutline", spec := "fnExactScaleOutline", unfollowed := true, recurses := true, apart := false, narrowed := true }
def FnExactScaleOutlineUptoSaid : Prop := fnExactScaleOutlineUptoRow.holds Try.pinned (OpenSpec.upto fnExactScaleOutlineSpec)

/-- 'laws.FnExactStartHinter', WHERE WHAT IT READS IS OF BULK AT MOST 1048576: true; the input reads as it did. -/
def fnExactStartHinterUptoRow : OpenClaim := { program := "ytjcjmjcgeojhiaa", sum := "14c36274656173f0a6c75465a91d4f8958aa34f70b120883348879e12be254e1", func := "loop.example/g00883/laws.FnExactStartHinter", spec := "fnExactStartHinter", unfollowed := true, recurses := true, apart := false, narrowed := true }
def FnExactStartHinterUptoSaid : Prop := fnExactStartHinterUptoRow.holds Try.pinned (OpenSpec.upto fnExactStartHinterSpec)

/-- 'laws.FnExactHintedOutline', WHERE WHAT IT READS IS OF BULK AT MOST 1048576: true; the input reads as it did. -/
def fnExactHintedOutlineUptoRow : OpenClaim := { program := "ytjcjmjcgeojhiaa", sum := "14c36274656173f0a6c75465a91d4f8958aa34f70b120883348879e12be254e1", func := "loop.example/g00883/laws.FnExactHintedOutline", spec := "fnExactHintedOutline", unfollowed := true, recurses := true, apart := false, narrowed := true }
def FnExactHintedOutlineUptoSaid : Prop := fnExactHintedOutlineUptoRow.holds Try.pinned (OpenSpec.upto fnExactHintedOutlineSpec)

end Rows
end Go.Proofs.Ytjcjmjcgeojhiaa
