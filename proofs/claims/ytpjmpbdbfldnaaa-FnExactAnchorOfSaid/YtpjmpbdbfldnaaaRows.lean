/-
  No cell of these rows narrows 'for every input' (looked for: loops, veiled, ifaces, maps, wideKeys, modest, calm, conditions, laid).
  DERIVED. THE GIVEN ROWS OF THIS SEAT. 17 by the template 'for every input the law returns true; each argument reads behind the call as it read before'; 0 by the template 'total and deterministic' (their statements: YtpjmpbdbfldnaaaTotals.lean).
  GIVEN WITH THE SEED: the statements are not yours to turn. If you find one false, say at which input.
  Laid BY PROGRAM, IN A SANDBOX (cutbox-rows.mjs): the forced cells as the released guide's own fill.sh prints them over the translation 4437adb2d810f572… (all of the seat's roots in one cut). By AI agents, Wed Nov 11 2026. No macro, syntax, notation, axiom, sorry.
-/
import Derived.Test.YtpjmpbdbfldnaaaChecked
import GoSem.Claim
import GoSem.ClaimJoined
import GoSem.ClaimMapViews
import Derived.JoinedTies
import Derived.KernelRfl
namespace Go.Proofs.Ytpjmpbdbfldnaaa
/- THE CELL 'sum', in the pinned program and in every row, IS THE sha256 OF THE DUMP (.gsa) THAT YtpjmpbdbfldnaaaProg.lean LOADS. Nothing in Lean hashes anything: it is a label: what it is worth is what the hold of that sum in a sandbox is worth. -/
noncomputable def Try.pinned : Pinned := { name := "ytpjmpbdbfldnaaa", sum := "4437adb2d810f5726f8987a206de65efe4824e45dfd943e51846949b995abc53", checked := Try.checked }
namespace Rows
def none {H : Type} : Left H := { results := [], args := [] }

/-- 'laws.FnExactNearPath': WHATEVER THE INPUT: true; the input reads as it did. -/
def fnExactNearPathSpec : ChangeSpec := { name := "fnExactNearPath", fn := fun _ => fun
  | [d1, d2, d3] => { results := [.lit (.bool true)], args := [d1, d2, d3] }
  | _ => none }
def fnExactNearPathRow : OpenClaim := { program := "ytpjmpbdbfldnaaa", sum := "4437adb2d810f5726f8987a206de65efe4824e45dfd943e51846949b995abc53", func := "loop.example/g00883/laws.FnExactNearPath", spec := "fnExactNearPath", apart := false }
def FnExactNearPathSaid : Prop := fnExactNearPathRow.holds Try.pinned (OpenSpec.ofChange fnExactNearPathSpec)

/-- ITS FALSE NEIGHBOUR: 'it returns false'. Refute it at one input. -/
def fnExactNearPathWrong : ChangeSpec := { name := "fnExactNearPath", fn := fun _ => fun
  | [d1, d2, d3] => { results := [.lit (.bool false)], args := [d1, d2, d3] }
  | _ => none }
def FnExactNearPathWrongFalsely : Prop := fnExactNearPathRow.holds Try.pinned (OpenSpec.ofChange fnExactNearPathWrong)

/-- 'laws.FnExactPathWithin': WHATEVER THE INPUT: true; the input reads as it did. -/
def fnExactPathWithinSpec : ChangeSpec := { name := "fnExactPathWithin", fn := fun _ => fun
  | [d1, d2, d3] => { results := [.lit (.bool true)], args := [d1, d2, d3] }
  | _ => none }
def fnExactPathWithinRow : OpenClaim := { program := "ytpjmpbdbfldnaaa", sum := "4437adb2d810f5726f8987a206de65efe4824e45dfd943e51846949b995abc53", func := "loop.example/g00883/laws.FnExactPathWithin", spec := "fnExactPathWithin", apart := false }
def FnExactPathWithinSaid : Prop := fnExactPathWithinRow.holds Try.pinned (OpenSpec.ofChange fnExactPathWithinSpec)

/-- ITS FALSE NEIGHBOUR: 'it returns false'. Refute it at one input. -/
def fnExactPathWithinWrong : ChangeSpec := { name := "fnExactPathWithin", fn := fun _ => fun
  | [d1, d2, d3] => { results := [.lit (.bool false)], args := [d1, d2, d3] }
  | _ => none }
def FnExactPathWithinWrongFalsely : Prop := fnExactPathWithinRow.holds Try.pinned (OpenSpec.ofChange fnExactPathWithinWrong)

/-- 'laws.FnExactMoveOutline': WHATEVER THE INPUT: true; the input reads as it did. -/
def fnExactMoveOutlineSpec : ChangeSpec := { name := "fnExactMoveOutline", fn := fun _ => fun
  | [d1, d2] => { results := [.lit (.bool true)], args := [d1, d2] }
  | _ => none }
def fnExactMoveOutlineRow : OpenClaim := { program := "ytpjmpbdbfldnaaa", sum := "4437adb2d810f5726f8987a206de65efe4824e45dfd943e51846949b995abc53", func := "loop.example/g00883/laws.FnExactMoveOutline", spec := "fnExactMoveOutline", unfollowed := true, recurses := true, apart := false }
def FnExactMoveOutlineSaid : Prop := fnExactMoveOutlineRow.holds Try.pinned (OpenSpec.ofChange fnExactMoveOutlineSpec)

/-- ITS FALSE NEIGHBOUR: 'it returns false'. Refute it at one input. -/
def fnExactMoveOutlineWrong : ChangeSpec := { name := "fnExactMoveOutline", fn := fun _ => fun
  | [d1, d2] => { results := [.lit (.bool false)], args := [d1, d2] }
  | _ => none }
def FnExactMoveOutlineWrongFalsely : Prop := fnExactMoveOutlineRow.holds Try.pinned (OpenSpec.ofChange fnExactMoveOutlineWrong)

/-- 'laws.FnRounding': WHATEVER THE INPUT: true; the input reads as it did. -/
def fnRoundingSpec : ChangeSpec := { name := "fnRounding", fn := fun _ => fun
  | [d1, d2] => { results := [.lit (.bool true)], args := [d1, d2] }
  | _ => none }
def fnRoundingRow : OpenClaim := { program := "ytpjmpbdbfldnaaa", sum := "4437adb2d810f5726f8987a206de65efe4824e45dfd943e51846949b995abc53", func := "loop.example/g00883/laws.FnRounding", spec := "fnRounding", inPlace := ["internal/bytealg.IndexByteString", "internal/bytealg.IndexString"], named := ["internal/bytealg.MaxLen"], apart := false }
def FnRoundingSaid : Prop := fnRoundingRow.holds Try.pinned (OpenSpec.ofChange fnRoundingSpec)

/-- ITS FALSE NEIGHBOUR: 'it returns false'. Refute it at one input. -/
def fnRoundingWrong : ChangeSpec := { name := "fnRounding", fn := fun _ => fun
  | [d1, d2] => { results := [.lit (.bool false)], args := [d1, d2] }
  | _ => none }
def FnRoundingWrongFalsely : Prop := fnRoundingRow.holds Try.pinned (OpenSpec.ofChange fnRoundingWrong)

/-- 'laws.FnExactScaleOutline': WHATEVER THE INPUT: true; the input reads as it did. -/
def fnExactScaleOutlineSpec : ChangeSpec := { name := "fnExactScaleOutline", fn := fun _ => fun
  | [d1, d2, d3] => { results := [.lit (.bool true)], args := [d1, d2, d3] }
  | _ => none }
def fnExactScaleOutlineRow : OpenClaim := { program := "ytpjmpbdbfldnaaa", sum := "4437adb2d810f5726f8987a206de65efe4824e45dfd943e51846949b995abc53", func := "loop.example/g00883/laws.FnExactScaleOutline", spec := "fnExactScaleOutline", unfollowed := true, recurses := true, apart := false }
def FnExactScaleOutlineSaid : Prop := fnExactScaleOutlineRow.holds Try.pinned (OpenSpec.ofChange fnExactScaleOutlineSpec)

/-- ITS FALSE NEIGHBOUR: 'it returns false'. Refute it at one input. -/
def fnExactScaleOutlineWrong : ChangeSpec := { name := "fnExactScaleOutline", fn := fun _ => fun
  | [d1, d2, d3] => { results := [.lit (.bool false)], args := [d1, d2, d3] }
  | _ => none }
def FnExactScaleOutlineWrongFalsely : Prop := fnExactScaleOutlineRow.holds Try.pinned (OpenSpec.ofChange fnExactScaleOutlineWrong)

/-- 'laws.FnExactSameGlyph': WHATEVER THE INPUT: true; the input reads as it did. -/
def fnExactSameGlyphSpec : ChangeSpec := { name := "fnExactSameGlyph", fn := fun _ => fun
  | [d1, d2] => { results := [.lit (.bool true)], args := [d1, d2] }
  | _ => none }
def fnExactSameGlyphRow : OpenClaim := { program := "ytpjmpbdbfldnaaa", sum := "4437adb2d810f5726f8987a206de65efe4824e45dfd943e51846949b995abc53", func := "loop.example/g00883/laws.FnExactSameGlyph", spec := "fnExactSameGlyph", unfollowed := true, recurses := true, apart := false }
def FnExactSameGlyphSaid : Prop := fnExactSameGlyphRow.holds Try.pinned (OpenSpec.ofChange fnExactSameGlyphSpec)

/-- ITS FALSE NEIGHBOUR: 'it returns false'. Refute it at one input. -/
def fnExactSameGlyphWrong : ChangeSpec := { name := "fnExactSameGlyph", fn := fun _ => fun
  | [d1, d2] => { results := [.lit (.bool false)], args := [d1, d2] }
  | _ => none }
def FnExactSameGlyphWrongFalsely : Prop := fnExactSameGlyphRow.holds Try.pinned (OpenSpec.ofChange fnExactSameGlyphWrong)

/-- 'laws.FnExactValidGlyph': WHATEVER THE INPUT: true; the input reads as it did. -/
def fnExactValidGlyphSpec : ChangeSpec := { name := "fnExactValidGlyph", fn := fun _ => fun
  | [d] => { results := [.lit (.bool true)], args := [d] }
  | _ => none }
def fnExactValidGlyphRow : OpenClaim := { program := "ytpjmpbdbfldnaaa", sum := "4437adb2d810f5726f8987a206de65efe4824e45dfd943e51846949b995abc53", func := "loop.example/g00883/laws.FnExactValidGlyph", spec := "fnExactValidGlyph", unfollowed := true, recurses := true, apart := false }
def FnExactValidGlyphSaid : Prop := fnExactValidGlyphRow.holds Try.pinned (OpenSpec.ofChange fnExactValidGlyphSpec)

/-- ITS FALSE NEIGHBOUR: 'it returns false'. Refute it at one input. -/
def fnExactValidGlyphWrong : ChangeSpec := { name := "fnExactValidGlyph", fn := fun _ => fun
  | [d] => { results := [.lit (.bool false)], args := [d] }
  | _ => none }
def FnExactValidGlyphWrongFalsely : Prop := fnExactValidGlyphRow.holds Try.pinned (OpenSpec.ofChange fnExactValidGlyphWrong)

/-- 'laws.FnExactSameGlyphSet': WHATEVER THE INPUT: true; the input reads as it did. -/
def fnExactSameGlyphSetSpec : ChangeSpec := { name := "fnExactSameGlyphSet", fn := fun _ => fun
  | [d1, d2] => { results := [.lit (.bool true)], args := [d1, d2] }
  | _ => none }
def fnExactSameGlyphSetRow : OpenClaim := { program := "ytpjmpbdbfldnaaa", sum := "4437adb2d810f5726f8987a206de65efe4824e45dfd943e51846949b995abc53", func := "loop.example/g00883/laws.FnExactSameGlyphSet", spec := "fnExactSameGlyphSet", unfollowed := true, recurses := true, apart := false }
def FnExactSameGlyphSetSaid : Prop := fnExactSameGlyphSetRow.holds Try.pinned (OpenSpec.ofChange fnExactSameGlyphSetSpec)

/-- ITS FALSE NEIGHBOUR: 'it returns false'. Refute it at one input. -/
def fnExactSameGlyphSetWrong : ChangeSpec := { name := "fnExactSameGlyphSet", fn := fun _ => fun
  | [d1, d2] => { results := [.lit (.bool false)], args := [d1, d2] }
  | _ => none }
def FnExactSameGlyphSetWrongFalsely : Prop := fnExactSameGlyphSetRow.holds Try.pinned (OpenSpec.ofChange fnExactSameGlyphSetWrong)

/-- 'laws.FnExactValidGlyphSet': WHATEVER THE INPUT: true; the input reads as it did. -/
def fnExactValidGlyphSetSpec : ChangeSpec := { name := "fnExactValidGlyphSet", fn := fun _ => fun
  | [d] => { results := [.lit (.bool true)], args := [d] }
  | _ => none }
def fnExactValidGlyphSetRow : OpenClaim := { program := "ytpjmpbdbfldnaaa", sum := "4437adb2d810f5726f8987a206de65efe4824e45dfd943e51846949b995abc53", func := "loop.example/g00883/laws.FnExactValidGlyphSet", spec := "fnExactValidGlyphSet", unfollowed := true, recurses := true, apart := false }
def FnExactValidGlyphSetSaid : Prop := fnExactValidGlyphSetRow.holds Try.pinned (OpenSpec.ofChange fnExactValidGlyphSetSpec)

/-- ITS FALSE NEIGHBOUR: 'it returns false'. Refute it at one input. -/
def fnExactValidGlyphSetWrong : ChangeSpec := { name := "fnExactValidGlyphSet", fn := fun _ => fun
  | [d] => { results := [.lit (.bool false)], args := [d] }
  | _ => none }
def FnExactValidGlyphSetWrongFalsely : Prop := fnExactValidGlyphSetRow.holds Try.pinned (OpenSpec.ofChange fnExactValidGlyphSetWrong)

/-- 'laws.FnExactGlyphNamed': WHATEVER THE INPUT: true; the input reads as it did. -/
def fnExactGlyphNamedSpec : ChangeSpec := { name := "fnExactGlyphNamed", fn := fun _ => fun
  | [d1, d2] => { results := [.lit (.bool true)], args := [d1, d2] }
  | _ => none }
def fnExactGlyphNamedRow : OpenClaim := { program := "ytpjmpbdbfldnaaa", sum := "4437adb2d810f5726f8987a206de65efe4824e45dfd943e51846949b995abc53", func := "loop.example/g00883/laws.FnExactGlyphNamed", spec := "fnExactGlyphNamed", unfollowed := true, recurses := true, apart := false }
def FnExactGlyphNamedSaid : Prop := fnExactGlyphNamedRow.holds Try.pinned (OpenSpec.ofChange fnExactGlyphNamedSpec)

/-- ITS FALSE NEIGHBOUR: 'it returns false'. Refute it at one input. -/
def fnExactGlyphNamedWrong : ChangeSpec := { name := "fnExactGlyphNamed", fn := fun _ => fun
  | [d1, d2] => { results := [.lit (.bool false)], args := [d1, d2] }
  | _ => none }
def FnExactGlyphNamedWrongFalsely : Prop := fnExactGlyphNamedRow.holds Try.pinned (OpenSpec.ofChange fnExactGlyphNamedWrong)

/-- 'laws.FnExactGlyphOfChar': WHATEVER THE INPUT: true; the input reads as it did. -/
def fnExactGlyphOfCharSpec : ChangeSpec := { name := "fnExactGlyphOfChar", fn := fun _ => fun
  | [d1, d2] => { results := [.lit (.bool true)], args := [d1, d2] }
  | _ => none }
def fnExactGlyphOfCharRow : OpenClaim := { program := "ytpjmpbdbfldnaaa", sum := "4437adb2d810f5726f8987a206de65efe4824e45dfd943e51846949b995abc53", func := "loop.example/g00883/laws.FnExactGlyphOfChar", spec := "fnExactGlyphOfChar", unfollowed := true, recurses := true, apart := false }
def FnExactGlyphOfCharSaid : Prop := fnExactGlyphOfCharRow.holds Try.pinned (OpenSpec.ofChange fnExactGlyphOfCharSpec)

/-- ITS FALSE NEIGHBOUR: 'it returns false'. Refute it at one input. -/
def fnExactGlyphOfCharWrong : ChangeSpec := { name := "fnExactGlyphOfChar", fn := fun _ => fun
  | [d1, d2] => { results := [.lit (.bool false)], args := [d1, d2] }
  | _ => none }
def FnExactGlyphOfCharWrongFalsely : Prop := fnExactGlyphOfCharRow.holds Try.pinned (OpenSpec.ofChange fnExactGlyphOfCharWrong)

/-- 'laws.FnExactGlyphDepth': WHATEVER THE INPUT: true; the input reads as it did. -/
def fnExactGlyphDepthSpec : ChangeSpec := { name := "fnExactGlyphDepth", fn := fun _ => fun
  | [d1, d2] => { results := [.lit (.bool true)], args := [d1, d2] }
  | _ => none }
def fnExactGlyphDepthRow : OpenClaim := { program := "ytpjmpbdbfldnaaa", sum := "4437adb2d810f5726f8987a206de65efe4824e45dfd943e51846949b995abc53", func := "loop.example/g00883/laws.FnExactGlyphDepth", spec := "fnExactGlyphDepth", unfollowed := true, recurses := true, apart := false }
def FnExactGlyphDepthSaid : Prop := fnExactGlyphDepthRow.holds Try.pinned (OpenSpec.ofChange fnExactGlyphDepthSpec)

/-- ITS FALSE NEIGHBOUR: 'it returns false'. Refute it at one input. -/
def fnExactGlyphDepthWrong : ChangeSpec := { name := "fnExactGlyphDepth", fn := fun _ => fun
  | [d1, d2] => { results := [.lit (.bool false)], args := [d1, d2] }
  | _ => none }
def FnExactGlyphDepthWrongFalsely : Prop := fnExactGlyphDepthRow.holds Try.pinned (OpenSpec.ofChange fnExactGlyphDepthWrong)

/-- 'laws.FnExactLoopCount': WHATEVER THE INPUT: true; the input reads as it did. -/
def fnExactLoopCountSpec : ChangeSpec := { name := "fnExactLoopCount", fn := fun _ => fun
  | [d1, d2] => { results := [.lit (.bool true)], args := [d1, d2] }
  | _ => none }
def fnExactLoopCountRow : OpenClaim := { program := "ytpjmpbdbfldnaaa", sum := "4437adb2d810f5726f8987a206de65efe4824e45dfd943e51846949b995abc53", func := "loop.example/g00883/laws.FnExactLoopCount", spec := "fnExactLoopCount", unfollowed := true, recurses := true, apart := false }
def FnExactLoopCountSaid : Prop := fnExactLoopCountRow.holds Try.pinned (OpenSpec.ofChange fnExactLoopCountSpec)

/-- ITS FALSE NEIGHBOUR: 'it returns false'. Refute it at one input. -/
def fnExactLoopCountWrong : ChangeSpec := { name := "fnExactLoopCount", fn := fun _ => fun
  | [d1, d2] => { results := [.lit (.bool false)], args := [d1, d2] }
  | _ => none }
def FnExactLoopCountWrongFalsely : Prop := fnExactLoopCountRow.holds Try.pinned (OpenSpec.ofChange fnExactLoopCountWrong)

/-- 'laws.FnExactAnchorOf': WHATEVER THE INPUT: true; the input reads as it did. -/
def fnExactAnchorOfSpec : ChangeSpec := { name := "fnExactAnchorOf", fn := fun _ => fun
  | [d1, d2, d3] => { results := [.lit (.bool true)], args := [d1, d2, d3] }
  | _ => none }
def fnExactAnchorOfRow : OpenClaim := { program := "ytpjmpbdbfldnaaa", sum := "4437adb2d810f5726f8987a206de65efe4824e45dfd943e51846949b995abc53", func := "loop.example/g00883/laws.FnExactAnchorOf", spec := "fnExactAnchorOf", unfollowed := true, recurses := true, apart := false }
def FnExactAnchorOfSaid : Prop := fnExactAnchorOfRow.holds Try.pinned (OpenSpec.ofChange fnExactAnchorOfSpec)

/-- ITS FALSE NEIGHBOUR: 'it returns false'. Refute it at one input. -/
def fnExactAnchorOfWrong : ChangeSpec := { name := "fnExactAnchorOf", fn := fun _ => fun
  | [d1, d2, d3] => { results := [.lit (.bool false)], args := [d1, d2, d3] }
  | _ => none }
def FnExactAnchorOfWrongFalsely : Prop := fnExactAnchorOfRow.holds Try.pinned (OpenSpec.ofChange fnExactAnchorOfWrong)

/-- 'laws.FnExactGlyphUsers': WHATEVER THE INPUT: true; the input reads as it did. -/
def fnExactGlyphUsersSpec : ChangeSpec := { name := "fnExactGlyphUsers", fn := fun _ => fun
  | [d1, d2] => { results := [.lit (.bool true)], args := [d1, d2] }
  | _ => none }
def fnExactGlyphUsersRow : OpenClaim := { program := "ytpjmpbdbfldnaaa", sum := "4437adb2d810f5726f8987a206de65efe4824e45dfd943e51846949b995abc53", func := "loop.example/g00883/laws.FnExactGlyphUsers", spec := "fnExactGlyphUsers", unfollowed := true, recurses := true, apart := false }
def FnExactGlyphUsersSaid : Prop := fnExactGlyphUsersRow.holds Try.pinned (OpenSpec.ofChange fnExactGlyphUsersSpec)

/-- ITS FALSE NEIGHBOUR: 'it returns false'. Refute it at one input. -/
def fnExactGlyphUsersWrong : ChangeSpec := { name := "fnExactGlyphUsers", fn := fun _ => fun
  | [d1, d2] => { results := [.lit (.bool false)], args := [d1, d2] }
  | _ => none }
def FnExactGlyphUsersWrongFalsely : Prop := fnExactGlyphUsersRow.holds Try.pinned (OpenSpec.ofChange fnExactGlyphUsersWrong)

/-- 'laws.FnExactWholeOutline': WHATEVER THE INPUT: true; the input reads as it did. -/
def fnExactWholeOutlineSpec : ChangeSpec := { name := "fnExactWholeOutline", fn := fun _ => fun
  | [d1, d2] => { results := [.lit (.bool true)], args := [d1, d2] }
  | _ => none }
def fnExactWholeOutlineRow : OpenClaim := { program := "ytpjmpbdbfldnaaa", sum := "4437adb2d810f5726f8987a206de65efe4824e45dfd943e51846949b995abc53", func := "loop.example/g00883/laws.FnExactWholeOutline", spec := "fnExactWholeOutline", unfollowed := true, recurses := true, apart := false }
def FnExactWholeOutlineSaid : Prop := fnExactWholeOutlineRow.holds Try.pinned (OpenSpec.ofChange fnExactWholeOutlineSpec)

/-- ITS FALSE NEIGHBOUR: 'it returns false'. Refute it at one input. -/
def fnExactWholeOutlineWrong : ChangeSpec := { name := "fnExactWholeOutline", fn := fun _ => fun
  | [d1, d2] => { results := [.lit (.bool false)], args := [d1, d2] }
  | _ => none }
def FnExactWholeOutlineWrongFalsely : Prop := fnExactWholeOutlineRow.holds Try.pinned (OpenSpec.ofChange fnExactWholeOutlineWrong)

/-- 'laws.FnExactAddGlyph': WHATEVER THE INPUT: true; the input reads as it did. -/
def fnExactAddGlyphSpec : ChangeSpec := { name := "fnExactAddGlyph", fn := fun _ => fun
  | [d1, d2] => { results := [.lit (.bool true)], args := [d1, d2] }
  | _ => none }
def fnExactAddGlyphRow : OpenClaim := { program := "ytpjmpbdbfldnaaa", sum := "4437adb2d810f5726f8987a206de65efe4824e45dfd943e51846949b995abc53", func := "loop.example/g00883/laws.FnExactAddGlyph", spec := "fnExactAddGlyph", unfollowed := true, recurses := true, apart := false }
def FnExactAddGlyphSaid : Prop := fnExactAddGlyphRow.holds Try.pinned (OpenSpec.ofChange fnExactAddGlyphSpec)

/-- ITS FALSE NEIGHBOUR: 'it returns false'. Refute it at one input. -/
def fnExactAddGlyphWrong : ChangeSpec := { name := "fnExactAddGlyph", fn := fun _ => fun
  | [d1, d2] => { results := [.lit (.bool false)], args := [d1, d2] }
  | _ => none }
def FnExactAddGlyphWrongFalsely : Prop := fnExactAddGlyphRow.holds Try.pinned (OpenSpec.ofChange fnExactAddGlyphWrong)

/- THE SECOND FORM. 'bulk': how many values and letters a reading holds, each counted each time it is reached (what is shared counts as often as it is met; a slice's spare places count too). A statement '..UptoSaid' is the law's where the arguments, and the package variables that the reading takes, are together of bulk at most 1048576: NARROWER than '..Said'. Prove '..Said' where nothing that the law and all that it calls make is longer than what came in: it says more and counts as full. Else prove '..UptoSaid'. A law counts once. -/
mutual
def uptoBulk {H : Type} : DataW H → Nat
  | .lit (.string bytes) => bytes.length + 1
  | .lit _ => 1
  | .nil => 1
  | .ptr d => uptoBulk d + 1
  | .slice elems spare => uptoBulkAll elems + uptoBulkAll spare + 1
  | .agg parts => uptoBulkAll parts + 1
  | .iface _ d => uptoBulk d + 1
  | .map entries => uptoBulkEntries entries + 1
  | .held _ => 1
def uptoBulkAll {H : Type} : List (DataW H) → Nat
  | [] => 0
  | d :: r => uptoBulk d + uptoBulkAll r
def uptoBulkEntries {H : Type} : List (Lit × DataW H) → Nat
  | [] => 0
  | x :: r => uptoBulkEntry x + uptoBulkEntries r
def uptoBulkEntry {H : Type} : Lit × DataW H → Nat
  | (.string bytes, d) => bytes.length + uptoBulk d + 1
  | (_, d) => uptoBulk d + 1
 end
def uptoSmall : (H : Type) → List (DataW H) → Bool := fun _ ds => decide (uptoBulkAll ds ≤ 1048576)
def OpenSpec.upto (s : _root_.Go.ChangeSpec) : _root_.Go.OpenSpec := { _root_.Go.OpenSpec.ofChange s with cond := some uptoSmall }

/-- 'laws.FnExactNearPath', WHERE WHAT IT READS IS OF BULK AT MOST 1048576: true; the input reads as it did. -/
def fnExactNearPathUptoRow : OpenClaim := { program := "ytpjmpbdbfldnaaa", sum := "4437adb2d810f5726f8987a206de65efe4824e45dfd943e51846949b995abc53", func := "loop.example/g00883/laws.FnExactNearPath", spec := "fnExactNearPath", apart := false, narrowed := true }
def FnExactNearPathUptoSaid : Prop := fnExactNearPathUptoRow.holds Try.pinned (OpenSpec.upto fnExactNearPathSpec)

/-- 'laws.FnExactPathWithin', WHERE WHAT IT READS IS OF BULK AT MOST 1048576: true; the input reads as it did. -/
def fnExactPathWithinUptoRow : OpenClaim := { program := "ytpjmpbdbfldnaaa", sum := "4437adb2d810f5726f8987a206de65efe4824e45dfd943e51846949b995abc53", func := "loop.example/g00883/laws.FnExactPathWithin", spec := "fnExactPathWithin", apart := false, narrowed := true }
def FnExactPathWithinUptoSaid : Prop := fnExactPathWithinUptoRow.holds Try.pinned (OpenSpec.upto fnExactPathWithinSpec)

/-- 'laws.FnExactMoveOutline', WHERE WHAT IT READS IS OF BULK AT MOST 1048576: true; the input reads as it did. -/
def fnExactMoveOutlineUptoRow : OpenClaim := { program := "ytpjmpbdbfldnaaa", sum := "4437adb2d810f5726f8987a206de65efe4824e45dfd943e51846949b995abc53", func := "loop.example/g00883/laws.FnExactMoveOutline", spec := "fnExactMoveOutline", unfollowed := true, recurses := true, apart := false, narrowed := true }
def FnExactMoveOutlineUptoSaid : Prop := fnExactMoveOutlineUptoRow.holds Try.pinned (OpenSpec.upto fnExactMoveOutlineSpec)

/-- 'laws.FnRounding', WHERE WHAT IT READS IS OF BULK AT MOST 1048576: true; the input reads as it did. -/
def fnRoundingUptoRow : OpenClaim := { program := "ytpjmpbdbfldnaaa", sum := "4437adb2d810f5726f8987a206de65efe4824e45dfd943e51846949b995abc53", func := "loop.example/g00883/laws.FnRounding", spec := "fnRounding", inPlace := ["internal/bytealg.IndexByteString", "internal/bytealg.IndexString"], named := ["internal/bytealg.MaxLen"], apart := false, narrowed := true }
def FnRoundingUptoSaid : Prop := fnRoundingUptoRow.holds Try.pinned (OpenSpec.upto fnRoundingSpec)

/-- 'laws.FnExactScaleOutline', WHERE WHAT IT READS IS OF BULK AT MOST 1048576: true; the input reads as it did. -/
def fnExactScaleOutlineUptoRow : OpenClaim := { program := "ytpjmpbdbfldnaaa", sum := "4437adb2d810f5726f8987a206de65efe4824e45dfd943e51846949b995abc53", func := "loop.example/g00883/laws.FnExactScaleOutline", spec := "fnExactScaleOutline", unfollowed := true, recurses := true, apart := false, narrowed := true }
def FnExactScaleOutlineUptoSaid : Prop := fnExactScaleOutlineUptoRow.holds Try.pinned (OpenSpec.upto fnExactScaleOutlineSpec)

/-- 'laws.FnExactSameGlyph', WHERE WHAT IT READS IS OF BULK AT MOST 1048576: true; the input reads as it did. -/
def fnExactSameGlyphUptoRow : OpenClaim := { program := "ytpjmpbdbfldnaaa", sum := "4437adb2d810f5726f8987a206de65efe4824e45dfd943e51846949b995abc53", func := "loop.example/g00883/laws.FnExactSameGlyph", spec := "fnExactSameGlyph", unfollowed := true, recurses := true, apart := false, narrowed := true }
def FnExactSameGlyphUptoSaid : Prop := fnExactSameGlyphUptoRow.holds Try.pinned (OpenSpec.upto fnExactSameGlyphSpec)

/-- 'laws.FnExactValidGlyph', WHERE WHAT IT READS IS OF BULK AT MOST 1048576: true; the input reads as it did. -/
def fnExactValidGlyphUptoRow : OpenClaim := { program := "ytpjmpbdbfldnaaa", sum := "4437adb2d810f5726f8987a206de65efe4824e45dfd943e51846949b995abc53", func := "loop.example/g00883/laws.FnExactValidGlyph", spec := "fnExactValidGlyph", unfollowed := true, recurses := true, apart := false, narrowed := true }
def FnExactValidGlyphUptoSaid : Prop := fnExactValidGlyphUptoRow.holds Try.pinned (OpenSpec.upto fnExactValidGlyphSpec)

/-- 'laws.FnExactSameGlyphSet', WHERE WHAT IT READS IS OF BULK AT MOST 1048576: true; the input reads as it did. -/
def fnExactSameGlyphSetUptoRow : OpenClaim := { program := "ytpjmpbdbfldnaaa", sum := "4437adb2d810f5726f8987a206de65efe4824e45dfd943e51846949b995abc53", func := "loop.example/g00883/laws.FnExactSameGlyphSet", spec := "fnExactSameGlyphSet", unfollowed := true, recurses := true, apart := false, narrowed := true }
def FnExactSameGlyphSetUptoSaid : Prop := fnExactSameGlyphSetUptoRow.holds Try.pinned (OpenSpec.upto fnExactSameGlyphSetSpec)

/-- 'laws.FnExactValidGlyphSet', WHERE WHAT IT READS IS OF BULK AT MOST 1048576: true; the input reads as it did. -/
def fnExactValidGlyphSetUptoRow : OpenClaim := { program := "ytpjmpbdbfldnaaa", sum := "4437adb2d810f5726f8987a206de65efe4824e45dfd943e51846949b995abc53", func := "loop.example/g00883/laws.FnExactValidGlyphSet", spec := "fnExactValidGlyphSet", unfollowed := true, recurses := true, apart := false, narrowed := true }
def FnExactValidGlyphSetUptoSaid : Prop := fnExactValidGlyphSetUptoRow.holds Try.pinned (OpenSpec.upto fnExactValidGlyphSetSpec)

/-- 'laws.FnExactGlyphNamed', WHERE WHAT IT READS IS OF BULK AT MOST 1048576: true; the input reads as it did. -/
def fnExactGlyphNamedUptoRow : OpenClaim := { program := "ytpjmpbdbfldnaaa", sum := "4437adb2d810f5726f8987a206de65efe4824e45dfd943e51846949b995abc53", func := "loop.example/g00883/laws.FnExactGlyphNamed", spec := "fnExactGlyphNamed", unfollowed := true, recurses := true, apart := false, narrowed := true }
def FnExactGlyphNamedUptoSaid : Prop := fnExactGlyphNamedUptoRow.holds Try.pinned (OpenSpec.upto fnExactGlyphNamedSpec)

/-- 'laws.FnExactGlyphOfChar', WHERE WHAT IT READS IS OF BULK AT MOST 1048576: true; the input reads as it did. -/
def fnExactGlyphOfCharUptoRow : OpenClaim := { program := "ytpjmpbdbfldnaaa", sum := "4437adb2d810f5726f8987a206de65efe4824e45dfd943e51846949b995abc53", func := "loop.example/g00883/laws.FnExactGlyphOfChar", spec := "fnExactGlyphOfChar", unfollowed := true, recurses := true, apart := false, narrowed := true }
def FnExactGlyphOfCharUptoSaid : Prop := fnExactGlyphOfCharUptoRow.holds Try.pinned (OpenSpec.upto fnExactGlyphOfCharSpec)

/-- 'laws.FnExactGlyphDepth', WHERE WHAT IT READS IS OF BULK AT MOST 1048576: true; the input reads as it did. -/
def fnExactGlyphDepthUptoRow : OpenClaim := { program := "ytpjmpbdbfldnaaa", sum := "4437adb2d810f5726f8987a206de65efe4824e45dfd943e51846949b995abc53", func := "loop.example/g00883/laws.FnExactGlyphDepth", spec := "fnExactGlyphDepth", unfollowed := true, recurses := true, apart := false, narrowed := true }
def FnExactGlyphDepthUptoSaid : Prop := fnExactGlyphDepthUptoRow.holds Try.pinned (OpenSpec.upto fnExactGlyphDepthSpec)

/-- 'laws.FnExactLoopCount', WHERE WHAT IT READS IS OF BULK AT MOST 1048576: true; the input reads as it did. -/
def fnExactLoopCountUptoRow : OpenClaim := { program := "ytpjmpbdbfldnaaa", sum := "4437adb2d810f5726f8987a206de65efe4824e45dfd943e51846949b995abc53", func := "loop.example/g00883/laws.FnExactLoopCount", spec := "fnExactLoopCount", unfollowed := true, recurses := true, apart := false, narrowed := true }
def FnExactLoopCountUptoSaid : Prop := fnExactLoopCountUptoRow.holds Try.pinned (OpenSpec.upto fnExactLoopCountSpec)

/-- 'laws.FnExactAnchorOf', WHERE WHAT IT READS IS OF BULK AT MOST 1048576: true; the input reads as it did. -/
def fnExactAnchorOfUptoRow : OpenClaim := { program := "ytpjmpbdbfldnaaa", sum := "4437adb2d810f5726f8987a206de65efe4824e45dfd943e51846949b995abc53", func := "loop.example/g00883/laws.FnExactAnchorOf", spec := "fnExactAnchorOf", unfollowed := true, recurses := true, apart := false, narrowed := true }
def FnExactAnchorOfUptoSaid : Prop := fnExactAnchorOfUptoRow.holds Try.pinned (OpenSpec.upto fnExactAnchorOfSpec)

/-- 'laws.FnExactGlyphUsers', WHERE WHAT IT READS IS OF BULK AT MOST 1048576: true; the input reads as it did. -/
def fnExactGlyphUsersUptoRow : OpenClaim := { program := "ytpjmpbdbfldnaaa", sum := "4437adb2d810f5726f8987a206de65efe4824e45dfd943e51846949b995abc53", func := "loop.example/g00883/laws.FnExactGlyphUsers", spec := "fnExactGlyphUsers", unfollowed := true, recurses := true, apart := false, narrowed := true }
def FnExactGlyphUsersUptoSaid : Prop := fnExactGlyphUsersUptoRow.holds Try.pinned (OpenSpec.upto fnExactGlyphUsersSpec)

/-- 'laws.FnExactWholeOutline', WHERE WHAT IT READS IS OF BULK AT MOST 1048576: true; the input reads as it did. -/
def fnExactWholeOutlineUptoRow : OpenClaim := { program := "ytpjmpbdbfldnaaa", sum := "4437adb2d810f5726f8987a206de65efe4824e45dfd943e51846949b995abc53", func := "loop.example/g00883/laws.FnExactWholeOutline", spec := "fnExactWholeOutline", unfollowed := true, recurses := true, apart := false, narrowed := true }
def FnExactWholeOutlineUptoSaid : Prop := fnExactWholeOutlineUptoRow.holds Try.pinned (OpenSpec.upto fnExactWholeOutlineSpec)

/-- 'laws.FnExactAddGlyph', WHERE WHAT IT READS IS OF BULK AT MOST 1048576: true; the input reads as it did. -/
def fnExactAddGlyphUptoRow : OpenClaim := { program := "ytpjmpbdbfldnaaa", sum := "4437adb2d810f5726f8987a206de65efe4824e45dfd943e51846949b995abc53", func := "loop.example/g00883/laws.FnExactAddGlyph", spec := "fnExactAddGlyph", unfollowed := true, recurses := true, apart := false, narrowed := true }
def FnExactAddGlyphUptoSaid : Prop := fnExactAddGlyphUptoRow.holds Try.pinned (OpenSpec.upto fnExactAddGlyphSpec)

end Rows
end Go.Proofs.Ytpjmpbdbfldnaaa
