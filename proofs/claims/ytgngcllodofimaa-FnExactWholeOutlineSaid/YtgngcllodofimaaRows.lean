/-
  No cell of these rows narrows 'for every input' (looked for: loops, veiled, ifaces, maps, wideKeys, modest, calm, conditions, laid).
  DERIVED. THE GIVEN ROWS OF THIS SEAT. 7 by the template 'for every input the law returns true; each argument reads behind the call as it read before'; 0 by the template 'total and deterministic' (their statements: YtgngcllodofimaaTotals.lean).
  GIVEN WITH THE SEED: the statements are not yours to turn. If you find one false, say at which input.
  Laid BY PROGRAM, IN A SANDBOX (cutbox-rows.mjs): the forced cells as the released guide's own fill.sh prints them over the translation be3f6d3b0384d745… (all of the seat's roots in one cut). By AI agents, Wed Nov 11 2026. No macro, syntax, notation, axiom, sorry.
-/
import Derived.Test.YtgngcllodofimaaChecked
import GoSem.Claim
import GoSem.ClaimJoined
import GoSem.ClaimMapViews
import Derived.JoinedTies
import Derived.KernelRfl
namespace Go.Proofs.Ytgngcllodofimaa
/- THE CELL 'sum', in the pinned program and in every row, IS THE sha256 OF THE DUMP (.gsa) THAT YtgngcllodofimaaProg.lean LOADS. Nothing in Lean hashes anything: it is a label: what it is worth is what the hold of that sum in a sandbox is worth. -/
noncomputable def Try.pinned : Pinned := { name := "ytgngcllodofimaa", sum := "be3f6d3b0384d745672eab2dadc9fe03263ed7b170d592f37decb7ad5fad0e93", checked := Try.checked }
namespace Rows
def none {H : Type} : Left H := { results := [], args := [] }

/-- 'laws.FnRounding': WHATEVER THE INPUT: true; the input reads as it did. -/
def fnRoundingSpec : ChangeSpec := { name := "fnRounding", fn := fun _ => fun
  | [d1, d2] => { results := [.lit (.bool true)], args := [d1, d2] }
  | _ => none }
def fnRoundingRow : OpenClaim := { program := "ytgngcllodofimaa", sum := "be3f6d3b0384d745672eab2dadc9fe03263ed7b170d592f37decb7ad5fad0e93", func := "loop.example/g00883/laws.FnRounding", spec := "fnRounding", inPlace := ["internal/bytealg.IndexByteString", "internal/bytealg.IndexString"], named := ["internal/bytealg.MaxLen"], apart := false }
def FnRoundingSaid : Prop := fnRoundingRow.holds Try.pinned (OpenSpec.ofChange fnRoundingSpec)

/-- ITS FALSE NEIGHBOUR: 'it returns false'. Refute it at one input. -/
def fnRoundingWrong : ChangeSpec := { name := "fnRounding", fn := fun _ => fun
  | [d1, d2] => { results := [.lit (.bool false)], args := [d1, d2] }
  | _ => none }
def FnRoundingWrongFalsely : Prop := fnRoundingRow.holds Try.pinned (OpenSpec.ofChange fnRoundingWrong)

/-- 'laws.FnAnchors': WHATEVER THE INPUT: true; the input reads as it did. -/
def fnAnchorsSpec : ChangeSpec := { name := "fnAnchors", fn := fun _ => fun
  | [d] => { results := [.lit (.bool true)], args := [d] }
  | _ => none }
def fnAnchorsRow : OpenClaim := { program := "ytgngcllodofimaa", sum := "be3f6d3b0384d745672eab2dadc9fe03263ed7b170d592f37decb7ad5fad0e93", func := "loop.example/g00883/laws.FnAnchors", spec := "fnAnchors", unfollowed := true, recurses := true, apart := false }
def FnAnchorsSaid : Prop := fnAnchorsRow.holds Try.pinned (OpenSpec.ofChange fnAnchorsSpec)

/-- ITS FALSE NEIGHBOUR: 'it returns false'. Refute it at one input. -/
def fnAnchorsWrong : ChangeSpec := { name := "fnAnchors", fn := fun _ => fun
  | [d] => { results := [.lit (.bool false)], args := [d] }
  | _ => none }
def FnAnchorsWrongFalsely : Prop := fnAnchorsRow.holds Try.pinned (OpenSpec.ofChange fnAnchorsWrong)

/-- 'laws.FnExactStartHinter': WHATEVER THE INPUT: true; the input reads as it did. -/
def fnExactStartHinterSpec : ChangeSpec := { name := "fnExactStartHinter", fn := fun _ => fun
  | [d1, d2, d3, d4, d5] => { results := [.lit (.bool true)], args := [d1, d2, d3, d4, d5] }
  | _ => none }
def fnExactStartHinterRow : OpenClaim := { program := "ytgngcllodofimaa", sum := "be3f6d3b0384d745672eab2dadc9fe03263ed7b170d592f37decb7ad5fad0e93", func := "loop.example/g00883/laws.FnExactStartHinter", spec := "fnExactStartHinter", unfollowed := true, recurses := true, apart := false }
def FnExactStartHinterSaid : Prop := fnExactStartHinterRow.holds Try.pinned (OpenSpec.ofChange fnExactStartHinterSpec)

/-- ITS FALSE NEIGHBOUR: 'it returns false'. Refute it at one input. -/
def fnExactStartHinterWrong : ChangeSpec := { name := "fnExactStartHinter", fn := fun _ => fun
  | [d1, d2, d3, d4, d5] => { results := [.lit (.bool false)], args := [d1, d2, d3, d4, d5] }
  | _ => none }
def FnExactStartHinterWrongFalsely : Prop := fnExactStartHinterRow.holds Try.pinned (OpenSpec.ofChange fnExactStartHinterWrong)

/-- 'laws.FnExactHintedOutline': WHATEVER THE INPUT: true; the input reads as it did. -/
def fnExactHintedOutlineSpec : ChangeSpec := { name := "fnExactHintedOutline", fn := fun _ => fun
  | [d1, d2] => { results := [.lit (.bool true)], args := [d1, d2] }
  | _ => none }
def fnExactHintedOutlineRow : OpenClaim := { program := "ytgngcllodofimaa", sum := "be3f6d3b0384d745672eab2dadc9fe03263ed7b170d592f37decb7ad5fad0e93", func := "loop.example/g00883/laws.FnExactHintedOutline", spec := "fnExactHintedOutline", unfollowed := true, recurses := true, apart := false }
def FnExactHintedOutlineSaid : Prop := fnExactHintedOutlineRow.holds Try.pinned (OpenSpec.ofChange fnExactHintedOutlineSpec)

/-- ITS FALSE NEIGHBOUR: 'it returns false'. Refute it at one input. -/
def fnExactHintedOutlineWrong : ChangeSpec := { name := "fnExactHintedOutline", fn := fun _ => fun
  | [d1, d2] => { results := [.lit (.bool false)], args := [d1, d2] }
  | _ => none }
def FnExactHintedOutlineWrongFalsely : Prop := fnExactHintedOutlineRow.holds Try.pinned (OpenSpec.ofChange fnExactHintedOutlineWrong)

/-- 'laws.FnExactGlyphUsers': WHATEVER THE INPUT: true; the input reads as it did. -/
def fnExactGlyphUsersSpec : ChangeSpec := { name := "fnExactGlyphUsers", fn := fun _ => fun
  | [d1, d2] => { results := [.lit (.bool true)], args := [d1, d2] }
  | _ => none }
def fnExactGlyphUsersRow : OpenClaim := { program := "ytgngcllodofimaa", sum := "be3f6d3b0384d745672eab2dadc9fe03263ed7b170d592f37decb7ad5fad0e93", func := "loop.example/g00883/laws.FnExactGlyphUsers", spec := "fnExactGlyphUsers", unfollowed := true, recurses := true, apart := false }
def FnExactGlyphUsersSaid : Prop := fnExactGlyphUsersRow.holds Try.pinned (OpenSpec.ofChange fnExactGlyphUsersSpec)

/-- ITS FALSE NEIGHBOUR: 'it returns false'. Refute it at one input. -/
def fnExactGlyphUsersWrong : ChangeSpec := { name := "fnExactGlyphUsers", fn := fun _ => fun
  | [d1, d2] => { results := [.lit (.bool false)], args := [d1, d2] }
  | _ => none }
def FnExactGlyphUsersWrongFalsely : Prop := fnExactGlyphUsersRow.holds Try.pinned (OpenSpec.ofChange fnExactGlyphUsersWrong)

/-- 'laws.FnExactWholeOutline': WHATEVER THE INPUT: true; the input reads as it did. -/
def fnExactWholeOutlineSpec : ChangeSpec := { name := "fnExactWholeOutline", fn := fun _ => fun
  | [d1, d2] => { results := [.lit (.bool true)], args := [d1, d2] }
  | _ => none }
def fnExactWholeOutlineRow : OpenClaim := { program := "ytgngcllodofimaa", sum := "be3f6d3b0384d745672eab2dadc9fe03263ed7b170d592f37decb7ad5fad0e93", func := "loop.example/g00883/laws.FnExactWholeOutline", spec := "fnExactWholeOutline", unfollowed := true, recurses := true, apart := false }
def FnExactWholeOutlineSaid : Prop := fnExactWholeOutlineRow.holds Try.pinned (OpenSpec.ofChange fnExactWholeOutlineSpec)

/-- ITS FALSE NEIGHBOUR: 'it returns false'. Refute it at one input. -/
def fnExactWholeOutlineWrong : ChangeSpec := { name := "fnExactWholeOutline", fn := fun _ => fun
  | [d1, d2] => { results := [.lit (.bool false)], args := [d1, d2] }
  | _ => none }
def FnExactWholeOutlineWrongFalsely : Prop := fnExactWholeOutlineRow.holds Try.pinned (OpenSpec.ofChange fnExactWholeOutlineWrong)

/-- 'laws.FnExactAddGlyph': WHATEVER THE INPUT: true; the input reads as it did. -/
def fnExactAddGlyphSpec : ChangeSpec := { name := "fnExactAddGlyph", fn := fun _ => fun
  | [d1, d2] => { results := [.lit (.bool true)], args := [d1, d2] }
  | _ => none }
def fnExactAddGlyphRow : OpenClaim := { program := "ytgngcllodofimaa", sum := "be3f6d3b0384d745672eab2dadc9fe03263ed7b170d592f37decb7ad5fad0e93", func := "loop.example/g00883/laws.FnExactAddGlyph", spec := "fnExactAddGlyph", unfollowed := true, recurses := true, apart := false }
def FnExactAddGlyphSaid : Prop := fnExactAddGlyphRow.holds Try.pinned (OpenSpec.ofChange fnExactAddGlyphSpec)

/-- ITS FALSE NEIGHBOUR: 'it returns false'. Refute it at one input. -/
def fnExactAddGlyphWrong : ChangeSpec := { name := "fnExactAddGlyph", fn := fun _ => fun
  | [d1, d2] => { results := [.lit (.bool false)], args := [d1, d2] }
  | _ => none }
def FnExactAddGlyphWrongFalsely : Prop := fnExactAddGlyphRow.holds Try.pinned (OpenSpec.ofChange fnExactAddGlyphWrong)

/- THE SECOND FORM. 'bulk': how many values and letters a reading holds, each counted each time it is reached (what is shared counts as often as it is met; a slice's spare places count too). A statement '..UptoSaid' is the law's where the arguments, and the package variables that the reading takes, are together of bulk at most 1048576: NARROWER than '..Said'. Prove '..Said' where nothing that the law and all that it calls make is longer than what came in: it says more and counts as full. Else prove '..UptoSaid'. A law counts once. -/
mutual
def uptoBulk {H : Type} : DataW H → Nat
  | .lit (.string bytes) => bytes.length + 1
  | .lit _ => 1
  | .nil => 1
  | .ptr d => uptoBulk d + 1
  | .slice elems spare => uptoBulkAll elems + uptoBulkAll spare + 1
  | .agg parts => uptoBulkAll parts + 1
  | .iface _ d => uptoBulk d + 1
  | .map entries => uptoBulkEntries entries + 1
  | .held _ => 1
def uptoBulkAll {H : Type} : List (DataW H) → Nat
  | [] => 0
  | d :: r => uptoBulk d + uptoBulkAll r
def uptoBulkEntries {H : Type} : List (Lit × DataW H) → Nat
  | [] => 0
  | x :: r => uptoBulkEntry x + uptoBulkEntries r
def uptoBulkEntry {H : Type} : Lit × DataW H → Nat
  | (.string bytes, d) => bytes.length + uptoBulk d + 1
  | (_, d) => uptoBulk d + 1
 end
def uptoSmall : (H : Type) → List (DataW H) → Bool := fun _ ds => decide (uptoBulkAll ds ≤ 1048576)
def OpenSpec.upto (s : _root_.Go.ChangeSpec) : _root_.Go.OpenSpec := { _root_.Go.OpenSpec.ofChange s with cond := some uptoSmall }

/-- 'laws.FnRounding', WHERE WHAT IT READS IS OF BULK AT MOST 1048576: true; the input reads as it did. -/
def fnRoundingUptoRow : OpenClaim := { program := "ytgngcllodofimaa", sum := "be3f6d3b0384d745672eab2dadc9fe03263ed7b170d592f37decb7ad5fad0e93", func := "loop.example/g00883/laws.FnRounding", spec := "fnRounding", inPlace := ["internal/bytealg.IndexByteString", "internal/bytealg.IndexString"], named := ["internal/bytealg.MaxLen"], apart := false, narrowed := true }
def FnRoundingUptoSaid : Prop := fnRoundingUptoRow.holds Try.pinned (OpenSpec.upto fnRoundingSpec)

/-- 'laws.FnAnchors', WHERE WHAT IT READS IS OF BULK AT MOST 1048576: true; the input reads as it did. -/
def fnAnchorsUptoRow : OpenClaim := { program := "ytgngcllodofimaa", sum := "be3f6d3b0384d745672eab2dadc9fe03263ed7b170d592f37decb7ad5fad0e93", func := "loop.example/g00883/laws.FnAnchors", spec := "fnAnchors", unfollowed := true, recurses := true, apart := false, narrowed := true }
def FnAnchorsUptoSaid : Prop := fnAnchorsUptoRow.holds Try.pinned (OpenSpec.upto fnAnchorsSpec)

/-- 'laws.FnExactStartHinter', WHERE WHAT IT READS IS OF BULK AT MOST 1048576: true; the input reads as it did. -/
def fnExactStartHinterUptoRow : OpenClaim := { program := "ytgngcllodofimaa", sum := "be3f6d3b0384d745672eab2dadc9fe03263ed7b170d592f37decb7ad5fad0e93", func := "loop.example/g00883/laws.FnExactStartHinter", spec := "fnExactStartHinter", unfollowed := true, recurses := true, apart := false, narrowed := true }
def FnExactStartHinterUptoSaid : Prop := fnExactStartHinterUptoRow.holds Try.pinned (OpenSpec.upto fnExactStartHinterSpec)

/-- 'laws.FnExactHintedOutline', WHERE WHAT IT READS IS OF BULK AT MOST 1048576: true; the input reads as it did. -/
def fnExactHintedOutlineUptoRow : OpenClaim := { program := "ytgngcllodofimaa", sum := "be3f6d3b0384d745672eab2dadc9fe03263ed7b170d592f37decb7ad5fad0e93", func := "loop.example/g00883/laws.FnExactHintedOutline", spec := "fnExactHintedOutline", unfollowed := true, recurses := true, apart := false, narrowed := true }
def FnExactHintedOutlineUptoSaid : Prop := fnExactHintedOutlineUptoRow.holds Try.pinned (OpenSpec.upto fnExactHintedOutlineSpec)

/-- 'laws.FnExactGlyphUsers', WHERE WHAT IT READS IS OF BULK AT MOST 1048576: true; the input reads as it did. -/
def fnExactGlyphUsersUptoRow : OpenClaim := { program := "ytgngcllodofimaa", sum := "be3f6d3b0384d745672eab2dadc9fe03263ed7b170d592f37decb7ad5fad0e93", func := "loop.example/g00883/laws.FnExactGlyphUsers", spec := "fnExactGlyphUsers", unfollowed := true, recurses := true, apart := false, narrowed := true }
def FnExactGlyphUsersUptoSaid : Prop := fnExactGlyphUsersUptoRow.holds Try.pinned (OpenSpec.upto fnExactGlyphUsersSpec)

/-- 'laws.FnExactWholeOutline', WHERE WHAT IT READS IS OF BULK AT MOST 1048576: true; the input reads as it did. -/
def fnExactWholeOutlineUptoRow : OpenClaim := { program := "ytgngcllodofimaa", sum := "be3f6d3b0384d745672eab2dadc9fe03263ed7b170d592f37decb7ad5fad0e93", func := "loop.example/g00883/laws.FnExactWholeOutline", spec := "fnExactWholeOutline", unfollowed := true, recurses := true, apart := false, narrowed := true }
def FnExactWholeOutlineUptoSaid : Prop := fnExactWholeOutlineUptoRow.holds Try.pinned (OpenSpec.upto fnExactWholeOutlineSpec)

/-- 'laws.FnExactAddGlyph', WHERE WHAT IT READS IS OF BULK AT MOST 1048576: true; the input reads as it did. -/
def fnExactAddGlyphUptoRow : OpenClaim := { program := "ytgngcllodofimaa", sum := "be3f6d3b0384d745672eab2dadc9fe03263ed7b170d592f37decb7ad5fad0e93", func := "loop.example/g00883/laws.FnExactAddGlyph", spec := "fnExactAddGlyph", unfollowed := true, recurses := true, apart := false, narrowed := true }
def FnExactAddGlyphUptoSaid : Prop := fnExactAddGlyphUptoRow.holds Try.pinned (OpenSpec.upto fnExactAddGlyphSpec)

end Rows
end Go.Proofs.Ytgngcllodofimaa
