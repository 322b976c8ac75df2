/-
  No cell of these rows narrows 'for every input' (looked for: loops, veiled, ifaces, maps, wideKeys, modest, calm, conditions, laid).
  DERIVED. THE GIVEN ROWS OF THIS SEAT. 4 by the template 'for every input the law returns true; each argument reads behind the call as it read before'; 0 by the template 'total and deterministic' (their statements: YtgnjohkfgllhmaaTotals.lean).
  GIVEN WITH THE SEED: the statements are not yours to turn. If you find one false, say at which input.
  Laid BY PROGRAM, IN A SANDBOX (cutbox-rows.mjs): the forced cells as the released guide's own fill.sh prints them over the translation 6a043a8a0b2ab8c6… (all of the seat's roots in one cut). By AI agents, Wed Nov 11 2026. No macro, syntax, notation, axiom, sorry.
-/
import Derived.Test.YtgnjohkfgllhmaaChecked
import GoSem.Claim
import GoSem.ClaimJoined
import GoSem.ClaimMapViews
import Derived.JoinedTies
import Derived.KernelRfl
namespace Go.Proofs.Ytgnjohkfgllhmaa
/- THE CELL 'sum', in the pinned program and in every row, IS THE sha256 OF THE DUMP (.gsa) THAT YtgnjohkfgllhmaaProg.lean LOADS. Nothing in Lean hashes anything: it is a label: what it is worth is what the hold of that sum in a sandbox is worth. -/
noncomputable def Try.pinned : Pinned := { name := "ytgnjohkfgllhmaa", sum := "6a043a8a0b2ab8c6bf2acf9b6b517f2c32ec1fd838f0078215487633fb811347", checked := Try.checked }
namespace Rows
def none {H : Type} : Left H := { results := [], args := [] }

/-- 'laws.FnAnchors': WHATEVER THE INPUT: true; the input reads as it did. -/
def fnAnchorsSpec : ChangeSpec := { name := "fnAnchors", fn := fun _ => fun
  | [d] => { results := [.lit (.bool true)], args := [d] }
  | _ => none }
def fnAnchorsRow : OpenClaim := { program := "ytgnjohkfgllhmaa", sum := "6a043a8a0b2ab8c6bf2acf9b6b517f2c32ec1fd838f0078215487633fb811347", func := "loop.example/g00883/laws.FnAnchors", spec := "fnAnchors", unfollowed := true, recurses := true, apart := false }
def FnAnchorsSaid : Prop := fnAnchorsRow.holds Try.pinned (OpenSpec.ofChange fnAnchorsSpec)

/-- ITS FALSE NEIGHBOUR: 'it returns false'. Refute it at one input. -/
def fnAnchorsWrong : ChangeSpec := { name := "fnAnchors", fn := fun _ => fun
  | [d] => { results := [.lit (.bool false)], args := [d] }
  | _ => none }
def FnAnchorsWrongFalsely : Prop := fnAnchorsRow.holds Try.pinned (OpenSpec.ofChange fnAnchorsWrong)

/-- 'laws.FnExactGlyphText': WHATEVER THE INPUT: true; the input reads as it did. -/
def fnExactGlyphTextSpec : ChangeSpec := { name := "fnExactGlyphText", fn := fun _ => fun
  | [d] => { results := [.lit (.bool true)], args := [d] }
  | _ => none }
def fnExactGlyphTextRow : OpenClaim := { program := "ytgnjohkfgllhmaa", sum := "6a043a8a0b2ab8c6bf2acf9b6b517f2c32ec1fd838f0078215487633fb811347", func := "loop.example/g00883/laws.FnExactGlyphText", spec := "fnExactGlyphText", inPlace := ["internal/abi.NoEscape", "internal/bytealg.MakeNoZero"], unfollowed := true, recurses := true, apart := false }
def FnExactGlyphTextSaid : Prop := fnExactGlyphTextRow.holds Try.pinned (OpenSpec.ofChange fnExactGlyphTextSpec)

/-- ITS FALSE NEIGHBOUR: 'it returns false'. Refute it at one input. -/
def fnExactGlyphTextWrong : ChangeSpec := { name := "fnExactGlyphText", fn := fun _ => fun
  | [d] => { results := [.lit (.bool false)], args := [d] }
  | _ => none }
def FnExactGlyphTextWrongFalsely : Prop := fnExactGlyphTextRow.holds Try.pinned (OpenSpec.ofChange fnExactGlyphTextWrong)

/-- 'laws.FnExactSetText': WHATEVER THE INPUT: true; the input reads as it did. -/
def fnExactSetTextSpec : ChangeSpec := { name := "fnExactSetText", fn := fun _ => fun
  | [d] => { results := [.lit (.bool true)], args := [d] }
  | _ => none }
def fnExactSetTextRow : OpenClaim := { program := "ytgnjohkfgllhmaa", sum := "6a043a8a0b2ab8c6bf2acf9b6b517f2c32ec1fd838f0078215487633fb811347", func := "loop.example/g00883/laws.FnExactSetText", spec := "fnExactSetText", inPlace := ["internal/abi.NoEscape", "internal/bytealg.MakeNoZero"], unfollowed := true, recurses := true, apart := false }
def FnExactSetTextSaid : Prop := fnExactSetTextRow.holds Try.pinned (OpenSpec.ofChange fnExactSetTextSpec)

/-- ITS FALSE NEIGHBOUR: 'it returns false'. Refute it at one input. -/
def fnExactSetTextWrong : ChangeSpec := { name := "fnExactSetText", fn := fun _ => fun
  | [d] => { results := [.lit (.bool false)], args := [d] }
  | _ => none }
def FnExactSetTextWrongFalsely : Prop := fnExactSetTextRow.holds Try.pinned (OpenSpec.ofChange fnExactSetTextWrong)

/-- 'laws.FnExactAddGlyph': WHATEVER THE INPUT: true; the input reads as it did. -/
def fnExactAddGlyphSpec : ChangeSpec := { name := "fnExactAddGlyph", fn := fun _ => fun
  | [d1, d2] => { results := [.lit (.bool true)], args := [d1, d2] }
  | _ => none }
def fnExactAddGlyphRow : OpenClaim := { program := "ytgnjohkfgllhmaa", sum := "6a043a8a0b2ab8c6bf2acf9b6b517f2c32ec1fd838f0078215487633fb811347", func := "loop.example/g00883/laws.FnExactAddGlyph", spec := "fnExactAddGlyph", unfollowed := true, recurses := true, apart := false }
def FnExactAddGlyphSaid : Prop := fnExactAddGlyphRow.holds Try.pinned (OpenSpec.ofChange fnExactAddGlyphSpec)

/-- ITS FALSE NEIGHBOUR: 'it returns false'. Refute it at one input. -/
def fnExactAddGlyphWrong : ChangeSpec := { name := "fnExactAddGlyph", fn := fun _ => fun
  | [d1, d2] => { results := [.lit (.bool false)], args := [d1, d2] }
  | _ => none }
def FnExactAddGlyphWrongFalsely : Prop := fnExactAddGlyphRow.holds Try.pinned (OpenSpec.ofChange fnExactAddGlyphWrong)

/- THE SECOND FORM. 'bulk': how many values and letters a reading holds, each counted each time it is reached (what is shared counts as often as it is met; a slice's spare places count too). A statement '..UptoSaid' is the law's where the arguments, and the package variables that the reading takes, are together of bulk at most 1048576: NARROWER than '..Said'. Prove '..Said' where nothing that the law and all that it calls make is longer than what came in: it says more and counts as full. Else prove '..UptoSaid'. A law counts once. -/
mutual
def uptoBulk {H : Type} : DataW H → Nat
  | .lit (.string bytes) => bytes.length + 1
  | .lit _ => 1
  | .nil => 1
  | .ptr d => uptoBulk d + 1
  | .slice elems spare => uptoBulkAll elems + uptoBulkAll spare + 1
  | .agg parts => uptoBulkAll parts + 1
  | .iface _ d => uptoBulk d + 1
  | .map entries => uptoBulkEntries entries + 1
  | .held _ => 1
def uptoBulkAll {H : Type} : List (DataW H) → Nat
  | [] => 0
  | d :: r => uptoBulk d + uptoBulkAll r
def uptoBulkEntries {H : Type} : List (Lit × DataW H) → Nat
  | [] => 0
  | x :: r => uptoBulkEntry x + uptoBulkEntries r
def uptoBulkEntry {H : Type} : Lit × DataW H → Nat
  | (.string bytes, d) => bytes.length + uptoBulk d + 1
  | (_, d) => uptoBulk d + 1
 end
def uptoSmall : (H : Type) → List (DataW H) → Bool := fun _ ds => decide (uptoBulkAll ds ≤ 1048576)
def OpenSpec.upto (s : _root_.Go.ChangeSpec) : _root_.Go.OpenSpec := { _root_.Go.OpenSpec.ofChange s with cond := some uptoSmall }

/-- 'laws.FnAnchors', WHERE WHAT IT READS IS OF BULK AT MOST 1048576: true; the input reads as it did. -/
def fnAnchorsUptoRow : OpenClaim := { program := "ytgnjohkfgllhmaa", sum := "6a043a8a0b2ab8c6bf2acf9b6b517f2c32ec1fd838f0078215487633fb811347", func := "loop.example/g00883/laws.FnAnchors", spec := "fnAnchors", unfollowed := true, recurses := true, apart := false, narrowed := true }
def FnAnchorsUptoSaid : Prop := fnAnchorsUptoRow.holds Try.pinned (OpenSpec.upto fnAnchorsSpec)

/-- 'laws.FnExactGlyphText', WHERE WHAT IT READS IS OF BULK AT MOST 1048576: true; the input reads as it did. -/
def fnExactGlyphTextUptoRow : OpenClaim := { program := "ytgnjohkfgllhmaa", sum := "6a043a8a0b2ab8c6bf2acf9b6b517f2c32ec1fd838f0078215487633fb811347", func := "loop.example/g00883/laws.FnExactGlyphText", spec := "fnExactGlyphText", inPlace := ["internal/abi.NoEscape", "internal/bytealg.MakeNoZero"], unfollowed := true, recurses := true, apart := false, narrowed := true }
def FnExactGlyphTextUptoSaid : Prop := fnExactGlyphTextUptoRow.holds Try.pinned (OpenSpec.upto fnExactGlyphTextSpec)

/-- 'laws.FnExactSetText', WHERE WHAT IT READS IS OF BULK AT MOST 1048576: true; the input reads as it did. -/
def fnExactSetTextUptoRow : OpenClaim := { program := "ytgnjohkfgllhmaa", sum := "6a043a8a0b2ab8c6bf2acf9b6b517f2c32ec1fd838f0078215487633fb811347", func := "loop.example/g00883/laws.FnExactSetText", spec := "fnExactSetText", inPlace := ["internal/abi.NoEscape", "internal/bytealg.MakeNoZero"], unfollowed := true, recurses := true, apart := false, narrowed := true }
def FnExactSetTextUptoSaid : Prop := fnExactSetTextUptoRow.holds Try.pinned (OpenSpec.upto fnExactSetTextSpec)

/-- 'laws.FnExactAddGlyph', WHERE WHAT IT READS IS OF BULK AT MOST 1048576: true; the input reads as it did. -/
def fnExactAddGlyphUptoRow : OpenClaim := { program := "ytgnjohkfgllhmaa", sum := "6a043a8a0b2ab8c6bf2acf9b6b517f2c32ec1fd838f0078215487633fb811347", func := "loop.example/g00883/laws.FnExactAddGlyph", spec := "fnExactAddGlyph", unfollowed := true, recurses := true, apart := false, narrowed := true }
def FnExactAddGlyphUptoSaid : Prop := fnExactAddGlyphUptoRow.holds Try.pinned (OpenSpec.upto fnExactAddGlyphSpec)

end Rows
end Go.Proofs.Ytgnjohkfgllhmaa
