/- An outline and a point that came in, opened. No walk in sight. Conditions: none. -/
import Derived.Deep.RegionWith
import Derived.StillTailTactics
import Derived.RegionTactic
import Derived.ChangeAlike
import Derived.Outline
import Derived.Test.YtlifiioflkhkoaaGreatFr10
import Derived.Test.YtlifiioflkhkoaaGreatFr11
import Derived.Test.YtlifiioflkhkoaaGreatFr02
import Derived.Test.YtlifiioflkhkoaaGreatProg
namespace Go.Proofs.YtlifiioflkhkoaaGreat
open Go.RowKit Go.ChangeShapes Go.WideShapes Go.Deep
set_option linter.unusedVariables false
set_option maxRecDepth 100000

end Go.Proofs.YtlifiioflkhkoaaGreat

/- Two outlines compared by the laws' functions. Conditions: as each states. -/
namespace Go.Proofs.YtlifiioflkhkoaaGreat
open Go.RowKit
set_option linter.unusedVariables false
set_option maxRecDepth 100000

end Go.Proofs.YtlifiioflkhkoaaGreat

/- The laws' own functions on slices of Part. Conditions: as each states. -/
namespace Go.Proofs.YtlifiioflkhkoaaGreat
open Go.RowKit
set_option linter.unusedVariables false
set_option maxRecDepth 100000

end Go.Proofs.YtlifiioflkhkoaaGreat

/- The laws' own functions on slices of Anchor. Conditions: as each states. -/
namespace Go.Proofs.YtlifiioflkhkoaaGreat
open Go.RowKit
set_option linter.unusedVariables false
set_option maxRecDepth 100000

end Go.Proofs.YtlifiioflkhkoaaGreat

/- Glyphs and sets of glyphs: the data, how they lie in memory, opened out of an argument, counted by the laws' functions. Conditions: as each states. -/
namespace Go.Proofs.YtlifiioflkhkoaaGreat
open Go.RowKit Go.ChangeShapes Go.WideShapes Go.Deep
set_option linter.unusedVariables false
set_option maxRecDepth 100000

abbrev Part := Int × Int × Int
abbrev Anch := ByteArray × Int × Int
structure Gl where
  name : ByteArray
  code : Int
  adv : Int
  out : List (List Knot)
  parts : List Part
  anchors : List Anch
  hints : ByteArray
  deriving DecidableEq
structure GlH where
  out : Hd
  parts : Hd
  anchors : Hd
def glC (d : Gl) (h : GlH) : List Value := [.string d.name, .int .i64 d.code, .int .i64 d.adv, .slice h.out.A h.out.n h.out.c, .slice h.parts.A h.parts.n h.parts.c, .slice h.anchors.A h.anchors.n h.anchors.c, .string d.hints]
def GlRd (w : World) (lo hi : Nat) (d : Gl) (h : GlH) : Prop := OutRd w lo hi h.out.A h.out.n d.out ∧ RdS 3 (FlatR partC) w lo hi h.parts.A h.parts.n d.parts ∧ RdS 3 (FlatR anchC) w lo hi h.anchors.A h.anchors.n d.anchors
theorem GlRd.frame {w w' : World} {lo hi : Nat} {d : Gl} {h : GlH} (r : GlRd w lo hi d h) (s : SameB lo hi w w') : GlRd w' lo hi d h := ⟨r.1.frame good_loop s, r.2.1.frame (good_flat _) s, r.2.2.frame (good_flat _) s⟩
theorem GlRd.wide {w : World} {lo hi lo' hi' : Nat} {d : Gl} {h : GlH} (r : GlRd w lo hi d h) (h1 : lo' ≤ lo) (h2 : hi ≤ hi') : GlRd w lo' hi' d h := ⟨r.1.wide good_loop h1 h2, r.2.1.wide (good_flat _) h1 h2, r.2.2.wide (good_flat _) h1 h2⟩
/-- a glyph's seven cells -/
def glyphR : Rel Gl := fun w lo hi d cs => ∃ h, cs = glC d h ∧ GlRd w lo hi d h
/-- no more than b of anything -/
structure Gl.small (d : Gl) (b : Nat) : Prop where
  o : d.out.length ≤ b
  k : ∀ K ∈ d.out, K.length ≤ b
  p : d.parts.length ≤ b
  a : d.anchors.length ≤ b
theorem Gl.small.mono {d : Gl} {a b : Nat} (h : d.small a) (hab : a ≤ b) : d.small b := ⟨Nat.le_trans h.o hab, fun K hK => Nat.le_trans (h.k K hK) hab, Nat.le_trans h.p hab, Nat.le_trans h.a hab⟩
theorem Gl.small.out {d : Gl} {b n : Nat} (h : d.small b) (e : d.out.length = n) : n ≤ b ∧ ∀ K ∈ d.out, K.length ≤ b := ⟨e ▸ h.o, h.k⟩
theorem Gl.small.parts {d : Gl} {b n : Nat} (h : d.small b) (e : d.parts.length = n) : n ≤ b := e ▸ h.p
theorem Gl.small.anchors {d : Gl} {b n : Nat} (h : d.small b) (e : d.anchors.length = n) : n ≤ b := e ▸ h.a
abbrev GsRd (w : World) (lo hi : Nat) (A : Option Addr) (n : Nat) (L : List Gl) : Prop := RdS 7 glyphR w lo hi A n L

/-- a glyph's seven cells, its anchors' capacity known -/
def glyphRc : Rel Gl := fun w lo hi d cs => ∃ h, cs = glC d h ∧ GlRd w lo hi d h ∧ h.anchors.n ≤ h.anchors.c
abbrev GsRc (w : World) (lo hi : Nat) (A : Option Addr) (n : Nat) (L : List Gl) : Prop := RdS 7 glyphRc w lo hi A n L
theorem RdS.imp {α : Type} {k : Nat} {R R' : Rel α} {w : World} {lo hi : Nat} {A : Option Addr} {n : Nat} {L : List α} (h : RdS k R w lo hi A n L) (f : ∀ a cs, R w lo hi a cs → R' w lo hi a cs) : RdS k R' w lo hi A n L := by
  obtain ⟨hl, h⟩ := h
  refine ⟨hl, fun hn => ?_⟩
  obtain ⟨b, off, h1, h2, h3, h4⟩ := h hn
  exact ⟨b, off, h1, h2, h3, fun j a hj => by obtain ⟨es, e1, e2, e3⟩ := h4 j a hj; exact ⟨es, e1, e2, f a es e3⟩⟩
theorem GsRc.rd {w : World} {lo hi : Nat} {A : Option Addr} {n : Nat} {L : List Gl} (h : GsRc w lo hi A n L) : GsRd w lo hi A n L := h.imp fun a cs ⟨hh, h1, h2, h3⟩ => ⟨hh, h1, h2⟩

/-- a reading with a fact on each datum -/
def AndR {α : Type} (R : Rel α) (p : α → Prop) : Rel α := fun w lo hi a cs => R w lo hi a cs ∧ p a
theorem good_and {α : Type} {R : Rel α} (g : Good R) (p : α → Prop) : Good (AndR R p) := ⟨fun h s => ⟨g.frame h.1 s, h.2⟩, fun h h1 h2 => ⟨g.wide h.1 h1 h2, h.2⟩⟩
theorem RdS.parted {α : Type} {k : Nat} {R : Rel α} {p : α → Prop} {w : World} {lo hi : Nat} {A : Option Addr} {n : Nat} {L : List α} (h : RdS k (AndR R p) w lo hi A n L) : RdS k R w lo hi A n L ∧ ∀ a ∈ L, p a := by
  obtain ⟨hl, h⟩ := h
  refine ⟨⟨hl, fun hn => ?_⟩, fun a ha => ?_⟩
  · obtain ⟨b, off, h1, h2, h3, h4⟩ := h hn
    exact ⟨b, off, h1, h2, h3, fun j a hj => by obtain ⟨es, e1, e2, e3⟩ := h4 j a hj; exact ⟨es, e1, e2, e3.1⟩⟩
  · obtain ⟨j, hj⟩ := List.getElem?_of_mem ha
    have hjl := (List.getElem?_eq_some_iff.1 hj).1
    obtain ⟨b, off, h1, h2, h3, h4⟩ := h (by omega)
    obtain ⟨es, e1, e2, e3⟩ := h4 j a hj
    exact e3.2

/-- a set of glyphs -/
structure GSet where
  unit : Int
  gl : List Gl
  deriving DecidableEq
structure GSet.small (d : GSet) (b : Nat) : Prop where
  l : d.gl.length ≤ b
  g : ∀ g ∈ d.gl, g.small b
theorem GSet.small.mono {d : GSet} {a b : Nat} (h : d.small a) (hab : a ≤ b) : d.small b := ⟨Nat.le_trans h.l hab, fun g hg => (h.g g hg).mono hab⟩
theorem GSet.small.gl {d : GSet} {b n : Nat} (h : d.small b) (e : d.gl.length = n) : n ≤ b ∧ ∀ g ∈ d.gl, g.small b := ⟨e ▸ h.l, h.g⟩
/-! ### to and eq of the parts, over readings -/
/-! ### sz -/
end Go.Proofs.YtlifiioflkhkoaaGreat

