/- Glyphs and sets of glyphs: the data, how they lie in memory, opened out of an argument, counted by the laws' functions. Conditions: as each states. -/
import Derived.Test.YtgfbcbbcnineiaaGreatSc19
import Derived.Test.YtgfbcbbcnineiaaGreatSc10
import Derived.Test.YtgfbcbbcnineiaaGreatSc20
import Derived.Test.YtgfbcbbcnineiaaGreatSc21
namespace Go.Proofs.YtgfbcbbcnineiaaGreat
open Go.RowKit Go.ChangeShapes Go.WideShapes Go.Deep
set_option linter.unusedVariables false
set_option maxRecDepth 100000

abbrev Part := Int × Int × Int
abbrev Anch := ByteArray × Int × Int
structure Gl where
  name : ByteArray
  code : Int
  adv : Int
  out : List (List Knot)
  parts : List Part
  anchors : List Anch
  hints : ByteArray
  deriving DecidableEq
structure GlH where
  out : Hd
  parts : Hd
  anchors : Hd
def glC (d : Gl) (h : GlH) : List Value := [.string d.name, .int .i64 d.code, .int .i64 d.adv, .slice h.out.A h.out.n h.out.c, .slice h.parts.A h.parts.n h.parts.c, .slice h.anchors.A h.anchors.n h.anchors.c, .string d.hints]
abbrev glV (d : Gl) (h : GlH) : Value := .agg #[.string d.name, .int .i64 d.code, .int .i64 d.adv, .slice h.out.A h.out.n h.out.c, .slice h.parts.A h.parts.n h.parts.c, .slice h.anchors.A h.anchors.n h.anchors.c, .string d.hints]
def GlRd (w : World) (lo hi : Nat) (d : Gl) (h : GlH) : Prop := OutRd w lo hi h.out.A h.out.n d.out ∧ RdS 3 (FlatR partC) w lo hi h.parts.A h.parts.n d.parts ∧ RdS 3 (FlatR anchC) w lo hi h.anchors.A h.anchors.n d.anchors
theorem GlRd.frame {w w' : World} {lo hi : Nat} {d : Gl} {h : GlH} (r : GlRd w lo hi d h) (s : SameB lo hi w w') : GlRd w' lo hi d h := ⟨r.1.frame good_loop s, r.2.1.frame (good_flat _) s, r.2.2.frame (good_flat _) s⟩
theorem GlRd.wide {w : World} {lo hi lo' hi' : Nat} {d : Gl} {h : GlH} (r : GlRd w lo hi d h) (h1 : lo' ≤ lo) (h2 : hi ≤ hi') : GlRd w lo' hi' d h := ⟨r.1.wide good_loop h1 h2, r.2.1.wide (good_flat _) h1 h2, r.2.2.wide (good_flat _) h1 h2⟩
/-- a glyph's seven cells -/
def glyphR : Rel Gl := fun w lo hi d cs => ∃ h, cs = glC d h ∧ GlRd w lo hi d h
theorem good_glyph : Good glyphR := by
  constructor
  · rintro w w' lo hi d cs ⟨h, rfl, r⟩ s
    exact ⟨h, rfl, r.frame s⟩
  · rintro w lo hi lo' hi' d cs ⟨h, rfl, r⟩ h1 h2
    exact ⟨h, rfl, r.wide h1 h2⟩
/-- no more than b of anything -/
structure Gl.small (d : Gl) (b : Nat) : Prop where
  o : d.out.length ≤ b
  k : ∀ K ∈ d.out, K.length ≤ b
  p : d.parts.length ≤ b
  a : d.anchors.length ≤ b
theorem Gl.small.mono {d : Gl} {a b : Nat} (h : d.small a) (hab : a ≤ b) : d.small b := ⟨Nat.le_trans h.o hab, fun K hK => Nat.le_trans (h.k K hK) hab, Nat.le_trans h.p hab, Nat.le_trans h.a hab⟩
theorem Gl.small.out {d : Gl} {b n : Nat} (h : d.small b) (e : d.out.length = n) : n ≤ b ∧ ∀ K ∈ d.out, K.length ≤ b := ⟨e ▸ h.o, h.k⟩
theorem Gl.small.parts {d : Gl} {b n : Nat} (h : d.small b) (e : d.parts.length = n) : n ≤ b := e ▸ h.p
theorem Gl.small.anchors {d : Gl} {b n : Nat} (h : d.small b) (e : d.anchors.length = n) : n ≤ b := e ▸ h.a
/-- its texts can be read -/
def Gl.str (d : Gl) : Prop := d.name.size ≤ maxLen ∧ d.hints.size ≤ maxLen ∧ ∀ a ∈ d.anchors, a.1.size ≤ maxLen
abbrev GsRd (w : World) (lo hi : Nat) (A : Option Addr) (n : Nat) (L : List Gl) : Prop := RdS 7 glyphR w lo hi A n L

/-- a glyph's seven cells, its anchors' capacity known -/
def glyphRc : Rel Gl := fun w lo hi d cs => ∃ h, cs = glC d h ∧ GlRd w lo hi d h ∧ h.anchors.n ≤ h.anchors.c
theorem good_glyphc : Good glyphRc := by
  constructor
  · rintro w w' lo hi d cs ⟨h, rfl, r, c⟩ s
    exact ⟨h, rfl, r.frame s, c⟩
  · rintro w lo hi lo' hi' d cs ⟨h, rfl, r, c⟩ h1 h2
    exact ⟨h, rfl, r.wide h1 h2, c⟩
abbrev GsRc (w : World) (lo hi : Nat) (A : Option Addr) (n : Nat) (L : List Gl) : Prop := RdS 7 glyphRc w lo hi A n L
theorem RdS.imp {α : Type} {k : Nat} {R R' : Rel α} {w : World} {lo hi : Nat} {A : Option Addr} {n : Nat} {L : List α} (h : RdS k R w lo hi A n L) (f : ∀ a cs, R w lo hi a cs → R' w lo hi a cs) : RdS k R' w lo hi A n L := by
  obtain ⟨hl, h⟩ := h
  refine ⟨hl, fun hn => ?_⟩
  obtain ⟨b, off, h1, h2, h3, h4⟩ := h hn
  exact ⟨b, off, h1, h2, h3, fun j a hj => by obtain ⟨es, e1, e2, e3⟩ := h4 j a hj; exact ⟨es, e1, e2, f a es e3⟩⟩
theorem GsRc.rd {w : World} {lo hi : Nat} {A : Option Addr} {n : Nat} {L : List Gl} (h : GsRc w lo hi A n L) : GsRd w lo hi A n L := h.imp fun a cs ⟨hh, h1, h2, h3⟩ => ⟨hh, h1, h2⟩

/-- a reading with a fact on each datum -/
def AndR {α : Type} (R : Rel α) (p : α → Prop) : Rel α := fun w lo hi a cs => R w lo hi a cs ∧ p a
theorem good_and {α : Type} {R : Rel α} (g : Good R) (p : α → Prop) : Good (AndR R p) := ⟨fun h s => ⟨g.frame h.1 s, h.2⟩, fun h h1 h2 => ⟨g.wide h.1 h1 h2, h.2⟩⟩
theorem RdS.parted {α : Type} {k : Nat} {R : Rel α} {p : α → Prop} {w : World} {lo hi : Nat} {A : Option Addr} {n : Nat} {L : List α} (h : RdS k (AndR R p) w lo hi A n L) : RdS k R w lo hi A n L ∧ ∀ a ∈ L, p a := by
  obtain ⟨hl, h⟩ := h
  refine ⟨⟨hl, fun hn => ?_⟩, fun a ha => ?_⟩
  · obtain ⟨b, off, h1, h2, h3, h4⟩ := h hn
    exact ⟨b, off, h1, h2, h3, fun j a hj => by obtain ⟨es, e1, e2, e3⟩ := h4 j a hj; exact ⟨es, e1, e2, e3.1⟩⟩
  · obtain ⟨j, hj⟩ := List.getElem?_of_mem ha
    have hjl := (List.getElem?_eq_some_iff.1 hj).1
    obtain ⟨b, off, h1, h2, h3, h4⟩ := h (by omega)
    obtain ⟨es, e1, e2, e3⟩ := h4 j a hj
    exact e3.2

theorem opens_str {P : Program} {t : TypeId} (ht : P.underlying t = some .string) : Opens P t (AndR (FlatR (α := ByteArray) fun s => [.string s]) fun s => s.size ≤ maxLen) := by
  intro H enc w fuel cs x h
  obtain ⟨n, rfl, _, hs⟩ := DataW.trod_string ht h
  exact ⟨n, rfl, hs⟩
theorem opens_lPart : Opens Tryz.prog 172 (FlatR partC) := by
  intro H enc w fuel cs x h
  obtain ⟨hl, hf⟩ := struct_fields Tryz.underlying172 h
  have hc : Tryz.prog.cellsOf 172 = 3 := by kernel_rfl
  have hp : Tryz.prog.cellsOf 154 = 2 := by kernel_rfl
  have hb : Tryz.prog.cellsOf 2 = 1 := by kernel_rfl
  rw [hc] at hl
  match cs, hl with
  | [c0, c1, c2], _ =>
    obtain ⟨n0, y0, h0⟩ := struct_field hf 0 2 0 1 rfl rfl rfl hb
    obtain ⟨n1, y1, h1⟩ := struct_field hf 1 154 1 2 rfl rfl rfl hp
    obtain ⟨x0, e0⟩ := opens_int Tryz.underlying2 h0
    obtain ⟨x1, e1⟩ := opens_lPt h1
    simp [FlatR, ptC] at e0 e1
    obtain ⟨e2, e3⟩ := e1
    subst e0 e2 e3
    exact ⟨(x0, x1.1, x1.2), rfl⟩
theorem opens_lAnchor : Opens Tryz.prog 156 (AndR (FlatR anchC) fun a => a.1.size ≤ maxLen) := by
  intro H enc w fuel cs x h
  obtain ⟨hl, hf⟩ := struct_fields Tryz.underlying156 h
  have hc : Tryz.prog.cellsOf 156 = 3 := by kernel_rfl
  have hp : Tryz.prog.cellsOf 154 = 2 := by kernel_rfl
  have hb : Tryz.prog.cellsOf 9 = 1 := by kernel_rfl
  rw [hc] at hl
  match cs, hl with
  | [c0, c1, c2], _ =>
    obtain ⟨n0, y0, h0⟩ := struct_field hf 0 9 0 1 rfl rfl rfl hb
    obtain ⟨n1, y1, h1⟩ := struct_field hf 1 154 1 2 rfl rfl rfl hp
    obtain ⟨x0, e0, hs0⟩ := opens_str Tryz.underlying9 h0
    obtain ⟨x1, e1⟩ := opens_lPt h1
    simp [FlatR, ptC] at e0 e1
    obtain ⟨e2, e3⟩ := e1
    subst e0 e2 e3
    exact ⟨(x0, x1.1, x1.2), rfl, hs0⟩
theorem opens_lOutline : Opens Tryz.prog 32 (fun w lo hi Ls cs => ∃ A n c, cs = [.slice A n c] ∧ n ≤ maxLen ∧ OutRd w lo hi A n Ls) := by
  intro H enc w fuel cs x h
  obtain ⟨A, n, c, Ls, h1, h2, h3⟩ := opens_Outline h
  exact ⟨Ls, A, n, c, h1, h2, h3⟩
theorem outRd_small {w : World} {lo hi : Nat} {A : Option Addr} {n : Nat} {Ls : List (List Knot)} (h : OutRd w lo hi A n Ls) : ∀ K ∈ Ls, K.length ≤ maxLen := fun K hK => by
  obtain ⟨j, hj⟩ := List.getElem?_of_mem hK
  have hjl := (List.getElem?_eq_some_iff.1 hj).1
  obtain ⟨b, off, K', A', n', c', _, _, _, hj', _, hm, hr⟩ := out_at h (j := j) (by rw [← h.1]; exact hjl)
  have e := Option.some.inj (hj.symm.trans hj')
  subst e
  rw [hr.1]; exact hm
theorem opens_lGlyph : Opens Tryz.prog 36 (AndR glyphR fun d => d.small maxLen ∧ d.str) := by
  intro H enc w fuel cs x h
  obtain ⟨hl, hf⟩ := struct_fields Tryz.underlying36 h
  have hc : Tryz.prog.cellsOf 36 = 7 := by kernel_rfl
  have hs : Tryz.prog.cellsOf 9 = 1 := by kernel_rfl
  have hi : Tryz.prog.cellsOf 2 = 1 := by kernel_rfl
  have ho : Tryz.prog.cellsOf 32 = 1 := by kernel_rfl
  have hp : Tryz.prog.cellsOf 33 = 1 := by kernel_rfl
  have ha : Tryz.prog.cellsOf 34 = 1 := by kernel_rfl
  have hp3 : Tryz.prog.cellsOf 172 = 3 := by kernel_rfl
  have ha3 : Tryz.prog.cellsOf 156 = 3 := by kernel_rfl
  rw [hc] at hl
  match cs, hl with
  | [c0, c1, c2, c3, c4, c5, c6], _ =>
    obtain ⟨n0, y0, h0⟩ := struct_field hf 0 9 0 1 rfl rfl rfl hs
    obtain ⟨n1, y1, h1⟩ := struct_field hf 1 2 1 1 rfl rfl rfl hi
    obtain ⟨n2, y2, h2⟩ := struct_field hf 2 2 2 1 rfl rfl rfl hi
    obtain ⟨n3, y3, h3⟩ := struct_field hf 3 32 3 1 rfl rfl rfl ho
    obtain ⟨n4, y4, h4⟩ := struct_field hf 4 33 4 1 rfl rfl rfl hp
    obtain ⟨n5, y5, h5⟩ := struct_field hf 5 34 5 1 rfl rfl rfl ha
    obtain ⟨n6, y6, h6⟩ := struct_field hf 6 9 6 1 rfl rfl rfl hs
    obtain ⟨x0, e0, s0⟩ := opens_str Tryz.underlying9 h0
    obtain ⟨x1, e1⟩ := opens_int Tryz.underlying2 h1
    obtain ⟨x2, e2⟩ := opens_int Tryz.underlying2 h2
    obtain ⟨x3, A3, l3, k3, e3, m3, r3⟩ := opens_lOutline h3
    obtain ⟨x4, A4, l4, k4, e4, m4, r4⟩ := opens_slice Tryz.underlying33 hp3 (by omega) opens_lPart (good_flat _) h4
    obtain ⟨x5, A5, l5, k5, e5, m5, r5⟩ := opens_slice Tryz.underlying34 ha3 (by omega) opens_lAnchor (good_and (good_flat _) _) h5
    obtain ⟨x6, e6, s6⟩ := opens_str Tryz.underlying9 h6
    obtain ⟨r5, s5⟩ := r5.parted
    simp [FlatR] at e0 e1 e2 e3 e4 e5 e6
    subst e0 e1 e2 e3 e4 e5 e6
    exact ⟨⟨x0, x1, x2, x3, x4, x5, x6⟩, ⟨⟨⟨A3, l3, k3⟩, ⟨A4, l4, k4⟩, ⟨A5, l5, k5⟩⟩, rfl, r3, r4, r5⟩, ⟨by rw [r3.1]; exact m3, outRd_small r3, by rw [r4.1]; exact m4, by rw [r5.1]; exact m5⟩, s0, s6, s5⟩
/-- a set of glyphs -/
structure GSet where
  unit : Int
  gl : List Gl
  deriving DecidableEq
structure GSetH where
  gl : Hd
abbrev gsV (d : GSet) (h : GSetH) : Value := .agg #[.int .i64 d.unit, .slice h.gl.A h.gl.n h.gl.c]
def gsC (d : GSet) (h : GSetH) : List Value := [.int .i64 d.unit, .slice h.gl.A h.gl.n h.gl.c]
abbrev GSetRd (w : World) (lo hi : Nat) (d : GSet) (h : GSetH) : Prop := GsRd w lo hi h.gl.A h.gl.n d.gl
abbrev GSetRc (w : World) (lo hi : Nat) (d : GSet) (h : GSetH) : Prop := GsRc w lo hi h.gl.A h.gl.n d.gl
structure GSet.small (d : GSet) (b : Nat) : Prop where
  l : d.gl.length ≤ b
  g : ∀ g ∈ d.gl, g.small b
theorem GSet.small.mono {d : GSet} {a b : Nat} (h : d.small a) (hab : a ≤ b) : d.small b := ⟨Nat.le_trans h.l hab, fun g hg => (h.g g hg).mono hab⟩
theorem GSet.small.gl {d : GSet} {b n : Nat} (h : d.small b) (e : d.gl.length = n) : n ≤ b ∧ ∀ g ∈ d.gl, g.small b := ⟨e ▸ h.l, h.g⟩
theorem opens_GlyphSet {H : Type} {enc : TypeId × Value → H} {w : World} {fuel : Nat} {cs : List Value} {x : DataW H × List MemPlace} (h : DataW.trod enc Tryz.prog w 0 (fun _ => true) true fuel 29 cs = some x) :
    ∃ d hh, cs = gsC d hh ∧ GSetRd w 0 w.heap.size d hh ∧ d.small maxLen ∧ ∀ g ∈ d.gl, g.str := by
  obtain ⟨hl, hf⟩ := struct_fields Tryz.underlying29 h
  have hc : Tryz.prog.cellsOf 29 = 2 := by kernel_rfl
  have hi : Tryz.prog.cellsOf 2 = 1 := by kernel_rfl
  have hg : Tryz.prog.cellsOf 27 = 1 := by kernel_rfl
  have hg7 : Tryz.prog.cellsOf 36 = 7 := by kernel_rfl
  rw [hc] at hl
  match cs, hl with
  | [c0, c1], _ =>
    obtain ⟨n0, y0, h0⟩ := struct_field hf 0 2 0 1 rfl rfl rfl hi
    obtain ⟨n1, y1, h1⟩ := struct_field hf 1 27 1 1 rfl rfl rfl hg
    obtain ⟨x0, e0⟩ := opens_int Tryz.underlying2 h0
    obtain ⟨x1, A1, l1, k1, e1, m1, r1⟩ := opens_slice Tryz.underlying27 hg7 (by omega) opens_lGlyph (good_and good_glyph _) h1
    obtain ⟨r1, s1⟩ := r1.parted
    simp [FlatR] at e0 e1
    subst e0 e1
    exact ⟨⟨x0, x1⟩, ⟨⟨A1, l1, k1⟩⟩, rfl, r1, ⟨by rw [r1.1]; exact m1, fun g hg => (s1 g hg).1⟩, fun g hg => (s1 g hg).2⟩
theorem opens_Glyph {H : Type} {enc : TypeId × Value → H} {w : World} {fuel : Nat} {cs : List Value} {x : DataW H × List MemPlace} (h : DataW.trod enc Tryz.prog w 0 (fun _ => true) true fuel 36 cs = some x) :
    ∃ d hh, cs = glC d hh ∧ GlRd w 0 w.heap.size d hh ∧ d.small maxLen ∧ d.str := by
  obtain ⟨d, ⟨hh, h1, h2⟩, h3, h4⟩ := opens_lGlyph h
  exact ⟨d, hh, h1, h2, h3, h4⟩

/-! ### to and eq of the parts, over readings -/
theorem toPartS_rd (A : Option Addr) (n c lo hi : Nat) (L : List Part) (w : World) (hr : RdS 3 (FlatR partC) w lo hi A n L) (hhi : hi ≤ w.heap.size) (hn : n ≤ 1048576) :
    Calls Tryz.prog 57 #[.slice A n c] w fun e w' => ∃ A' c', e = .returned (.slice A' n c') ∧ RdS 3 (FlatR partC) w' w.heap.size w'.heap.size A' n L ∧ Below w.heap.size w w' :=
  (toPartS_any A n c lo hi L w hr hhi hn).mono fun e w' ⟨g, he, _, ho, hb⟩ => ⟨_, _, he, rdS_own partC_len (by omega) ho hr.1, hb⟩
theorem toAnchorS_rdc (A : Option Addr) (n c lo hi : Nat) (L : List Anch) (w : World) (hr : RdS 3 (FlatR anchC) w lo hi A n L) (hhi : hi ≤ w.heap.size) (hn : n ≤ 1048576) :
    Calls Tryz.prog 58 #[.slice A n c] w fun e w' => ∃ A' c', e = .returned (.slice A' n c') ∧ RdS 3 (FlatR anchC) w' w.heap.size w'.heap.size A' n L ∧ Below w.heap.size w w' ∧ n ≤ c' :=
  (toAnchorS_any A n c lo hi L w hr hhi hn).mono fun e w' ⟨g, he, _, ho, hb⟩ => ⟨_, _, he, rdS_own anchC_len (by omega) ho hr.1, hb, Nat.le_refl _⟩
theorem toOutline_rd (A : Option Addr) (n c lo hi : Nat) (L : List (List Knot)) (w : World) (hr : OutRd w lo hi A n L) (hhi : hi ≤ w.heap.size) (hn : n ≤ 1048576 ∧ ∀ K ∈ L, K.length ≤ 1048576) :
    Calls Tryz.prog 56 #[.agg #[.slice A n c]] w fun e w' => ∃ A' c', e = .returned (.agg #[.slice A' n c']) ∧ OutRd w' w.heap.size w'.heap.size A' n L ∧ Below w.heap.size w w' :=
  (toOutline_any A n c lo hi L w hr hhi hn.1 hn.2).mono fun e w' ⟨A', he, ho, hb⟩ => ⟨_, _, he, ho.rd (fun K hK => by have := hn.2 K hK; unfold maxLen; omega), hb⟩
theorem eqOutline_rd (A A' : Option Addr) (n c n' c' lo hi lo' hi' : Nat) (Ls : List (List Knot)) (w : World) (h1 : OutRd w lo hi A n Ls) (h2 : OutRd w lo' hi' A' n' Ls) (hh1 : hi ≤ w.heap.size) (hh2 : hi' ≤ w.heap.size) (hn : n ≤ 100000000 ∧ ∀ K ∈ Ls, K.length ≤ 100000000) :
    Calls Tryz.prog 73 #[.agg #[.slice A n c], .agg #[.slice A' n' c']] w fun e w' => e = .returned (.bool true) ∧ Below w.heap.size w w' := eqOutline_any A A' n c n' c' lo hi lo' hi' Ls w h1 h2 hh1 hh2 hn.1 hn.2
theorem eqPartS_rd (A A' : Option Addr) (n c n' c' lo hi lo' hi' : Nat) (L : List Part) (w : World) (h1 : RdS 3 (FlatR partC) w lo hi A n L) (h2 : RdS 3 (FlatR partC) w lo' hi' A' n' L) (hh1 : hi ≤ w.heap.size) (hh2 : hi' ≤ w.heap.size) (hn : n ≤ 100000000) :
    Calls Tryz.prog 74 #[.slice A n c, .slice A' n' c'] w fun e w' => e = .returned (.bool true) ∧ Below w.heap.size w w' := eqPartS_any A A' n c n' c' lo hi lo' hi' L w h1 h2 hh1 hh2 (by omega)
theorem eqAnchorS_rd (A A' : Option Addr) (n c n' c' lo hi lo' hi' : Nat) (L : List Anch) (w : World) (h1 : RdS 3 (FlatR anchC) w lo hi A n L) (h2 : RdS 3 (FlatR anchC) w lo' hi' A' n' L) (hh1 : hi ≤ w.heap.size) (hh2 : hi' ≤ w.heap.size) (hn : n ≤ 100000000) :
    Calls Tryz.prog 75 #[.slice A n c, .slice A' n' c'] w fun e w' => e = .returned (.bool true) ∧ Below w.heap.size w w' := eqAnchorS_any A A' n c n' c' lo hi lo' hi' L w h1 h2 hh1 hh2 (by omega)

/-! ### sz -/
theorem sum_mem_le {L : List Nat} {x : Nat} (h : x ∈ L) : x ≤ L.sum := by
  induction L with
  | nil => simp at h
  | cons a L ih =>
    rcases List.mem_cons.1 h with rfl | h
    · simp
    · have := ih h; simp; omega
theorem outSize_k {Ls : List (List Knot)} {K : List Knot} (h : K ∈ Ls) : K.length ≤ outSize Ls := by
  have := sum_mem_le (List.mem_map_of_mem (f := List.length) h)
  unfold outSize; omega

theorem szAnchor_any (x0 : ByteArray) (x1 x2 left : Int) (w : World) (hs : x0.size ≤ 9223372036854775807) (h0 : 0 ≤ left) (h1 : left ≤ 1048576) :
    Calls Tryz.prog 80 #[.agg #[.string x0, .int .i64 x1, .int .i64 x2], .int .i64 left] w fun e w' => ∃ r : Int, e = .returned (.int .i64 r) ∧ (r < 0 ∨ 0 ≤ r ∧ r ≤ left) ∧ Below w.heap.size w w' := by
  by_cases h : (x0.size : Int) ≤ left
  all_goals
    go_enter Tryz.func80, Tryz.ntmps80
    go_wp2_with fail
    go_ret
    exact ⟨_, rfl, by omega, Go.Joins.below_alloc1 _ _⟩

set_option maxHeartbeats 1000000 in
theorem szAnchorS_any (A : Option Addr) (n c lo hi : Nat) (L : List Anch) (left : Int) (w : World) (hr : RdS 3 (FlatR anchC) w lo hi A n L) (hhi : hi ≤ w.heap.size) (hs : ∀ a ∈ L, a.1.size ≤ maxLen) (hn : n ≤ 9223372036854775807) (h0 : 0 ≤ left) (h1 : left ≤ 1048576) :
    Calls Tryz.prog 47 #[.slice A n c, .int .i64 left] w fun e w' => ∃ r : Int, e = .returned (.int .i64 r) ∧ (r < 0 ∨ 0 ≤ r ∧ r ≤ left ∧ n ≤ 1048576) ∧ Below w.heap.size w w' := by
  replace hr := Lib.hid hr
  replace hs := Lib.hid hs
  by_cases hnl : (n : Int) ≤ left
  rotate_left
  · go_enter Tryz.func47, Tryz.ntmps47
    go_wp2_with fail
    go_ret
    exact ⟨_, rfl, .inl (by omega), Below.refl _ _⟩
  go_enter Tryz.func47, Tryz.ntmps47
  go_wp2_with fail
  go_loopw [1, 5] (fun lv i wr => ∃ (k : Nat) (l : Int), i = .int .i64 k ∧ lv = .int .i64 l ∧ k ≤ n ∧ 0 ≤ l ∧ l ≤ left ∧ Below w.heap.size w wr) (fun lv i wr => n - (intOf i).toNat)
  case atStart => exact ⟨0, left - n, rfl, rfl, Nat.zero_le _, by omega, by omega, Below.refl _ _⟩
  case round =>
    obtain ⟨k, l, rfl, rfl, hk, hl0, hl, hbel⟩ := hrel
    have hl1 : l ≤ 1048576 := by omega
    by_cases hlt : k < n
    · obtain ⟨b, off, ⟨x0, x1, x2⟩, rfl, hb0, hb, hja, hcs⟩ := (hr.out.frame (good_flat _) (Below.sameB hbel hhi)).at hlt
      have q0 := hcs 0 _ rfl
      have q1 := hcs 1 _ rfl
      have q2 := hcs 2 _ rfl
      simp only [Nat.add_zero] at q0 q1 q2
      clear hcs
      have hbw : b < wr.heap.size := by have := hbel.size; omega
      have hsz : x0.size ≤ 9223372036854775807 := by have := hs.out _ (List.mem_of_getElem? hja); unfold maxLen at this; exact this
      clear hja
      go_wp2_with fail
      refine (szAnchor_any x0 x1 x2 l _ hsz hl0 hl1).mono ?_
      rintro e w1 ⟨r, rfl, hrr, hb1⟩
      have hbel1 := hbel.trans (hb1.mono hbel.size)
      rcases hrr with hrr | ⟨hr0, hrl⟩
      · go_wp2_with fail
        go_ret
        exact ⟨_, rfl, .inl (by omega), hbel1⟩
      · go_wp2_with fail
        go_roundw
        case rel => exact ⟨k + 1, r, by go_num, rfl, by omega, hr0, by omega, hbel1⟩
        case measure => simp [intOf]; omega
    · go_wp2_with fail
      go_ret
      exact ⟨_, rfl, .inr ⟨hl0, hl, by omega⟩, hbel⟩

set_option maxHeartbeats 1000000 in
theorem szGlyph_any (d : Gl) (h : GlH) (left : Int) (lo hi : Nat) (w : World) (hr : GlRd w lo hi d h) (hhi : hi ≤ w.heap.size) (hm : d.small maxLen) (hs : d.str) (h0 : 0 ≤ left) (h1 : left ≤ 1048576) :
    Calls Tryz.prog 13 #[glV d h, .int .i64 left] w fun e w' => ∃ r : Int, e = .returned (.int .i64 r) ∧ (r < 0 ∨ (0 ≤ r ∧ r ≤ left ∧ d.small 1048576)) ∧ Below w.heap.size w w' := by
  obtain ⟨r0, r1, r2⟩ := hr
  obtain ⟨s0, s1, s2⟩ := hs
  have m0 : h.out.n ≤ 9223372036854775807 := by have := (hm.out r0.1).1; unfold maxLen at this; exact this
  have m1 : h.parts.n ≤ 9223372036854775807 := by have := hm.parts r1.1; unfold maxLen at this; exact this
  have m2 : h.anchors.n ≤ 9223372036854775807 := by have := hm.anchors r2.1; unfold maxLen at this; exact this
  unfold maxLen at s0 s1
  have l0 := Lib.hid r0.1
  have l1 := Lib.hid r1.1
  have l2 := Lib.hid r2.1
  replace r0 := Lib.hid r0
  replace r1 := Lib.hid r1
  replace r2 := Lib.hid r2
  replace s2 := Lib.hid s2
  clear hm
  by_cases g0 : (d.name.size : Int) ≤ left
  rotate_left
  · go_enter Tryz.func13, Tryz.ntmps13
    go_wp2_with fail
    go_ret
    exact ⟨_, rfl, .inl (by omega), Go.Joins.below_alloc1 _ _⟩
  have hsame : ∀ o, SameB lo hi w (w.alloc o) := fun o => (SameB.refl _ _ w).alloc hhi o
  replace hsame := Lib.hid hsame
  go_enter Tryz.func13, Tryz.ntmps13
  go_wp2_with fail
  refine (szOutline_any _ _ _ lo hi d.out (left - d.name.size) _ (r0.out.frame good_loop (hsame.out _)) (by simp; omega) m0 (by omega) (by omega)).mono ?_
  rintro e w1 ⟨q0, rfl, hq0, hb1⟩
  have hB1 := (Go.Joins.below_alloc1 w _).trans (hb1.mono (by simp))
  have hz1 : w.heap.size + 1 ≤ w1.heap.size := by have := hb1.size; simpa using this
  rcases hq0 with hq0 | ⟨hq0, e0⟩
  · go_wp2_with fail
    go_ret
    exact ⟨_, rfl, .inl (by omega), hB1⟩
  have u0 : q0 ≤ left := by omega
  replace e0 := Lib.hid e0
  have hX1 := (hb1.block w.heap.size (by simp)).trans (heap_alloc_new w _)
  have cx4 : w1.cell? ⟨w.heap.size, 4, none⟩ = some (.slice h.parts.A h.parts.n h.parts.c) := by rw [Go.Joins.cell_of_block hX1]; rfl
  have cx5 : w1.cell? ⟨w.heap.size, 5, none⟩ = some (.slice h.anchors.A h.anchors.n h.anchors.c) := by rw [Go.Joins.cell_of_block hX1]; rfl
  have cx6 : w1.cell? ⟨w.heap.size, 6, none⟩ = some (.string d.hints) := by rw [Go.Joins.cell_of_block hX1]; rfl
  replace hX1 := Lib.hid hX1
  clear hb1
  go_wp2_with fail
  obtain ⟨q1, hq1⟩ : ∃ r : Int, r = if (h.parts.n : Int) ≤ q0 then q0 - h.parts.n else -1 := ⟨_, rfl⟩
  refine (szPartS_any _ _ _ q0 _ m1 (by omega) (by omega) q1 hq1).mono ?_
  rintro e w' ⟨rfl, rfl⟩
  by_cases g1 : (h.parts.n : Int) ≤ q0
  rotate_left
  · rw [if_neg g1] at hq1
    subst hq1
    go_wp2_with fail
    go_ret
    exact ⟨_, rfl, .inl (by omega), hB1⟩
  rw [if_pos g1] at hq1
  have u1 : 0 ≤ q1 ∧ q1 ≤ q0 ∧ (h.parts.n : Int) ≤ q0 := by omega
  replace hq1 := Lib.hid hq1
  obtain ⟨u2, u3, u4⟩ := u1
  go_wp2_with fail
  refine (szAnchorS_any _ _ _ lo hi d.anchors q1 _ (r2.out.frame (good_flat _) (Below.sameB hB1 hhi)) (by omega) s2.out m2 (by omega) (by omega)).mono ?_
  rintro e w2 ⟨q2, rfl, hq2, hb2⟩
  have hB2 := hB1.trans (hb2.mono (by omega))
  rcases hq2 with hq2 | ⟨hq2, u5, u6⟩
  · go_wp2_with fail
    go_ret
    exact ⟨_, rfl, .inl (by omega), hB2⟩
  have cz6 : w2.cell? ⟨w.heap.size, 6, none⟩ = some (.string d.hints) := (hb2.cell (by simp; omega)).trans cx6
  clear cx4 cx5 cx6 hb2
  by_cases g3 : (d.hints.size : Int) ≤ q2
  rotate_left
  · go_wp2_with fail
    go_ret
    exact ⟨_, rfl, .inl (by omega), hB2⟩
  go_wp2_with fail
  go_ret
  have e0' := e0.out
  have hk : outSize d.out ≤ 1048576 := by omega
  refine ⟨_, rfl, .inr ⟨by omega, by omega, ⟨?_, fun K hK => Nat.le_trans (outSize_k hK) hk, by rw [l1.out]; omega, by rw [l2.out]; omega⟩⟩, hB2⟩
  unfold outSize at hk; omega

theorem gs_at {w : World} {lo hi : Nat} {A : Option Addr} {n : Nat} {L : List Gl} (h : GsRd w lo hi A n L) {j : Nat} (hj : j < n) :
    ∃ b off d hh, A = some ⟨b, off, none⟩ ∧ lo ≤ b ∧ b < hi ∧ L[j]? = some d ∧ (∀ i u, (glC d hh)[i]? = some u → w.cell? ⟨b, off + j * 7 + i, none⟩ = some u) ∧ GlRd w lo hi d hh := by
  obtain ⟨hl, h⟩ := h
  obtain ⟨b, off, rfl, h1, h2, h3⟩ := h (by omega)
  have hja : L[j]? = some (L[j]'(by omega)) := List.getElem?_eq_getElem (by omega)
  obtain ⟨es, e1, e2, hh, rfl, r⟩ := h3 j _ hja
  exact ⟨b, off, _, hh, rfl, h1, h2, hja, e2, r⟩

set_option maxHeartbeats 2000000 in
theorem szGlyphS_any (A : Option Addr) (n c lo hi : Nat) (L : List Gl) (left : Int) (w : World) (hr : GsRd w lo hi A n L) (hhi : hi ≤ w.heap.size) (hm : ∀ g ∈ L, g.small maxLen) (hs : ∀ g ∈ L, g.str) (hn : n ≤ 9223372036854775807) (h0 : 0 ≤ left) (h1 : left ≤ 1048576) :
    Calls Tryz.prog 44 #[.slice A n c, .int .i64 left] w fun e w' => ∃ r : Int, e = .returned (.int .i64 r) ∧ (r < 0 ∨ 0 ≤ r ∧ r ≤ left ∧ n ≤ 1048576 ∧ ∀ g ∈ L, g.small 1048576) ∧ Below w.heap.size w w' := by
  have hll := Lib.hid hr.1
  replace hr := Lib.hid hr
  replace hs := Lib.hid hs
  replace hm := Lib.hid hm
  by_cases hnl : (n : Int) ≤ left
  rotate_left
  · go_enter Tryz.func44, Tryz.ntmps44
    go_wp2_with fail
    go_ret
    exact ⟨_, rfl, .inl (by omega), Below.refl _ _⟩
  go_enter Tryz.func44, Tryz.ntmps44
  go_wp2_with fail
  go_loopw [1, 5] (fun lv i wr => ∃ (k : Nat) (l : Int), i = .int .i64 k ∧ lv = .int .i64 l ∧ k ≤ n ∧ 0 ≤ l ∧ l ≤ left ∧ (∀ (j : Nat) (g : Gl), j < k → L[j]? = some g → g.small 1048576) ∧ Below w.heap.size w wr) (fun lv i wr => n - (intOf i).toNat)
  case atStart => exact ⟨0, left - n, rfl, rfl, Nat.zero_le _, by omega, by omega, fun j g hj => absurd hj (Nat.not_lt_zero j), Below.refl _ _⟩
  case round =>
    obtain ⟨k, l, rfl, rfl, hk, hl0, hl, hall, hbel⟩ := hrel
    have hl1 : l ≤ 1048576 := by omega
    replace hall := Lib.hid hall
    by_cases hlt : k < n
    · obtain ⟨b, off, d, hh, rfl, hb0, hb, hja, hcs, hrd⟩ := gs_at (hr.out.frame good_glyph (Below.sameB hbel hhi)) hlt
      have q0 := hcs 0 _ rfl
      have q1 := hcs 1 _ rfl
      have q2 := hcs 2 _ rfl
      have q3 := hcs 3 _ rfl
      have q4 := hcs 4 _ rfl
      have q5 := hcs 5 _ rfl
      have q6 := hcs 6 _ rfl
      simp only [Nat.add_zero] at q0 q1 q2 q3 q4 q5 q6
      clear hcs
      have hbw : b < wr.heap.size := by have := hbel.size; omega
      have hmem := List.mem_of_getElem? hja
      have hcall := Lib.hid (fun W (hS : SameB lo hi wr W) (h : hi ≤ W.heap.size) => szGlyph_any d hh l lo hi W (hrd.frame hS) h (hm.out d hmem) (hs.out d hmem) hl0 hl1)
      clear hmem hrd
      replace hja := Lib.hid hja
      go_wp2_with fail
      refine (hcall.out _ (by repeat (first | exact SameB.refl _ _ _ | refine SameB.drew ?_ | refine SameB.alloc ?_ (by simp <;> omega) _)) (by have := hbel.size; simp <;> omega)).mono ?_
      rintro e w1 ⟨r, rfl, hrr, hb1⟩
      have hbel1 := hbel.trans (hb1.mono hbel.size)
      rcases hrr with hrr | ⟨hr0, hrl, hsm⟩
      · go_wp2_with fail
        go_ret
        exact ⟨_, rfl, .inl (by omega), hbel1⟩
      · replace hsm := Lib.hid hsm
        go_wp2_with fail
        go_roundw
        case rel =>
          refine ⟨k + 1, r, by go_num, rfl, by omega, hr0, by omega, fun j g hj hg => ?_, hbel1⟩
          by_cases hjk : j = k
          · subst hjk
            have e := Option.some.inj (hja.out.symm.trans hg)
            subst e
            exact hsm.out
          · exact hall.out j g (by omega) hg
        case measure => simp [intOf]; omega
    · have hkn : k = n := by omega
      replace hkn := Lib.hid hkn
      go_wp2_with fail
      go_ret
      refine ⟨_, rfl, .inr ⟨hl0, hl, by omega, fun g hg => ?_⟩, hbel⟩
      obtain ⟨j, hj⟩ := List.getElem?_of_mem hg
      exact hall.out j g (by rw [hkn.out, ← hll.out]; exact (List.getElem?_eq_some_iff.1 hj).1) hj

theorem szGlyphSet_any (d : GSet) (h : GSetH) (left : Int) (lo hi : Nat) (w : World) (hr : GSetRd w lo hi d h) (hhi : hi ≤ w.heap.size) (hm : d.small maxLen) (hs : ∀ g ∈ d.gl, g.str) (h0 : 0 ≤ left) (h1 : left ≤ 1048576) :
    Calls Tryz.prog 12 #[gsV d h, .int .i64 left] w fun e w' => ∃ r : Int, e = .returned (.int .i64 r) ∧ (r < 0 ∨ (0 ≤ r ∧ r ≤ left ∧ d.small 1048576)) ∧ Below w.heap.size w w' := by
  have hn : h.gl.n ≤ 9223372036854775807 := by have := (hm.gl hr.1).1; unfold maxLen at this; exact this
  have hl := Lib.hid hr.1
  have hcall := Lib.hid (fun a => szGlyphS_any h.gl.A h.gl.n h.gl.c lo hi d.gl left (w.alloc a) (hr.frame good_glyph ((SameB.refl _ _ w).alloc hhi a)) (by simp; omega) hm.g hs hn h0 h1)
  clear hr hm hs
  go_enter Tryz.func12, Tryz.ntmps12
  go_wp2_with fail
  refine (hcall.out _).mono ?_
  rintro e w1 ⟨r, rfl, hrr, hb1⟩
  have hB := (Go.Joins.below_alloc1 _ _).trans (hb1.mono (by simp))
  rcases hrr with hrr | ⟨hr0, hrl, hn1, hg⟩
  · go_wp2_with fail
    go_ret
    exact ⟨_, rfl, .inl (by omega), hB⟩
  · replace hg := Lib.hid hg
    go_wp2_with fail
    go_ret
    exact ⟨_, rfl, .inr ⟨hr0, hrl, ⟨by rw [hl.out]; exact hn1, hg.out⟩⟩, hB⟩
end Go.Proofs.YtgfbcbbcnineiaaGreat

