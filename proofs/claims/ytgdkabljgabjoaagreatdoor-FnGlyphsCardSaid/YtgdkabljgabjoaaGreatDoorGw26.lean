/- The law's text for a number. Conditions: as each states. -/
import Derived.Test.YtgdkabljgabjoaaGreatDoorGw22
import Derived.Test.YtgdkabljgabjoaaGreatDoorGw06
import Derived.Test.YtgdkabljgabjoaaGreatDoorGw02
import Derived.Test.YtgdkabljgabjoaaGreatDoorGw05
import Derived.Test.YtgdkabljgabjoaaGreatDoorGw07
import Derived.Test.YtgdkabljgabjoaaGreatDoorGw25
namespace Go.Proofs.YtgdkabljgabjoaaGreatDoor
open Go.RowKit
set_option linter.unusedVariables false
set_option maxRecDepth 100000

def mText (k : Int) : ByteArray := if k ≤ 0 then ⟨#[109, 48]⟩ else ⟨(109 :: digs k.toNat).toArray⟩
end Go.Proofs.YtgdkabljgabjoaaGreatDoor

/- Marks in slices of Part, and whether they are held. Conditions: as each states. -/
namespace Go.Proofs.YtgdkabljgabjoaaGreatDoor
open Go.RowKit
set_option linter.unusedVariables false
set_option maxRecDepth 100000

/-- the marks from m on, of n elements -/
def mkPart (m : Int) : Nat → List (Int × Int × Int)
  | 0 => []
  | n + 1 => mkPart m n ++ [((m + 3 * (n : Int)), (m + 3 * (n : Int)) + 1, (m + 3 * (n : Int)) + 1 + 1)]
theorem mkPart_length (m : Int) (n : Nat) : (mkPart m n).length = n := by induction n with
  | zero => rfl
  | succ n ih => simp [mkPart, ih]
end Go.Proofs.YtgdkabljgabjoaaGreatDoor

/- Marks in slices of Anchor, and whether they are held. Conditions: as each states. -/
namespace Go.Proofs.YtgdkabljgabjoaaGreatDoor
open Go.RowKit
set_option linter.unusedVariables false
set_option maxRecDepth 100000

/-- the marks from m on, of n elements -/
def mkAnchor (m : Int) : Nat → List (ByteArray × Int × Int)
  | 0 => []
  | n + 1 => mkAnchor m n ++ [(mText ((m + 3 * (n : Int))), (m + 3 * (n : Int)) + 1, (m + 3 * (n : Int)) + 1 + 1)]
theorem mkAnchor_length (m : Int) (n : Nat) : (mkAnchor m n).length = n := by induction n with
  | zero => rfl
  | succ n ih => simp [mkAnchor, ih]
end Go.Proofs.YtgdkabljgabjoaaGreatDoor

/- Marks in slices of Int64, and whether they are held. Conditions: as each states. -/
namespace Go.Proofs.YtgdkabljgabjoaaGreatDoor
open Go.RowKit
set_option linter.unusedVariables false
set_option maxRecDepth 100000

end Go.Proofs.YtgdkabljgabjoaaGreatDoor

/- Marks in a structure whose blocks lie from lo to hi: what they leave as it was. Conditions: as each states. -/
namespace Go.Proofs.YtgdkabljgabjoaaGreatDoor
open Go.RowKit
set_option linter.unusedVariables false
set_option maxRecDepth 100000

/-- only blocks from lo to hi have changed, rows of the kinds P alone, each of its old kind and size -/
structure MarkW (P : TypeId → Prop) (lo hi : Nat) (w w' : World) : Prop where
  os : w'.os = w.os
  tape : w'.tape = w.tape
  output : w'.output = w.output
  size : w.heap.size ≤ w'.heap.size
  block : ∀ b, b < w.heap.size → w'.heap[b]? = w.heap[b]? ∨ (lo ≤ b ∧ b < hi ∧ ∃ c c' e, P e ∧ w.heap[b]? = some (.cells c e (0, 0)) ∧ w'.heap[b]? = some (.cells c' e (0, 0)) ∧ c'.size = c.size)
theorem MarkW.refl (P : TypeId → Prop) (lo hi : Nat) (w : World) : MarkW P lo hi w w := ⟨rfl, rfl, rfl, Nat.le_refl _, fun _ _ => .inl rfl⟩
theorem MarkW.trans {P : TypeId → Prop} {lo hi : Nat} {a b c : World} (h : MarkW P lo hi a b) (k : MarkW P lo hi b c) : MarkW P lo hi a c := by
  refine ⟨k.os.trans h.os, k.tape.trans h.tape, k.output.trans h.output, Nat.le_trans h.size k.size, fun i hi => ?_⟩
  rcases k.block i (Nat.lt_of_lt_of_le hi h.size) with k1 | ⟨k1, k2, c1, c2, e, k3, k4, k5, k6⟩
  · rw [k1]; exact h.block i hi
  · rcases h.block i hi with h1 | ⟨h1, h2, d1, d2, e', h3, h4, h5, h6⟩
    · exact .inr ⟨k1, k2, c1, c2, e, k3, h1 ▸ k4, k5, k6⟩
    · rw [h5] at k4
      injection k4 with k4
      injection k4 with k7 k8 k9
      subst k7 k8
      exact .inr ⟨k1, k2, d1, c2, e', k3, h4, k5, k6.trans h6⟩
theorem MarkW.mono {P Q : TypeId → Prop} {lo hi lo' hi' : Nat} {w w' : World} (h : MarkW P lo hi w w') (h1 : lo' ≤ lo) (h2 : hi ≤ hi') (h3 : ∀ e, P e → Q e) : MarkW Q lo' hi' w w' := ⟨h.os, h.tape, h.output, h.size, fun b hb => by
  rcases h.block b hb with k | ⟨k1, k2, c, c', e, k3, k4⟩
  · exact .inl k
  · exact .inr ⟨by omega, by omega, c, c', e, h3 e k3, k4⟩⟩
theorem MarkW.below {P : TypeId → Prop} {lo hi : Nat} {w w' : World} (h : MarkW P lo hi w w') (hlo : lo ≤ w.heap.size) : Below lo w w' := ⟨h.os, h.tape, h.output, h.size, fun b hb => by
  rcases h.block b (by omega) with k | ⟨k1, k2, k3⟩
  · exact k
  · omega⟩
theorem MarkW.sameB {P : TypeId → Prop} {lo hi lo' hi' : Nat} {w w' : World} (h : MarkW P lo hi w w') (h1 : hi' ≤ lo ∨ hi ≤ lo') (h2 : hi' ≤ w.heap.size) : SameB lo' hi' w w' := fun b hb1 hb2 => by
  rcases h.block b (by omega) with k | ⟨k1, k2, k3⟩
  · exact k
  · omega
/-- a row of the call's own in lo to hi -/
def MkRow (w : World) (lo hi : Nat) (e : TypeId) (size : Nat) (A : Option Addr) (n c : Nat) : Prop := (∃ xs, w.ownsRow lo e size (.slice A n c) n xs) ∧ ∀ g, (Value.slice A n c).ownBlock = some g → g < hi
theorem own_cur {w : World} {lo e size n c : Nat} {A : Option Addr} {xs : List Value} (h : w.ownsRow lo e size (.slice A n c) n xs) {g : Nat} (hg : (Value.slice A n c).ownBlock = some g) : ∃ cur, w.heap[g]? = some (.cells cur e (0, 0)) ∧ cur.size = c * size := by
  rcases h.2 with ⟨h', _⟩ | ⟨g', cap, cur, hv, h1, h2, h3, h4, h5, h6⟩
  · injection h' with h'; subst h'; simp [Value.ownBlock] at hg
  · injection hv with hv1 hv2 hv3
    subst hv1 hv3
    simp [Value.ownBlock] at hg
    subst hg
    exact ⟨cur, h2, h5⟩
theorem MkRow.marks {P : TypeId → Prop} {w w' : World} {lo hi : Nat} {e : TypeId} {size n c lo' hi' : Nat} {A : Option Addr} (h : MkRow w lo hi e size A n c) (hm : MarkW P lo' hi' w w') : MkRow w' lo hi e size A n c := by
  obtain ⟨⟨xs, h0⟩, hhi⟩ := h
  refine ⟨?_, hhi⟩
  obtain ⟨hl, h1⟩ := h0
  rcases h1 with h1 | ⟨g, cap, cur, hv, h1, h2, h3, h4, h5, h6⟩
  · exact ⟨xs, hl, .inl h1⟩
  · have hgl : g < w.heap.size := (Array.getElem?_eq_some_iff.1 h2).1
    rcases hm.block g hgl with k | ⟨k1, k2, c1, c2, e', k3, k4, k5, k6⟩
    · exact ⟨xs, hl, .inr ⟨g, cap, cur, hv, h1, k.trans h2, h3, h4, h5, h6⟩⟩
    · rw [h2] at k4
      injection k4 with k4
      injection k4 with k7 k8 k9
      subst k7 k8
      refine ⟨c2.toList.take (n * size), ?_, .inr ⟨g, cap, c2, hv, h1, k5, h3, h4, k6.trans h5, rfl⟩⟩
      rw [List.length_take, Array.length_toList, k6, h5]
      exact Nat.min_eq_left (Nat.mul_le_mul_right _ h3)
theorem MkRow.frame {w w' : World} {lo hi : Nat} {e : TypeId} {size n c : Nat} {A : Option Addr} (h : MkRow w lo hi e size A n c) (hs : SameB lo hi w w') : MkRow w' lo hi e size A n c := by
  obtain ⟨⟨xs, h0⟩, hhi⟩ := h
  exact ⟨⟨xs, own_same h0 fun g hg => hs g (h0.lt g hg).1 (hhi g hg)⟩, hhi⟩
theorem MkRow.wide {w : World} {lo hi lo' hi' : Nat} {e : TypeId} {size n c : Nat} {A : Option Addr} (h : MkRow w lo hi e size A n c) (h1 : lo' ≤ lo) (h2 : hi ≤ hi') : MkRow w lo' hi' e size A n c :=
  ⟨h.1.imp fun xs hx => own_lower hx h1, fun g hg => Nat.lt_of_lt_of_le (h.2 g hg) h2⟩
/-- loops of the call's own in lo to hi -/
def MkL (w : World) (lo hi : Nat) (A : Option Addr) (n c : Nat) : Prop := ∃ ys : List Value, w.ownsRow lo 113 1 (.slice A n c) n ys ∧ (∀ g, (Value.slice A n c).ownBlock = some g → g < hi) ∧
  ∀ (j : Nat) (v : Value), ys[j]? = some v → ∃ (Aj : Option Addr) (nj cj : Nat), v = .slice Aj nj cj ∧ nj ≤ 1048576 ∧ MkRow w lo hi 152 3 Aj nj cj
theorem own_marks {P : TypeId → Prop} {w w' : World} {lo hi lo' e size n c : Nat} {A : Option Addr} {ys : List Value} (h : w.ownsRow lo' e size (.slice A n c) n ys) (he : ¬ P e) (hm : MarkW P lo hi w w') : w'.ownsRow lo' e size (.slice A n c) n ys := by
  refine own_same h fun g hg => ?_
  obtain ⟨cur, h1, _⟩ := own_cur h hg
  rcases hm.block g (h.lt g hg).2 with k | ⟨k1, k2, c1, c2, e', k3, k4, k5, k6⟩
  · exact k
  · rw [h1] at k4
    injection k4 with k4
    injection k4 with k7 k8 k9
    exact absurd (k8 ▸ k3) he
theorem MkL.marks {P : TypeId → Prop} {w w' : World} {lo hi lo' hi' n c : Nat} {A : Option Addr} (h : MkL w lo hi A n c) (he : ¬ P 113) (hm : MarkW P lo' hi' w w') : MkL w' lo hi A n c := by
  obtain ⟨ys, h1, h2, h3⟩ := h
  refine ⟨ys, own_marks h1 he hm, h2, fun j v hj => ?_⟩
  obtain ⟨Aj, nj, cj, h4, h5, h6⟩ := h3 j v hj
  exact ⟨Aj, nj, cj, h4, h5, h6.marks hm⟩
theorem MkL.frame {w w' : World} {lo hi n c : Nat} {A : Option Addr} (h : MkL w lo hi A n c) (hs : SameB lo hi w w') : MkL w' lo hi A n c := by
  obtain ⟨ys, h1, h2, h3⟩ := h
  refine ⟨ys, own_same h1 fun g hg => hs g (h1.lt g hg).1 (h2 g hg), h2, fun j v hj => ?_⟩
  obtain ⟨Aj, nj, cj, h4, h5, h6⟩ := h3 j v hj
  exact ⟨Aj, nj, cj, h4, h5, h6.frame hs⟩
theorem MkL.wide {w : World} {lo hi lo' hi' n c : Nat} {A : Option Addr} (h : MkL w lo hi A n c) (k1 : lo' ≤ lo) (k2 : hi ≤ hi') : MkL w lo' hi' A n c := by
  obtain ⟨ys, h1, h2, h3⟩ := h
  refine ⟨ys, own_lower h1 k1, fun g hg => Nat.lt_of_lt_of_le (h2 g hg) k2, fun j v hj => ?_⟩
  obtain ⟨Aj, nj, cj, h4, h5, h6⟩ := h3 j v hj
  exact ⟨Aj, nj, cj, h4, h5, h6.wide k1 k2⟩
theorem OutIn.mk {w : World} {lo hi n c : Nat} {A : Option Addr} {ys : List Value} {Ls : List (List Knot)} (h : OutIn w lo hi A n c ys Ls) (hK : ∀ K ∈ Ls, K.length ≤ 1048576) : MkL w lo hi A n c := by
  obtain ⟨h1, h2, h3, h4, h5, h6⟩ := h
  refine ⟨ys, h2, h5, fun j v hj => ?_⟩
  have hjl := (List.getElem?_eq_some_iff.1 hj).1
  have hl := h2.1
  obtain ⟨Aj, cj, h7, h8⟩ := h3 j _ (List.getElem?_eq_getElem (by omega))
  rw [hj] at h7
  injection h7 with h7
  subst h7
  exact ⟨Aj, _, cj, rfl, hK _ (List.getElem_mem _), ⟨_, h8⟩, fun g hg => h6 j _ g hj hg⟩
/-- a glyph's rows -/
structure GlMk (w : World) (lo hi : Nat) (h : GlH) : Prop where
  o : MkL w lo hi h.out.A h.out.n h.out.c
  p : MkRow w lo hi 106 3 h.parts.A h.parts.n h.parts.c
  a : MkRow w lo hi 117 3 h.anchors.A h.anchors.n h.anchors.c
  on : h.out.n ≤ 1048576
  pn : h.parts.n ≤ 1048576
  an : h.anchors.n ≤ 1048576
theorem GlMk.marks {P : TypeId → Prop} {w w' : World} {lo hi lo' hi' : Nat} {h : GlH} (k : GlMk w lo hi h) (he : ¬ P 113) (hm : MarkW P lo' hi' w w') : GlMk w' lo hi h := ⟨k.o.marks he hm, k.p.marks hm, k.a.marks hm, k.on, k.pn, k.an⟩
theorem GlMk.frame {w w' : World} {lo hi : Nat} {h : GlH} (k : GlMk w lo hi h) (hs : SameB lo hi w w') : GlMk w' lo hi h := ⟨k.o.frame hs, k.p.frame hs, k.a.frame hs, k.on, k.pn, k.an⟩
theorem GlMk.wide {w : World} {lo hi lo' hi' : Nat} {h : GlH} (k : GlMk w lo hi h) (h1 : lo' ≤ lo) (h2 : hi ≤ hi') : GlMk w lo' hi' h := ⟨k.o.wide h1 h2, k.p.wide h1 h2, k.a.wide h1 h2, k.on, k.pn, k.an⟩
/-- the rows of a set's glyphs -/
def GsMk (w : World) (lo hi : Nat) (A : Option Addr) (n c : Nat) : Prop := ∃ ys : List Value, w.ownsRow lo 28 7 (.slice A n c) n ys ∧ (∀ g, (Value.slice A n c).ownBlock = some g → g < hi) ∧
  ∀ j, j < n → ∃ hh : GlH, ys[j * 7 + 3]? = some (.slice hh.out.A hh.out.n hh.out.c) ∧ ys[j * 7 + 4]? = some (.slice hh.parts.A hh.parts.n hh.parts.c) ∧ ys[j * 7 + 5]? = some (.slice hh.anchors.A hh.anchors.n hh.anchors.c) ∧ GlMk w lo hi hh
theorem GsMk.frame {w w' : World} {lo hi n c : Nat} {A : Option Addr} (h : GsMk w lo hi A n c) (hs : SameB lo hi w w') : GsMk w' lo hi A n c := by
  obtain ⟨ys, h1, h2, h3⟩ := h
  refine ⟨ys, own_same h1 fun g hg => hs g (h1.lt g hg).1 (h2 g hg), h2, fun j hj => ?_⟩
  obtain ⟨hh, h4, h5, h6, h7⟩ := h3 j hj
  exact ⟨hh, h4, h5, h6, h7.frame hs⟩
theorem GsMk.wide {w : World} {lo hi lo' hi' n c : Nat} {A : Option Addr} (h : GsMk w lo hi A n c) (k1 : lo' ≤ lo) (k2 : hi ≤ hi') : GsMk w lo' hi' A n c := by
  obtain ⟨ys, h1, h2, h3⟩ := h
  refine ⟨ys, own_lower h1 k1, fun g hg => Nat.lt_of_lt_of_le (h2 g hg) k2, fun j hj => ?_⟩
  obtain ⟨hh, h4, h5, h6, h7⟩ := h3 j hj
  exact ⟨hh, h4, h5, h6, h7.wide k1 k2⟩
/-- a reading of loops of the call's own -/
def OutRm (w : World) (lo hi : Nat) (A : Option Addr) (n c : Nat) (L : List (List Knot)) : Prop := OutRd w lo hi A n L ∧ MkL w lo hi A n c ∧ n ≤ 1048576
theorem OutRm.frame (g : Good loopR) {w w' : World} {lo hi n c : Nat} {A : Option Addr} {L : List (List Knot)} (h : OutRm w lo hi A n c L) (hs : SameB lo hi w w') : OutRm w' lo hi A n c L := ⟨h.1.frame g hs, h.2.1.frame hs, h.2.2⟩
theorem OutRm.wide (g : Good loopR) {w : World} {lo hi lo' hi' n c : Nat} {A : Option Addr} {L : List (List Knot)} (h : OutRm w lo hi A n c L) (h1 : lo' ≤ lo) (h2 : hi ≤ hi') : OutRm w lo' hi' A n c L := ⟨h.1.wide g h1 h2, h.2.1.wide h1 h2, h.2.2⟩
/-- a reading of a row of the call's own -/
def RowRm {α : Type} (f : α → List Value) (e : TypeId) (w : World) (lo hi : Nat) (A : Option Addr) (n c : Nat) (L : List α) : Prop := RdS 3 (FlatR f) w lo hi A n L ∧ MkRow w lo hi e 3 A n c ∧ n ≤ 1048576 ∧ n ≤ c
theorem RowRm.frame {α : Type} {f : α → List Value} {e : TypeId} (g : Good (FlatR f)) {w w' : World} {lo hi n c : Nat} {A : Option Addr} {L : List α} (h : RowRm f e w lo hi A n c L) (hs : SameB lo hi w w') : RowRm f e w' lo hi A n c L := ⟨h.1.frame g hs, h.2.1.frame hs, h.2.2⟩
theorem RowRm.wide {α : Type} {f : α → List Value} {e : TypeId} (g : Good (FlatR f)) {w : World} {lo hi lo' hi' n c : Nat} {A : Option Addr} {L : List α} (h : RowRm f e w lo hi A n c L) (h1 : lo' ≤ lo) (h2 : hi ≤ hi') : RowRm f e w lo' hi' A n c L := ⟨h.1.wide g h1 h2, h.2.1.wide h1 h2, h.2.2⟩
/-- a reading of a glyph of the call's own -/
def GlRm (w : World) (lo hi : Nat) (d : Gl) (h : GlH) : Prop := GlRd w lo hi d h ∧ h.anchors.n ≤ h.anchors.c ∧ GlMk w lo hi h
theorem GlRm.of {w : World} {lo hi : Nat} {d : Gl} {h : GlH} (a : OutRm w lo hi h.out.A h.out.n h.out.c d.out) (b : RowRm partC 106 w lo hi h.parts.A h.parts.n h.parts.c d.parts) (c : RowRm anchC 117 w lo hi h.anchors.A h.anchors.n h.anchors.c d.anchors) : GlRm w lo hi d h := ⟨⟨a.1, b.1, c.1⟩, c.2.2.2, ⟨a.2.1, b.2.1, c.2.1, a.2.2, b.2.2.1, c.2.2.1⟩⟩
theorem GlRm.frame {w w' : World} {lo hi : Nat} {d : Gl} {h : GlH} (r : GlRm w lo hi d h) (s : SameB lo hi w w') : GlRm w' lo hi d h := ⟨r.1.frame s, r.2.1, r.2.2.frame s⟩
theorem GlRm.wide {w : World} {lo hi lo' hi' : Nat} {d : Gl} {h : GlH} (r : GlRm w lo hi d h) (h1 : lo' ≤ lo) (h2 : hi ≤ hi') : GlRm w lo' hi' d h := ⟨r.1.wide h1 h2, r.2.1, r.2.2.wide h1 h2⟩
end Go.Proofs.YtgdkabljgabjoaaGreatDoor

/- The laws' own functions on glyphs: the copy, with what its marks need. Conditions: as each states. -/
namespace Go.Proofs.YtgdkabljgabjoaaGreatDoor
open Go.RowKit
set_option linter.unusedVariables false
set_option maxRecDepth 100000

def GsRm (w : World) (lo hi : Nat) (A : Option Addr) (n c : Nat) (L : List Gl) : Prop := GsRc w lo hi A n L ∧ GsMk w lo hi A n c
theorem GsRm.frame (g : Good glyphRc) {w w' : World} {lo hi n c : Nat} {A : Option Addr} {L : List Gl} (h : GsRm w lo hi A n c L) (hs : SameB lo hi w w') : GsRm w' lo hi A n c L := ⟨h.1.frame g hs, h.2.frame hs⟩
theorem GsRm.wide (g : Good glyphRc) {w : World} {lo hi lo' hi' n c : Nat} {A : Option Addr} {L : List Gl} (h : GsRm w lo hi A n c L) (h1 : lo' ≤ lo) (h2 : hi ≤ hi') : GsRm w lo' hi' A n c L := ⟨h.1.wide g h1 h2, h.2.wide h1 h2⟩
theorem GsRm.c {w : World} {lo hi n c : Nat} {A : Option Addr} {L : List Gl} (h : GsRm w lo hi A n c L) : GsRc w lo hi A n L := h.1
def GlToM (w : World) (lo : Nat) (L : List Gl) (k : Nat) (ys : List Value) : Prop := ∀ (j : Nat) (g : Gl), j < k → L[j]? = some g → ∃ hh : GlH, (∀ i u, (glC g hh)[i]? = some u → ys[j * 7 + i]? = some u) ∧ GlRm w lo w.heap.size g hh ∧ hh.anchors.n ≤ hh.anchors.c
theorem GlToM.kept {w w' : World} {lo k : Nat} {L : List Gl} {ys : List Value} (h : GlToM w lo L k ys) (hs : SameB lo w.heap.size w w') (hz : w.heap.size ≤ w'.heap.size) : GlToM w' lo L k ys := fun j g hj hg => by
  obtain ⟨hh, h1, h2, h3⟩ := h j g hj hg
  exact ⟨hh, h1, (h2.frame hs).wide (Nat.le_refl _) hz, h3⟩
end Go.Proofs.YtgdkabljgabjoaaGreatDoor

/- Marks in loops, glyphs and sets of glyphs: what they leave as it was. Conditions: as each states. -/
namespace Go.Proofs.YtgdkabljgabjoaaGreatDoor
open Go.RowKit
set_option linter.unusedVariables false
set_option maxRecDepth 100000

end Go.Proofs.YtgdkabljgabjoaaGreatDoor


