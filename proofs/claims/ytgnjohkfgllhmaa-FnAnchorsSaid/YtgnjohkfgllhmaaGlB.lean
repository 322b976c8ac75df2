/- Whether glyphs and sets of glyphs are valid, in data alone. No walk in sight. Conditions: as each states. -/
import Derived.Test.YtgnjohkfgllhmaaGl
import Derived.Test.YtgnjohkfgllhmaaOutK
import Derived.Test.YtgnjohkfgllhmaaName
import Derived.Test.YtgnjohkfgllhmaaOrd
namespace Go.Proofs.Ytgnjohkfgllhmaa
set_option linter.unusedVariables false
set_option maxRecDepth 100000

def partOk (p : Part) : Bool := inB p.1 0 39 && ptOk p.2.1 p.2.2
def anchFree (L : List Anch) (a : Anch) : Bool := L.all fun b => decide (b.1 ≠ a.1)
def anchAt (L : List Anch) (j : Nat) : Bool := match L[j]? with
  | some a => nameB a.1 && ptOk a.2.1 a.2.2 && anchFree (L.take j) a
  | none => true
def anchsOk (L : List Anch) : Bool := (List.range L.length).all (anchAt L)
def glyphOk (g : Gl) : Bool := nameB g.name && inB g.code (-1) 65535 && inB g.adv 0 262144 && outOk g.out && decide (g.parts.length ≤ 6) && decide (g.anchors.length ≤ 6) && decide (g.hints.size ≤ 400) &&
  g.parts.all partOk && anchsOk g.anchors && (decide (g.parts.length = 0) || decide (g.out.length = 0))
def clash (a b : Gl) : Bool := decide (a.name = b.name) || (decide (0 ≤ a.code) && decide (a.code = b.code))
def glFree (L : List Gl) (g : Gl) : Bool := L.all fun b => !clash b g
def glAt (L : List Gl) (j : Nat) : Bool := match L[j]? with
  | some g => glyphOk g && glFree (L.take j) g
  | none => true
def tgts (L : List Gl) : List (List Int) := L.map fun g => g.parts.map (·.1)
def setOk (s : GSet) : Bool := inB s.unit 16 16384 && decide (s.gl.length ≤ 40) && (List.range s.gl.length).all (glAt s.gl) && decide ((order (tgts s.gl)).length = s.gl.length)

theorem range_step {f : Nat → Bool} {k : Nat} (h : (List.range k).all f = true) (h1 : f k = true) : (List.range (k + 1)).all f = true := by
  rw [List.range_succ, List.all_append, h]; simp [h1]
theorem range_no {f : Nat → Bool} {n k : Nat} (hk : k < n) (h : f k = false) : (List.range n).all f = false := by
  rw [List.all_eq_false]; exact ⟨k, List.mem_range.2 hk, by simp [h]⟩
theorem range_at {f : Nat → Bool} {n k : Nat} (h : (List.range n).all f = true) (hk : k < n) : f k = true := List.all_eq_true.1 h k (List.mem_range.2 hk)
theorem anchAt_eq {L : List Anch} {j : Nat} {a : Anch} (h : L[j]? = some a) : anchAt L j = (nameB a.1 && ptOk a.2.1 a.2.2 && anchFree (L.take j) a) := by unfold anchAt; rw [h]
theorem glAt_eq {L : List Gl} {j : Nat} {g : Gl} (h : L[j]? = some g) : glAt L j = (glyphOk g && glFree (L.take j) g) := by unfold glAt; rw [h]
theorem anchFree_step {L : List Anch} {k : Nat} {a b : Anch} (h : anchFree (L.take k) a = true) (hb : L[k]? = some b) (hne : b.1 ≠ a.1) : anchFree (L.take (k + 1)) a = true := by
  have hl := (List.getElem?_eq_some_iff.1 hb).1
  rw [List.getElem?_eq_getElem hl] at hb; injection hb with hb
  unfold anchFree at *
  rw [List.take_succ_eq_append_getElem hl, List.all_append, h, hb]; simp [hne]
theorem anchFree_no {L : List Anch} {k j : Nat} {a b : Anch} (hk : k < j) (hb : L[k]? = some b) (he : b.1 = a.1) : anchFree (L.take j) a = false := by
  have hl := (List.getElem?_eq_some_iff.1 hb).1
  unfold anchFree
  rw [List.all_eq_false]
  exact ⟨b, List.mem_of_getElem? (i := k) (by rw [List.getElem?_take_of_lt hk]; exact hb), by simp [he]⟩
theorem glFree_step {L : List Gl} {k : Nat} {a b : Gl} (h : glFree (L.take k) a = true) (hb : L[k]? = some b) (hne : clash b a = false) : glFree (L.take (k + 1)) a = true := by
  have hl := (List.getElem?_eq_some_iff.1 hb).1
  rw [List.getElem?_eq_getElem hl] at hb; injection hb with hb
  unfold glFree at *
  rw [List.take_succ_eq_append_getElem hl, List.all_append, h, hb]; simp [hne]
theorem glFree_no {L : List Gl} {k j : Nat} {a b : Gl} (hk : k < j) (hb : L[k]? = some b) (he : clash b a = true) : glFree (L.take j) a = false := by
  unfold glFree
  rw [List.all_eq_false]
  exact ⟨b, List.mem_of_getElem? (i := k) (by rw [List.getElem?_take_of_lt hk]; exact hb), by simp [he]⟩
theorem tgts_length (L : List Gl) : (tgts L).length = L.length := by simp [tgts]
theorem tgts_at {L : List Gl} {j : Nat} {g : Gl} (h : L[j]? = some g) : (tgts L)[j]? = some (g.parts.map (·.1)) := by unfold tgts; rw [List.getElem?_map, h]; rfl
theorem all_noX {α : Type} {f : α → Bool} {L : List α} {k : Nat} {a : α} (h : L[k]? = some a) (hf : f a = false) : L.all f = false := by
  rw [List.all_eq_false]; exact ⟨a, List.mem_of_getElem? h, by simp [hf]⟩
theorem all_stepX {α : Type} {f : α → Bool} {L : List α} {k : Nat} {a : α} (h0 : (L.take k).all f = true) (h : L[k]? = some a) (hf : f a = true) : (L.take (k + 1)).all f = true := by
  have hl := (List.getElem?_eq_some_iff.1 h).1
  rw [List.getElem?_eq_getElem hl] at h; injection h with h
  rw [List.take_succ_eq_append_getElem hl, List.all_append, h0, h]; simp [hf]

/-! ### a glyph's tests, one by one -/
theorem glyph_f1 {g : Gl} (h : nameB g.name = false) : glyphOk g = false := by simp [glyphOk, h]
theorem glyph_f2 {g : Gl} (h : inB g.code (-1) 65535 = false) : glyphOk g = false := by simp [glyphOk, h]
theorem glyph_f3 {g : Gl} (h : inB g.adv 0 262144 = false) : glyphOk g = false := by simp [glyphOk, h]
theorem glyph_f4 {g : Gl} (h : outOk g.out = false) : glyphOk g = false := by simp [glyphOk, h]
theorem glyph_f5 {g : Gl} (h : 6 < g.parts.length) : glyphOk g = false := by simp [glyphOk, Nat.not_le.2 h]
theorem glyph_f6 {g : Gl} (h : 6 < g.anchors.length) : glyphOk g = false := by simp [glyphOk, Nat.not_le.2 h]
theorem glyph_f7 {g : Gl} (h : 400 < g.hints.size) : glyphOk g = false := by simp [glyphOk, Nat.not_le.2 h]
theorem glyph_f8 {g : Gl} {k : Nat} {p : Part} (h : g.parts[k]? = some p) (hp : partOk p = false) : glyphOk g = false := by simp [glyphOk, all_noX h hp]
theorem glyph_f9 {g : Gl} {k : Nat} (h : k < g.anchors.length) (hp : anchAt g.anchors k = false) : glyphOk g = false := by
  have : anchsOk g.anchors = false := range_no h hp
  simp [glyphOk, this]
theorem glyph_f10 {g : Gl} (h : 0 < g.parts.length) (h1 : 0 < g.out.length) : glyphOk g = false := by
  have e1 : ¬ g.parts.length = 0 := by omega
  have e2 : ¬ g.out.length = 0 := by omega
  simp only [glyphOk, e1, e2, decide_false, Bool.or_self, Bool.and_false]
theorem glyph_t {g : Gl} (h1 : nameB g.name = true) (h2 : inB g.code (-1) 65535 = true) (h3 : inB g.adv 0 262144 = true) (h4 : outOk g.out = true) (h5 : g.parts.length ≤ 6) (h6 : g.anchors.length ≤ 6) (h7 : g.hints.size ≤ 400)
    (h8 : (g.parts.take g.parts.length).all partOk = true) (h9 : (List.range g.anchors.length).all (anchAt g.anchors) = true) (h10 : g.parts.length = 0 ∨ g.out.length = 0) : glyphOk g = true := by
  rw [List.take_length] at h8
  have e9 : anchsOk g.anchors = true := h9
  have e10 : (decide (g.parts.length = 0) || decide (g.out.length = 0)) = true := by simpa using h10
  simp only [glyphOk, h1, h2, h3, h4, h5, h6, h7, h8, e9, e10, decide_true, Bool.and_self]
/-- what a valid glyph is -/
theorem glyph_is {g : Gl} (h : glyphOk g = true) : outOk g.out = true ∧ g.parts.length ≤ 6 ∧ g.anchors.length ≤ 6 ∧ g.hints.size ≤ 400 ∧ (∀ p ∈ g.parts, partOk p = true) ∧ (∀ a ∈ g.anchors, ptOk a.2.1 a.2.2 = true) := by
  simp only [glyphOk, Bool.and_eq_true, decide_eq_true_eq, List.all_eq_true] at h
  obtain ⟨⟨⟨⟨⟨⟨⟨⟨⟨h1, h2⟩, h3⟩, h4⟩, h5⟩, h6⟩, h7⟩, h8⟩, h9⟩, h10⟩ := h
  refine ⟨h4, h5, h6, h7, h8, fun a ha => ?_⟩
  obtain ⟨j, hj⟩ := List.getElem?_of_mem ha
  have := range_at h9 (List.getElem?_eq_some_iff.1 hj).1
  rw [anchAt_eq hj] at this
  simp at this
  exact this.1.2
theorem set_is {s : GSet} (h : setOk s = true) : s.gl.length ≤ 40 ∧ (∀ g ∈ s.gl, glyphOk g = true) ∧ (order (tgts s.gl)).length = s.gl.length := by
  simp only [setOk, Bool.and_eq_true, decide_eq_true_eq] at h
  obtain ⟨⟨⟨h1, h2⟩, h3⟩, h4⟩ := h
  refine ⟨h2, fun g hg => ?_, h4⟩
  obtain ⟨j, hj⟩ := List.getElem?_of_mem hg
  have := range_at h3 (List.getElem?_eq_some_iff.1 hj).1
  rw [glAt_eq hj] at this
  simp at this
  exact this.1
theorem set_f1 {s : GSet} (h : inB s.unit 16 16384 = false) : setOk s = false := by simp [setOk, h]
theorem set_f2 {s : GSet} (h : 40 < s.gl.length) : setOk s = false := by simp [setOk, Nat.not_le.2 h]
theorem set_f3 {s : GSet} {k : Nat} (hk : k < s.gl.length) (h : glAt s.gl k = false) : setOk s = false := by simp [setOk, range_no hk h]
theorem set_f4 {s : GSet} (h : (order (tgts s.gl)).length ≠ s.gl.length) : setOk s = false := by simp [setOk, h]
theorem set_f5 {s : GSet} {k : Nat} {g : Gl} {p : Part} (hg : s.gl[k]? = some g) (hp : p ∈ g.parts) (h : (s.gl.length : Int) ≤ p.1) : setOk s = false := by
  refine set_f4 fun he => ?_
  have := ((order_ord (tgts s.gl)).parts_lt (by rw [he, tgts_length]) (tgts_at hg) (List.mem_map_of_mem (f := (·.1)) hp))
  rw [tgts_length] at this
  omega
theorem set_eq {s : GSet} (h1 : inB s.unit 16 16384 = true) (h2 : s.gl.length ≤ 40) (h3 : (List.range s.gl.length).all (glAt s.gl) = true) : setOk s = decide ((order (tgts s.gl)).length = s.gl.length) := by
  simp only [setOk, h1, h2, h3, decide_true, Bool.true_and]
end Go.Proofs.Ytgnjohkfgllhmaa
