/- Whether glyphs and sets of glyphs are valid, in data alone. No walk in sight. Conditions: as each states. -/
import Derived.BigQuiet
import Derived.Outline
import Derived.Test.YtgdkabljgabjoaaGreatDoorRb08
import Derived.Test.YtgdkabljgabjoaaGreatDoorRb10
import Derived.Test.YtgdkabljgabjoaaGreatDoorRb11
import Derived.Test.YtgdkabljgabjoaaGreatDoorRb01
import Derived.Test.YtgdkabljgabjoaaGreatDoorProg
namespace Go.Proofs.YtgdkabljgabjoaaGreatDoor
set_option linter.unusedVariables false
set_option maxRecDepth 100000

def partOk (p : Part) : Bool := inB p.1 0 39 && ptOk p.2.1 p.2.2
def anchFree (L : List Anch) (a : Anch) : Bool := L.all fun b => decide (b.1 ≠ a.1)
def anchAt (L : List Anch) (j : Nat) : Bool := match L[j]? with
  | some a => nameB a.1 && ptOk a.2.1 a.2.2 && anchFree (L.take j) a
  | none => true
def anchsOk (L : List Anch) : Bool := (List.range L.length).all (anchAt L)
def glyphOk (g : Gl) : Bool := nameB g.name && inB g.code (-1) 65535 && inB g.adv 0 262144 && outOk g.out && decide (g.parts.length ≤ 6) && decide (g.anchors.length ≤ 6) && decide (g.hints.size ≤ 400) &&
  g.parts.all partOk && anchsOk g.anchors && (decide (g.parts.length = 0) || decide (g.out.length = 0))
def clash (a b : Gl) : Bool := decide (a.name = b.name) || (decide (0 ≤ a.code) && decide (a.code = b.code))
def glFree (L : List Gl) (g : Gl) : Bool := L.all fun b => !clash b g
def glAt (L : List Gl) (j : Nat) : Bool := match L[j]? with
  | some g => glyphOk g && glFree (L.take j) g
  | none => true
def tgts (L : List Gl) : List (List Int) := L.map fun g => g.parts.map (·.1)
def setOk (s : GSet) : Bool := inB s.unit 16 16384 && decide (s.gl.length ≤ 40) && (List.range s.gl.length).all (glAt s.gl) && decide ((order (tgts s.gl)).length = s.gl.length)

theorem range_step {f : Nat → Bool} {k : Nat} (h : (List.range k).all f = true) (h1 : f k = true) : (List.range (k + 1)).all f = true := by
  rw [List.range_succ, List.all_append, h]; simp [h1]
theorem range_no {f : Nat → Bool} {n k : Nat} (hk : k < n) (h : f k = false) : (List.range n).all f = false := by
  rw [List.all_eq_false]; exact ⟨k, List.mem_range.2 hk, by simp [h]⟩
theorem range_at {f : Nat → Bool} {n k : Nat} (h : (List.range n).all f = true) (hk : k < n) : f k = true := List.all_eq_true.1 h k (List.mem_range.2 hk)
theorem anchAt_eq {L : List Anch} {j : Nat} {a : Anch} (h : L[j]? = some a) : anchAt L j = (nameB a.1 && ptOk a.2.1 a.2.2 && anchFree (L.take j) a) := by unfold anchAt; rw [h]
theorem glAt_eq {L : List Gl} {j : Nat} {g : Gl} (h : L[j]? = some g) : glAt L j = (glyphOk g && glFree (L.take j) g) := by unfold glAt; rw [h]
theorem anchFree_step {L : List Anch} {k : Nat} {a b : Anch} (h : anchFree (L.take k) a = true) (hb : L[k]? = some b) (hne : b.1 ≠ a.1) : anchFree (L.take (k + 1)) a = true := by
  have hl := (List.getElem?_eq_some_iff.1 hb).1
  rw [List.getElem?_eq_getElem hl] at hb; injection hb with hb
  unfold anchFree at *
  rw [List.take_succ_eq_append_getElem hl, List.all_append, h, hb]; simp [hne]
theorem anchFree_no {L : List Anch} {k j : Nat} {a b : Anch} (hk : k < j) (hb : L[k]? = some b) (he : b.1 = a.1) : anchFree (L.take j) a = false := by
  have hl := (List.getElem?_eq_some_iff.1 hb).1
  unfold anchFree
  rw [List.all_eq_false]
  exact ⟨b, List.mem_of_getElem? (i := k) (by rw [List.getElem?_take_of_lt hk]; exact hb), by simp [he]⟩
theorem glFree_step {L : List Gl} {k : Nat} {a b : Gl} (h : glFree (L.take k) a = true) (hb : L[k]? = some b) (hne : clash b a = false) : glFree (L.take (k + 1)) a = true := by
  have hl := (List.getElem?_eq_some_iff.1 hb).1
  rw [List.getElem?_eq_getElem hl] at hb; injection hb with hb
  unfold glFree at *
  rw [List.take_succ_eq_append_getElem hl, List.all_append, h, hb]; simp [hne]
theorem glFree_no {L : List Gl} {k j : Nat} {a b : Gl} (hk : k < j) (hb : L[k]? = some b) (he : clash b a = true) : glFree (L.take j) a = false := by
  unfold glFree
  rw [List.all_eq_false]
  exact ⟨b, List.mem_of_getElem? (i := k) (by rw [List.getElem?_take_of_lt hk]; exact hb), by simp [he]⟩
theorem tgts_length (L : List Gl) : (tgts L).length = L.length := by simp [tgts]
theorem tgts_at {L : List Gl} {j : Nat} {g : Gl} (h : L[j]? = some g) : (tgts L)[j]? = some (g.parts.map (·.1)) := by unfold tgts; rw [List.getElem?_map, h]; rfl
theorem all_noX {α : Type} {f : α → Bool} {L : List α} {k : Nat} {a : α} (h : L[k]? = some a) (hf : f a = false) : L.all f = false := by
  rw [List.all_eq_false]; exact ⟨a, List.mem_of_getElem? h, by simp [hf]⟩
theorem all_stepX {α : Type} {f : α → Bool} {L : List α} {k : Nat} {a : α} (h0 : (L.take k).all f = true) (h : L[k]? = some a) (hf : f a = true) : (L.take (k + 1)).all f = true := by
  have hl := (List.getElem?_eq_some_iff.1 h).1
  rw [List.getElem?_eq_getElem hl] at h; injection h with h
  rw [List.take_succ_eq_append_getElem hl, List.all_append, h0, h]; simp [hf]

/-! ### a glyph's tests, one by one -/
theorem glyph_f1 {g : Gl} (h : nameB g.name = false) : glyphOk g = false := by simp [glyphOk, h]
theorem glyph_f2 {g : Gl} (h : inB g.code (-1) 65535 = false) : glyphOk g = false := by simp [glyphOk, h]
theorem glyph_f3 {g : Gl} (h : inB g.adv 0 262144 = false) : glyphOk g = false := by simp [glyphOk, h]
theorem glyph_f4 {g : Gl} (h : outOk g.out = false) : glyphOk g = false := by simp [glyphOk, h]
theorem glyph_f5 {g : Gl} (h : 6 < g.parts.length) : glyphOk g = false := by simp [glyphOk, Nat.not_le.2 h]
theorem glyph_f6 {g : Gl} (h : 6 < g.anchors.length) : glyphOk g = false := by simp [glyphOk, Nat.not_le.2 h]
theorem glyph_f7 {g : Gl} (h : 400 < g.hints.size) : glyphOk g = false := by simp [glyphOk, Nat.not_le.2 h]
theorem glyph_f8 {g : Gl} {k : Nat} {p : Part} (h : g.parts[k]? = some p) (hp : partOk p = false) : glyphOk g = false := by simp [glyphOk, all_noX h hp]
theorem glyph_f9 {g : Gl} {k : Nat} (h : k < g.anchors.length) (hp : anchAt g.anchors k = false) : glyphOk g = false := by
  have : anchsOk g.anchors = false := range_no h hp
  simp [glyphOk, this]
theorem glyph_f10 {g : Gl} (h : 0 < g.parts.length) (h1 : 0 < g.out.length) : glyphOk g = false := by
  have e1 : ¬ g.parts.length = 0 := by omega
  have e2 : ¬ g.out.length = 0 := by omega
  simp only [glyphOk, e1, e2, decide_false, Bool.or_self, Bool.and_false]
theorem glyph_t {g : Gl} (h1 : nameB g.name = true) (h2 : inB g.code (-1) 65535 = true) (h3 : inB g.adv 0 262144 = true) (h4 : outOk g.out = true) (h5 : g.parts.length ≤ 6) (h6 : g.anchors.length ≤ 6) (h7 : g.hints.size ≤ 400)
    (h8 : (g.parts.take g.parts.length).all partOk = true) (h9 : (List.range g.anchors.length).all (anchAt g.anchors) = true) (h10 : g.parts.length = 0 ∨ g.out.length = 0) : glyphOk g = true := by
  rw [List.take_length] at h8
  have e9 : anchsOk g.anchors = true := h9
  have e10 : (decide (g.parts.length = 0) || decide (g.out.length = 0)) = true := by simpa using h10
  simp only [glyphOk, h1, h2, h3, h4, h5, h6, h7, h8, e9, e10, decide_true, Bool.and_self]
/-- what a valid glyph is -/
theorem glyph_is {g : Gl} (h : glyphOk g = true) : outOk g.out = true ∧ g.parts.length ≤ 6 ∧ g.anchors.length ≤ 6 ∧ g.hints.size ≤ 400 ∧ (∀ p ∈ g.parts, partOk p = true) ∧ (∀ a ∈ g.anchors, ptOk a.2.1 a.2.2 = true) := by
  simp only [glyphOk, Bool.and_eq_true, decide_eq_true_eq, List.all_eq_true] at h
  obtain ⟨⟨⟨⟨⟨⟨⟨⟨⟨h1, h2⟩, h3⟩, h4⟩, h5⟩, h6⟩, h7⟩, h8⟩, h9⟩, h10⟩ := h
  refine ⟨h4, h5, h6, h7, h8, fun a ha => ?_⟩
  obtain ⟨j, hj⟩ := List.getElem?_of_mem ha
  have := range_at h9 (List.getElem?_eq_some_iff.1 hj).1
  rw [anchAt_eq hj] at this
  simp at this
  exact this.1.2
theorem set_is {s : GSet} (h : setOk s = true) : s.gl.length ≤ 40 ∧ (∀ g ∈ s.gl, glyphOk g = true) ∧ (order (tgts s.gl)).length = s.gl.length := by
  simp only [setOk, Bool.and_eq_true, decide_eq_true_eq] at h
  obtain ⟨⟨⟨h1, h2⟩, h3⟩, h4⟩ := h
  refine ⟨h2, fun g hg => ?_, h4⟩
  obtain ⟨j, hj⟩ := List.getElem?_of_mem hg
  have := range_at h3 (List.getElem?_eq_some_iff.1 hj).1
  rw [glAt_eq hj] at this
  simp at this
  exact this.1
theorem set_f1 {s : GSet} (h : inB s.unit 16 16384 = false) : setOk s = false := by simp [setOk, h]
theorem set_f2 {s : GSet} (h : 40 < s.gl.length) : setOk s = false := by simp [setOk, Nat.not_le.2 h]
theorem set_f3 {s : GSet} {k : Nat} (hk : k < s.gl.length) (h : glAt s.gl k = false) : setOk s = false := by simp [setOk, range_no hk h]
theorem set_f4 {s : GSet} (h : (order (tgts s.gl)).length ≠ s.gl.length) : setOk s = false := by simp [setOk, h]
theorem set_f5 {s : GSet} {k : Nat} {g : Gl} {p : Part} (hg : s.gl[k]? = some g) (hp : p ∈ g.parts) (h : (s.gl.length : Int) ≤ p.1) : setOk s = false := by
  refine set_f4 fun he => ?_
  have := ((order_ord (tgts s.gl)).parts_lt (by rw [he, tgts_length]) (tgts_at hg) (List.mem_map_of_mem (f := (·.1)) hp))
  rw [tgts_length] at this
  omega
theorem set_eq {s : GSet} (h1 : inB s.unit 16 16384 = true) (h2 : s.gl.length ≤ 40) (h3 : (List.range s.gl.length).all (glAt s.gl) = true) : setOk s = decide ((order (tgts s.gl)).length = s.gl.length) := by
  simp only [setOk, h1, h2, h3, decide_true, Bool.true_and]
end Go.Proofs.YtgdkabljgabjoaaGreatDoor

/- The walk of the function that splits a text. Conditions: as it states. -/
namespace Go.Proofs.YtgdkabljgabjoaaGreatDoor
open Go.RowKit
set_option linter.unusedVariables false
set_option maxRecDepth 100000

def splitF (b : UInt8) : List UInt8 → List (List UInt8)
  | [] => [[]]
  | c :: l => if c = b then [] :: splitF b l else match splitF b l with | [] => [[c]] | x :: r => (c :: x) :: r
theorem splitF_ne (b : UInt8) (l : List UInt8) : splitF b l ≠ [] := by
  cases l with
  | nil => simp [splitF]
  | cons c l => rw [splitF]; split
                · simp
                · split <;> simp
theorem splitF_hit (b : UInt8) : ∀ (a l : List UInt8), (∀ c ∈ a, c ≠ b) → splitF b (a ++ b :: l) = a :: splitF b l := by
  intro a
  induction a with
  | nil => intro l _; simp [splitF]
  | cons c a ih =>
    intro l h
    have h1 := ih l (fun c hc => h c (List.mem_cons_of_mem _ hc))
    rw [List.cons_append, splitF, if_neg (h c (by simp)), h1]
theorem splitF_last (b : UInt8) : ∀ a : List UInt8, (∀ c ∈ a, c ≠ b) → splitF b a = [a] := by
  intro a
  induction a with
  | nil => intro _; rfl
  | cons c a ih =>
    intro h
    rw [splitF, if_neg (h c (by simp)), ih (fun c hc => h c (List.mem_cons_of_mem _ hc))]
def strV (xs : List (List UInt8)) : List Value := xs.map fun x => .string ⟨x.toArray⟩
theorem strV_length (xs : List (List UInt8)) : (strV xs).length = xs.length := by simp [strV]

/-- behind i bytes: the pieces P, the next one from f on -/
def SplitTo (s : ByteArray) (b : UInt8) (i f : Nat) (P : List (List UInt8)) : Prop :=
  f ≤ i ∧ i ≤ s.size ∧ P.length ≤ i ∧ splitF b s.data.toList = P ++ splitF b (s.data.toList.drop f) ∧ ∀ c ∈ (s.data.toList.take i).drop f, c ≠ b
theorem SplitTo.start (s : ByteArray) (b : UInt8) : SplitTo s b 0 0 [] := ⟨Nat.le_refl _, Nat.zero_le _, Nat.zero_le _, by simp, by simp⟩
theorem drop_split (l : List UInt8) (f i : Nat) (hf : f ≤ i) (hi : i < l.length) : l.drop f = (l.take i).drop f ++ l[i] :: l.drop (i + 1) := by
  have e : l = l.take i ++ l[i] :: l.drop (i + 1) := by simp
  conv => lhs; rw [e]
  rw [List.drop_append_of_le_length (by simp; omega)]
theorem SplitTo.hit {s : ByteArray} {b : UInt8} {i f : Nat} {P : List (List UInt8)} (h : SplitTo s b i f P) (hi : i < s.size) (hb : s[i] = b) : SplitTo s b (i + 1) (i + 1) (P ++ [(s.data.toList.take i).drop f]) := by
  obtain ⟨h1, h2, h3, h4, h5⟩ := h
  refine ⟨Nat.le_refl _, by omega, by simp; omega, ?_, by simp⟩
  have hb' : s.data.toList[i]'(by simpa using hi) = b := hb
  rw [h4, drop_split _ f i h1 (by simpa using hi), hb', splitF_hit _ _ _ h5]
  simp
theorem SplitTo.miss {s : ByteArray} {b : UInt8} {i f : Nat} {P : List (List UInt8)} (h : SplitTo s b i f P) (hi : i < s.size) (hb : s[i] ≠ b) : SplitTo s b (i + 1) f P := by
  obtain ⟨h1, h2, h3, h4, h5⟩ := h
  refine ⟨by omega, by omega, by omega, h4, fun c hc => ?_⟩
  have hb' : s.data.toList[i]'(by simpa using hi) ≠ b := hb
  rw [List.take_succ_eq_append_getElem (by simpa using hi), List.drop_append_of_le_length (by simp; omega), List.mem_append] at hc
  rcases hc with hc | hc
  · exact h5 c hc
  · simp at hc; subst hc; exact hb
theorem SplitTo.done {s : ByteArray} {b : UInt8} {f : Nat} {P : List (List UInt8)} (h : SplitTo s b s.size f P) : splitF b s.data.toList = P ++ [s.data.toList.drop f] := by
  obtain ⟨h1, h2, h3, h4, h5⟩ := h
  rw [List.take_of_length_le (by simp)] at h5
  rw [h4, splitF_last _ _ h5]

theorem elemStr : Elem Tryz.prog 56 9 1 16 := elem_mk (z := .string ⟨#[]⟩) Tryz.underlying56 (by kernel_rfl) rfl (by omega)
theorem extract_mk (s : ByteArray) (f i : Nat) : s.extract f i = ⟨((s.data.toList.take i).drop f).toArray⟩ := by
  have h : (s.extract f i).data.toList = (s.data.toList.take i).drop f := by simp [ByteArray.data_extract, List.drop_take]
  rw [← h]

set_option maxHeartbeats 1000000 in
theorem l01Split_any (s : ByteArray) (b : UInt8) (w : World) (hs : s.size ≤ 1048576) :
    Calls Tryz.prog 27 #[.string s, .int .u8 b.toNat] w fun e w' => ∃ (A : Option Addr) (c n : Nat), n = (splitF b s.data.toList).length ∧ e = .returned (.slice A n c) ∧ w'.ownsRow w.heap.size 9 1 (.slice A n c) n (strV (splitF b s.data.toList)) ∧ Below w.heap.size w w' := by
  go_enter Tryz.func27, Tryz.ntmps27
  go_wp2_with fail
  go_loopw [5, 6, 7] (fun out fv i wr => ∃ (k f : Nat) (P : List (List UInt8)) (A : Option Addr) (c : Nat), i = .int .i64 k ∧ fv = .int .i64 f ∧ SplitTo s b k f P ∧ out = .slice A P.length c ∧ wr.ownsRow w.heap.size 9 1 (.slice A P.length c) P.length (strV P) ∧ Below w.heap.size w wr) (fun out fv i wr => s.size - (intOf i).toNat)
  case atStart => exact ⟨0, 0, [], _, _, rfl, rfl, SplitTo.start s b, rfl, World.ownsRow_lit w _ _ (Nat.le_refl _) (by decide) (by simp), (Below.refl _ _).alloc (Nat.le_refl _) _⟩
  case round =>
    obtain ⟨k, f, P, A, c, rfl, rfl, hsp, rfl, hown, hbel⟩ := hrel
    have hfk := hsp.1
    have hk := hsp.2.1
    have hP := hsp.2.2.1
    have hsz := hbel.size
    replace hsp := Lib.hid hsp
    replace hown := Lib.hid hown
    by_cases hlt : k < s.size
    · obtain ⟨d, hd⟩ : ∃ d, s[k] = d := ⟨_, rfl⟩
      have hd256 := d.toNat_lt
      by_cases hdb : d = b
      · have ht : ((d.toNat : Int) == (b.toNat : Int)) = true := by subst hdb; simp
        have hh := Lib.hid (hsp.out.hit hlt (hd.trans hdb))
        have hex := Lib.hid (extract_mk s f k)
        replace hdb := Lib.hid hdb
        go_wp2_with (at_builtin; refine wpApp rfl (.tmp 20) (.tmp 25) elemStr rfl (v := .slice A P.length c) (n := P.length) (xs := strV P) rfl (hown.out.alloc _) rfl (src_at (cs := [.string (s.extract f k)]) rfl (by simp [Value.oneCell']) rfl) (by omega) (by omega) (by simp; omega) (P.length + 1) rfl ?_; intro A' c' w1 hown1 hb1)
        go_roundw
        case rel =>
          refine ⟨k + 1, k + 1, _, A', c', by go_num, by go_num, hh.out, by simp, ?_, (hbel.alloc hsz _).trans hb1⟩
          rw [List.length_append, strV, List.map_append]
          rw [hex.out] at hown1
          exact hown1
        case measure => simp [intOf]; omega
      · have ht : ((d.toNat : Int) == (b.toNat : Int)) = false := by
          rw [beq_eq_false_iff_ne]; intro e; exact hdb (UInt8.toNat_inj.1 (by omega))
        have hh := Lib.hid (hsp.out.miss hlt (by rw [hd]; exact hdb))
        replace hdb := Lib.hid hdb
        go_wp2_with fail
        go_roundw
        case rel => exact ⟨k + 1, f, P, A, c, by go_num, rfl, hh.out, rfl, hown.out, hbel⟩
        case measure => simp [intOf]; omega
    · have hkn : k = s.size := by omega
      have hh := hsp.out
      rw [hkn] at hh
      have hdone := Lib.hid hh.done
      have hex := Lib.hid (extract_mk s f s.size)
      have hfs : (f : Int) ≤ s.size := by omega
      replace hkn := Lib.hid hkn
      clear hh
      go_wp2_with (at_builtin; refine wpApp rfl (.tmp 29) (.tmp 33) elemStr rfl (v := .slice A P.length c) (n := P.length) (xs := strV P) rfl (hown.out.alloc _) rfl (src_at (cs := [.string (s.extract f s.size)]) rfl (by simp [Value.oneCell']) rfl) (by omega) (by omega) (by simp; omega) (P.length + 1) rfl ?_; intro A' c' w1 hown1 hb1)
      go_ret
      refine ⟨A', c', P.length + 1, by rw [hdone.out]; simp, rfl, ?_, (hbel.alloc hsz _).trans hb1⟩
      rw [hdone.out, strV, List.map_append]
      rw [hex.out] at hown1
      rw [List.take_of_length_le (by simp)] at hown1
      exact hown1
end Go.Proofs.YtgdkabljgabjoaaGreatDoor

/- The decimal digits of a number: plain facts. No program in sight. Conditions: none. -/
namespace Go.Proofs.YtgdkabljgabjoaaGreatDoor
open Go.RowKit
set_option linter.unusedVariables false
set_option maxRecDepth 100000

/-- the digits of a number, none of 0 -/
def digsF : Nat → Nat → List UInt8
  | 0, _ => []
  | f + 1, n => if n = 0 then [] else digsF f (n / 10) ++ [UInt8.ofNat (48 + n % 10)]
def digs (n : Nat) : List UInt8 := digsF n n

theorem digsF_enough : ∀ (f g n : Nat), n ≤ f → n ≤ g → digsF f n = digsF g n := by
  intro f
  induction f with
  | zero =>
    intro g n h _
    have : n = 0 := by omega
    subst this
    cases g <;> simp [digsF]
  | succ f ih =>
    intro g n h h'
    cases g with
    | zero =>
      have : n = 0 := by omega
      subst this
      simp [digsF]
    | succ g =>
      simp only [digsF]
      split
      · rfl
      · rw [ih g (n / 10) (by omega) (by omega)]
theorem digs_zero : digs 0 = [] := rfl
theorem digs_step {n : Nat} (h : n ≠ 0) : digs n = digs (n / 10) ++ [UInt8.ofNat (48 + n % 10)] := by
  unfold digs
  cases n with
  | zero => exact absurd rfl h
  | succ n =>
    simp only [digsF, Nat.add_eq_zero_iff, Nat.succ_ne_self, and_false, if_false]
    rw [digsF_enough n ((n + 1) / 10) ((n + 1) / 10) (by omega) (Nat.le_refl _)]
theorem digs_len : ∀ (f n : Nat), n < 10 ^ f → (digs n).length ≤ f := by
  intro f
  induction f with
  | zero => intro n h; have : n = 0 := by simpa using h
            subst this; simp [digs_zero]
  | succ f ih =>
    intro n h
    by_cases h0 : n = 0
    · subst h0; simp [digs_zero]
    · rw [digs_step h0]
      have := ih (n / 10) (by rw [Nat.pow_succ] at h; omega)
      simp; omega
theorem digs_len19 {n : Nat} (h : n ≤ 9223372036854775808) : (digs n).length ≤ 19 := digs_len 19 n (by omega)
theorem digs_ne {n : Nat} (h : n ≠ 0) : digs n ≠ [] := by rw [digs_step h]; simp

/-- the decimal form -/
def dec1 (n : Nat) : List UInt8 := if n = 0 then [48] else digs n
def decL (n : Int) : List UInt8 := (if n < 0 then [45] else []) ++ dec1 n.natAbs
def decS (n : Int) : ByteArray := ⟨(decL n).toArray⟩
theorem dec1_len {n : Nat} (h : n ≤ 9223372036854775808) : (dec1 n).length ≤ 19 := by
  unfold dec1; split
  · simp
  · exact digs_len19 h
theorem decL_len {n : Int} (h1 : -9223372036854775808 ≤ n) (h2 : n ≤ 9223372036854775807) : (decL n).length ≤ 20 := by
  unfold decL
  have := dec1_len (n := n.natAbs) (by omega)
  rw [List.length_append]
  split <;> simp <;> omega

theorem natAbs_tdiv10 (k : Int) : (k.tdiv 10).natAbs = k.natAbs / 10 := by rw [Int.natAbs_tdiv]; rfl
theorem natAbs_tmod10 (k : Int) : (k.tmod 10).natAbs = k.natAbs % 10 := by rw [Int.natAbs_tmod]; rfl
theorem tmod10_neg {x : Int} (h : x < 0) : x.tmod 10 ≤ 0 ∧ -9 ≤ x.tmod 10 ∧ x.tmod 10 = -((x.natAbs % 10 : Nat) : Int) ∧ x.tdiv 10 = -((x.natAbs / 10 : Nat) : Int) := by
  obtain ⟨y, rfl⟩ : ∃ y : Nat, x = -(y : Int) := ⟨x.natAbs, by omega⟩
  rw [Int.neg_tmod, Int.neg_tdiv, Int.natAbs_neg, Int.natAbs_natCast]
  have e1 : ((y : Int).tmod 10) = ((y % 10 : Nat) : Int) := by rw [Int.tmod_eq_emod_of_nonneg (by omega)]; omega
  have e2 : ((y : Int).tdiv 10) = ((y / 10 : Nat) : Int) := by rw [Int.tdiv_eq_ediv_of_nonneg (by omega)]; omega
  rw [e1, e2]
  omega
theorem byteV_digit (d : Nat) (ds : List UInt8) (v : Int) (h : v = 48 + (d % 10 : Nat)) : byteV (UInt8.ofNat (48 + d % 10) :: ds) = [.int .u8 v] ++ byteV ds := by
  have h8 : (UInt8.ofNat (48 + d % 10)).toNat = 48 + d % 10 := by
    rw [UInt8.toNat_ofNat']; omega
  simp only [byteV, List.map_cons, h8, List.cons_append, List.nil_append]
  congr 2; omega
end Go.Proofs.YtgdkabljgabjoaaGreatDoor

