/- The lines of a set's text: plain facts. Conditions: as each states. -/
import Derived.Test.YtgdkabljgabjoaaGreatDoorGw36
import Derived.Test.YtgdkabljgabjoaaGreatDoorGw34
import Derived.Test.YtgdkabljgabjoaaGreatDoorGw15
import Derived.Test.YtgdkabljgabjoaaGreatDoorGw17
namespace Go.Proofs.YtgdkabljgabjoaaGreatDoor
set_option linter.unusedVariables false
set_option maxRecDepth 100000

def patE : List UInt8 := [10, 101, 110, 100, 10]
theorem index_skip {a : UInt8} {l sub : List UInt8} {n : Nat} (h : sub.isPrefixOf (a :: l) = false) (hi : Lib.index l sub = (n : Int)) : Lib.index (a :: l) sub = ((n + 1 : Nat) : Int) := by
  rw [Lib.index, h, hi, if_neg (by simp), if_neg (by rw [beq_iff_eq]; omega)]
  omega
theorem index_run : ∀ (l : List UInt8) {r : List UInt8} {n : Nat}, (∀ x ∈ l, x ≠ 10) → Lib.index r patE = (n : Int) → Lib.index (l ++ r) patE = ((l.length + n : Nat) : Int)
  | [], r, n, _, h => by simpa using h
  | a :: l, r, n, h, hi => by
    have ih := index_run l (fun x hx => h x (by simp [hx])) hi
    have ha : a ≠ 10 := h a (by simp)
    have hp : patE.isPrefixOf (a :: (l ++ r)) = false := by simp [patE, List.isPrefixOf, Ne.symm ha]
    have := index_skip hp ih
    rw [List.cons_append, this]
    simp; omega
theorem line_not {l r : List UInt8} (h : ∀ x ∈ l, x ≠ 10) (hl : l ≠ endW) : patE.isPrefixOf (10 :: (l ++ 10 :: r)) = false := by
  cases hb : patE.isPrefixOf (10 :: (l ++ 10 :: r)) with
  | false => rfl
  | true =>
    rw [List.isPrefixOf_iff_prefix] at hb
    obtain ⟨t, ht⟩ := hb
    exfalso
    have h2 : endW ++ 10 :: t = l ++ 10 :: r := by
      have := List.tail_eq_of_cons_eq (show (10 : UInt8) :: (endW ++ 10 :: t) = 10 :: (l ++ 10 :: r) from ht)
      exact this
    exact hl (cut_uniq (c := 10) (by decide) h h2).1.symm
theorem index_lines : ∀ (Ls : List (List UInt8)) (t : List UInt8), (∀ l ∈ Ls, (∀ x ∈ l, x ≠ 10) ∧ l ≠ endW) → Lib.index (10 :: (Ls.flatMap endl ++ (endW ++ 10 :: t))) patE = (((Ls.flatMap endl).length : Nat) : Int)
  | [], t, _ => by
    have hp : patE.isPrefixOf (10 :: (endW ++ 10 :: t)) = true := by simp [patE, endW, List.isPrefixOf]
    show Lib.index (10 :: (endW ++ 10 :: t)) patE = 0
    rw [Lib.index, if_pos hp]
  | l :: Ls, t, h => by
    have ih := index_lines Ls t fun l' hl' => h l' (by simp [hl'])
    obtain ⟨h1, h2⟩ := h l (by simp)
    have e : (l :: Ls).flatMap endl ++ (endW ++ 10 :: t) = l ++ 10 :: (Ls.flatMap endl ++ (endW ++ 10 :: t)) := by simp [endl]
    rw [e]
    have := index_skip (line_not h1 h2) (index_run l h1 ih)
    rw [this]
    simp [endl]
    omega
/-- the lines between the first and the last -/
def midL (g : Gl) : List (List UInt8) := g.out.map loopW ++ (g.parts.map partW ++ (g.anchors.map anchW ++ hintW g.hints.data.toList))
theorem glLines_mid (g : Gl) : glLines g = headW g.name.data.toList g.code g.adv :: (midL g ++ [endW]) := by simp [glLines, midL]
theorem midL_not {g : Gl} : ∀ l ∈ midL g, l ≠ endW := by
  intro l hl
  simp only [midL, List.mem_append, List.mem_map] at hl
  rcases hl with ⟨K, _, rfl⟩ | ⟨p, _, rfl⟩ | ⟨a, _, rfl⟩ | hl
  · simp [loopW, endW]
  · simp [partW, endW]
  · simp [anchW, endW]
  · unfold hintW at hl
    split at hl
    · cases hl
    · rw [List.mem_singleton] at hl; subst hl; simp [endW]
theorem gl_no10 {g : Gl} (h : glyphOk g = true) : ∀ l ∈ glLines g, ∀ c ∈ l, c ≠ 10 := by
  obtain ⟨h1, _, _, _, _, h6⟩ := glyphOk_parts h
  exact glLines_no h1 fun a ha => (h6 a ha).1
theorem index_gl {g : Gl} (h : glyphOk g = true) (t : List UInt8) : ∃ n : Nat, Lib.index (glyphT g ++ t) patE = (n : Int) ∧ n + 5 = (glyphT g).length := by
  have h10 := gl_no10 h
  have e : glyphT g = headW g.name.data.toList g.code g.adv ++ 10 :: ((midL g).flatMap endl ++ (endW ++ [10])) := by
    rw [glyphT_lines, glLines_mid]; simp [endl]
  have h1 := index_lines (midL g) t fun l hl => ⟨h10 l (by rw [glLines_mid]; simp [hl]), midL_not l hl⟩
  have h2 := index_run (headW g.name.data.toList g.code g.adv) (h10 _ (by rw [glLines_mid]; simp)) h1
  refine ⟨(headW g.name.data.toList g.code g.adv).length + ((midL g).flatMap endl).length, ?_, ?_⟩
  · rw [← h2, e]; congr 1; simp
  · rw [e]; simp [endW]; omega
/-! ### a set's lines -/
def unitW (u : Int) : List UInt8 := [117, 110, 105, 116, 32] ++ decL u
theorem setT_cut (d : GSet) : setT d = unitW d.unit ++ 10 :: d.gl.flatMap glyphT := by unfold setT unitW; simp
theorem unitW_no {u : Int} : ∀ c ∈ unitW u, c ≠ 10 := by
  intro c hc
  unfold unitW at hc
  rcases List.mem_append.1 hc with hc | hc
  · have : ∀ c ∈ ([117, 110, 105, 116, 32] : List UInt8), c ≠ 10 := by decide
    exact this c hc
  · exact decL_no10 c hc
theorem setOk_gl {d : GSet} (h : setOk d = true) : (16 ≤ d.unit ∧ d.unit ≤ 16384) ∧ d.gl.length ≤ 40 ∧ ∀ g ∈ d.gl, glyphOk g = true := by
  unfold setOk at h
  simp only [Bool.and_eq_true, decide_eq_true_eq] at h
  refine ⟨inB_iff.1 h.1.1.1, h.1.1.2, fun g hg => ?_⟩
  obtain ⟨j, hj⟩ := List.getElem?_of_mem hg
  have h1 := range_at h.1.2 (List.getElem?_eq_some_iff.1 hj).1
  rw [glAt_eq hj, Bool.and_eq_true] at h1
  exact h1.1
/-- where the lines of glyph k begin -/
def fromL (L : List Gl) (k : Nat) : Nat := 1 + ((L.take k).flatMap glLines).length
/-- where a reader of the lines stands -/
def Stand (L : List Gl) (k fr i : Nat) : Prop := fr = fromL L k ∧ ((∃ g, L[k]? = some g ∧ fr ≤ i ∧ i < fr + (glLines g).length) ∨ L.length ≤ k ∧ fr ≤ i)
theorem Stand.start (L : List Gl) : Stand L 0 1 1 := by
  refine ⟨by simp [fromL], ?_⟩
  cases L with
  | nil => exact .inr ⟨Nat.le_refl _, Nat.le_refl _⟩
  | cons g L => exact .inl ⟨g, rfl, Nat.le_refl _, by have := glLines_two g; omega⟩
end Go.Proofs.YtgdkabljgabjoaaGreatDoor

/- The text of a set of glyphs, both sides. Conditions: as each states. -/
namespace Go.Proofs.YtgdkabljgabjoaaGreatDoor
open Go.RowKit
set_option linter.unusedVariables false
set_option maxRecDepth 100000

structure SetT (d : GSet) : Prop where
  unit : 16 ≤ d.unit ∧ d.unit ≤ 16384
  n : d.gl.length ≤ 40
  g : ∀ g ∈ d.gl, glyphOk g = true
theorem setOk_is {d : GSet} (h : setOk d = true) : SetT d := by
  unfold setOk at h
  simp only [Bool.and_eq_true, decide_eq_true_eq] at h
  exact ⟨inB_iff.1 h.1.1.1, h.1.1.2, glOk_all rfl h.1.2⟩
def unitT (u : Int) : List UInt8 := [117, 110, 105, 116, 32] ++ decL u ++ [10]
theorem unit_text (u : Int) : (((⟨#[117, 110, 105, 116, 32]⟩ : ByteArray) ++ decS u) ++ ⟨#[10]⟩) = bS (unitT u) := by
  show ((bS [117, 110, 105, 116, 32]) ++ bS (decL u)) ++ bS [10] = _
  simp only [bS_app]
  rfl
theorem unitT_len {u : Int} (h1 : -1000000 ≤ u) (h2 : u ≤ 1000000) : (unitT u).length ≤ 26 := by
  have := dec_20 h1 h2
  unfold unitT
  simp only [List.length_append, List.length_cons, List.length_nil]
  omega
theorem sets_max {d : GSet} (h : SetT d) (k : Nat) : ((d.gl.take k).flatMap glyphT).length ≤ 1320000 := flat_take_max (fun g hg => glyphT_max (glyphOk_is (h.g g hg))) h.n k
/-- the text of a set, if it is valid -/
def setR (d : GSet) : ByteArray := if setOk d = true then bS (setT d) else ⟨#[]⟩

set_option maxHeartbeats 4000000 in
theorem implSetText_any (d : GSet) (h : GSetH) (r0 : ByteArray) (heq : r0 = setR d) (lo hi : Nat) (w : World) (hr : GSetRc w lo hi d h) (hhi : hi ≤ w.heap.size) (hm : d.small 1000000000) (hs : ∀ g ∈ d.gl, g.str) :
    Calls Tryz.prog 18 #[gsV d h] w fun e w' => e = .returned (.string r0) ∧ Below w.heap.size w w' := by
  have hll := hr.1
  have hn := (hm.gl (n := h.gl.n) hr.1).1
  have hb0 : Below w.heap.size w (w.alloc (.cells #[.int .i64 d.unit, .slice h.gl.A h.gl.n h.gl.c] 36 (0, 0))) := Go.Joins.below_alloc1 _ _
  have hz0 : w.heap.size < (w.alloc (.cells #[.int .i64 d.unit, .slice h.gl.A h.gl.n h.gl.c] 36 (0, 0))).heap.size := by simp
  have HB := Lib.hid (heap_alloc_new w (.cells #[.int .i64 d.unit, .slice h.gl.A h.gl.n h.gl.c] 36 (0, 0)))
  have hcv := Lib.hid (fun W (hS : SameB lo hi w W) (hz : hi ≤ W.heap.size) => implValidGS_any d h _ rfl lo hi W (hr.frame good_glyphc hS) hz hm hs)
  replace hr := Lib.hid hr
  replace hs := Lib.hid hs
  replace hm := Lib.hid hm
  go_enter Tryz.func18, Tryz.ntmps18
  go_wp2_with fail
  generalize w.alloc (.cells #[.int .i64 d.unit, .slice h.gl.A h.gl.n h.gl.c] 36 (0, 0)) = w0 at *
  refine (hcv.out w0 (Below.sameB hb0 hhi) (by omega)).mono ?_
  rintro e w1 ⟨rfl, hb1⟩
  have hB1 := hb0.trans (hb1.mono hb0.size)
  have hz1' : w.heap.size < w1.heap.size := by have := hb1.size; omega
  have hz1 := hB1.size
  have HB1 := Lib.hid ((hb1.block _ hz0).trans HB.out)
  clear hcv HB
  cases hv : setOk d
  · have hR : Hid (r0 = ⟨#[]⟩) := by show r0 = _; rw [heq]; unfold setR; rw [if_neg (by rw [hv]; simp)]
    replace hv := Lib.hid hv
    clear heq
    go_wp2_with fail
    go_ret
    exact ⟨ret_string hR.out.symm, hB1⟩
  have hR : Hid (r0 = bS (setT d)) := by show r0 = _; rw [heq]; unfold setR; rw [if_pos hv]
  have hst := setOk_is hv
  have hn40 := hst.n
  obtain ⟨hu1, hu2⟩ := hst.unit
  have hul := unitT_len (u := d.unit) (by omega) (by omega)
  have hdu := decS_sz (n := d.unit) (by omega) (by omega)
  have hsm := Lib.hid (sets_max hst)
  have hgo := Lib.hid hst.g
  replace hv := Lib.hid hv
  clear heq hst hb1
  have hbn := Lib.hid (bld_new w1)
  have hb2 : Below w1.heap.size w1 (w1.alloc (.cells #[.pointer none, .slice none 0 0] 87 (0, 0))) := Go.Joins.below_alloc1 _ _
  have HB2 := Lib.hid ((hb2.block _ hz1').trans HB1.out)
  have hz2 : w1.heap.size < (w1.alloc (.cells #[.pointer none, .slice none 0 0] 87 (0, 0))).heap.size := by simp
  have q0 : (w1.alloc (.cells #[.pointer none, .slice none 0 0] 87 (0, 0))).cell? ⟨w.heap.size, 0, none⟩ = some (.int .i64 d.unit) := by rw [Go.Joins.cell_of_block HB2.out]; rfl
  have q0' : w1.cell? ⟨w.heap.size, 0, none⟩ = some (.int .i64 d.unit) := by rw [Go.Joins.cell_of_block HB1.out]; rfl
  have hcd := Lib.hid (fun W => implDec_any d.unit W (by omega) (by omega))
  clear HB1
  go_wp2_with fail
  clear q0 q0'
  generalize (w1.alloc (.cells #[.pointer none, .slice none 0 0] 87 (0, 0))) = w2 at *
  refine (hcd.out w2).mono ?_
  rintro e w3 ⟨rfl, hb3⟩
  have hbd3 := hbn.out.kept hb3
  have hz3 := hb3.size
  have hBox : Hid (∀ W : World, Below w1.heap.size w2 W → W.heap[w.heap.size]? = some (.cells #[.int .i64 d.unit, .slice h.gl.A h.gl.n h.gl.c] 36 (0, 0))) := fun W h => (h.block _ hz1').trans HB2.out
  have hWd : Hid (∀ W : World, Below w1.heap.size w2 W → Below w.heap.size w W) := fun W h => hB1.trans ((hb2.trans h).mono hz1)
  have hsz9 : Hid (((({ data := #[117, 110, 105, 116, 32] } : ByteArray) ++ decS d.unit) ++ { data := #[10] }).size ≤ 26) := by
    show _ ≤ _
    rw [unit_text]; exact hul
  clear hcd
  go_wp2_with fail
  refine (writeString_any w1.heap.size w1.heap.size [] _ w3 hbd3 (by have := hsz9.out; simp only [List.length_nil]; omega) (by omega)).mono ?_
  rintro e w4 ⟨rfl, hbd4, hc4, _⟩
  have hB24 : Below w1.heap.size w2 w4 := (hb3.mono (by omega)).trans hc4
  have hbd4' : Hid (Bld w4 w1.heap.size w1.heap.size (unitT d.unit)) := by
    show Bld _ _ _ _
    have h1 := hbd4
    rw [unit_text, bS_data, List.nil_append] at h1
    exact h1
  have gc1 : w4.cell? ⟨w.heap.size, 1, none⟩ = some (.slice h.gl.A h.gl.n h.gl.c) := by rw [Go.Joins.cell_of_block (hBox.out w4 hB24)]; rfl
  have gl4 : w.heap.size < w4.heap.size := by have := hB24.size; omega
  clear hbd4 hbd3 hbn hc4 hb3 HB2 hz3 hsz9
  go_wp2_with fail
  clear gc1 gl4
  go_loopw [18] (fun i wr => ∃ (k : Nat) (ds : List UInt8), i = .int .i64 k ∧ k ≤ h.gl.n ∧ ds = unitT d.unit ++ (d.gl.take k).flatMap glyphT ∧ Bld wr w1.heap.size w1.heap.size ds ∧ Below w1.heap.size w2 wr) (fun i wr => h.gl.n - (intOf i).toNat)
  case atStart => exact ⟨0, unitT d.unit, rfl, Nat.zero_le _, by simp, hbd4'.out, hB24⟩
  case round =>
    clear hbd4' hB24
    obtain ⟨k, ds, rfl, hk, hds, hbld, hbel⟩ := hrel
    have hdz : ds.length ≤ 1320026 := by
      rw [hds, List.length_append]
      have := hsm.out k
      omega
    have hwb := hWd.out wr hbel
    have hsz := hwb.size
    have hXw := (hbld.lt).2
    replace hds := Lib.hid hds
    by_cases hlt : k < h.gl.n
    · obtain ⟨b, off, dg, hh, hA, hb0', hbh, hja, hcs, hrd, hcp⟩ := gs_atc (hr.out.frame good_glyphc (Below.sameB hwb hhi)) hlt
      have hok := hgo.out dg (List.mem_of_getElem? hja)
      have hgR : glR dg = bS (glyphT dg) := by unfold glR; rw [if_pos hok]
      have hgz : (glyphT dg).length ≤ 33000 := glyphT_max (glyphOk_is hok)
      have g0 := hcs 0 _ rfl
      have g1 := hcs 1 _ rfl
      have g2 := hcs 2 _ rfl
      have g3 := hcs 3 _ rfl
      have g4 := hcs 4 _ rfl
      have g5 := hcs 5 _ rfl
      have g6 := hcs 6 _ rfl
      simp only [Nat.add_zero] at g0 g1 g2 g3 g4 g5 g6
      have hbw : b < wr.heap.size := by omega
      have hsmg := hm.out.g dg (List.mem_of_getElem? hja)
      have hstg := hs.out dg (List.mem_of_getElem? hja)
      have hcall := Lib.hid (fun W (hS : SameB 0 wr.heap.size wr W) (hzW : wr.heap.size ≤ W.heap.size) => implGlyphText_any dg hh lo hi W (hrd.frame (hS.mono (Nat.zero_le _) (by omega))) (by omega) hsmg hstg hcp)
      rw [hgR] at hcall
      have hnext : Hid (ds ++ (bS (glyphT dg)).data.toList = unitT d.unit ++ (d.gl.take (k + 1)).flatMap glyphT) := by
        show ds ++ _ = _
        rw [bS_data, hds.out, flat_take glyphT hja, List.append_assoc]
      have hgz2 : (bS (glyphT dg)).size ≤ 33000 := hgz
      replace hbld := Lib.hid hbld
      clear hja hok hgR hcs hrd hcp hsmg hstg hb0' hbh
      rw [hA]
      go_wp2_with fail
      refine (hcall.out _ ((SameB.refl _ _ wr).alloc (Nat.le_refl _) _) (by simp)).mono ?_
      rintro e w5 ⟨rfl, hc5⟩
      have hb5 : Below wr.heap.size wr w5 := (Go.Joins.below_alloc1 wr _).trans (hc5.mono (by simp))
      have hbd5 := hbld.out.kept hb5
      have hz5 := hb5.size
      clear hc5
      go_wp2_with fail
      refine (writeString_any w1.heap.size w1.heap.size ds _ w5 hbd5 (by omega) (by omega)).mono ?_
      rintro e w6 ⟨rfl, hbd6, hc6, _⟩
      have hb6 : Below w1.heap.size w2 w6 := (hbel.trans (hb5.mono (by omega))).trans hc6
      replace hbd6 := Lib.hid hbd6
      clear hc6 hbd5
      go_wp2_with fail
      go_roundw
      case rel => exact ⟨k + 1, _, by go_num, by omega, hnext.out, hbd6.out, hb6⟩
      case measure => simp [intOf]; omega
    · have hkn : k = h.gl.n := by omega
      have hfin : ds = setT d := by
        rw [hds.out, List.take_of_length_le (by omega)]
        rfl
      rw [hfin] at hbld
      replace hbld := Lib.hid hbld
      replace hkn := Lib.hid hkn
      have hz9 : w1.heap.size ≤ wr.heap.size := by omega
      clear hfin
      go_wp2_with fail
      refine (Tryz.Builder_String_any w1.heap.size w1.heap.size (setT d) wr hbld.out hz9).mono ?_
      rintro e w9 ⟨rfl, hb9⟩
      have hb10 := hWd.out w9 (hbel.trans hb9)
      go_wp2_with fail
      go_ret
      exact ⟨ret_string hR.out.symm, hb10⟩
end Go.Proofs.YtgdkabljgabjoaaGreatDoor

/- A set's text read, the program's side. Conditions: as each states. -/
namespace Go.Proofs.YtgdkabljgabjoaaGreatDoor
open Go.RowKit
set_option linter.unusedVariables false
set_option maxRecDepth 100000
set_option maxRecDepth 100000

/-- what reading a set comes to -/
def RSPost (s : ByteArray) (w : World) (e : Ending) (w' : World) : Prop :=
  ∃ (u : Int) (L : List Gl) (A : Option Addr) (n c : Nat) (ys : List Value) (hs : Nat → GlH) (iv : Nat → Nat × Nat) (t : Bool), e = .returned (.tuple #[.agg #[.int .i64 u, .slice A n c], .bool t]) ∧
    (t = true ∧ setOk ⟨u, L⟩ = true ∧ s.data.toList = setT ⟨u, L⟩ ∨ t = false ∧ u = 0 ∧ L = [] ∧ ∀ d, setOk d = true → s.data.toList ≠ setT d) ∧
    (∀ d, setOk d = true → s.data.toList = setT d → t = true ∧ u = d.unit ∧ L = d.gl) ∧ GsX w' w.heap.size w'.heap.size A n c L ys hs iv ∧ Below w.heap.size w w'
theorem rs_no {s : ByteArray} {w w' : World} (hno : ∀ d, setOk d = true → s.data.toList ≠ setT d) (hb : Below w.heap.size w w') : RSPost s w (.returned (.tuple #[.agg #[.int .i64 0, .slice none 0 0], .bool false])) w' :=
  ⟨0, [], none, 0, 0, [], fun _ => nilH0, fun _ => (0, 0), false, rfl, .inr ⟨rfl, rfl, rfl, hno⟩, fun d h1 h2 => absurd h2 (hno d h1), GsX.none _ _ _ 0 _ _, hb⟩
theorem set_two {w : World} {B : Nat} {u : Int} {v : Value} {t : TypeId} (h : w.heap[B]? = some (.cells #[.int .i64 u, v] t (0, 0))) : w.cell? ⟨B, 0, none⟩ = some (.int .i64 u) ∧ w.cell? ⟨B, 1, none⟩ = some v ∧ (∀ o, w.frozen? ⟨B, o, none⟩ = false) ∧ B < w.heap.size :=
  ⟨by rw [Go.Joins.cell_of_block h]; rfl, by rw [Go.Joins.cell_of_block h]; rfl, Go.Joins.unfrozen_of_block h, (Array.getElem?_eq_some_iff.1 h).1⟩
/-- the cut of a text at its first newline -/
def CutL (l k r : List UInt8) (f : Bool) : Prop := (f = true ∧ l = k ++ 10 :: r ∧ ∀ x ∈ k, x ≠ 10) ∨ (f = false ∧ ∀ x ∈ l, x ≠ 10)
theorem cutL_ex (s : ByteArray) (hs : s.size ≤ 1048576) : ∃ (k r : List UInt8) (f : Bool), CutL s.data.toList k r f ∧ k.length ≤ s.size ∧ r.length ≤ s.size ∧ ∀ W : World, Calls Tryz.prog 44 #[.string s, .string ⟨#[10]⟩] W fun e w' => e = .returned (.tuple #[.string ⟨k.toArray⟩, .string ⟨r.toArray⟩, .bool f]) ∧ Below W.heap.size W w' := by
  have hl : s.data.toList.length = s.size := by simp
  rcases first_at 10 s.data.toList with h | ⟨a, b, h, h2⟩
  · refine ⟨s.data.toList, [], false, .inr ⟨rfl, h⟩, by omega, by simp, fun W => (cutByte_any s 10 W hs).mono ?_⟩
    rintro e w' (⟨i, _, hi, hi2, _, _⟩ | ⟨rfl, _, hb⟩)
    · exact absurd rfl (h 10 (List.mem_of_getElem? hi2))
    · exact ⟨rfl, hb⟩
  · have hle := congrArg List.length h
    simp at hle
    refine ⟨a, b, true, .inl ⟨rfl, h, h2⟩, by omega, by omega, fun W => (cutByte_any s 10 W hs).mono ?_⟩
    rintro e w' (⟨i, rfl, hi, hi2, hi3, hb⟩ | ⟨_, hno, _⟩)
    · have e1 : s.data.toList = s.data.toList.take i ++ 10 :: s.data.toList.drop (i + 1) := by
        have hil : i < s.data.toList.length := by omega
        have h1 : s.data.toList[i] = 10 := by
          rw [List.getElem?_eq_getElem hil] at hi2
          exact Option.some.inj hi2
        have h2 := List.take_append_drop i s.data.toList
        rw [List.drop_eq_getElem_cons hil, h1] at h2
        exact h2.symm
      obtain ⟨e2, e3⟩ := cut_uniq hi3 h2 (e1.symm.trans h)
      have hw1 : s.extract 0 i = ⟨a.toArray⟩ := by rw [extract_mk, ← e2]; rfl
      have hw2 : s.extract (i + 1) s.size = ⟨b.toArray⟩ := by rw [extract_mk, List.take_of_length_le (by simp), ← e3]
      rw [hw1, hw2]
      exact ⟨rfl, hb⟩
    · exact absurd rfl (hno 10 (by rw [h]; simp))
theorem unitPre_ex (k : List UInt8) : ∃ (p : List UInt8) (f : Bool), (f = true ∧ k = [117, 110, 105, 116, 32] ++ p ∨ f = false ∧ ∀ q, k ≠ [117, 110, 105, 116, 32] ++ q) ∧ p.length ≤ k.length ∧ ∀ W : World, Calls Tryz.prog 45 #[.string ⟨k.toArray⟩, .string ⟨#[117, 110, 105, 116, 32]⟩] W fun e w' => e = .returned (.tuple #[.string ⟨p.toArray⟩, .bool f]) ∧ W = w' := by
  have hc := fun W => Tryz.strings_CutPrefix ⟨k.toArray⟩ ⟨#[117, 110, 105, 116, 32]⟩ W
  cases hp : Lib.hasPrefix k [117, 110, 105, 116, 32] with
  | true =>
    have h1 : ∃ p, k = [117, 110, 105, 116, 32] ++ p := by
      unfold Lib.hasPrefix at hp
      rw [List.isPrefixOf_iff_prefix] at hp
      obtain ⟨p, h⟩ := hp
      exact ⟨p, h.symm⟩
    obtain ⟨p, h1⟩ := h1
    refine ⟨p, true, .inl ⟨rfl, h1⟩, by rw [h1]; simp; omega, fun W => (hc W).mono ?_⟩
    rintro e w' ⟨rfl, rfl⟩
    have e1 : Lib.hasPrefix (⟨k.toArray⟩ : ByteArray).data.toList (⟨#[117, 110, 105, 116, 32]⟩ : ByteArray).data.toList = true := hp
    have e2 : Lib.trimPrefix (⟨k.toArray⟩ : ByteArray).data.toList (⟨#[117, 110, 105, 116, 32]⟩ : ByteArray).data.toList = p := by
      unfold Lib.trimPrefix; rw [e1, if_pos rfl]
      show k.drop 5 = p
      rw [h1]; rfl
    rw [e1, e2]
    exact ⟨rfl, rfl⟩
  | false =>
    refine ⟨k, false, .inr ⟨rfl, fun q e => ?_⟩, Nat.le_refl _, fun W => (hc W).mono ?_⟩
    · rw [e] at hp; simp [Lib.hasPrefix] at hp
    · rintro e w' ⟨rfl, rfl⟩
      have e1 : Lib.hasPrefix (⟨k.toArray⟩ : ByteArray).data.toList (⟨#[117, 110, 105, 116, 32]⟩ : ByteArray).data.toList = false := hp
      have e2 : Lib.trimPrefix (⟨k.toArray⟩ : ByteArray).data.toList (⟨#[117, 110, 105, 116, 32]⟩ : ByteArray).data.toList = k := by
        unfold Lib.trimPrefix; rw [e1]; rfl
      rw [e1, e2]
      exact ⟨rfl, rfl⟩
theorem ix_form (l p : List UInt8) : Lib.index l p = -1 ∨ ∃ j : Nat, Lib.index l p = (j : Int) ∧ j + p.length ≤ l.length := by
  by_cases h : 0 ≤ Lib.index l p
  · right
    have := Lib.index_room l p h
    exact ⟨(Lib.index l p).toNat, by omega, by omega⟩
  · left
    rcases Lib.index_spec l p with ⟨h1, _⟩ | ⟨i, h1, _⟩
    · exact h1
    · omega
/-- a set that is being read: what is left of its glyphs' texts -/
def Left (s : ByteArray) (u : Int) (L : List Gl) (rest : List UInt8) : Prop := ∀ d, setOk d = true → s.data.toList = setT d → d.unit = u ∧ ∃ k, L = d.gl.take k ∧ rest = (d.gl.drop k).flatMap glyphT
theorem left_end {s : ByteArray} {u : Int} {L : List Gl} (h : Left s u L []) : ∀ d, setOk d = true → s.data.toList = setT d → u = d.unit ∧ L = d.gl := fun d h1 h2 => by
  obtain ⟨e1, k, e2, e3⟩ := h d h1 h2
  refine ⟨e1.symm, ?_⟩
  have h3 : d.gl.drop k = [] := by
    cases hd : d.gl.drop k with
    | nil => rfl
    | cons g T =>
      rw [hd, List.flatMap_cons] at e3
      exact absurd (List.append_eq_nil_iff.1 e3.symm).1 glyphT_ne
  rw [e2, List.take_of_length_le (by rw [List.drop_eq_nil_iff] at h3; exact h3)]
theorem left_piece {s : ByteArray} {u : Int} {L : List Gl} {rest : List UInt8} {j : Nat} (h : Left s u L rest) (hne : rest ≠ []) (hj : Lib.index rest patE = (j : Int)) : ∀ d, setOk d = true → s.data.toList = setT d → ∃ g T, glyphOk g = true ∧ rest.take (j + 5) = glyphT g ∧ rest.drop (j + 5) = T ∧ d.unit = u ∧ ∃ k, L ++ [g] = d.gl.take (k + 1) ∧ T = (d.gl.drop (k + 1)).flatMap glyphT := fun d h1 h2 => by
  obtain ⟨e1, k, e2, e3⟩ := h d h1 h2
  cases hd : d.gl.drop k with
  | nil => rw [hd] at e3; exact absurd e3 hne
  | cons g T =>
    rw [hd, List.flatMap_cons] at e3
    have hk : d.gl[k]? = some g := by
      have := congrArg List.head? hd
      simpa using this
    have hg : glyphOk g = true := (setOk_gl h1).2.2 g (List.mem_of_getElem? hk)
    obtain ⟨n, h3, h4⟩ := index_gl hg (T.flatMap glyphT)
    rw [e3, h3] at hj
    have h5 : j + 5 = (glyphT g).length := by omega
    refine ⟨g, T.flatMap glyphT, hg, by rw [e3, h5, List.take_left], by rw [e3, h5, List.drop_left], e1, k, by rw [e2, take_next hk], ?_⟩
    have h6 : d.gl.drop (k + 1) = T := by
      rw [← List.drop_drop, hd]; rfl
    rw [h6]
theorem left_no {s : ByteArray} {u : Int} {L : List Gl} {rest : List UInt8} (h : Left s u L rest) (hne : rest ≠ []) (hj : Lib.index rest patE = -1) : ∀ d, setOk d = true → s.data.toList ≠ setT d := fun d h1 h2 => by
  obtain ⟨e1, k, e2, e3⟩ := h d h1 h2
  cases hd : d.gl.drop k with
  | nil => rw [hd] at e3; exact absurd e3 hne
  | cons g T =>
    rw [hd, List.flatMap_cons] at e3
    have hk : d.gl[k]? = some g := by
      have := congrArg List.head? hd
      simpa using this
    obtain ⟨n, h3, h4⟩ := index_gl ((setOk_gl h1).2.2 g (List.mem_of_getElem? hk)) (T.flatMap glyphT)
    rw [e3, h3] at hj
    omega
end Go.Proofs.YtgdkabljgabjoaaGreatDoor

