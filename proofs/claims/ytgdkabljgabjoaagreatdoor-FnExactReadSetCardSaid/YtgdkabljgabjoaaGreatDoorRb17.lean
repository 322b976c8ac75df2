/- The laws' own functions on a Glyph: the copy, the comparison. Conditions: as each states. -/
import Derived.Test.YtgdkabljgabjoaaGreatDoorRb08
namespace Go.Proofs.YtgdkabljgabjoaaGreatDoor
open Go.RowKit
set_option linter.unusedVariables false
set_option maxRecDepth 100000

set_option maxHeartbeats 4000000 in
theorem eqGlyph_any (d : Gl) (h h' : GlH) (lo hi lo' hi' : Nat) (w : World) (hr : GlRd w lo hi d h) (hr' : GlRd w lo' hi' d h') (hhi : hi ≤ w.heap.size) (hhi' : hi' ≤ w.heap.size) (hm : d.small 100000000) :
    Calls Tryz.prog 8 #[glV d h, glV d h'] w fun e w' => e = .returned (.bool true) ∧ Below w.heap.size w w' := by
  obtain ⟨hr0, hr1, hr2⟩ := hr
  obtain ⟨hq0, hq1, hq2⟩ := hr'
  have hm0 := Lib.hid (hm.out (n := h.out.n) hr0.1)
  have hm1 := Lib.hid (hm.parts (n := h.parts.n) hr1.1)
  have hm2 := Lib.hid (hm.anchors (n := h.anchors.n) hr2.1)
  clear hm
  replace hr0 := Lib.hid hr0
  replace hq0 := Lib.hid hq0
  replace hr1 := Lib.hid hr1
  replace hq1 := Lib.hid hq1
  replace hr2 := Lib.hid hr2
  replace hq2 := Lib.hid hq2
  go_enter Tryz.func8, Tryz.ntmps8
  go_wp2_with fail
  refine (eqOutline_rd _ _ _ _ _ _ lo hi lo' hi' d.out _ (hr0.out.frame good_loop (Below.sameB (B := w.heap.size) (w := w) (by repeat (first | refine Below.setCell ?_ (by first | omega | (simp <;> omega)) _ | refine Below.alloc ?_ (by first | omega | (simp <;> omega)) _ | exact Below.refl _ _)) hhi)) (hq0.out.frame good_loop (Below.sameB (B := w.heap.size) (w := w) (by repeat (first | refine Below.setCell ?_ (by first | omega | (simp <;> omega)) _ | refine Below.alloc ?_ (by first | omega | (simp <;> omega)) _ | exact Below.refl _ _)) hhi')) (by first | omega | (simp <;> omega)) (by first | omega | (simp <;> omega)) hm0.out).mono ?_
  rintro e w1 ⟨rfl, hb1⟩
  have hz1 := hb1.size
  try simp at hz1
  have hB1 : Below w.heap.size w w1 := Below.trans (by repeat (first | refine Below.setCell ?_ (by first | omega | (simp <;> omega)) _ | refine Below.alloc ?_ (by first | omega | (simp <;> omega)) _ | exact Below.refl _ _)) (hb1.mono (by first | omega | (simp <;> omega)))
  have hnew := heap_new2 w (.cells #[.string d.name, .int .i64 d.code, .int .i64 d.adv, .slice h.out.A h.out.n h.out.c, .slice h.parts.A h.parts.n h.parts.c, .slice h.anchors.A h.anchors.n h.anchors.c, .string d.hints] 28 (0, 0)) (.cells #[.string d.name, .int .i64 d.code, .int .i64 d.adv, .slice h'.out.A h'.out.n h'.out.c, .slice h'.parts.A h'.parts.n h'.parts.c, .slice h'.anchors.A h'.anchors.n h'.anchors.c, .string d.hints] 28 (0, 0))
  have HX1 : Hid (w1.heap[w.heap.size]? = some (.cells #[.string d.name, .int .i64 d.code, .int .i64 d.adv, .slice h.out.A h.out.n h.out.c, .slice h.parts.A h.parts.n h.parts.c, .slice h.anchors.A h.anchors.n h.anchors.c, .string d.hints] 28 (0, 0))) := (hb1.block _ (by first | omega | (simp <;> omega))).trans hnew.1
  have HY1 : Hid (w1.heap[w.heap.size + 1]? = some (.cells #[.string d.name, .int .i64 d.code, .int .i64 d.adv, .slice h'.out.A h'.out.n h'.out.c, .slice h'.parts.A h'.parts.n h'.parts.c, .slice h'.anchors.A h'.anchors.n h'.anchors.c, .string d.hints] 28 (0, 0))) := (hb1.block _ (by first | omega | (simp <;> omega))).trans hnew.2
  clear hnew
  have cx4 : w1.cell? ⟨w.heap.size, 4, none⟩ = some (.slice h.parts.A h.parts.n h.parts.c) := by rw [Go.Joins.cell_of_block HX1.out]; rfl
  have cy4 : w1.cell? ⟨w.heap.size + 1, 4, none⟩ = some (.slice h'.parts.A h'.parts.n h'.parts.c) := by rw [Go.Joins.cell_of_block HY1.out]; rfl
  clear hb1
  go_wp2_with fail
  refine (eqPartS_rd _ _ _ _ _ _ lo hi lo' hi' d.parts _ (hr1.out.frame (good_flat _) (Below.sameB (B := w.heap.size) (w := w) (by repeat (first | refine Below.setCell ?_ (by first | omega | (simp <;> omega)) _ | refine Below.alloc ?_ (by first | omega | (simp <;> omega)) _ | exact hB1)) hhi)) (hq1.out.frame (good_flat _) (Below.sameB (B := w.heap.size) (w := w) (by repeat (first | refine Below.setCell ?_ (by first | omega | (simp <;> omega)) _ | refine Below.alloc ?_ (by first | omega | (simp <;> omega)) _ | exact hB1)) hhi')) (by first | omega | (simp <;> omega)) (by first | omega | (simp <;> omega)) hm1.out).mono ?_
  rintro e w2 ⟨rfl, hb2⟩
  have hz2 := hb2.size
  try simp at hz2
  have hB2 : Below w.heap.size w w2 := Below.trans (by repeat (first | refine Below.setCell ?_ (by first | omega | (simp <;> omega)) _ | refine Below.alloc ?_ (by first | omega | (simp <;> omega)) _ | exact hB1)) (hb2.mono (by first | omega | (simp <;> omega)))
  have HX2 : Hid (w2.heap[w.heap.size]? = some (.cells #[.string d.name, .int .i64 d.code, .int .i64 d.adv, .slice h.out.A h.out.n h.out.c, .slice h.parts.A h.parts.n h.parts.c, .slice h.anchors.A h.anchors.n h.anchors.c, .string d.hints] 28 (0, 0))) := (hb2.block _ (by first | omega | (simp <;> omega))).trans HX1.out
  have HY2 : Hid (w2.heap[w.heap.size + 1]? = some (.cells #[.string d.name, .int .i64 d.code, .int .i64 d.adv, .slice h'.out.A h'.out.n h'.out.c, .slice h'.parts.A h'.parts.n h'.parts.c, .slice h'.anchors.A h'.anchors.n h'.anchors.c, .string d.hints] 28 (0, 0))) := (hb2.block _ (by first | omega | (simp <;> omega))).trans HY1.out
  clear HX1 HY1 cx4 cy4
  have cx5 : w2.cell? ⟨w.heap.size, 5, none⟩ = some (.slice h.anchors.A h.anchors.n h.anchors.c) := by rw [Go.Joins.cell_of_block HX2.out]; rfl
  have cy5 : w2.cell? ⟨w.heap.size + 1, 5, none⟩ = some (.slice h'.anchors.A h'.anchors.n h'.anchors.c) := by rw [Go.Joins.cell_of_block HY2.out]; rfl
  clear hb2
  go_wp2_with fail
  refine (eqAnchorS_rd _ _ _ _ _ _ lo hi lo' hi' d.anchors _ (hr2.out.frame (good_flat _) (Below.sameB (B := w.heap.size) (w := w) (by repeat (first | refine Below.setCell ?_ (by first | omega | (simp <;> omega)) _ | refine Below.alloc ?_ (by first | omega | (simp <;> omega)) _ | exact hB2)) hhi)) (hq2.out.frame (good_flat _) (Below.sameB (B := w.heap.size) (w := w) (by repeat (first | refine Below.setCell ?_ (by first | omega | (simp <;> omega)) _ | refine Below.alloc ?_ (by first | omega | (simp <;> omega)) _ | exact hB2)) hhi')) (by first | omega | (simp <;> omega)) (by first | omega | (simp <;> omega)) hm2.out).mono ?_
  rintro e w3 ⟨rfl, hb3⟩
  have hz3 := hb3.size
  try simp at hz3
  have hB3 : Below w.heap.size w w3 := Below.trans (by repeat (first | refine Below.setCell ?_ (by first | omega | (simp <;> omega)) _ | refine Below.alloc ?_ (by first | omega | (simp <;> omega)) _ | exact hB2)) (hb3.mono (by first | omega | (simp <;> omega)))
  have HX3 : Hid (w3.heap[w.heap.size]? = some (.cells #[.string d.name, .int .i64 d.code, .int .i64 d.adv, .slice h.out.A h.out.n h.out.c, .slice h.parts.A h.parts.n h.parts.c, .slice h.anchors.A h.anchors.n h.anchors.c, .string d.hints] 28 (0, 0))) := (hb3.block _ (by first | omega | (simp <;> omega))).trans HX2.out
  have HY3 : Hid (w3.heap[w.heap.size + 1]? = some (.cells #[.string d.name, .int .i64 d.code, .int .i64 d.adv, .slice h'.out.A h'.out.n h'.out.c, .slice h'.parts.A h'.parts.n h'.parts.c, .slice h'.anchors.A h'.anchors.n h'.anchors.c, .string d.hints] 28 (0, 0))) := (hb3.block _ (by first | omega | (simp <;> omega))).trans HY2.out
  clear HX2 HY2 cx5 cy5
  have cx6 : w3.cell? ⟨w.heap.size, 6, none⟩ = some (.string d.hints) := by rw [Go.Joins.cell_of_block HX3.out]; rfl
  have cy6 : w3.cell? ⟨w.heap.size + 1, 6, none⟩ = some (.string d.hints) := by rw [Go.Joins.cell_of_block HY3.out]; rfl
  clear hb3
  go_wp2_with fail
  go_ret
  exact ⟨rfl, (by repeat (first | refine Below.setCell ?_ (by first | omega | (simp <;> omega)) _ | refine Below.alloc ?_ (by first | omega | (simp <;> omega)) _ | exact hB3))⟩
end Go.Proofs.YtgdkabljgabjoaaGreatDoor

/- Slices of glyphs: the laws' copy and comparison. Conditions: as each states. -/
namespace Go.Proofs.YtgdkabljgabjoaaGreatDoor
open Go.RowKit
set_option linter.unusedVariables false
set_option maxRecDepth 100000

theorem elemGlyph : Elem Tryz.prog 34 28 7 120 := elem_mk (z := .agg #[.string ⟨#[]⟩, .int .i64 0, .int .i64 0, .slice none 0 0, .slice none 0 0, .slice none 0 0, .string ⟨#[]⟩]) Tryz.underlying34 (by kernel_rfl) rfl (by omega)
theorem infoGlyph : (Tryz.prog.info? 28).map (fun i => (i.zero, i.size, i.bytes)) = some (some (.agg #[.string ⟨#[]⟩, .int .i64 0, .int .i64 0, .slice none 0 0, .slice none 0 0, .slice none 0 0, .string ⟨#[]⟩]), 7, 120) := by kernel_rfl

/-- the first k glyphs stand in the row ys -/
def GlTo (w : World) (lo : Nat) (L : List Gl) (k : Nat) (ys : List Value) : Prop := ∀ (j : Nat) (g : Gl), j < k → L[j]? = some g → ∃ hh : GlH, (∀ i u, (glC g hh)[i]? = some u → ys[j * 7 + i]? = some u) ∧ GlRd w lo w.heap.size g hh ∧ hh.anchors.n ≤ hh.anchors.c
theorem GlTo.kept {w w' : World} {lo k : Nat} {L : List Gl} {ys : List Value} (h : GlTo w lo L k ys) (hs : SameB lo w.heap.size w w') (hz : w.heap.size ≤ w'.heap.size) : GlTo w' lo L k ys := fun j g hj hg => by
  obtain ⟨hh, h1, h2, h3⟩ := h j g hj hg
  exact ⟨hh, h1, (h2.frame hs).wide (Nat.le_refl _) hz, h3⟩
def set7 (ys : List Value) (m : Nat) (v0 v1 v2 v3 v4 v5 v6 : Value) : List Value := ((((((ys.set m v0).set (m + 1) v1).set (m + 2) v2).set (m + 3) v3).set (m + 4) v4).set (m + 5) v5).set (m + 6) v6
theorem set7_ne {ys : List Value} {m j : Nat} {v0 v1 v2 v3 v4 v5 v6 : Value} (h : j < m ∨ m + 7 ≤ j) : (set7 ys m v0 v1 v2 v3 v4 v5 v6)[j]? = ys[j]? := by
  unfold set7
  rw [List.getElem?_set_ne (by omega), List.getElem?_set_ne (by omega), List.getElem?_set_ne (by omega), List.getElem?_set_ne (by omega), List.getElem?_set_ne (by omega), List.getElem?_set_ne (by omega), List.getElem?_set_ne (by omega)]
theorem set7_at {ys : List Value} {m i : Nat} {u v0 v1 v2 v3 v4 v5 v6 : Value} (hl : m + 7 ≤ ys.length) (h : [v0, v1, v2, v3, v4, v5, v6][i]? = some u) : (set7 ys m v0 v1 v2 v3 v4 v5 v6)[m + i]? = some u := by
  unfold set7
  match i, h with
  | 0, h => simp at h; subst h; rw [show m + 0 = m from rfl, List.getElem?_set_ne (by omega), List.getElem?_set_ne (by omega), List.getElem?_set_ne (by omega), List.getElem?_set_ne (by omega), List.getElem?_set_ne (by omega), List.getElem?_set_ne (by omega), List.getElem?_set_self (by omega)]
  | 1, h => simp at h; subst h; rw [List.getElem?_set_ne (by omega), List.getElem?_set_ne (by omega), List.getElem?_set_ne (by omega), List.getElem?_set_ne (by omega), List.getElem?_set_ne (by omega), List.getElem?_set_self (by simp only [List.length_set]; omega)]
  | 2, h => simp at h; subst h; rw [List.getElem?_set_ne (by omega), List.getElem?_set_ne (by omega), List.getElem?_set_ne (by omega), List.getElem?_set_ne (by omega), List.getElem?_set_self (by simp only [List.length_set]; omega)]
  | 3, h => simp at h; subst h; rw [List.getElem?_set_ne (by omega), List.getElem?_set_ne (by omega), List.getElem?_set_ne (by omega), List.getElem?_set_self (by simp only [List.length_set]; omega)]
  | 4, h => simp at h; subst h; rw [List.getElem?_set_ne (by omega), List.getElem?_set_ne (by omega), List.getElem?_set_self (by simp only [List.length_set]; omega)]
  | 5, h => simp at h; subst h; rw [List.getElem?_set_ne (by omega), List.getElem?_set_self (by simp only [List.length_set]; omega)]
  | 6, h => simp at h; subst h; rw [List.getElem?_set_self (by simp only [List.length_set]; omega)]
theorem glTo_next {w w1 w2 : World} {X k : Nat} {L : List Gl} {ys : List Value} {d : Gl} {h' : GlH} (h : GlTo w (X + 1) L k ys) (hd : L[k]? = some d) (hX : X < w.heap.size) (hb : Below w.heap.size w w1) (hr : GlRd w1 w.heap.size w1.heap.size d h') (hcp : h'.anchors.n ≤ h'.anchors.c) (hs : SameB (X + 1) w1.heap.size w1 w2) (hz : w1.heap.size ≤ w2.heap.size) (hl : k * 7 + 7 ≤ ys.length) :
    GlTo w2 (X + 1) L (k + 1) (set7 ys (k * 7) (.string d.name) (.int .i64 d.code) (.int .i64 d.adv) (.slice h'.out.A h'.out.n h'.out.c) (.slice h'.parts.A h'.parts.n h'.parts.c) (.slice h'.anchors.A h'.anchors.n h'.anchors.c) (.string d.hints)) := by
  have hz1 := hb.size
  intro j g hj hg
  by_cases hjk : j = k
  · subst hjk
    have e := Option.some.inj (hd.symm.trans hg)
    subst e
    exact ⟨h', fun i u hu => set7_at hl hu, (hr.wide (by omega) (Nat.le_refl _) |>.frame hs).wide (Nat.le_refl _) hz, hcp⟩
  · obtain ⟨hh, h1, h2, h3⟩ := h j g (by omega) hg
    refine ⟨hh, fun i u hu => ?_, (((h2.frame (Below.sameB hb (Nat.le_refl _))).wide (Nat.le_refl _) hz1).frame hs).wide (Nat.le_refl _) hz, h3⟩
    rw [set7_ne]
    · exact h1 i u hu
    · have hi : i < 7 := by
        rcases Nat.lt_or_ge i 7 with h | h
        · exact h
        · rw [List.getElem?_eq_none (by simp [glC]; omega)] at hu; cases hu
      left
      have : j * 7 + 7 ≤ k * 7 := by omega
      omega

set_option maxRecDepth 100000 in
set_option maxHeartbeats 2000000 in
theorem eqGlyphS_rd (A A' : Option Addr) (n c n' c' lo hi lo' hi' : Nat) (L : List Gl) (w : World) (h1 : GsRd w lo hi A n L) (h2 : GsRd w lo' hi' A' n' L) (hh1 : hi ≤ w.heap.size) (hh2 : hi' ≤ w.heap.size) (hn : n ≤ 100000000 ∧ ∀ g ∈ L, g.small 100000000) :
    Calls Tryz.prog 49 #[.slice A n c, .slice A' n' c'] w fun e w' => e = .returned (.bool true) ∧ Below w.heap.size w w' := by
  obtain rfl : n = n' := h1.1.symm.trans h2.1
  obtain ⟨hn, hm⟩ := hn
  replace h1 := Lib.hid h1
  replace h2 := Lib.hid h2
  replace hm := Lib.hid hm
  go_enter Tryz.func49, Tryz.ntmps49
  go_wp2_with fail
  go_loopw [5] (fun i wr => ∃ k : Nat, i = .int .i64 k ∧ k ≤ n ∧ Below w.heap.size w wr) (fun i wr => n - (intOf i).toNat)
  case atStart => exact ⟨0, rfl, Nat.zero_le _, Below.refl _ _⟩
  case round =>
    obtain ⟨k, rfl, hk, hbel⟩ := hrel
    have hsz := hbel.size
    by_cases hlt : k < n
    · obtain ⟨b, off, d, x1, rfl, hb0, hb, hja, hcs, hr1⟩ := gs_at (h1.out.frame good_glyph (Below.sameB hbel hh1)) hlt
      obtain ⟨b', off', d', x2, rfl, hb0', hb', hja', hcs', hr2⟩ := gs_at (h2.out.frame good_glyph (Below.sameB hbel hh2)) hlt
      have hdd := Option.some.inj (hja.symm.trans hja')
      subst hdd
      have hsm := hm.out d (List.mem_of_getElem? hja)
      have q0 := hcs 0 _ rfl
      have p0 := hcs' 0 _ rfl
      have q1 := hcs 1 _ rfl
      have p1 := hcs' 1 _ rfl
      have q2 := hcs 2 _ rfl
      have p2 := hcs' 2 _ rfl
      have q3 := hcs 3 _ rfl
      have p3 := hcs' 3 _ rfl
      have q4 := hcs 4 _ rfl
      have p4 := hcs' 4 _ rfl
      have q5 := hcs 5 _ rfl
      have p5 := hcs' 5 _ rfl
      have q6 := hcs 6 _ rfl
      have p6 := hcs' 6 _ rfl
      simp only [Nat.add_zero] at q0 q1 q2 q3 q4 q5 q6 p0 p1 p2 p3 p4 p5 p6
      have hcall := Lib.hid (fun W (hB : SameB 0 wr.heap.size wr W) (hs : wr.heap.size ≤ W.heap.size) => eqGlyph_any d x1 x2 lo hi lo' hi' W (hr1.frame (hB.mono (Nat.zero_le _) (by omega))) (hr2.frame (hB.mono (Nat.zero_le _) (by omega))) (by omega) (by omega) hsm)
      have hbw : b < wr.heap.size := by omega
      have hbw' : b' < wr.heap.size := by omega
      clear hcs hcs' hr1 hr2 hja hja' hb0 hb0' hb hb' hsz hh1 hh2 h1 h2 hsm
      have hi : (0 : Int) ≤ (k : Int) ∧ (k : Int) < (n : Int) := by omega
      go_wp2_with fail
      go_still_tail 8, (by kernel_rfl)
      go_wp2_with (go_at_call 8; refine (hcall.out _ (SameB.refl _ _ wr).drew (Nat.le_refl _)).mono ?_; rintro e w1 ⟨rfl, hb1⟩)
      go_roundw
      case rel => exact ⟨k + 1, by go_num, by omega, hbel.drew.trans (hb1.mono (by simp; exact hbel.size))⟩
      case measure => simp [intOf]; omega
    · go_wp2_with fail
      go_ret
      exact ⟨rfl, hbel⟩
end Go.Proofs.YtgdkabljgabjoaaGreatDoor

/- The laws' own functions on a GlyphSet: the copy, the comparison. Conditions: as each states. -/
namespace Go.Proofs.YtgdkabljgabjoaaGreatDoor
open Go.RowKit
set_option linter.unusedVariables false
set_option maxRecDepth 100000

set_option maxHeartbeats 4000000 in
theorem eqGlyphSet_any (d : GSet) (h h' : GSetH) (lo hi lo' hi' : Nat) (w : World) (hr : GSetRd w lo hi d h) (hr' : GSetRd w lo' hi' d h') (hhi : hi ≤ w.heap.size) (hhi' : hi' ≤ w.heap.size) (hm : d.small 100000000) :
    Calls Tryz.prog 13 #[gsV d h, gsV d h'] w fun e w' => e = .returned (.bool true) ∧ Below w.heap.size w w' := by
  have hr0 := hr; clear hr
  have hq0 := hr'; clear hr'
  have hm0 := Lib.hid (hm.gl (n := h.gl.n) hr0.1)
  clear hm
  replace hr0 := Lib.hid hr0
  replace hq0 := Lib.hid hq0
  go_enter Tryz.func13, Tryz.ntmps13
  go_wp2_with fail
  refine (eqGlyphS_rd _ _ _ _ _ _ lo hi lo' hi' d.gl _ (hr0.out.frame good_glyph (Below.sameB (B := w.heap.size) (w := w) (by repeat (first | refine Below.setCell ?_ (by first | omega | (simp <;> omega)) _ | refine Below.alloc ?_ (by first | omega | (simp <;> omega)) _ | exact Below.refl _ _)) hhi)) (hq0.out.frame good_glyph (Below.sameB (B := w.heap.size) (w := w) (by repeat (first | refine Below.setCell ?_ (by first | omega | (simp <;> omega)) _ | refine Below.alloc ?_ (by first | omega | (simp <;> omega)) _ | exact Below.refl _ _)) hhi')) (by first | omega | (simp <;> omega)) (by first | omega | (simp <;> omega)) hm0.out).mono ?_
  rintro e w1 ⟨rfl, hb1⟩
  have hz1 := hb1.size
  try simp at hz1
  have hB1 : Below w.heap.size w w1 := Below.trans (by repeat (first | refine Below.setCell ?_ (by first | omega | (simp <;> omega)) _ | refine Below.alloc ?_ (by first | omega | (simp <;> omega)) _ | exact Below.refl _ _)) (hb1.mono (by first | omega | (simp <;> omega)))
  have hnew := heap_new2 w (.cells #[.int .i64 d.unit, .slice h.gl.A h.gl.n h.gl.c] 36 (0, 0)) (.cells #[.int .i64 d.unit, .slice h'.gl.A h'.gl.n h'.gl.c] 36 (0, 0))
  have HX1 : Hid (w1.heap[w.heap.size]? = some (.cells #[.int .i64 d.unit, .slice h.gl.A h.gl.n h.gl.c] 36 (0, 0))) := (hb1.block _ (by first | omega | (simp <;> omega))).trans hnew.1
  have HY1 : Hid (w1.heap[w.heap.size + 1]? = some (.cells #[.int .i64 d.unit, .slice h'.gl.A h'.gl.n h'.gl.c] 36 (0, 0))) := (hb1.block _ (by first | omega | (simp <;> omega))).trans hnew.2
  clear hnew
  clear hb1
  go_wp2_with fail
  go_ret
  exact ⟨rfl, (by repeat (first | refine Below.setCell ?_ (by first | omega | (simp <;> omega)) _ | refine Below.alloc ?_ (by first | omega | (simp <;> omega)) _ | exact hB1))⟩
end Go.Proofs.YtgdkabljgabjoaaGreatDoor

