/- Whether two scenes are the same: both sides. Printed by mk_sceq3.py. Conditions: as each states. -/
import Derived.Test.YtgfbcbbcnineiaaGreatSc40
import Derived.Test.YtgfbcbbcnineiaaGreatSc42
namespace Go.Proofs.YtgfbcbbcnineiaaGreat
open Go.RowKit
set_option linter.unusedVariables false
set_option maxRecDepth 100000

theorem specSameS_h (d d' : GSet) (h h' : GSetH) (b : Bool) (hb : b = decide (d = d')) (lo hi lo' hi' : Nat) (w : World) (hr : GSetRd w lo hi d h) (hr' : GSetRd w lo' hi' d' h') (hhi : hi ≤ w.heap.size) (hhi' : hi' ≤ w.heap.size) (hm : d.small 1000000000) (hm' : d'.small 1000000000) :
    Calls Tryz.prog 16 #[gsV d h, gsV d' h'] w fun e w' => e = .returned (.bool b) ∧ Below w.heap.size w w' :=
  specSameGS_any d.unit d'.unit h.gl.A h'.gl.A h.gl.n h.gl.c h'.gl.n h'.gl.c lo hi lo' hi' d.gl d'.gl b hb w hr hr' hhi hhi' (hm.gl hr.1).1 (hm'.gl hr'.1).1 hm.g hm'.g
theorem implSameS_h (d d' : GSet) (h h' : GSetH) (b : Bool) (hb : b = decide (d = d')) (lo hi lo' hi' : Nat) (w : World) (hr : GSetRd w lo hi d h) (hr' : GSetRd w lo' hi' d' h') (hhi : hi ≤ w.heap.size) (hhi' : hi' ≤ w.heap.size) (hm : d.small 1000000000) (hm' : d'.small 1000000000) :
    Calls Tryz.prog 32 #[gsV d h, gsV d' h'] w fun e w' => e = .returned (.bool b) ∧ Below w.heap.size w w' :=
  implSameGS_any d.unit d'.unit h.gl.A h'.gl.A h.gl.n h.gl.c h'.gl.n h'.gl.c lo hi lo' hi' d.gl d'.gl b hb w hr hr' hhi hhi' (hm.gl hr.1).1 (hm'.gl hr'.1).1 hm.g hm'.g
theorem scD_eq (d d' : ScD) : decide (d = d') = (decide (d.rows = d'.rows) && (decide (d.pens = d'.pens) && (decide (d.paths = d'.paths) && (decide (d.set = d'.set) && (decide (d.isOpen = d'.isOpen) && (decide (d.now = d'.now) && decide (d.shape = d'.shape))))))) := by
  obtain ⟨a1, a2, a3, a4, a5, a6, a7⟩ := d
  obtain ⟨b1, b2, b3, b4, b5, b6, b7⟩ := d'
  rw [Bool.eq_iff_iff]
  simp only [decide_eq_true_iff, Bool.and_eq_true, ScD.mk.injEq]

set_option maxHeartbeats 16000000 in
theorem implSameSc_any (d d' : ScD) (h h' : ScH) (b : Bool) (hb : b = decide (d = d')) (lo hi lo' hi' : Nat) (w : World) (hr : ScRd w lo hi d h) (hr' : ScRd w lo' hi' d' h') (hhi : hi ≤ w.heap.size) (hhi' : hi' ≤ w.heap.size) (hm : d.small 1000000000) (hm' : d'.small 1000000000) :
    Calls Tryz.prog 7 #[scV d h, scV d' h'] w fun e w' => e = .returned (.bool b) ∧ Below w.heap.size w w' := by
  obtain ⟨⟨RA, Rn, Rc⟩, ⟨PA, Pn, Pc⟩, ⟨QA, Qn, Qc⟩, hs, hn, ⟨SA, Sn, Sc⟩⟩ := h
  obtain ⟨⟨RA', Rn', Rc'⟩, ⟨PA', Pn', Pc'⟩, ⟨QA', Qn', Qc'⟩, ks, kn, ⟨SA', Sn', Sc'⟩⟩ := h'
  obtain ⟨r0, r1, r2, r3, r4, r5⟩ := hr
  obtain ⟨r0', r1', r2', r3', r4', r5'⟩ := hr'
  obtain ⟨m0, m1, m2, m3, m4, m5⟩ := hm
  obtain ⟨m0', m1', m2', m3', m4', m5'⟩ := hm'
  dsimp only at r0 r1 r2 r3 r4 r5 r0' r1' r2' r3' r4' r5'
  rw [scD_eq] at hb
  obtain ⟨tY, hY⟩ : ∃ t, t = decide (d.rows = d'.rows) := ⟨_, rfl⟩
  obtain ⟨tP, hP⟩ : ∃ t, t = decide (d.pens = d'.pens) := ⟨_, rfl⟩
  obtain ⟨tQ, hQ⟩ : ∃ t, t = decide (d.paths = d'.paths) := ⟨_, rfl⟩
  obtain ⟨tS, hS⟩ : ∃ t, t = decide (d.set = d'.set) := ⟨_, rfl⟩
  obtain ⟨tO, hO⟩ : ∃ t, t = decide (d.isOpen = d'.isOpen) := ⟨_, rfl⟩
  obtain ⟨tN, hN⟩ : ∃ t, t = decide (d.now = d'.now) := ⟨_, rfl⟩
  obtain ⟨tR, hR⟩ : ∃ t, t = decide (d.shape = d'.shape) := ⟨_, rfl⟩
  rw [← hY, ← hP, ← hQ, ← hS, ← hO, ← hN, ← hR] at hb
  replace r0 := Lib.hid r0
  replace r0' := Lib.hid r0'
  replace m0 := Lib.hid m0
  replace m0' := Lib.hid m0'
  replace r1 := Lib.hid r1
  replace r1' := Lib.hid r1'
  replace m1 := Lib.hid m1
  replace m1' := Lib.hid m1'
  replace r2 := Lib.hid r2
  replace r2' := Lib.hid r2'
  replace m2 := Lib.hid m2
  replace m2' := Lib.hid m2'
  replace r3 := Lib.hid r3
  replace r3' := Lib.hid r3'
  replace m3 := Lib.hid m3
  replace m3' := Lib.hid m3'
  replace r4 := Lib.hid r4
  replace r4' := Lib.hid r4'
  replace m4 := Lib.hid m4
  replace m4' := Lib.hid m4'
  replace r5 := Lib.hid r5
  replace r5' := Lib.hid r5'
  replace m5 := Lib.hid m5
  replace m5' := Lib.hid m5'
  replace hY := Lib.hid hY
  replace hP := Lib.hid hP
  replace hQ := Lib.hid hQ
  replace hS := Lib.hid hS
  replace hO := Lib.hid hO
  replace hN := Lib.hid hN
  replace hR := Lib.hid hR
  replace hb := Lib.hid hb
  have hB0 : Below w.heap.size w ((w.alloc (.cells #[.slice RA Rn Rc, .slice PA Pn Pc, .slice QA Qn Qc, .int .i64 d.set.unit, .slice hs.gl.A hs.gl.n hs.gl.c, .bool d.isOpen, .string d.now.name, .int .i64 d.now.code, .int .i64 d.now.adv, .slice hn.out.A hn.out.n hn.out.c, .slice hn.parts.A hn.parts.n hn.parts.c, .slice hn.anchors.A hn.anchors.n hn.anchors.c, .string d.now.hints, .slice SA Sn Sc] 63 (0, 0))).alloc (.cells #[.slice RA' Rn' Rc', .slice PA' Pn' Pc', .slice QA' Qn' Qc', .int .i64 d'.set.unit, .slice ks.gl.A ks.gl.n ks.gl.c, .bool d'.isOpen, .string d'.now.name, .int .i64 d'.now.code, .int .i64 d'.now.adv, .slice kn.out.A kn.out.n kn.out.c, .slice kn.parts.A kn.parts.n kn.parts.c, .slice kn.anchors.A kn.anchors.n kn.anchors.c, .string d'.now.hints, .slice SA' Sn' Sc'] 63 (0, 0))) := Go.Joins.below_alloc2 _ _ _
  have hnew := Lib.hid (heap_two w (.cells #[.slice RA Rn Rc, .slice PA Pn Pc, .slice QA Qn Qc, .int .i64 d.set.unit, .slice hs.gl.A hs.gl.n hs.gl.c, .bool d.isOpen, .string d.now.name, .int .i64 d.now.code, .int .i64 d.now.adv, .slice hn.out.A hn.out.n hn.out.c, .slice hn.parts.A hn.parts.n hn.parts.c, .slice hn.anchors.A hn.anchors.n hn.anchors.c, .string d.now.hints, .slice SA Sn Sc] 63 (0, 0)) (.cells #[.slice RA' Rn' Rc', .slice PA' Pn' Pc', .slice QA' Qn' Qc', .int .i64 d'.set.unit, .slice ks.gl.A ks.gl.n ks.gl.c, .bool d'.isOpen, .string d'.now.name, .int .i64 d'.now.code, .int .i64 d'.now.adv, .slice kn.out.A kn.out.n kn.out.c, .slice kn.parts.A kn.parts.n kn.parts.c, .slice kn.anchors.A kn.anchors.n kn.anchors.c, .string d'.now.hints, .slice SA' Sn' Sc'] 63 (0, 0)))

  have hc1 := Lib.hid (equalFNamedPen_any PA PA' Pn Pc Pn' Pc' lo hi lo' hi' d.pens d'.pens tP hP.out ((w.alloc (.cells #[.slice RA Rn Rc, .slice PA Pn Pc, .slice QA Qn Qc, .int .i64 d.set.unit, .slice hs.gl.A hs.gl.n hs.gl.c, .bool d.isOpen, .string d.now.name, .int .i64 d.now.code, .int .i64 d.now.adv, .slice hn.out.A hn.out.n hn.out.c, .slice hn.parts.A hn.parts.n hn.parts.c, .slice hn.anchors.A hn.anchors.n hn.anchors.c, .string d.now.hints, .slice SA Sn Sc] 63 (0, 0))).alloc (.cells #[.slice RA' Rn' Rc', .slice PA' Pn' Pc', .slice QA' Qn' Qc', .int .i64 d'.set.unit, .slice ks.gl.A ks.gl.n ks.gl.c, .bool d'.isOpen, .string d'.now.name, .int .i64 d'.now.code, .int .i64 d'.now.adv, .slice kn.out.A kn.out.n kn.out.c, .slice kn.parts.A kn.parts.n kn.parts.c, .slice kn.anchors.A kn.anchors.n kn.anchors.c, .string d'.now.hints, .slice SA' Sn' Sc'] 63 (0, 0))) (r1.out.frame good_pen (Below.sameB hB0 hhi)) (r1'.out.frame good_pen (Below.sameB hB0 hhi')) (Nat.le_trans hhi hB0.size) (Nat.le_trans hhi' hB0.size) m1.out m1'.out)
  go_enter Tryz.func7, Tryz.ntmps7
  go_wp2_with fail
  refine hc1.out.mono ?_
  rintro e w1 ⟨rfl, hb1⟩
  have hB1 := hB0.trans (hb1.mono hB0.size)
  have hX1 := Lib.hid ((hb1.block w.heap.size (by simp <;> omega)).trans hnew.out.1)
  have hY1 := Lib.hid ((hb1.block (w.heap.size + 1) (by simp <;> omega)).trans hnew.out.2)
  have hz1 : w.heap.size + 1 < w1.heap.size := (Array.getElem?_eq_some_iff.1 hY1.out).1
  have x1_2 : w1.cell? ⟨w.heap.size, 2, none⟩ = some (.slice QA Qn Qc) := by rw [Go.Joins.cell_of_block hX1.out]; rfl
  have y1_2 : w1.cell? ⟨w.heap.size + 1, 2, none⟩ = some (.slice QA' Qn' Qc') := by rw [Go.Joins.cell_of_block hY1.out]; rfl
  clear hb1 hnew
  clear hc1
  have hc2 := Lib.hid (equalFNamedPath_any QA QA' Qn Qc Qn' Qc' lo hi lo' hi' d.paths d'.paths tQ hQ.out w1 (r2.out.frame good_npath (Below.sameB hB1 hhi)) (r2'.out.frame good_npath (Below.sameB hB1 hhi')) (Nat.le_trans hhi hB1.size) (Nat.le_trans hhi' hB1.size) m2.out m2'.out)
  go_wp2_with fail
  refine hc2.out.mono ?_
  rintro e w2 ⟨rfl, hb2⟩
  have hB2 := hB1.trans (hb2.mono hB1.size)
  have hX2 := Lib.hid ((hb2.block w.heap.size (by omega)).trans hX1.out)
  have hY2 := Lib.hid ((hb2.block (w.heap.size + 1) (by omega)).trans hY1.out)
  have hz2 : w.heap.size + 1 < w2.heap.size := (Array.getElem?_eq_some_iff.1 hY2.out).1
  have x2_0 : w2.cell? ⟨w.heap.size, 0, none⟩ = some (.slice RA Rn Rc) := by rw [Go.Joins.cell_of_block hX2.out]; rfl
  have y2_0 : w2.cell? ⟨w.heap.size + 1, 0, none⟩ = some (.slice RA' Rn' Rc') := by rw [Go.Joins.cell_of_block hY2.out]; rfl
  clear hb2 hX1 hY1 hz1
  clear x1_2 y1_2
  clear hc2
  cases tP with
  | false =>
    have hbf : b = false := by rw [hb.out]; simp
    subst hbf
    go_wp2_with fail
    go_ret
    exact ⟨rfl, hB2⟩
  | true =>
  cases tQ with
  | false =>
    have hbf : b = false := by rw [hb.out]; simp
    subst hbf
    go_wp2_with fail
    go_ret
    exact ⟨rfl, hB2⟩
  | true =>
  have hc3 := Lib.hid (implSameSys_any ⟨RA, Rn, Rc⟩ ⟨RA', Rn', Rc'⟩ lo hi lo' hi' d.rows d'.rows tY hY.out w2 (r0.out.frame good_row (Below.sameB hB2 hhi)) (r0'.out.frame good_row (Below.sameB hB2 hhi')) (Nat.le_trans hhi hB2.size) (Nat.le_trans hhi' hB2.size) m0.out m0'.out)
  go_wp2_with fail
  refine hc3.out.mono ?_
  rintro e w3 ⟨rfl, hb3⟩
  have hB3 := hB2.trans (hb3.mono hB2.size)
  have hX3 := Lib.hid ((hb3.block w.heap.size (by omega)).trans hX2.out)
  have hY3 := Lib.hid ((hb3.block (w.heap.size + 1) (by omega)).trans hY2.out)
  have hz3 : w.heap.size + 1 < w3.heap.size := (Array.getElem?_eq_some_iff.1 hY3.out).1
  have x3_3 : w3.cell? ⟨w.heap.size, 3, none⟩ = some (.int .i64 d.set.unit) := by rw [Go.Joins.cell_of_block hX3.out]; rfl
  have y3_3 : w3.cell? ⟨w.heap.size + 1, 3, none⟩ = some (.int .i64 d'.set.unit) := by rw [Go.Joins.cell_of_block hY3.out]; rfl
  have x3_4 : w3.cell? ⟨w.heap.size, 4, none⟩ = some (.slice hs.gl.A hs.gl.n hs.gl.c) := by rw [Go.Joins.cell_of_block hX3.out]; rfl
  have y3_4 : w3.cell? ⟨w.heap.size + 1, 4, none⟩ = some (.slice ks.gl.A ks.gl.n ks.gl.c) := by rw [Go.Joins.cell_of_block hY3.out]; rfl
  clear hb3 hX2 hY2 hz2
  clear x2_0 y2_0
  clear hc3
  cases tY with
  | false =>
    have hbf : b = false := by rw [hb.out]; simp
    subst hbf
    go_wp2_with fail
    go_ret
    exact ⟨rfl, hB3⟩
  | true =>
  have hc4 := Lib.hid (implSameS_h d.set d'.set hs ks tS hS.out lo hi lo' hi' w3 (r3.out.frame good_glyph (Below.sameB hB3 hhi)) (r3'.out.frame good_glyph (Below.sameB hB3 hhi')) (Nat.le_trans hhi hB3.size) (Nat.le_trans hhi' hB3.size) m3.out m3'.out)
  go_wp2_with fail
  refine hc4.out.mono ?_
  rintro e w4 ⟨rfl, hb4⟩
  have hB4 := hB3.trans (hb4.mono hB3.size)
  have hX4 := Lib.hid ((hb4.block w.heap.size (by omega)).trans hX3.out)
  have hY4 := Lib.hid ((hb4.block (w.heap.size + 1) (by omega)).trans hY3.out)
  have hz4 : w.heap.size + 1 < w4.heap.size := (Array.getElem?_eq_some_iff.1 hY4.out).1
  have x4_5 : w4.cell? ⟨w.heap.size, 5, none⟩ = some (.bool d.isOpen) := by rw [Go.Joins.cell_of_block hX4.out]; rfl
  have y4_5 : w4.cell? ⟨w.heap.size + 1, 5, none⟩ = some (.bool d'.isOpen) := by rw [Go.Joins.cell_of_block hY4.out]; rfl
  have x4_6 : w4.cell? ⟨w.heap.size, 6, none⟩ = some (.string d.now.name) := by rw [Go.Joins.cell_of_block hX4.out]; rfl
  have y4_6 : w4.cell? ⟨w.heap.size + 1, 6, none⟩ = some (.string d'.now.name) := by rw [Go.Joins.cell_of_block hY4.out]; rfl
  have x4_7 : w4.cell? ⟨w.heap.size, 7, none⟩ = some (.int .i64 d.now.code) := by rw [Go.Joins.cell_of_block hX4.out]; rfl
  have y4_7 : w4.cell? ⟨w.heap.size + 1, 7, none⟩ = some (.int .i64 d'.now.code) := by rw [Go.Joins.cell_of_block hY4.out]; rfl
  have x4_8 : w4.cell? ⟨w.heap.size, 8, none⟩ = some (.int .i64 d.now.adv) := by rw [Go.Joins.cell_of_block hX4.out]; rfl
  have y4_8 : w4.cell? ⟨w.heap.size + 1, 8, none⟩ = some (.int .i64 d'.now.adv) := by rw [Go.Joins.cell_of_block hY4.out]; rfl
  have x4_9 : w4.cell? ⟨w.heap.size, 9, none⟩ = some (.slice hn.out.A hn.out.n hn.out.c) := by rw [Go.Joins.cell_of_block hX4.out]; rfl
  have y4_9 : w4.cell? ⟨w.heap.size + 1, 9, none⟩ = some (.slice kn.out.A kn.out.n kn.out.c) := by rw [Go.Joins.cell_of_block hY4.out]; rfl
  have x4_10 : w4.cell? ⟨w.heap.size, 10, none⟩ = some (.slice hn.parts.A hn.parts.n hn.parts.c) := by rw [Go.Joins.cell_of_block hX4.out]; rfl
  have y4_10 : w4.cell? ⟨w.heap.size + 1, 10, none⟩ = some (.slice kn.parts.A kn.parts.n kn.parts.c) := by rw [Go.Joins.cell_of_block hY4.out]; rfl
  have x4_11 : w4.cell? ⟨w.heap.size, 11, none⟩ = some (.slice hn.anchors.A hn.anchors.n hn.anchors.c) := by rw [Go.Joins.cell_of_block hX4.out]; rfl
  have y4_11 : w4.cell? ⟨w.heap.size + 1, 11, none⟩ = some (.slice kn.anchors.A kn.anchors.n kn.anchors.c) := by rw [Go.Joins.cell_of_block hY4.out]; rfl
  have x4_12 : w4.cell? ⟨w.heap.size, 12, none⟩ = some (.string d.now.hints) := by rw [Go.Joins.cell_of_block hX4.out]; rfl
  have y4_12 : w4.cell? ⟨w.heap.size + 1, 12, none⟩ = some (.string d'.now.hints) := by rw [Go.Joins.cell_of_block hY4.out]; rfl
  clear hb4 hX3 hY3 hz3
  clear x3_3 y3_3 x3_4 y3_4
  clear hc4
  cases tS with
  | false =>
    have hbf : b = false := by rw [hb.out]; simp
    subst hbf
    go_wp2_with fail
    go_ret
    exact ⟨rfl, hB4⟩
  | true =>
  by_cases eo : d.isOpen = d'.isOpen
  rotate_left
  · have ho : (d.isOpen == d'.isOpen) = false := by simp [eo]
    have hbf : b = false := by rw [hb.out, hO.out]; simp [eo]
    subst hbf
    clear eo
    go_wp2_with fail
    go_ret
    exact ⟨rfl, hB4⟩
  have ho : (d.isOpen == d'.isOpen) = true := by simp [eo]
  have hto : tO = true := by rw [hO.out]; simp [eo]
  replace eo := Lib.hid eo
  have hc5 := Lib.hid (implSameG_any d.now d'.now hn kn tN hN.out lo hi lo' hi' w4 (r4.out.frame (Below.sameB hB4 hhi)) (r4'.out.frame (Below.sameB hB4 hhi')) (Nat.le_trans hhi hB4.size) (Nat.le_trans hhi' hB4.size) m4.out m4'.out)
  go_wp2_with fail
  refine hc5.out.mono ?_
  rintro e w5 ⟨rfl, hb5⟩
  have hB5 := hB4.trans (hb5.mono hB4.size)
  have hX5 := Lib.hid ((hb5.block w.heap.size (by omega)).trans hX4.out)
  have hY5 := Lib.hid ((hb5.block (w.heap.size + 1) (by omega)).trans hY4.out)
  have hz5 : w.heap.size + 1 < w5.heap.size := (Array.getElem?_eq_some_iff.1 hY5.out).1
  have x5_13 : w5.cell? ⟨w.heap.size, 13, none⟩ = some (.slice SA Sn Sc) := by rw [Go.Joins.cell_of_block hX5.out]; rfl
  have y5_13 : w5.cell? ⟨w.heap.size + 1, 13, none⟩ = some (.slice SA' Sn' Sc') := by rw [Go.Joins.cell_of_block hY5.out]; rfl
  clear hb5 hX4 hY4 hz4
  clear x4_5 y4_5 x4_6 y4_6 x4_7 y4_7 x4_8 y4_8 x4_9 y4_9 x4_10 y4_10 x4_11 y4_11 x4_12 y4_12
  clear hc5
  cases tN with
  | false =>
    have hbf : b = false := by rw [hb.out]; simp
    subst hbf
    go_wp2_with fail
    go_ret
    exact ⟨rfl, hB5⟩
  | true =>
  have hc6 := Lib.hid (implSameReg_any SA SA' Sn Sc Sn' Sc' lo hi lo' hi' d.shape d'.shape tR hR.out w5 (r5.out.frame good_ring (Below.sameB hB5 hhi)) (r5'.out.frame good_ring (Below.sameB hB5 hhi')) (Nat.le_trans hhi hB5.size) (Nat.le_trans hhi' hB5.size) (Nat.le_trans (Nat.le_of_eq r5.out.1.symm) m5.out.1) (Nat.le_trans (Nat.le_of_eq r5'.out.1.symm) m5'.out.1) m5.out.2 m5'.out.2)
  go_wp2_with fail
  refine hc6.out.mono ?_
  rintro e w6 ⟨rfl, hb6⟩
  have hB6 := hB5.trans (hb6.mono hB5.size)
  have hbr : b = tR := by rw [hb.out, hto]; simp
  subst hbr
  clear hc6 hto hb
  go_wp2_with fail
  all_goals go_ret
  all_goals exact ⟨rfl, hB6⟩

set_option maxHeartbeats 16000000 in
theorem specSameSc_any (d d' : ScD) (h h' : ScH) (b : Bool) (hb : b = decide (d = d')) (lo hi lo' hi' : Nat) (w : World) (hr : ScRd w lo hi d h) (hr' : ScRd w lo' hi' d' h') (hhi : hi ≤ w.heap.size) (hhi' : hi' ≤ w.heap.size) (hm : d.small 1000000000) (hm' : d'.small 1000000000) :
    Calls Tryz.prog 5 #[scV d h, scV d' h'] w fun e w' => e = .returned (.bool b) ∧ Below w.heap.size w w' := by
  obtain ⟨⟨RA, Rn, Rc⟩, ⟨PA, Pn, Pc⟩, ⟨QA, Qn, Qc⟩, hs, hn, ⟨SA, Sn, Sc⟩⟩ := h
  obtain ⟨⟨RA', Rn', Rc'⟩, ⟨PA', Pn', Pc'⟩, ⟨QA', Qn', Qc'⟩, ks, kn, ⟨SA', Sn', Sc'⟩⟩ := h'
  obtain ⟨r0, r1, r2, r3, r4, r5⟩ := hr
  obtain ⟨r0', r1', r2', r3', r4', r5'⟩ := hr'
  obtain ⟨m0, m1, m2, m3, m4, m5⟩ := hm
  obtain ⟨m0', m1', m2', m3', m4', m5'⟩ := hm'
  dsimp only at r0 r1 r2 r3 r4 r5 r0' r1' r2' r3' r4' r5'
  rw [scD_eq] at hb
  obtain ⟨tY, hY⟩ : ∃ t, t = decide (d.rows = d'.rows) := ⟨_, rfl⟩
  obtain ⟨tP, hP⟩ : ∃ t, t = decide (d.pens = d'.pens) := ⟨_, rfl⟩
  obtain ⟨tQ, hQ⟩ : ∃ t, t = decide (d.paths = d'.paths) := ⟨_, rfl⟩
  obtain ⟨tS, hS⟩ : ∃ t, t = decide (d.set = d'.set) := ⟨_, rfl⟩
  obtain ⟨tO, hO⟩ : ∃ t, t = decide (d.isOpen = d'.isOpen) := ⟨_, rfl⟩
  obtain ⟨tN, hN⟩ : ∃ t, t = decide (d.now = d'.now) := ⟨_, rfl⟩
  obtain ⟨tR, hR⟩ : ∃ t, t = decide (d.shape = d'.shape) := ⟨_, rfl⟩
  rw [← hY, ← hP, ← hQ, ← hS, ← hO, ← hN, ← hR] at hb
  replace r0 := Lib.hid r0
  replace r0' := Lib.hid r0'
  replace m0 := Lib.hid m0
  replace m0' := Lib.hid m0'
  replace r1 := Lib.hid r1
  replace r1' := Lib.hid r1'
  replace m1 := Lib.hid m1
  replace m1' := Lib.hid m1'
  replace r2 := Lib.hid r2
  replace r2' := Lib.hid r2'
  replace m2 := Lib.hid m2
  replace m2' := Lib.hid m2'
  replace r3 := Lib.hid r3
  replace r3' := Lib.hid r3'
  replace m3 := Lib.hid m3
  replace m3' := Lib.hid m3'
  replace r4 := Lib.hid r4
  replace r4' := Lib.hid r4'
  replace m4 := Lib.hid m4
  replace m4' := Lib.hid m4'
  replace r5 := Lib.hid r5
  replace r5' := Lib.hid r5'
  replace m5 := Lib.hid m5
  replace m5' := Lib.hid m5'
  replace hY := Lib.hid hY
  replace hP := Lib.hid hP
  replace hQ := Lib.hid hQ
  replace hS := Lib.hid hS
  replace hO := Lib.hid hO
  replace hN := Lib.hid hN
  replace hR := Lib.hid hR
  replace hb := Lib.hid hb
  have hB0 : Below w.heap.size w ((w.alloc (.cells #[.slice RA Rn Rc, .slice PA Pn Pc, .slice QA Qn Qc, .int .i64 d.set.unit, .slice hs.gl.A hs.gl.n hs.gl.c, .bool d.isOpen, .string d.now.name, .int .i64 d.now.code, .int .i64 d.now.adv, .slice hn.out.A hn.out.n hn.out.c, .slice hn.parts.A hn.parts.n hn.parts.c, .slice hn.anchors.A hn.anchors.n hn.anchors.c, .string d.now.hints, .slice SA Sn Sc] 63 (0, 0))).alloc (.cells #[.slice RA' Rn' Rc', .slice PA' Pn' Pc', .slice QA' Qn' Qc', .int .i64 d'.set.unit, .slice ks.gl.A ks.gl.n ks.gl.c, .bool d'.isOpen, .string d'.now.name, .int .i64 d'.now.code, .int .i64 d'.now.adv, .slice kn.out.A kn.out.n kn.out.c, .slice kn.parts.A kn.parts.n kn.parts.c, .slice kn.anchors.A kn.anchors.n kn.anchors.c, .string d'.now.hints, .slice SA' Sn' Sc'] 63 (0, 0))) := Go.Joins.below_alloc2 _ _ _
  have hnew := Lib.hid (heap_two w (.cells #[.slice RA Rn Rc, .slice PA Pn Pc, .slice QA Qn Qc, .int .i64 d.set.unit, .slice hs.gl.A hs.gl.n hs.gl.c, .bool d.isOpen, .string d.now.name, .int .i64 d.now.code, .int .i64 d.now.adv, .slice hn.out.A hn.out.n hn.out.c, .slice hn.parts.A hn.parts.n hn.parts.c, .slice hn.anchors.A hn.anchors.n hn.anchors.c, .string d.now.hints, .slice SA Sn Sc] 63 (0, 0)) (.cells #[.slice RA' Rn' Rc', .slice PA' Pn' Pc', .slice QA' Qn' Qc', .int .i64 d'.set.unit, .slice ks.gl.A ks.gl.n ks.gl.c, .bool d'.isOpen, .string d'.now.name, .int .i64 d'.now.code, .int .i64 d'.now.adv, .slice kn.out.A kn.out.n kn.out.c, .slice kn.parts.A kn.parts.n kn.parts.c, .slice kn.anchors.A kn.anchors.n kn.anchors.c, .string d'.now.hints, .slice SA' Sn' Sc'] 63 (0, 0)))

  have hfp := Lib.hid (fun (e : Pn = Pn') (h : d.pens.take Pn = d'.pens.take Pn) => take_eq_done (n := Pn) h r1.out.1 (e ▸ r1'.out.1))
  have hc1 := Lib.hid (specSameSys_any ⟨RA, Rn, Rc⟩ ⟨RA', Rn', Rc'⟩ lo hi lo' hi' d.rows d'.rows tY hY.out ((w.alloc (.cells #[.slice RA Rn Rc, .slice PA Pn Pc, .slice QA Qn Qc, .int .i64 d.set.unit, .slice hs.gl.A hs.gl.n hs.gl.c, .bool d.isOpen, .string d.now.name, .int .i64 d.now.code, .int .i64 d.now.adv, .slice hn.out.A hn.out.n hn.out.c, .slice hn.parts.A hn.parts.n hn.parts.c, .slice hn.anchors.A hn.anchors.n hn.anchors.c, .string d.now.hints, .slice SA Sn Sc] 63 (0, 0))).alloc (.cells #[.slice RA' Rn' Rc', .slice PA' Pn' Pc', .slice QA' Qn' Qc', .int .i64 d'.set.unit, .slice ks.gl.A ks.gl.n ks.gl.c, .bool d'.isOpen, .string d'.now.name, .int .i64 d'.now.code, .int .i64 d'.now.adv, .slice kn.out.A kn.out.n kn.out.c, .slice kn.parts.A kn.parts.n kn.parts.c, .slice kn.anchors.A kn.anchors.n kn.anchors.c, .string d'.now.hints, .slice SA' Sn' Sc'] 63 (0, 0))) (r0.out.frame good_row (Below.sameB hB0 hhi)) (r0'.out.frame good_row (Below.sameB hB0 hhi')) (Nat.le_trans hhi hB0.size) (Nat.le_trans hhi' hB0.size) m0.out m0'.out)
  go_enter Tryz.func5, Tryz.ntmps5
  go_wp2_with fail
  refine hc1.out.mono ?_
  rintro e w1 ⟨rfl, hb1⟩
  have hB1 := hB0.trans (hb1.mono hB0.size)
  have hX1 := Lib.hid ((hb1.block w.heap.size (by simp <;> omega)).trans hnew.out.1)
  have hY1 := Lib.hid ((hb1.block (w.heap.size + 1) (by simp <;> omega)).trans hnew.out.2)
  have hz1 : w.heap.size + 1 < w1.heap.size := (Array.getElem?_eq_some_iff.1 hY1.out).1
  have x1_1 : w1.cell? ⟨w.heap.size, 1, none⟩ = some (.slice PA Pn Pc) := by rw [Go.Joins.cell_of_block hX1.out]; rfl
  have y1_1 : w1.cell? ⟨w.heap.size + 1, 1, none⟩ = some (.slice PA' Pn' Pc') := by rw [Go.Joins.cell_of_block hY1.out]; rfl
  have x1_2 : w1.cell? ⟨w.heap.size, 2, none⟩ = some (.slice QA Qn Qc) := by rw [Go.Joins.cell_of_block hX1.out]; rfl
  have y1_2 : w1.cell? ⟨w.heap.size + 1, 2, none⟩ = some (.slice QA' Qn' Qc') := by rw [Go.Joins.cell_of_block hY1.out]; rfl
  have x1_3 : w1.cell? ⟨w.heap.size, 3, none⟩ = some (.int .i64 d.set.unit) := by rw [Go.Joins.cell_of_block hX1.out]; rfl
  have y1_3 : w1.cell? ⟨w.heap.size + 1, 3, none⟩ = some (.int .i64 d'.set.unit) := by rw [Go.Joins.cell_of_block hY1.out]; rfl
  have x1_4 : w1.cell? ⟨w.heap.size, 4, none⟩ = some (.slice hs.gl.A hs.gl.n hs.gl.c) := by rw [Go.Joins.cell_of_block hX1.out]; rfl
  have y1_4 : w1.cell? ⟨w.heap.size + 1, 4, none⟩ = some (.slice ks.gl.A ks.gl.n ks.gl.c) := by rw [Go.Joins.cell_of_block hY1.out]; rfl
  clear hb1 hnew
  clear hc1
  cases tY with
  | false =>
    have hbf : b = false := by rw [hb.out]; simp
    subst hbf
    go_wp2_with fail
    go_ret
    exact ⟨rfl, hB1⟩
  | true =>
  by_cases eP : Pn = Pn'
  rotate_left
  · have t1 : ((Pn : Int) == (Pn' : Int)) = false := by simp; omega
    have t2 : ((Pn : Int) != (Pn' : Int)) = true := by simp; omega
    have htf : tP = false := by rw [hP.out, decide_eq_false_iff_not]; intro e; exact eP (by rw [← r1.out.1, ← r1'.out.1, e])
    have hbf : b = false := by rw [hb.out, htf]; simp
    subst hbf
    clear eP htf
    go_wp2_with fail
    go_ret
    exact ⟨rfl, hB1⟩
  subst eP

  by_cases eQ : Qn = Qn'
  rotate_left
  · have t1 : ((Qn : Int) == (Qn' : Int)) = false := by simp; omega
    have t2 : ((Qn : Int) != (Qn' : Int)) = true := by simp; omega
    have htf : tQ = false := by rw [hQ.out, decide_eq_false_iff_not]; intro e; exact eQ (by rw [← r2.out.1, ← r2'.out.1, e])
    have hbf : b = false := by rw [hb.out, htf]; simp
    subst hbf
    clear eQ htf
    go_wp2_with fail
    go_ret
    exact ⟨rfl, hB1⟩
  subst eQ

  replace hfp := Lib.hid (hfp.out rfl)
  have hPn : Pn ≤ 1000000000 := Nat.le_trans (Nat.le_of_eq r1.out.1.symm) m1.out.1
  have hQn : Qn ≤ 1000000000 := Nat.le_trans (Nat.le_of_eq r2.out.1.symm) m2.out.1
  have hfq := Lib.hid (fun h => take_eq_done (n := Qn) h r2.out.1 r2'.out.1)
  have hc2 := Lib.hid (specSameS_h d.set d'.set hs ks tS hS.out lo hi lo' hi' w1 (r3.out.frame good_glyph (Below.sameB hB1 hhi)) (r3'.out.frame good_glyph (Below.sameB hB1 hhi')) (Nat.le_trans hhi hB1.size) (Nat.le_trans hhi' hB1.size) m3.out m3'.out)
  go_wp2_with fail
  refine hc2.out.mono ?_
  rintro e w2 ⟨rfl, hb2⟩
  have hB2 := hB1.trans (hb2.mono hB1.size)
  have hX2 := Lib.hid ((hb2.block w.heap.size (by omega)).trans hX1.out)
  have hY2 := Lib.hid ((hb2.block (w.heap.size + 1) (by omega)).trans hY1.out)
  have hz2 : w.heap.size + 1 < w2.heap.size := (Array.getElem?_eq_some_iff.1 hY2.out).1
  have x2_5 : w2.cell? ⟨w.heap.size, 5, none⟩ = some (.bool d.isOpen) := by rw [Go.Joins.cell_of_block hX2.out]; rfl
  have y2_5 : w2.cell? ⟨w.heap.size + 1, 5, none⟩ = some (.bool d'.isOpen) := by rw [Go.Joins.cell_of_block hY2.out]; rfl
  have x2_6 : w2.cell? ⟨w.heap.size, 6, none⟩ = some (.string d.now.name) := by rw [Go.Joins.cell_of_block hX2.out]; rfl
  have y2_6 : w2.cell? ⟨w.heap.size + 1, 6, none⟩ = some (.string d'.now.name) := by rw [Go.Joins.cell_of_block hY2.out]; rfl
  have x2_7 : w2.cell? ⟨w.heap.size, 7, none⟩ = some (.int .i64 d.now.code) := by rw [Go.Joins.cell_of_block hX2.out]; rfl
  have y2_7 : w2.cell? ⟨w.heap.size + 1, 7, none⟩ = some (.int .i64 d'.now.code) := by rw [Go.Joins.cell_of_block hY2.out]; rfl
  have x2_8 : w2.cell? ⟨w.heap.size, 8, none⟩ = some (.int .i64 d.now.adv) := by rw [Go.Joins.cell_of_block hX2.out]; rfl
  have y2_8 : w2.cell? ⟨w.heap.size + 1, 8, none⟩ = some (.int .i64 d'.now.adv) := by rw [Go.Joins.cell_of_block hY2.out]; rfl
  have x2_9 : w2.cell? ⟨w.heap.size, 9, none⟩ = some (.slice hn.out.A hn.out.n hn.out.c) := by rw [Go.Joins.cell_of_block hX2.out]; rfl
  have y2_9 : w2.cell? ⟨w.heap.size + 1, 9, none⟩ = some (.slice kn.out.A kn.out.n kn.out.c) := by rw [Go.Joins.cell_of_block hY2.out]; rfl
  have x2_10 : w2.cell? ⟨w.heap.size, 10, none⟩ = some (.slice hn.parts.A hn.parts.n hn.parts.c) := by rw [Go.Joins.cell_of_block hX2.out]; rfl
  have y2_10 : w2.cell? ⟨w.heap.size + 1, 10, none⟩ = some (.slice kn.parts.A kn.parts.n kn.parts.c) := by rw [Go.Joins.cell_of_block hY2.out]; rfl
  have x2_11 : w2.cell? ⟨w.heap.size, 11, none⟩ = some (.slice hn.anchors.A hn.anchors.n hn.anchors.c) := by rw [Go.Joins.cell_of_block hX2.out]; rfl
  have y2_11 : w2.cell? ⟨w.heap.size + 1, 11, none⟩ = some (.slice kn.anchors.A kn.anchors.n kn.anchors.c) := by rw [Go.Joins.cell_of_block hY2.out]; rfl
  have x2_12 : w2.cell? ⟨w.heap.size, 12, none⟩ = some (.string d.now.hints) := by rw [Go.Joins.cell_of_block hX2.out]; rfl
  have y2_12 : w2.cell? ⟨w.heap.size + 1, 12, none⟩ = some (.string d'.now.hints) := by rw [Go.Joins.cell_of_block hY2.out]; rfl
  clear hb2 hX1 hY1 hz1
  clear x1_1 y1_1 x1_2 y1_2 x1_3 y1_3 x1_4 y1_4
  clear hc2
  cases tS with
  | false =>
    have hbf : b = false := by rw [hb.out]; simp
    subst hbf
    go_wp2_with fail
    go_ret
    exact ⟨rfl, hB2⟩
  | true =>
  by_cases eo : d.isOpen = d'.isOpen
  rotate_left
  · have ho : (d.isOpen == d'.isOpen) = false := by simp [eo]
    have ho2 : (d.isOpen != d'.isOpen) = true := by simp [eo]
    have hbf : b = false := by rw [hb.out, hO.out]; simp [eo]
    subst hbf
    clear eo
    go_wp2_with fail
    go_ret
    exact ⟨rfl, hB2⟩
  have ho : (d.isOpen == d'.isOpen) = true := by simp [eo]
  have ho2 : (d.isOpen != d'.isOpen) = false := by simp [eo]
  have hto : tO = true := by rw [hO.out]; simp [eo]
  replace eo := Lib.hid eo
  replace hto := Lib.hid hto
  have nc : ∀ i u, (glC d.now hn)[i]? = some u → w2.cell? ⟨w.heap.size, 6 + i, none⟩ = some u := fun i u hu => by
    match i, hu with
    | 0, hu => injection hu with hu; subst hu; exact x2_6
    | 1, hu => injection hu with hu; subst hu; exact x2_7
    | 2, hu => injection hu with hu; subst hu; exact x2_8
    | 3, hu => injection hu with hu; subst hu; exact x2_9
    | 4, hu => injection hu with hu; subst hu; exact x2_10
    | 5, hu => injection hu with hu; subst hu; exact x2_11
    | 6, hu => injection hu with hu; subst hu; exact x2_12
  have nc' : ∀ i u, (glC d'.now kn)[i]? = some u → w2.cell? ⟨w.heap.size + 1, 6 + i, none⟩ = some u := fun i u hu => by
    match i, hu with
    | 0, hu => injection hu with hu; subst hu; exact y2_6
    | 1, hu => injection hu with hu; subst hu; exact y2_7
    | 2, hu => injection hu with hu; subst hu; exact y2_8
    | 3, hu => injection hu with hu; subst hu; exact y2_9
    | 4, hu => injection hu with hu; subst hu; exact y2_10
    | 5, hu => injection hu with hu; subst hu; exact y2_11
    | 6, hu => injection hu with hu; subst hu; exact y2_12
  have hc3 := Lib.hid (l17Same_gl w.heap.size 6 (w.heap.size + 1) 6 d.now d'.now hn kn tN hN.out lo hi lo' hi' w2 (by omega) (by omega) nc nc' (r4.out.frame (Below.sameB hB2 hhi)) (r4'.out.frame (Below.sameB hB2 hhi')) (Nat.le_trans hhi hB2.size) (Nat.le_trans hhi' hB2.size) m4.out m4'.out)
  clear nc nc'
  go_wp2_with fail
  refine hc3.out.mono ?_
  rintro e w3 ⟨rfl, hb3⟩
  have hB3 := hB2.trans (hb3.mono hB2.size)
  have hX3 := Lib.hid ((hb3.block w.heap.size (by omega)).trans hX2.out)
  have hY3 := Lib.hid ((hb3.block (w.heap.size + 1) (by omega)).trans hY2.out)
  have hz3 : w.heap.size + 1 < w3.heap.size := (Array.getElem?_eq_some_iff.1 hY3.out).1
  have x3_13 : w3.cell? ⟨w.heap.size, 13, none⟩ = some (.slice SA Sn Sc) := by rw [Go.Joins.cell_of_block hX3.out]; rfl
  have y3_13 : w3.cell? ⟨w.heap.size + 1, 13, none⟩ = some (.slice SA' Sn' Sc') := by rw [Go.Joins.cell_of_block hY3.out]; rfl
  clear hb3 hX2 hY2 hz2
  clear x2_5 y2_5 x2_6 y2_6 x2_7 y2_7 x2_8 y2_8 x2_9 y2_9 x2_10 y2_10 x2_11 y2_11 x2_12 y2_12
  clear hc3
  cases tN with
  | false =>
    have hbf : b = false := by rw [hb.out]; simp
    subst hbf
    go_wp2_with fail
    go_ret
    exact ⟨rfl, hB3⟩
  | true =>
  have hc4 := Lib.hid (specSameReg_any SA SA' Sn Sc Sn' Sc' lo hi lo' hi' d.shape d'.shape tR hR.out w3 (r5.out.frame good_ring (Below.sameB hB3 hhi)) (r5'.out.frame good_ring (Below.sameB hB3 hhi')) (Nat.le_trans hhi hB3.size) (Nat.le_trans hhi' hB3.size) (Nat.le_trans (Nat.le_of_eq r5.out.1.symm) m5.out.1) (Nat.le_trans (Nat.le_of_eq r5'.out.1.symm) m5'.out.1) m5.out.2 m5'.out.2)
  go_wp2_with fail
  refine hc4.out.mono ?_
  rintro e w4 ⟨rfl, hb4⟩
  have hB4 := hB3.trans (hb4.mono hB3.size)
  have hX4 := Lib.hid ((hb4.block w.heap.size (by omega)).trans hX3.out)
  have hY4 := Lib.hid ((hb4.block (w.heap.size + 1) (by omega)).trans hY3.out)
  have hz4 : w.heap.size + 1 < w4.heap.size := (Array.getElem?_eq_some_iff.1 hY4.out).1
  have x4_1 : w4.cell? ⟨w.heap.size, 1, none⟩ = some (.slice PA Pn Pc) := by rw [Go.Joins.cell_of_block hX4.out]; rfl
  have y4_1 : w4.cell? ⟨w.heap.size + 1, 1, none⟩ = some (.slice PA' Pn Pc') := by rw [Go.Joins.cell_of_block hY4.out]; rfl
  have x4_2 : w4.cell? ⟨w.heap.size, 2, none⟩ = some (.slice QA Qn Qc) := by rw [Go.Joins.cell_of_block hX4.out]; rfl
  have y4_2 : w4.cell? ⟨w.heap.size + 1, 2, none⟩ = some (.slice QA' Qn Qc') := by rw [Go.Joins.cell_of_block hY4.out]; rfl
  clear hb4 hX3 hY3 hz3
  clear x3_13 y3_13
  clear hc4
  cases tR with
  | false =>
    have hbf : b = false := by rw [hb.out]; simp
    subst hbf
    go_wp2_with fail
    go_ret
    exact ⟨rfl, hB4⟩
  | true =>
  have hnp := Lib.hid (fun (h : decide (d.pens = d'.pens) = false) => (show b = false by rw [hb.out, hP.out, h]; simp))
  have hnq := Lib.hid (fun (h : decide (d.paths = d'.paths) = false) => (show b = false by rw [hb.out, hQ.out, h]; simp))
  have kp := x4_1
  have mp := y4_1
  have kq0 := x4_2
  have mq0 := y4_2
  clear x4_1 x4_2 y4_1 y4_2 hX4 hY4 r0 r0' r3 r3' r4 r4' r5 r5' ho ho2
  replace kq0 := Lib.hid kq0
  replace mq0 := Lib.hid mq0
  go_wp2_with fail
  go_loopw [5] (fun i wr => ∃ k : Nat, i = .int .i64 k ∧ k ≤ Pn ∧ d.pens.take k = d'.pens.take k ∧ Below w4.heap.size w4 wr) (fun i wr => Pn - (intOf i).toNat)
  case atStart => exact ⟨0, rfl, Nat.zero_le _, rfl, Below.refl _ _⟩
  case round =>
    obtain ⟨k, rfl, hk, htk, hbel⟩ := hrel
    replace htk := Lib.hid htk
    have hsz := hbel.size
    have hB1 := hB4.trans (hbel.mono hB4.size)
    have kw := (hbel.cell (by simp; omega)).trans kp
    have mw := (hbel.cell (by simp; omega)).trans mp
    by_cases hlt : k < Pn
    rotate_left
    · have hkn : k = Pn := by omega
      have hq : d.pens = d'.pens := hfp.out (by rw [← hkn]; exact htk.out)
      have hpt : tP = true := by rw [hP.out]; simp [hq]
      replace hpt := Lib.hid hpt
      have kq := (hbel.cell (by simp; omega)).trans kq0.out
      have mq := (hbel.cell (by simp; omega)).trans mq0.out
      have hB9 := hB1
      have hzz : w.heap.size + 1 < wr.heap.size := by omega
      clear hq htk kp mp
      replace hkn := Lib.hid hkn
      generalize wr = W2 at *
      clear hbel hB1 hsz
      go_wp2_with fail
      clear kw mw
      go_loopw [6] (fun i wr => ∃ k : Nat, i = .int .i64 k ∧ k ≤ Qn ∧ d.paths.take k = d'.paths.take k ∧ Below W2.heap.size W2 wr) (fun i wr => Qn - (intOf i).toNat)
      case atStart => exact ⟨0, rfl, Nat.zero_le _, rfl, Below.refl _ _⟩
      case round =>
        obtain ⟨k, rfl, hk, htk, hbel⟩ := hrel
        replace htk := Lib.hid htk
        have hsz := hbel.size
        have hB1 := hB9.trans (hbel.mono hB9.size)
        have kw := (hbel.cell (by simp; omega)).trans kq
        have mw := (hbel.cell (by simp; omega)).trans mq
        by_cases hlt : k < Qn
        rotate_left
        · have hkn : k = Qn := by omega
          have hq : d.paths = d'.paths := hfq.out (by rw [← hkn]; exact htk.out)
          have hbt : b = true := by rw [hb.out, hto.out, hpt.out, hQ.out]; simp [hq]
          subst hbt
          replace hkn := Lib.hid hkn
          clear hq
          go_wp2_with fail
          go_ret
          exact ⟨rfl, hB1⟩
        · obtain ⟨b1, f1, ⟨x0, K1, x2⟩, ⟨A1, n1, c1⟩, rfl, hb0, hb1, hja, hcs, hr1⟩ := npath_at (r2.out.frame good_npath (Below.sameB hB1 hhi)) hlt
          obtain ⟨b2, f2, ⟨y0, K2, y2⟩, ⟨A2, n2, c2⟩, rfl, hb0', hb2, hja', hcs', hr2⟩ := npath_at (r2'.out.frame good_npath (Below.sameB hB1 hhi')) hlt
          have q0 := hcs 0 _ rfl
          have p0 := hcs' 0 _ rfl
          have q1 := hcs 1 _ rfl
          have p1 := hcs' 1 _ rfl
          have q2 := hcs 2 _ rfl
          have p2 := hcs' 2 _ rfl
          simp only [Nat.add_zero] at q0 p0 q1 p1 q2 p2
          have hl1 := m2.out.2 _ (List.mem_of_getElem? hja)
          have hl2 := m2'.out.2 _ (List.mem_of_getElem? hja')
          have hl3 : n1 ≤ 1000000000 := Nat.le_trans (Nat.le_of_eq hr1.1.symm) hl1
          have hl4 : n2 ≤ 1000000000 := Nat.le_trans (Nat.le_of_eq hr2.1.symm) hl2
          have hs1 := hB1.size
          obtain ⟨t, ht⟩ : ∃ t, t = decide (K1 = K2) := ⟨_, rfl⟩
          have hcall := Lib.hid (fun dr os => Calls.regrown_of ((l08Same_any A1 A2 n1 c1 n2 c2 lo hi lo' hi' K1 K2 t ht (Go.Sort.grow (redrawn wr dr) os)
            (hr1.frame (good_flat _) (Below.sameB (below_regrown wr dr os) (by omega))) (hr2.frame (good_flat _) (Below.sameB (below_regrown wr dr os) (by omega))) (Nat.le_trans (by omega) (below_regrown wr dr os).size) (Nat.le_trans (by omega) (below_regrown wr dr os).size) hl3 hl4).mono fun e w' ⟨he, hq⟩ => ⟨he, drewN_below hq⟩))
          have hno := Lib.hid (fun h => ne_list_at hja hja' h)
          have hst := Lib.hid (fun (h : (⟨x0, K1, x2⟩ : NamedPathD) = (⟨y0, K2, y2⟩ : NamedPathD)) => take_eq_step htk.out hja (h ▸ hja'))
          have hi : (0 : Int) ≤ (k : Int) ∧ (k : Int) < (Qn : Int) := by omega
          have kg := fun dr os => cell_regrown kw dr os
          have mg := fun dr os => cell_regrown mw dr os
          have qg0 := fun dr os => cell_regrown q0 dr os
          have pg0 := fun dr os => cell_regrown p0 dr os
          have qg1 := fun dr os => cell_regrown q1 dr os
          have pg1 := fun dr os => cell_regrown p1 dr os
          have qg2 := fun dr os => cell_regrown q2 dr os
          have pg2 := fun dr os => cell_regrown p2 dr os
          clear hr1 hr2 hja hja' hl1 hl2 hcs hcs' q0 p0 q1 p1 q2 p2
          by_cases e0 : x0 = y0
          rotate_left
          · have ht : decide ((⟨x0, K1, x2⟩ : NamedPathD) = (⟨y0, K2, y2⟩ : NamedPathD)) = false := by rw [decide_eq_false_iff_not]; intro e; exact e0 (congrArg NamedPathD.name e)
            have u0 : (x0.toList == y0.toList) = false := bytes_neq e0
            have hbf : b = false := hnq.out (hno.out ht)
            subst hbf
            clear e0 ht
            go_wp2_with fail
            refine wp_region_quiet_below (by kernel_rfl) (by kernel_rfl) ?_
            repeat (go_big_quiet_step (fail))
            refine wpQuiet_nil ?_
            intro _ hw'
            obtain ⟨⟨dq, osq⟩, hw''⟩ := hw'
            subst hw''
            have hb3 := hbel.trans ((below_regrown wr dq osq).mono hsz)
            generalize Go.Sort.grow (redrawn wr dq) osq = w1 at hb3 ⊢
            clear kg mg qg0 pg0 qg1 pg1 qg2 pg2
            go_wp2_with fail
            go_ret
            exact ⟨rfl, hB9.trans (hb3.mono hB9.size)⟩
          subst e0
          by_cases e1 : x2 = y2
          rotate_left
          · have ht : decide ((⟨x0, K1, x2⟩ : NamedPathD) = (⟨x0, K2, y2⟩ : NamedPathD)) = false := by rw [decide_eq_false_iff_not]; intro e; exact e1 (congrArg NamedPathD.closed e)
            have u1 : (x2 == y2) = false := by simp [e1]
            have hbf : b = false := hnq.out (hno.out ht)
            subst hbf
            clear e1 ht
            go_wp2_with fail
            refine wp_region_quiet_below (by kernel_rfl) (by kernel_rfl) ?_
            repeat (go_big_quiet_step (fail))
            refine wpQuiet_nil ?_
            intro _ hw'
            obtain ⟨⟨dq, osq⟩, hw''⟩ := hw'
            subst hw''
            have hb3 := hbel.trans ((below_regrown wr dq osq).mono hsz)
            generalize Go.Sort.grow (redrawn wr dq) osq = w1 at hb3 ⊢
            clear kg mg qg0 pg0 qg1 pg1 qg2 pg2
            go_wp2_with fail
            go_ret
            exact ⟨rfl, hB9.trans (hb3.mono hB9.size)⟩
          subst e1
          have ht2 := ht
          replace ht := Lib.hid ht
          replace ht2 := Lib.hid ht2
          go_wp2_with fail
          refine wp_region_quiet_below (by kernel_rfl) (by kernel_rfl) ?_
          repeat (go_big_quiet_step (exact hcall.out _ _))
          refine wpQuiet_nil ?_
          intro _ hw'
          obtain ⟨⟨dq, osq⟩, hw''⟩ := hw'
          subst hw''
          have hb3 := hbel.trans ((below_regrown wr dq osq).mono hsz)
          generalize Go.Sort.grow (redrawn wr dq) osq = w1 at hb3 ⊢
          clear kg mg qg0 pg0 qg1 pg1 qg2 pg2
          cases t with
          | false =>
            have ht : decide ((⟨x0, K1, x2⟩ : NamedPathD) = (⟨x0, K2, x2⟩ : NamedPathD)) = false := by rw [decide_eq_false_iff_not]; intro e; exact of_decide_eq_false ht2.out.symm (by injection e)
            have hbf : b = false := hnq.out (hno.out ht)
            subst hbf
            clear ht
            go_wp2_with fail
            go_ret
            exact ⟨rfl, hB9.trans (hb3.mono hB9.size)⟩
          | true =>
            go_wp2_with fail
            go_roundw
            case rel => exact ⟨k + 1, by go_num, by omega, hst.out (by rw [of_decide_eq_true ht2.out.symm]), hb3⟩
            case measure => simp [intOf]; omega
    · obtain ⟨b1, f1, ⟨x0, K1⟩, ⟨A1, n1, c1⟩, rfl, hb0, hb1, hja, hcs, hr1⟩ := pen_at (r1.out.frame good_pen (Below.sameB hB1 hhi)) hlt
      obtain ⟨b2, f2, ⟨y0, K2⟩, ⟨A2, n2, c2⟩, rfl, hb0', hb2, hja', hcs', hr2⟩ := pen_at (r1'.out.frame good_pen (Below.sameB hB1 hhi')) hlt
      have q0 := hcs 0 _ rfl
      have p0 := hcs' 0 _ rfl
      have q1 := hcs 1 _ rfl
      have p1 := hcs' 1 _ rfl
      simp only [Nat.add_zero] at q0 p0 q1 p1
      have hl1 := m1.out.2 _ (List.mem_of_getElem? hja)
      have hl2 := m1'.out.2 _ (List.mem_of_getElem? hja')
      have hl3 : n1 ≤ 1000000000 := Nat.le_trans (Nat.le_of_eq hr1.1.symm) hl1
      have hl4 : n2 ≤ 1000000000 := Nat.le_trans (Nat.le_of_eq hr2.1.symm) hl2
      have hs1 := hB1.size
      obtain ⟨t, ht⟩ : ∃ t, t = decide (K1 = K2) := ⟨_, rfl⟩
      have hcall := Lib.hid (fun dr os => Calls.regrown_of ((l08Same_any A1 A2 n1 c1 n2 c2 lo hi lo' hi' K1 K2 t ht (Go.Sort.grow (redrawn wr dr) os)
        (hr1.frame (good_flat _) (Below.sameB (below_regrown wr dr os) (by omega))) (hr2.frame (good_flat _) (Below.sameB (below_regrown wr dr os) (by omega))) (Nat.le_trans (by omega) (below_regrown wr dr os).size) (Nat.le_trans (by omega) (below_regrown wr dr os).size) hl3 hl4).mono fun e w' ⟨he, hq⟩ => ⟨he, drewN_below hq⟩))
      have hno := Lib.hid (fun h => ne_list_at hja hja' h)
      have hst := Lib.hid (fun (h : (⟨x0, K1⟩ : NamedPenD) = (⟨y0, K2⟩ : NamedPenD)) => take_eq_step htk.out hja (h ▸ hja'))
      have hi : (0 : Int) ≤ (k : Int) ∧ (k : Int) < (Pn : Int) := by omega
      have kg := fun dr os => cell_regrown kw dr os
      have mg := fun dr os => cell_regrown mw dr os
      have qg0 := fun dr os => cell_regrown q0 dr os
      have pg0 := fun dr os => cell_regrown p0 dr os
      have qg1 := fun dr os => cell_regrown q1 dr os
      have pg1 := fun dr os => cell_regrown p1 dr os
      clear hr1 hr2 hja hja' hl1 hl2 hcs hcs' q0 p0 q1 p1
      by_cases e0 : x0 = y0
      rotate_left
      · have ht : decide ((⟨x0, K1⟩ : NamedPenD) = (⟨y0, K2⟩ : NamedPenD)) = false := by rw [decide_eq_false_iff_not]; intro e; exact e0 (congrArg NamedPenD.name e)
        have u0 : (x0.toList == y0.toList) = false := bytes_neq e0
        have hbf : b = false := hnp.out (hno.out ht)
        subst hbf
        clear e0 ht
        go_wp2_with fail
        refine wp_region_quiet_below (by kernel_rfl) (by kernel_rfl) ?_
        repeat (go_big_quiet_step (fail))
        refine wpQuiet_nil ?_
        intro _ hw'
        obtain ⟨⟨dq, osq⟩, hw''⟩ := hw'
        subst hw''
        have hb3 := hbel.trans ((below_regrown wr dq osq).mono hsz)
        generalize Go.Sort.grow (redrawn wr dq) osq = w1 at hb3 ⊢
        clear kg mg qg0 pg0 qg1 pg1
        go_wp2_with fail
        go_ret
        exact ⟨rfl, hB4.trans (hb3.mono hB4.size)⟩
      subst e0
      have ht2 := ht
      replace ht := Lib.hid ht
      replace ht2 := Lib.hid ht2
      go_wp2_with fail
      refine wp_region_quiet_below (by kernel_rfl) (by kernel_rfl) ?_
      repeat (go_big_quiet_step (exact hcall.out _ _))
      refine wpQuiet_nil ?_
      intro _ hw'
      obtain ⟨⟨dq, osq⟩, hw''⟩ := hw'
      subst hw''
      have hb3 := hbel.trans ((below_regrown wr dq osq).mono hsz)
      generalize Go.Sort.grow (redrawn wr dq) osq = w1 at hb3 ⊢
      clear kg mg qg0 pg0 qg1 pg1
      cases t with
      | false =>
        have ht : decide ((⟨x0, K1⟩ : NamedPenD) = (⟨x0, K2⟩ : NamedPenD)) = false := by rw [decide_eq_false_iff_not]; intro e; exact of_decide_eq_false ht2.out.symm (by injection e)
        have hbf : b = false := hnp.out (hno.out ht)
        subst hbf
        clear ht
        go_wp2_with fail
        go_ret
        exact ⟨rfl, hB4.trans (hb3.mono hB4.size)⟩
      | true =>
        go_wp2_with fail
        go_roundw
        case rel => exact ⟨k + 1, by go_num, by omega, hst.out (by rw [of_decide_eq_true ht2.out.symm]), hb3⟩
        case measure => simp [intOf]; omega
end Go.Proofs.YtgfbcbbcnineiaaGreat

