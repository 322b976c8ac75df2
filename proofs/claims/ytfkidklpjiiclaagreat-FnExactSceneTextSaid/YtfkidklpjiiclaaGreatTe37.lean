/- A scene: the laws' copy and comparison. Printed by mk_scene.py. Conditions: as each states. -/
import Derived.Test.YtfkidklpjiiclaaGreatTe36
namespace Go.Proofs.YtfkidklpjiiclaaGreat
open Go.RowKit Go.ChangeShapes Go.WideShapes Go.Deep
set_option linter.unusedVariables false
set_option maxRecDepth 100000

theorem toNamedPenS_hc (h : Hd) (L : List NamedPenD) (lo hi : Nat) (w : World) (hr : pensRd w lo hi h.A h.n L) (hhi : hi ≤ w.heap.size) (hm : SmL penLen 1048576 L) :
    Calls Tryz.prog 20 #[.slice h.A h.n h.c] w fun e w' => ∃ h' : Hd, e = .returned (.slice h'.A h'.n h'.c) ∧ pensRd w' w.heap.size w'.heap.size h'.A h'.n L ∧ Below w.heap.size w w' ∧ h'.n ≤ h'.c :=
  (toNamedPenS_rc _ _ _ lo hi L w hr hhi ⟨by rw [← hr.1]; exact hm.1, hm.2⟩).mono fun e w' ⟨A', c', he, hc, h1, h2⟩ => ⟨⟨A', h.n, c'⟩, he, h1, h2, hc⟩
theorem toNamedPathS_hc (h : Hd) (L : List NamedPathD) (lo hi : Nat) (w : World) (hr : npathsRd w lo hi h.A h.n L) (hhi : hi ≤ w.heap.size) (hm : SmL pathLen 1048576 L) :
    Calls Tryz.prog 21 #[.slice h.A h.n h.c] w fun e w' => ∃ h' : Hd, e = .returned (.slice h'.A h'.n h'.c) ∧ npathsRd w' w.heap.size w'.heap.size h'.A h'.n L ∧ Below w.heap.size w w' ∧ h'.n ≤ h'.c :=
  (toNamedPathS_rc _ _ _ lo hi L w hr hhi ⟨by rw [← hr.1]; exact hm.1, hm.2⟩).mono fun e w' ⟨A', c', he, hc, h1, h2⟩ => ⟨⟨A', h.n, c'⟩, he, h1, h2, hc⟩
theorem toGlyph_hc (h : GlH) (L : Gl) (lo hi : Nat) (w : World) (hr : GlRd w lo hi L h) (hhi : hi ≤ w.heap.size) (hm : L.small 1048576) :
    Calls Tryz.prog 23 #[glV L h] w fun e w' => ∃ h' : GlH, e = .returned (glV L h') ∧ GlRd w' w.heap.size w'.heap.size L h' ∧ Below w.heap.size w w' ∧ h'.anchors.n ≤ h'.anchors.c := toGlyph_any L h lo hi w hr hhi hm
theorem toGlyphSet_hc (h : GSetH) (L : GSet) (lo hi : Nat) (w : World) (hr : GSetRd w lo hi L h) (hhi : hi ≤ w.heap.size) (hm : L.small 1048576) :
    Calls Tryz.prog 22 #[gsV L h] w fun e w' => ∃ h' : GSetH, e = .returned (gsV L h') ∧ GSetRc w' w.heap.size w'.heap.size L h' ∧ Below w.heap.size w w' := toGlyphSet_any L h lo hi w hr hhi hm
def ScRk (w : World) (lo hi : Nat) (d : ScD) (h : ScH) : Prop := rowsRd w lo hi h.rows.A h.rows.n d.rows ∧ pensRd w lo hi h.pens.A h.pens.n d.pens ∧ npathsRd w lo hi h.paths.A h.paths.n d.paths ∧ GSetRc w lo hi d.set h.set ∧ GlRd w lo hi d.now h.now ∧ RegRd w lo hi h.shape.A h.shape.n d.shape
def ScCap (h : ScH) : Prop := h.pens.n ≤ h.pens.c ∧ h.paths.n ≤ h.paths.c ∧ h.now.anchors.n ≤ h.now.anchors.c
theorem ScRk.frame {w w' : World} {lo hi : Nat} {d : ScD} {h : ScH} (r : ScRk w lo hi d h) (s : SameB lo hi w w') : ScRk w' lo hi d h := ⟨(r.1).frame good_row s, (r.2.1).frame good_pen s, (r.2.2.1).frame good_npath s, (r.2.2.2.1).frame good_glyphc s, (r.2.2.2.2.1).frame s, (r.2.2.2.2.2).frame good_ring s⟩
theorem ScRk.wide {w : World} {lo hi lo' hi' : Nat} {d : ScD} {h : ScH} (r : ScRk w lo hi d h) (h1 : lo' ≤ lo) (h2 : hi ≤ hi') : ScRk w lo' hi' d h := ⟨(r.1).wide good_row h1 h2, (r.2.1).wide good_pen h1 h2, (r.2.2.1).wide good_npath h1 h2, (r.2.2.2.1).wide good_glyphc h1 h2, (r.2.2.2.2.1).wide h1 h2, (r.2.2.2.2.2).wide good_ring h1 h2⟩
theorem ScRk.rd {w : World} {lo hi : Nat} {d : ScD} {h : ScH} (r : ScRk w lo hi d h) : ScRd w lo hi d h := ⟨r.1, r.2.1, r.2.2.1, GsRc.rd (r.2.2.2.1), r.2.2.2.2.1, r.2.2.2.2.2⟩
set_option maxHeartbeats 8000000 in
theorem toScene_rc (d : ScD) (h : ScH) (lo hi : Nat) (w : World) (hr : ScRd w lo hi d h) (hhi : hi ≤ w.heap.size) (hm : d.small 1048576) :
    Calls Tryz.prog 7 #[scV d h] w fun e w' => ∃ h' : ScH, e = .returned (scV d h') ∧ ScRk w' w.heap.size w'.heap.size d h' ∧ Below w.heap.size w w' ∧ ScCap h' := by
  obtain ⟨hr0, hr1, hr2, hr3, hr4, hr5⟩ := hr
  obtain ⟨hm0, hm1, hm2, hm3, hm4, hm5⟩ := hm
  replace hr0 := Lib.hid hr0
  replace hm0 := Lib.hid hm0
  replace hr1 := Lib.hid hr1
  replace hm1 := Lib.hid hm1
  replace hr2 := Lib.hid hr2
  replace hm2 := Lib.hid hm2
  replace hr3 := Lib.hid hr3
  replace hm3 := Lib.hid hm3
  replace hr4 := Lib.hid hr4
  replace hm4 := Lib.hid hm4
  replace hr5 := Lib.hid hr5
  replace hm5 := Lib.hid hm5
  go_enter Tryz.func7, Tryz.ntmps7
  go_wp2_with fail
  refine (toSystem_h h.rows d.rows lo hi _ ((hr0.out).frame good_row (Below.sameB (B := w.heap.size) (w := w) (by repeat (first | refine Below.setCell ?_ (by first | omega | (simp <;> omega)) _ | refine Below.alloc ?_ (by first | omega | (simp <;> omega)) _ | exact Below.refl _ _)) hhi)) (by first | omega | (simp <;> omega)) hm0.out).mono ?_
  rintro e w1 ⟨g1, rfl, ho1, hb1⟩
  have hz1 := hb1.size
  try simp at hz1
  have hB1 : Below w.heap.size w w1 := Below.trans (by repeat (first | refine Below.setCell ?_ (by first | omega | (simp <;> omega)) _ | refine Below.alloc ?_ (by first | omega | (simp <;> omega)) _ | exact Below.refl _ _)) (hb1.mono (by first | omega | (simp <;> omega)))
  have rd1 : Hid (rowsRd w1 (w.heap.size + 3) w1.heap.size g1.A g1.n d.rows) := (ho1).wide good_row (by first | omega | (simp <;> omega)) (Nat.le_refl _)
  clear ho1
  have hnew := heap_new0 w (.cells #[.slice h.rows.A h.rows.n h.rows.c, .slice h.pens.A h.pens.n h.pens.c, .slice h.paths.A h.paths.n h.paths.c, .int .i64 d.set.unit, .slice h.set.gl.A h.set.gl.n h.set.gl.c, .bool d.isOpen, .string d.now.name, .int .i64 d.now.code, .int .i64 d.now.adv, .slice h.now.out.A h.now.out.n h.now.out.c, .slice h.now.parts.A h.now.parts.n h.now.parts.c, .slice h.now.anchors.A h.now.anchors.n h.now.anchors.c, .string d.now.hints, .slice h.shape.A h.shape.n h.shape.c] 41 (0, 0)) (.cells #[.slice none 0 0, .slice none 0 0, .slice none 0 0, .int .i64 0, .slice none 0 0, .bool false, .string ⟨#[]⟩, .int .i64 0, .int .i64 0, .slice none 0 0, .slice none 0 0, .slice none 0 0, .string ⟨#[]⟩, .slice none 0 0] 63 (0, 0)) (.cells #[.slice none 0 0, .slice none 0 0, .slice none 0 0, .int .i64 0, .slice none 0 0, .bool false, .string ⟨#[]⟩, .int .i64 0, .int .i64 0, .slice none 0 0, .slice none 0 0, .slice none 0 0, .string ⟨#[]⟩, .slice none 0 0] 63 (0, 0))
  have HX1 : Hid (w1.heap[w.heap.size]? = some (.cells #[.slice h.rows.A h.rows.n h.rows.c, .slice h.pens.A h.pens.n h.pens.c, .slice h.paths.A h.paths.n h.paths.c, .int .i64 d.set.unit, .slice h.set.gl.A h.set.gl.n h.set.gl.c, .bool d.isOpen, .string d.now.name, .int .i64 d.now.code, .int .i64 d.now.adv, .slice h.now.out.A h.now.out.n h.now.out.c, .slice h.now.parts.A h.now.parts.n h.now.parts.c, .slice h.now.anchors.A h.now.anchors.n h.now.anchors.c, .string d.now.hints, .slice h.shape.A h.shape.n h.shape.c] 41 (0, 0))) := (hb1.block _ (by first | omega | (simp <;> omega))).trans hnew.1
  have HR1 : Hid (w1.heap[w.heap.size + 1]? = some (.cells #[.slice none 0 0, .slice none 0 0, .slice none 0 0, .int .i64 0, .slice none 0 0, .bool false, .string ⟨#[]⟩, .int .i64 0, .int .i64 0, .slice none 0 0, .slice none 0 0, .slice none 0 0, .string ⟨#[]⟩, .slice none 0 0] 63 (0, 0))) := (hb1.block _ (by first | omega | (simp <;> omega))).trans hnew.2.1
  have HO1 : Hid (w1.heap[w.heap.size + 2]? = some (.cells #[.slice none 0 0, .slice none 0 0, .slice none 0 0, .int .i64 0, .slice none 0 0, .bool false, .string ⟨#[]⟩, .int .i64 0, .int .i64 0, .slice none 0 0, .slice none 0 0, .slice none 0 0, .string ⟨#[]⟩, .slice none 0 0] 63 (0, 0))) := (hb1.block _ (by first | omega | (simp <;> omega))).trans hnew.2.2
  clear hnew
  have cx1 : w1.cell? ⟨w.heap.size, 1, none⟩ = some (.slice h.pens.A h.pens.n h.pens.c) := by rw [Go.Joins.cell_of_block HX1.out]; rfl
  have co0 : w1.cell? ⟨w.heap.size + 2, 0, none⟩ = some (.slice none 0 0) := by rw [Go.Joins.cell_of_block HO1.out]; rfl
  have fo : ∀ o, w1.frozen? ⟨w.heap.size + 2, o, none⟩ = false := Go.Joins.unfrozen_of_block HO1.out
  clear hb1
  go_wp2_with fail
  refine (toNamedPenS_hc h.pens d.pens lo hi _ ((hr1.out).frame good_pen (Below.sameB (B := w.heap.size) (w := w) (by repeat (first | refine Below.setCell ?_ (by first | omega | (simp <;> omega)) _ | refine Below.alloc ?_ (by first | omega | (simp <;> omega)) _ | exact hB1)) hhi)) (by first | omega | (simp <;> omega)) hm1.out).mono ?_
  rintro e w2 ⟨g2, rfl, ho2, hb2, cp2⟩
  have hz2 := hb2.size
  try simp at hz2
  have hB2 : Below w.heap.size w w2 := Below.trans (by repeat (first | refine Below.setCell ?_ (by first | omega | (simp <;> omega)) _ | refine Below.alloc ?_ (by first | omega | (simp <;> omega)) _ | exact hB1)) (hb2.mono (by first | omega | (simp <;> omega)))
  have rd2 : Hid (pensRd w2 (w.heap.size + 3) w2.heap.size g2.A g2.n d.pens) := (ho2).wide good_pen (by first | omega | (simp <;> omega)) (Nat.le_refl _)
  clear ho2
  replace cp2 := Lib.hid cp2
  have hs : SameB (w.heap.size + 3) w1.heap.size w1 w2 := SameB.trans (SameB.setCell (SameB.refl _ _ w1) (.inl (by simp)) _) (Below.sameB hb2 (by simp))
  replace rd1 : Hid (rowsRd w2 (w.heap.size + 3) w2.heap.size g1.A g1.n d.rows) := ((rd1.out).frame good_row hs).wide good_row (Nat.le_refl _) (by omega)
  clear hs
  have HX2 : Hid (w2.heap[w.heap.size]? = some (.cells #[.slice h.rows.A h.rows.n h.rows.c, .slice h.pens.A h.pens.n h.pens.c, .slice h.paths.A h.paths.n h.paths.c, .int .i64 d.set.unit, .slice h.set.gl.A h.set.gl.n h.set.gl.c, .bool d.isOpen, .string d.now.name, .int .i64 d.now.code, .int .i64 d.now.adv, .slice h.now.out.A h.now.out.n h.now.out.c, .slice h.now.parts.A h.now.parts.n h.now.parts.c, .slice h.now.anchors.A h.now.anchors.n h.now.anchors.c, .string d.now.hints, .slice h.shape.A h.shape.n h.shape.c] 41 (0, 0))) := (hb2.block _ (by first | omega | (simp <;> omega))).trans ((Below.heap_setCell _ _ _ _ (by simp <;> omega)).trans (HX1.out))
  have HR2 : Hid (w2.heap[w.heap.size + 1]? = some (.cells #[.slice none 0 0, .slice none 0 0, .slice none 0 0, .int .i64 0, .slice none 0 0, .bool false, .string ⟨#[]⟩, .int .i64 0, .int .i64 0, .slice none 0 0, .slice none 0 0, .slice none 0 0, .string ⟨#[]⟩, .slice none 0 0] 63 (0, 0))) := (hb2.block _ (by first | omega | (simp <;> omega))).trans ((Below.heap_setCell _ _ _ _ (by simp <;> omega)).trans (HR1.out))
  have HO2 : Hid (w2.heap[w.heap.size + 2]? = some (.cells #[.slice g1.A g1.n g1.c, .slice none 0 0, .slice none 0 0, .int .i64 0, .slice none 0 0, .bool false, .string ⟨#[]⟩, .int .i64 0, .int .i64 0, .slice none 0 0, .slice none 0 0, .slice none 0 0, .string ⟨#[]⟩, .slice none 0 0] 63 (0, 0))) := (hb2.block _ (by first | omega | (simp <;> omega))).trans (Go.Joins.block_setCell (HO1.out) (.slice g1.A g1.n g1.c))
  clear HX1 HR1 HO1 cx1 co0 fo
  have cx2 : w2.cell? ⟨w.heap.size, 2, none⟩ = some (.slice h.paths.A h.paths.n h.paths.c) := by rw [Go.Joins.cell_of_block HX2.out]; rfl
  have co1 : w2.cell? ⟨w.heap.size + 2, 1, none⟩ = some (.slice none 0 0) := by rw [Go.Joins.cell_of_block HO2.out]; rfl
  have fo : ∀ o, w2.frozen? ⟨w.heap.size + 2, o, none⟩ = false := Go.Joins.unfrozen_of_block HO2.out
  clear hb2
  go_wp2_with fail
  refine (toNamedPathS_hc h.paths d.paths lo hi _ ((hr2.out).frame good_npath (Below.sameB (B := w.heap.size) (w := w) (by repeat (first | refine Below.setCell ?_ (by first | omega | (simp <;> omega)) _ | refine Below.alloc ?_ (by first | omega | (simp <;> omega)) _ | exact hB2)) hhi)) (by first | omega | (simp <;> omega)) hm2.out).mono ?_
  rintro e w3 ⟨g3, rfl, ho3, hb3, cp3⟩
  have hz3 := hb3.size
  try simp at hz3
  have hB3 : Below w.heap.size w w3 := Below.trans (by repeat (first | refine Below.setCell ?_ (by first | omega | (simp <;> omega)) _ | refine Below.alloc ?_ (by first | omega | (simp <;> omega)) _ | exact hB2)) (hb3.mono (by first | omega | (simp <;> omega)))
  have rd3 : Hid (npathsRd w3 (w.heap.size + 3) w3.heap.size g3.A g3.n d.paths) := (ho3).wide good_npath (by first | omega | (simp <;> omega)) (Nat.le_refl _)
  clear ho3
  replace cp3 := Lib.hid cp3
  have hs : SameB (w.heap.size + 3) w2.heap.size w2 w3 := SameB.trans (SameB.setCell (SameB.refl _ _ w2) (.inl (by simp)) _) (Below.sameB hb3 (by simp))
  replace rd1 : Hid (rowsRd w3 (w.heap.size + 3) w3.heap.size g1.A g1.n d.rows) := ((rd1.out).frame good_row hs).wide good_row (Nat.le_refl _) (by omega)
  replace rd2 : Hid (pensRd w3 (w.heap.size + 3) w3.heap.size g2.A g2.n d.pens) := ((rd2.out).frame good_pen hs).wide good_pen (Nat.le_refl _) (by omega)
  clear hs
  have HX3 : Hid (w3.heap[w.heap.size]? = some (.cells #[.slice h.rows.A h.rows.n h.rows.c, .slice h.pens.A h.pens.n h.pens.c, .slice h.paths.A h.paths.n h.paths.c, .int .i64 d.set.unit, .slice h.set.gl.A h.set.gl.n h.set.gl.c, .bool d.isOpen, .string d.now.name, .int .i64 d.now.code, .int .i64 d.now.adv, .slice h.now.out.A h.now.out.n h.now.out.c, .slice h.now.parts.A h.now.parts.n h.now.parts.c, .slice h.now.anchors.A h.now.anchors.n h.now.anchors.c, .string d.now.hints, .slice h.shape.A h.shape.n h.shape.c] 41 (0, 0))) := (hb3.block _ (by first | omega | (simp <;> omega))).trans ((Below.heap_setCell _ _ _ _ (by simp <;> omega)).trans (HX2.out))
  have HR3 : Hid (w3.heap[w.heap.size + 1]? = some (.cells #[.slice none 0 0, .slice none 0 0, .slice none 0 0, .int .i64 0, .slice none 0 0, .bool false, .string ⟨#[]⟩, .int .i64 0, .int .i64 0, .slice none 0 0, .slice none 0 0, .slice none 0 0, .string ⟨#[]⟩, .slice none 0 0] 63 (0, 0))) := (hb3.block _ (by first | omega | (simp <;> omega))).trans ((Below.heap_setCell _ _ _ _ (by simp <;> omega)).trans (HR2.out))
  have HO3 : Hid (w3.heap[w.heap.size + 2]? = some (.cells #[.slice g1.A g1.n g1.c, .slice g2.A g2.n g2.c, .slice none 0 0, .int .i64 0, .slice none 0 0, .bool false, .string ⟨#[]⟩, .int .i64 0, .int .i64 0, .slice none 0 0, .slice none 0 0, .slice none 0 0, .string ⟨#[]⟩, .slice none 0 0] 63 (0, 0))) := (hb3.block _ (by first | omega | (simp <;> omega))).trans (Go.Joins.block_setCell (HO2.out) (.slice g2.A g2.n g2.c))
  clear HX2 HR2 HO2 cx2 co1 fo
  have cx3 : w3.cell? ⟨w.heap.size, 3, none⟩ = some (.int .i64 d.set.unit) := by rw [Go.Joins.cell_of_block HX3.out]; rfl
  have cx4 : w3.cell? ⟨w.heap.size, 4, none⟩ = some (.slice h.set.gl.A h.set.gl.n h.set.gl.c) := by rw [Go.Joins.cell_of_block HX3.out]; rfl
  have co2 : w3.cell? ⟨w.heap.size + 2, 2, none⟩ = some (.slice none 0 0) := by rw [Go.Joins.cell_of_block HO3.out]; rfl
  have fo : ∀ o, w3.frozen? ⟨w.heap.size + 2, o, none⟩ = false := Go.Joins.unfrozen_of_block HO3.out
  clear hb3
  go_wp2_with fail
  refine (toGlyphSet_hc h.set d.set lo hi _ ((hr3.out).frame good_glyph (Below.sameB (B := w.heap.size) (w := w) (by repeat (first | refine Below.setCell ?_ (by first | omega | (simp <;> omega)) _ | refine Below.alloc ?_ (by first | omega | (simp <;> omega)) _ | exact hB3)) hhi)) (by first | omega | (simp <;> omega)) hm3.out).mono ?_
  rintro e w4 ⟨g4, rfl, ho4, hb4⟩
  have hz4 := hb4.size
  try simp at hz4
  have hB4 : Below w.heap.size w w4 := Below.trans (by repeat (first | refine Below.setCell ?_ (by first | omega | (simp <;> omega)) _ | refine Below.alloc ?_ (by first | omega | (simp <;> omega)) _ | exact hB3)) (hb4.mono (by first | omega | (simp <;> omega)))
  have rd4 : Hid (GSetRc w4 (w.heap.size + 3) w4.heap.size d.set g4) := (ho4).wide good_glyphc (by first | omega | (simp <;> omega)) (Nat.le_refl _)
  clear ho4
  have hs : SameB (w.heap.size + 3) w3.heap.size w3 w4 := SameB.trans (SameB.setCell (SameB.refl _ _ w3) (.inl (by simp)) _) (Below.sameB hb4 (by simp))
  replace rd1 : Hid (rowsRd w4 (w.heap.size + 3) w4.heap.size g1.A g1.n d.rows) := ((rd1.out).frame good_row hs).wide good_row (Nat.le_refl _) (by omega)
  replace rd2 : Hid (pensRd w4 (w.heap.size + 3) w4.heap.size g2.A g2.n d.pens) := ((rd2.out).frame good_pen hs).wide good_pen (Nat.le_refl _) (by omega)
  replace rd3 : Hid (npathsRd w4 (w.heap.size + 3) w4.heap.size g3.A g3.n d.paths) := ((rd3.out).frame good_npath hs).wide good_npath (Nat.le_refl _) (by omega)
  clear hs
  have HX4 : Hid (w4.heap[w.heap.size]? = some (.cells #[.slice h.rows.A h.rows.n h.rows.c, .slice h.pens.A h.pens.n h.pens.c, .slice h.paths.A h.paths.n h.paths.c, .int .i64 d.set.unit, .slice h.set.gl.A h.set.gl.n h.set.gl.c, .bool d.isOpen, .string d.now.name, .int .i64 d.now.code, .int .i64 d.now.adv, .slice h.now.out.A h.now.out.n h.now.out.c, .slice h.now.parts.A h.now.parts.n h.now.parts.c, .slice h.now.anchors.A h.now.anchors.n h.now.anchors.c, .string d.now.hints, .slice h.shape.A h.shape.n h.shape.c] 41 (0, 0))) := (hb4.block _ (by first | omega | (simp <;> omega))).trans ((Below.heap_setCell _ _ _ _ (by simp <;> omega)).trans (HX3.out))
  have HR4 : Hid (w4.heap[w.heap.size + 1]? = some (.cells #[.slice none 0 0, .slice none 0 0, .slice none 0 0, .int .i64 0, .slice none 0 0, .bool false, .string ⟨#[]⟩, .int .i64 0, .int .i64 0, .slice none 0 0, .slice none 0 0, .slice none 0 0, .string ⟨#[]⟩, .slice none 0 0] 63 (0, 0))) := (hb4.block _ (by first | omega | (simp <;> omega))).trans ((Below.heap_setCell _ _ _ _ (by simp <;> omega)).trans (HR3.out))
  have HO4 : Hid (w4.heap[w.heap.size + 2]? = some (.cells #[.slice g1.A g1.n g1.c, .slice g2.A g2.n g2.c, .slice g3.A g3.n g3.c, .int .i64 0, .slice none 0 0, .bool false, .string ⟨#[]⟩, .int .i64 0, .int .i64 0, .slice none 0 0, .slice none 0 0, .slice none 0 0, .string ⟨#[]⟩, .slice none 0 0] 63 (0, 0))) := (hb4.block _ (by first | omega | (simp <;> omega))).trans (Go.Joins.block_setCell (HO3.out) (.slice g3.A g3.n g3.c))
  clear HX3 HR3 HO3 cx3 cx4 co2 fo
  have cx5 : w4.cell? ⟨w.heap.size, 5, none⟩ = some (.bool d.isOpen) := by rw [Go.Joins.cell_of_block HX4.out]; rfl
  have cx6 : w4.cell? ⟨w.heap.size, 6, none⟩ = some (.string d.now.name) := by rw [Go.Joins.cell_of_block HX4.out]; rfl
  have cx7 : w4.cell? ⟨w.heap.size, 7, none⟩ = some (.int .i64 d.now.code) := by rw [Go.Joins.cell_of_block HX4.out]; rfl
  have cx8 : w4.cell? ⟨w.heap.size, 8, none⟩ = some (.int .i64 d.now.adv) := by rw [Go.Joins.cell_of_block HX4.out]; rfl
  have cx9 : w4.cell? ⟨w.heap.size, 9, none⟩ = some (.slice h.now.out.A h.now.out.n h.now.out.c) := by rw [Go.Joins.cell_of_block HX4.out]; rfl
  have cx10 : w4.cell? ⟨w.heap.size, 10, none⟩ = some (.slice h.now.parts.A h.now.parts.n h.now.parts.c) := by rw [Go.Joins.cell_of_block HX4.out]; rfl
  have cx11 : w4.cell? ⟨w.heap.size, 11, none⟩ = some (.slice h.now.anchors.A h.now.anchors.n h.now.anchors.c) := by rw [Go.Joins.cell_of_block HX4.out]; rfl
  have cx12 : w4.cell? ⟨w.heap.size, 12, none⟩ = some (.string d.now.hints) := by rw [Go.Joins.cell_of_block HX4.out]; rfl
  have co3 : w4.cell? ⟨w.heap.size + 2, 3, none⟩ = some (.int .i64 0) := by rw [Go.Joins.cell_of_block HO4.out]; rfl
  have co4 : w4.cell? ⟨w.heap.size + 2, 4, none⟩ = some (.slice none 0 0) := by rw [Go.Joins.cell_of_block HO4.out]; rfl
  have co5 : w4.cell? ⟨w.heap.size + 2, 5, none⟩ = some (.bool false) := by rw [Go.Joins.cell_of_block HO4.out]; rfl
  have fo : ∀ o, w4.frozen? ⟨w.heap.size + 2, o, none⟩ = false := Go.Joins.unfrozen_of_block HO4.out
  clear hb4
  go_wp2_with fail
  refine (toGlyph_hc h.now d.now lo hi _ ((hr4.out).frame (Below.sameB (B := w.heap.size) (w := w) (by repeat (first | refine Below.setCell ?_ (by first | omega | (simp <;> omega)) _ | refine Below.alloc ?_ (by first | omega | (simp <;> omega)) _ | exact hB4)) hhi)) (by first | omega | (simp <;> omega)) hm4.out).mono ?_
  rintro e w5 ⟨g5, rfl, ho5, hb5, cp5⟩
  have hz5 := hb5.size
  try simp at hz5
  have hB5 : Below w.heap.size w w5 := Below.trans (by repeat (first | refine Below.setCell ?_ (by first | omega | (simp <;> omega)) _ | refine Below.alloc ?_ (by first | omega | (simp <;> omega)) _ | exact hB4)) (hb5.mono (by first | omega | (simp <;> omega)))
  have rd5 : Hid (GlRd w5 (w.heap.size + 3) w5.heap.size d.now g5) := (ho5).wide (by first | omega | (simp <;> omega)) (Nat.le_refl _)
  clear ho5
  replace cp5 := Lib.hid cp5
  have hs : SameB (w.heap.size + 3) w4.heap.size w4 w5 := SameB.trans (SameB.setCell (SameB.setCell (SameB.setCell (SameB.refl _ _ w4) (.inl (by simp)) _) (.inl (by simp)) _) (.inl (by simp)) _) (Below.sameB hb5 (by simp))
  replace rd1 : Hid (rowsRd w5 (w.heap.size + 3) w5.heap.size g1.A g1.n d.rows) := ((rd1.out).frame good_row hs).wide good_row (Nat.le_refl _) (by omega)
  replace rd2 : Hid (pensRd w5 (w.heap.size + 3) w5.heap.size g2.A g2.n d.pens) := ((rd2.out).frame good_pen hs).wide good_pen (Nat.le_refl _) (by omega)
  replace rd3 : Hid (npathsRd w5 (w.heap.size + 3) w5.heap.size g3.A g3.n d.paths) := ((rd3.out).frame good_npath hs).wide good_npath (Nat.le_refl _) (by omega)
  replace rd4 : Hid (GSetRc w5 (w.heap.size + 3) w5.heap.size d.set g4) := ((rd4.out).frame good_glyphc hs).wide good_glyphc (Nat.le_refl _) (by omega)
  clear hs
  have HX5 : Hid (w5.heap[w.heap.size]? = some (.cells #[.slice h.rows.A h.rows.n h.rows.c, .slice h.pens.A h.pens.n h.pens.c, .slice h.paths.A h.paths.n h.paths.c, .int .i64 d.set.unit, .slice h.set.gl.A h.set.gl.n h.set.gl.c, .bool d.isOpen, .string d.now.name, .int .i64 d.now.code, .int .i64 d.now.adv, .slice h.now.out.A h.now.out.n h.now.out.c, .slice h.now.parts.A h.now.parts.n h.now.parts.c, .slice h.now.anchors.A h.now.anchors.n h.now.anchors.c, .string d.now.hints, .slice h.shape.A h.shape.n h.shape.c] 41 (0, 0))) := (hb5.block _ (by first | omega | (simp <;> omega))).trans ((Below.heap_setCell _ _ _ _ (by simp <;> omega)).trans (((Below.heap_setCell _ _ _ _ (by simp <;> omega)).trans (((Below.heap_setCell _ _ _ _ (by simp <;> omega)).trans (HX4.out))))))
  have HR5 : Hid (w5.heap[w.heap.size + 1]? = some (.cells #[.slice none 0 0, .slice none 0 0, .slice none 0 0, .int .i64 0, .slice none 0 0, .bool false, .string ⟨#[]⟩, .int .i64 0, .int .i64 0, .slice none 0 0, .slice none 0 0, .slice none 0 0, .string ⟨#[]⟩, .slice none 0 0] 63 (0, 0))) := (hb5.block _ (by first | omega | (simp <;> omega))).trans ((Below.heap_setCell _ _ _ _ (by simp <;> omega)).trans (((Below.heap_setCell _ _ _ _ (by simp <;> omega)).trans (((Below.heap_setCell _ _ _ _ (by simp <;> omega)).trans (HR4.out))))))
  have HO5 : Hid (w5.heap[w.heap.size + 2]? = some (.cells #[.slice g1.A g1.n g1.c, .slice g2.A g2.n g2.c, .slice g3.A g3.n g3.c, .int .i64 d.set.unit, .slice g4.gl.A g4.gl.n g4.gl.c, .bool d.isOpen, .string ⟨#[]⟩, .int .i64 0, .int .i64 0, .slice none 0 0, .slice none 0 0, .slice none 0 0, .string ⟨#[]⟩, .slice none 0 0] 63 (0, 0))) := (hb5.block _ (by first | omega | (simp <;> omega))).trans (Go.Joins.block_setCell (Go.Joins.block_setCell (Go.Joins.block_setCell (HO4.out) (.int .i64 d.set.unit)) (.slice g4.gl.A g4.gl.n g4.gl.c)) (.bool d.isOpen))
  clear HX4 HR4 HO4 cx5 cx6 cx7 cx8 cx9 cx10 cx11 cx12 co3 co4 co5 fo
  have cx13 : w5.cell? ⟨w.heap.size, 13, none⟩ = some (.slice h.shape.A h.shape.n h.shape.c) := by rw [Go.Joins.cell_of_block HX5.out]; rfl
  have co6 : w5.cell? ⟨w.heap.size + 2, 6, none⟩ = some (.string ⟨#[]⟩) := by rw [Go.Joins.cell_of_block HO5.out]; rfl
  have co7 : w5.cell? ⟨w.heap.size + 2, 7, none⟩ = some (.int .i64 0) := by rw [Go.Joins.cell_of_block HO5.out]; rfl
  have co8 : w5.cell? ⟨w.heap.size + 2, 8, none⟩ = some (.int .i64 0) := by rw [Go.Joins.cell_of_block HO5.out]; rfl
  have co9 : w5.cell? ⟨w.heap.size + 2, 9, none⟩ = some (.slice none 0 0) := by rw [Go.Joins.cell_of_block HO5.out]; rfl
  have co10 : w5.cell? ⟨w.heap.size + 2, 10, none⟩ = some (.slice none 0 0) := by rw [Go.Joins.cell_of_block HO5.out]; rfl
  have co11 : w5.cell? ⟨w.heap.size + 2, 11, none⟩ = some (.slice none 0 0) := by rw [Go.Joins.cell_of_block HO5.out]; rfl
  have co12 : w5.cell? ⟨w.heap.size + 2, 12, none⟩ = some (.string ⟨#[]⟩) := by rw [Go.Joins.cell_of_block HO5.out]; rfl
  have fo : ∀ o, w5.frozen? ⟨w.heap.size + 2, o, none⟩ = false := Go.Joins.unfrozen_of_block HO5.out
  clear hb5
  go_wp2_with fail
  refine (toRegion_h h.shape d.shape lo hi _ ((hr5.out).frame good_ring (Below.sameB (B := w.heap.size) (w := w) (by repeat (first | refine Below.setCell ?_ (by first | omega | (simp <;> omega)) _ | refine Below.alloc ?_ (by first | omega | (simp <;> omega)) _ | exact hB5)) hhi)) (by first | omega | (simp <;> omega)) hm5.out).mono ?_
  rintro e w6 ⟨g6, rfl, ho6, hb6⟩
  have hz6 := hb6.size
  try simp at hz6
  have hB6 : Below w.heap.size w w6 := Below.trans (by repeat (first | refine Below.setCell ?_ (by first | omega | (simp <;> omega)) _ | refine Below.alloc ?_ (by first | omega | (simp <;> omega)) _ | exact hB5)) (hb6.mono (by first | omega | (simp <;> omega)))
  have rd6 : Hid (RegRd w6 (w.heap.size + 3) w6.heap.size g6.A g6.n d.shape) := (ho6).wide good_ring (by first | omega | (simp <;> omega)) (Nat.le_refl _)
  clear ho6
  have hs : SameB (w.heap.size + 3) w5.heap.size w5 w6 := SameB.trans (SameB.setCell (SameB.setCell (SameB.setCell (SameB.setCell (SameB.setCell (SameB.setCell (SameB.setCell (SameB.refl _ _ w5) (.inl (by simp)) _) (.inl (by simp)) _) (.inl (by simp)) _) (.inl (by simp)) _) (.inl (by simp)) _) (.inl (by simp)) _) (.inl (by simp)) _) (Below.sameB hb6 (by simp))
  replace rd1 : Hid (rowsRd w6 (w.heap.size + 3) w6.heap.size g1.A g1.n d.rows) := ((rd1.out).frame good_row hs).wide good_row (Nat.le_refl _) (by omega)
  replace rd2 : Hid (pensRd w6 (w.heap.size + 3) w6.heap.size g2.A g2.n d.pens) := ((rd2.out).frame good_pen hs).wide good_pen (Nat.le_refl _) (by omega)
  replace rd3 : Hid (npathsRd w6 (w.heap.size + 3) w6.heap.size g3.A g3.n d.paths) := ((rd3.out).frame good_npath hs).wide good_npath (Nat.le_refl _) (by omega)
  replace rd4 : Hid (GSetRc w6 (w.heap.size + 3) w6.heap.size d.set g4) := ((rd4.out).frame good_glyphc hs).wide good_glyphc (Nat.le_refl _) (by omega)
  replace rd5 : Hid (GlRd w6 (w.heap.size + 3) w6.heap.size d.now g5) := ((rd5.out).frame hs).wide (Nat.le_refl _) (by omega)
  clear hs
  have HX6 : Hid (w6.heap[w.heap.size]? = some (.cells #[.slice h.rows.A h.rows.n h.rows.c, .slice h.pens.A h.pens.n h.pens.c, .slice h.paths.A h.paths.n h.paths.c, .int .i64 d.set.unit, .slice h.set.gl.A h.set.gl.n h.set.gl.c, .bool d.isOpen, .string d.now.name, .int .i64 d.now.code, .int .i64 d.now.adv, .slice h.now.out.A h.now.out.n h.now.out.c, .slice h.now.parts.A h.now.parts.n h.now.parts.c, .slice h.now.anchors.A h.now.anchors.n h.now.anchors.c, .string d.now.hints, .slice h.shape.A h.shape.n h.shape.c] 41 (0, 0))) := (hb6.block _ (by first | omega | (simp <;> omega))).trans ((Below.heap_setCell _ _ _ _ (by simp <;> omega)).trans (((Below.heap_setCell _ _ _ _ (by simp <;> omega)).trans (((Below.heap_setCell _ _ _ _ (by simp <;> omega)).trans (((Below.heap_setCell _ _ _ _ (by simp <;> omega)).trans (((Below.heap_setCell _ _ _ _ (by simp <;> omega)).trans (((Below.heap_setCell _ _ _ _ (by simp <;> omega)).trans (((Below.heap_setCell _ _ _ _ (by simp <;> omega)).trans (HX5.out))))))))))))))
  have HR6 : Hid (w6.heap[w.heap.size + 1]? = some (.cells #[.slice none 0 0, .slice none 0 0, .slice none 0 0, .int .i64 0, .slice none 0 0, .bool false, .string ⟨#[]⟩, .int .i64 0, .int .i64 0, .slice none 0 0, .slice none 0 0, .slice none 0 0, .string ⟨#[]⟩, .slice none 0 0] 63 (0, 0))) := (hb6.block _ (by first | omega | (simp <;> omega))).trans ((Below.heap_setCell _ _ _ _ (by simp <;> omega)).trans (((Below.heap_setCell _ _ _ _ (by simp <;> omega)).trans (((Below.heap_setCell _ _ _ _ (by simp <;> omega)).trans (((Below.heap_setCell _ _ _ _ (by simp <;> omega)).trans (((Below.heap_setCell _ _ _ _ (by simp <;> omega)).trans (((Below.heap_setCell _ _ _ _ (by simp <;> omega)).trans (((Below.heap_setCell _ _ _ _ (by simp <;> omega)).trans (HR5.out))))))))))))))
  have HO6 : Hid (w6.heap[w.heap.size + 2]? = some (.cells #[.slice g1.A g1.n g1.c, .slice g2.A g2.n g2.c, .slice g3.A g3.n g3.c, .int .i64 d.set.unit, .slice g4.gl.A g4.gl.n g4.gl.c, .bool d.isOpen, .string d.now.name, .int .i64 d.now.code, .int .i64 d.now.adv, .slice g5.out.A g5.out.n g5.out.c, .slice g5.parts.A g5.parts.n g5.parts.c, .slice g5.anchors.A g5.anchors.n g5.anchors.c, .string d.now.hints, .slice none 0 0] 63 (0, 0))) := (hb6.block _ (by first | omega | (simp <;> omega))).trans (Go.Joins.block_setCell (Go.Joins.block_setCell (Go.Joins.block_setCell (Go.Joins.block_setCell (Go.Joins.block_setCell (Go.Joins.block_setCell (Go.Joins.block_setCell (HO5.out) (.string d.now.name)) (.int .i64 d.now.code)) (.int .i64 d.now.adv)) (.slice g5.out.A g5.out.n g5.out.c)) (.slice g5.parts.A g5.parts.n g5.parts.c)) (.slice g5.anchors.A g5.anchors.n g5.anchors.c)) (.string d.now.hints))
  clear HX5 HR5 HO5 cx13 co6 co7 co8 co9 co10 co11 co12 fo
  have co0 : w6.cell? ⟨w.heap.size + 2, 0, none⟩ = some (.slice g1.A g1.n g1.c) := by rw [Go.Joins.cell_of_block HO6.out]; rfl
  have co1 : w6.cell? ⟨w.heap.size + 2, 1, none⟩ = some (.slice g2.A g2.n g2.c) := by rw [Go.Joins.cell_of_block HO6.out]; rfl
  have co2 : w6.cell? ⟨w.heap.size + 2, 2, none⟩ = some (.slice g3.A g3.n g3.c) := by rw [Go.Joins.cell_of_block HO6.out]; rfl
  have co3 : w6.cell? ⟨w.heap.size + 2, 3, none⟩ = some (.int .i64 d.set.unit) := by rw [Go.Joins.cell_of_block HO6.out]; rfl
  have co4 : w6.cell? ⟨w.heap.size + 2, 4, none⟩ = some (.slice g4.gl.A g4.gl.n g4.gl.c) := by rw [Go.Joins.cell_of_block HO6.out]; rfl
  have co5 : w6.cell? ⟨w.heap.size + 2, 5, none⟩ = some (.bool d.isOpen) := by rw [Go.Joins.cell_of_block HO6.out]; rfl
  have co6 : w6.cell? ⟨w.heap.size + 2, 6, none⟩ = some (.string d.now.name) := by rw [Go.Joins.cell_of_block HO6.out]; rfl
  have co7 : w6.cell? ⟨w.heap.size + 2, 7, none⟩ = some (.int .i64 d.now.code) := by rw [Go.Joins.cell_of_block HO6.out]; rfl
  have co8 : w6.cell? ⟨w.heap.size + 2, 8, none⟩ = some (.int .i64 d.now.adv) := by rw [Go.Joins.cell_of_block HO6.out]; rfl
  have co9 : w6.cell? ⟨w.heap.size + 2, 9, none⟩ = some (.slice g5.out.A g5.out.n g5.out.c) := by rw [Go.Joins.cell_of_block HO6.out]; rfl
  have co10 : w6.cell? ⟨w.heap.size + 2, 10, none⟩ = some (.slice g5.parts.A g5.parts.n g5.parts.c) := by rw [Go.Joins.cell_of_block HO6.out]; rfl
  have co11 : w6.cell? ⟨w.heap.size + 2, 11, none⟩ = some (.slice g5.anchors.A g5.anchors.n g5.anchors.c) := by rw [Go.Joins.cell_of_block HO6.out]; rfl
  have co12 : w6.cell? ⟨w.heap.size + 2, 12, none⟩ = some (.string d.now.hints) := by rw [Go.Joins.cell_of_block HO6.out]; rfl
  have co13 : w6.cell? ⟨w.heap.size + 2, 13, none⟩ = some (.slice none 0 0) := by rw [Go.Joins.cell_of_block HO6.out]; rfl
  have fo : ∀ o, w6.frozen? ⟨w.heap.size + 2, o, none⟩ = false := Go.Joins.unfrozen_of_block HO6.out
  have cr0 : w6.cell? ⟨w.heap.size + 1, 0, none⟩ = some (.slice none 0 0) := by rw [Go.Joins.cell_of_block HR6.out]; rfl
  have cr1 : w6.cell? ⟨w.heap.size + 1, 1, none⟩ = some (.slice none 0 0) := by rw [Go.Joins.cell_of_block HR6.out]; rfl
  have cr2 : w6.cell? ⟨w.heap.size + 1, 2, none⟩ = some (.slice none 0 0) := by rw [Go.Joins.cell_of_block HR6.out]; rfl
  have cr3 : w6.cell? ⟨w.heap.size + 1, 3, none⟩ = some (.int .i64 0) := by rw [Go.Joins.cell_of_block HR6.out]; rfl
  have cr4 : w6.cell? ⟨w.heap.size + 1, 4, none⟩ = some (.slice none 0 0) := by rw [Go.Joins.cell_of_block HR6.out]; rfl
  have cr5 : w6.cell? ⟨w.heap.size + 1, 5, none⟩ = some (.bool false) := by rw [Go.Joins.cell_of_block HR6.out]; rfl
  have cr6 : w6.cell? ⟨w.heap.size + 1, 6, none⟩ = some (.string ⟨#[]⟩) := by rw [Go.Joins.cell_of_block HR6.out]; rfl
  have cr7 : w6.cell? ⟨w.heap.size + 1, 7, none⟩ = some (.int .i64 0) := by rw [Go.Joins.cell_of_block HR6.out]; rfl
  have cr8 : w6.cell? ⟨w.heap.size + 1, 8, none⟩ = some (.int .i64 0) := by rw [Go.Joins.cell_of_block HR6.out]; rfl
  have cr9 : w6.cell? ⟨w.heap.size + 1, 9, none⟩ = some (.slice none 0 0) := by rw [Go.Joins.cell_of_block HR6.out]; rfl
  have cr10 : w6.cell? ⟨w.heap.size + 1, 10, none⟩ = some (.slice none 0 0) := by rw [Go.Joins.cell_of_block HR6.out]; rfl
  have cr11 : w6.cell? ⟨w.heap.size + 1, 11, none⟩ = some (.slice none 0 0) := by rw [Go.Joins.cell_of_block HR6.out]; rfl
  have cr12 : w6.cell? ⟨w.heap.size + 1, 12, none⟩ = some (.string ⟨#[]⟩) := by rw [Go.Joins.cell_of_block HR6.out]; rfl
  have cr13 : w6.cell? ⟨w.heap.size + 1, 13, none⟩ = some (.slice none 0 0) := by rw [Go.Joins.cell_of_block HR6.out]; rfl
  have fr : ∀ o, w6.frozen? ⟨w.heap.size + 1, o, none⟩ = false := Go.Joins.unfrozen_of_block HR6.out
  clear hb6
  go_wp2_with fail
  have hfin : ∀ W', SameB (w.heap.size + 3) w6.heap.size w6 W' → w6.heap.size ≤ W'.heap.size → ScRk W' w.heap.size W'.heap.size d ⟨g1, g2, g3, g4, g5, g6⟩ := fun W' hs hz => ⟨((rd1.out).frame good_row hs).wide good_row (by omega) hz, ((rd2.out).frame good_pen hs).wide good_pen (by omega) hz, ((rd3.out).frame good_npath hs).wide good_npath (by omega) hz, ((rd4.out).frame good_glyphc hs).wide good_glyphc (by omega) hz, ((rd5.out).frame hs).wide (by omega) hz, ((rd6.out).frame good_ring hs).wide good_ring (by omega) hz⟩
  refine bodyPost_ret (v := .agg #[.slice g1.A g1.n g1.c, .slice g2.A g2.n g2.c, .slice g3.A g3.n g3.c, .int .i64 d.set.unit, .slice g4.gl.A g4.gl.n g4.gl.c, .bool d.isOpen, .string d.now.name, .int .i64 d.now.code, .int .i64 d.now.adv, .slice g5.out.A g5.out.n g5.out.c, .slice g5.parts.A g5.parts.n g5.parts.c, .slice g5.anchors.A g5.anchors.n g5.anchors.c, .string d.now.hints, .slice g6.A g6.n g6.c]) (by simp [results, Tryz.results7, go_sem, cr0, cr1, cr2, cr3, cr4, cr5, cr6, cr7, cr8, cr9, cr10, cr11, cr12, cr13]) rfl ⟨⟨g1, g2, g3, g4, g5, g6⟩, rfl, hfin _ ?_ (by simp), (by repeat (first | refine Below.setCell ?_ (by first | omega | (simp <;> omega)) _ | refine Below.alloc ?_ (by first | omega | (simp <;> omega)) _ | exact hB6)), cp2.out, cp3.out, cp5.out⟩
  repeat (first | refine SameB.setCell ?_ (.inl (by first | omega | (simp <;> omega))) _ | exact SameB.refl _ _ _)
set_option maxHeartbeats 8000000 in
theorem eqScene_any (d : ScD) (h h' : ScH) (lo hi lo' hi' : Nat) (w : World) (hr : ScRd w lo hi d h) (hr' : ScRd w lo' hi' d h') (hhi : hi ≤ w.heap.size) (hhi' : hi' ≤ w.heap.size) (hm : d.small 100000000) :
    Calls Tryz.prog 9 #[scV d h, scV d h'] w fun e w' => e = .returned (.bool true) ∧ Below w.heap.size w w' := by
  obtain ⟨hr0, hr1, hr2, hr3, hr4, hr5⟩ := hr
  obtain ⟨hq0, hq1, hq2, hq3, hq4, hq5⟩ := hr'
  obtain ⟨hm0, hm1, hm2, hm3, hm4, hm5⟩ := hm
  replace hr0 := Lib.hid hr0
  replace hq0 := Lib.hid hq0
  replace hm0 := Lib.hid hm0
  replace hr1 := Lib.hid hr1
  replace hq1 := Lib.hid hq1
  replace hm1 := Lib.hid hm1
  replace hr2 := Lib.hid hr2
  replace hq2 := Lib.hid hq2
  replace hm2 := Lib.hid hm2
  replace hr3 := Lib.hid hr3
  replace hq3 := Lib.hid hq3
  replace hm3 := Lib.hid hm3
  replace hr4 := Lib.hid hr4
  replace hq4 := Lib.hid hq4
  replace hm4 := Lib.hid hm4
  replace hr5 := Lib.hid hr5
  replace hq5 := Lib.hid hq5
  replace hm5 := Lib.hid hm5
  go_enter Tryz.func9, Tryz.ntmps9
  go_wp2_with fail
  refine (eqSystem_h h.rows h'.rows d.rows lo hi lo' hi' _ ((hr0.out).frame good_row (Below.sameB (B := w.heap.size) (w := w) (by repeat (first | refine Below.setCell ?_ (by first | omega | (simp <;> omega)) _ | refine Below.alloc ?_ (by first | omega | (simp <;> omega)) _ | exact Below.refl _ _)) hhi)) ((hq0.out).frame good_row (Below.sameB (B := w.heap.size) (w := w) (by repeat (first | refine Below.setCell ?_ (by first | omega | (simp <;> omega)) _ | refine Below.alloc ?_ (by first | omega | (simp <;> omega)) _ | exact Below.refl _ _)) hhi')) (by first | omega | (simp <;> omega)) (by first | omega | (simp <;> omega)) hm0.out).mono ?_
  rintro e w1 ⟨rfl, hb1⟩
  have hz1 := hb1.size
  try simp at hz1
  have hB1 : Below w.heap.size w w1 := Below.trans (by repeat (first | refine Below.setCell ?_ (by first | omega | (simp <;> omega)) _ | refine Below.alloc ?_ (by first | omega | (simp <;> omega)) _ | exact Below.refl _ _)) (hb1.mono (by first | omega | (simp <;> omega)))
  have hnew := heap_two w (.cells #[.slice h.rows.A h.rows.n h.rows.c, .slice h.pens.A h.pens.n h.pens.c, .slice h.paths.A h.paths.n h.paths.c, .int .i64 d.set.unit, .slice h.set.gl.A h.set.gl.n h.set.gl.c, .bool d.isOpen, .string d.now.name, .int .i64 d.now.code, .int .i64 d.now.adv, .slice h.now.out.A h.now.out.n h.now.out.c, .slice h.now.parts.A h.now.parts.n h.now.parts.c, .slice h.now.anchors.A h.now.anchors.n h.now.anchors.c, .string d.now.hints, .slice h.shape.A h.shape.n h.shape.c] 63 (0, 0)) (.cells #[.slice h'.rows.A h'.rows.n h'.rows.c, .slice h'.pens.A h'.pens.n h'.pens.c, .slice h'.paths.A h'.paths.n h'.paths.c, .int .i64 d.set.unit, .slice h'.set.gl.A h'.set.gl.n h'.set.gl.c, .bool d.isOpen, .string d.now.name, .int .i64 d.now.code, .int .i64 d.now.adv, .slice h'.now.out.A h'.now.out.n h'.now.out.c, .slice h'.now.parts.A h'.now.parts.n h'.now.parts.c, .slice h'.now.anchors.A h'.now.anchors.n h'.now.anchors.c, .string d.now.hints, .slice h'.shape.A h'.shape.n h'.shape.c] 63 (0, 0))
  have HX1 : Hid (w1.heap[w.heap.size]? = some (.cells #[.slice h.rows.A h.rows.n h.rows.c, .slice h.pens.A h.pens.n h.pens.c, .slice h.paths.A h.paths.n h.paths.c, .int .i64 d.set.unit, .slice h.set.gl.A h.set.gl.n h.set.gl.c, .bool d.isOpen, .string d.now.name, .int .i64 d.now.code, .int .i64 d.now.adv, .slice h.now.out.A h.now.out.n h.now.out.c, .slice h.now.parts.A h.now.parts.n h.now.parts.c, .slice h.now.anchors.A h.now.anchors.n h.now.anchors.c, .string d.now.hints, .slice h.shape.A h.shape.n h.shape.c] 63 (0, 0))) := (hb1.block _ (by first | omega | (simp <;> omega))).trans hnew.1
  have HY1 : Hid (w1.heap[w.heap.size + 1]? = some (.cells #[.slice h'.rows.A h'.rows.n h'.rows.c, .slice h'.pens.A h'.pens.n h'.pens.c, .slice h'.paths.A h'.paths.n h'.paths.c, .int .i64 d.set.unit, .slice h'.set.gl.A h'.set.gl.n h'.set.gl.c, .bool d.isOpen, .string d.now.name, .int .i64 d.now.code, .int .i64 d.now.adv, .slice h'.now.out.A h'.now.out.n h'.now.out.c, .slice h'.now.parts.A h'.now.parts.n h'.now.parts.c, .slice h'.now.anchors.A h'.now.anchors.n h'.now.anchors.c, .string d.now.hints, .slice h'.shape.A h'.shape.n h'.shape.c] 63 (0, 0))) := (hb1.block _ (by first | omega | (simp <;> omega))).trans hnew.2
  clear hnew
  have cx1 : w1.cell? ⟨w.heap.size, 1, none⟩ = some (.slice h.pens.A h.pens.n h.pens.c) := by rw [Go.Joins.cell_of_block HX1.out]; rfl
  have cy1 : w1.cell? ⟨w.heap.size + 1, 1, none⟩ = some (.slice h'.pens.A h'.pens.n h'.pens.c) := by rw [Go.Joins.cell_of_block HY1.out]; rfl
  clear hb1
  go_wp2_with fail
  refine (eqNamedPenS_h h.pens h'.pens d.pens lo hi lo' hi' _ ((hr1.out).frame good_pen (Below.sameB (B := w.heap.size) (w := w) (by repeat (first | refine Below.setCell ?_ (by first | omega | (simp <;> omega)) _ | refine Below.alloc ?_ (by first | omega | (simp <;> omega)) _ | exact hB1)) hhi)) ((hq1.out).frame good_pen (Below.sameB (B := w.heap.size) (w := w) (by repeat (first | refine Below.setCell ?_ (by first | omega | (simp <;> omega)) _ | refine Below.alloc ?_ (by first | omega | (simp <;> omega)) _ | exact hB1)) hhi')) (by first | omega | (simp <;> omega)) (by first | omega | (simp <;> omega)) hm1.out).mono ?_
  rintro e w2 ⟨rfl, hb2⟩
  have hz2 := hb2.size
  try simp at hz2
  have hB2 : Below w.heap.size w w2 := Below.trans (by repeat (first | refine Below.setCell ?_ (by first | omega | (simp <;> omega)) _ | refine Below.alloc ?_ (by first | omega | (simp <;> omega)) _ | exact hB1)) (hb2.mono (by first | omega | (simp <;> omega)))
  have HX2 : Hid (w2.heap[w.heap.size]? = some (.cells #[.slice h.rows.A h.rows.n h.rows.c, .slice h.pens.A h.pens.n h.pens.c, .slice h.paths.A h.paths.n h.paths.c, .int .i64 d.set.unit, .slice h.set.gl.A h.set.gl.n h.set.gl.c, .bool d.isOpen, .string d.now.name, .int .i64 d.now.code, .int .i64 d.now.adv, .slice h.now.out.A h.now.out.n h.now.out.c, .slice h.now.parts.A h.now.parts.n h.now.parts.c, .slice h.now.anchors.A h.now.anchors.n h.now.anchors.c, .string d.now.hints, .slice h.shape.A h.shape.n h.shape.c] 63 (0, 0))) := (hb2.block _ (by first | omega | (simp <;> omega))).trans HX1.out
  have HY2 : Hid (w2.heap[w.heap.size + 1]? = some (.cells #[.slice h'.rows.A h'.rows.n h'.rows.c, .slice h'.pens.A h'.pens.n h'.pens.c, .slice h'.paths.A h'.paths.n h'.paths.c, .int .i64 d.set.unit, .slice h'.set.gl.A h'.set.gl.n h'.set.gl.c, .bool d.isOpen, .string d.now.name, .int .i64 d.now.code, .int .i64 d.now.adv, .slice h'.now.out.A h'.now.out.n h'.now.out.c, .slice h'.now.parts.A h'.now.parts.n h'.now.parts.c, .slice h'.now.anchors.A h'.now.anchors.n h'.now.anchors.c, .string d.now.hints, .slice h'.shape.A h'.shape.n h'.shape.c] 63 (0, 0))) := (hb2.block _ (by first | omega | (simp <;> omega))).trans HY1.out
  clear HX1 HY1 cx1 cy1
  have cx2 : w2.cell? ⟨w.heap.size, 2, none⟩ = some (.slice h.paths.A h.paths.n h.paths.c) := by rw [Go.Joins.cell_of_block HX2.out]; rfl
  have cy2 : w2.cell? ⟨w.heap.size + 1, 2, none⟩ = some (.slice h'.paths.A h'.paths.n h'.paths.c) := by rw [Go.Joins.cell_of_block HY2.out]; rfl
  clear hb2
  go_wp2_with fail
  refine (eqNamedPathS_h h.paths h'.paths d.paths lo hi lo' hi' _ ((hr2.out).frame good_npath (Below.sameB (B := w.heap.size) (w := w) (by repeat (first | refine Below.setCell ?_ (by first | omega | (simp <;> omega)) _ | refine Below.alloc ?_ (by first | omega | (simp <;> omega)) _ | exact hB2)) hhi)) ((hq2.out).frame good_npath (Below.sameB (B := w.heap.size) (w := w) (by repeat (first | refine Below.setCell ?_ (by first | omega | (simp <;> omega)) _ | refine Below.alloc ?_ (by first | omega | (simp <;> omega)) _ | exact hB2)) hhi')) (by first | omega | (simp <;> omega)) (by first | omega | (simp <;> omega)) hm2.out).mono ?_
  rintro e w3 ⟨rfl, hb3⟩
  have hz3 := hb3.size
  try simp at hz3
  have hB3 : Below w.heap.size w w3 := Below.trans (by repeat (first | refine Below.setCell ?_ (by first | omega | (simp <;> omega)) _ | refine Below.alloc ?_ (by first | omega | (simp <;> omega)) _ | exact hB2)) (hb3.mono (by first | omega | (simp <;> omega)))
  have HX3 : Hid (w3.heap[w.heap.size]? = some (.cells #[.slice h.rows.A h.rows.n h.rows.c, .slice h.pens.A h.pens.n h.pens.c, .slice h.paths.A h.paths.n h.paths.c, .int .i64 d.set.unit, .slice h.set.gl.A h.set.gl.n h.set.gl.c, .bool d.isOpen, .string d.now.name, .int .i64 d.now.code, .int .i64 d.now.adv, .slice h.now.out.A h.now.out.n h.now.out.c, .slice h.now.parts.A h.now.parts.n h.now.parts.c, .slice h.now.anchors.A h.now.anchors.n h.now.anchors.c, .string d.now.hints, .slice h.shape.A h.shape.n h.shape.c] 63 (0, 0))) := (hb3.block _ (by first | omega | (simp <;> omega))).trans HX2.out
  have HY3 : Hid (w3.heap[w.heap.size + 1]? = some (.cells #[.slice h'.rows.A h'.rows.n h'.rows.c, .slice h'.pens.A h'.pens.n h'.pens.c, .slice h'.paths.A h'.paths.n h'.paths.c, .int .i64 d.set.unit, .slice h'.set.gl.A h'.set.gl.n h'.set.gl.c, .bool d.isOpen, .string d.now.name, .int .i64 d.now.code, .int .i64 d.now.adv, .slice h'.now.out.A h'.now.out.n h'.now.out.c, .slice h'.now.parts.A h'.now.parts.n h'.now.parts.c, .slice h'.now.anchors.A h'.now.anchors.n h'.now.anchors.c, .string d.now.hints, .slice h'.shape.A h'.shape.n h'.shape.c] 63 (0, 0))) := (hb3.block _ (by first | omega | (simp <;> omega))).trans HY2.out
  clear HX2 HY2 cx2 cy2
  have cx3 : w3.cell? ⟨w.heap.size, 3, none⟩ = some (.int .i64 d.set.unit) := by rw [Go.Joins.cell_of_block HX3.out]; rfl
  have cy3 : w3.cell? ⟨w.heap.size + 1, 3, none⟩ = some (.int .i64 d.set.unit) := by rw [Go.Joins.cell_of_block HY3.out]; rfl
  have cx4 : w3.cell? ⟨w.heap.size, 4, none⟩ = some (.slice h.set.gl.A h.set.gl.n h.set.gl.c) := by rw [Go.Joins.cell_of_block HX3.out]; rfl
  have cy4 : w3.cell? ⟨w.heap.size + 1, 4, none⟩ = some (.slice h'.set.gl.A h'.set.gl.n h'.set.gl.c) := by rw [Go.Joins.cell_of_block HY3.out]; rfl
  clear hb3
  go_wp2_with fail
  refine (eqGlyphSet_h h.set h'.set d.set lo hi lo' hi' _ ((hr3.out).frame good_glyph (Below.sameB (B := w.heap.size) (w := w) (by repeat (first | refine Below.setCell ?_ (by first | omega | (simp <;> omega)) _ | refine Below.alloc ?_ (by first | omega | (simp <;> omega)) _ | exact hB3)) hhi)) ((hq3.out).frame good_glyph (Below.sameB (B := w.heap.size) (w := w) (by repeat (first | refine Below.setCell ?_ (by first | omega | (simp <;> omega)) _ | refine Below.alloc ?_ (by first | omega | (simp <;> omega)) _ | exact hB3)) hhi')) (by first | omega | (simp <;> omega)) (by first | omega | (simp <;> omega)) hm3.out).mono ?_
  rintro e w4 ⟨rfl, hb4⟩
  have hz4 := hb4.size
  try simp at hz4
  have hB4 : Below w.heap.size w w4 := Below.trans (by repeat (first | refine Below.setCell ?_ (by first | omega | (simp <;> omega)) _ | refine Below.alloc ?_ (by first | omega | (simp <;> omega)) _ | exact hB3)) (hb4.mono (by first | omega | (simp <;> omega)))
  have HX4 : Hid (w4.heap[w.heap.size]? = some (.cells #[.slice h.rows.A h.rows.n h.rows.c, .slice h.pens.A h.pens.n h.pens.c, .slice h.paths.A h.paths.n h.paths.c, .int .i64 d.set.unit, .slice h.set.gl.A h.set.gl.n h.set.gl.c, .bool d.isOpen, .string d.now.name, .int .i64 d.now.code, .int .i64 d.now.adv, .slice h.now.out.A h.now.out.n h.now.out.c, .slice h.now.parts.A h.now.parts.n h.now.parts.c, .slice h.now.anchors.A h.now.anchors.n h.now.anchors.c, .string d.now.hints, .slice h.shape.A h.shape.n h.shape.c] 63 (0, 0))) := (hb4.block _ (by first | omega | (simp <;> omega))).trans HX3.out
  have HY4 : Hid (w4.heap[w.heap.size + 1]? = some (.cells #[.slice h'.rows.A h'.rows.n h'.rows.c, .slice h'.pens.A h'.pens.n h'.pens.c, .slice h'.paths.A h'.paths.n h'.paths.c, .int .i64 d.set.unit, .slice h'.set.gl.A h'.set.gl.n h'.set.gl.c, .bool d.isOpen, .string d.now.name, .int .i64 d.now.code, .int .i64 d.now.adv, .slice h'.now.out.A h'.now.out.n h'.now.out.c, .slice h'.now.parts.A h'.now.parts.n h'.now.parts.c, .slice h'.now.anchors.A h'.now.anchors.n h'.now.anchors.c, .string d.now.hints, .slice h'.shape.A h'.shape.n h'.shape.c] 63 (0, 0))) := (hb4.block _ (by first | omega | (simp <;> omega))).trans HY3.out
  clear HX3 HY3 cx3 cy3 cx4 cy4
  have cx5 : w4.cell? ⟨w.heap.size, 5, none⟩ = some (.bool d.isOpen) := by rw [Go.Joins.cell_of_block HX4.out]; rfl
  have cy5 : w4.cell? ⟨w.heap.size + 1, 5, none⟩ = some (.bool d.isOpen) := by rw [Go.Joins.cell_of_block HY4.out]; rfl
  have cx6 : w4.cell? ⟨w.heap.size, 6, none⟩ = some (.string d.now.name) := by rw [Go.Joins.cell_of_block HX4.out]; rfl
  have cy6 : w4.cell? ⟨w.heap.size + 1, 6, none⟩ = some (.string d.now.name) := by rw [Go.Joins.cell_of_block HY4.out]; rfl
  have cx7 : w4.cell? ⟨w.heap.size, 7, none⟩ = some (.int .i64 d.now.code) := by rw [Go.Joins.cell_of_block HX4.out]; rfl
  have cy7 : w4.cell? ⟨w.heap.size + 1, 7, none⟩ = some (.int .i64 d.now.code) := by rw [Go.Joins.cell_of_block HY4.out]; rfl
  have cx8 : w4.cell? ⟨w.heap.size, 8, none⟩ = some (.int .i64 d.now.adv) := by rw [Go.Joins.cell_of_block HX4.out]; rfl
  have cy8 : w4.cell? ⟨w.heap.size + 1, 8, none⟩ = some (.int .i64 d.now.adv) := by rw [Go.Joins.cell_of_block HY4.out]; rfl
  have cx9 : w4.cell? ⟨w.heap.size, 9, none⟩ = some (.slice h.now.out.A h.now.out.n h.now.out.c) := by rw [Go.Joins.cell_of_block HX4.out]; rfl
  have cy9 : w4.cell? ⟨w.heap.size + 1, 9, none⟩ = some (.slice h'.now.out.A h'.now.out.n h'.now.out.c) := by rw [Go.Joins.cell_of_block HY4.out]; rfl
  have cx10 : w4.cell? ⟨w.heap.size, 10, none⟩ = some (.slice h.now.parts.A h.now.parts.n h.now.parts.c) := by rw [Go.Joins.cell_of_block HX4.out]; rfl
  have cy10 : w4.cell? ⟨w.heap.size + 1, 10, none⟩ = some (.slice h'.now.parts.A h'.now.parts.n h'.now.parts.c) := by rw [Go.Joins.cell_of_block HY4.out]; rfl
  have cx11 : w4.cell? ⟨w.heap.size, 11, none⟩ = some (.slice h.now.anchors.A h.now.anchors.n h.now.anchors.c) := by rw [Go.Joins.cell_of_block HX4.out]; rfl
  have cy11 : w4.cell? ⟨w.heap.size + 1, 11, none⟩ = some (.slice h'.now.anchors.A h'.now.anchors.n h'.now.anchors.c) := by rw [Go.Joins.cell_of_block HY4.out]; rfl
  have cx12 : w4.cell? ⟨w.heap.size, 12, none⟩ = some (.string d.now.hints) := by rw [Go.Joins.cell_of_block HX4.out]; rfl
  have cy12 : w4.cell? ⟨w.heap.size + 1, 12, none⟩ = some (.string d.now.hints) := by rw [Go.Joins.cell_of_block HY4.out]; rfl
  clear hb4
  go_wp2_with fail
  refine (eqGlyph_h h.now h'.now d.now lo hi lo' hi' _ ((hr4.out).frame (Below.sameB (B := w.heap.size) (w := w) (by repeat (first | refine Below.setCell ?_ (by first | omega | (simp <;> omega)) _ | refine Below.alloc ?_ (by first | omega | (simp <;> omega)) _ | exact hB4)) hhi)) ((hq4.out).frame (Below.sameB (B := w.heap.size) (w := w) (by repeat (first | refine Below.setCell ?_ (by first | omega | (simp <;> omega)) _ | refine Below.alloc ?_ (by first | omega | (simp <;> omega)) _ | exact hB4)) hhi')) (by first | omega | (simp <;> omega)) (by first | omega | (simp <;> omega)) hm4.out).mono ?_
  rintro e w5 ⟨rfl, hb5⟩
  have hz5 := hb5.size
  try simp at hz5
  have hB5 : Below w.heap.size w w5 := Below.trans (by repeat (first | refine Below.setCell ?_ (by first | omega | (simp <;> omega)) _ | refine Below.alloc ?_ (by first | omega | (simp <;> omega)) _ | exact hB4)) (hb5.mono (by first | omega | (simp <;> omega)))
  have HX5 : Hid (w5.heap[w.heap.size]? = some (.cells #[.slice h.rows.A h.rows.n h.rows.c, .slice h.pens.A h.pens.n h.pens.c, .slice h.paths.A h.paths.n h.paths.c, .int .i64 d.set.unit, .slice h.set.gl.A h.set.gl.n h.set.gl.c, .bool d.isOpen, .string d.now.name, .int .i64 d.now.code, .int .i64 d.now.adv, .slice h.now.out.A h.now.out.n h.now.out.c, .slice h.now.parts.A h.now.parts.n h.now.parts.c, .slice h.now.anchors.A h.now.anchors.n h.now.anchors.c, .string d.now.hints, .slice h.shape.A h.shape.n h.shape.c] 63 (0, 0))) := (hb5.block _ (by first | omega | (simp <;> omega))).trans HX4.out
  have HY5 : Hid (w5.heap[w.heap.size + 1]? = some (.cells #[.slice h'.rows.A h'.rows.n h'.rows.c, .slice h'.pens.A h'.pens.n h'.pens.c, .slice h'.paths.A h'.paths.n h'.paths.c, .int .i64 d.set.unit, .slice h'.set.gl.A h'.set.gl.n h'.set.gl.c, .bool d.isOpen, .string d.now.name, .int .i64 d.now.code, .int .i64 d.now.adv, .slice h'.now.out.A h'.now.out.n h'.now.out.c, .slice h'.now.parts.A h'.now.parts.n h'.now.parts.c, .slice h'.now.anchors.A h'.now.anchors.n h'.now.anchors.c, .string d.now.hints, .slice h'.shape.A h'.shape.n h'.shape.c] 63 (0, 0))) := (hb5.block _ (by first | omega | (simp <;> omega))).trans HY4.out
  clear HX4 HY4 cx5 cy5 cx6 cy6 cx7 cy7 cx8 cy8 cx9 cy9 cx10 cy10 cx11 cy11 cx12 cy12
  have cx13 : w5.cell? ⟨w.heap.size, 13, none⟩ = some (.slice h.shape.A h.shape.n h.shape.c) := by rw [Go.Joins.cell_of_block HX5.out]; rfl
  have cy13 : w5.cell? ⟨w.heap.size + 1, 13, none⟩ = some (.slice h'.shape.A h'.shape.n h'.shape.c) := by rw [Go.Joins.cell_of_block HY5.out]; rfl
  clear hb5
  go_wp2_with fail
  refine (eqRegion_h h.shape h'.shape d.shape lo hi lo' hi' _ ((hr5.out).frame good_ring (Below.sameB (B := w.heap.size) (w := w) (by repeat (first | refine Below.setCell ?_ (by first | omega | (simp <;> omega)) _ | refine Below.alloc ?_ (by first | omega | (simp <;> omega)) _ | exact hB5)) hhi)) ((hq5.out).frame good_ring (Below.sameB (B := w.heap.size) (w := w) (by repeat (first | refine Below.setCell ?_ (by first | omega | (simp <;> omega)) _ | refine Below.alloc ?_ (by first | omega | (simp <;> omega)) _ | exact hB5)) hhi')) (by first | omega | (simp <;> omega)) (by first | omega | (simp <;> omega)) hm5.out).mono ?_
  rintro e w6 ⟨rfl, hb6⟩
  have hz6 := hb6.size
  try simp at hz6
  have hB6 : Below w.heap.size w w6 := Below.trans (by repeat (first | refine Below.setCell ?_ (by first | omega | (simp <;> omega)) _ | refine Below.alloc ?_ (by first | omega | (simp <;> omega)) _ | exact hB5)) (hb6.mono (by first | omega | (simp <;> omega)))
  have HX6 : Hid (w6.heap[w.heap.size]? = some (.cells #[.slice h.rows.A h.rows.n h.rows.c, .slice h.pens.A h.pens.n h.pens.c, .slice h.paths.A h.paths.n h.paths.c, .int .i64 d.set.unit, .slice h.set.gl.A h.set.gl.n h.set.gl.c, .bool d.isOpen, .string d.now.name, .int .i64 d.now.code, .int .i64 d.now.adv, .slice h.now.out.A h.now.out.n h.now.out.c, .slice h.now.parts.A h.now.parts.n h.now.parts.c, .slice h.now.anchors.A h.now.anchors.n h.now.anchors.c, .string d.now.hints, .slice h.shape.A h.shape.n h.shape.c] 63 (0, 0))) := (hb6.block _ (by first | omega | (simp <;> omega))).trans HX5.out
  have HY6 : Hid (w6.heap[w.heap.size + 1]? = some (.cells #[.slice h'.rows.A h'.rows.n h'.rows.c, .slice h'.pens.A h'.pens.n h'.pens.c, .slice h'.paths.A h'.paths.n h'.paths.c, .int .i64 d.set.unit, .slice h'.set.gl.A h'.set.gl.n h'.set.gl.c, .bool d.isOpen, .string d.now.name, .int .i64 d.now.code, .int .i64 d.now.adv, .slice h'.now.out.A h'.now.out.n h'.now.out.c, .slice h'.now.parts.A h'.now.parts.n h'.now.parts.c, .slice h'.now.anchors.A h'.now.anchors.n h'.now.anchors.c, .string d.now.hints, .slice h'.shape.A h'.shape.n h'.shape.c] 63 (0, 0))) := (hb6.block _ (by first | omega | (simp <;> omega))).trans HY5.out
  clear HX5 HY5 cx13 cy13
  clear hb6
  go_wp2_with fail
  go_ret
  exact ⟨rfl, (by repeat (first | refine Below.setCell ?_ (by first | omega | (simp <;> omega)) _ | refine Below.alloc ?_ (by first | omega | (simp <;> omega)) _ | exact hB6))⟩
end Go.Proofs.YtfkidklpjiiclaaGreat

