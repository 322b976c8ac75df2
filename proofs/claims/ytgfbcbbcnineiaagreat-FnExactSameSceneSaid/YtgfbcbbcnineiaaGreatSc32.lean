/- The laws' own functions on a Glyph: the copy, the comparison. Conditions: as each states. -/
import Derived.Test.YtgfbcbbcnineiaaGreatSc22
namespace Go.Proofs.YtgfbcbbcnineiaaGreat
open Go.RowKit
set_option linter.unusedVariables false
set_option maxRecDepth 100000

set_option maxHeartbeats 4000000 in
theorem toGlyph_any (d : Gl) (h : GlH) (lo hi : Nat) (w : World) (hr : GlRd w lo hi d h) (hhi : hi ≤ w.heap.size) (hm : d.small 1048576) :
    Calls Tryz.prog 24 #[glV d h] w fun e w' => ∃ h' : GlH, e = .returned (glV d h') ∧ GlRd w' w.heap.size w'.heap.size d h' ∧ Below w.heap.size w w' ∧ h'.anchors.n ≤ h'.anchors.c := by
  obtain ⟨hr0, hr1, hr2⟩ := hr
  have hm0 := Lib.hid (hm.out (n := h.out.n) hr0.1)
  have hm1 := Lib.hid (hm.parts (n := h.parts.n) hr1.1)
  have hm2 := Lib.hid (hm.anchors (n := h.anchors.n) hr2.1)
  clear hm
  replace hr0 := Lib.hid hr0
  replace hr1 := Lib.hid hr1
  replace hr2 := Lib.hid hr2
  go_enter Tryz.func24, Tryz.ntmps24
  go_wp2_with fail
  refine (toOutline_rd _ _ _ lo hi d.out _ (hr0.out.frame good_loop (Below.sameB (B := w.heap.size) (w := w) (by repeat (first | refine Below.setCell ?_ (by first | omega | (simp <;> omega)) _ | refine Below.alloc ?_ (by first | omega | (simp <;> omega)) _ | exact Below.refl _ _)) hhi)) (by first | omega | (simp <;> omega)) hm0.out).mono ?_
  rintro e w1 ⟨A1, c1, rfl, ho1, hb1⟩
  have hz1 := hb1.size
  try simp at hz1
  have hB1 : Below w.heap.size w w1 := Below.trans (by repeat (first | refine Below.setCell ?_ (by first | omega | (simp <;> omega)) _ | refine Below.alloc ?_ (by first | omega | (simp <;> omega)) _ | exact Below.refl _ _)) (hb1.mono (by first | omega | (simp <;> omega)))
  have rd1 := Lib.hid (RdS.wide good_loop ho1 (lo' := w.heap.size + 3) (hi' := w1.heap.size) (by first | omega | (simp <;> omega)) (Nat.le_refl _))
  clear ho1
  have hnew := heap_new0 w (.cells #[.string d.name, .int .i64 d.code, .int .i64 d.adv, .slice h.out.A h.out.n h.out.c, .slice h.parts.A h.parts.n h.parts.c, .slice h.anchors.A h.anchors.n h.anchors.c, .string d.hints] 36 (0, 0)) (.cells #[.string ⟨#[]⟩, .int .i64 0, .int .i64 0, .slice none 0 0, .slice none 0 0, .slice none 0 0, .string ⟨#[]⟩] 58 (0, 0)) (.cells #[.string d.name, .int .i64 d.code, .int .i64 d.adv, .slice none 0 0, .slice none 0 0, .slice none 0 0, .string ⟨#[]⟩] 58 (0, 0))
  have HX1 : Hid (w1.heap[w.heap.size]? = some (.cells #[.string d.name, .int .i64 d.code, .int .i64 d.adv, .slice h.out.A h.out.n h.out.c, .slice h.parts.A h.parts.n h.parts.c, .slice h.anchors.A h.anchors.n h.anchors.c, .string d.hints] 36 (0, 0))) := (hb1.block _ (by first | omega | (simp <;> omega))).trans hnew.1
  have HR1 : Hid (w1.heap[w.heap.size + 1]? = some (.cells #[.string ⟨#[]⟩, .int .i64 0, .int .i64 0, .slice none 0 0, .slice none 0 0, .slice none 0 0, .string ⟨#[]⟩] 58 (0, 0))) := (hb1.block _ (by first | omega | (simp <;> omega))).trans hnew.2.1
  have HO1 : Hid (w1.heap[w.heap.size + 2]? = some (.cells #[.string d.name, .int .i64 d.code, .int .i64 d.adv, .slice none 0 0, .slice none 0 0, .slice none 0 0, .string ⟨#[]⟩] 58 (0, 0))) := (hb1.block _ (by first | omega | (simp <;> omega))).trans hnew.2.2
  clear hnew
  have cx4 : w1.cell? ⟨w.heap.size, 4, none⟩ = some (.slice h.parts.A h.parts.n h.parts.c) := by rw [Go.Joins.cell_of_block HX1.out]; rfl
  have co3 : w1.cell? ⟨w.heap.size + 2, 3, none⟩ = some (.slice none 0 0) := by rw [Go.Joins.cell_of_block HO1.out]; rfl
  have fo : ∀ o, w1.frozen? ⟨w.heap.size + 2, o, none⟩ = false := Go.Joins.unfrozen_of_block HO1.out
  clear hb1
  go_wp2_with fail
  refine (toPartS_rd _ _ _ lo hi d.parts _ (hr1.out.frame (good_flat _) (Below.sameB (B := w.heap.size) (w := w) (by repeat (first | refine Below.setCell ?_ (by first | omega | (simp <;> omega)) _ | refine Below.alloc ?_ (by first | omega | (simp <;> omega)) _ | exact hB1)) hhi)) (by first | omega | (simp <;> omega)) hm1.out).mono ?_
  rintro e w2 ⟨A2, c2, rfl, ho2, hb2⟩
  have hz2 := hb2.size
  try simp at hz2
  have hB2 : Below w.heap.size w w2 := Below.trans (by repeat (first | refine Below.setCell ?_ (by first | omega | (simp <;> omega)) _ | refine Below.alloc ?_ (by first | omega | (simp <;> omega)) _ | exact hB1)) (hb2.mono (by first | omega | (simp <;> omega)))
  have rd2 := Lib.hid (RdS.wide (good_flat _) ho2 (lo' := w.heap.size + 3) (hi' := w2.heap.size) (by first | omega | (simp <;> omega)) (Nat.le_refl _))
  clear ho2
  have hs : SameB (w.heap.size + 3) w1.heap.size w1 w2 := SameB.trans (SameB.setCell (SameB.refl _ _ w1) (.inl (by simp)) _) (Below.sameB hb2 (by simp))
  replace rd1 := Lib.hid ((rd1.out.frame good_loop hs).wide good_loop (lo' := w.heap.size + 3) (hi' := w2.heap.size) (Nat.le_refl _) (by omega))
  clear hs
  have HX2 : Hid (w2.heap[w.heap.size]? = some (.cells #[.string d.name, .int .i64 d.code, .int .i64 d.adv, .slice h.out.A h.out.n h.out.c, .slice h.parts.A h.parts.n h.parts.c, .slice h.anchors.A h.anchors.n h.anchors.c, .string d.hints] 36 (0, 0))) := (hb2.block _ (by first | omega | (simp <;> omega))).trans ((Below.heap_setCell _ _ _ _ (by simp <;> omega)).trans (HX1.out))
  have HR2 : Hid (w2.heap[w.heap.size + 1]? = some (.cells #[.string ⟨#[]⟩, .int .i64 0, .int .i64 0, .slice none 0 0, .slice none 0 0, .slice none 0 0, .string ⟨#[]⟩] 58 (0, 0))) := (hb2.block _ (by first | omega | (simp <;> omega))).trans ((Below.heap_setCell _ _ _ _ (by simp <;> omega)).trans (HR1.out))
  have HO2 : Hid (w2.heap[w.heap.size + 2]? = some (.cells #[.string d.name, .int .i64 d.code, .int .i64 d.adv, .slice A1 h.out.n c1, .slice none 0 0, .slice none 0 0, .string ⟨#[]⟩] 58 (0, 0))) := (hb2.block _ (by first | omega | (simp <;> omega))).trans (Go.Joins.block_setCell (HO1.out) (.slice A1 h.out.n c1))
  clear HX1 HR1 HO1 cx4 co3 fo
  have cx5 : w2.cell? ⟨w.heap.size, 5, none⟩ = some (.slice h.anchors.A h.anchors.n h.anchors.c) := by rw [Go.Joins.cell_of_block HX2.out]; rfl
  have co4 : w2.cell? ⟨w.heap.size + 2, 4, none⟩ = some (.slice none 0 0) := by rw [Go.Joins.cell_of_block HO2.out]; rfl
  have fo : ∀ o, w2.frozen? ⟨w.heap.size + 2, o, none⟩ = false := Go.Joins.unfrozen_of_block HO2.out
  clear hb2
  go_wp2_with fail
  refine (toAnchorS_rdc _ _ _ lo hi d.anchors _ (hr2.out.frame (good_flat _) (Below.sameB (B := w.heap.size) (w := w) (by repeat (first | refine Below.setCell ?_ (by first | omega | (simp <;> omega)) _ | refine Below.alloc ?_ (by first | omega | (simp <;> omega)) _ | exact hB2)) hhi)) (by first | omega | (simp <;> omega)) hm2.out).mono ?_
  rintro e w3 ⟨A3, c3, rfl, ho3, hb3, hcap⟩
  have hz3 := hb3.size
  try simp at hz3
  have hB3 : Below w.heap.size w w3 := Below.trans (by repeat (first | refine Below.setCell ?_ (by first | omega | (simp <;> omega)) _ | refine Below.alloc ?_ (by first | omega | (simp <;> omega)) _ | exact hB2)) (hb3.mono (by first | omega | (simp <;> omega)))
  have rd3 := Lib.hid (RdS.wide (good_flat _) ho3 (lo' := w.heap.size + 3) (hi' := w3.heap.size) (by first | omega | (simp <;> omega)) (Nat.le_refl _))
  clear ho3
  have hs : SameB (w.heap.size + 3) w2.heap.size w2 w3 := SameB.trans (SameB.setCell (SameB.refl _ _ w2) (.inl (by simp)) _) (Below.sameB hb3 (by simp))
  replace rd1 := Lib.hid ((rd1.out.frame good_loop hs).wide good_loop (lo' := w.heap.size + 3) (hi' := w3.heap.size) (Nat.le_refl _) (by omega))
  replace rd2 := Lib.hid ((rd2.out.frame (good_flat _) hs).wide (good_flat _) (lo' := w.heap.size + 3) (hi' := w3.heap.size) (Nat.le_refl _) (by omega))
  clear hs
  have HX3 : Hid (w3.heap[w.heap.size]? = some (.cells #[.string d.name, .int .i64 d.code, .int .i64 d.adv, .slice h.out.A h.out.n h.out.c, .slice h.parts.A h.parts.n h.parts.c, .slice h.anchors.A h.anchors.n h.anchors.c, .string d.hints] 36 (0, 0))) := (hb3.block _ (by first | omega | (simp <;> omega))).trans ((Below.heap_setCell _ _ _ _ (by simp <;> omega)).trans (HX2.out))
  have HR3 : Hid (w3.heap[w.heap.size + 1]? = some (.cells #[.string ⟨#[]⟩, .int .i64 0, .int .i64 0, .slice none 0 0, .slice none 0 0, .slice none 0 0, .string ⟨#[]⟩] 58 (0, 0))) := (hb3.block _ (by first | omega | (simp <;> omega))).trans ((Below.heap_setCell _ _ _ _ (by simp <;> omega)).trans (HR2.out))
  have HO3 : Hid (w3.heap[w.heap.size + 2]? = some (.cells #[.string d.name, .int .i64 d.code, .int .i64 d.adv, .slice A1 h.out.n c1, .slice A2 h.parts.n c2, .slice none 0 0, .string ⟨#[]⟩] 58 (0, 0))) := (hb3.block _ (by first | omega | (simp <;> omega))).trans (Go.Joins.block_setCell (HO2.out) (.slice A2 h.parts.n c2))
  clear HX2 HR2 HO2 cx5 co4 fo
  have cx6 : w3.cell? ⟨w.heap.size, 6, none⟩ = some (.string d.hints) := by rw [Go.Joins.cell_of_block HX3.out]; rfl
  have co0 : w3.cell? ⟨w.heap.size + 2, 0, none⟩ = some (.string d.name) := by rw [Go.Joins.cell_of_block HO3.out]; rfl
  have co1 : w3.cell? ⟨w.heap.size + 2, 1, none⟩ = some (.int .i64 d.code) := by rw [Go.Joins.cell_of_block HO3.out]; rfl
  have co2 : w3.cell? ⟨w.heap.size + 2, 2, none⟩ = some (.int .i64 d.adv) := by rw [Go.Joins.cell_of_block HO3.out]; rfl
  have co3 : w3.cell? ⟨w.heap.size + 2, 3, none⟩ = some (.slice A1 h.out.n c1) := by rw [Go.Joins.cell_of_block HO3.out]; rfl
  have co4 : w3.cell? ⟨w.heap.size + 2, 4, none⟩ = some (.slice A2 h.parts.n c2) := by rw [Go.Joins.cell_of_block HO3.out]; rfl
  have co5 : w3.cell? ⟨w.heap.size + 2, 5, none⟩ = some (.slice none 0 0) := by rw [Go.Joins.cell_of_block HO3.out]; rfl
  have co6 : w3.cell? ⟨w.heap.size + 2, 6, none⟩ = some (.string ⟨#[]⟩) := by rw [Go.Joins.cell_of_block HO3.out]; rfl
  have fo : ∀ o, w3.frozen? ⟨w.heap.size + 2, o, none⟩ = false := Go.Joins.unfrozen_of_block HO3.out
  have cr0 : w3.cell? ⟨w.heap.size + 1, 0, none⟩ = some (.string ⟨#[]⟩) := by rw [Go.Joins.cell_of_block HR3.out]; rfl
  have cr1 : w3.cell? ⟨w.heap.size + 1, 1, none⟩ = some (.int .i64 0) := by rw [Go.Joins.cell_of_block HR3.out]; rfl
  have cr2 : w3.cell? ⟨w.heap.size + 1, 2, none⟩ = some (.int .i64 0) := by rw [Go.Joins.cell_of_block HR3.out]; rfl
  have cr3 : w3.cell? ⟨w.heap.size + 1, 3, none⟩ = some (.slice none 0 0) := by rw [Go.Joins.cell_of_block HR3.out]; rfl
  have cr4 : w3.cell? ⟨w.heap.size + 1, 4, none⟩ = some (.slice none 0 0) := by rw [Go.Joins.cell_of_block HR3.out]; rfl
  have cr5 : w3.cell? ⟨w.heap.size + 1, 5, none⟩ = some (.slice none 0 0) := by rw [Go.Joins.cell_of_block HR3.out]; rfl
  have cr6 : w3.cell? ⟨w.heap.size + 1, 6, none⟩ = some (.string ⟨#[]⟩) := by rw [Go.Joins.cell_of_block HR3.out]; rfl
  have fr : ∀ o, w3.frozen? ⟨w.heap.size + 1, o, none⟩ = false := Go.Joins.unfrozen_of_block HR3.out
  clear hb3
  go_wp2_with fail
  have hfin : ∀ W', SameB (w.heap.size + 3) w3.heap.size w3 W' → w3.heap.size ≤ W'.heap.size → GlRd W' w.heap.size W'.heap.size d ⟨⟨A1, h.out.n, c1⟩, ⟨A2, h.parts.n, c2⟩, ⟨A3, h.anchors.n, c3⟩⟩ := fun W' hs hz => ⟨(rd1.out.frame good_loop hs).wide good_loop (by omega) hz, (rd2.out.frame (good_flat _) hs).wide (good_flat _) (by omega) hz, (rd3.out.frame (good_flat _) hs).wide (good_flat _) (by omega) hz⟩
  refine bodyPost_ret (v := .agg #[.string d.name, .int .i64 d.code, .int .i64 d.adv, .slice A1 h.out.n c1, .slice A2 h.parts.n c2, .slice A3 h.anchors.n c3, .string d.hints]) (by simp [results, Tryz.results24, go_sem, cr0, cr1, cr2, cr3, cr4, cr5, cr6]) rfl ⟨⟨⟨A1, h.out.n, c1⟩, ⟨A2, h.parts.n, c2⟩, ⟨A3, h.anchors.n, c3⟩⟩, rfl, hfin _ ?_ (by simp), (by repeat (first | refine Below.setCell ?_ (by first | omega | (simp <;> omega)) _ | refine Below.alloc ?_ (by first | omega | (simp <;> omega)) _ | exact hB3)), hcap⟩
  repeat (first | refine SameB.setCell ?_ (.inl (by first | omega | (simp <;> omega))) _ | exact SameB.refl _ _ _)

set_option maxHeartbeats 4000000 in
theorem eqGlyph_any (d : Gl) (h h' : GlH) (lo hi lo' hi' : Nat) (w : World) (hr : GlRd w lo hi d h) (hr' : GlRd w lo' hi' d h') (hhi : hi ≤ w.heap.size) (hhi' : hi' ≤ w.heap.size) (hm : d.small 100000000) :
    Calls Tryz.prog 39 #[glV d h, glV d h'] w fun e w' => e = .returned (.bool true) ∧ Below w.heap.size w w' := by
  obtain ⟨hr0, hr1, hr2⟩ := hr
  obtain ⟨hq0, hq1, hq2⟩ := hr'
  have hm0 := Lib.hid (hm.out (n := h.out.n) hr0.1)
  have hm1 := Lib.hid (hm.parts (n := h.parts.n) hr1.1)
  have hm2 := Lib.hid (hm.anchors (n := h.anchors.n) hr2.1)
  clear hm
  replace hr0 := Lib.hid hr0
  replace hq0 := Lib.hid hq0
  replace hr1 := Lib.hid hr1
  replace hq1 := Lib.hid hq1
  replace hr2 := Lib.hid hr2
  replace hq2 := Lib.hid hq2
  go_enter Tryz.func39, Tryz.ntmps39
  go_wp2_with fail
  refine (eqOutline_rd _ _ _ _ _ _ lo hi lo' hi' d.out _ (hr0.out.frame good_loop (Below.sameB (B := w.heap.size) (w := w) (by repeat (first | refine Below.setCell ?_ (by first | omega | (simp <;> omega)) _ | refine Below.alloc ?_ (by first | omega | (simp <;> omega)) _ | exact Below.refl _ _)) hhi)) (hq0.out.frame good_loop (Below.sameB (B := w.heap.size) (w := w) (by repeat (first | refine Below.setCell ?_ (by first | omega | (simp <;> omega)) _ | refine Below.alloc ?_ (by first | omega | (simp <;> omega)) _ | exact Below.refl _ _)) hhi')) (by first | omega | (simp <;> omega)) (by first | omega | (simp <;> omega)) hm0.out).mono ?_
  rintro e w1 ⟨rfl, hb1⟩
  have hz1 := hb1.size
  try simp at hz1
  have hB1 : Below w.heap.size w w1 := Below.trans (by repeat (first | refine Below.setCell ?_ (by first | omega | (simp <;> omega)) _ | refine Below.alloc ?_ (by first | omega | (simp <;> omega)) _ | exact Below.refl _ _)) (hb1.mono (by first | omega | (simp <;> omega)))
  have hnew := heap_new2 w (.cells #[.string d.name, .int .i64 d.code, .int .i64 d.adv, .slice h.out.A h.out.n h.out.c, .slice h.parts.A h.parts.n h.parts.c, .slice h.anchors.A h.anchors.n h.anchors.c, .string d.hints] 58 (0, 0)) (.cells #[.string d.name, .int .i64 d.code, .int .i64 d.adv, .slice h'.out.A h'.out.n h'.out.c, .slice h'.parts.A h'.parts.n h'.parts.c, .slice h'.anchors.A h'.anchors.n h'.anchors.c, .string d.hints] 58 (0, 0))
  have HX1 : Hid (w1.heap[w.heap.size]? = some (.cells #[.string d.name, .int .i64 d.code, .int .i64 d.adv, .slice h.out.A h.out.n h.out.c, .slice h.parts.A h.parts.n h.parts.c, .slice h.anchors.A h.anchors.n h.anchors.c, .string d.hints] 58 (0, 0))) := (hb1.block _ (by first | omega | (simp <;> omega))).trans hnew.1
  have HY1 : Hid (w1.heap[w.heap.size + 1]? = some (.cells #[.string d.name, .int .i64 d.code, .int .i64 d.adv, .slice h'.out.A h'.out.n h'.out.c, .slice h'.parts.A h'.parts.n h'.parts.c, .slice h'.anchors.A h'.anchors.n h'.anchors.c, .string d.hints] 58 (0, 0))) := (hb1.block _ (by first | omega | (simp <;> omega))).trans hnew.2
  clear hnew
  have cx4 : w1.cell? ⟨w.heap.size, 4, none⟩ = some (.slice h.parts.A h.parts.n h.parts.c) := by rw [Go.Joins.cell_of_block HX1.out]; rfl
  have cy4 : w1.cell? ⟨w.heap.size + 1, 4, none⟩ = some (.slice h'.parts.A h'.parts.n h'.parts.c) := by rw [Go.Joins.cell_of_block HY1.out]; rfl
  clear hb1
  go_wp2_with fail
  refine (eqPartS_rd _ _ _ _ _ _ lo hi lo' hi' d.parts _ (hr1.out.frame (good_flat _) (Below.sameB (B := w.heap.size) (w := w) (by repeat (first | refine Below.setCell ?_ (by first | omega | (simp <;> omega)) _ | refine Below.alloc ?_ (by first | omega | (simp <;> omega)) _ | exact hB1)) hhi)) (hq1.out.frame (good_flat _) (Below.sameB (B := w.heap.size) (w := w) (by repeat (first | refine Below.setCell ?_ (by first | omega | (simp <;> omega)) _ | refine Below.alloc ?_ (by first | omega | (simp <;> omega)) _ | exact hB1)) hhi')) (by first | omega | (simp <;> omega)) (by first | omega | (simp <;> omega)) hm1.out).mono ?_
  rintro e w2 ⟨rfl, hb2⟩
  have hz2 := hb2.size
  try simp at hz2
  have hB2 : Below w.heap.size w w2 := Below.trans (by repeat (first | refine Below.setCell ?_ (by first | omega | (simp <;> omega)) _ | refine Below.alloc ?_ (by first | omega | (simp <;> omega)) _ | exact hB1)) (hb2.mono (by first | omega | (simp <;> omega)))
  have HX2 : Hid (w2.heap[w.heap.size]? = some (.cells #[.string d.name, .int .i64 d.code, .int .i64 d.adv, .slice h.out.A h.out.n h.out.c, .slice h.parts.A h.parts.n h.parts.c, .slice h.anchors.A h.anchors.n h.anchors.c, .string d.hints] 58 (0, 0))) := (hb2.block _ (by first | omega | (simp <;> omega))).trans HX1.out
  have HY2 : Hid (w2.heap[w.heap.size + 1]? = some (.cells #[.string d.name, .int .i64 d.code, .int .i64 d.adv, .slice h'.out.A h'.out.n h'.out.c, .slice h'.parts.A h'.parts.n h'.parts.c, .slice h'.anchors.A h'.anchors.n h'.anchors.c, .string d.hints] 58 (0, 0))) := (hb2.block _ (by first | omega | (simp <;> omega))).trans HY1.out
  clear HX1 HY1 cx4 cy4
  have cx5 : w2.cell? ⟨w.heap.size, 5, none⟩ = some (.slice h.anchors.A h.anchors.n h.anchors.c) := by rw [Go.Joins.cell_of_block HX2.out]; rfl
  have cy5 : w2.cell? ⟨w.heap.size + 1, 5, none⟩ = some (.slice h'.anchors.A h'.anchors.n h'.anchors.c) := by rw [Go.Joins.cell_of_block HY2.out]; rfl
  clear hb2
  go_wp2_with fail
  refine (eqAnchorS_rd _ _ _ _ _ _ lo hi lo' hi' d.anchors _ (hr2.out.frame (good_flat _) (Below.sameB (B := w.heap.size) (w := w) (by repeat (first | refine Below.setCell ?_ (by first | omega | (simp <;> omega)) _ | refine Below.alloc ?_ (by first | omega | (simp <;> omega)) _ | exact hB2)) hhi)) (hq2.out.frame (good_flat _) (Below.sameB (B := w.heap.size) (w := w) (by repeat (first | refine Below.setCell ?_ (by first | omega | (simp <;> omega)) _ | refine Below.alloc ?_ (by first | omega | (simp <;> omega)) _ | exact hB2)) hhi')) (by first | omega | (simp <;> omega)) (by first | omega | (simp <;> omega)) hm2.out).mono ?_
  rintro e w3 ⟨rfl, hb3⟩
  have hz3 := hb3.size
  try simp at hz3
  have hB3 : Below w.heap.size w w3 := Below.trans (by repeat (first | refine Below.setCell ?_ (by first | omega | (simp <;> omega)) _ | refine Below.alloc ?_ (by first | omega | (simp <;> omega)) _ | exact hB2)) (hb3.mono (by first | omega | (simp <;> omega)))
  have HX3 : Hid (w3.heap[w.heap.size]? = some (.cells #[.string d.name, .int .i64 d.code, .int .i64 d.adv, .slice h.out.A h.out.n h.out.c, .slice h.parts.A h.parts.n h.parts.c, .slice h.anchors.A h.anchors.n h.anchors.c, .string d.hints] 58 (0, 0))) := (hb3.block _ (by first | omega | (simp <;> omega))).trans HX2.out
  have HY3 : Hid (w3.heap[w.heap.size + 1]? = some (.cells #[.string d.name, .int .i64 d.code, .int .i64 d.adv, .slice h'.out.A h'.out.n h'.out.c, .slice h'.parts.A h'.parts.n h'.parts.c, .slice h'.anchors.A h'.anchors.n h'.anchors.c, .string d.hints] 58 (0, 0))) := (hb3.block _ (by first | omega | (simp <;> omega))).trans HY2.out
  clear HX2 HY2 cx5 cy5
  have cx6 : w3.cell? ⟨w.heap.size, 6, none⟩ = some (.string d.hints) := by rw [Go.Joins.cell_of_block HX3.out]; rfl
  have cy6 : w3.cell? ⟨w.heap.size + 1, 6, none⟩ = some (.string d.hints) := by rw [Go.Joins.cell_of_block HY3.out]; rfl
  clear hb3
  go_wp2_with fail
  go_ret
  exact ⟨rfl, (by repeat (first | refine Below.setCell ?_ (by first | omega | (simp <;> omega)) _ | refine Below.alloc ?_ (by first | omega | (simp <;> omega)) _ | exact hB3))⟩
end Go.Proofs.YtgfbcbbcnineiaaGreat

