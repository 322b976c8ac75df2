/- The laws' own functions on a Glyph: the copy, the comparison. Conditions: as each states. -/
import Derived.Test.YtgdkabljgabjoaaGreatDoorRa09
namespace Go.Proofs.YtgdkabljgabjoaaGreatDoor
open Go.RowKit
set_option linter.unusedVariables false
set_option maxRecDepth 100000

set_option maxHeartbeats 4000000 in
theorem eqGlyph_any (d : Gl) (h h' : GlH) (lo hi lo' hi' : Nat) (w : World) (hr : GlRd w lo hi d h) (hr' : GlRd w lo' hi' d h') (hhi : hi ≤ w.heap.size) (hhi' : hi' ≤ w.heap.size) (hm : d.small 100000000) :
    Calls Tryz.prog 8 #[glV d h, glV d h'] w fun e w' => e = .returned (.bool true) ∧ Below w.heap.size w w' := by
  obtain ⟨hr0, hr1, hr2⟩ := hr
  obtain ⟨hq0, hq1, hq2⟩ := hr'
  have hm0 := Lib.hid (hm.out (n := h.out.n) hr0.1)
  have hm1 := Lib.hid (hm.parts (n := h.parts.n) hr1.1)
  have hm2 := Lib.hid (hm.anchors (n := h.anchors.n) hr2.1)
  clear hm
  replace hr0 := Lib.hid hr0
  replace hq0 := Lib.hid hq0
  replace hr1 := Lib.hid hr1
  replace hq1 := Lib.hid hq1
  replace hr2 := Lib.hid hr2
  replace hq2 := Lib.hid hq2
  go_enter Tryz.func8, Tryz.ntmps8
  go_wp2_with fail
  refine (eqOutline_rd _ _ _ _ _ _ lo hi lo' hi' d.out _ (hr0.out.frame good_loop (Below.sameB (B := w.heap.size) (w := w) (by repeat (first | refine Below.setCell ?_ (by first | omega | (simp <;> omega)) _ | refine Below.alloc ?_ (by first | omega | (simp <;> omega)) _ | exact Below.refl _ _)) hhi)) (hq0.out.frame good_loop (Below.sameB (B := w.heap.size) (w := w) (by repeat (first | refine Below.setCell ?_ (by first | omega | (simp <;> omega)) _ | refine Below.alloc ?_ (by first | omega | (simp <;> omega)) _ | exact Below.refl _ _)) hhi')) (by first | omega | (simp <;> omega)) (by first | omega | (simp <;> omega)) hm0.out).mono ?_
  rintro e w1 ⟨rfl, hb1⟩
  have hz1 := hb1.size
  try simp at hz1
  have hB1 : Below w.heap.size w w1 := Below.trans (by repeat (first | refine Below.setCell ?_ (by first | omega | (simp <;> omega)) _ | refine Below.alloc ?_ (by first | omega | (simp <;> omega)) _ | exact Below.refl _ _)) (hb1.mono (by first | omega | (simp <;> omega)))
  have hnew := heap_new2 w (.cells #[.string d.name, .int .i64 d.code, .int .i64 d.adv, .slice h.out.A h.out.n h.out.c, .slice h.parts.A h.parts.n h.parts.c, .slice h.anchors.A h.anchors.n h.anchors.c, .string d.hints] 28 (0, 0)) (.cells #[.string d.name, .int .i64 d.code, .int .i64 d.adv, .slice h'.out.A h'.out.n h'.out.c, .slice h'.parts.A h'.parts.n h'.parts.c, .slice h'.anchors.A h'.anchors.n h'.anchors.c, .string d.hints] 28 (0, 0))
  have HX1 : Hid (w1.heap[w.heap.size]? = some (.cells #[.string d.name, .int .i64 d.code, .int .i64 d.adv, .slice h.out.A h.out.n h.out.c, .slice h.parts.A h.parts.n h.parts.c, .slice h.anchors.A h.anchors.n h.anchors.c, .string d.hints] 28 (0, 0))) := (hb1.block _ (by first | omega | (simp <;> omega))).trans hnew.1
  have HY1 : Hid (w1.heap[w.heap.size + 1]? = some (.cells #[.string d.name, .int .i64 d.code, .int .i64 d.adv, .slice h'.out.A h'.out.n h'.out.c, .slice h'.parts.A h'.parts.n h'.parts.c, .slice h'.anchors.A h'.anchors.n h'.anchors.c, .string d.hints] 28 (0, 0))) := (hb1.block _ (by first | omega | (simp <;> omega))).trans hnew.2
  clear hnew
  have cx4 : w1.cell? ⟨w.heap.size, 4, none⟩ = some (.slice h.parts.A h.parts.n h.parts.c) := by rw [Go.Joins.cell_of_block HX1.out]; rfl
  have cy4 : w1.cell? ⟨w.heap.size + 1, 4, none⟩ = some (.slice h'.parts.A h'.parts.n h'.parts.c) := by rw [Go.Joins.cell_of_block HY1.out]; rfl
  clear hb1
  go_wp2_with fail
  refine (eqPartS_rd _ _ _ _ _ _ lo hi lo' hi' d.parts _ (hr1.out.frame (good_flat _) (Below.sameB (B := w.heap.size) (w := w) (by repeat (first | refine Below.setCell ?_ (by first | omega | (simp <;> omega)) _ | refine Below.alloc ?_ (by first | omega | (simp <;> omega)) _ | exact hB1)) hhi)) (hq1.out.frame (good_flat _) (Below.sameB (B := w.heap.size) (w := w) (by repeat (first | refine Below.setCell ?_ (by first | omega | (simp <;> omega)) _ | refine Below.alloc ?_ (by first | omega | (simp <;> omega)) _ | exact hB1)) hhi')) (by first | omega | (simp <;> omega)) (by first | omega | (simp <;> omega)) hm1.out).mono ?_
  rintro e w2 ⟨rfl, hb2⟩
  have hz2 := hb2.size
  try simp at hz2
  have hB2 : Below w.heap.size w w2 := Below.trans (by repeat (first | refine Below.setCell ?_ (by first | omega | (simp <;> omega)) _ | refine Below.alloc ?_ (by first | omega | (simp <;> omega)) _ | exact hB1)) (hb2.mono (by first | omega | (simp <;> omega)))
  have HX2 : Hid (w2.heap[w.heap.size]? = some (.cells #[.string d.name, .int .i64 d.code, .int .i64 d.adv, .slice h.out.A h.out.n h.out.c, .slice h.parts.A h.parts.n h.parts.c, .slice h.anchors.A h.anchors.n h.anchors.c, .string d.hints] 28 (0, 0))) := (hb2.block _ (by first | omega | (simp <;> omega))).trans HX1.out
  have HY2 : Hid (w2.heap[w.heap.size + 1]? = some (.cells #[.string d.name, .int .i64 d.code, .int .i64 d.adv, .slice h'.out.A h'.out.n h'.out.c, .slice h'.parts.A h'.parts.n h'.parts.c, .slice h'.anchors.A h'.anchors.n h'.anchors.c, .string d.hints] 28 (0, 0))) := (hb2.block _ (by first | omega | (simp <;> omega))).trans HY1.out
  clear HX1 HY1 cx4 cy4
  have cx5 : w2.cell? ⟨w.heap.size, 5, none⟩ = some (.slice h.anchors.A h.anchors.n h.anchors.c) := by rw [Go.Joins.cell_of_block HX2.out]; rfl
  have cy5 : w2.cell? ⟨w.heap.size + 1, 5, none⟩ = some (.slice h'.anchors.A h'.anchors.n h'.anchors.c) := by rw [Go.Joins.cell_of_block HY2.out]; rfl
  clear hb2
  go_wp2_with fail
  refine (eqAnchorS_rd _ _ _ _ _ _ lo hi lo' hi' d.anchors _ (hr2.out.frame (good_flat _) (Below.sameB (B := w.heap.size) (w := w) (by repeat (first | refine Below.setCell ?_ (by first | omega | (simp <;> omega)) _ | refine Below.alloc ?_ (by first | omega | (simp <;> omega)) _ | exact hB2)) hhi)) (hq2.out.frame (good_flat _) (Below.sameB (B := w.heap.size) (w := w) (by repeat (first | refine Below.setCell ?_ (by first | omega | (simp <;> omega)) _ | refine Below.alloc ?_ (by first | omega | (simp <;> omega)) _ | exact hB2)) hhi')) (by first | omega | (simp <;> omega)) (by first | omega | (simp <;> omega)) hm2.out).mono ?_
  rintro e w3 ⟨rfl, hb3⟩
  have hz3 := hb3.size
  try simp at hz3
  have hB3 : Below w.heap.size w w3 := Below.trans (by repeat (first | refine Below.setCell ?_ (by first | omega | (simp <;> omega)) _ | refine Below.alloc ?_ (by first | omega | (simp <;> omega)) _ | exact hB2)) (hb3.mono (by first | omega | (simp <;> omega)))
  have HX3 : Hid (w3.heap[w.heap.size]? = some (.cells #[.string d.name, .int .i64 d.code, .int .i64 d.adv, .slice h.out.A h.out.n h.out.c, .slice h.parts.A h.parts.n h.parts.c, .slice h.anchors.A h.anchors.n h.anchors.c, .string d.hints] 28 (0, 0))) := (hb3.block _ (by first | omega | (simp <;> omega))).trans HX2.out
  have HY3 : Hid (w3.heap[w.heap.size + 1]? = some (.cells #[.string d.name, .int .i64 d.code, .int .i64 d.adv, .slice h'.out.A h'.out.n h'.out.c, .slice h'.parts.A h'.parts.n h'.parts.c, .slice h'.anchors.A h'.anchors.n h'.anchors.c, .string d.hints] 28 (0, 0))) := (hb3.block _ (by first | omega | (simp <;> omega))).trans HY2.out
  clear HX2 HY2 cx5 cy5
  have cx6 : w3.cell? ⟨w.heap.size, 6, none⟩ = some (.string d.hints) := by rw [Go.Joins.cell_of_block HX3.out]; rfl
  have cy6 : w3.cell? ⟨w.heap.size + 1, 6, none⟩ = some (.string d.hints) := by rw [Go.Joins.cell_of_block HY3.out]; rfl
  clear hb3
  go_wp2_with fail
  go_ret
  exact ⟨rfl, (by repeat (first | refine Below.setCell ?_ (by first | omega | (simp <;> omega)) _ | refine Below.alloc ?_ (by first | omega | (simp <;> omega)) _ | exact hB3))⟩
end Go.Proofs.YtgdkabljgabjoaaGreatDoor

