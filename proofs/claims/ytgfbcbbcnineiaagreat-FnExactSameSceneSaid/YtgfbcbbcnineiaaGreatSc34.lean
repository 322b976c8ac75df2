/- The laws' own functions on a GlyphSet: the copy, the comparison. Conditions: as each states. -/
import Derived.Test.YtgfbcbbcnineiaaGreatSc33
namespace Go.Proofs.YtgfbcbbcnineiaaGreat
open Go.RowKit
set_option linter.unusedVariables false
set_option maxRecDepth 100000

set_option maxHeartbeats 4000000 in
theorem toGlyphSet_any (d : GSet) (h : GSetH) (lo hi : Nat) (w : World) (hr : GSetRd w lo hi d h) (hhi : hi ≤ w.heap.size) (hm : d.small 1048576) :
    Calls Tryz.prog 23 #[gsV d h] w fun e w' => ∃ h' : GSetH, e = .returned (gsV d h') ∧ GSetRc w' w.heap.size w'.heap.size d h' ∧ Below w.heap.size w w' := by
  have hr0 := hr; clear hr
  have hm0 := Lib.hid (hm.gl (n := h.gl.n) hr0.1)
  clear hm
  replace hr0 := Lib.hid hr0
  go_enter Tryz.func23, Tryz.ntmps23
  go_wp2_with fail
  refine (toGlyphS_rd _ _ _ lo hi d.gl _ (hr0.out.frame good_glyph (Below.sameB (B := w.heap.size) (w := w) (by repeat (first | refine Below.setCell ?_ (by first | omega | (simp <;> omega)) _ | refine Below.alloc ?_ (by first | omega | (simp <;> omega)) _ | exact Below.refl _ _)) hhi)) (by first | omega | (simp <;> omega)) hm0.out).mono ?_
  rintro e w1 ⟨A1, c1, rfl, ho1, hb1⟩
  have hz1 := hb1.size
  try simp at hz1
  have hB1 : Below w.heap.size w w1 := Below.trans (by repeat (first | refine Below.setCell ?_ (by first | omega | (simp <;> omega)) _ | refine Below.alloc ?_ (by first | omega | (simp <;> omega)) _ | exact Below.refl _ _)) (hb1.mono (by first | omega | (simp <;> omega)))
  have rd1 := Lib.hid (RdS.wide good_glyphc ho1 (lo' := w.heap.size + 3) (hi' := w1.heap.size) (by first | omega | (simp <;> omega)) (Nat.le_refl _))
  clear ho1
  have hnew := heap_new0 w (.cells #[.int .i64 d.unit, .slice h.gl.A h.gl.n h.gl.c] 29 (0, 0)) (.cells #[.int .i64 0, .slice none 0 0] 51 (0, 0)) (.cells #[.int .i64 d.unit, .slice none 0 0] 51 (0, 0))
  have HX1 : Hid (w1.heap[w.heap.size]? = some (.cells #[.int .i64 d.unit, .slice h.gl.A h.gl.n h.gl.c] 29 (0, 0))) := (hb1.block _ (by first | omega | (simp <;> omega))).trans hnew.1
  have HR1 : Hid (w1.heap[w.heap.size + 1]? = some (.cells #[.int .i64 0, .slice none 0 0] 51 (0, 0))) := (hb1.block _ (by first | omega | (simp <;> omega))).trans hnew.2.1
  have HO1 : Hid (w1.heap[w.heap.size + 2]? = some (.cells #[.int .i64 d.unit, .slice none 0 0] 51 (0, 0))) := (hb1.block _ (by first | omega | (simp <;> omega))).trans hnew.2.2
  clear hnew
  have co0 : w1.cell? ⟨w.heap.size + 2, 0, none⟩ = some (.int .i64 d.unit) := by rw [Go.Joins.cell_of_block HO1.out]; rfl
  have co1 : w1.cell? ⟨w.heap.size + 2, 1, none⟩ = some (.slice none 0 0) := by rw [Go.Joins.cell_of_block HO1.out]; rfl
  have fo : ∀ o, w1.frozen? ⟨w.heap.size + 2, o, none⟩ = false := Go.Joins.unfrozen_of_block HO1.out
  have cr0 : w1.cell? ⟨w.heap.size + 1, 0, none⟩ = some (.int .i64 0) := by rw [Go.Joins.cell_of_block HR1.out]; rfl
  have cr1 : w1.cell? ⟨w.heap.size + 1, 1, none⟩ = some (.slice none 0 0) := by rw [Go.Joins.cell_of_block HR1.out]; rfl
  have fr : ∀ o, w1.frozen? ⟨w.heap.size + 1, o, none⟩ = false := Go.Joins.unfrozen_of_block HR1.out
  clear hb1
  go_wp2_with fail
  have hfin : ∀ W', SameB (w.heap.size + 3) w1.heap.size w1 W' → w1.heap.size ≤ W'.heap.size → GSetRc W' w.heap.size W'.heap.size d ⟨⟨A1, h.gl.n, c1⟩⟩ := fun W' hs hz => (rd1.out.frame good_glyphc hs).wide good_glyphc (by omega) hz
  refine bodyPost_ret (v := .agg #[.int .i64 d.unit, .slice A1 h.gl.n c1]) (by simp [results, Tryz.results23, go_sem, cr0, cr1]) rfl ⟨⟨⟨A1, h.gl.n, c1⟩⟩, rfl, hfin _ ?_ (by simp), (by repeat (first | refine Below.setCell ?_ (by first | omega | (simp <;> omega)) _ | refine Below.alloc ?_ (by first | omega | (simp <;> omega)) _ | exact hB1))⟩
  repeat (first | refine SameB.setCell ?_ (.inl (by first | omega | (simp <;> omega))) _ | exact SameB.refl _ _ _)

set_option maxHeartbeats 4000000 in
theorem eqGlyphSet_any (d : GSet) (h h' : GSetH) (lo hi lo' hi' : Nat) (w : World) (hr : GSetRd w lo hi d h) (hr' : GSetRd w lo' hi' d h') (hhi : hi ≤ w.heap.size) (hhi' : hi' ≤ w.heap.size) (hm : d.small 100000000) :
    Calls Tryz.prog 38 #[gsV d h, gsV d h'] w fun e w' => e = .returned (.bool true) ∧ Below w.heap.size w w' := by
  have hr0 := hr; clear hr
  have hq0 := hr'; clear hr'
  have hm0 := Lib.hid (hm.gl (n := h.gl.n) hr0.1)
  clear hm
  replace hr0 := Lib.hid hr0
  replace hq0 := Lib.hid hq0
  go_enter Tryz.func38, Tryz.ntmps38
  go_wp2_with fail
  refine (eqGlyphS_rd _ _ _ _ _ _ lo hi lo' hi' d.gl _ (hr0.out.frame good_glyph (Below.sameB (B := w.heap.size) (w := w) (by repeat (first | refine Below.setCell ?_ (by first | omega | (simp <;> omega)) _ | refine Below.alloc ?_ (by first | omega | (simp <;> omega)) _ | exact Below.refl _ _)) hhi)) (hq0.out.frame good_glyph (Below.sameB (B := w.heap.size) (w := w) (by repeat (first | refine Below.setCell ?_ (by first | omega | (simp <;> omega)) _ | refine Below.alloc ?_ (by first | omega | (simp <;> omega)) _ | exact Below.refl _ _)) hhi')) (by first | omega | (simp <;> omega)) (by first | omega | (simp <;> omega)) hm0.out).mono ?_
  rintro e w1 ⟨rfl, hb1⟩
  have hz1 := hb1.size
  try simp at hz1
  have hB1 : Below w.heap.size w w1 := Below.trans (by repeat (first | refine Below.setCell ?_ (by first | omega | (simp <;> omega)) _ | refine Below.alloc ?_ (by first | omega | (simp <;> omega)) _ | exact Below.refl _ _)) (hb1.mono (by first | omega | (simp <;> omega)))
  have hnew := heap_new2 w (.cells #[.int .i64 d.unit, .slice h.gl.A h.gl.n h.gl.c] 51 (0, 0)) (.cells #[.int .i64 d.unit, .slice h'.gl.A h'.gl.n h'.gl.c] 51 (0, 0))
  have HX1 : Hid (w1.heap[w.heap.size]? = some (.cells #[.int .i64 d.unit, .slice h.gl.A h.gl.n h.gl.c] 51 (0, 0))) := (hb1.block _ (by first | omega | (simp <;> omega))).trans hnew.1
  have HY1 : Hid (w1.heap[w.heap.size + 1]? = some (.cells #[.int .i64 d.unit, .slice h'.gl.A h'.gl.n h'.gl.c] 51 (0, 0))) := (hb1.block _ (by first | omega | (simp <;> omega))).trans hnew.2
  clear hnew
  clear hb1
  go_wp2_with fail
  go_ret
  exact ⟨rfl, (by repeat (first | refine Below.setCell ?_ (by first | omega | (simp <;> omega)) _ | refine Below.alloc ?_ (by first | omega | (simp <;> omega)) _ | exact hB1))⟩
end Go.Proofs.YtgfbcbbcnineiaaGreat

