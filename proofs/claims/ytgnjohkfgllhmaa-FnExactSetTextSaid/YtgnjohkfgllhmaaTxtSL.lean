/- The law FnExactSetText: its walk. Conditions: as it states. -/
import Derived.Test.YtgnjohkfgllhmaaTxtAll
import Derived.Test.YtgnjohkfgllhmaaBoxS
import Derived.Test.YtgnjohkfgllhmaaTGlyphSet
import Derived.Deep.RegionHeld3
namespace Go.Proofs.Ytgnjohkfgllhmaa
open Go.RowKit
set_option linter.unusedVariables false
set_option maxRecDepth 100000

theorem bS_new (w : World) (d : GSet) (h : GSetH) (t : TypeId) : BoxS (w.alloc (.cells #[.int .i64 d.unit, .slice h.gl.A h.gl.n h.gl.c] t (0, 0))) w.heap.size d h := boxS_new (heap_alloc_new w _) rfl

set_option maxHeartbeats 8000000 in
theorem lawSetText_walk (d : GSet) (h : GSetH)  {w : World} (hr : GSetRd w 0 w.heap.size d h) (hm : d.small maxLen) (hst : ∀ g ∈ d.gl, g.str)  :
    Calls Try.prog 5 #[gsV d h] w fun e w' => e = .returned (.bool true) ∧ Below w.heap.size w w' := by
  obtain ⟨r0, hb⟩ : ∃ (r0 : ByteArray), r0 = setR d := ⟨_, rfl⟩
  replace hb := Lib.hid hb
  replace hr := Lib.hid hr
  replace hm := Lib.hid hm
  replace hst := Lib.hid hst
  have hs0 := Lib.hid (bS_new w d h 62)
  go_enter Try.func5, Try.ntmps5
  go_wp2_with fail
  refine (szGlyphSet_any d h 1048576 0 w.heap.size _ (hr.out.frame good_glyph (Below.sameB (Go.Joins.below_alloc1 _ _) (Nat.le_refl _))) (Go.Joins.below_alloc1 _ _).size hm.out hst.out (by omega) (by omega)).mono ?_
  rintro e w1 ⟨rz, rfl, hrz, hb1⟩
  have hz1 := hb1.size
  simp at hz1
  have hB1 : Below w.heap.size w w1 := (Go.Joins.below_alloc1 _ _).trans (hb1.mono (by first | omega | (simp <;> omega)))
  have hs1 := Lib.hid (hs0.out.below hb1 (by first | omega | (simp <;> omega)))
  clear hs0 hb1
  rcases hrz with hn1 | ⟨hn1, hl1, hm1⟩
  · clear hs1
    go_wp2_with fail
    go_ret
    exact ⟨rfl, hB1⟩
  replace hm1 := Lib.hid hm1
  have hya : w.heap.size < w1.heap.size := by omega
  clear hl1
  obtain ⟨s0, s1⟩ := hs1.out
  go_wp2_with fail
  refine (toGlyphSet_any d h 0 w.heap.size _ (hr.out.frame good_glyph (Below.sameB hB1 (Nat.le_refl _))) hB1.size hm1.out).mono ?_
  rintro e w2 ⟨k2, rfl, rd2, hb2⟩
  have hB2 := hB1.trans (hb2.mono hB1.size)
  have hyb : w.heap.size < w2.heap.size := Nat.lt_of_lt_of_le hya hb2.size
  have hs2 := Lib.hid (hs1.out.below hb2 (by first | omega | (simp <;> omega)))
  clear s0 s1 hs1 hb2
  replace rd2 := Lib.hid rd2
  go_wp2_with fail
  refine (specSetText_any d k2  r0 hb.out _ _ _ (GsRc.rd rd2.out) (Nat.le_refl _) (hm1.out.mono (by omega)) hst.out).mono ?_
  rintro e w5 ⟨rfl, hb5⟩
  have hB5 := hB2.trans (hb5.mono hB2.size)
  have hyc : w.heap.size < w5.heap.size := Nat.lt_of_lt_of_le hyb hb5.size
  have hs5 := Lib.hid (hs2.out.below hb5 (by first | omega | (simp <;> omega)))
  clear hs2 hb5 rd2
  obtain ⟨s0, s1⟩ := hs5.out
  go_wp2_with fail
  refine (toGlyphSet_any d h 0 w.heap.size _ (hr.out.frame good_glyph (Below.sameB hB5 (Nat.le_refl _))) hB5.size hm1.out).mono ?_
  rintro e w6 ⟨k6, rfl, rd6, hb6⟩
  have hB6 := hB5.trans (hb6.mono hB5.size)
  have hyd : w.heap.size < w6.heap.size := Nat.lt_of_lt_of_le hyc hb6.size
  have hs6 := Lib.hid (hs5.out.below hb6 (by first | omega | (simp <;> omega)))
  clear s0 s1 hs5 hb6
  replace rd6 := Lib.hid rd6
  go_wp2_with fail
  refine (implSetText_any d k6  r0 hb.out _ _ _ (rd6.out.frame good_glyphc (SameB.alloc (SameB.refl _ _ _) (Nat.le_refl _) _)) (by simp) (hm1.out.mono (by omega)) hst.out).mono ?_
  rintro e w8 ⟨rfl, hb8⟩
  have g68 : w6.heap.size < w8.heap.size := by have := hb8.size; simp at this; omega
  have hB8 : Below w.heap.size w w8 := (hB6.alloc hB6.size _).trans (hb8.mono (by simp; exact Nat.le_succ_of_le hB6.size))
  have hs8 := Lib.hid ((hs6.out.alloc (by omega) _).below hb8 (by first | omega | (simp <;> omega)))
  have hx8 := Lib.hid (boxS_new (d := d) (h := k6) ((hb8.block _ (by simp)).trans (heap_alloc_new w6 _)) rfl)
  replace rd6 := Lib.hid (rd6.out.frame good_glyphc ((SameB.alloc (SameB.refl _ _ _) (Nat.le_refl _) _).trans (Below.sameB hb8 (by simp))))
  have hye : w.heap.size < w8.heap.size := by omega
  clear hs6 hb8
  go_wp2_with fail
  go_region_held3 (fun w' => w'.cell? ⟨w6.heap.size, 0, none⟩ = some (.int .i64 d.unit) ∧ w'.cell? ⟨w6.heap.size, 1, none⟩ = some (.slice k6.gl.A k6.gl.n k6.gl.c) ∧ w'.cell? ⟨w.heap.size, 0, none⟩ = some (.int .i64 d.unit) ∧ w'.cell? ⟨w.heap.size, 1, none⟩ = some (.slice h.gl.A h.gl.n h.gl.c)) (first | exact (hx8.out.two hs8.out) | exact (hx9.out.two hs9.out) | exact (hx10.out.two hs10.out))
    (first | (go_at_call 21; (with_reducible refine (toGlyphSet_any d h 0 w.heap.size _ ?_ ?_ hm1.out).mono ?_); exact (hr.out.frame good_glyph (Below.sameB hB8.drew (Nat.le_refl _))); exact hB8.size; rintro e w9 ⟨k9, rfl, rd9, hb9⟩; have hB9 := hB8.drew.trans (hb9.mono hB8.size); have hz9 : w8.heap.size ≤ w9.heap.size := hb9.size; have hs9 := Lib.hid (hs8.out.drew.below hb9 (by first | omega | (simp <;> omega))); have hx9 := Lib.hid (hx8.out.drew.below hb9 (by first | omega | (simp <;> omega))); replace rd6 := Lib.hid (rd6.out.frame good_glyphc ((SameB.refl _ _ w8).drew.trans (Below.sameB hb9 (by show _ ≤ w8.heap.size; omega)))); replace rd9 := Lib.hid rd9; clear hb9) | (go_at_call 23; (with_reducible refine (eqGlyphSet_any d k6 k9 _ _ _ _ _ (GsRc.rd rd6.out) (GsRc.rd rd9.out) ?_ ?_ ?_).mono ?_); (omega); (exact Nat.le_refl _); exact hm1.out.mono (by omega); rintro e w10 ⟨rfl, hb10⟩; have hB10 := hB9.trans (hb10.mono hB9.size); have hz10 : w9.heap.size ≤ w10.heap.size := hb10.size; have hs10 := Lib.hid (hs9.out.below hb10 (by first | omega | (simp <;> omega))); have hx10 := Lib.hid (hx9.out.below hb10 (by first | omega | (simp <;> omega))); clear hb10))
  go_wp2_with fail
  go_ret
  exact ⟨rfl, hB10⟩
end Go.Proofs.Ytgnjohkfgllhmaa
