/- The law on two states of the hint machine. Conditions: as each states. -/
import Derived.Deep.RegionHeld3
import Derived.Test.YtgfbcbbcnineiaaGreatSc43
import Derived.Test.YtgfbcbbcnineiaaGreatSc44
import Derived.Test.YtgfbcbbcnineiaaGreatSc45
namespace Go.Proofs.YtgfbcbbcnineiaaGreat
open Go.RowKit
set_option linter.unusedVariables false
set_option maxRecDepth 100000

set_option maxHeartbeats 8000000 in
theorem lawSameScene_walk (d : ScD) (h : ScH) (d' : ScD) (h' : ScH) {w : World} (hr : ScRd w 0 w.heap.size d h) (hm : d.small maxLen) (hst : d.str) (hr' : ScRd w 0 w.heap.size d' h') (hm' : d'.small maxLen) (hst' : d'.str) :
    Calls Tryz.prog 3 #[scV d h, scV d' h'] w fun e w' => e = .returned (.bool true) ∧ Below w.heap.size w w' := by
  obtain ⟨b, hb⟩ : ∃ b, b = decide (d = d') := ⟨_, rfl⟩
  replace hb := Lib.hid hb
  replace hr := Lib.hid hr
  replace hr' := Lib.hid hr'
  replace hm := Lib.hid hm
  replace hst := Lib.hid hst
  replace hst' := Lib.hid hst'
  replace hm' := Lib.hid hm'
  have hnew := heap_new2 w (.cells #[.slice h.rows.A h.rows.n h.rows.c, .slice h.pens.A h.pens.n h.pens.c, .slice h.paths.A h.paths.n h.paths.c, .int .i64 d.set.unit, .slice h.set.gl.A h.set.gl.n h.set.gl.c, .bool d.isOpen, .string d.now.name, .int .i64 d.now.code, .int .i64 d.now.adv, .slice h.now.out.A h.now.out.n h.now.out.c, .slice h.now.parts.A h.now.parts.n h.now.parts.c, .slice h.now.anchors.A h.now.anchors.n h.now.anchors.c, .string d.now.hints, .slice h.shape.A h.shape.n h.shape.c] 41 (0, 0)) (.cells #[.slice h'.rows.A h'.rows.n h'.rows.c, .slice h'.pens.A h'.pens.n h'.pens.c, .slice h'.paths.A h'.paths.n h'.paths.c, .int .i64 d'.set.unit, .slice h'.set.gl.A h'.set.gl.n h'.set.gl.c, .bool d'.isOpen, .string d'.now.name, .int .i64 d'.now.code, .int .i64 d'.now.adv, .slice h'.now.out.A h'.now.out.n h'.now.out.c, .slice h'.now.parts.A h'.now.parts.n h'.now.parts.c, .slice h'.now.anchors.A h'.now.anchors.n h'.now.anchors.c, .string d'.now.hints, .slice h'.shape.A h'.shape.n h'.shape.c] 41 (0, 0))
  have hs0 := Lib.hid (boxC_new (d := d) (h := h) hnew.1 rfl)
  have ht0 := Lib.hid (boxC_new (d := d') (h := h') hnew.2 rfl)
  clear hnew
  go_enter Tryz.func3, Tryz.ntmps3
  go_wp2_with fail
  refine (szScene_any d h 1048576 0 w.heap.size _ (hr.out.frame (Below.sameB (Go.Joins.below_alloc2 _ _ _) (Nat.le_refl _))) (Go.Joins.below_alloc2 _ _ _).size hm.out hst.out (by omega) (by omega)).mono ?_
  rintro e w1 ⟨r1, rfl, hr1, hb1⟩
  have hz1 := hb1.size
  simp at hz1
  have hB1 : Below w.heap.size w w1 := (Go.Joins.below_alloc2 _ _ _).trans (hb1.mono (by first | omega | (simp <;> omega)))
  have hs1 := Lib.hid (hs0.out.below hb1 (by first | omega | (simp <;> omega)))
  have ht1 := Lib.hid (ht0.out.below hb1 (by first | omega | (simp <;> omega)))
  rcases hr1 with hn1 | ⟨hn1, hl1, hm1⟩
  · clear hs0 hs1
    go_wp2_with fail
    go_ret
    exact ⟨rfl, hB1⟩
  replace hm1 := Lib.hid hm1
  obtain ⟨t0, t1, t2, t3, t4, t5, t6, t7, t8, t9, t10, t11, t12, t13⟩ := ht1.out
  clear hb1 hs0
  go_wp2_with fail
  refine (szScene_any d' h' r1 0 w.heap.size _ (hr'.out.frame (Below.sameB hB1 (Nat.le_refl _))) hB1.size hm'.out hst'.out (by omega) (by omega)).mono ?_
  rintro e w2 ⟨r2, rfl, hr2, hb2⟩
  have hz2 := hb2.size
  have hB2 := hB1.trans (hb2.mono (by first | omega | (simp <;> omega)))
  have hs2 := Lib.hid (hs1.out.below hb2 (by first | omega | (simp <;> omega)))
  have ht2 := Lib.hid (ht1.out.below hb2 (by first | omega | (simp <;> omega)))
  clear t0 t1 t2 t3 t4 t5 t6 t7 t8 t9 t10 t11 t12 t13 hs1 ht1
  rcases hr2 with hn2 | ⟨hn2, hl2, hm2⟩
  · clear hs2 ht2
    go_wp2_with fail
    go_ret
    exact ⟨rfl, hB2⟩
  replace hm2 := Lib.hid hm2
  clear hb2 hn1 hl1 hl2
  go_wp2_with fail
  go_region_held3 (fun w' => w'.cell? ⟨w.heap.size, 0, none⟩ = some (.slice h.rows.A h.rows.n h.rows.c) ∧ w'.cell? ⟨w.heap.size, 1, none⟩ = some (.slice h.pens.A h.pens.n h.pens.c) ∧ w'.cell? ⟨w.heap.size, 2, none⟩ = some (.slice h.paths.A h.paths.n h.paths.c) ∧ w'.cell? ⟨w.heap.size, 3, none⟩ = some (.int .i64 d.set.unit) ∧ w'.cell? ⟨w.heap.size, 4, none⟩ = some (.slice h.set.gl.A h.set.gl.n h.set.gl.c) ∧ w'.cell? ⟨w.heap.size, 5, none⟩ = some (.bool d.isOpen) ∧ w'.cell? ⟨w.heap.size, 6, none⟩ = some (.string d.now.name) ∧ w'.cell? ⟨w.heap.size, 7, none⟩ = some (.int .i64 d.now.code) ∧ w'.cell? ⟨w.heap.size, 8, none⟩ = some (.int .i64 d.now.adv) ∧ w'.cell? ⟨w.heap.size, 9, none⟩ = some (.slice h.now.out.A h.now.out.n h.now.out.c) ∧ w'.cell? ⟨w.heap.size, 10, none⟩ = some (.slice h.now.parts.A h.now.parts.n h.now.parts.c) ∧ w'.cell? ⟨w.heap.size, 11, none⟩ = some (.slice h.now.anchors.A h.now.anchors.n h.now.anchors.c) ∧ w'.cell? ⟨w.heap.size, 12, none⟩ = some (.string d.now.hints) ∧ w'.cell? ⟨w.heap.size, 13, none⟩ = some (.slice h.shape.A h.shape.n h.shape.c) ∧ w'.cell? ⟨w.heap.size + 1, 0, none⟩ = some (.slice h'.rows.A h'.rows.n h'.rows.c) ∧ w'.cell? ⟨w.heap.size + 1, 1, none⟩ = some (.slice h'.pens.A h'.pens.n h'.pens.c) ∧ w'.cell? ⟨w.heap.size + 1, 2, none⟩ = some (.slice h'.paths.A h'.paths.n h'.paths.c) ∧ w'.cell? ⟨w.heap.size + 1, 3, none⟩ = some (.int .i64 d'.set.unit) ∧ w'.cell? ⟨w.heap.size + 1, 4, none⟩ = some (.slice h'.set.gl.A h'.set.gl.n h'.set.gl.c) ∧ w'.cell? ⟨w.heap.size + 1, 5, none⟩ = some (.bool d'.isOpen) ∧ w'.cell? ⟨w.heap.size + 1, 6, none⟩ = some (.string d'.now.name) ∧ w'.cell? ⟨w.heap.size + 1, 7, none⟩ = some (.int .i64 d'.now.code) ∧ w'.cell? ⟨w.heap.size + 1, 8, none⟩ = some (.int .i64 d'.now.adv) ∧ w'.cell? ⟨w.heap.size + 1, 9, none⟩ = some (.slice h'.now.out.A h'.now.out.n h'.now.out.c) ∧ w'.cell? ⟨w.heap.size + 1, 10, none⟩ = some (.slice h'.now.parts.A h'.now.parts.n h'.now.parts.c) ∧ w'.cell? ⟨w.heap.size + 1, 11, none⟩ = some (.slice h'.now.anchors.A h'.now.anchors.n h'.now.anchors.c) ∧ w'.cell? ⟨w.heap.size + 1, 12, none⟩ = some (.string d'.now.hints) ∧ w'.cell? ⟨w.heap.size + 1, 13, none⟩ = some (.slice h'.shape.A h'.shape.n h'.shape.c)) (first | exact (hs2.out.two ht2.out) | exact (hs3.out.two ht3.out) | exact (hs4.out.two ht4.out) | exact (hs5.out.two ht5.out))
    (first | (go_at_call 6; first | ((with_reducible refine (toScene_any d' h' 0 w.heap.size _ ?_ ?_ hm2.out).mono ?_); exact (hr'.out.frame (Below.sameB hB3 (Nat.le_refl _))); exact hB3.size; rintro e w4 ⟨ke, rfl, rde, hb4⟩; have hB4 := hB3.trans (hb4.mono hB3.size); have hz4 : w3.heap.size ≤ w4.heap.size := hb4.size; have hs4 := Lib.hid (hs3.out.below hb4 (by first | omega | (simp <;> omega))); have ht4 := Lib.hid (ht3.out.below hb4 (by first | omega | (simp <;> omega))); replace rdd := Lib.hid (rdd.out.frame (Below.sameB hb4 (Nat.le_refl _))); replace rde := Lib.hid rde; clear hb4) | ((with_reducible refine (toScene_any d h 0 w.heap.size _ ?_ ?_ hm1.out).mono ?_); exact (hr.out.frame (Below.sameB hB3 (Nat.le_refl _))); exact hB3.size; rintro e w4 ⟨kd, rfl, rdd, hb4⟩; have hB4 := hB3.trans (hb4.mono hB3.size); have hz4 : w3.heap.size ≤ w4.heap.size := hb4.size; have hs4 := Lib.hid (hs3.out.below hb4 (by first | omega | (simp <;> omega))); have ht4 := Lib.hid (ht3.out.below hb4 (by first | omega | (simp <;> omega))); replace rde := Lib.hid (rde.out.frame (Below.sameB hb4 (Nat.le_refl _))); replace rdd := Lib.hid rdd; clear hb4) | ((with_reducible refine (toScene_any d' h' 0 w.heap.size _ ?_ ?_ hm2.out).mono ?_); exact (hr'.out.frame (Below.sameB hB2.drew (Nat.le_refl _))); exact hB2.size; rintro e w3 ⟨ke, rfl, rde, hb3⟩; have hB3 := hB2.drew.trans (hb3.mono hB2.size); have hz3 : w2.heap.size ≤ w3.heap.size := hb3.size; have hs3 := Lib.hid (hs2.out.drew.below hb3 (by first | omega | (simp <;> omega))); have ht3 := Lib.hid (ht2.out.drew.below hb3 (by first | omega | (simp <;> omega))); replace rde := Lib.hid rde; clear hb3) | ((with_reducible refine (toScene_any d h 0 w.heap.size _ ?_ ?_ hm1.out).mono ?_); exact (hr.out.frame (Below.sameB hB2.drew (Nat.le_refl _))); exact hB2.size; rintro e w3 ⟨kd, rfl, rdd, hb3⟩; have hB3 := hB2.drew.trans (hb3.mono hB2.size); have hz3 : w2.heap.size ≤ w3.heap.size := hb3.size; have hs3 := Lib.hid (hs2.out.drew.below hb3 (by first | omega | (simp <;> omega))); have ht3 := Lib.hid (ht2.out.drew.below hb3 (by first | omega | (simp <;> omega))); replace rdd := Lib.hid rdd; clear hb3)) | (go_at_call 5; (with_reducible refine (specSameSc_any d d' kd ke b hb.out _ _ _ _ _ rdd.out rde.out ?_ ?_ ?_ ?_).mono ?_); (first | exact hz4 | exact Nat.le_refl _); (first | exact hz4 | exact Nat.le_refl _); exact hm1.out.mono (by omega); exact hm2.out.mono (by omega); rintro e w5 ⟨rfl, hb5⟩; have hB5 := hB4.trans (hb5.mono hB4.size); have hz5 : w4.heap.size ≤ w5.heap.size := hb5.size; have hs5 := Lib.hid (hs4.out.below hb5 (by first | omega | (simp <;> omega))); have ht5 := Lib.hid (ht4.out.below hb5 (by first | omega | (simp <;> omega))); clear hb5))
  all_goals
    have hy5 : w.heap.size + 2 ≤ w5.heap.size := by omega
    clear hs2 ht2 hs3 ht3 hs4 ht4 rdd rde hz1 hz2 hz3 hz4 hz5
    obtain ⟨s0, s1, s2, s3, s4, s5, s6, s7, s8, s9, s10, s11, s12, s13⟩ := hs5.out
    obtain ⟨t0, t1, t2, t3, t4, t5, t6, t7, t8, t9, t10, t11, t12, t13⟩ := ht5.out
    go_wp2_with fail
    refine (toScene_any d h 0 w.heap.size _ (hr.out.frame (Below.sameB hB5 (Nat.le_refl _))) hB5.size hm1.out).mono ?_
    rintro e w6 ⟨k6, rfl, rd6, hb6⟩
    have hy6 : w.heap.size + 2 ≤ w6.heap.size := Nat.le_trans hy5 hb6.size
    have hya : w.heap.size < w6.heap.size := by omega
    have hyb : w.heap.size + 1 < w6.heap.size := by omega
    have hB6 := hB5.trans (hb6.mono hB5.size)
    have hs6 := Lib.hid (hs5.out.below hb6 (by first | omega | (simp <;> omega)))
    have ht6 := Lib.hid (ht5.out.below hb6 (by first | omega | (simp <;> omega)))
    clear s0 s1 s2 s3 s4 s5 s6 s7 s8 s9 s10 s11 s12 s13 t0 t1 t2 t3 t4 t5 t6 t7 t8 t9 t10 t11 t12 t13 hs5 ht5 hb6
    replace rd6 := Lib.hid rd6
    obtain ⟨t0, t1, t2, t3, t4, t5, t6, t7, t8, t9, t10, t11, t12, t13⟩ := ht6.out
    go_wp2_with fail
    refine (toScene_any d' h' 0 w.heap.size _ (hr'.out.frame (Below.sameB (hB6.alloc hB6.size _) (Nat.le_refl _))) (hB6.alloc hB6.size _).size hm2.out).mono ?_
    rintro e w7 ⟨k7, rfl, rd7, hb7⟩
    have g67 : w6.heap.size < w7.heap.size := by have := hb7.size; simp at this; omega
    have hB7 : Below w.heap.size w w7 := (hB6.alloc hB6.size _).trans (hb7.mono (by simp; exact Nat.le_succ_of_le hB6.size))
    have hs7 := Lib.hid ((hs6.out.alloc (by omega) _).below hb7 (by first | omega | (simp <;> omega)))
    have ht7 := Lib.hid ((ht6.out.alloc (by omega) _).below hb7 (by first | omega | (simp <;> omega)))
    have hx7 := Lib.hid (boxC_new (d := d) (h := k6) ((hb7.block _ (by simp)).trans (heap_alloc_new w6 _)) rfl)
    replace rd6 := Lib.hid (rd6.out.frame ((SameB.alloc (SameB.refl _ _ _) (Nat.le_refl _) _).trans (Below.sameB hb7 (by simp))))
    replace rd7 := Lib.hid rd7
    clear t0 t1 t2 t3 t4 t5 t6 t7 t8 t9 t10 t11 t12 t13 hs6 ht6 hb7
    have hyc : w.heap.size < w7.heap.size := by omega
    have hyd : w.heap.size + 1 < w7.heap.size := by omega
    obtain ⟨s0, s1, s2, s3, s4, s5, s6, s7, s8, s9, s10, s11, s12, s13⟩ := hx7.out
    go_wp2_with fail
    refine (implSameSc_any d d' k6 k7 b hb.out _ _ _ _ _ (rd6.out.frame (SameB.alloc (SameB.refl _ _ _) (by omega) _)) (rd7.out.frame (SameB.alloc (SameB.refl _ _ _) (Nat.le_refl _) _)) (by simp; omega) (by simp) (hm1.out.mono (by omega)) (hm2.out.mono (by omega))).mono ?_
    rintro e w8 ⟨rfl, hb8⟩
    have g78 : w7.heap.size < w8.heap.size := by have := hb8.size; simp at this; omega
    have hB8 : Below w.heap.size w w8 := (hB7.alloc hB7.size _).trans (hb8.mono (by simp; exact Nat.le_succ_of_le hB7.size))
    have hs8 := Lib.hid ((hs7.out.alloc (by omega) _).below hb8 (by first | omega | (simp <;> omega)))
    have ht8 := Lib.hid ((ht7.out.alloc (by omega) _).below hb8 (by first | omega | (simp <;> omega)))
    have hx8 := Lib.hid ((hx7.out.alloc (by omega) _).below hb8 (by first | omega | (simp <;> omega)))
    have hv8 := Lib.hid (boxC_new (d := d') (h := k7) ((hb8.block _ (by simp)).trans (heap_alloc_new w7 _)) rfl)
    replace rd6 := Lib.hid (rd6.out.frame ((SameB.alloc (SameB.refl _ _ _) (by omega) _).trans (Below.sameB hb8 (by simp; omega))))
    replace rd7 := Lib.hid (rd7.out.frame ((SameB.alloc (SameB.refl _ _ _) (Nat.le_refl _) _).trans (Below.sameB hb8 (by simp))))
    clear s0 s1 s2 s3 s4 s5 s6 s7 s8 s9 s10 s11 s12 s13 hs7 ht7 hx7 hb8
    have hye : w.heap.size < w8.heap.size := by omega
    have hyf : w.heap.size + 1 < w8.heap.size := by omega
    have hyg : w6.heap.size < w8.heap.size := by omega
    go_wp2_with fail
    go_region_held3 (fun w' => w'.cell? ⟨w6.heap.size, 0, none⟩ = some (.slice k6.rows.A k6.rows.n k6.rows.c) ∧ w'.cell? ⟨w6.heap.size, 1, none⟩ = some (.slice k6.pens.A k6.pens.n k6.pens.c) ∧ w'.cell? ⟨w6.heap.size, 2, none⟩ = some (.slice k6.paths.A k6.paths.n k6.paths.c) ∧ w'.cell? ⟨w6.heap.size, 3, none⟩ = some (.int .i64 d.set.unit) ∧ w'.cell? ⟨w6.heap.size, 4, none⟩ = some (.slice k6.set.gl.A k6.set.gl.n k6.set.gl.c) ∧ w'.cell? ⟨w6.heap.size, 5, none⟩ = some (.bool d.isOpen) ∧ w'.cell? ⟨w6.heap.size, 6, none⟩ = some (.string d.now.name) ∧ w'.cell? ⟨w6.heap.size, 7, none⟩ = some (.int .i64 d.now.code) ∧ w'.cell? ⟨w6.heap.size, 8, none⟩ = some (.int .i64 d.now.adv) ∧ w'.cell? ⟨w6.heap.size, 9, none⟩ = some (.slice k6.now.out.A k6.now.out.n k6.now.out.c) ∧ w'.cell? ⟨w6.heap.size, 10, none⟩ = some (.slice k6.now.parts.A k6.now.parts.n k6.now.parts.c) ∧ w'.cell? ⟨w6.heap.size, 11, none⟩ = some (.slice k6.now.anchors.A k6.now.anchors.n k6.now.anchors.c) ∧ w'.cell? ⟨w6.heap.size, 12, none⟩ = some (.string d.now.hints) ∧ w'.cell? ⟨w6.heap.size, 13, none⟩ = some (.slice k6.shape.A k6.shape.n k6.shape.c) ∧ w'.cell? ⟨w.heap.size, 0, none⟩ = some (.slice h.rows.A h.rows.n h.rows.c) ∧ w'.cell? ⟨w.heap.size, 1, none⟩ = some (.slice h.pens.A h.pens.n h.pens.c) ∧ w'.cell? ⟨w.heap.size, 2, none⟩ = some (.slice h.paths.A h.paths.n h.paths.c) ∧ w'.cell? ⟨w.heap.size, 3, none⟩ = some (.int .i64 d.set.unit) ∧ w'.cell? ⟨w.heap.size, 4, none⟩ = some (.slice h.set.gl.A h.set.gl.n h.set.gl.c) ∧ w'.cell? ⟨w.heap.size, 5, none⟩ = some (.bool d.isOpen) ∧ w'.cell? ⟨w.heap.size, 6, none⟩ = some (.string d.now.name) ∧ w'.cell? ⟨w.heap.size, 7, none⟩ = some (.int .i64 d.now.code) ∧ w'.cell? ⟨w.heap.size, 8, none⟩ = some (.int .i64 d.now.adv) ∧ w'.cell? ⟨w.heap.size, 9, none⟩ = some (.slice h.now.out.A h.now.out.n h.now.out.c) ∧ w'.cell? ⟨w.heap.size, 10, none⟩ = some (.slice h.now.parts.A h.now.parts.n h.now.parts.c) ∧ w'.cell? ⟨w.heap.size, 11, none⟩ = some (.slice h.now.anchors.A h.now.anchors.n h.now.anchors.c) ∧ w'.cell? ⟨w.heap.size, 12, none⟩ = some (.string d.now.hints) ∧ w'.cell? ⟨w.heap.size, 13, none⟩ = some (.slice h.shape.A h.shape.n h.shape.c)) (first | exact (hx8.out.two hs8.out) | exact (hx9.out.two hs9.out) | exact (hx10.out.two hs10.out))
      (first | (go_at_call 6; (with_reducible refine (toScene_any d h 0 w.heap.size _ ?_ ?_ hm1.out).mono ?_); exact (hr.out.frame (Below.sameB hB8.drew (Nat.le_refl _))); exact hB8.size; rintro e w9 ⟨k9, rfl, rd9, hb9⟩; have hB9 := hB8.drew.trans (hb9.mono hB8.size); have hz9 : w8.heap.size ≤ w9.heap.size := hb9.size; have hs9 := Lib.hid (hs8.out.drew.below hb9 (by first | omega | (simp <;> omega))); have ht9 := Lib.hid (ht8.out.drew.below hb9 (by first | omega | (simp <;> omega))); have hx9 := Lib.hid (hx8.out.drew.below hb9 (by first | omega | (simp <;> omega))); have hv9 := Lib.hid (hv8.out.drew.below hb9 (by first | omega | (simp <;> omega))); replace rd6 := Lib.hid (rd6.out.frame ((SameB.refl _ _ w8).drew.trans (Below.sameB hb9 (by show _ ≤ w8.heap.size; omega)))); replace rd7 := Lib.hid (rd7.out.frame ((SameB.refl _ _ w8).drew.trans (Below.sameB hb9 (by show _ ≤ w8.heap.size; omega)))); replace rd9 := Lib.hid rd9; clear hb9) | (go_at_call 8; (with_reducible refine (eqScene_any d k6 k9 _ _ _ _ _ rd6.out rd9.out ?_ ?_ ?_).mono ?_); (omega); (exact Nat.le_refl _); exact hm1.out.mono (by omega); rintro e w10 ⟨rfl, hb10⟩; have hB10 := hB9.trans (hb10.mono hB9.size); have hz10 : w9.heap.size ≤ w10.heap.size := hb10.size; have hs10 := Lib.hid (hs9.out.below hb10 (by first | omega | (simp <;> omega))); have ht10 := Lib.hid (ht9.out.below hb10 (by first | omega | (simp <;> omega))); have hx10 := Lib.hid (hx9.out.below hb10 (by first | omega | (simp <;> omega))); have hv10 := Lib.hid (hv9.out.below hb10 (by first | omega | (simp <;> omega))); replace rd7 := Lib.hid (rd7.out.frame (Below.sameB hb10 (by omega))); clear hb10))
    clear hs8 ht8 hx8 hv8 hs9 ht9 hx9 hv9 rd9 rd6
    go_wp2_with fail
    go_region_held3 (fun w' => w'.cell? ⟨w7.heap.size, 0, none⟩ = some (.slice k7.rows.A k7.rows.n k7.rows.c) ∧ w'.cell? ⟨w7.heap.size, 1, none⟩ = some (.slice k7.pens.A k7.pens.n k7.pens.c) ∧ w'.cell? ⟨w7.heap.size, 2, none⟩ = some (.slice k7.paths.A k7.paths.n k7.paths.c) ∧ w'.cell? ⟨w7.heap.size, 3, none⟩ = some (.int .i64 d'.set.unit) ∧ w'.cell? ⟨w7.heap.size, 4, none⟩ = some (.slice k7.set.gl.A k7.set.gl.n k7.set.gl.c) ∧ w'.cell? ⟨w7.heap.size, 5, none⟩ = some (.bool d'.isOpen) ∧ w'.cell? ⟨w7.heap.size, 6, none⟩ = some (.string d'.now.name) ∧ w'.cell? ⟨w7.heap.size, 7, none⟩ = some (.int .i64 d'.now.code) ∧ w'.cell? ⟨w7.heap.size, 8, none⟩ = some (.int .i64 d'.now.adv) ∧ w'.cell? ⟨w7.heap.size, 9, none⟩ = some (.slice k7.now.out.A k7.now.out.n k7.now.out.c) ∧ w'.cell? ⟨w7.heap.size, 10, none⟩ = some (.slice k7.now.parts.A k7.now.parts.n k7.now.parts.c) ∧ w'.cell? ⟨w7.heap.size, 11, none⟩ = some (.slice k7.now.anchors.A k7.now.anchors.n k7.now.anchors.c) ∧ w'.cell? ⟨w7.heap.size, 12, none⟩ = some (.string d'.now.hints) ∧ w'.cell? ⟨w7.heap.size, 13, none⟩ = some (.slice k7.shape.A k7.shape.n k7.shape.c) ∧ w'.cell? ⟨w.heap.size + 1, 0, none⟩ = some (.slice h'.rows.A h'.rows.n h'.rows.c) ∧ w'.cell? ⟨w.heap.size + 1, 1, none⟩ = some (.slice h'.pens.A h'.pens.n h'.pens.c) ∧ w'.cell? ⟨w.heap.size + 1, 2, none⟩ = some (.slice h'.paths.A h'.paths.n h'.paths.c) ∧ w'.cell? ⟨w.heap.size + 1, 3, none⟩ = some (.int .i64 d'.set.unit) ∧ w'.cell? ⟨w.heap.size + 1, 4, none⟩ = some (.slice h'.set.gl.A h'.set.gl.n h'.set.gl.c) ∧ w'.cell? ⟨w.heap.size + 1, 5, none⟩ = some (.bool d'.isOpen) ∧ w'.cell? ⟨w.heap.size + 1, 6, none⟩ = some (.string d'.now.name) ∧ w'.cell? ⟨w.heap.size + 1, 7, none⟩ = some (.int .i64 d'.now.code) ∧ w'.cell? ⟨w.heap.size + 1, 8, none⟩ = some (.int .i64 d'.now.adv) ∧ w'.cell? ⟨w.heap.size + 1, 9, none⟩ = some (.slice h'.now.out.A h'.now.out.n h'.now.out.c) ∧ w'.cell? ⟨w.heap.size + 1, 10, none⟩ = some (.slice h'.now.parts.A h'.now.parts.n h'.now.parts.c) ∧ w'.cell? ⟨w.heap.size + 1, 11, none⟩ = some (.slice h'.now.anchors.A h'.now.anchors.n h'.now.anchors.c) ∧ w'.cell? ⟨w.heap.size + 1, 12, none⟩ = some (.string d'.now.hints) ∧ w'.cell? ⟨w.heap.size + 1, 13, none⟩ = some (.slice h'.shape.A h'.shape.n h'.shape.c)) (first | exact (hv10.out.two ht10.out) | exact (hv11.out.two ht11.out) | exact (hv12.out.two ht12.out))
      (first | (go_at_call 6; (with_reducible refine (toScene_any d' h' 0 w.heap.size _ ?_ ?_ hm2.out).mono ?_); exact (hr'.out.frame (Below.sameB hB10.drew (Nat.le_refl _))); exact hB10.size; rintro e w11 ⟨k11, rfl, rd11, hb11⟩; have hB11 := hB10.drew.trans (hb11.mono hB10.size); have hz11 : w10.heap.size ≤ w11.heap.size := hb11.size; have ht11 := Lib.hid (ht10.out.drew.below hb11 (by first | omega | (simp <;> omega))); have hv11 := Lib.hid (hv10.out.drew.below hb11 (by first | omega | (simp <;> omega))); replace rd7 := Lib.hid (rd7.out.frame ((SameB.refl _ _ w10).drew.trans (Below.sameB hb11 (by show _ ≤ w10.heap.size; omega)))); replace rd11 := Lib.hid rd11; clear hb11) | (go_at_call 8; (with_reducible refine (eqScene_any d' k7 k11 _ _ _ _ _ rd7.out rd11.out ?_ ?_ ?_).mono ?_); (omega); (exact Nat.le_refl _); exact hm2.out.mono (by omega); rintro e w12 ⟨rfl, hb12⟩; have hB12 := hB11.trans (hb12.mono hB11.size); have hz12 : w11.heap.size ≤ w12.heap.size := hb12.size; have ht12 := Lib.hid (ht11.out.below hb12 (by first | omega | (simp <;> omega))); have hv12 := Lib.hid (hv11.out.below hb12 (by first | omega | (simp <;> omega))); clear hb12))
    go_wp2_with fail
    go_ret
    exact ⟨rfl, hB12⟩

end Go.Proofs.YtgfbcbbcnineiaaGreat

