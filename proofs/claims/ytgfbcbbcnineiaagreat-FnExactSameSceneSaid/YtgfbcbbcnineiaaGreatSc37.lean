/- Whether two glyphs are the same: the program's side; and two lists of glyphs. Conditions: as each states. -/
import Derived.BigQuiet
import Derived.Lib.QuietBelow
import Derived.Test.YtgfbcbbcnineiaaGreatSc13
import Derived.Test.YtgfbcbbcnineiaaGreatSc05
import Derived.Test.YtgfbcbbcnineiaaGreatSc33
namespace Go.Proofs.YtgfbcbbcnineiaaGreat
open Go.RowKit
set_option linter.unusedVariables false
set_option maxRecDepth 100000

set_option maxHeartbeats 8000000 in
theorem implSameG_any (d d' : Gl) (h h' : GlH) (b : Bool) (hb : b = decide (d = d')) (lo hi lo' hi' : Nat) (w : World) (hr : GlRd w lo hi d h) (hr' : GlRd w lo' hi' d' h') (hhi : hi ≤ w.heap.size) (hhi' : hi' ≤ w.heap.size) (hm : d.small 1000000000) (hm' : d'.small 1000000000) :
    Calls Tryz.prog 33 #[glV d h, glV d' h'] w fun e w' => e = .returned (.bool b) ∧ Below w.heap.size w w' := by
  have hnew := heap_new2 w (.cells #[.string d.name, .int .i64 d.code, .int .i64 d.adv, .slice h.out.A h.out.n h.out.c, .slice h.parts.A h.parts.n h.parts.c, .slice h.anchors.A h.anchors.n h.anchors.c, .string d.hints] 58 (0, 0)) (.cells #[.string d'.name, .int .i64 d'.code, .int .i64 d'.adv, .slice h'.out.A h'.out.n h'.out.c, .slice h'.parts.A h'.parts.n h'.parts.c, .slice h'.anchors.A h'.anchors.n h'.anchors.c, .string d'.hints] 58 (0, 0))
  have hB0 : Below w.heap.size w ((w.alloc (.cells #[.string d.name, .int .i64 d.code, .int .i64 d.adv, .slice h.out.A h.out.n h.out.c, .slice h.parts.A h.parts.n h.parts.c, .slice h.anchors.A h.anchors.n h.anchors.c, .string d.hints] 58 (0, 0))).alloc (.cells #[.string d'.name, .int .i64 d'.code, .int .i64 d'.adv, .slice h'.out.A h'.out.n h'.out.c, .slice h'.parts.A h'.parts.n h'.parts.c, .slice h'.anchors.A h'.anchors.n h'.anchors.c, .string d'.hints] 58 (0, 0))) := Go.Joins.below_alloc2 _ _ _
  have k0 : ((w.alloc (.cells #[.string d.name, .int .i64 d.code, .int .i64 d.adv, .slice h.out.A h.out.n h.out.c, .slice h.parts.A h.parts.n h.parts.c, .slice h.anchors.A h.anchors.n h.anchors.c, .string d.hints] 58 (0, 0))).alloc (.cells #[.string d'.name, .int .i64 d'.code, .int .i64 d'.adv, .slice h'.out.A h'.out.n h'.out.c, .slice h'.parts.A h'.parts.n h'.parts.c, .slice h'.anchors.A h'.anchors.n h'.anchors.c, .string d'.hints] 58 (0, 0))).cell? ⟨w.heap.size, 0, none⟩ = some (.string d.name) := by simp only [World.cell?, hnew.1]; rfl
  have m0 : ((w.alloc (.cells #[.string d.name, .int .i64 d.code, .int .i64 d.adv, .slice h.out.A h.out.n h.out.c, .slice h.parts.A h.parts.n h.parts.c, .slice h.anchors.A h.anchors.n h.anchors.c, .string d.hints] 58 (0, 0))).alloc (.cells #[.string d'.name, .int .i64 d'.code, .int .i64 d'.adv, .slice h'.out.A h'.out.n h'.out.c, .slice h'.parts.A h'.parts.n h'.parts.c, .slice h'.anchors.A h'.anchors.n h'.anchors.c, .string d'.hints] 58 (0, 0))).cell? ⟨w.heap.size + 1, 0, none⟩ = some (.string d'.name) := by simp only [World.cell?, hnew.2]; rfl
  have k1 : ((w.alloc (.cells #[.string d.name, .int .i64 d.code, .int .i64 d.adv, .slice h.out.A h.out.n h.out.c, .slice h.parts.A h.parts.n h.parts.c, .slice h.anchors.A h.anchors.n h.anchors.c, .string d.hints] 58 (0, 0))).alloc (.cells #[.string d'.name, .int .i64 d'.code, .int .i64 d'.adv, .slice h'.out.A h'.out.n h'.out.c, .slice h'.parts.A h'.parts.n h'.parts.c, .slice h'.anchors.A h'.anchors.n h'.anchors.c, .string d'.hints] 58 (0, 0))).cell? ⟨w.heap.size, 1, none⟩ = some (.int .i64 d.code) := by simp only [World.cell?, hnew.1]; rfl
  have m1 : ((w.alloc (.cells #[.string d.name, .int .i64 d.code, .int .i64 d.adv, .slice h.out.A h.out.n h.out.c, .slice h.parts.A h.parts.n h.parts.c, .slice h.anchors.A h.anchors.n h.anchors.c, .string d.hints] 58 (0, 0))).alloc (.cells #[.string d'.name, .int .i64 d'.code, .int .i64 d'.adv, .slice h'.out.A h'.out.n h'.out.c, .slice h'.parts.A h'.parts.n h'.parts.c, .slice h'.anchors.A h'.anchors.n h'.anchors.c, .string d'.hints] 58 (0, 0))).cell? ⟨w.heap.size + 1, 1, none⟩ = some (.int .i64 d'.code) := by simp only [World.cell?, hnew.2]; rfl
  have k2 : ((w.alloc (.cells #[.string d.name, .int .i64 d.code, .int .i64 d.adv, .slice h.out.A h.out.n h.out.c, .slice h.parts.A h.parts.n h.parts.c, .slice h.anchors.A h.anchors.n h.anchors.c, .string d.hints] 58 (0, 0))).alloc (.cells #[.string d'.name, .int .i64 d'.code, .int .i64 d'.adv, .slice h'.out.A h'.out.n h'.out.c, .slice h'.parts.A h'.parts.n h'.parts.c, .slice h'.anchors.A h'.anchors.n h'.anchors.c, .string d'.hints] 58 (0, 0))).cell? ⟨w.heap.size, 2, none⟩ = some (.int .i64 d.adv) := by simp only [World.cell?, hnew.1]; rfl
  have m2 : ((w.alloc (.cells #[.string d.name, .int .i64 d.code, .int .i64 d.adv, .slice h.out.A h.out.n h.out.c, .slice h.parts.A h.parts.n h.parts.c, .slice h.anchors.A h.anchors.n h.anchors.c, .string d.hints] 58 (0, 0))).alloc (.cells #[.string d'.name, .int .i64 d'.code, .int .i64 d'.adv, .slice h'.out.A h'.out.n h'.out.c, .slice h'.parts.A h'.parts.n h'.parts.c, .slice h'.anchors.A h'.anchors.n h'.anchors.c, .string d'.hints] 58 (0, 0))).cell? ⟨w.heap.size + 1, 2, none⟩ = some (.int .i64 d'.adv) := by simp only [World.cell?, hnew.2]; rfl
  have k3 : ((w.alloc (.cells #[.string d.name, .int .i64 d.code, .int .i64 d.adv, .slice h.out.A h.out.n h.out.c, .slice h.parts.A h.parts.n h.parts.c, .slice h.anchors.A h.anchors.n h.anchors.c, .string d.hints] 58 (0, 0))).alloc (.cells #[.string d'.name, .int .i64 d'.code, .int .i64 d'.adv, .slice h'.out.A h'.out.n h'.out.c, .slice h'.parts.A h'.parts.n h'.parts.c, .slice h'.anchors.A h'.anchors.n h'.anchors.c, .string d'.hints] 58 (0, 0))).cell? ⟨w.heap.size, 3, none⟩ = some (.slice h.out.A h.out.n h.out.c) := by simp only [World.cell?, hnew.1]; rfl
  have m3 : ((w.alloc (.cells #[.string d.name, .int .i64 d.code, .int .i64 d.adv, .slice h.out.A h.out.n h.out.c, .slice h.parts.A h.parts.n h.parts.c, .slice h.anchors.A h.anchors.n h.anchors.c, .string d.hints] 58 (0, 0))).alloc (.cells #[.string d'.name, .int .i64 d'.code, .int .i64 d'.adv, .slice h'.out.A h'.out.n h'.out.c, .slice h'.parts.A h'.parts.n h'.parts.c, .slice h'.anchors.A h'.anchors.n h'.anchors.c, .string d'.hints] 58 (0, 0))).cell? ⟨w.heap.size + 1, 3, none⟩ = some (.slice h'.out.A h'.out.n h'.out.c) := by simp only [World.cell?, hnew.2]; rfl
  have k4 : ((w.alloc (.cells #[.string d.name, .int .i64 d.code, .int .i64 d.adv, .slice h.out.A h.out.n h.out.c, .slice h.parts.A h.parts.n h.parts.c, .slice h.anchors.A h.anchors.n h.anchors.c, .string d.hints] 58 (0, 0))).alloc (.cells #[.string d'.name, .int .i64 d'.code, .int .i64 d'.adv, .slice h'.out.A h'.out.n h'.out.c, .slice h'.parts.A h'.parts.n h'.parts.c, .slice h'.anchors.A h'.anchors.n h'.anchors.c, .string d'.hints] 58 (0, 0))).cell? ⟨w.heap.size, 4, none⟩ = some (.slice h.parts.A h.parts.n h.parts.c) := by simp only [World.cell?, hnew.1]; rfl
  have m4 : ((w.alloc (.cells #[.string d.name, .int .i64 d.code, .int .i64 d.adv, .slice h.out.A h.out.n h.out.c, .slice h.parts.A h.parts.n h.parts.c, .slice h.anchors.A h.anchors.n h.anchors.c, .string d.hints] 58 (0, 0))).alloc (.cells #[.string d'.name, .int .i64 d'.code, .int .i64 d'.adv, .slice h'.out.A h'.out.n h'.out.c, .slice h'.parts.A h'.parts.n h'.parts.c, .slice h'.anchors.A h'.anchors.n h'.anchors.c, .string d'.hints] 58 (0, 0))).cell? ⟨w.heap.size + 1, 4, none⟩ = some (.slice h'.parts.A h'.parts.n h'.parts.c) := by simp only [World.cell?, hnew.2]; rfl
  have k5 : ((w.alloc (.cells #[.string d.name, .int .i64 d.code, .int .i64 d.adv, .slice h.out.A h.out.n h.out.c, .slice h.parts.A h.parts.n h.parts.c, .slice h.anchors.A h.anchors.n h.anchors.c, .string d.hints] 58 (0, 0))).alloc (.cells #[.string d'.name, .int .i64 d'.code, .int .i64 d'.adv, .slice h'.out.A h'.out.n h'.out.c, .slice h'.parts.A h'.parts.n h'.parts.c, .slice h'.anchors.A h'.anchors.n h'.anchors.c, .string d'.hints] 58 (0, 0))).cell? ⟨w.heap.size, 5, none⟩ = some (.slice h.anchors.A h.anchors.n h.anchors.c) := by simp only [World.cell?, hnew.1]; rfl
  have m5 : ((w.alloc (.cells #[.string d.name, .int .i64 d.code, .int .i64 d.adv, .slice h.out.A h.out.n h.out.c, .slice h.parts.A h.parts.n h.parts.c, .slice h.anchors.A h.anchors.n h.anchors.c, .string d.hints] 58 (0, 0))).alloc (.cells #[.string d'.name, .int .i64 d'.code, .int .i64 d'.adv, .slice h'.out.A h'.out.n h'.out.c, .slice h'.parts.A h'.parts.n h'.parts.c, .slice h'.anchors.A h'.anchors.n h'.anchors.c, .string d'.hints] 58 (0, 0))).cell? ⟨w.heap.size + 1, 5, none⟩ = some (.slice h'.anchors.A h'.anchors.n h'.anchors.c) := by simp only [World.cell?, hnew.2]; rfl
  have k6 : ((w.alloc (.cells #[.string d.name, .int .i64 d.code, .int .i64 d.adv, .slice h.out.A h.out.n h.out.c, .slice h.parts.A h.parts.n h.parts.c, .slice h.anchors.A h.anchors.n h.anchors.c, .string d.hints] 58 (0, 0))).alloc (.cells #[.string d'.name, .int .i64 d'.code, .int .i64 d'.adv, .slice h'.out.A h'.out.n h'.out.c, .slice h'.parts.A h'.parts.n h'.parts.c, .slice h'.anchors.A h'.anchors.n h'.anchors.c, .string d'.hints] 58 (0, 0))).cell? ⟨w.heap.size, 6, none⟩ = some (.string d.hints) := by simp only [World.cell?, hnew.1]; rfl
  have m6 : ((w.alloc (.cells #[.string d.name, .int .i64 d.code, .int .i64 d.adv, .slice h.out.A h.out.n h.out.c, .slice h.parts.A h.parts.n h.parts.c, .slice h.anchors.A h.anchors.n h.anchors.c, .string d.hints] 58 (0, 0))).alloc (.cells #[.string d'.name, .int .i64 d'.code, .int .i64 d'.adv, .slice h'.out.A h'.out.n h'.out.c, .slice h'.parts.A h'.parts.n h'.parts.c, .slice h'.anchors.A h'.anchors.n h'.anchors.c, .string d'.hints] 58 (0, 0))).cell? ⟨w.heap.size + 1, 6, none⟩ = some (.string d'.hints) := by simp only [World.cell?, hnew.2]; rfl
  clear hnew
  obtain ⟨t3, ht3⟩ : ∃ t, t = decide (d.out = d'.out) := ⟨_, rfl⟩
  obtain ⟨t4, ht4⟩ : ∃ t, t = decide (d.parts = d'.parts) := ⟨_, rfl⟩
  obtain ⟨t5, ht5⟩ : ∃ t, t = decide (d.anchors = d'.anchors) := ⟨_, rfl⟩
  have c3 := fun (W : World) (hB : Below w.heap.size w W) => implSameO_any h.out.A h'.out.A h.out.n h.out.c h'.out.n h'.out.c lo hi lo' hi' d.out d'.out t3 ht3 W (hr.1.frame good_loop (Below.sameB hB hhi)) (hr'.1.frame good_loop (Below.sameB hB hhi')) (Nat.le_trans hhi hB.size) (Nat.le_trans hhi' hB.size) (hm.out hr.1.1).1 (hm'.out hr'.1.1).1 hm.k hm'.k
  have c4 := fun (W : World) (hB : Below w.heap.size w W) => equalPart_any h.parts.A h'.parts.A h.parts.n h.parts.c h'.parts.n h'.parts.c lo hi lo' hi' d.parts d'.parts t4 ht4 W (hr.2.1.frame (good_flat _) (Below.sameB hB hhi)) (hr'.2.1.frame (good_flat _) (Below.sameB hB hhi')) (Nat.le_trans hhi hB.size) (Nat.le_trans hhi' hB.size) (hm.parts hr.2.1.1) (hm'.parts hr'.2.1.1)
  have c5 := fun (W : World) (hB : Below w.heap.size w W) => equalAnchor_any h.anchors.A h'.anchors.A h.anchors.n h.anchors.c h'.anchors.n h'.anchors.c lo hi lo' hi' d.anchors d'.anchors t5 ht5 W (hr.2.2.frame (good_flat _) (Below.sameB hB hhi)) (hr'.2.2.frame (good_flat _) (Below.sameB hB hhi')) (Nat.le_trans hhi hB.size) (Nat.le_trans hhi' hB.size) (hm.anchors hr.2.2.1) (hm'.anchors hr'.2.2.1)
  clear hr hr' hm hm' hhi hhi'
  replace c3 := Lib.hid c3
  replace c4 := Lib.hid c4
  replace c5 := Lib.hid c5
  have hne : Hid (∀ q : Prop, [Decidable q] → false = decide q → (d = d' → q) → b = false) := fun q _ h1 h2 => by
    rw [hb, decide_eq_false_iff_not]; intro e; have := h2 e; simp [this] at h1
  obtain ⟨x0, x1, x2, x3, x4, x5, x6⟩ := d
  obtain ⟨y0, y1, y2, y3, y4, y5, y6⟩ := d'
  dsimp only at *
  have hyes : Hid (x0 = y0 → x1 = y1 → x2 = y2 → true = t3 → true = t4 → true = t5 → x6 = y6 → b = true) := fun h0 h1 h2 h3 h4 h5 h6 => by
    rw [hb, decide_eq_true_iff]
    have e3 := of_decide_eq_true (h3.trans ht3).symm
    have e4 := of_decide_eq_true (h4.trans ht4).symm
    have e5 := of_decide_eq_true (h5.trans ht5).symm
    subst h0; subst h1; subst h2; subst e3; subst e4; subst e5; subst h6; rfl
  replace hb := Lib.hid hb
  replace ht3 := Lib.hid ht3
  replace ht4 := Lib.hid ht4
  replace ht5 := Lib.hid ht5
  have hwalk : Hid (∀ (g : Bool), b = g → True) := fun _ _ => trivial
  clear hwalk
  by_cases e0 : x0 = y0
  rotate_left
  · have hbf := hne.out (x0 = y0) (by simp [e0]) (fun e => by injection e)
    have u0 : (x0.toList == y0.toList) = false := bytes_neq e0
    subst hbf
    clear e0
    go_enter Tryz.func33, Tryz.ntmps33
    go_wp2_with fail
    go_ret
    exact ⟨rfl, hB0⟩
  subst e0
  by_cases e1 : x1 = y1
  rotate_left
  · have hbf := hne.out (x1 = y1) (by simp [e1]) (fun e => by injection e)
    have u1 : (x1 == y1) = false := by simp [e1]
    subst hbf
    clear e1
    go_enter Tryz.func33, Tryz.ntmps33
    go_wp2_with fail
    go_ret
    exact ⟨rfl, hB0⟩
  subst e1
  by_cases e2 : x2 = y2
  rotate_left
  · have hbf := hne.out (x2 = y2) (by simp [e2]) (fun e => by injection e)
    have u2 : (x2 == y2) = false := by simp [e2]
    subst hbf
    clear e2
    go_enter Tryz.func33, Tryz.ntmps33
    go_wp2_with fail
    go_ret
    exact ⟨rfl, hB0⟩
  subst e2
  cases t3
  · have hbf := hne.out _ ht3.out (fun e => by injection e)
    subst hbf
    go_enter Tryz.func33, Tryz.ntmps33
    go_wp2_with fail
    refine (c3.out _ hB0).mono ?_
    rintro e w1 ⟨rfl, hb1⟩
    have hB1 := hB0.trans (hb1.mono hB0.size)
    have K4 := (hb1.cell (by simp <;> omega)).trans k4
    have M4 := (hb1.cell (by simp <;> omega)).trans m4
    have K5 := (hb1.cell (by simp <;> omega)).trans k5
    have M5 := (hb1.cell (by simp <;> omega)).trans m5
    have K6 := (hb1.cell (by simp <;> omega)).trans k6
    have M6 := (hb1.cell (by simp <;> omega)).trans m6
    clear k0 k1 k2 k3 k4 k5 k6 m0 m1 m2 m3 m4 m5 m6 hb1
    go_wp2_with fail
    go_ret
    exact ⟨rfl, hB1⟩
  cases t4
  · have hbf := hne.out _ ht4.out (fun e => by injection e)
    subst hbf
    go_enter Tryz.func33, Tryz.ntmps33
    go_wp2_with fail
    refine (c3.out _ hB0).mono ?_
    rintro e w1 ⟨rfl, hb1⟩
    have hB1 := hB0.trans (hb1.mono hB0.size)
    have K4 := (hb1.cell (by simp <;> omega)).trans k4
    have M4 := (hb1.cell (by simp <;> omega)).trans m4
    have K5 := (hb1.cell (by simp <;> omega)).trans k5
    have M5 := (hb1.cell (by simp <;> omega)).trans m5
    have K6 := (hb1.cell (by simp <;> omega)).trans k6
    have M6 := (hb1.cell (by simp <;> omega)).trans m6
    clear k0 k1 k2 k3 k4 k5 k6 m0 m1 m2 m3 m4 m5 m6 hb1
    go_wp2_with fail
    refine (c4.out _ hB1).mono ?_
    rintro e w2 ⟨rfl, q2, rfl⟩
    have hB2 := below_drewN hB1 q2
    go_wp2_with fail
    go_ret
    exact ⟨rfl, hB2⟩
  cases t5
  · have hbf := hne.out _ ht5.out (fun e => by injection e)
    subst hbf
    go_enter Tryz.func33, Tryz.ntmps33
    go_wp2_with fail
    refine (c3.out _ hB0).mono ?_
    rintro e w1 ⟨rfl, hb1⟩
    have hB1 := hB0.trans (hb1.mono hB0.size)
    have K4 := (hb1.cell (by simp <;> omega)).trans k4
    have M4 := (hb1.cell (by simp <;> omega)).trans m4
    have K5 := (hb1.cell (by simp <;> omega)).trans k5
    have M5 := (hb1.cell (by simp <;> omega)).trans m5
    have K6 := (hb1.cell (by simp <;> omega)).trans k6
    have M6 := (hb1.cell (by simp <;> omega)).trans m6
    clear k0 k1 k2 k3 k4 k5 k6 m0 m1 m2 m3 m4 m5 m6 hb1
    go_wp2_with fail
    refine (c4.out _ hB1).mono ?_
    rintro e w2 ⟨rfl, q2, rfl⟩
    have hB2 := below_drewN hB1 q2
    go_wp2_with fail
    refine (c5.out _ hB2).mono ?_
    rintro e w3 ⟨rfl, q3, rfl⟩
    have hB3 := below_drewN hB2 q3
    go_wp2_with fail
    go_ret
    exact ⟨rfl, by simpa only [World.drewN_drewN] using hB3⟩
  by_cases e6 : x6 = y6
  rotate_left
  · have hbf := hne.out (x6 = y6) (by simp [e6]) (fun e => by injection e)
    have u6 : (x6.toList == y6.toList) = false := bytes_neq e6
    subst hbf
    clear e6
    go_enter Tryz.func33, Tryz.ntmps33
    go_wp2_with fail
    refine (c3.out _ hB0).mono ?_
    rintro e w1 ⟨rfl, hb1⟩
    have hB1 := hB0.trans (hb1.mono hB0.size)
    have K4 := (hb1.cell (by simp <;> omega)).trans k4
    have M4 := (hb1.cell (by simp <;> omega)).trans m4
    have K5 := (hb1.cell (by simp <;> omega)).trans k5
    have M5 := (hb1.cell (by simp <;> omega)).trans m5
    have K6 := (hb1.cell (by simp <;> omega)).trans k6
    have M6 := (hb1.cell (by simp <;> omega)).trans m6
    clear k0 k1 k2 k3 k4 k5 k6 m0 m1 m2 m3 m4 m5 m6 hb1
    go_wp2_with fail
    refine (c4.out _ hB1).mono ?_
    rintro e w2 ⟨rfl, q2, rfl⟩
    have hB2 := below_drewN hB1 q2
    go_wp2_with fail
    refine (c5.out _ hB2).mono ?_
    rintro e w3 ⟨rfl, q3, rfl⟩
    have hB3 := below_drewN hB2 q3
    go_wp2_with fail
    go_ret
    exact ⟨rfl, by simpa only [World.drewN_drewN] using hB3⟩
  subst e6
  have hbt := hyes.out rfl rfl rfl rfl rfl rfl rfl
  subst hbt
  clear hyes
  go_enter Tryz.func33, Tryz.ntmps33
  go_wp2_with fail
  refine (c3.out _ hB0).mono ?_
  rintro e w1 ⟨rfl, hb1⟩
  have hB1 := hB0.trans (hb1.mono hB0.size)
  have K4 := (hb1.cell (by simp <;> omega)).trans k4
  have M4 := (hb1.cell (by simp <;> omega)).trans m4
  have K5 := (hb1.cell (by simp <;> omega)).trans k5
  have M5 := (hb1.cell (by simp <;> omega)).trans m5
  have K6 := (hb1.cell (by simp <;> omega)).trans k6
  have M6 := (hb1.cell (by simp <;> omega)).trans m6
  clear k0 k1 k2 k3 k4 k5 k6 m0 m1 m2 m3 m4 m5 m6 hb1
  go_wp2_with fail
  refine (c4.out _ hB1).mono ?_
  rintro e w2 ⟨rfl, q2, rfl⟩
  have hB2 := below_drewN hB1 q2
  go_wp2_with fail
  refine (c5.out _ hB2).mono ?_
  rintro e w3 ⟨rfl, q3, rfl⟩
  have hB3 := below_drewN hB2 q3
  go_wp2_with fail
  go_ret
  exact ⟨rfl, by simpa only [World.drewN_drewN] using hB3⟩
end Go.Proofs.YtgfbcbbcnineiaaGreat

