/- Intervals of parameters clipped: the program's side. Printed by mk_bn1.py. Conditions: as each states. -/
import Derived.Lib.BufferOwn
import Derived.Deep.RegionHeld3
import Derived.Deep.DeepCutAuto
import Derived.Test.YtlifiioflkhkoaaGreatFr28
namespace Go.Proofs.YtlifiioflkhkoaaGreat
open Go.RowKit
set_option linter.unusedVariables false
set_option maxRecDepth 100000
set_option linter.unusedSimpArgs false

def BndOk (x : Bnd) : Prop := -4194304 ≤ x.1 ∧ x.1 ≤ 4194304 ∧ 0 < x.2.1 ∧ x.2.1 ≤ 4194304
theorem grown_setN {w W : World} {row : Option Nat} (h : w.grownBy W row) {a : Addr} (ha : w.heap.size ≤ a.block) (u : Value) : w.grownBy (W.setCell a u) row :=
  ⟨h.os, h.tape, h.output, by simpa using h.size, fun k hk hne => (Below.heap_setCell _ _ _ _ (by omega)).trans (h.block k hk hne)⟩
theorem cells3 {w : World} {b : Nat} {x y : Int} {c : Bool} {t : TypeId} (h : w.heap[b]? = some (.cells #[.int .i64 x, .int .i64 y, .bool c] t (0, 0))) : w.cell? ⟨b, 0, none⟩ = some (.int .i64 x) ∧ w.cell? ⟨b, 1, none⟩ = some (.int .i64 y) ∧ w.cell? ⟨b, 2, none⟩ = some (.bool c) ∧ (∀ o, w.frozen? ⟨b, o, none⟩ = false) ∧ b < w.heap.size :=
  ⟨by rw [Go.Joins.cell_of_block h]; rfl, by rw [Go.Joins.cell_of_block h]; rfl, by rw [Go.Joins.cell_of_block h]; rfl, Go.Joins.unfrozen_of_block h, (Array.getElem?_eq_some_iff.1 h).1⟩
theorem cellsW {w : World} {b : Nat} {x y u v : Int} {c d : Bool} {t : TypeId} (h : w.heap[b]? = some (.cells #[.int .i64 x, .int .i64 y, .bool c, .int .i64 u, .int .i64 v, .bool d] t (0, 0))) : w.cell? ⟨b, 0, none⟩ = some (.int .i64 x) ∧ w.cell? ⟨b, 1, none⟩ = some (.int .i64 y) ∧ w.cell? ⟨b, 2, none⟩ = some (.bool c) ∧ w.cell? ⟨b, 3, none⟩ = some (.int .i64 u) ∧ w.cell? ⟨b, 4, none⟩ = some (.int .i64 v) ∧ w.cell? ⟨b, 5, none⟩ = some (.bool d) ∧ (∀ o, w.frozen? ⟨b, o, none⟩ = false) ∧ b < w.heap.size :=
  ⟨by rw [Go.Joins.cell_of_block h]; rfl, by rw [Go.Joins.cell_of_block h]; rfl, by rw [Go.Joins.cell_of_block h]; rfl, by rw [Go.Joins.cell_of_block h]; rfl, by rw [Go.Joins.cell_of_block h]; rfl, by rw [Go.Joins.cell_of_block h]; rfl, Go.Joins.unfrozen_of_block h, (Array.getElem?_eq_some_iff.1 h).1⟩

set_option maxHeartbeats 2000000 in
theorem compareBound_any (x y : Bnd) (v : Int) (hv : v = cmpB x y) (w : World) (hx : BndOk x) (hy : BndOk y) :
    Calls Tryz.prog 114 #[.agg #[.int .i64 x.1, .int .i64 x.2.1, .bool x.2.2], .agg #[.int .i64 y.1, .int .i64 y.2.1, .bool y.2.2]] w fun e w' => e = .returned (.int .i64 v) ∧ Below w.heap.size w w' := by
  obtain ⟨a1, a2, a3⟩ := x
  obtain ⟨b1, b2, b3⟩ := y
  obtain ⟨x1, x2, x3, x4⟩ := hx
  obtain ⟨y1, y2, y3, y4⟩ := hy
  unfold cmpB at hv
  dsimp only at *
  have m1 := prod_bd (x := a1) (y := b2) (A := 4194304) (B := 4194304) (by omega) (by omega) (by omega) (by omega)
  have m2 := prod_bd (x := b1) (y := a2) (A := 4194304) (B := 4194304) (by omega) (by omega) (by omega) (by omega)
  obtain ⟨p1, hp1⟩ : ∃ p, p = a1 * b2 := ⟨_, rfl⟩
  obtain ⟨p2, hp2⟩ : ∃ p, p = b1 * a2 := ⟨_, rfl⟩
  rw [← hp1, ← hp2] at hv
  rw [← hp1] at m1
  rw [← hp2] at m2
  have q1 : IntKind.i64.wrap (a1 * b2) = p1 := by rw [← hp1]; exact wi (by omega)
  have q2 : IntKind.i64.wrap (b1 * a2) = p2 := by rw [← hp2]; exact wi (by omega)
  have q3 : IntKind.i64.wrap (p1 - p2) = p1 - p2 := wi (by omega)
  have hc := Lib.hid (fun W => sign_any (p1 - p2) W v hv)
  have hb0 := Go.Joins.below_alloc2 w (.cells #[.int .i64 a1, .int .i64 a2, .bool a3] 147 (0, 0)) (.cells #[.int .i64 b1, .int .i64 b2, .bool b3] 147 (0, 0))
  clear hp1 hp2 m1 m2 hv x1 x2 x3 x4 y1 y2 y3 y4
  go_enter Tryz.func114, Tryz.ntmps114
  go_wp2_with fail
  refine (hc.out _).mono ?_
  rintro e w1 ⟨rfl, rfl⟩
  go_wp2_with fail
  go_ret
  exact ⟨rfl, hb0⟩


set_option maxHeartbeats 16000000 in
theorem clipW_any (g : Nat) (W : Bnd × Bnd) (f d l : Int) (C : (Bnd × Bnd) × Bool) (hC : C = clipF W f d l) (w : World) (hg : w.heap[g]? = some (.cells #[.int .i64 W.1.1, .int .i64 W.1.2.1, .bool W.1.2.2, .int .i64 W.2.1, .int .i64 W.2.2.1, .bool W.2.2.2] 149 (0, 0))) (h1 : BndOk W.1) (h2 : BndOk W.2) (hf : -1048576 ≤ f ∧ f ≤ 1048576) (hd : -2097152 ≤ d ∧ d ≤ 2097152) (hl : -1048576 ≤ l ∧ l ≤ 1048576) :
    Calls Tryz.prog 132 #[.pointer (some ⟨g, 0, none⟩), .int .i64 f, .int .i64 d, .int .i64 l] w fun e w' => e = .returned (.bool C.2) ∧ w'.heap[g]? = some (.cells #[.int .i64 C.1.1.1, .int .i64 C.1.1.2.1, .bool C.1.1.2.2, .int .i64 C.1.2.1, .int .i64 C.1.2.2.1, .bool C.1.2.2.2] 149 (0, 0)) ∧ w.grownBy w' (some g) := by
  by_cases hd0 : d = 0
  · subst hd0
    have hC2 : C = (W, decide (l ≤ f) && decide (f < l + 2)) := by rw [hC]; unfold clipF; rw [if_pos rfl]
    subst hC2
    clear hC
    have q1 : IntKind.i64.wrap (l + 2) = l + 2 := wi (by omega)
    by_cases g1 : l ≤ f
    · by_cases g2 : f < l + 2
      · go_enter Tryz.func132, Tryz.ntmps132
        go_wp2_with fail
        go_ret
        exact ⟨by first | (rw [decide_eq_true g1, decide_eq_true g2]; rfl) | (rw [decide_eq_true g2]; rfl) | simp [g1, g2], hg, ⟨rfl, rfl, rfl, Nat.le_refl _, fun _ _ _ => rfl⟩⟩
      · go_enter Tryz.func132, Tryz.ntmps132
        go_wp2_with fail
        go_ret
        exact ⟨by first | (rw [decide_eq_true (show l ≤ f by omega), decide_eq_false (show ¬ f < l + 2 by omega)]; rfl) | (rw [decide_eq_false (show ¬ f < l + 2 by omega)]; rfl) | simp [show ¬ f < l + 2 by omega], hg, ⟨rfl, rfl, rfl, Nat.le_refl _, fun _ _ _ => rfl⟩⟩
    · go_enter Tryz.func132, Tryz.ntmps132
      go_wp2_with fail
      go_ret
      exact ⟨by first | (rw [decide_eq_false (show ¬ l ≤ f by omega)]; rfl) | simp [show ¬ l ≤ f by omega], hg, ⟨rfl, rfl, rfl, Nat.le_refl _, fun _ _ _ => rfl⟩⟩
  obtain ⟨en, hen⟩ : ∃ e, e = enterB f d l := ⟨_, rfl⟩
  obtain ⟨lv, hlv⟩ : ∃ e, e = leaveB f d l := ⟨_, rfl⟩
  have hC2 : C = ((maxB W.1 en, minB W.2 lv), openB (maxB W.1 en) (minB W.2 lv)) := by rw [hC, hen, hlv]; unfold clipF; rw [if_neg hd0]
  have hen1 : BndOk en := by rw [hen]; unfold BndOk enterB; split <;> simp only <;> omega
  have hlv1 : BndOk lv := by rw [hlv]; unfold BndOk leaveB; split <;> simp only <;> omega
  have hm1 : BndOk (maxB W.1 en) := by unfold maxB; split <;> assumption
  have hm2 : BndOk (minB W.2 lv) := by unfold minB; split <;> assumption
  obtain ⟨c1, hc1⟩ : ∃ c, c = cmpB en W.1 := ⟨_, rfl⟩
  obtain ⟨c2, hc2⟩ : ∃ c, c = cmpB lv W.2 := ⟨_, rfl⟩
  obtain ⟨M, hM⟩ : ∃ m, m = maxB W.1 en := ⟨_, rfl⟩
  obtain ⟨N, hN⟩ : ∃ m, m = minB W.2 lv := ⟨_, rfl⟩
  rw [← hM, ← hN] at hC2
  rw [← hM] at hm1
  rw [← hN] at hm2
  obtain ⟨c3, hc3⟩ : ∃ c, c = cmpB M N := ⟨_, rfl⟩
  unfold maxB at hM
  unfold minB at hN
  unfold openB at hC2
  rw [← hc1] at hM
  rw [← hc2] at hN
  rw [← hc3] at hC2
  have hk1 := Lib.hid (fun X dr os => Calls.regrown_of (w := X) (d := dr) (os := os) (compareBound_any en W.1 c1 hc1 (Go.Sort.grow (redrawn X dr) os) hen1 h1))
  have hk2 := Lib.hid (fun X dr os => Calls.regrown_of (w := X) (d := dr) (os := os) (compareBound_any lv W.2 c2 hc2 (Go.Sort.grow (redrawn X dr) os) hlv1 h2))
  have hk3 := Lib.hid (fun X dr os => Calls.regrown_of (w := X) (d := dr) (os := os) (compareBound_any M N c3 hc3 (Go.Sort.grow (redrawn X dr) os) hm1 hm2))
  obtain ⟨x1, hx1⟩ : ∃ x : Bool, Hid (x = (decide (0 < c1) || (decide (c1 = 0) && !en.2.2))) := ⟨_, rfl⟩
  obtain ⟨x2, hx2⟩ : ∃ x : Bool, Hid (x = (decide (c2 < 0) || (decide (c2 = 0) && !lv.2.2))) := ⟨_, rfl⟩
  rw [← hx1.out] at hM
  rw [← hx2.out] at hN
  have q1 : IntKind.i64.wrap (l - f) = l - f := wi (by omega)
  have q2 : IntKind.i64.wrap (l + 2) = l + 2 := wi (by omega)
  have q3 : IntKind.i64.wrap (l + 2 - f) = l + 2 - f := wi (by omega)
  have q4 : IntKind.i64.wrap (f - l) = f - l := wi (by omega)
  have q5 : IntKind.i64.wrap (f - l - 2) = f - l - 2 := wi (by omega)
  have q6 : IntKind.i64.wrap (-d) = -d := wi (by omega)
  unfold enterB at hen
  unfold leaveB at hlv
  have hgl := (Array.getElem?_eq_some_iff.1 hg).1
  replace hC2 := Lib.hid hC2
  replace hM := Lib.hid hM
  replace hN := Lib.hid hN
  clear hC h1 h2 hf hd hl hen1 hlv1 hm1 hm2 hc1 hc2 hc3
  obtain ⟨⟨w1, w2, w3⟩, w4, w5, w6⟩ := W
  obtain ⟨e1, e2, e3⟩ := en
  obtain ⟨v1, v2, v3⟩ := lv
  obtain ⟨m1, m2, m3⟩ := M
  obtain ⟨n1, n2, n3⟩ := N
  dsimp only at *
  have hb0 := Go.Joins.below_alloc2 w (.cells #[.int .i64 (l - f), .int .i64 d, .bool true] 147 (0, 0)) (.cells #[.int .i64 (l + 2 - f), .int .i64 d, .bool false] 147 (0, 0))
  have hb0g : w.grownBy ((w.alloc (.cells #[.int .i64 (l - f), .int .i64 d, .bool true] 147 (0, 0))).alloc (.cells #[.int .i64 (l + 2 - f), .int .i64 d, .bool false] 147 (0, 0))) (some g) := ⟨hb0.os, hb0.tape, hb0.output, hb0.size, fun k hk _ => hb0.block k hk⟩
  have hnew := heap_new2 w (.cells #[.int .i64 (l - f), .int .i64 d, .bool true] 147 (0, 0)) (.cells #[.int .i64 (l + 2 - f), .int .i64 d, .bool false] 147 (0, 0))
  go_enter Tryz.func132, Tryz.ntmps132
  go_upto_region 4 with fail
  generalize ((w.alloc (.cells #[.int .i64 (l - f), .int .i64 d, .bool true] 147 (0, 0))).alloc (.cells #[.int .i64 (l + 2 - f), .int .i64 d, .bool false] 147 (0, 0))) = V at *
  obtain ⟨hX1, hY1⟩ := hnew
  obtain ⟨X, hXd⟩ : ∃ X, X = w.heap.size := ⟨_, rfl⟩
  obtain ⟨Y, hYd⟩ : ∃ X, X = w.heap.size + 1 := ⟨_, rfl⟩
  have hgX : g ≠ X ∧ g ≠ Y ∧ X ≠ Y := by omega
  have hXg : X ≠ g := by omega
  have hYg : Y ≠ g := by omega
  rw [← hYd] at hY1 ⊢
  rw [← hXd] at hX1 ⊢
  have hXe := Lib.hid hXd
  have hYe := Lib.hid hYd
  clear hXd hYd
  have hG := Lib.hid ((hb0.block g hgl).trans hg)
  have hW := Lib.hid hb0g
  replace hX1 := Lib.hid hX1
  replace hY1 := Lib.hid hY1
  clear hb0 hb0g hg
  go_cut [37] (fun s wx => s = .bool (decide (d < 0)) ∧ V = wx)
  case first =>
    by_cases hn : d < 0
    · go_wp2_with fail
      go_meet
      case rel => exact ⟨by rw [decide_eq_true (show d < 0 by omega)], rfl⟩
    · go_wp2_with fail
      go_meet
      case rel => exact ⟨by rw [decide_eq_false (show ¬ d < 0 by omega)], rfl⟩
  obtain ⟨rfl, hwx⟩ := hcut
  subst hwx
  obtain ⟨k0, k1, k2, kf, kl⟩ := cells3 hX1.out
  obtain ⟨j0, j1, j2, jf, jl⟩ := cells3 hY1.out
  go_upto_if 37 with fail
  go_cut [40] (fun s wx => wx.heap[X]? = some (.cells #[.int .i64 e1, .int .i64 e2, .bool e3] 147 (0, 0)) ∧ wx.heap[Y]? = some (.cells #[.int .i64 v1, .int .i64 v2, .bool v3] 147 (0, 0)) ∧ wx.heap[g]? = some (.cells #[.int .i64 w1, .int .i64 w2, .bool w3, .int .i64 w4, .int .i64 w5, .bool w6] 149 (0, 0)) ∧ w.grownBy wx (some g))
  case first =>
    by_cases hn : d < 0
    · rw [if_pos hn] at hen hlv
      injection hen with hq1 hq
      injection hq with hq2 hq3
      injection hlv with hr1 hr
      injection hr with hr2 hr3
      subst hq1 hq2 hq3 hr1 hr2 hr3
      go_wp2_with fail
      go_meet
      case rel =>
        obtain ⟨hgX1, hgX2, hgX3⟩ := hgX
        have hg1 : w.heap.size ≤ X ∧ w.heap.size ≤ Y := by have := hXe.out; have := hYe.out; omega
        refine ⟨?_, ?_, ?_, ?_⟩
        · exact (Below.heap_setCell _ _ _ _ hgX3).trans ((Below.heap_setCell _ _ _ _ hgX3).trans ((Below.heap_setCell _ _ _ _ hgX3).trans (Go.Joins.block_setCell (Go.Joins.block_setCell (Go.Joins.block_setCell hX1.out _) _) _)))
        · exact Go.Joins.block_setCell (Go.Joins.block_setCell (Go.Joins.block_setCell ((Below.heap_setCell _ _ _ _ hgX3.symm).trans ((Below.heap_setCell _ _ _ _ hgX3.symm).trans ((Below.heap_setCell _ _ _ _ hgX3.symm).trans hY1.out))) _) _) _
        · exact (Below.heap_setCell _ _ _ _ hgX2).trans ((Below.heap_setCell _ _ _ _ hgX2).trans ((Below.heap_setCell _ _ _ _ hgX2).trans ((Below.heap_setCell _ _ _ _ hgX1).trans ((Below.heap_setCell _ _ _ _ hgX1).trans ((Below.heap_setCell _ _ _ _ hgX1).trans hG.out)))))
        · exact grown_setN (grown_setN (grown_setN (grown_setN (grown_setN (grown_setN hW.out hg1.1 _) hg1.1 _) hg1.1 _) hg1.2 _) hg1.2 _) hg1.2 _
    · rw [if_neg hn] at hen hlv
      injection hen with hq1 hq
      injection hq with hq2 hq3
      injection hlv with hr1 hr
      injection hr with hr2 hr3
      subst hq1 hq2 hq3 hr1 hr2 hr3
      go_wp2_with fail
      go_meet
      case rel => exact ⟨hX1.out, hY1.out, hG.out, hW.out⟩
  clear k0 k1 k2 kf kl j0 j1 j2 jf jl hX1 hY1
  obtain ⟨hX, hY, hG1, hW1⟩ := hcut
  generalize wc = V1 at *
  replace hX := Lib.hid hX
  replace hY := Lib.hid hY
  replace hG := Lib.hid hG1
  replace hW := Lib.hid hW1
  clear hG1 hW1
  obtain ⟨k0, k1, k2, kf, kl⟩ := cells3 hX.out
  obtain ⟨j0, j1, j2, jf, jl⟩ := cells3 hY.out
  obtain ⟨g0, g1, g2, g3, g4, g5, gf, gl⟩ := cellsW hG.out
  go_upto_region 6 with fail
  have k0' := fun dr os => cell_regrown k0 dr os
  have k1' := fun dr os => cell_regrown k1 dr os
  have k2' := fun dr os => cell_regrown k2 dr os
  have j0' := fun dr os => cell_regrown j0 dr os
  have j1' := fun dr os => cell_regrown j1 dr os
  have j2' := fun dr os => cell_regrown j2 dr os
  have g0' := fun dr os => cell_regrown g0 dr os
  have g1' := fun dr os => cell_regrown g1 dr os
  have g2' := fun dr os => cell_regrown g2 dr os
  have g3' := fun dr os => cell_regrown g3 dr os
  have g4' := fun dr os => cell_regrown g4 dr os
  have g5' := fun dr os => cell_regrown g5 dr os
  refine wp_region_quiet_below (by kernel_rfl) (by kernel_rfl) ?_
  repeat (go_big_quiet_step (first | (with_reducible exact hk1.out _ _ _)))
  refine wpQuiet_nil ?_
  intro _ hw'
  obtain ⟨⟨dq, osq⟩, hw''⟩ := hw'
  subst hw''
  have hb9 := below_regrown V1 dq osq
  replace hX := Lib.hid ((hb9.block X kl).trans hX.out)
  replace hY := Lib.hid ((hb9.block Y jl).trans hY.out)
  replace hG := Lib.hid ((hb9.block g gl).trans hG.out)
  replace hW := Lib.hid (Go.Lib.grownBy_below hW.out hb9)
  clear k0' k1' k2' j0' j1' j2' g0' g1' g2' g3' g4' g5' hb9
  clear k0 k1 k2 kf kl j0 j1 j2 jf jl g0 g1 g2 g3 g4 g5 gf gl
  generalize Go.Sort.grow (redrawn V1 dq) osq = V2 at *
  obtain ⟨k0, k1, k2, kf, kl⟩ := cells3 hX.out
  obtain ⟨j0, j1, j2, jf, jl⟩ := cells3 hY.out
  obtain ⟨g0, g1, g2, g3, g4, g5, gf, gl⟩ := cellsW hG.out
  go_upto_region 7 with fail
  go_cut [67] (fun s wx => s = .bool x1 ∧ V2 = wx)
  case first =>
    by_cases h0 : 0 < c1
    · have p0 : decide (0 < c1) = true := decide_eq_true h0
      go_wp2_with fail
      go_meet
      case rel => exact ⟨by rw [hx1.out, decide_eq_true (show 0 < c1 by omega)]; simp, rfl⟩
    · by_cases h1 : c1 = 0
      · have p1 : (c1 == 0) = true := by simp [h1]
        replace h1 := Lib.hid h1
        go_wp2_with fail
        go_meet
        case rel => exact ⟨by rw [hx1.out, decide_eq_false (show ¬ 0 < c1 by omega), decide_eq_true (show c1 = 0 from h1.out)]; simp, rfl⟩
      · have p1 : (c1 == 0) = false := by simp [h1]
        go_wp2_with fail
        go_meet
        case rel => exact ⟨by rw [hx1.out, decide_eq_false (show ¬ 0 < c1 by omega), decide_eq_false (show ¬ c1 = 0 by omega)]; simp, rfl⟩
  obtain ⟨rfl, hwx⟩ := hcut
  subst hwx
  go_upto_if 67 with fail
  go_cut [68] (fun s wx => wx.heap[X]? = some (.cells #[.int .i64 e1, .int .i64 e2, .bool e3] 147 (0, 0)) ∧ wx.heap[Y]? = some (.cells #[.int .i64 v1, .int .i64 v2, .bool v3] 147 (0, 0)) ∧ wx.heap[g]? = some (.cells #[.int .i64 m1, .int .i64 m2, .bool m3, .int .i64 w4, .int .i64 w5, .bool w6] 149 (0, 0)) ∧ w.grownBy wx (some g))
  case first =>
    cases x1 with
    | true =>
      have hq := hM.out
      rw [if_pos rfl] at hq
      injection hq with hq1 hq
      injection hq with hq2 hq3
      subst hq1 hq2 hq3
      go_wp2_with fail
      go_meet
      case rel => refine ⟨?_, ?_, ?_, ?_⟩ <;> first | exact (Below.heap_setCell _ _ _ _ hXg).trans ((Below.heap_setCell _ _ _ _ hXg).trans ((Below.heap_setCell _ _ _ _ hXg).trans hX.out)) | exact (Below.heap_setCell _ _ _ _ hYg).trans ((Below.heap_setCell _ _ _ _ hYg).trans ((Below.heap_setCell _ _ _ _ hYg).trans hY.out)) | exact Go.Joins.block_setCell (Go.Joins.block_setCell (Go.Joins.block_setCell hG.out _) _) _ | exact Go.Lib.grownBy_setB (Go.Lib.grownBy_setB (Go.Lib.grownBy_setB hW.out _ _) _ _) _ _
    | false =>
      have hq := hM.out
      rw [if_neg (by simp)] at hq
      injection hq with hq1 hq
      injection hq with hq2 hq3
      subst hq1 hq2 hq3
      go_wp2_with fail
      go_meet
      case rel => exact ⟨hX.out, hY.out, hG.out, hW.out⟩
  clear k0 k1 k2 kf kl j0 j1 j2 jf jl g0 g1 g2 g3 g4 g5 gf gl
  obtain ⟨hX1, hY1, hG1, hW1⟩ := hcut
  generalize wc = V3 at *
  replace hX := Lib.hid hX1
  replace hY := Lib.hid hY1
  replace hG := Lib.hid hG1
  replace hW := Lib.hid hW1
  clear hX1 hY1 hG1 hW1
  obtain ⟨k0, k1, k2, kf, kl⟩ := cells3 hX.out
  obtain ⟨j0, j1, j2, jf, jl⟩ := cells3 hY.out
  obtain ⟨g0, g1, g2, g3, g4, g5, gf, gl⟩ := cellsW hG.out
  go_upto_region 9 with fail
  have k0' := fun dr os => cell_regrown k0 dr os
  have k1' := fun dr os => cell_regrown k1 dr os
  have k2' := fun dr os => cell_regrown k2 dr os
  have j0' := fun dr os => cell_regrown j0 dr os
  have j1' := fun dr os => cell_regrown j1 dr os
  have j2' := fun dr os => cell_regrown j2 dr os
  have g0' := fun dr os => cell_regrown g0 dr os
  have g1' := fun dr os => cell_regrown g1 dr os
  have g2' := fun dr os => cell_regrown g2 dr os
  have g3' := fun dr os => cell_regrown g3 dr os
  have g4' := fun dr os => cell_regrown g4 dr os
  have g5' := fun dr os => cell_regrown g5 dr os
  refine wp_region_quiet_below (by kernel_rfl) (by kernel_rfl) ?_
  repeat (go_big_quiet_step (first | (with_reducible exact hk2.out _ _ _)))
  refine wpQuiet_nil ?_
  intro _ hw'
  obtain ⟨⟨dq, osq⟩, hw''⟩ := hw'
  subst hw''
  have hb9 := below_regrown V3 dq osq
  replace hX := Lib.hid ((hb9.block X kl).trans hX.out)
  replace hY := Lib.hid ((hb9.block Y jl).trans hY.out)
  replace hG := Lib.hid ((hb9.block g gl).trans hG.out)
  replace hW := Lib.hid (Go.Lib.grownBy_below hW.out hb9)
  clear k0' k1' k2' j0' j1' j2' g0' g1' g2' g3' g4' g5' hb9
  clear k0 k1 k2 kf kl j0 j1 j2 jf jl g0 g1 g2 g3 g4 g5 gf gl
  generalize Go.Sort.grow (redrawn V3 dq) osq = V4 at *
  obtain ⟨k0, k1, k2, kf, kl⟩ := cells3 hX.out
  obtain ⟨j0, j1, j2, jf, jl⟩ := cells3 hY.out
  obtain ⟨g0, g1, g2, g3, g4, g5, gf, gl⟩ := cellsW hG.out
  go_upto_region 10 with fail
  go_cut [88] (fun s wx => s = .bool x2 ∧ V4 = wx)
  case first =>
    by_cases h0 : c2 < 0
    · have p0 : decide (c2 < 0) = true := decide_eq_true h0
      go_wp2_with fail
      go_meet
      case rel => exact ⟨by rw [hx2.out, decide_eq_true (show c2 < 0 by omega)]; simp, rfl⟩
    · by_cases h1 : c2 = 0
      · have p1 : (c2 == 0) = true := by simp [h1]
        replace h1 := Lib.hid h1
        go_wp2_with fail
        go_meet
        case rel => exact ⟨by rw [hx2.out, decide_eq_false (show ¬ c2 < 0 by omega), decide_eq_true (show c2 = 0 from h1.out)]; simp, rfl⟩
      · have p1 : (c2 == 0) = false := by simp [h1]
        go_wp2_with fail
        go_meet
        case rel => exact ⟨by rw [hx2.out, decide_eq_false (show ¬ c2 < 0 by omega), decide_eq_false (show ¬ c2 = 0 by omega)]; simp, rfl⟩
  obtain ⟨rfl, hwx⟩ := hcut
  subst hwx
  go_upto_if 88 with fail
  go_cut [89] (fun s wx => wx.heap[X]? = some (.cells #[.int .i64 e1, .int .i64 e2, .bool e3] 147 (0, 0)) ∧ wx.heap[Y]? = some (.cells #[.int .i64 v1, .int .i64 v2, .bool v3] 147 (0, 0)) ∧ wx.heap[g]? = some (.cells #[.int .i64 m1, .int .i64 m2, .bool m3, .int .i64 n1, .int .i64 n2, .bool n3] 149 (0, 0)) ∧ w.grownBy wx (some g))
  case first =>
    cases x2 with
    | true =>
      have hq := hN.out
      rw [if_pos rfl] at hq
      injection hq with hq1 hq
      injection hq with hq2 hq3
      subst hq1 hq2 hq3
      go_wp2_with fail
      go_meet
      case rel => refine ⟨?_, ?_, ?_, ?_⟩ <;> first | exact (Below.heap_setCell _ _ _ _ hXg).trans ((Below.heap_setCell _ _ _ _ hXg).trans ((Below.heap_setCell _ _ _ _ hXg).trans hX.out)) | exact (Below.heap_setCell _ _ _ _ hYg).trans ((Below.heap_setCell _ _ _ _ hYg).trans ((Below.heap_setCell _ _ _ _ hYg).trans hY.out)) | exact Go.Joins.block_setCell (Go.Joins.block_setCell (Go.Joins.block_setCell hG.out _) _) _ | exact Go.Lib.grownBy_setB (Go.Lib.grownBy_setB (Go.Lib.grownBy_setB hW.out _ _) _ _) _ _
    | false =>
      have hq := hN.out
      rw [if_neg (by simp)] at hq
      injection hq with hq1 hq
      injection hq with hq2 hq3
      subst hq1 hq2 hq3
      go_wp2_with fail
      go_meet
      case rel => exact ⟨hX.out, hY.out, hG.out, hW.out⟩
  clear k0 k1 k2 kf kl j0 j1 j2 jf jl g0 g1 g2 g3 g4 g5 gf gl
  obtain ⟨hX1, hY1, hG1, hW1⟩ := hcut
  generalize wc = V5 at *
  replace hX := Lib.hid hX1
  replace hY := Lib.hid hY1
  replace hG := Lib.hid hG1
  replace hW := Lib.hid hW1
  clear hX1 hY1 hG1 hW1
  obtain ⟨k0, k1, k2, kf, kl⟩ := cells3 hX.out
  obtain ⟨j0, j1, j2, jf, jl⟩ := cells3 hY.out
  obtain ⟨g0, g1, g2, g3, g4, g5, gf, gl⟩ := cellsW hG.out
  go_upto_region 12 with fail
  have k0' := fun dr os => cell_regrown k0 dr os
  have k1' := fun dr os => cell_regrown k1 dr os
  have k2' := fun dr os => cell_regrown k2 dr os
  have j0' := fun dr os => cell_regrown j0 dr os
  have j1' := fun dr os => cell_regrown j1 dr os
  have j2' := fun dr os => cell_regrown j2 dr os
  have g0' := fun dr os => cell_regrown g0 dr os
  have g1' := fun dr os => cell_regrown g1 dr os
  have g2' := fun dr os => cell_regrown g2 dr os
  have g3' := fun dr os => cell_regrown g3 dr os
  have g4' := fun dr os => cell_regrown g4 dr os
  have g5' := fun dr os => cell_regrown g5 dr os
  refine wp_region_quiet_below (by kernel_rfl) (by kernel_rfl) ?_
  repeat (go_big_quiet_step (first | (with_reducible exact hk3.out _ _ _)))
  refine wpQuiet_nil ?_
  intro _ hw'
  obtain ⟨⟨dq, osq⟩, hw''⟩ := hw'
  subst hw''
  have hb9 := below_regrown V5 dq osq
  replace hX := Lib.hid ((hb9.block X kl).trans hX.out)
  replace hY := Lib.hid ((hb9.block Y jl).trans hY.out)
  replace hG := Lib.hid ((hb9.block g gl).trans hG.out)
  replace hW := Lib.hid (Go.Lib.grownBy_below hW.out hb9)
  clear k0' k1' k2' j0' j1' j2' g0' g1' g2' g3' g4' g5' hb9
  clear k0 k1 k2 kf kl j0 j1 j2 jf jl g0 g1 g2 g3 g4 g5 gf gl
  generalize Go.Sort.grow (redrawn V5 dq) osq = V6 at *
  obtain ⟨k0, k1, k2, kf, kl⟩ := cells3 hX.out
  obtain ⟨j0, j1, j2, jf, jl⟩ := cells3 hY.out
  obtain ⟨g0, g1, g2, g3, g4, g5, gf, gl⟩ := cellsW hG.out
  by_cases h0 : c3 < 0
  · go_wp2_with fail
    go_ret
    exact ⟨by rw [hC2.out, decide_eq_true (show c3 < 0 by omega)]; simp, by rw [hC2.out]; exact hG.out, hW.out⟩
  by_cases h1 : c3 = 0
  · have p1 : (c3 == 0) = true := by simp [h1]
    replace h1 := Lib.hid h1
    cases m3 with
    | true =>
      go_wp2_with fail
      go_ret
      exact ⟨by rw [hC2.out, decide_eq_false (show ¬ c3 < 0 by omega), decide_eq_true (show c3 = 0 from h1.out)]; simp, by rw [hC2.out]; exact hG.out, hW.out⟩
    | false =>
      go_wp2_with fail
      go_ret
      exact ⟨by rw [hC2.out, decide_eq_false (show ¬ c3 < 0 by omega), decide_eq_true (show c3 = 0 from h1.out)]; simp, by rw [hC2.out]; exact hG.out, hW.out⟩
  have p1 : (c3 == 0) = false := by simp [h1]
  go_wp2_with fail
  go_ret
  exact ⟨by rw [hC2.out, decide_eq_false (show ¬ c3 < 0 by omega), decide_eq_false (show ¬ c3 = 0 by omega)]; simp, by rw [hC2.out]; exact hG.out, hW.out⟩
end Go.Proofs.YtlifiioflkhkoaaGreat

/- Pixels on the way of a segment: the program's side. Printed by mk_bn2.py. Conditions: as each states. -/
namespace Go.Proofs.YtlifiioflkhkoaaGreat
open Go.RowKit
set_option linter.unusedVariables false
set_option maxRecDepth 100000
set_option linter.unusedSimpArgs false

theorem clip_ok {W : Bnd × Bnd} {f d l : Int} (h1 : BndOk W.1) (h2 : BndOk W.2) (hf : -1048576 ≤ f ∧ f ≤ 1048576) (hd : -2097152 ≤ d ∧ d ≤ 2097152) (hl : -1048576 ≤ l ∧ l ≤ 1048576) : BndOk (clipF W f d l).1.1 ∧ BndOk (clipF W f d l).1.2 := by
  unfold clipF
  split
  · exact ⟨h1, h2⟩
  · rename_i h0
    have e1 : BndOk (enterB f d l) := by unfold BndOk enterB; split <;> simp only <;> omega
    have e2 : BndOk (leaveB f d l) := by unfold BndOk leaveB; split <;> simp only <;> omega
    dsimp only
    constructor
    · unfold maxB; split <;> assumption
    · unfold minB; split <;> assumption
theorem unit_ok : BndOk unitB.1 ∧ BndOk unitB.2 := by unfold BndOk unitB; simp

set_option maxHeartbeats 8000000 in
theorem walkPixel_any (a b p : Pnt) (C : (Bnd × Bnd) × Bool) (hC : C = walkF a b p) (w : World) (ha : pt2Ok a = true) (hb : pt2Ok b = true) (hp : pt2Ok p = true) :
    Calls Tryz.prog 111 #[.agg #[.int .i64 a.1, .int .i64 a.2], .agg #[.int .i64 b.1, .int .i64 b.2], .agg #[.int .i64 p.1, .int .i64 p.2]] w fun e w' => e = .returned (.tuple #[.agg #[.int .i64 C.1.1.1, .int .i64 C.1.1.2.1, .bool C.1.1.2.2, .int .i64 C.1.2.1, .int .i64 C.1.2.2.1, .bool C.1.2.2.2], .bool C.2]) ∧ Below w.heap.size w w' := by
  obtain ⟨⟨a1, a2⟩, a3, a4⟩ := ptOk_iff.1 ha
  obtain ⟨⟨b1, b2⟩, b3, b4⟩ := ptOk_iff.1 hb
  obtain ⟨⟨p1, p2⟩, p3, p4⟩ := ptOk_iff.1 hp
  unfold walkF at hC
  obtain ⟨ax, ay⟩ := a
  obtain ⟨bx, ey⟩ := b
  obtain ⟨px, py⟩ := p
  dsimp only at *
  obtain ⟨f1, hf1⟩ : ∃ x, x = 2 * ax := ⟨_, rfl⟩
  obtain ⟨u1, hu1⟩ : ∃ x, x = bx - ax := ⟨_, rfl⟩
  obtain ⟨d1, hd1⟩ : ∃ x, x = 2 * (bx - ax) := ⟨_, rfl⟩
  obtain ⟨t1, ht1⟩ : ∃ x, x = 2 * px := ⟨_, rfl⟩
  obtain ⟨l1, hl1⟩ : ∃ x, x = 2 * px - 1 := ⟨_, rfl⟩
  obtain ⟨f2, hf2⟩ : ∃ x, x = 2 * ay := ⟨_, rfl⟩
  obtain ⟨u2, hu2⟩ : ∃ x, x = ey - ay := ⟨_, rfl⟩
  obtain ⟨d2, hd2⟩ : ∃ x, x = 2 * (ey - ay) := ⟨_, rfl⟩
  obtain ⟨t2, ht2⟩ : ∃ x, x = 2 * py := ⟨_, rfl⟩
  obtain ⟨l2, hl2⟩ : ∃ x, x = 2 * py - 1 := ⟨_, rfl⟩
  rw [← hf1, ← hd1, ← hl1, ← hf2, ← hd2, ← hl2] at hC
  have q11 : IntKind.i64.wrap (2 * ax) = f1 := by rw [← hf1]; exact wi (by omega)
  have q12 : IntKind.i64.wrap (bx - ax) = u1 := by rw [← hu1]; exact wi (by omega)
  have q13 : IntKind.i64.wrap (2 * u1) = d1 := by rw [show 2 * u1 = d1 by omega]; exact wi (by omega)
  have q14 : IntKind.i64.wrap (2 * px) = t1 := by rw [← ht1]; exact wi (by omega)
  have q15 : IntKind.i64.wrap (t1 - 1) = l1 := by rw [show t1 - 1 = l1 by omega]; exact wi (by omega)
  have bf1 : -1048576 ≤ f1 ∧ f1 ≤ 1048576 := by omega
  have bd1 : -2097152 ≤ d1 ∧ d1 ≤ 2097152 := by omega
  have bl1 : -1048576 ≤ l1 ∧ l1 ≤ 1048576 := by omega
  have q21 : IntKind.i64.wrap (2 * ay) = f2 := by rw [← hf2]; exact wi (by omega)
  have q22 : IntKind.i64.wrap (ey - ay) = u2 := by rw [← hu2]; exact wi (by omega)
  have q23 : IntKind.i64.wrap (2 * u2) = d2 := by rw [show 2 * u2 = d2 by omega]; exact wi (by omega)
  have q24 : IntKind.i64.wrap (2 * py) = t2 := by rw [← ht2]; exact wi (by omega)
  have q25 : IntKind.i64.wrap (t2 - 1) = l2 := by rw [show t2 - 1 = l2 by omega]; exact wi (by omega)
  have bf2 : -1048576 ≤ f2 ∧ f2 ≤ 1048576 := by omega
  have bd2 : -2097152 ≤ d2 ∧ d2 ≤ 2097152 := by omega
  have bl2 : -1048576 ≤ l2 ∧ l2 ≤ 1048576 := by omega
  clear hf1 hu1 hd1 ht1 hl1 hf2 hu2 hd2 ht2 hl2 ha hb hp a1 a2 a3 a4 b1 b2 b3 b4 p1 p2 p3 p4
  obtain ⟨D, hD⟩ : ∃ D, D = clipF unitB f1 d1 l1 := ⟨_, rfl⟩
  have hDok : BndOk D.1.1 ∧ BndOk D.1.2 := by rw [hD]; exact clip_ok unit_ok.1 unit_ok.2 bf1 bd1 bl1
  rw [← hD] at hC
  have hb0 : Below w.heap.size w (((((w.alloc (.cells #[.int .i64 ax, .int .i64 ay] 28 (0, 0))).alloc (.cells #[.int .i64 bx, .int .i64 ey] 28 (0, 0))).alloc (.cells #[.int .i64 px, .int .i64 py] 28 (0, 0))).alloc (.cells #[.int .i64 0, .int .i64 0, .bool false, .int .i64 0, .int .i64 0, .bool false] 149 (0, 0))).alloc (.cells #[.int .i64 0, .int .i64 1, .bool true, .int .i64 1, .int .i64 1, .bool true] 149 (0, 0))) := (((Go.Joins.below_alloc2 w _ _).alloc (by simp; omega) _).alloc (by simp; omega) _).alloc (by simp; omega) _
  have hz0 : (((((w.alloc (.cells #[.int .i64 ax, .int .i64 ay] 28 (0, 0))).alloc (.cells #[.int .i64 bx, .int .i64 ey] 28 (0, 0))).alloc (.cells #[.int .i64 px, .int .i64 py] 28 (0, 0))).alloc (.cells #[.int .i64 0, .int .i64 0, .bool false, .int .i64 0, .int .i64 0, .bool false] 149 (0, 0))).alloc (.cells #[.int .i64 0, .int .i64 1, .bool true, .int .i64 1, .int .i64 1, .bool true] 149 (0, 0))).heap.size = w.heap.size + 5 := by simp
  have hA : PB (((((w.alloc (.cells #[.int .i64 ax, .int .i64 ay] 28 (0, 0))).alloc (.cells #[.int .i64 bx, .int .i64 ey] 28 (0, 0))).alloc (.cells #[.int .i64 px, .int .i64 py] 28 (0, 0))).alloc (.cells #[.int .i64 0, .int .i64 0, .bool false, .int .i64 0, .int .i64 0, .bool false] 149 (0, 0))).alloc (.cells #[.int .i64 0, .int .i64 1, .bool true, .int .i64 1, .int .i64 1, .bool true] 149 (0, 0))) w.heap.size ax ay := (((((show PB (w.alloc (.cells #[.int .i64 ax, .int .i64 ay] 28 (0, 0))) w.heap.size ax ay from heap_alloc_new w _).alloc _).alloc _).alloc _).alloc _)
  have hB : PB (((((w.alloc (.cells #[.int .i64 ax, .int .i64 ay] 28 (0, 0))).alloc (.cells #[.int .i64 bx, .int .i64 ey] 28 (0, 0))).alloc (.cells #[.int .i64 px, .int .i64 py] 28 (0, 0))).alloc (.cells #[.int .i64 0, .int .i64 0, .bool false, .int .i64 0, .int .i64 0, .bool false] 149 (0, 0))).alloc (.cells #[.int .i64 0, .int .i64 1, .bool true, .int .i64 1, .int .i64 1, .bool true] 149 (0, 0))) (w.heap.size + 1) bx ey := ((((show PB ((w.alloc (.cells #[.int .i64 ax, .int .i64 ay] 28 (0, 0))).alloc (.cells #[.int .i64 bx, .int .i64 ey] 28 (0, 0))) (w.heap.size + 1) bx ey from by have := heap_alloc_new (w.alloc (.cells #[.int .i64 ax, .int .i64 ay] 28 (0, 0))) (.cells #[.int .i64 bx, .int .i64 ey] 28 (0, 0)); rw [show (w.alloc (.cells #[.int .i64 ax, .int .i64 ay] 28 (0, 0))).heap.size = w.heap.size + 1 by simp] at this; exact this).alloc _).alloc _).alloc _)
  have hP : PB (((((w.alloc (.cells #[.int .i64 ax, .int .i64 ay] 28 (0, 0))).alloc (.cells #[.int .i64 bx, .int .i64 ey] 28 (0, 0))).alloc (.cells #[.int .i64 px, .int .i64 py] 28 (0, 0))).alloc (.cells #[.int .i64 0, .int .i64 0, .bool false, .int .i64 0, .int .i64 0, .bool false] 149 (0, 0))).alloc (.cells #[.int .i64 0, .int .i64 1, .bool true, .int .i64 1, .int .i64 1, .bool true] 149 (0, 0))) (w.heap.size + 2) px py := (((show PB (((w.alloc (.cells #[.int .i64 ax, .int .i64 ay] 28 (0, 0))).alloc (.cells #[.int .i64 bx, .int .i64 ey] 28 (0, 0))).alloc (.cells #[.int .i64 px, .int .i64 py] 28 (0, 0))) (w.heap.size + 2) px py from by have := heap_alloc_new ((w.alloc (.cells #[.int .i64 ax, .int .i64 ay] 28 (0, 0))).alloc (.cells #[.int .i64 bx, .int .i64 ey] 28 (0, 0))) (.cells #[.int .i64 px, .int .i64 py] 28 (0, 0)); rw [show ((w.alloc (.cells #[.int .i64 ax, .int .i64 ay] 28 (0, 0))).alloc (.cells #[.int .i64 bx, .int .i64 ey] 28 (0, 0))).heap.size = w.heap.size + 2 by simp] at this; exact this).alloc _).alloc _)
  have hR : (((((w.alloc (.cells #[.int .i64 ax, .int .i64 ay] 28 (0, 0))).alloc (.cells #[.int .i64 bx, .int .i64 ey] 28 (0, 0))).alloc (.cells #[.int .i64 px, .int .i64 py] 28 (0, 0))).alloc (.cells #[.int .i64 0, .int .i64 0, .bool false, .int .i64 0, .int .i64 0, .bool false] 149 (0, 0))).alloc (.cells #[.int .i64 0, .int .i64 1, .bool true, .int .i64 1, .int .i64 1, .bool true] 149 (0, 0))).heap[w.heap.size + 3]? = some (.cells #[.int .i64 0, .int .i64 0, .bool false, .int .i64 0, .int .i64 0, .bool false] 149 (0, 0)) := by
    have := heap_alloc_new (((w.alloc (.cells #[.int .i64 ax, .int .i64 ay] 28 (0, 0))).alloc (.cells #[.int .i64 bx, .int .i64 ey] 28 (0, 0))).alloc (.cells #[.int .i64 px, .int .i64 py] 28 (0, 0))) (.cells #[.int .i64 0, .int .i64 0, .bool false, .int .i64 0, .int .i64 0, .bool false] 149 (0, 0))
    rw [show (((w.alloc (.cells #[.int .i64 ax, .int .i64 ay] 28 (0, 0))).alloc (.cells #[.int .i64 bx, .int .i64 ey] 28 (0, 0))).alloc (.cells #[.int .i64 px, .int .i64 py] 28 (0, 0))).heap.size = w.heap.size + 3 by simp] at this
    exact (Below.heap_alloc _ _ _ (by simp)).trans this
  have hG : (((((w.alloc (.cells #[.int .i64 ax, .int .i64 ay] 28 (0, 0))).alloc (.cells #[.int .i64 bx, .int .i64 ey] 28 (0, 0))).alloc (.cells #[.int .i64 px, .int .i64 py] 28 (0, 0))).alloc (.cells #[.int .i64 0, .int .i64 0, .bool false, .int .i64 0, .int .i64 0, .bool false] 149 (0, 0))).alloc (.cells #[.int .i64 0, .int .i64 1, .bool true, .int .i64 1, .int .i64 1, .bool true] 149 (0, 0))).heap[w.heap.size + 4]? = some (.cells #[.int .i64 0, .int .i64 1, .bool true, .int .i64 1, .int .i64 1, .bool true] 149 (0, 0)) := by
    have := heap_alloc_new ((((w.alloc (.cells #[.int .i64 ax, .int .i64 ay] 28 (0, 0))).alloc (.cells #[.int .i64 bx, .int .i64 ey] 28 (0, 0))).alloc (.cells #[.int .i64 px, .int .i64 py] 28 (0, 0))).alloc (.cells #[.int .i64 0, .int .i64 0, .bool false, .int .i64 0, .int .i64 0, .bool false] 149 (0, 0))) (.cells #[.int .i64 0, .int .i64 1, .bool true, .int .i64 1, .int .i64 1, .bool true] 149 (0, 0))
    rw [show ((((w.alloc (.cells #[.int .i64 ax, .int .i64 ay] 28 (0, 0))).alloc (.cells #[.int .i64 bx, .int .i64 ey] 28 (0, 0))).alloc (.cells #[.int .i64 px, .int .i64 py] 28 (0, 0))).alloc (.cells #[.int .i64 0, .int .i64 0, .bool false, .int .i64 0, .int .i64 0, .bool false] 149 (0, 0))).heap.size = w.heap.size + 4 by simp] at this
    exact this
  go_enter Tryz.func111, Tryz.ntmps111
  go_upto_region 2 with fail
  generalize (((((w.alloc (.cells #[.int .i64 ax, .int .i64 ay] 28 (0, 0))).alloc (.cells #[.int .i64 bx, .int .i64 ey] 28 (0, 0))).alloc (.cells #[.int .i64 px, .int .i64 py] 28 (0, 0))).alloc (.cells #[.int .i64 0, .int .i64 0, .bool false, .int .i64 0, .int .i64 0, .bool false] 149 (0, 0))).alloc (.cells #[.int .i64 0, .int .i64 1, .bool true, .int .i64 1, .int .i64 1, .bool true] 149 (0, 0))) = V at *
  have hk1 := Lib.hid (clipW_any (w.heap.size + 4) unitB f1 d1 l1 D hD V hG unit_ok.1 unit_ok.2 bf1 bd1 bl1)
  obtain ⟨k0, k1, kf, kl⟩ := hA.cells
  obtain ⟨j0, j1, jf, jl⟩ := hB.cells
  obtain ⟨m0, m1, mf, ml⟩ := hP.cells
  have hAH := Lib.hid hA
  have hBH := Lib.hid hB
  have hPH := Lib.hid hP
  have hRH := Lib.hid hR
  replace hD := Lib.hid hD
  replace hC := Lib.hid hC
  have hRl := (Array.getElem?_eq_some_iff.1 hR).1
  clear hA hB hP hR hG
  obtain ⟨D1, kk⟩ := D
  dsimp only at hk1 hDok
  cases kk
  · go_wp2_with (go_at_call 132; refine hk1.out.mono ?_; rintro e w2 ⟨rfl, hG2, hgr⟩; have hA2 : PB w2 w.heap.size ax ay := ((hgr.block _ kl (by simp)).trans hAH.out); have hB2 : PB w2 (w.heap.size + 1) bx ey := ((hgr.block _ jl (by simp)).trans hBH.out); have hP2 : PB w2 (w.heap.size + 2) px py := ((hgr.block _ ml (by simp)).trans hPH.out); have hR2 := Lib.hid ((hgr.block (w.heap.size + 3) hRl (by simp)).trans hRH.out); obtain ⟨u0, u1, uf, ul⟩ := hA2.cells; obtain ⟨v0, v1, vf, vl⟩ := hB2.cells; obtain ⟨n0, n1, nf, nl⟩ := hP2.cells; have hA2H := Lib.hid hA2; replace hgr := Lib.hid hgr; obtain ⟨x0, x1, x2, x3, x4, x5, xf, xl⟩ := cellsW hG2; obtain ⟨y0, y1, y2, y3, y4, y5, yf, yl⟩ := cellsW hR2.out; replace hG2 := Lib.hid hG2; clear hA2 hB2 hP2; dsimp only)
    have hCe := hC.out
    rw [if_neg (by simp)] at hCe
    have hB2 := hb0.grown hgr.out hb0.size (fun g hg => by injection hg with hg; omega)
    have hR9 := Go.Joins.block_setCell (i := 5) (Go.Joins.block_setCell (i := 4) (Go.Joins.block_setCell (i := 3) (Go.Joins.block_setCell (i := 2) (Go.Joins.block_setCell (i := 1) (Go.Joins.block_setCell (i := 0) hR2.out (.int .i64 D1.1.1)) (.int .i64 D1.1.2.1)) (.bool D1.1.2.2)) (.int .i64 D1.2.1)) (.int .i64 D1.2.2.1)) (.bool D1.2.2.2)
    obtain ⟨s0, s1, s2, s3, s4, s5, _, _⟩ := cellsW hR9
    refine bodyPost_ret (v := .tuple #[.agg #[.int .i64 D1.1.1, .int .i64 D1.1.2.1, .bool D1.1.2.2, .int .i64 D1.2.1, .int .i64 D1.2.2.1, .bool D1.2.2.2], .bool false]) (by simp [results, Tryz.results111, go_sem, s0, s1, s2, s3, s4, s5]) rfl ⟨by rw [hCe], ?_⟩
    have hl3 : w.heap.size ≤ w.heap.size + 3 := by omega
    exact (((((hB2.setCell hl3 _).setCell hl3 _).setCell hl3 _).setCell hl3 _).setCell hl3 _).setCell hl3 _
  · have hCe := hC.out
    rw [if_pos rfl] at hCe
    replace hCe := Lib.hid hCe
    go_wp2_with (go_at_call 132; refine hk1.out.mono ?_; rintro e w2 ⟨rfl, hG2, hgr⟩; have hA2 : PB w2 w.heap.size ax ay := ((hgr.block _ kl (by simp)).trans hAH.out); have hB2 : PB w2 (w.heap.size + 1) bx ey := ((hgr.block _ jl (by simp)).trans hBH.out); have hP2 : PB w2 (w.heap.size + 2) px py := ((hgr.block _ ml (by simp)).trans hPH.out); have hR2 := Lib.hid ((hgr.block (w.heap.size + 3) hRl (by simp)).trans hRH.out); obtain ⟨u0, u1, uf, ul⟩ := hA2.cells; obtain ⟨v0, v1, vf, vl⟩ := hB2.cells; obtain ⟨n0, n1, nf, nl⟩ := hP2.cells; have hA2H := Lib.hid hA2; replace hgr := Lib.hid hgr; obtain ⟨x0, x1, x2, x3, x4, x5, xf, xl⟩ := cellsW hG2; obtain ⟨y0, y1, y2, y3, y4, y5, yf, yl⟩ := cellsW hR2.out; replace hG2 := Lib.hid hG2; clear hA2 hB2 hP2; clear k0 k1 kf kl j0 j1 jf jl m0 m1 mf ml q11 q12 q13 q14 q15; replace hk1 := hgr; dsimp only)
    have hk2 := Lib.hid (clipW_any (w.heap.size + 4) D1 f2 d2 l2 C hCe.out w2 hG2.out hDok.1 hDok.2 bf2 bd2 bl2)
    go_wp2_with (go_at_call 132; refine hk2.out.mono ?_; rintro e w3 ⟨rfl, hG3, hgr3⟩; have hR3 := Lib.hid ((hgr3.block (w.heap.size + 3) yl (by simp)).trans hR2.out); clear x0 x1 x2 x3 x4 x5 xf xl y0 y1 y2 y3 y4 y5 yf yl; obtain ⟨x0, x1, x2, x3, x4, x5, xf, xl⟩ := cellsW hG3; obtain ⟨y0, y1, y2, y3, y4, y5, yf, yl⟩ := cellsW hR3.out; replace hgr3 := Lib.hid hgr3; replace hG3 := Lib.hid hG3; clear u0 u1 uf ul v0 v1 vf vl n0 n1 nf nl; dsimp only)
    have hB2 := hb0.grown hgr.out hb0.size (fun g hg => by injection hg with hg; omega)
    have hB3 := hB2.grown hgr3.out hB2.size (fun g hg => by injection hg with hg; omega)
    have hR9 := Go.Joins.block_setCell (i := 5) (Go.Joins.block_setCell (i := 4) (Go.Joins.block_setCell (i := 3) (Go.Joins.block_setCell (i := 2) (Go.Joins.block_setCell (i := 1) (Go.Joins.block_setCell (i := 0) hR3.out (.int .i64 C.1.1.1)) (.int .i64 C.1.1.2.1)) (.bool C.1.1.2.2)) (.int .i64 C.1.2.1)) (.int .i64 C.1.2.2.1)) (.bool C.1.2.2.2)
    obtain ⟨s0, s1, s2, s3, s4, s5, _, _⟩ := cellsW hR9
    refine bodyPost_ret (v := .tuple #[.agg #[.int .i64 C.1.1.1, .int .i64 C.1.1.2.1, .bool C.1.1.2.2, .int .i64 C.1.2.1, .int .i64 C.1.2.2.1, .bool C.1.2.2.2],   .bool C.2]) (by simp [results, Tryz.results111, go_sem, s0, s1, s2, s3, s4, s5]) rfl ⟨rfl, ?_⟩
    have hl3 : w.heap.size ≤ w.heap.size + 3 := by omega
    exact (((((hB3.setCell hl3 _).setCell hl3 _).setCell hl3 _).setCell hl3 _).setCell hl3 _).setCell hl3 _
end Go.Proofs.YtlifiioflkhkoaaGreat

/- Bounds of two points; a search among points by height: the program's side. Conditions: as each states. -/
namespace Go.Proofs.YtlifiioflkhkoaaGreat
open Go.RowKit
set_option linter.unusedVariables false
set_option maxRecDepth 100000

/-- a box about points -/
def BoxF (L : List (Int × Int)) (k : Nat) (a b c d : Int) : Prop := (∀ j, j < k → a ≤ (ptAt L j).1 ∧ (ptAt L j).1 ≤ c ∧ b ≤ (ptAt L j).2 ∧ (ptAt L j).2 ≤ d) ∧ (∃ j, j < k ∧ a = (ptAt L j).1) ∧ (∃ j, j < k ∧ b = (ptAt L j).2) ∧ (∃ j, j < k ∧ c = (ptAt L j).1) ∧ (∃ j, j < k ∧ d = (ptAt L j).2)
theorem BoxF.one (L : List (Int × Int)) : BoxF L 1 (ptAt L 0).1 (ptAt L 0).2 (ptAt L 0).1 (ptAt L 0).2 :=
  ⟨fun j hj => by rw [show j = 0 by omega]; exact ⟨Int.le_refl _, Int.le_refl _, Int.le_refl _, Int.le_refl _⟩, ⟨0, by omega, rfl⟩, ⟨0, by omega, rfl⟩, ⟨0, by omega, rfl⟩, ⟨0, by omega, rfl⟩⟩
theorem BoxF.next {L : List (Int × Int)} {k : Nat} {a b c d a' b' c' d' x y : Int} (h : BoxF L k a b c d) (hx : (ptAt L k).1 = x) (hy : (ptAt L k).2 = y) (ha : a' = if x < a then x else a) (hb : b' = if y < b then y else b) (hc : c' = if c < x then x else c) (hd : d' = if d < y then y else d) : BoxF L (k + 1) a' b' c' d' := by
  subst hx hy
  obtain ⟨h1, ⟨j2, p2, q2⟩, ⟨j3, p3, q3⟩, ⟨j4, p4, q4⟩, ⟨j5, p5, q5⟩⟩ := h
  refine ⟨fun j hj => ?_, ?_, ?_, ?_, ?_⟩
  · rcases (show j < k ∨ j = k by omega) with hj | rfl
    · have := h1 j hj
      subst ha hb hc hd
      refine ⟨?_, ?_, ?_, ?_⟩ <;> split <;> omega
    · subst ha hb hc hd
      refine ⟨?_, ?_, ?_, ?_⟩ <;> split <;> omega
  · subst ha; split
    · exact ⟨k, by omega, rfl⟩
    · exact ⟨j2, by omega, q2⟩
  · subst hb; split
    · exact ⟨k, by omega, rfl⟩
    · exact ⟨j3, by omega, q3⟩
  · subst hc; split
    · exact ⟨k, by omega, rfl⟩
    · exact ⟨j4, by omega, q4⟩
  · subst hd; split
    · exact ⟨k, by omega, rfl⟩
    · exact ⟨j5, by omega, q5⟩

theorem drew_blk (w : World) (b : Nat) : w.drew.heap[b]? = w.heap[b]? := rfl

set_option maxHeartbeats 16000000 in
theorem boundsOf2_any (g lo hi : Nat) (L : List (Int × Int)) (w : World) (hr : RdS 2 (FlatR ptC) w lo hi (some ⟨g, 0, none⟩) 2 L) (hhi : hi ≤ w.heap.size) :
    Calls Tryz.prog 108 #[.slice (some ⟨g, 0, none⟩) 2 2] w fun e w' => ∃ a b c d : Int, e = .returned (.tuple #[.agg #[.int .i64 a, .int .i64 b], .agg #[.int .i64 c, .int .i64 d]]) ∧ BoxF L 2 a b c d ∧ Below w.heap.size w w' := by
  have hb0 := Go.Joins.below_alloc2 w (.cells #[.int .i64 0, .int .i64 0] 28 (0, 0)) (.cells #[.int .i64 0, .int .i64 0] 28 (0, 0))
  have hnew := heap_new2 w (.cells #[.int .i64 0, .int .i64 0] 28 (0, 0)) (.cells #[.int .i64 0, .int .i64 0] 28 (0, 0))
  have hz0 : ((w.alloc (.cells #[.int .i64 0, .int .i64 0] 28 (0, 0))).alloc (.cells #[.int .i64 0, .int .i64 0] 28 (0, 0))).heap.size = w.heap.size + 2 := by simp
  have hrd := hr.frame (good_flat _) (Below.sameB hb0 hhi)
  clear hr
  go_enter Tryz.func108, Tryz.ntmps108
  go_upto_region 1 with fail
  generalize ((w.alloc (.cells #[.int .i64 0, .int .i64 0] 28 (0, 0))).alloc (.cells #[.int .i64 0, .int .i64 0] 28 (0, 0))) = w0 at *
  have hR0 : Hid (PB w0 w.heap.size 0 0) := hnew.1
  have hS0 : Hid (PB w0 (w.heap.size + 1) 0 0) := hnew.2
  obtain ⟨g', og, hA, hgl, hgh, hgs⟩ := hrd.pts (by omega)
  injection hA with hA
  injection hA with e1 e2
  subst e1 e2
  have hgw : g < w0.heap.size := by omega
  have hcs := Lib.hid (fun (W : World) (hW : Below w0.heap.size w0 W) (j : Nat) (hj : j < 2) => And.intro ((hW.cell (p := ⟨g, 0 + j * 2, none⟩) hgw).trans (hgs j hj).1) ((hW.cell (p := ⟨g, 0 + j * 2 + 1, none⟩) hgw).trans (hgs j hj).2))
  clear hgs hnew hrd
  have hx1 : w.heap.size + 2 ≤ w0.heap.size := by omega
  clear hz0
  obtain ⟨s0, s1⟩ := hcs.out w0 (Below.refl _ _) 0 (by omega)
  simp only [Nat.zero_mul, Nat.add_zero, Nat.zero_add] at s0 s1
  obtain ⟨fx, hfx⟩ : ∃ x, x = (ptAt L 0).1 := ⟨_, rfl⟩
  obtain ⟨fy, hfy⟩ : ∃ x, x = (ptAt L 0).2 := ⟨_, rfl⟩
  have hone := Lib.hid (BoxF.one L)
  rw [← hfx] at s0
  rw [← hfy] at s1
  rw [← hfx, ← hfy] at hone
  clear hfx hfy
  have hS1 := Lib.hid (fun (W : World) (hb : Below w0.heap.size w0 W) => (show W.cell? ⟨g, 0, none⟩ = some (.int .i64 fx) ∧ W.cell? ⟨g, 1, none⟩ = some (.int .i64 fy) from ⟨(hb.cell (p := ⟨g, 0, none⟩) hgw).trans s0, (hb.cell (p := ⟨g, 1, none⟩) hgw).trans s1⟩))
  go_cut [4, 5] (fun s4 s5 wx => ∃ (P Q : Nat), s4 = .pointer (some ⟨P, 0, none⟩) ∧ s5 = .pointer (some ⟨Q, 0, none⟩) ∧ wx.heap[P]? = some (.cells #[.int .i64 fx, .int .i64 fy] 28 (0, 0)) ∧ wx.heap[Q]? = some (.cells #[.int .i64 fx, .int .i64 fy] 28 (0, 0)) ∧ w0.heap.size ≤ P ∧ w0.heap.size ≤ Q ∧ P ≠ Q ∧ Below w0.heap.size w0 wx)
  case first =>
    go_region_held3 (fun w' => w'.cell? ⟨g, 0, none⟩ = some (.int .i64 fx) ∧ w'.cell? ⟨g, 1, none⟩ = some (.int .i64 fy)) (first | (refine hS1.out _ ?_; repeat (first | with_reducible exact Below.refl _ _ | with_reducible refine Below.drew ?_ | with_reducible refine Below.alloc ?_ (by simp) _ | with_reducible refine Below.setCell ?_ (by simp) _))) (fail)
    all_goals go_wp2_with fail
    all_goals go_meet
    · exact ⟨_, _, rfl, rfl, (heap_new2 w0 _ _).1, (heap_new2 w0 _ _).2, Nat.le_refl _, Nat.le_succ _, by omega, Below.drew (Go.Joins.below_alloc2 w0 _ _)⟩
    · exact ⟨_, _, rfl, rfl, (heap_new2 w0 _ _).2, (heap_new2 w0 _ _).1, Nat.le_succ _, Nat.le_refl _, by omega, Below.drew (Go.Joins.below_alloc2 w0 _ _)⟩
  obtain ⟨P, Q, rfl, rfl, hP, hQ, hPl, hQl, hPQ, hbc⟩ := hcut
  generalize wc = v at *
  have hzv := hbc.size
  replace hP : PB v P fx fy := hP
  replace hQ : PB v Q fx fy := hQ
  have hPl2 := hP.cells.2.2.2
  have hQl2 := hQ.cells.2.2.2
  replace hP := Lib.hid hP
  replace hQ := Lib.hid hQ
  have hB := Lib.hid (hb0.trans (hbc.mono (by omega)))
  have hb00 := Lib.hid hb0
  clear s0 s1 hS1 hb0
  go_wp2_with fail
  go_loopw [17] (fun iv wr => ∃ (k : Nat) (a b c d : Int), iv = .int .i64 k ∧ k ≤ 1 ∧ BoxF L (k + 1) a b c d ∧ PB wr P a b ∧ PB wr Q c d ∧ Below w0.heap.size w0 wr) (fun iv wr => 1 - (intOf iv).toNat)
  case atStart => exact ⟨0, _, _, _, _, rfl, by omega, hone.out, hP.out, hQ.out, hbc⟩
  case round =>
  obtain ⟨k, a, b, c, d, rfl, hk, hbox, hPx, hQx, hbel⟩ := hrel
  generalize wr = xr at *
  have hzx := hbel.size
  obtain ⟨a0, a1, af, al⟩ := hPx.cells
  obtain ⟨b0, b1, bf, bl⟩ := hQx.cells
  replace hbox := Lib.hid hbox
  by_cases hlt : k < 1
  · have hki : (k : Int) < 1 := by omega
    have i1 : (0 : Int) ≤ (k : Int) ∧ (k : Int) < 1 := by omega
    obtain ⟨x0, x1⟩ := hcs.out xr hbel (k + 1) (by omega)
    have hgx : g < xr.heap.size := by omega
    rw [show 0 + (k + 1) * 2 = 2 + k * 2 by omega] at x0 x1
    obtain ⟨x, hx⟩ : ∃ x, x = (ptAt L (k + 1)).1 := ⟨_, rfl⟩
    obtain ⟨y, hy⟩ : ∃ x, x = (ptAt L (k + 1)).2 := ⟨_, rfl⟩
    rw [← hx] at x0
    rw [← hy] at x1
    replace hx := Lib.hid hx
    replace hy := Lib.hid hy
    have hPQ2 : Q ≠ P := by omega
    go_wp2_with fail
    go_roundw
    case rel =>
      refine ⟨k + 1, min a x, min b y, max c x, max d y, by go_num, by omega, BoxF.next hbox.out hx.out.symm hy.out.symm (by split <;> omega) (by split <;> omega) (by split <;> omega) (by split <;> omega), (((hPx.put _ _).off hPQ).off hPQ).alloc _, (((hQx.off hPQ2).off hPQ2).put _ _).alloc _, ?_⟩
      exact ((((hbel.setCell (p := ⟨P, 0, none⟩) hPl _).setCell (p := ⟨P, 1, none⟩) hPl _).setCell (p := ⟨Q, 0, none⟩) hQl _).setCell (p := ⟨Q, 1, none⟩) hQl _).alloc (by simp; omega) _
    case measure => simp [intOf]; omega
  · have hkn : k = 1 := by omega
    subst hkn
    have hki : ¬ ((1 : Nat) : Int) < 1 := by omega
    have hRx := Lib.hid (hR0.out.below (hbel.mono (Nat.le_refl _)))
    have hSx := Lib.hid (hS0.out.below (hbel.mono (Nat.le_refl _)))
    have hBc := Lib.hid (hb00.out.trans (hbel.mono (by omega)))
    obtain ⟨_, _, rf, rl⟩ := hRx.out.cells
    obtain ⟨_, _, sf, sl⟩ := hSx.out.cells
    have hS8 := Lib.hid (fun (W : World) (hb : W.heap[P]? = xr.heap[P]?) (hb2 : W.heap[Q]? = xr.heap[Q]?) => (show (W.cell? ⟨P, 0, none⟩ = some (.int .i64 a) ∧ W.cell? ⟨P, 1, none⟩ = some (.int .i64 b)) ∧ W.cell? ⟨Q, 0, none⟩ = some (.int .i64 c) ∧ W.cell? ⟨Q, 1, none⟩ = some (.int .i64 d) from ⟨⟨(World.cell?_of_block hb).trans a0, (World.cell?_of_block hb).trans a1⟩, (World.cell?_of_block hb2).trans b0, (World.cell?_of_block hb2).trans b1⟩))
    go_upto_region 8 with fail
    go_region_held3 (fun w' => (w'.cell? ⟨P, 0, none⟩ = some (.int .i64 a) ∧ w'.cell? ⟨P, 1, none⟩ = some (.int .i64 b)) ∧ w'.cell? ⟨Q, 0, none⟩ = some (.int .i64 c) ∧ w'.cell? ⟨Q, 1, none⟩ = some (.int .i64 d)) (first | (refine hS8.out _ ?_ ?_ <;> repeat (first | with_reducible exact rfl | with_reducible refine (drew_blk _ _).trans ?_ | with_reducible refine (Below.heap_setCell _ _ _ _ ?_).trans ?_ | (simp only; omega)))) (fail)
    obtain ⟨W9, hW9⟩ : ∃ W, W = ((((xr.setCell ⟨w.heap.size, 0, none⟩ (.int .i64 a)).setCell ⟨w.heap.size, 1, none⟩ (.int .i64 b)).setCell ⟨w.heap.size + 1, 0, none⟩ (.int .i64 c)).setCell ⟨w.heap.size + 1, 1, none⟩ (.int .i64 d)).drew := ⟨_, rfl⟩
    have f1 : PB W9 w.heap.size a b := by rw [hW9]; exact (((hRx.out.put a b).off (by omega)).off (by omega)).drew
    have f2 : PB W9 (w.heap.size + 1) c d := by rw [hW9]; exact (((hSx.out.off (by omega)).off (by omega)).put c d).drew
    have f3 : Below w.heap.size w W9 := by
      rw [hW9]
      exact (((((hBc.out.setCell (p := ⟨w.heap.size, 0, none⟩) (Nat.le_refl _) _).setCell (p := ⟨w.heap.size, 1, none⟩) (Nat.le_refl _) _).setCell (p := ⟨w.heap.size + 1, 0, none⟩) (Nat.le_succ _) _).setCell (p := ⟨w.heap.size + 1, 1, none⟩) (Nat.le_succ _) _)).drew
    rw [← hW9]
    clear hW9
    obtain ⟨y0, y1, _, _⟩ := f1.cells
    obtain ⟨z0, z1, _, _⟩ := f2.cells
    go_wp2_with fail
    refine bodyPost_ret (v := .tuple #[.agg #[.int .i64 a, .int .i64 b], .agg #[.int .i64 c, .int .i64 d]]) (by simp [results, Tryz.results108, go_sem, y0, y1, z0, z1]) rfl ⟨a, b, c, d, rfl, hbox.out, f3⟩

theorem BoxF.two {p q : Int × Int} {L : List (Int × Int)} {a b c d : Int} (hL : L = [p, q]) (h : BoxF L 2 a b c d) : a = min p.1 q.1 ∧ b = min p.2 q.2 ∧ c = max p.1 q.1 ∧ d = max p.2 q.2 := by
  subst hL
  obtain ⟨h1, ⟨j2, p2, q2⟩, ⟨j3, p3, q3⟩, ⟨j4, p4, q4⟩, ⟨j5, p5, q5⟩⟩ := h
  have e0 := h1 0 (by omega)
  have e1 := h1 1 (by omega)
  have hz : ∀ j, j < 2 → ptAt [p, q] j = p ∨ ptAt [p, q] j = q := fun j hj => by
    rcases (by omega : j = 0 ∨ j = 1) with h | h <;> subst h
    · exact .inl rfl
    · exact .inr rfl
  have a0 : ptAt [p, q] 0 = p := rfl
  have a1 : ptAt [p, q] 1 = q := rfl
  rw [a0] at e0
  rw [a1] at e1
  refine ⟨?_, ?_, ?_, ?_⟩
  · rcases hz j2 p2 with h | h <;> rw [h] at q2 <;> omega
  · rcases hz j3 p3 with h | h <;> rw [h] at q3 <;> omega
  · rcases hz j4 p4 with h | h <;> rw [h] at q4 <;> omega
  · rcases hz j5 p5 with h | h <;> rw [h] at q5 <;> omega

set_option maxHeartbeats 4000000 in
theorem cmpY_any (px py y r : Int) (hr : r = sgnI (py - y)) (w : World) (hp : pt2Ok (px, py) = true) (hy : -1000000 ≤ y ∧ y ≤ 1000000) :
    Calls Tryz.prog 110 #[.agg #[.int .i64 px, .int .i64 py], .int .i64 y] w fun e w' => e = .returned (.int .i64 r) ∧ Below w.heap.size w w' := by
  obtain ⟨p1, p2, p3, p4⟩ := pt_bd hp
  obtain ⟨d, hd⟩ : ∃ d, d = py - y := ⟨_, rfl⟩
  have q1 : IntKind.i64.wrap (py - y) = d := by rw [← hd]; exact wi (by omega)
  rw [← hd] at hr
  have hc := Lib.hid (fun W => sign_any d W r hr)
  clear p1 p2 p3 p4 hp hy
  have hdH := Lib.hid hd
  have hrH := Lib.hid hr
  clear hd hr
  go_enter Tryz.func110, Tryz.ntmps110
  go_wp2_with (go_at_call 86; refine (hc.out _).mono ?_; rintro e w' ⟨rfl, rfl⟩)
  go_ret
  exact ⟨rfl, Go.Joins.below_alloc1 _ _⟩

def atY (L : List Pnt) (j : Nat) : Int := (ptAt L j).2
theorem pt_mem {L : List Pnt} {j : Nat} (hj : j < L.length) : ptAt L j ∈ L := by
  unfold ptAt; rw [List.getD_eq_getElem?_getD, List.getElem?_eq_getElem hj]; exact List.getElem_mem hj
theorem ris_atY {L : List Pnt} (h : L.Pairwise fun a b => a.2 ≤ b.2) {i j : Nat} (hij : i ≤ j) (hj : j < L.length) : atY L i ≤ atY L j := by
  rcases Nat.eq_or_lt_of_le hij with e | hlt
  · rw [e]; exact Int.le_refl _
  · have := List.pairwise_iff_getElem.1 h i j (by omega) hj hlt
    unfold atY ptAt
    rw [List.getD_eq_getElem?_getD, List.getD_eq_getElem?_getD, List.getElem?_eq_getElem hj, List.getElem?_eq_getElem (by omega)]
    exact this
set_option maxHeartbeats 8000000 in
theorem binY_any (y : Int) (A : Option Addr) (n c lo hi : Nat) (L : List Pnt) (hris : L.Pairwise fun a b => a.2 ≤ b.2) (hok : ∀ p ∈ L, pt2Ok p = true) (hy : -1000000 ≤ y ∧ y ≤ 1000000) (w : World) (hr : RdS 2 (FlatR ptC) w lo hi A n L) (hhi : hi ≤ w.heap.size) (hn : n ≤ 1000000000) :
    Calls Tryz.prog 109 #[.slice A n c, .int .i64 y, .func (.func 110) #[] #[]] w fun e w' => ∃ (i : Nat) (t : Bool), e = .returned (.tuple #[.int .i64 i, .bool t]) ∧ i ≤ n ∧ (∀ x, x < i → atY L x < y) ∧ (∀ x, i ≤ x → x < n → y ≤ atY L x) ∧ Below w.heap.size w w' := by
  have hll := Lib.hid hr.1
  replace hr := Lib.hid hr
  replace hris := Lib.hid hris
  replace hok := Lib.hid hok
  replace hy := Lib.hid hy
  go_enter Tryz.func109, Tryz.ntmps109
  go_wp2_with fail
  go_loopw [9, 10] (fun iv jv wr => ∃ i j : Nat, iv = .int .i64 i ∧ jv = .int .i64 j ∧ i ≤ j ∧ j ≤ n ∧ (∀ x, x < i → atY L x < y) ∧ (∀ x, j ≤ x → x < n → y ≤ atY L x) ∧ Below w.heap.size w wr) (fun iv jv wr => (intOf jv).toNat - (intOf iv).toNat)
  case atStart => exact ⟨0, n, rfl, rfl, Nat.zero_le _, Nat.le_refl _, fun x hx => absurd hx (Nat.not_lt_zero x), fun x h1 h2 => by omega, Below.refl _ _⟩
  case round =>
    obtain ⟨i, j, rfl, rfl, hij, hjn, hlo, hup, hbel⟩ := hrel
    have hsz := hbel.size
    have hlo' := Lib.hid hlo
    have hup' := Lib.hid hup
    clear hlo hup
    by_cases hlt : i < j
    rotate_left
    · have hieq : i = j := by omega
      subst hieq
      by_cases hin : i < n
      rotate_left
      · go_wp2_with fail
        go_ret2
        exact ⟨_, _, rfl, hjn, hlo'.out, hup'.out, hbel⟩
      obtain ⟨b, off, rfl, hb0, hb, hcs⟩ := (hr.out.frame (good_flat _) (Below.sameB hbel hhi)).pts (by omega)
      obtain ⟨q0, q1⟩ := hcs i hin
      have hpo := hok.out _ (pt_mem (L := L) (j := i) (by have := hll.out; omega))
      obtain ⟨⟨px, py⟩, hp⟩ : ∃ p, p = ptAt L i := ⟨_, rfl⟩
      rw [← hp] at q0 q1 hpo
      dsimp only at q0 q1
      have hbw : b < wr.heap.size := by omega
      have hi : (0 : Int) ≤ (i : Int) ∧ (i : Int) < (n : Int) := by omega
      obtain ⟨r, hrr⟩ : ∃ r, r = sgnI (py - y) := ⟨_, rfl⟩
      have hc := Lib.hid (cmpY_any px py y r hrr wr hpo hy.out)
      clear hcs hrr hp hpo
      go_wp2_with fail
      refine hc.out.mono ?_
      rintro e w1 ⟨rfl, hb1⟩
      go_wp2_with fail
      go_ret2
      exact ⟨_, _, rfl, hjn, hlo'.out, hup'.out, hbel.trans (hb1.mono hbel.size)⟩
    obtain ⟨m, hm⟩ : ∃ m : Nat, ((i : Int) + (j : Int)) / 2 = (m : Int) := ⟨(i + j) / 2, by omega⟩
    have hm1 : i ≤ m ∧ m < j := by omega
    obtain ⟨b, off, rfl, hb0, hb, hcs⟩ := (hr.out.frame (good_flat _) (Below.sameB hbel hhi)).pts (by omega)
    obtain ⟨q0, q1⟩ := hcs m (by omega)
    have hpo := hok.out _ (pt_mem (L := L) (j := m) (by have := hll.out; omega))
    obtain ⟨⟨px, py⟩, hp⟩ : ∃ p, p = ptAt L m := ⟨_, rfl⟩
    rw [← hp] at q0 q1 hpo
    dsimp only at q0 q1
    have hbw : b < wr.heap.size := by omega
    have hi : (0 : Int) ≤ (m : Int) ∧ (m : Int) < (n : Int) := by omega
    obtain ⟨r, hrr⟩ : ∃ r, r = sgnI (py - y) := ⟨_, rfl⟩
    have hc := cmpY_any px py y r hrr wr hpo hy.out
    have hat : atY L m = py := by unfold atY; rw [← hp]
    have hneg : r < 0 ↔ atY L m < y := by rw [hat, hrr, sgn_neg]; omega
    replace hc := Lib.hid hc
    replace hneg := Lib.hid hneg
    clear hcs hrr hp hpo hat
    go_wp2_with fail
    refine hc.out.mono ?_
    rintro e w1 ⟨rfl, hb1⟩
    have hb2 := hbel.trans (hb1.mono hbel.size)
    by_cases h : r < 0
    · go_wp2_with fail
      go_roundw
      case rel =>
        refine ⟨m + 1, j, by go_num, rfl, by omega, hjn, fun x hx => ?_, hup'.out, hb2⟩
        have h1 := hneg.out.1 h
        have h2 := ris_atY hris.out (show x ≤ m by omega) (by have := hll.out; omega)
        omega
      case measure => simp [intOf]; omega
    · go_wp2_with fail
      go_roundw
      case rel =>
        refine ⟨i, m, rfl, by go_num, by omega, by omega, hlo'.out, fun x h1 h2 => ?_, hb2⟩
        have h3 : ¬ atY L m < y := fun h' => by have := hneg.out.2 h'; omega
        have h4 := ris_atY hris.out h1 (by have := hll.out; omega)
        omega
      case measure => simp [intOf]; omega
end Go.Proofs.YtlifiioflkhkoaaGreat

