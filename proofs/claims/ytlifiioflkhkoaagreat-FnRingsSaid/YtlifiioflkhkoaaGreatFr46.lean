/- A thinned ring. Printed by mk_th2.py. Conditions: as each states. -/
import Derived.Test.YtlifiioflkhkoaaGreatFr45
import Derived.Test.YtlifiioflkhkoaaGreatFr20
import Derived.Test.YtlifiioflkhkoaaGreatFr23
import Derived.Test.YtlifiioflkhkoaaGreatFr38
import Derived.Test.YtlifiioflkhkoaaGreatFr04
import Derived.Test.YtlifiioflkhkoaaGreatFr43
import Derived.Test.YtlifiioflkhkoaaGreatFr36
import Derived.Test.YtlifiioflkhkoaaGreatFr05
namespace Go.Proofs.YtlifiioflkhkoaaGreat
open Go.RowKit
set_option linter.unusedVariables false
set_option maxRecDepth 100000

theorem isTol_in (t : Int) (w : World) (h0 : 1 ≤ t) (h1 : t ≤ 262144) : Calls Tryz.prog 30 #[.int .i64 t] w fun e w' => e = .returned (.bool true) ∧ w = w' := by
  go_enter Tryz.func30, Tryz.ntmps30
  go_wp2_with fail
  go_ret
  exact ⟨rfl, rfl⟩
theorem clo_flat2 {L : List Pnt} : (clo L).flatMap ptC = L.flatMap ptC ++ ptC (ptAt L 0) := by unfold clo; simp
theorem clo_length (L : List Pnt) : (clo L).length = L.length + 1 := by unfold clo; simp

set_option maxHeartbeats 16000000 in
theorem thinRing_any (t : Int) (h0 : 1 ≤ t) (h1 : t ≤ 262144) (A : Option Addr) (n c lo hi : Nat) (L : List Pnt) (w : World) (hr : RdS 2 (FlatR ptC) w lo hi A n L) (hhi : hi ≤ w.heap.size) (hv : pathOk L = true) :
    Calls Tryz.prog 12 #[.agg #[.slice A n c], .int .i64 t] w fun e w' => ∃ (R : List Pnt) (A' : Option Addr) (c' : Nat), e = .returned (.tuple #[.agg #[.slice A' (R.length + 1) c'], .int .i64 0]) ∧ w'.ownsRow w.heap.size 28 2 (.slice A' (R.length + 1) c') (R.length + 1) ((ptAt L 0 :: R).flatMap ptC) ∧ ThinG t (clo L) R ∧ Below w.heap.size w w' := by
  obtain ⟨v1, v2, v3⟩ := pathOk_is hv
  have hl := hr.1
  have hb0 := Go.Joins.below_alloc2 w (.cells #[.slice A n c] 42 (0, 0)) (.cells #[.slice none 0 0] 42 (0, 0))
  have hP0 := heap_new2 w (.cells #[.slice A n c] 42 (0, 0)) (.cells #[.slice none 0 0] 42 (0, 0))
  have hz0 : ((w.alloc (.cells #[.slice A n c] 42 (0, 0))).alloc (.cells #[.slice none 0 0] 42 (0, 0))).heap.size = w.heap.size + 2 := by simp
  have hr0 := hr.frame (good_flat _) (Below.sameB hb0 hhi)
  clear hr
  have hkl : Hid (L.length = n) := hl
  clear hl
  have hn4 : n ≤ 400 := by have := hkl.out; omega
  have hn1 : 1 ≤ n := by have := hkl.out; omega
  go_enter Tryz.func12, Tryz.ntmps12
  go_upto_region 1 with fail
  generalize (w.alloc (.cells #[.slice A n c] 42 (0, 0))).alloc (.cells #[.slice none 0 0] 42 (0, 0)) = v0 at *
  obtain ⟨Y, hY⟩ : ∃ Y, Y = w.heap.size := ⟨_, rfl⟩
  rw [← hY] at hP0 hz0 ⊢
  obtain ⟨hY0, hR0⟩ := hP0
  have y0 : v0.cell? ⟨Y, 0, none⟩ = some (.slice A n c) := by rw [Go.Joins.cell_of_block hY0]; rfl
  have hyl : Y < v0.heap.size := by omega
  have hok := Lib.hid (validRing_any A n c lo hi L true hv.symm v0 hr0 (by omega) (by omega))
  have hr0H := Lib.hid hr0
  have hYH := Lib.hid hY
  have hz0a : v0.heap.size ≤ Y + 2 ∧ Y + 2 ≤ v0.heap.size := by omega
  have hhv : hi ≤ v0.heap.size := by omega
  have hB0 := Lib.hid hb0
  clear hr0 hY hz0 hb0
  go_wp2_with fail
  refine hok.out.mono ?_
  rintro e w1 ⟨rfl, hb1⟩
  have hz1 := hb1.size
  have hY1 := Lib.hid ((hb1.block Y hyl).trans hY0)
  have hR1 := Lib.hid ((hb1.block (Y + 1) (by omega)).trans hR0)
  have hyl1 : Y < w1.heap.size := by omega
  have hr1 := Lib.hid (hr0H.out.frame (good_flat _) (Below.sameB hb1 hhv))
  have hB1 := Lib.hid (hB0.out.trans (hb1.mono (by have := hYH.out; omega)))
  have htol := Lib.hid (fun W => isTol_in t W h0 h1)
  clear hok y0 hb1 hY0 hR0
  go_upto_region 3 with fail
  go_wp2_with fail
  refine (htol.out _).mono ?_
  rintro e w2 ⟨rfl, rfl⟩
  obtain ⟨b, off, rfl, hbl, hbh, hcs⟩ := hr1.out.pts (by omega)
  obtain ⟨x0, x1⟩ := hcs 0 (by omega)
  rw [Nat.zero_mul, Nat.add_zero] at x0 x1
  obtain ⟨⟨px, py⟩, hp⟩ : ∃ p, p = ptAt L 0 := ⟨_, rfl⟩
  rw [← hp] at x0 x1
  simp only at x0 x1
  have y1 : w1.cell? ⟨Y, 0, none⟩ = some (.slice (some ⟨b, off, none⟩) n c) := by rw [Go.Joins.cell_of_block hY1.out]; rfl
  have hbw : b < w1.heap.size := by omega
  have i1 : (0 : Int) < (n : Int) := by omega
  have n1 : 0 < n := by omega
  have hS := Lib.hid (fun (W : World) (hb : Below w1.heap.size w1 W) => (show W.cell? ⟨Y, 0, none⟩ = some (.slice (some ⟨b, off, none⟩) n c) ∧ W.cell? ⟨b, off, none⟩ = some (.int .i64 px) ∧ W.cell? ⟨b, off + 1, none⟩ = some (.int .i64 py) from ⟨(hb.cell (p := ⟨Y, 0, none⟩) hyl1).trans y1, (hb.cell (p := ⟨b, off, none⟩) hbw).trans x0, (hb.cell (p := ⟨b, off + 1, none⟩) hbw).trans x1⟩))
  have hcl : Hid (∀ W, Below w1.heap.size w1 W → Calls Tryz.prog 31 #[.slice (some ⟨b, off, none⟩) n c] W fun e w' => ∃ A' c', e = .returned (.slice A' n c') ∧ w'.ownsRow w1.heap.size 28 2 (.slice A' n c') n (L.flatMap ptC) ∧ Below w1.heap.size w1 w' ∧ (∀ o, W = w1.drew.alloc o → w'.heap[w1.heap.size]? = some o)) := by
    refine Lib.hid fun W hb => (clonePtQ_any (some ⟨b, off, none⟩) n c lo hi L W (hr1.out.frame (good_flat _) (Below.sameB hb (by omega))) (by omega) (fun e => by cases e)).mono ?_
    rintro e w' ⟨A', c', he, ho, hb'⟩
    refine ⟨A', c', he, own_lower ho hb.size, hb.trans (hb'.mono hb.size), fun o hW => ?_⟩
    subst hW
    exact (hb'.block w1.heap.size (by show w1.heap.size < (w1.alloc o).heap.size; simp)).trans (heap_alloc_new w1 o)
  have hgrow : Hid (∀ (W w5 : World) (A4 : Option Addr) (c4 : Nat), Below w1.heap.size w1 W → W.ownsRow w1.heap.size 28 2 (.slice A4 n c4) n (L.flatMap ptC) → W.grownBy w5 (Value.slice A4 n c4).ownBlock → Below w1.heap.size w1 w5) := Lib.hid fun W w5 A4 c4 hb ho hg => hb.grown hg hb.size (fun g hg' => (ho.lt g hg').1)
  have hpH := Lib.hid hp
  clear hcs hp x0 x1 y1
  go_upto_region 5 with fail
  go_cut [6] (fun s6 wx => ∃ (A' : Option Addr) (c' : Nat), s6 = .slice A' (n + 1) c' ∧ wx.ownsRow w1.heap.size 28 2 (.slice A' (n + 1) c') (n + 1) ((clo L).flatMap ptC) ∧ Below w1.heap.size w1 wx)
  case first =>
    go_region_held3 (fun w' => w'.cell? ⟨Y, 0, none⟩ = some (.slice (some ⟨b, off, none⟩) n c) ∧ w'.cell? ⟨b, off, none⟩ = some (.int .i64 px) ∧ w'.cell? ⟨b, off + 1, none⟩ = some (.int .i64 py)) (first | (with_reducible exact sE.out) | (with_reducible exact sQ.out) | (refine hS.out _ ?_; repeat (first | with_reducible exact hbQ.out | with_reducible exact Below.refl _ _ | with_reducible refine Below.drew ?_ | with_reducible refine Below.alloc ?_ (by first | exact Nat.le_refl _ | exact hbQ.out.size) _))) (first | (go_at_call 31; (with_reducible refine (hcl.out _ ?_).mono ?_); (first | exact Below.drew (Below.refl _ _) | exact Below.alloc (Below.drew (Below.refl _ _)) (Nat.le_refl _) _); rintro e w4 ⟨A4, c4, rfl, ho4, hbQ, hrow⟩; have sQ := Lib.hid (hS.out w4 hbQ); replace ho4 := Lib.hid ho4; replace hbQ := Lib.hid hbQ; replace hrow := Lib.hid hrow) | (refine stepAppAt rfl (.tmp 17) (.tmp 22) elemPt rfl (base := w1.heap.size) (v := .slice A4 n c4) (n := n) (xs := L.flatMap ptC) (m := 1) (news := [.int .i64 px, .int .i64 py]) rfl (by first | exact ho4.out | exact ho4.out.alloc _) rfl (by first | exact srcB (hrow.out _ rfl) | exact src_at (cs := [.int .i64 px, .int .i64 py]) rfl (by simp [Value.oneCell']) rfl) (by omega) (by omega) (by first | exact hbQ.out.size | exact (hbQ.out.alloc hbQ.out.size _).size) (n + 1) rfl ?_; intro A5 c5 w5 ho5 hg5; have hb5 : Below w1.heap.size w1 w5 := (by first | exact hgrow.out _ _ _ _ hbQ.out ho4.out hg5 | exact hgrow.out _ _ _ _ (hbQ.out.alloc hbQ.out.size _) (ho4.out.alloc _) hg5); have sE := Lib.hid (hS.out w5 hb5); replace ho5 := Lib.hid ho5; replace hb5 := Lib.hid hb5; clear hg5))
    all_goals
      go_wp2_with fail
      go_meet
      exact ⟨A5, c5, rfl, by rw [clo_flat2, ← hpH.out]; exact ho5.out, hb5.out⟩
  case rest =>
  obtain ⟨A6, c6, rfl, ho6, hb6⟩ := hcut
  generalize wc = u at *
  have hzu := hb6.size
  obtain ⟨g6, hA6, hg6a, hg6b, _⟩ := own_at ho6 (by omega)
  subst hA6
  have hcap6 : n + 1 ≤ c6 := by
    rcases ho6.2 with ⟨h1, _⟩ | ⟨g', c', cur, hv', _, _, h5, _⟩
    · cases h1
    · injection hv' with _ _ h3; omega
  obtain ⟨y2, p0, p1⟩ := hS.out u hb6
  have hok6 : ∀ p ∈ clo L, pt2Ok p = true := fun p hp => by
    unfold clo at hp
    rcases List.mem_append.1 hp with h | h
    · exact v3 p h
    · rw [List.mem_singleton.1 h]; exact v3 _ (ptL_mem (by omega))
  have hrd6 := rdS_own ptC_len (by omega) ho6 (by rw [clo_length]; have := hkl.out; omega)
  have hyu : Y < u.heap.size := by omega
  have hbu : b < u.heap.size := by omega
  have hS2 := Lib.hid (fun (W : World) (hb : Below u.heap.size u W) => (show W.cell? ⟨Y, 0, none⟩ = some (.slice (some ⟨b, off, none⟩) n c) ∧ W.cell? ⟨b, off, none⟩ = some (.int .i64 px) ∧ W.cell? ⟨b, off + 1, none⟩ = some (.int .i64 py) from ⟨(hb.cell (p := ⟨Y, 0, none⟩) hyu).trans y2, (hb.cell (p := ⟨b, off, none⟩) hbu).trans p0, (hb.cell (p := ⟨b, off + 1, none⟩) hbu).trans p1⟩))
  have hcT : Hid (∀ W, Below u.heap.size u W → Calls Tryz.prog 32 #[.slice (some ⟨g6, 0, none⟩) (n + 1) c6, .int .i64 t] W fun e w' => ∃ (R : List Pnt) (A' : Option Addr) (c' : Nat), e = .returned (.slice A' R.length c') ∧ Src w' 2 A' R.length (R.flatMap ptC) ∧ ThinG t (clo L) R ∧ Below u.heap.size u w' ∧ Below W.heap.size W w' ∧ (∀ o, Src (w'.alloc o) 2 A' R.length (R.flatMap ptC)) ∧ (∀ cs : Array Value, W = u.drew.alloc (.cells cs 28) → cs.size = 2 → w'.ownsRow u.heap.size 28 2 (.slice (some ⟨u.heap.size, 0, none⟩) 1 1) 1 cs.toList)) := Lib.hid fun W hW => by
    refine (thinPath_any t (by omega) h1 (n + 1) g6 0 (n + 1) c6 _ _ (clo L) W (Nat.le_refl _) (hrd6.frame (good_flat _) (Below.sameB hW (Nat.le_refl _))) hcap6 hW.size (by omega) (by omega) hok6).mono ?_
    rintro e w' ⟨R, A', c', he, ho, hg, hb'⟩
    have hrd := rdS_own ptC_len (by omega) ho rfl
    exact ⟨R, A', c', he, src_rd ptC_len ptC_one hrd, hg, hW.trans (hb'.mono hW.size), hb', fun o => src_rd ptC_len ptC_one (hrd.frame (good_flat _) (SameB.alloc (SameB.refl _ _ _) (Nat.le_refl _) o)), fun cs hWc hcs => by
      subst hWc
      exact own_below (World.ownsRow_lit u.drew cs 1 (Nat.le_refl _) (by decide) (by omega)) hb'⟩
  have hRu := Lib.hid ((hb6.block (Y + 1) (by omega)).trans hR1.out)
  have hB6 := Lib.hid (hB1.out.trans (hb6.mono (by have := hYH.out; omega)))
  have hdu : Hid (Below u.heap.size u u.drew) := Below.drew (Below.refl _ _)
  clear ho6 hb6 hrd6 y2 p0 p1 hS hcl hgrow v3
  go_upto_region 6 with fail
  go_cut [5] (fun s5 wx => s5 = .int .i64 0 ∧ ∃ (R : List Pnt) (A' : Option Addr) (c' : Nat), wx.heap[Y + 1]? = some (.cells #[.slice A' (R.length + 1) c'] 42 (0, 0)) ∧ wx.ownsRow u.heap.size 28 2 (.slice A' (R.length + 1) c') (R.length + 1) ((ptAt L 0 :: R).flatMap ptC) ∧ ThinG t (clo L) R ∧ Below w.heap.size w wx)
  case first =>
    have hgr2 : Hid (∀ (W w5 : World) (A4 : Option Addr) (k4 c4 : Nat) (ys : List Value), Below u.heap.size u W → W.ownsRow u.heap.size 28 2 (.slice A4 k4 c4) k4 ys → W.grownBy w5 (Value.slice A4 k4 c4).ownBlock → Below u.heap.size u w5) := Lib.hid fun W w5 A4 k4 c4 ys hb ho hg => hb.grown hg hb.size (fun g hg' => (ho.lt g hg').1)
    have hbY : b < Y := by have := hYH.out; omega
    have hset : Hid (∀ (W : World) (v : Value), (W.cell? ⟨Y, 0, none⟩ = some (.slice (some ⟨b, off, none⟩) n c) ∧ W.cell? ⟨b, off, none⟩ = some (.int .i64 px) ∧ W.cell? ⟨b, off + 1, none⟩ = some (.int .i64 py)) → (W.setCell ⟨Y + 1, 0, none⟩ v).cell? ⟨Y, 0, none⟩ = some (.slice (some ⟨b, off, none⟩) n c) ∧ (W.setCell ⟨Y + 1, 0, none⟩ v).cell? ⟨b, off, none⟩ = some (.int .i64 px) ∧ (W.setCell ⟨Y + 1, 0, none⟩ v).cell? ⟨b, off + 1, none⟩ = some (.int .i64 py)) := Lib.hid fun W v ⟨h1, h2, h3⟩ => ⟨(World.cell?_of_block (Below.heap_setCell _ _ _ _ (by show Y ≠ Y + 1; omega))).trans h1, (World.cell?_of_block (Below.heap_setCell _ _ _ _ (by show b ≠ Y + 1; omega))).trans h2, (World.cell?_of_block (Below.heap_setCell _ _ _ _ (by show b ≠ Y + 1; omega))).trans h3⟩
    have hyu1 : Y + 1 < u.heap.size := by omega
    go_region_held3 (fun w' => w'.cell? ⟨Y, 0, none⟩ = some (.slice (some ⟨b, off, none⟩) n c) ∧ w'.cell? ⟨b, off, none⟩ = some (.int .i64 px) ∧ w'.cell? ⟨b, off + 1, none⟩ = some (.int .i64 py)) (first | (with_reducible exact sF.out _) | (with_reducible exact sE.out) | (with_reducible exact sQ.out) | (refine hS2.out _ ?_; repeat (first | with_reducible exact hbQ.out | with_reducible exact Below.refl _ _ | with_reducible refine Below.drew ?_ | with_reducible refine Below.alloc ?_ (by first | exact Nat.le_refl _ | exact hbQ.out.size) _))) (first | (go_at_call 32; (with_reducible refine (hcT.out _ ?_).mono ?_); (first | exact Below.drew (Below.refl _ _) | exact Below.alloc (Below.drew (Below.refl _ _)) (Nat.le_refl _) _); rintro e w4 ⟨R1, A4, c4, rfl, hs4, hg4, hbQ, hxQ, hsa4, hrow⟩; have hR4 : R1.length ≤ 1000 := (by have := hg4.1; rw [clo_length] at this; have := hkl.out; omega); have sQ := Lib.hid (hS2.out w4 hbQ); replace hs4 := Lib.hid hs4; replace hsa4 := Lib.hid hsa4; replace hg4 := Lib.hid hg4; replace hbQ := Lib.hid hbQ; replace hxQ := Lib.hid hxQ; replace hrow := Lib.hid hrow; obtain ⟨k4, hk4⟩ : ∃ k, Hid (k = R1.length) := ⟨_, rfl⟩; rw [← hk4.out] at hs4 hsa4 hR4 ⊢; dsimp only) | (refine stepAppAt rfl (.tmp 28) (.tmp 31) elemPt rfl (base := u.heap.size) (v := .slice (some ⟨u.heap.size, 0, none⟩) 1 1) (n := 1) (xs := [.int .i64 px, .int .i64 py]) (m := k4) (news := R1.flatMap ptC) rfl (hrow.out #[.int .i64 px, .int .i64 py] rfl rfl) rfl (hs4.out) (by omega) (by omega) (hbQ.out.size) (k4 + 1) (by omega) ?_; intro A5 c5 w5 ho5 hg5; have hb5 : Below u.heap.size u w5 := hgr2.out _ _ _ _ _ _ (hbQ.out) (hrow.out #[.int .i64 px, .int .i64 py] rfl rfl) hg5; have sE := Lib.hid (hS2.out w5 hb5); have sF := Lib.hid (fun v => hset.out w5 v sE.out); have hR5 := Lib.hid ((hb5.block (Y + 1) hyu1).trans hRu.out); have r5 : w5.cell? ⟨Y + 1, 0, none⟩ = some (.slice none 0 0) := (by rw [Go.Joins.cell_of_block hR5.out]; rfl); have rf5 := Go.Joins.unfrozen_of_block hR5.out; have rl5 : Y + 1 < w5.heap.size := Nat.lt_of_lt_of_le hyu1 hb5.size; replace ho5 := Lib.hid ho5; replace hb5 := Lib.hid hb5; clear hg5) | (refine stepAppAt rfl (.tmp 28) (.tmp 31) elemPt rfl (base := u.heap.size) (v := .slice (some ⟨w4.heap.size, 0, none⟩) 1 1) (n := 1) (xs := [.int .i64 px, .int .i64 py]) (m := k4) (news := R1.flatMap ptC) rfl (own_lower (World.ownsRow_lit w4 #[.int .i64 px, .int .i64 py] 1 (Nat.le_refl _) (by decide) rfl) hbQ.out.size) rfl (hsa4.out _) (by omega) (by omega) ((hbQ.out.alloc hbQ.out.size _).size) (k4 + 1) (by omega) ?_; intro A5 c5 w5 ho5 hg5; have hb5 : Below u.heap.size u w5 := hgr2.out _ _ _ _ _ _ ((hbQ.out.alloc hbQ.out.size _)) (own_lower (World.ownsRow_lit w4 #[.int .i64 px, .int .i64 py] 1 (Nat.le_refl _) (by decide) rfl) hbQ.out.size) hg5; have sE := Lib.hid (hS2.out w5 hb5); have sF := Lib.hid (fun v => hset.out w5 v sE.out); have hR5 := Lib.hid ((hb5.block (Y + 1) hyu1).trans hRu.out); have r5 : w5.cell? ⟨Y + 1, 0, none⟩ = some (.slice none 0 0) := (by rw [Go.Joins.cell_of_block hR5.out]; rfl); have rf5 := Go.Joins.unfrozen_of_block hR5.out; have rl5 : Y + 1 < w5.heap.size := Nat.lt_of_lt_of_le hyu1 hb5.size; replace ho5 := Lib.hid ho5; replace hb5 := Lib.hid hb5; clear hg5))
    all_goals
      go_wp2_with fail
      go_meet
      refine ⟨rfl, R1, A5, c5, ?_, ?_, hg4.out, ?_⟩
      · rw [← hk4.out]; exact Go.Joins.block_setCell hR5.out _
      · rw [← hk4.out]
        refine ownsRow_setCell_below (a := ⟨Y + 1, 0, none⟩) ?_ hyu1 _
        rw [List.flatMap_cons, ← hpH.out]
        exact ho5.out
      · exact (hB6.out.trans (hb5.out.mono (by have := hYH.out; omega))).setCell (by show w.heap.size ≤ Y + 1; have := hYH.out; omega) _
  case rest =>
  obtain ⟨rfl, R, A', c', hR, ho, hg, hB⟩ := hcut
  generalize wc = z at *
  have r0 : z.cell? ⟨Y + 1, 0, none⟩ = some (.slice A' (R.length + 1) c') := by rw [Go.Joins.cell_of_block hR]; rfl
  have rl : Y + 1 < z.heap.size := (Array.getElem?_eq_some_iff.1 hR).1
  have hoH := Lib.hid ho
  clear ho hR
  go_wp2_with fail
  refine bodyPost_ret (v := .tuple #[.agg #[.slice A' (R.length + 1) c'], .int .i64 0]) ?_ rfl ⟨R, A', c', rfl, own_lower hoH.out (by have := hYH.out; omega), hg, hB⟩
  simp [results, Tryz.results12, go_sem, r0]
end Go.Proofs.YtlifiioflkhkoaaGreat

/- WindingOf: the reference, of a valid region. Conditions: as each states. -/
namespace Go.Proofs.YtlifiioflkhkoaaGreat
open Go.RowKit
set_option linter.unusedVariables false
set_option maxRecDepth 100000

theorem thr_off {p : Pnt} {e : Pnt × Pnt} : thrB p.1 p.2 e = true ↔ onE e.1 e.2 p := onB_iff
theorem any_off {p : Pnt} {Rs : List (List Pnt)} : (allE Rs Rs.length).any (thrB p.1 p.2) = false ↔ ∀ e ∈ regE Rs, offE p e := by
  rw [List.any_eq_false, allE_E]
  constructor
  · intro h e he hne ho
    exact h e (List.mem_filter.2 ⟨he, by simp [realE, hne]⟩) (thr_off.2 ho)
  · intro h e he ht
    obtain ⟨h1, h2⟩ := List.mem_filter.1 he
    have hne : e.1 ≠ e.2 := by simpa [realE] using h2
    exact h e h1 hne (thr_off.1 ht)

set_option maxHeartbeats 8000000 in
theorem specWindingOf_any (A : Option Addr) (n c lo hi : Nat) (Rs : List (List Pnt)) (px py : Int) (on : Bool) (hon : on = (allE Rs Rs.length).any (thrB px py)) (w : World) (hr : RegRd w lo hi A n Rs) (hhi : hi ≤ w.heap.size) (hv : regOk Rs = true) (hp : ptOk px py = true) :
    Calls Tryz.prog 9 #[.agg #[.slice A n c], .agg #[.int .i64 px, .int .i64 py]] w fun e w' => e = .returned (.tuple #[.int .i64 (if on = true then 0 else sumE (wndE (px, py)) (regE Rs)), .bool (!on)]) ∧ Below w.heap.size w w' := by
  have hl := hr.1
  obtain ⟨v1, v2, v3⟩ := regOk_is hv
  have hb0 := Go.Joins.below_alloc2 w (.cells #[.slice A n c] 26 (0, 0)) (.cells #[.int .i64 px, .int .i64 py] 28 (0, 0))
  have hP0 := heap_new2 w (.cells #[.slice A n c] 26 (0, 0)) (.cells #[.int .i64 px, .int .i64 py] 28 (0, 0))
  have hz0 : ((w.alloc (.cells #[.slice A n c] 26 (0, 0))).alloc (.cells #[.int .i64 px, .int .i64 py] 28 (0, 0))).heap.size = w.heap.size + 2 := by simp
  have hEl : Hid ((allE Rs n).length ≤ 400) := by show _ ≤ _; rw [← hl, allE_len]; exact v3
  have hEN : Hid (edgeN Rs = (allE Rs n).length) := by show _ = _; rw [← hl, allE_len]
  have hEo : Hid (EOk (allE Rs n)) := allE_ok (fun K h => (pathOk_is (v2 K h)).2.2) n
  have hEs : Hid (sumE (wndE (px, py)) (allE Rs n) = sumE (wndE (px, py)) (regE Rs)) := by show _ = _; rw [← hl]; exact allE_sum Rs (wnd_self (px, py))
  replace hr := Lib.hid (hr.frame good_ring (Below.sameB hb0 hhi))
  rw [hl] at hon
  obtain ⟨E, hE⟩ : ∃ E, E = allE Rs n := ⟨_, rfl⟩
  rw [← hE] at hEl hEo hEs hEN hon
  obtain ⟨S, hS⟩ : ∃ S, S = sumE (wndE (px, py)) E := ⟨_, rfl⟩
  rw [← hEs.out, ← hS]
  have hs1 : ∀ K ∈ Rs, K.length ≤ 1048576 := fun K h => by have := (pathOk_is (v2 K h)).2.1; omega
  go_enter Tryz.func9, Tryz.ntmps9
  go_upto_region 1 with fail
  generalize (w.alloc (.cells #[.slice A n c] 26 (0, 0))).alloc (.cells #[.int .i64 px, .int .i64 py] 28 (0, 0)) = W at *
  obtain ⟨Y, hY⟩ : ∃ Y, Y = w.heap.size := ⟨_, rfl⟩
  rw [← hY] at hP0 hz0 ⊢
  obtain ⟨nA, nB⟩ := hP0
  have hYv : Y < W.heap.size := by omega
  have hYv1 : Y + 1 < W.heap.size := by omega
  have hzv : Y + 2 ≤ W.heap.size ∧ W.heap.size ≤ Y + 2 ∧ hi ≤ W.heap.size := by omega
  have a0 : W.cell? ⟨Y, 0, none⟩ = some (.slice A n c) := by rw [Go.Joins.cell_of_block nA]; rfl
  have hca := Lib.hid (l13All_own Y 0 A n c lo hi Rs W a0 hr.out hzv.2.2 (by omega) v2)
  rw [hEN.out, ← hE] at hca
  obtain ⟨m, hm⟩ : ∃ m, m = E.length := ⟨_, rfl⟩
  rw [← hm] at hca
  have hm4 : m ≤ 400 := by rw [hm]; exact hEl.out
  have hYH := Lib.hid hY
  have hB0 := Lib.hid hb0
  have nAH := Lib.hid nA
  have nBH := Lib.hid nB
  have hn40 : n ≤ 40 := by omega
  replace hm := Lib.hid hm
  replace hE := Lib.hid hE
  replace hS := Lib.hid hS
  replace hon := Lib.hid hon
  replace hv := Lib.hid hv
  replace hs1 := Lib.hid hs1
  clear hz0 hY hb0 nA nB a0 v3 v2 hEs
  go_wp2_with fail
  refine hca.out.mono ?_
  rintro e w1 ⟨A1, c1, rfl, ho1, hb1⟩
  have hz1 := hb1.size
  have nA1 := (hb1.block Y hYv).trans nAH.out
  have nB1 := (hb1.block (Y + 1) hYv1).trans nBH.out
  have a1 : w1.cell? ⟨Y, 0, none⟩ = some (.slice A n c) := by rw [Go.Joins.cell_of_block nA1]; rfl
  have hok := Lib.hid (l13Ok_any Y 0 A n c lo hi Rs true hv.out.symm w1 a1 (hr.out.frame good_ring (Below.sameB hb1 hzv.2.2)) (by omega) (by omega) hs1.out)
  have HO1 := Lib.hid ho1
  have hB1 := Lib.hid (hB0.out.trans (hb1.mono (by have := hYH.out; omega)))
  have hl1 : Y + 1 < w1.heap.size ∧ Y < w1.heap.size := by omega
  have nB1H := Lib.hid nB1
  clear hca a1 nA1 nB1 hb1 ho1
  go_wp2_with fail
  refine hok.out.mono ?_
  rintro e w2 ⟨rfl, hb2⟩
  have hz2 := hb2.size
  have nB2 := (hb2.block (Y + 1) hl1.1).trans nB1H.out
  have b0 : w2.cell? ⟨Y + 1, 0, none⟩ = some (.int .i64 px) := by rw [Go.Joins.cell_of_block nB2]; rfl
  have b1 : w2.cell? ⟨Y + 1, 1, none⟩ = some (.int .i64 py) := by rw [Go.Joins.cell_of_block nB2]; rfl
  have hl2 : Y + 1 < w2.heap.size := by omega
  have hcp := l03Ok_any px py w2
  rw [hp] at hcp
  replace hcp := Lib.hid hcp
  have HO2 := Lib.hid (own_below HO1.out hb2)
  have hB2 := Lib.hid (hB1.out.trans (hb2.mono (by have := hYH.out; omega)))
  have nB2H := Lib.hid nB2
  clear hok hb2 nB2
  go_wp2_with fail
  refine hcp.out.mono ?_
  rintro e w3 ⟨rfl, hb3⟩
  have hz3 := hb3.size
  have nB3 := (hb3.block (Y + 1) hl2).trans nB2H.out
  have b0' : w3.cell? ⟨Y + 1, 0, none⟩ = some (.int .i64 px) := by rw [Go.Joins.cell_of_block nB3]; rfl
  have b1' : w3.cell? ⟨Y + 1, 1, none⟩ = some (.int .i64 py) := by rw [Go.Joins.cell_of_block nB3]; rfl
  have hl3 : Y + 1 < w3.heap.size := by omega
  have HO3 := Lib.hid (own_below HO2.out hb3)
  have hrd3 := Lib.hid (rdS_own edgeC_len (by omega) HO3.out hm.out.symm)
  have hcon := Lib.hid (l14OnAny_any A1 m c1 _ _ E px py on hon.out w3 hrd3.out (Nat.le_refl _) (by omega) hEo.out hp)
  have hB3 := Lib.hid (hB2.out.trans (hb3.mono (by have := hYH.out; omega)))
  have nB3H := Lib.hid nB3
  clear hcp hb3 nB3 b0 b1
  go_wp2_with fail
  refine hcon.out.mono ?_
  rintro e w4 ⟨rfl, hb4⟩
  have hz4 := hb4.size
  have hB4 := Lib.hid (hB3.out.trans (hb4.mono (by have := hYH.out; omega)))
  cases on with
  | true =>
    go_wp2_with fail
    go_ret2
    exact ⟨rfl, hB4.out⟩
  | false =>
    have nB4 := (hb4.block (Y + 1) hl3).trans nB3H.out
    have b0 : w4.cell? ⟨Y + 1, 0, none⟩ = some (.int .i64 px) := by rw [Go.Joins.cell_of_block nB4]; rfl
    have b1 : w4.cell? ⟨Y + 1, 1, none⟩ = some (.int .i64 py) := by rw [Go.Joins.cell_of_block nB4]; rfl
    have hl4 : Y + 1 < w4.heap.size := by omega
    have hcw := Lib.hid (l14Winding_any A1 m c1 _ _ E px py w4 (hrd3.out.frame (good_flat _) (Below.sameB hb4 (Nat.le_refl _))) (by omega) (by omega) hEo.out hp)
    rw [← hS.out] at hcw
    clear hcon hb4 nB4 b0' b1'
    go_wp2_with fail
    refine hcw.out.mono ?_
    rintro e w5 ⟨rfl, hb5⟩
    go_wp2_with fail
    go_ret2
    exact ⟨rfl, hB4.out.trans (hb5.mono (by have := hYH.out; omega))⟩
end Go.Proofs.YtlifiioflkhkoaaGreat

/- The law FnRings: the walk. Conditions: as each states. -/
namespace Go.Proofs.YtlifiioflkhkoaaGreat
open Go.RowKit
set_option linter.unusedVariables false
set_option maxRecDepth 100000
set_option linter.unusedSimpArgs false

theorem clo_ends {L : List Pnt} (hL : 1 ≤ L.length) : ptAt (clo L) 0 = ptAt L 0 ∧ ptAt (clo L) ((clo L).length - 1) = ptAt L 0 := by
  cases L with
  | nil => simp at hL
  | cons a T => simp [clo, ptAt, List.getD_eq_getElem?_getD, List.getElem?_append]
theorem pt_of_path {L : List Pnt} (h : pathOk L = true) {p : Pnt} (hp : p ∈ L) : pt2Ok p = true := by
  unfold pathOk at h
  rw [Bool.and_eq_true] at h
  exact List.all_eq_true.1 h.2 p hp
theorem thin_near {t : Int} {L R : List Pnt} (hL : pathOk L = true) (h6 : L.length ≤ 6) (hg : ThinG t (clo L) R) (h0 : 1 ≤ t) (h1 : t ≤ 262144) {p : Pnt} (hp : p ∈ L) : nearOk ((ptAt L 0 :: R) ++ [ptAt L 0]) p.1 p.2 t = true := by
  obtain ⟨g1, g2, g3⟩ := hg
  have hl := (path_len hL).1
  obtain ⟨e1, e2⟩ := clo_ends hl
  have hc : ∀ q ∈ clo L, pt2Ok q = true := by
    intro q hq
    unfold clo at hq
    rcases List.mem_append.1 hq with h | h
    · exact pt_of_path hL h
    · rw [List.mem_singleton.1 h]; exact pt_of_path hL (pt_mem (by omega))
  unfold nearOk
  have hpth : pathOk ((ptAt L 0 :: R) ++ [ptAt L 0]) = true := by
    unfold pathOk
    rw [clo_length] at g1
    rw [(inB_iff (n := (((ptAt L 0 :: R) ++ [ptAt L 0]).length : Int))).2 (by simp; omega)]
    simp only [Bool.true_and, List.all_eq_true]
    intro q hq
    have h00 : pt2Ok (ptAt L 0) = true := pt_of_path hL (pt_mem (by omega))
    rcases List.mem_append.1 hq with h | h
    · rcases List.mem_cons.1 h with h | h
      · rw [h]; exact h00
      · exact hc q (g2 q h)
    · rw [List.mem_singleton.1 h]; exact h00
  have hn := g3 p (by unfold clo; exact List.mem_append_left _ hp)
  rw [e1, e2] at hn
  rw [hpth, show ptOk p.1 p.2 = true from pt_of_path hL hp, (inB_iff (n := t)).2 (by omega)]
  simpa using hn

set_option maxHeartbeats 32000000 in
theorem lawRings_walk (A0 : Option Addr) (n0 c0 : Nat) (L0 : List Int) (A1 : Option Addr) (n1 c1 : Nat) (L1 : List Int) {w : World} (hr0 : RdS 1 u8R w 0 w.heap.size A0 n0 L0) (hm0 : n0 ≤ maxLen) (hr1 : RdS 1 u8R w 0 w.heap.size A1 n1 L1) (hm1 : n1 ≤ maxLen) :
    Calls Tryz.prog 3 #[.slice A0 n0 c0, .slice A1 n1 c1] w fun e w' => e = .returned (.bool true) ∧ Below w.heap.size w w' := by
  unfold maxLen at hm0 hm1
  obtain ⟨b, hb⟩ : ∃ b : Bool, b = (decide ((1048576 : Int) < (n0 : Int)) || decide ((1048576 : Int) < (n1 : Int))) := ⟨_, rfl⟩
  have hlong := Lib.hid (e8Long_any A0 A1 n0 c0 n1 c1 b hb w (by omega) (by omega))
  cases b
  rotate_left
  · clear hb hr0 hr1
    go_enter Tryz.func3, Tryz.ntmps3
    go_wp2_with fail
    refine hlong.out.mono ?_
    rintro e w' ⟨rfl, rfl⟩
    go_wp2_with fail
    go_ret
    exact ⟨rfl, Below.refl _ _⟩
  have hn0 : n0 ≤ 1048576 := by simp at hb; omega
  have hn1 : n1 ≤ 1048576 := by simp at hb; omega
  clear hb
  have hreg := Lib.hid (E8Region_any A0 n0 c0 0 w.heap.size L0 w hr0 (Nat.le_refl _) (by omega))
  have hat := Lib.hid (fun (W : World) (hb : Below w.heap.size w W) => e8At_any A1 n1 c1 0 w.heap.size L1 0 5 W (hr1.frame good_u8 (Below.sameB hb (Nat.le_refl _))) (by omega) (by omega) (by omega) (by omega))
  clear hr0 hr1
  go_enter Tryz.func3, Tryz.ntmps3
  go_wp2_with fail
  refine hlong.out.mono ?_
  rintro e w' ⟨rfl, rfl⟩
  go_wp2_with fail
  refine hreg.out.mono ?_
  rintro e w1 ⟨A, c, Rs, px, py, rfl, hown, ⟨hok, he18, hlen6⟩, hpt, hb1⟩
  obtain ⟨hl40, hpath, _⟩ := regOk_is hok
  have hrd : RegRd w1 w.heap.size w1.heap.size A Rs.length Rs := hown.rd (fun L hL => by have := hlen6 L hL; unfold maxLen; omega)
  have hal := Go.Joins.below_alloc2 w1 (.cells #[.slice A Rs.length c] 26 (0, 0)) (.cells #[.int .i64 px, .int .i64 py] 28 (0, 0))
  have hnw := heap_new2 w1 (.cells #[.slice A Rs.length c] 26 (0, 0)) (.cells #[.int .i64 px, .int .i64 py] 28 (0, 0))
  have hz2 : ((w1.alloc (.cells #[.slice A Rs.length c] 26 (0, 0))).alloc (.cells #[.int .i64 px, .int .i64 py] 28 (0, 0))).heap.size = w1.heap.size + 2 := by simp
  have hrd2 := Lib.hid (hrd.frame good_ring (Below.sameB hal (Nat.le_refl _)))
  have hB2 := Lib.hid (hb1.trans (hal.mono hb1.size))
  have hz1 := hb1.size
  obtain ⟨n, hn⟩ : ∃ n, n = Rs.length := ⟨_, rfl⟩
  rw [← hn] at hl40 hrd hnw hz2 hrd2 hB2 ⊢
  have hnR : n ≤ Rs.length ∧ Rs.length ≤ n := by omega
  have hnH := Lib.hid hn
  clear hn
  go_upto_region 4 with fail
  clear hreg hlong hown hrd hal
  generalize (w1.alloc (.cells #[.slice A n c] 26 (0, 0))).alloc (.cells #[.int .i64 px, .int .i64 py] 28 (0, 0)) = w2 at *
  obtain ⟨X, hX⟩ : ∃ X, X = w1.heap.size := ⟨_, rfl⟩
  rw [← hX] at hnw hz2 hz1 hrd2 ⊢
  obtain ⟨hX0, hP0⟩ := hnw
  replace hP0 : PB w2 (X + 1) px py := hP0
  have hs2 : X + 2 ≤ w2.heap.size := by omega
  have hXH := Lib.hid hX
  clear hX hz2
  have hty := Lib.hid (TidyRegion_any A n c _ _ Rs w2 hrd2.out (by omega) hok)
  have htok := tidy_ok hok
  obtain ⟨T, hT⟩ : ∃ T, T = tidyR Rs := ⟨_, rfl⟩
  have harea : Hid (sumE crossE (regE T) = sumE crossE (regE Rs)) := Lib.hid (by rw [hT]; exact tidy_area Rs)
  have hwind : Hid (sumE (wndE (px, py)) (regE T) = sumE (wndE (px, py)) (regE Rs)) := Lib.hid (by rw [hT]; exact tidy_wind _ Rs)
  have hoff : Hid ((allE Rs Rs.length).any (thrB px py) = false → (allE T T.length).any (thrB px py) = false) := Lib.hid fun h => by
    rw [hT]
    exact (any_off (p := (px, py))).2 (tidy_off Rs ((any_off (p := (px, py))).1 h))
  rw [← hT] at hty htok
  obtain ⟨m, hm⟩ : ∃ m, m = T.length := ⟨_, rfl⟩
  rw [← hm] at hty
  have hm40 : m ≤ 40 := by rw [hm]; exact (regOk_is htok).1
  have x0 : w2.cell? ⟨X, 0, none⟩ = some (.slice A n c) := by rw [Go.Joins.cell_of_block hX0]; rfl
  have xl : X < w2.heap.size := by omega
  have hX0H := Lib.hid hX0
  have hP0H := Lib.hid hP0
  replace hT := Lib.hid hT
  replace hm := Lib.hid hm
  replace hok := Lib.hid hok
  replace htok := Lib.hid htok
  replace hpath := Lib.hid hpath
  replace hlen6 := Lib.hid hlen6
  replace hpt := Lib.hid hpt
  clear hX0 hP0
  go_upto_region 5 with (go_at_call 6; refine hty.out.mono ?_; rintro e w3 ⟨A2, c2, rfl, hrd3, hb3⟩; replace hrd3 := Lib.hid hrd3; replace hb3 := Lib.hid hb3; clear x0)
  have hs3 := hb3.out.size
  have hal := Go.Joins.below_alloc1 w3 (.cells #[.slice A2 m c2] 26 (0, 0))
  have hX7 := heap_alloc_new w3 (.cells #[.slice A2 m c2] 26 (0, 0))
  have hz4 : (w3.alloc (.cells #[.slice A2 m c2] 26 (0, 0))).heap.size = w3.heap.size + 1 := by simp
  have hb4 := Lib.hid (hb3.out.trans (hal.mono hs3))
  have hrt4 := Lib.hid (hrd3.out.frame good_ring (Below.sameB hal (Nat.le_refl _)))
  have hrr4 := Lib.hid (hrd2.out.frame good_ring (Below.sameB hb4.out (by omega)))
  generalize w3.alloc (.cells #[.slice A2 m c2] 26 (0, 0)) = w4 at *
  generalize w3.heap.size = Z at *
  have hX4 := Lib.hid ((hb4.out.block X xl).trans hX0H.out)
  have hP4 := Lib.hid (hP0H.out.below hb4.out)
  have hX7H := Lib.hid hX7
  have hs4 : w2.heap.size ≤ Z ∧ Z + 1 ≤ w4.heap.size := by omega
  have hB4 := Lib.hid (hB2.out.trans (hb4.out.mono (by omega)))
  have x0 : w4.cell? ⟨X, 0, none⟩ = some (.slice A n c) := by rw [Go.Joins.cell_of_block hX4.out]; rfl
  have xl4 : X < w4.heap.size := by omega
  obtain ⟨ar, har⟩ : ∃ a, a = sumE crossE (regE Rs) := ⟨_, rfl⟩
  have hsa := Lib.hid (specAreaTwice_any A n c _ _ Rs w4 hrr4.out (by omega) hok.out)
  have hia := Lib.hid (fun W (h : Below w4.heap.size w4 W) => implAreaTwice_any A2 m c2 _ _ T W (hrt4.out.frame good_ring (Below.sameB h (by omega))) (by have := h.size; omega) htok.out)
  rw [← har] at hsa
  rw [harea.out, ← har] at hia
  replace har := Lib.hid har
  clear hty hal hX7 hz4 hb3 hrd3 hX0H hP0H hrd2 hb4 hB2
  go_upto_region 9 with (first | (go_at_call 7; refine hsa.out.mono ?_; rintro e w5 ⟨rfl, hb5⟩; have x7 : w5.cell? ⟨Z, 0, none⟩ = some (.slice A2 m c2) := (by rw [Go.Joins.cell_of_block ((hb5.block Z (by omega)).trans hX7H.out)]; rfl); have zl5 : Z < w5.heap.size := (by have := hb5.size; omega); have hb5H := Lib.hid hb5; clear x0 hb5) | (go_at_call 8; refine (hia.out _ hb5H.out).mono ?_; rintro e w6 ⟨rfl, hb6⟩; have hb6H := Lib.hid (hb5H.out.trans (hb6.mono hb5H.out.size)); clear x7 hb6))
  have hs6 := hb6H.out.size
  have hX6 := Lib.hid ((hb6H.out.block X xl4).trans hX4.out)
  have hZ6 := Lib.hid ((hb6H.out.block Z (by omega)).trans hX7H.out)
  have hP6 := Lib.hid (hP4.out.below hb6H.out)
  have hrr6 := Lib.hid (hrr4.out.frame good_ring (Below.sameB hb6H.out (by omega)))
  have hrt6 := Lib.hid (hrt4.out.frame good_ring (Below.sameB hb6H.out (by omega)))
  have hB6 := Lib.hid (hB4.out.trans (hb6H.out.mono (by omega)))
  have x6 : w6.cell? ⟨X, 0, none⟩ = some (.slice A n c) := by rw [Go.Joins.cell_of_block hX6.out]; rfl
  obtain ⟨p60, p61, _, pl6⟩ := hP6.out.cells
  have xl6 : X < w6.heap.size := by omega
  clear hsa hia hb6H hb5H hX4 hX7H hP4 hrr4 hrt4 hB4
  obtain ⟨on1, hon1⟩ : ∃ b, b = (allE Rs Rs.length).any (thrB px py) := ⟨_, rfl⟩
  obtain ⟨on2, hon2⟩ : ∃ b, b = (allE T T.length).any (thrB px py) := ⟨_, rfl⟩
  obtain ⟨sw, hsw⟩ : ∃ s, s = sumE (wndE (px, py)) (regE Rs) := ⟨_, rfl⟩
  have hw1 := Lib.hid (specWindingOf_any A n c _ _ Rs px py on1 hon1 w6 hrr6.out (by omega) hok.out hpt.out)
  have hw2 := Lib.hid (fun W (h : Below w6.heap.size w6 W) => specWindingOf_any A2 m c2 _ _ T px py on2 hon2 W (hrt6.out.frame good_ring (Below.sameB h (by omega))) (by have := h.size; omega) htok.out hpt.out)
  rw [← hsw] at hw1
  rw [hwind.out, ← hsw] at hw2
  have hon : on1 = false → on2 = false := fun h => by rw [hon2]; exact hoff.out (by rw [← hon1]; exact h)
  replace hsw := Lib.hid hsw
  replace hon1 := Lib.hid hon1
  replace hon2 := Lib.hid hon2
  replace hon := Lib.hid hon
  obtain ⟨v1, hv1⟩ : ∃ v, v = (if on1 = true then 0 else sw) := ⟨_, rfl⟩
  obtain ⟨v2, hv2⟩ : ∃ v, v = (if on2 = true then 0 else sw) := ⟨_, rfl⟩
  obtain ⟨b1, hb1'⟩ : ∃ b, b = !on1 := ⟨_, rfl⟩
  obtain ⟨b2, hb2'⟩ : ∃ b, b = !on2 := ⟨_, rfl⟩
  have hkey : Hid (b1 = true → b2 = true ∧ v1 = v2) := Lib.hid fun h => by
    have h1 : on1 = false := by rw [hb1'] at h; simpa using h
    have h2 := hon.out h1
    rw [hb2', hv1, hv2, h1, h2]
    exact ⟨rfl, rfl⟩
  rw [← hv1, ← hb1'] at hw1
  rw [← hv2, ← hb2'] at hw2
  clear hv1 hv2 hb1' hb2' hon
  go_upto_region 11 with (first | (go_at_call 9; refine hw1.out.mono ?_; rintro e w7 ⟨rfl, hb7⟩; have x7 : w7.cell? ⟨Z, 0, none⟩ = some (.slice A2 m c2) := (by rw [Go.Joins.cell_of_block ((hb7.block Z (by omega)).trans hZ6.out)]; rfl); have zl7 : Z < w7.heap.size := (by have := hb7.size; omega); obtain ⟨p70, p71, _, pl7⟩ := PB.cells (hP6.out.below hb7); have hb7H := Lib.hid hb7; clear x6 p60 p61 pl6 xl6 hb7; replace hw1 := hb7H) | (go_at_call 9; refine (hw2.out _ hb7H.out).mono ?_; rintro e w8 ⟨rfl, hb8⟩; have hb8H := Lib.hid (hb7H.out.trans (hb8.mono hb7H.out.size)); clear x7 p70 p71 pl7 zl7 hb8))
  go_cut [80] (fun s80 wx => s80 = .bool false ∧ w8 = wx)
  case first =>
    cases b1 with
    | false =>
      go_wp2_with fail
      go_meet
      case rel => exact ⟨rfl, rfl⟩
    | true =>
      obtain ⟨h1, h2⟩ := hkey.out rfl
      subst h1 h2
      go_wp2_with fail
      go_meet
      case rel => exact ⟨by simp, rfl⟩
  obtain ⟨rfl, hwx⟩ := hcut
  subst hwx
  have hs8 := hb8H.out.size
  have hX8 := Lib.hid ((hb8H.out.block X (by omega)).trans hX6.out)
  have hrr8 := Lib.hid (hrr6.out.frame good_ring (Below.sameB hb8H.out (by omega)))
  have hB8 := Lib.hid (hB6.out.trans (hb8H.out.mono (by omega)))
  have x8 : w8.cell? ⟨X, 0, none⟩ = some (.slice A n c) := by rw [Go.Joins.cell_of_block hX8.out]; rfl
  have xl8 : X < w8.heap.size := by omega
  have hss := Lib.hid (sameShape_any A n c _ _ Rs w8 hrr8.out (by omega) hok.out (by omega))
  clear hX6 hZ6 hP6 hrr6 hrt6 hB6 hb8H hb7H hw1 hw2 hkey
  go_upto_region 14 with (go_at_call 10; refine hss.out.mono ?_; rintro e w9 ⟨sb, sk, rfl, hsk, hb9⟩; replace hsk := Lib.hid hsk; have hb9H := Lib.hid hb9; clear x8 xl8 hb9)
  go_cut [92] (fun s92 wx => s92 = .bool false ∧ w9 = wx)
  case first =>
    by_cases hk0 : sk = 0
    · have hsb := hsk.out hk0
      subst hsb
      have t1 : (sk == 0) = true := by simp [hk0]
      replace hk0 := Lib.hid hk0
      go_wp2_with fail
      go_meet
      case rel => exact ⟨by simp, rfl⟩
    · have t1 : (sk == 0) = false := by simp [hk0]
      clear hk0
      go_wp2_with fail
      go_meet
      case rel => exact ⟨by simp, rfl⟩
  obtain ⟨rfl, hwx⟩ := hcut
  subst hwx
  have hs9 := hb9H.out.size
  have hX9 := Lib.hid ((hb9H.out.block X (by omega)).trans hX8.out)
  have hrr9 := Lib.hid (hrr8.out.frame good_ring (Below.sameB hb9H.out (by omega)))
  have hB9 := Lib.hid (hB8.out.trans (hb9H.out.mono (by omega)))
  clear hX8 hrr8 hB8 hb9H hss
  go_upto_region 16 with fail
  have hat9 := Lib.hid (hat.out w9 hB9.out)
  go_upto_region 17 with (go_at_call 11; refine hat9.out.mono ?_; rintro e w10 ⟨r, rfl, hr0, hr1, rfl⟩; obtain ⟨t, ht⟩ : ∃ t, t = 1 + r := ⟨_, rfl⟩; have qt : IntKind.i64.wrap (1 + r) = t := (by rw [← ht]; exact wi (by omega)); have ht2 : 1 ≤ t ∧ t ≤ 5 := (by omega); clear ht)
  clear qt hr0 hr1 hat9 hat hsk
  go_wp2_with fail
  go_loopg [20] n (fun kx s20 wr => ∃ i : Nat, s20 = .int .i64 i ∧ i ≤ n ∧ n - i ≤ kx ∧ Below w9.heap.size w9 wr)
  case atStart => exact ⟨0, rfl, Nat.zero_le _, Nat.le_refl _, Below.refl _ _⟩
  case round =>
  obtain ⟨i, rfl, hi, hkx, hbx⟩ := hrel
  generalize wr = xr at *
  have hzx := hbx.size
  have hXx := (hbx.block X (by omega)).trans hX9.out
  have x10 : xr.cell? ⟨X, 0, none⟩ = some (.slice A n c) := by rw [Go.Joins.cell_of_block hXx]; rfl
  have xl10 : X < xr.heap.size := by omega
  by_cases hin : i < n
  rotate_left
  · have hii : ¬ (i : Int) < (n : Int) := by omega
    have hbxH := Lib.hid (hB9.out.trans (hbx.mono (by omega)))
    clear hbx hXx
    go_wp2_with fail
    go_ret
    exact ⟨rfl, hbxH.out⟩
  have hii : (i : Int) < (n : Int) := by omega
  have i1 : (0 : Int) ≤ (i : Int) ∧ (i : Int) < (n : Int) := by omega
  have hrrx := hrr9.out.frame good_ring (Below.sameB hbx (by omega))
  obtain ⟨b, off, K, AK, nK, cK, hAb, hb1', hb, hja, q0, hmx, hrk⟩ := reg_at hrrx hin
  subst hAb
  have hbw : b < xr.heap.size := by omega
  have hKp := hpath.out K (List.mem_of_getElem? hja)
  have hK6 := hlen6.out K (List.mem_of_getElem? hja)
  have hK1 := (path_len hKp).1
  have hnK := hrk.1
  subst hnK
  obtain ⟨bK, oK, rfl, hbK1, hbK2, hKc⟩ := hrk.pts (by omega)
  obtain ⟨g0, g1⟩ := hKc 0 (by omega)
  simp only [Nat.zero_mul, Nat.add_zero] at g0 g1
  obtain ⟨⟨kx, ky⟩, hp0⟩ : ∃ p, p = ptAt K 0 := ⟨_, rfl⟩
  rw [← hp0] at g0 g1
  dsimp only at g0 g1
  have hth := Lib.hid (thinRing_any t ht2.1 (by omega) (some ⟨bK, oK, none⟩) K.length cK _ _ K xr hrk (by omega) hKp)
  rw [← hp0] at hth
  have hKcH := Lib.hid hKc
  have hXxH := Lib.hid hXx
  have hbxH := Lib.hid hbx
  have hrkH := Lib.hid hrk
  obtain ⟨l, hl⟩ : ∃ l, l = K.length := ⟨_, rfl⟩
  rw [← hl] at hth q0 hK6 hK1
  replace hl := Lib.hid hl
  replace hKp := Lib.hid hKp
  replace hja := Lib.hid hja
  replace hp0 := Lib.hid hp0
  clear hKc hXx hbx hrrx hrk hmx
  go_upto_region 21 with (go_at_call 12; refine hth.out.mono ?_; rintro e w11 ⟨R, A3, c3, rfl, ho3, hg3, hb11⟩; replace ho3 := Lib.hid ho3; replace hg3 := Lib.hid hg3; have hb11H := Lib.hid hb11; have q11 := (hb11.cell (p := ⟨b, off + i, none⟩) hbw).trans q0; have g10 := (hb11.cell (p := ⟨bK, oK, none⟩) (by show bK < xr.heap.size; omega)).trans g0; have g11 := (hb11.cell (p := ⟨bK, oK + 1, none⟩) (by show bK < xr.heap.size; omega)).trans g1; have x11 := (hb11.cell (p := ⟨X, 0, none⟩) xl10).trans x10; clear x10 q0 g0 g1 hb11)
  have hs11 := hb11H.out.size
  obtain ⟨z, hz⟩ : ∃ z, z = R.length + 1 := ⟨_, rfl⟩
  have hzl : 1 ≤ z ∧ z ≤ l := by
    have h1 := hg3.out.1
    rw [clo_length, ← hl.out] at h1
    omega
  have hRz : R.length + 1 ≤ z ∧ z ≤ R.length + 1 := by omega
  rw [← hz] at ho3 ⊢
  obtain ⟨g3, hg3A, hg3a, hg3b, _⟩ := own_at ho3.out (by omega)
  subst hg3A
  have c30 := (ho3.out.cellAt 0 (by omega)).trans (show ((((kx, ky) : Pnt) :: R).flatMap ptC)[0]? = some (.int .i64 kx) from rfl)
  have c31 := (ho3.out.cellAt 1 (by omega)).trans (show ((((kx, ky) : Pnt) :: R).flatMap ptC)[1]? = some (.int .i64 ky) from rfl)
  have hal := Go.Joins.below_alloc1 w11 (.cells #[.slice (some ⟨g3, 0, none⟩) z c3] 42 (0, 0))
  have hQ0 := heap_alloc_new w11 (.cells #[.slice (some ⟨g3, 0, none⟩) z c3] 42 (0, 0))
  have hzz : (w11.alloc (.cells #[.slice (some ⟨g3, 0, none⟩) z c3] 42 (0, 0))).heap.size = w11.heap.size + 1 := by simp
  have q12 := (hal.cell (p := ⟨b, off + i, none⟩) (by show b < w11.heap.size; omega)).trans q11
  have g20 := (hal.cell (p := ⟨bK, oK, none⟩) (by show bK < w11.heap.size; omega)).trans g10
  have g21 := (hal.cell (p := ⟨bK, oK + 1, none⟩) (by show bK < w11.heap.size; omega)).trans g11
  have x12 := (hal.cell (p := ⟨X, 0, none⟩) (by show X < w11.heap.size; omega)).trans x11
  have c20 := (hal.cell (p := ⟨g3, 0, none⟩) hg3b).trans c30
  have c21 := (hal.cell (p := ⟨g3, 1, none⟩) hg3b).trans c31
  have ho12 := Lib.hid (own_below ho3.out hal)
  have hbX12 := Lib.hid (hb11H.out.trans (hal.mono hs11))
  have hb12 := Lib.hid (hbxH.out.trans ((hb11H.out.trans (hal.mono hs11)).mono hzx))
  clear q11 g10 g11 x11 c30 c31 ho3 hb11H hal hth
  replace hz := Lib.hid hz
  generalize w11.alloc (.cells #[.slice (some ⟨g3, 0, none⟩) z c3] 42 (0, 0)) = w12 at *
  obtain ⟨Q, hQ⟩ : ∃ Q, Q = w11.heap.size := ⟨_, rfl⟩
  rw [← hQ] at hQ0 hzz hg3b hs11 ⊢
  have qc : w12.cell? ⟨Q, 0, none⟩ = some (.slice (some ⟨g3, 0, none⟩) z c3) := by rw [Go.Joins.cell_of_block hQ0]; rfl
  have hs12 : Q + 1 ≤ w12.heap.size ∧ xr.heap.size ≤ Q := by omega
  have hQ0H := Lib.hid hQ0
  have e1 : Q < w12.heap.size := by omega
  have e2 : X < w12.heap.size := by omega
  have e3 : b < w12.heap.size := by omega
  have e4 : bK < w12.heap.size := by omega
  have e5 : g3 < w12.heap.size := by omega
  replace hQ := Lib.hid hQ
  clear hQ0 hzz
  go_cut [148] (fun s148 wx => s148 = .bool false ∧ Below w12.heap.size w12 wx)
  case first =>
    have tz : ((z : Int) == 0) = false := by simp; omega
    have tz2 : ¬ (z : Int) = 0 := by omega
    have tl : decide ((l : Int) < (z : Int)) = false := decide_eq_false (by omega)
    have tl2 : decide (l < z) = false := decide_eq_false (by omega)
    have i2 : (0 : Int) ≤ 0 ∧ (0 : Int) < (z : Int) := by omega
    have i3 : (0 : Int) ≤ 0 ∧ (0 : Int) < (l : Int) := by omega
    have x12' := fun dr os => cell_regrown x12 dr os
    have q12' := fun dr os => cell_regrown q12 dr os
    have g20' := fun dr os => cell_regrown g20 dr os
    have g21' := fun dr os => cell_regrown g21 dr os
    have c20' := fun dr os => cell_regrown c20 dr os
    have c21' := fun dr os => cell_regrown c21 dr os
    have qc' := fun dr os => cell_regrown qc dr os
    refine wp_region_quiet_below (by kernel_rfl) (by kernel_rfl) ?_
    repeat (go_big_quiet_step (fail))
    refine wpQuiet_nil ?_
    intro _ hw'
    obtain ⟨⟨dq, osq⟩, hw''⟩ := hw'
    subst hw''
    have hb9 := below_regrown w12 dq osq
    go_wp2_with fail
    go_meet
    case rel => exact ⟨by first | rfl | simp, hb9⟩
  obtain ⟨rfl, hb21⟩ := hcut
  generalize wc = w13 at *
  have hs13 := hb21.size
  have qc13 := (hb21.cell (p := ⟨Q, 0, none⟩) e1).trans qc
  have c13a := (hb21.cell (p := ⟨g3, 0, none⟩) e5).trans c20
  have c13b := (hb21.cell (p := ⟨g3, 1, none⟩) e5).trans c21
  have ho13 := Lib.hid (own_below ho12.out hb21)
  have hb13 := Lib.hid (hb12.out.trans (hb21.mono (by omega)))
  have hbX13 := Lib.hid (hbX12.out.trans (hb21.mono (by omega)))
  have hx13 := Lib.hid ((hb21.cell (p := ⟨X, 0, none⟩) e2).trans x12)
  have hq13 := Lib.hid ((hb21.cell (p := ⟨b, off + i, none⟩) e3).trans q12)
  have hQ13 := Lib.hid ((hb21.block Q e1).trans hQ0H.out)
  have hsT := Lib.hid (src_own ho13.out (fun u hu => ptc_oneL _ u hu))
  clear qc c20 c21 g20 g21 x12 q12 hb21 ho12 hb12
  have qf13 : Q < w13.heap.size := by omega
  have hz1000 : z ≤ 1000 := by omega
  have hxr13 : xr.heap.size ≤ w13.heap.size := by omega
  have hg313 : g3 < w13.heap.size := by omega
  go_wp2_with (first | (at_builtin; refine wpApp rfl (.tmp 149) (.tmp 151) elemPt rfl (base := w13.heap.size) (v := .slice (some ⟨w13.heap.size, 0, none⟩) 0 0) rfl (World.ownsRow_made w13 #[] 0 (Nat.le_refl _) (Nat.zero_le _) rfl) rfl (src_new0 hsT.out _) (by omega) (by omega) (by simp) z (by omega) ?_; intro A6 c6 w14 ho14 hb14; have hB14 := (Go.Joins.below_alloc1 w13 (.cells #[] 28 (0, 0))).trans hb14; have qc14 := (hB14.cell (p := ⟨Q, 0, none⟩) qf13).trans qc13; have c14a := (hB14.cell (p := ⟨g3, 0, none⟩) hg313).trans c13a; have c14b := (hB14.cell (p := ⟨g3, 1, none⟩) hg313).trans c13b; have hs14 := hB14.size; have qf14 : Q < w14.heap.size := (by omega); have gl14 : g3 < w14.heap.size := (by omega); replace ho14 := Lib.hid ho14; replace hB14 := Lib.hid hB14; clear qc13 c13a c13b hb14) | (at_builtin; refine wpApp rfl (.tmp 153) (.tmp 158) elemPt rfl (base := w13.heap.size) (v := .slice A6 z c6) (n := z) (xs := [] ++ (((kx, ky) : Pnt) :: R).flatMap ptC) rfl (ho14.out.alloc _) rfl (src_at (cs := [.int .i64 kx, .int .i64 ky]) rfl (by simp [Value.oneCell']) (by first | rfl | simp)) (by omega) (by omega) (by first | omega | (simp; omega)) (z + 1) rfl ?_; intro A7 c7 w15 ho15 hb15; replace ho15 := Lib.hid ho15; have hB15 := Lib.hid ((hB14.out.alloc hs14 (.cells #[.int .i64 kx, .int .i64 ky] 28 (0, 0))).trans hb15); clear qc14 c14a c14b hb15))
  have hs15 := hB15.out.size
  obtain ⟨P, hP⟩ : ∃ P : List Pnt, P = (((kx, ky) :: R) ++ [(kx, ky)]) := ⟨_, rfl⟩
  have hPr := Lib.hid (show RdS 2 (FlatR ptC) w15 w13.heap.size w15.heap.size A7 (z + 1) P from rdS_own ptC_len (by omega) (by have h := ho15.out; rw [hP, List.flatMap_append]; exact h) (by rw [hP]; simp; omega))
  have hX15 := Lib.hid ((hB15.out.cell (p := ⟨X, 0, none⟩) (by show X < w13.heap.size; omega)).trans hx13.out)
  have hq15 := Lib.hid ((hB15.out.cell (p := ⟨b, off + i, none⟩) (by show b < w13.heap.size; omega)).trans hq13.out)
  have hbX15 := Lib.hid (hbX13.out.trans (hB15.out.mono hxr13))
  have hb15' := Lib.hid (hb13.out.trans (hB15.out.mono (by omega)))
  have hnear : Hid (∀ p ∈ K, nearOk P p.1 p.2 t = true) := Lib.hid fun p hp => by
    have hp00 := hp0.out
    rw [hP, hp00]
    have hg := hg3.out
    exact thin_near hKp.out (by have := hl.out; omega) hg ht2.1 (by omega) hp
  replace hP := Lib.hid hP
  clear ho15 hB14 hB15 ho14 ho13 hx13 hq13 hQ13 hsT hb13 hbX13 hbX12 hg3
  go_loopg [24] l (fun ky9 s24 wr => ∃ k : Nat, s24 = .int .i64 k ∧ k ≤ l ∧ l - k ≤ ky9 ∧ Below w15.heap.size w15 wr)
  case atStart => exact ⟨0, rfl, Nat.zero_le _, Nat.le_refl _, Below.refl _ _⟩
  case round =>
  obtain ⟨k, rfl, hk, hkx9, hby⟩ := hrel
  generalize wr = yr at *
  have hzy := hby.size
  have xy := (hby.cell (p := ⟨X, 0, none⟩) (by show X < w15.heap.size; omega)).trans hX15.out
  have qy := (hby.cell (p := ⟨b, off + i, none⟩) (by show b < w15.heap.size; omega)).trans hq15.out
  have xly : X < yr.heap.size := by omega
  have bly : b < yr.heap.size := by omega
  by_cases hkl : k < l
  rotate_left
  · have hki : ¬ (k : Int) < (l : Int) := by omega
    have hbyH := Lib.hid (hb15'.out.trans (hby.mono (by omega)))
    clear hby
    go_wp2_with fail
    go_roundg (n - (i + 1))
    case measure => omega
    case rel => exact ⟨i + 1, by go_num, by omega, Nat.le_refl _, hbyH.out⟩
  have hki : (k : Int) < (l : Int) := by omega
  have i2 : (0 : Int) ≤ (k : Int) ∧ (k : Int) < (l : Int) := by omega
  obtain ⟨d0, d1⟩ := hKcH.out k (by have := hl.out; omega)
  obtain ⟨⟨ax, ay⟩, hap⟩ : ∃ p, p = ptAt K k := ⟨_, rfl⟩
  rw [← hap] at d0 d1
  dsimp only at d0 d1
  have hbXy := hbX15.out.trans (hby.mono (by omega))
  have d0' := (hbXy.cell (p := ⟨bK, oK + k * 2, none⟩) (by show bK < xr.heap.size; omega)).trans d0
  have d1' := (hbXy.cell (p := ⟨bK, oK + k * 2 + 1, none⟩) (by show bK < xr.heap.size; omega)).trans d1
  have bKl : bK < yr.heap.size := by omega
  have hnp := hnear.out (ptAt K k) (pt_mem (by have := hl.out; omega))
  rw [← hap] at hnp
  have hnc := Lib.hid (specNearPath_any A7 (z + 1) c7 _ _ P ax ay t true hnp.symm yr (hPr.out.frame (good_flat _) (Below.sameB hby (Nat.le_refl _))) (by omega) (by omega))
  have hbyH := Lib.hid hby
  replace hap := Lib.hid hap
  replace hnp := Lib.hid hnp
  clear d0 d1 hby hbXy
  go_wp2_with (go_at_call 13; refine hnc.out.mono ?_; rintro e w16 ⟨rfl, hb16⟩; replace hb16 := Lib.hid hb16)
  go_roundg (l - (k + 1))
  case measure => omega
  case rel => exact ⟨k + 1, by go_num, by omega, Nat.le_refl _, hbyH.out.trans (hb16.out.mono hzy)⟩
end Go.Proofs.YtlifiioflkhkoaaGreat

