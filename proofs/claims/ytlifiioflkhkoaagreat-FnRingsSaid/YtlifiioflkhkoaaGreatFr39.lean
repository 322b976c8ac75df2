/- Net edges: the program's side. Printed by mk_ne2.py. Conditions: as each states. -/
import Derived.Test.YtlifiioflkhkoaaGreatFr38
import Derived.Test.YtlifiioflkhkoaaGreatFr20
namespace Go.Proofs.YtlifiioflkhkoaaGreat
open Go.RowKit
set_option linter.unusedVariables false
set_option maxRecDepth 100000
set_option linter.unusedSimpArgs false

def swapE (p : Leg) : Leg := (p.2, p.1)
def oneN (p e : Leg) : Int := if e = p then 1 else if e = swapE p then -1 else 0
def netN (p : Leg) (E : List Leg) : Int := sumE (oneN p) E
def othE (p : Leg) (E : List Leg) : List Leg := E.filter fun e => !decide (e = p) && !decide (e = swapE p)
def midW (p : Leg) (E : List Leg) : Int := windF (othE p E) (p.1.1 + p.2.1, p.1.2 + p.2.2)
/-- the winding numbers on both sides of a pair -/
def sidesF (p : Leg) (E : List Leg) : Int × Int := if p.1.2 = p.2.2 then (midW p E, midW p E - netN p E) else (midW p E + netN p E, midW p E)
theorem oth_yes {p e : Leg} {E : List Leg} {k : Nat} (h : E[k]? = some e) (h1 : ¬ e = p) (h2 : ¬ e = swapE p) : othE p (E.take (k + 1)) = othE p (E.take k) ++ [e] := by
  unfold othE
  rw [List.take_add_one, h, List.filter_append]
  simp [h1, h2]
theorem oth_no {p e : Leg} {E : List Leg} {k : Nat} (h : E[k]? = some e) (h1 : e = p ∨ e = swapE p) : othE p (E.take (k + 1)) = othE p (E.take k) := by
  unfold othE
  rw [List.take_add_one, h, List.filter_append]
  rcases h1 with h1 | h1 <;> simp [h1]
theorem oth_ok {p : Leg} {E : List Leg} (h : EOk E) : EOk (othE p E) := fun e he => h e (List.mem_filter.1 he).1
theorem cells7 {w : World} {b : Nat} {x0 x1 x2 x3 x4 x5 x6 : Int} {t : TypeId} (h : w.heap[b]? = some (.cells #[.int .i64 x0, .int .i64 x1, .int .i64 x2, .int .i64 x3, .int .i64 x4, .int .i64 x5, .int .i64 x6] t (0, 0))) : w.cell? ⟨b, 0, none⟩ = some (.int .i64 x0) ∧ w.cell? ⟨b, 1, none⟩ = some (.int .i64 x1) ∧ w.cell? ⟨b, 2, none⟩ = some (.int .i64 x2) ∧ w.cell? ⟨b, 3, none⟩ = some (.int .i64 x3) ∧ w.cell? ⟨b, 4, none⟩ = some (.int .i64 x4) ∧ w.cell? ⟨b, 5, none⟩ = some (.int .i64 x5) ∧ w.cell? ⟨b, 6, none⟩ = some (.int .i64 x6) ∧ (∀ o, w.frozen? ⟨b, o, none⟩ = false) ∧ b < w.heap.size :=
  ⟨by rw [Go.Joins.cell_of_block h]; rfl, by rw [Go.Joins.cell_of_block h]; rfl, by rw [Go.Joins.cell_of_block h]; rfl, by rw [Go.Joins.cell_of_block h]; rfl, by rw [Go.Joins.cell_of_block h]; rfl, by rw [Go.Joins.cell_of_block h]; rfl, by rw [Go.Joins.cell_of_block h]; rfl, Go.Joins.unfrozen_of_block h, (Array.getElem?_eq_some_iff.1 h).1⟩

set_option maxHeartbeats 32000000 in
theorem netEdge_any (A : Option Addr) (n c lo hi : Nat) (E : List Leg) (p : Leg) (s0 l r : Int) (hs0 : s0 = netN p E) (hlr : (l, r) = sidesF p E) (w : World) (hr : RdS 4 (FlatR edgeC) w lo hi A n E) (hhi : hi ≤ w.heap.size) (hn : n ≤ 1000) (hok : EOk E) (hp : pt2Ok p.1 = true ∧ pt2Ok p.2 = true) :
    Calls Tryz.prog 98 #[.slice A n c, .agg (edgeC p).toArray] w fun e w' => e = .returned (.agg #[.int .i64 p.1.1, .int .i64 p.1.2, .int .i64 p.2.1, .int .i64 p.2.2, .int .i64 s0, .int .i64 l, .int .i64 r]) ∧ Below w.heap.size w w' := by
  have hll := Lib.hid hr.1
  replace hok := Lib.hid hok
  replace hlr := Lib.hid hlr
  obtain ⟨o1, o2, o3, o4⟩ := pt_bd hp.1
  obtain ⟨o5, o6, o7, o8⟩ := pt_bd hp.2
  have hpe : ∃ p', p' = p := ⟨_, rfl⟩
  obtain ⟨⟨ax, ay⟩, bx, ey⟩ := p
  obtain ⟨p, hpe⟩ : ∃ p : Leg, p = ((ax, ay), (bx, ey)) := ⟨_, rfl⟩
  rw [← hpe] at hlr hs0
  replace hs0 := Lib.hid hs0
  have hpeH := Lib.hid hpe
  dsimp only at o1 o2 o3 o4 o5 o6 o7 o8
  simp only [edgeC]
  obtain ⟨mx, hmx⟩ : ∃ m, m = ax + bx := ⟨_, rfl⟩
  obtain ⟨my, hmy⟩ : ∃ m, m = ay + ey := ⟨_, rfl⟩
  have qx : IntKind.i64.wrap (ax + bx) = mx := by rw [← hmx]; exact wi (by omega)
  have qy : IntKind.i64.wrap (ay + ey) = my := by rw [← hmy]; exact wi (by omega)
  have hD : Hid (Dbl mx ∧ Dbl my) := Lib.hid (by unfold Dbl; omega)
  have hmid : Hid (midW p E = windF (othE p E) (mx, my)) := Lib.hid (by unfold midW; rw [hpe, hmx, hmy])
  have hsd : Hid ((ay = ey → l = midW p E ∧ r = midW p E - netN p E) ∧ (¬ ay = ey → l = midW p E + netN p E ∧ r = midW p E)) := by
    refine Lib.hid ⟨fun h => ?_, fun h => ?_⟩
    · have h2 := hlr.out
      unfold sidesF at h2
      rw [if_pos (by rw [hpe]; exact h)] at h2
      injection h2 with h3 h4
      exact ⟨h3, h4⟩
    · have h2 := hlr.out
      unfold sidesF at h2
      rw [if_neg (by rw [hpe]; exact h)] at h2
      injection h2 with h3 h4
      exact ⟨h3, h4⟩
  have hsw : Hid (swapE p = ((bx, ey), (ax, ay))) := Lib.hid (by rw [hpe]; rfl)
  clear hpe hmx hmy o1 o2 o3 o4 o5 o6 o7 o8 hp hlr
  have hb0 : Below w.heap.size w (((w.alloc (.cells #[.int .i64 ax, .int .i64 ay, .int .i64 bx, .int .i64 ey] 78 (0, 0))).alloc (.cells #[.int .i64 0, .int .i64 0, .int .i64 0, .int .i64 0, .int .i64 0, .int .i64 0, .int .i64 0] 135 (0, 0))).alloc (.cells #[.int .i64 ax, .int .i64 ay, .int .i64 bx, .int .i64 ey, .int .i64 0, .int .i64 0, .int .i64 0] 135 (0, 0))) := (Go.Joins.below_alloc2 w _ _).alloc (by simp; omega) _
  have hnew := heap_new0 w (.cells #[.int .i64 ax, .int .i64 ay, .int .i64 bx, .int .i64 ey] 78 (0, 0)) (.cells #[.int .i64 0, .int .i64 0, .int .i64 0, .int .i64 0, .int .i64 0, .int .i64 0, .int .i64 0] 135 (0, 0)) (.cells #[.int .i64 ax, .int .i64 ay, .int .i64 bx, .int .i64 ey, .int .i64 0, .int .i64 0, .int .i64 0] 135 (0, 0))
  have hz0 : (((w.alloc (.cells #[.int .i64 ax, .int .i64 ay, .int .i64 bx, .int .i64 ey] 78 (0, 0))).alloc (.cells #[.int .i64 0, .int .i64 0, .int .i64 0, .int .i64 0, .int .i64 0, .int .i64 0, .int .i64 0] 135 (0, 0))).alloc (.cells #[.int .i64 ax, .int .i64 ay, .int .i64 bx, .int .i64 ey, .int .i64 0, .int .i64 0, .int .i64 0] 135 (0, 0))).heap.size = w.heap.size + 3 := by simp
  have hr0 := Lib.hid (hr.frame (good_flat _) (Below.sameB hb0 hhi))
  clear hr
  go_enter Tryz.func98, Tryz.ntmps98
  go_upto_region 2 with fail
  generalize ((w.alloc (.cells #[.int .i64 ax, .int .i64 ay, .int .i64 bx, .int .i64 ey] 78 (0, 0))).alloc (.cells #[.int .i64 0, .int .i64 0, .int .i64 0, .int .i64 0, .int .i64 0, .int .i64 0, .int .i64 0] 135 (0, 0))).alloc (.cells #[.int .i64 ax, .int .i64 ay, .int .i64 bx, .int .i64 ey, .int .i64 0, .int .i64 0, .int .i64 0] 135 (0, 0)) = v0 at *
  obtain ⟨Y, hY⟩ : ∃ Y, Y = w.heap.size := ⟨_, rfl⟩
  rw [← hY] at hnew hz0 hhi ⊢
  obtain ⟨hP0, hR0, hG0⟩ := hnew
  have hv0 : v0.heap.size = Y + 3 := hz0
  have hYH := Lib.hid hY
  have hB0 := Lib.hid hb0
  replace hP0 := Lib.hid hP0
  replace hR0 := Lib.hid hR0
  replace hG0 := Lib.hid hG0
  clear hb0 hY hz0
  go_wp2_with fail
  go_loopg [6, 17] n (fun kx s6 s17 wr => ∃ (k q : Nat) (s : Int) (A1 : Option Addr) (c1 : Nat), s17 = .int .i64 k ∧ s6 = .slice A1 q c1 ∧ k ≤ n ∧ n - k ≤ kx ∧ q ≤ k ∧ Hid (s = netN p (E.take k)) ∧ -(k : Int) ≤ s ∧ s ≤ k ∧ Hid (q = (othE p (E.take k)).length) ∧ Hid (wr.heap[Y + 2]? = some (.cells #[.int .i64 ax, .int .i64 ay, .int .i64 bx, .int .i64 ey, .int .i64 s, .int .i64 0, .int .i64 0] 135 (0, 0))) ∧ Hid (wr.ownsRow (Y + 3) 78 4 (.slice A1 q c1) q ((othE p (E.take k)).flatMap edgeC)) ∧ Below (Y + 2) v0 wr)
  case atStart => exact ⟨0, 0, 0, none, 0, rfl, rfl, Nat.zero_le _, Nat.le_refl _, Nat.le_refl _, rfl, by omega, by omega, rfl, hG0, Lib.hid (World.ownsRow_nil _ _ _ _), Below.refl _ _⟩
  case round =>
  obtain ⟨k, q, s, A1, c1, rfl, rfl, hk, hkx, hqk, hs, hs1, hs2, hq, hG, hown, hbel⟩ := hrel
  generalize wr = xr at *
  have hzx := hbel.size
  have hPx := Lib.hid ((hbel.block Y (by omega)).trans hP0.out)
  have hRx := Lib.hid ((hbel.block (Y + 1) (by omega)).trans hR0.out)
  have hBx := Lib.hid (hB0.out.trans (hbel.mono (by have := hYH.out; omega)))
  by_cases hlt : k < n
  rotate_left
  · have hki : ¬ (k : Int) < (n : Int) := by omega
    have hkn : k = n := by omega
    rw [hkn, List.take_of_length_le (by have := hll.out; omega)] at hs hq hown
    obtain ⟨v, hv⟩ : ∃ v, v = windF (othE p E) (mx, my) := ⟨_, rfl⟩
    have hwc := Lib.hid (windingOf_any A1 q c1 _ _ _ mx my v hv xr (rdS_own edgeC_len (by omega) hown.out hq.out.symm) (Nat.le_refl _) (by omega) (oth_ok hok.out) hD.out)
    have hvm : Hid (v = midW p E) := Lib.hid (hv.trans hmid.out.symm)
    obtain ⟨e0, e1, e2, e3⟩ := leg_cells hPx.out
    have hPl : Y < xr.heap.size := by omega
    have hs9 : -1000 ≤ s ∧ s ≤ 1000 := by omega
    have hgsz := hPl
    clear hv hown hs1 hs2
    by_cases hye : ay = ey
    · obtain ⟨hl, hr9⟩ := hsd.out.1 hye
      rw [← hvm.out, ← hs.out] at hr9
      rw [← hvm.out] at hl
      replace hl := Lib.hid hl
      have hye2 : (ay == ey) = true := by simp [hye]
      have qd : -1000 ≤ v → v ≤ 1000 → IntKind.i64.wrap (v - s) = r := fun h1 h2 => by rw [wi (by omega)]; exact hr9.symm
      replace qd := Lib.hid qd
      replace hye := Lib.hid hye
      replace hr9 := Lib.hid hr9
      go_wp2_with (go_at_call 119; refine hwc.out.mono ?_; rintro e w1 ⟨rfl, hv1, hv2, hb1⟩; have hG1 := (hb1.block (Y + 2) (by omega)).trans hG.out; obtain ⟨k0, k1, k2, k3, k4, k5, k6, kf, kl⟩ := cells7 hG1; have hR1 := (hb1.block (Y + 1) (by omega)).trans hRx.out; obtain ⟨r0, r1, r2, r3, r4, r5, r6, rf, rl⟩ := cells7 hR1; have hP1 := (hb1.block Y (by omega)).trans hPx.out; obtain ⟨f0, f1, f2, f3⟩ := leg_cells hP1; have fl : Y < w1.heap.size := (by have := hb1.size; omega); have qd1 := qd.out (by omega) (by omega); have hG1H := Lib.hid hG1; have hR1H := Lib.hid hR1; have hb1H := Lib.hid hb1; clear e0 e1 e2 e3 hG1 hR1 hP1 hb1)
      have hR9 := hR1H.out
      have hB9 := hBx.out.trans (hb1H.out.mono (by have := hBx.out.size; omega))
      obtain ⟨W9, hW9⟩ : ∃ W, W = (((((((((w1.setCell ⟨Y + 2, 5, none⟩ (.int .i64 v)).setCell ⟨Y + 2, 6, none⟩ (.int .i64 r)).setCell ⟨Y + 1, 0, none⟩ (.int .i64 ax)).setCell ⟨Y + 1, 1, none⟩ (.int .i64 ay)).setCell ⟨Y + 1, 2, none⟩ (.int .i64 bx)).setCell ⟨Y + 1, 3, none⟩ (.int .i64 ey)).setCell ⟨Y + 1, 4, none⟩ (.int .i64 s)).setCell ⟨Y + 1, 5, none⟩ (.int .i64 v)).setCell ⟨Y + 1, 6, none⟩ (.int .i64 r)) := ⟨_, rfl⟩
      have hR10 : W9.heap[Y + 1]? = some (.cells #[.int .i64 ax, .int .i64 ay, .int .i64 bx, .int .i64 ey, .int .i64 (s), .int .i64 v, .int .i64 (r)] 135 (0, 0)) := by
        rw [hW9]
        exact Go.Joins.block_setCell (i := 6) (Go.Joins.block_setCell (i := 5) (Go.Joins.block_setCell (i := 4) (Go.Joins.block_setCell (i := 3) (Go.Joins.block_setCell (i := 2) (Go.Joins.block_setCell (i := 1) (Go.Joins.block_setCell (i := 0) ((Below.heap_setCell _ _ _ _ (by show Y + 1 ≠ Y + 2; omega)).trans ((Below.heap_setCell _ _ _ _ (by show Y + 1 ≠ Y + 2; omega)).trans hR9)) (.int .i64 ax)) (.int .i64 ay)) (.int .i64 bx)) (.int .i64 ey)) (.int .i64 s)) (.int .i64 v)) (.int .i64 r)
      have hB10 : Below w.heap.size w W9 := by
        have hw1 : w.heap.size ≤ Y + 1 := by have := hYH.out; omega
        have hw2 : w.heap.size ≤ Y + 2 := by omega
        rw [hW9]
        exact ((((((((hB9.setCell hw2 _).setCell hw2 _).setCell hw1 _).setCell hw1 _).setCell hw1 _).setCell hw1 _).setCell hw1 _).setCell hw1 _).setCell hw1 _
      rw [← hW9]
      clear hW9
      obtain ⟨g0, g1, g2, g3, g4, g5, g6, _, _⟩ := cells7 hR10
      refine bodyPost_ret (v := .agg #[.int .i64 ax, .int .i64 ay, .int .i64 bx, .int .i64 ey, .int .i64 s, .int .i64 v, .int .i64 r]) (by simp [results, Tryz.results98, go_sem, g0, g1, g2, g3, g4, g5, g6]) rfl ⟨by rw [hl.out, show s0 = s from hs0.out.trans hs.out.symm], hB10⟩
    · obtain ⟨hl, hr9⟩ := hsd.out.2 hye
      rw [← hvm.out, ← hs.out] at hl
      rw [← hvm.out] at hr9
      replace hr9 := Lib.hid hr9
      have hye2 : (ay == ey) = false := by simp [hye]
      have qd : -1000 ≤ v → v ≤ 1000 → IntKind.i64.wrap (v + s) = l := fun h1 h2 => by rw [wi (by omega)]; exact hl.symm
      replace qd := Lib.hid qd
      replace hye := Lib.hid hye
      replace hl := Lib.hid hl
      go_wp2_with (go_at_call 119; refine hwc.out.mono ?_; rintro e w1 ⟨rfl, hv1, hv2, hb1⟩; have hG1 := (hb1.block (Y + 2) (by omega)).trans hG.out; obtain ⟨k0, k1, k2, k3, k4, k5, k6, kf, kl⟩ := cells7 hG1; have hR1 := (hb1.block (Y + 1) (by omega)).trans hRx.out; obtain ⟨r0, r1, r2, r3, r4, r5, r6, rf, rl⟩ := cells7 hR1; have hP1 := (hb1.block Y (by omega)).trans hPx.out; obtain ⟨f0, f1, f2, f3⟩ := leg_cells hP1; have fl : Y < w1.heap.size := (by have := hb1.size; omega); have qd1 := qd.out (by omega) (by omega); have hG1H := Lib.hid hG1; have hR1H := Lib.hid hR1; have hb1H := Lib.hid hb1; clear e0 e1 e2 e3 hG1 hR1 hP1 hb1)
      have hR9 := hR1H.out
      have hB9 := hBx.out.trans (hb1H.out.mono (by have := hBx.out.size; omega))
      obtain ⟨W9, hW9⟩ : ∃ W, W = (((((((((w1.setCell ⟨Y + 2, 5, none⟩ (.int .i64 l)).setCell ⟨Y + 2, 6, none⟩ (.int .i64 v)).setCell ⟨Y + 1, 0, none⟩ (.int .i64 ax)).setCell ⟨Y + 1, 1, none⟩ (.int .i64 ay)).setCell ⟨Y + 1, 2, none⟩ (.int .i64 bx)).setCell ⟨Y + 1, 3, none⟩ (.int .i64 ey)).setCell ⟨Y + 1, 4, none⟩ (.int .i64 s)).setCell ⟨Y + 1, 5, none⟩ (.int .i64 l)).setCell ⟨Y + 1, 6, none⟩ (.int .i64 v)) := ⟨_, rfl⟩
      have hR10 : W9.heap[Y + 1]? = some (.cells #[.int .i64 ax, .int .i64 ay, .int .i64 bx, .int .i64 ey, .int .i64 (s), .int .i64 l, .int .i64 (v)] 135 (0, 0)) := by
        rw [hW9]
        exact Go.Joins.block_setCell (i := 6) (Go.Joins.block_setCell (i := 5) (Go.Joins.block_setCell (i := 4) (Go.Joins.block_setCell (i := 3) (Go.Joins.block_setCell (i := 2) (Go.Joins.block_setCell (i := 1) (Go.Joins.block_setCell (i := 0) ((Below.heap_setCell _ _ _ _ (by show Y + 1 ≠ Y + 2; omega)).trans ((Below.heap_setCell _ _ _ _ (by show Y + 1 ≠ Y + 2; omega)).trans hR9)) (.int .i64 ax)) (.int .i64 ay)) (.int .i64 bx)) (.int .i64 ey)) (.int .i64 s)) (.int .i64 l)) (.int .i64 v)
      have hB10 : Below w.heap.size w W9 := by
        have hw1 : w.heap.size ≤ Y + 1 := by have := hYH.out; omega
        have hw2 : w.heap.size ≤ Y + 2 := by omega
        rw [hW9]
        exact ((((((((hB9.setCell hw2 _).setCell hw2 _).setCell hw1 _).setCell hw1 _).setCell hw1 _).setCell hw1 _).setCell hw1 _).setCell hw1 _).setCell hw1 _
      rw [← hW9]
      clear hW9
      obtain ⟨g0, g1, g2, g3, g4, g5, g6, _, _⟩ := cells7 hR10
      refine bodyPost_ret (v := .agg #[.int .i64 ax, .int .i64 ay, .int .i64 bx, .int .i64 ey, .int .i64 s, .int .i64 l, .int .i64 v]) (by simp [results, Tryz.results98, go_sem, g0, g1, g2, g3, g4, g5, g6]) rfl ⟨by rw [hr9.out, show s0 = s from hs0.out.trans hs.out.symm], hB10⟩
  have hki : (k : Int) < (n : Int) := by omega
  have i1 : (0 : Int) ≤ (k : Int) ∧ (k : Int) < (n : Int) := by omega
  obtain ⟨b, off, x0, x1, x2, x3, rfl, _, hb, hja, c0, d1, d2, d3⟩ := legAt (hr0.out.frame (good_flat _) (Below.sameB hbel (by omega))) hlt
  have hst := sumE_step (f := oneN p) hja
  replace hst : netN p (E.take (k + 1)) = netN p (E.take k) + oneN p ((x0, x1), (x2, x3)) := hst
  rw [← hs.out] at hst
  obtain ⟨d, hd⟩ : ∃ d, d = decide ((((x0, x1), (x2, x3)) : Leg) = ((ax, ay), (bx, ey))) := ⟨_, rfl⟩
  obtain ⟨d', hd'⟩ : ∃ d, d = decide ((((x0, x1), (x2, x3)) : Leg) = ((bx, ey), (ax, ay))) := ⟨_, rfl⟩
  have hyes : Hid (d = true → netN p (E.take (k + 1)) = s + 1 ∧ othE p (E.take (k + 1)) = othE p (E.take k)) := Lib.hid fun h => by
    have he : (((x0, x1), (x2, x3)) : Leg) = p := by rw [hpeH.out]; exact of_decide_eq_true (hd ▸ h)
    refine ⟨?_, oth_no hja (.inl he)⟩
    rw [hst]; unfold oneN; rw [if_pos he]
  have hswp : Hid (d = false → d' = true → netN p (E.take (k + 1)) = s - 1 ∧ othE p (E.take (k + 1)) = othE p (E.take k)) := Lib.hid fun h h' => by
    have he : ¬ (((x0, x1), (x2, x3)) : Leg) = p := by rw [hpeH.out]; exact of_decide_eq_false (hd ▸ h)
    have he' : (((x0, x1), (x2, x3)) : Leg) = swapE p := by rw [hsw.out]; exact of_decide_eq_true (hd' ▸ h')
    refine ⟨?_, oth_no hja (.inr he')⟩
    rw [hst]; unfold oneN; rw [if_neg he, if_pos he']; omega
  have hno : Hid (d = false → d' = false → netN p (E.take (k + 1)) = s ∧ othE p (E.take (k + 1)) = othE p (E.take k) ++ [((x0, x1), (x2, x3))]) := Lib.hid fun h h' => by
    have he : ¬ (((x0, x1), (x2, x3)) : Leg) = p := by rw [hpeH.out]; exact of_decide_eq_false (hd ▸ h)
    have he' : ¬ (((x0, x1), (x2, x3)) : Leg) = swapE p := by rw [hsw.out]; exact of_decide_eq_false (hd' ▸ h')
    refine ⟨?_, oth_yes hja he he'⟩
    rw [hst]; unfold oneN; rw [if_neg he, if_neg he']; omega
  replace hd := Lib.hid hd
  replace hd' := Lib.hid hd'
  have hbw : b < xr.heap.size := by omega
  have hbxn := heap_alloc_new xr (.cells #[.int .i64 x0, .int .i64 x1, .int .i64 x2, .int .i64 x3] 78 (0, 0))
  have hal := Go.Joins.below_alloc1 xr (.cells #[.int .i64 x0, .int .i64 x1, .int .i64 x2, .int .i64 x3] 78 (0, 0))
  have hz7 : (xr.alloc (.cells #[.int .i64 x0, .int .i64 x1, .int .i64 x2, .int .i64 x3] 78 (0, 0))).heap.size = xr.heap.size + 1 := by simp
  have hP7 := Lib.hid ((hal.block Y (by omega)).trans hPx.out)
  have hG7 := Lib.hid ((hal.block (Y + 2) (by omega)).trans hG.out)
  have HO7 := Lib.hid (own_below hown.out hal)
  have hb7 := Lib.hid (hbel.trans (hal.mono (by omega)))
  clear hal hja hst hbel hPx hRx hBx hown hG
  go_upto_region 8 with fail
  clear c0 d1 d2 d3
  generalize xr.alloc (.cells #[.int .i64 x0, .int .i64 x1, .int .i64 x2, .int .i64 x3] 78 (0, 0)) = V at *
  generalize xr.heap.size = X at *
  obtain ⟨a0, a1, a2, a3⟩ := leg_cells hbxn
  obtain ⟨e0, e1, e2, e3⟩ := leg_cells hP7.out
  have hXl : X < V.heap.size := by omega
  have hYl : Y < V.heap.size := by omega
  have hs7 := hb7.out.size
  clear hbxn hz7
  go_cut [26] (fun s wx => s = .bool d ∧ V = wx)
  case first =>
    by_cases h0 : x0 = ax
    rotate_left
    · have t1 : (x0 == ax) = false := by simp [h0]
      have hf : d = false := by rw [hd.out]; exact decide_eq_false (fun h => h0 (congrArg (fun e : Leg => e.1.1) h))
      replace hf := Lib.hid hf
      clear h0
      go_wp2_with fail
      go_meet
      case rel => exact ⟨by rw [hf.out], rfl⟩
    by_cases h1 : x1 = ay
    rotate_left
    · have t1 : (x1 == ay) = false := by simp [h1]
      have hf : d = false := by rw [hd.out]; exact decide_eq_false (fun h => h1 (congrArg (fun e : Leg => e.1.2) h))
      replace hf := Lib.hid hf
      clear h1
      have t2 : (x0 == ax) = true := by simp [h0]
      clear h0
      go_wp2_with fail
      go_meet
      case rel => exact ⟨by rw [hf.out], rfl⟩
    by_cases h2 : x2 = bx
    rotate_left
    · have t1 : (x2 == bx) = false := by simp [h2]
      have hf : d = false := by rw [hd.out]; exact decide_eq_false (fun h => h2 (congrArg (fun e : Leg => e.2.1) h))
      replace hf := Lib.hid hf
      clear h2
      have t2 : (x0 == ax) = true := by simp [h0]
      have t3 : (x1 == ay) = true := by simp [h1]
      clear h0 h1
      go_wp2_with fail
      go_meet
      case rel => exact ⟨by rw [hf.out], rfl⟩
    by_cases h3 : x3 = ey
    rotate_left
    · have t1 : (x3 == ey) = false := by simp [h3]
      have hf : d = false := by rw [hd.out]; exact decide_eq_false (fun h => h3 (congrArg (fun e : Leg => e.2.2) h))
      replace hf := Lib.hid hf
      clear h3
      have t2 : (x0 == ax) = true := by simp [h0]
      have t3 : (x1 == ay) = true := by simp [h1]
      have t4 : (x2 == bx) = true := by simp [h2]
      clear h0 h1 h2
      go_wp2_with fail
      go_meet
      case rel => exact ⟨by rw [hf.out], rfl⟩
    have t2 : (x0 == ax) = true := by simp [h0]
    have t3 : (x1 == ay) = true := by simp [h1]
    have t4 : (x2 == bx) = true := by simp [h2]
    have t5 : (x3 == ey) = true := by simp [h3]
    have hf : d = true := by rw [hd.out]; exact decide_eq_true (by rw [h0, h1, h2, h3])
    replace hf := Lib.hid hf
    clear h0 h1 h2 h3
    go_wp2_with fail
    go_meet
    case rel => exact ⟨by rw [hf.out], rfl⟩
  obtain ⟨rfl, hwx⟩ := hcut
  subst hwx
  cases d with
  | true =>
    obtain ⟨hn1, hn2⟩ := hyes.out rfl
    have m1 : IntKind.i64.wrap (s + 1) = s + 1 := wi (by omega)
    have hbnd : -((k + 1 : Nat) : Int) ≤ s + 1 ∧ s + 1 ≤ ((k + 1 : Nat) : Int) := by omega
    obtain ⟨k0, k1, k2, k3, k4, k5, k6, kf, kl⟩ := cells7 hG7.out
    replace hn1 := Lib.hid hn1
    replace hn2 := Lib.hid hn2
    replace hs := Lib.hid hs
    clear hs1 hs2
    go_wp2_with fail
    go_roundg (n - (k + 1))
    case measure => omega
    case rel => exact ⟨k + 1, q, s + 1, A1, c1, by go_num, rfl, by omega, Nat.le_refl _, by omega, Lib.hid hn1.out.symm, hbnd.1, hbnd.2, by rw [hn2.out]; exact hq, Lib.hid (Go.Joins.block_setCell hG7.out _), by rw [hn2.out]; exact Lib.hid (ownsRow_setCell_below HO7.out (a := ⟨Y + 2, 4, none⟩) (by show Y + 2 < Y + 3; omega) _), hb7.out.setCell (Nat.le_refl _) _⟩
  | false =>
    go_upto_region 10 with fail
    go_cut [33] (fun s wx => s = .bool d' ∧ V = wx)
    case first =>
      by_cases h0 : x0 = bx
      rotate_left
      · have t1 : (x0 == bx) = false := by simp [h0]
        have hf : d' = false := by rw [hd'.out]; exact decide_eq_false (fun h => h0 (congrArg (fun e : Leg => e.1.1) h))
        replace hf := Lib.hid hf
        clear h0
        go_wp2_with fail
        go_meet
        case rel => exact ⟨by rw [hf.out], rfl⟩
      by_cases h1 : x1 = ey
      rotate_left
      · have t1 : (x1 == ey) = false := by simp [h1]
        have hf : d' = false := by rw [hd'.out]; exact decide_eq_false (fun h => h1 (congrArg (fun e : Leg => e.1.2) h))
        replace hf := Lib.hid hf
        clear h1
        have t2 : (x0 == bx) = true := by simp [h0]
        clear h0
        go_wp2_with fail
        go_meet
        case rel => exact ⟨by rw [hf.out], rfl⟩
      by_cases h2 : x2 = ax
      rotate_left
      · have t1 : (x2 == ax) = false := by simp [h2]
        have hf : d' = false := by rw [hd'.out]; exact decide_eq_false (fun h => h2 (congrArg (fun e : Leg => e.2.1) h))
        replace hf := Lib.hid hf
        clear h2
        have t2 : (x0 == bx) = true := by simp [h0]
        have t3 : (x1 == ey) = true := by simp [h1]
        clear h0 h1
        go_wp2_with fail
        go_meet
        case rel => exact ⟨by rw [hf.out], rfl⟩
      by_cases h3 : x3 = ay
      rotate_left
      · have t1 : (x3 == ay) = false := by simp [h3]
        have hf : d' = false := by rw [hd'.out]; exact decide_eq_false (fun h => h3 (congrArg (fun e : Leg => e.2.2) h))
        replace hf := Lib.hid hf
        clear h3
        have t2 : (x0 == bx) = true := by simp [h0]
        have t3 : (x1 == ey) = true := by simp [h1]
        have t4 : (x2 == ax) = true := by simp [h2]
        clear h0 h1 h2
        go_wp2_with fail
        go_meet
        case rel => exact ⟨by rw [hf.out], rfl⟩
      have t2 : (x0 == bx) = true := by simp [h0]
      have t3 : (x1 == ey) = true := by simp [h1]
      have t4 : (x2 == ax) = true := by simp [h2]
      have t5 : (x3 == ay) = true := by simp [h3]
      have hf : d' = true := by rw [hd'.out]; exact decide_eq_true (by rw [h0, h1, h2, h3])
      replace hf := Lib.hid hf
      clear h0 h1 h2 h3
      go_wp2_with fail
      go_meet
      case rel => exact ⟨by rw [hf.out], rfl⟩
    obtain ⟨rfl, hwx⟩ := hcut
    subst hwx
    cases d' with
    | true =>
      obtain ⟨hn1, hn2⟩ := hswp.out rfl rfl
      have m1 : IntKind.i64.wrap (s - 1) = s - 1 := wi (by omega)
      have hbnd : -((k + 1 : Nat) : Int) ≤ s - 1 ∧ s - 1 ≤ ((k + 1 : Nat) : Int) := by omega
      obtain ⟨k0, k1, k2, k3, k4, k5, k6, kf, kl⟩ := cells7 hG7.out
      replace hn1 := Lib.hid hn1
      replace hn2 := Lib.hid hn2
      replace hs := Lib.hid hs
      clear hs1 hs2
      go_wp2_with fail
      go_roundg (n - (k + 1))
      case measure => omega
      case rel => exact ⟨k + 1, q, s - 1, A1, c1, by go_num, rfl, by omega, Nat.le_refl _, by omega, Lib.hid hn1.out.symm, hbnd.1, hbnd.2, by rw [hn2.out]; exact hq, Lib.hid (Go.Joins.block_setCell hG7.out _), by rw [hn2.out]; exact Lib.hid (ownsRow_setCell_below HO7.out (a := ⟨Y + 2, 4, none⟩) (by show Y + 2 < Y + 3; omega) _), hb7.out.setCell (Nat.le_refl _) _⟩
    | false =>
      obtain ⟨hn1, hn2⟩ := hno.out rfl rfl
      have hbnd : -((k + 1 : Nat) : Int) ≤ s ∧ s ≤ ((k + 1 : Nat) : Int) := by omega
      have hq1 : q ≤ 1000 := by omega
      replace hn1 := Lib.hid hn1
      replace hn2 := Lib.hid hn2
      replace hs := Lib.hid hs
      clear hs1 hs2
      go_wp2_with (at_builtin; refine wpApp rfl (.tmp 22) (.tmp 24) elemLeg rfl (v := .slice A1 q c1) (n := q) (xs := (othE p (E.take k)).flatMap edgeC) rfl (HO7.out.alloc _) rfl (src_at (cs := [.int .i64 x0, .int .i64 x1, .int .i64 x2, .int .i64 x3]) rfl (by simp [Value.oneCell']) (by first | rfl | simp)) (by omega) (by omega) (by first | omega | (simp; omega)) (q + 1) rfl ?_; intro A9 c9 w9 ho9 hb9; replace ho9 := Lib.hid ho9; replace hb9 := Lib.hid hb9)
      go_roundg (n - (k + 1))
      case measure => omega
      case rel =>
        refine ⟨k + 1, q + 1, s, A9, c9, by go_num, rfl, by omega, Nat.le_refl _, by omega, Lib.hid hn1.out.symm, hbnd.1, hbnd.2, ?_, ?_, ?_, ?_⟩
        · rw [hn2.out, List.length_append, ← hq.out]; exact Lib.hid rfl
        · exact Lib.hid ((hb9.out.block (Y + 2) (by omega)).trans ((Below.heap_alloc _ _ _ (by omega)).trans hG7.out))
        · rw [hn2.out, List.flatMap_append]; exact ho9
        · exact (hb7.out.alloc (by omega) _).trans (hb9.out.mono (by omega))

set_option maxHeartbeats 4000000 in
theorem belongs_any (a b : Int) (w : World) (v : Bool) (hv : v = (decide (a ≠ 0) || decide (b ≠ 0))) :
    Calls Tryz.prog 99 #[.int .i64 a, .int .i64 b, .int .i64 1] w fun e w' => e = .returned (.bool v) ∧ Below w.heap.size w w' := by
  by_cases h1 : a = 0
  · by_cases h2 : b = 0
    · have hv2 : v = false := by rw [hv, h1, h2]; rfl
      clear hv
      subst hv2 h1 h2
      go_enter Tryz.func99, Tryz.ntmps99
      go_wp2_with fail
      go_ret
      exact ⟨rfl, Below.refl _ _⟩
    · have hv2 : v = true := by rw [hv, decide_eq_true h2]; simp
      have t2 : (b == 0) = false := by simp [h2]
      have t3 : (b != 0) = true := by simp [h2]
      clear hv
      subst hv2 h1
      clear h2
      go_enter Tryz.func99, Tryz.ntmps99
      go_wp2_with fail
      go_ret
      exact ⟨rfl, Below.refl _ _⟩
  · have hv2 : v = true := by rw [hv, decide_eq_true h1]; simp
    have t2 : (a == 0) = false := by simp [h1]
    have t3 : (a != 0) = true := by simp [h1]
    clear hv
    subst hv2
    clear h1
    go_enter Tryz.func99, Tryz.ntmps99
    go_wp2_with fail
    go_ret
    exact ⟨rfl, Below.refl _ _⟩
end Go.Proofs.YtlifiioflkhkoaaGreat

/- slices.Grow, slices.Concat at legs. Printed by mk_co1.py. Conditions: as each states. -/
namespace Go.Proofs.YtlifiioflkhkoaaGreat
open Go.RowKit
set_option linter.unusedVariables false
set_option maxRecDepth 100000

theorem infoLeg : (Tryz.prog.info? 78).map (fun i => (i.zero, i.size, i.bytes)) = some (some (.agg #[.int .i64 0, .int .i64 0, .int .i64 0, .int .i64 0]), 4, 32) := by kernel_rfl
set_option maxHeartbeats 1000000 in
theorem growLegP_any (n : Nat) (w : World) (h0 : 1 ≤ n) (hn : n ≤ 1000000) :
    Calls Tryz.prog 90 #[.slice none 0 0, .int .i64 n] w fun e w' => ∃ (A' : Option Addr) (c' : Nat), e = .returned (.slice A' 0 c') ∧ w'.ownsRow w.heap.size 78 4 (.slice A' 0 c') 0 [] ∧ Below w.heap.size w w' := by
  obtain ⟨i0, hi0, hz0, hs0, hby0⟩ := info_parts infoLeg
  have hrz : ∀ ty, (Builtin.append_ #[56, 3] ty #[.slice none 0 0, .int .i64 n]).run Tryz.prog w = .ok (.slice (some ⟨w.heap.size, 0, none⟩) n (grownCap w n 0 78)) (w.drew.alloc (.cells (#[] ++ Builtin.zeroCells #[.int .i64 0, .int .i64 0, .int .i64 0, .int .i64 0] n ++ Builtin.zeroCells #[.int .i64 0, .int .i64 0, .int .i64 0, .int .i64 0] (grownCap w n 0 78 - n)) 78)) := fun ty => by
    have h := Lib.run_append_grow_zeros w 56 3 ty 78 i0 (.agg #[.int .i64 0, .int .i64 0, .int .i64 0, .int .i64 0]) .i64 .i64 Tryz.underlying56 Tryz.underlying3 hi0 hz0 none 0 0 [] (by exact run_firstCells_none w.drew i0.size 0 0 0) n (by omega) (by rw [hs0]; omega) (by omega) (by omega) (by rw [hby0]; omega) (growslice_fits (by omega) (by rw [hby0]; omega))
    rw [Nat.zero_add] at h
    exact h
  have hGn : n ≤ grownCap w n 0 78 := grownCap_ge w _ _ _
  have hG63 : grownCap w n 0 78 ≤ maxLen := grownCap_le_maxLen w n 0 78 (by unfold maxLen; omega)
  generalize grownCap w n 0 78 = G at *
  have hsz : (#[] ++ Builtin.zeroCells #[Value.int .i64 0, Value.int .i64 0, Value.int .i64 0, Value.int .i64 0] n ++ Builtin.zeroCells #[Value.int .i64 0, Value.int .i64 0, Value.int .i64 0, Value.int .i64 0] (G - n)).size = G * 4 := by
    rw [Array.size_append, Array.size_append, size_zeroCells, size_zeroCells]
    show 0 + n * 4 + (G - n) * 4 = G * 4
    omega
  generalize (#[] ++ Builtin.zeroCells #[Value.int .i64 0, Value.int .i64 0, Value.int .i64 0, Value.int .i64 0] n ++ Builtin.zeroCells #[Value.int .i64 0, Value.int .i64 0, Value.int .i64 0, Value.int .i64 0] (G - n)) = cur at *
  have hni : ¬ ((n : Int) < 0) := by omega
  have hnp : (0 : Int) < (n : Int) := by omega
  have q1 : IntKind.i64.wrap ((n : Int) - 0) = (n : Int) := by rw [wi (by omega)]; omega
  have hG2 : (G : Int) ≤ 9223372036854775807 := by unfold maxLen at hG63; omega
  have hown : (w.drew.alloc (.cells cur 78 (0, 0))).ownsRow w.heap.size 78 4 (.slice (some ⟨w.heap.size, 0, none⟩) 0 G) 0 [] := World.ownsRow_made w.drew cur G (Nat.le_refl _) hG63 hsz
  have hbw : Below w.heap.size w (w.drew.alloc (.cells cur 78 (0, 0))) := (Below.drew (Below.refl _ w)).alloc (Nat.le_refl _) _
  replace hown := Lib.hid hown
  replace hbw := Lib.hid hbw
  clear hsz hG63
  go_enter Tryz.func90, Tryz.ntmps90
  go_wp2_with (at_builtin; refine Lib.wpList_append_run _ rfl _ _ _ _ rfl _ _ rfl rfl _ _ (hrz _) ?_)
  all_goals
    go_ret
    exact ⟨_, _, rfl, hown.out, hbw.out⟩


set_option maxHeartbeats 1000000 in
theorem growLeg_any (n : Nat) (w : World) (hn : n ≤ 1000000) :
    Calls Tryz.prog 90 #[.slice none 0 0, .int .i64 n] w fun e w' => ∃ (A' : Option Addr) (c' : Nat), e = .returned (.slice A' 0 c') ∧ w'.ownsRow w.heap.size 78 4 (.slice A' 0 c') 0 [] ∧ Below w.heap.size w w' := by
  by_cases h0 : 1 ≤ n
  · exact growLegP_any n w h0 hn
  · have h1 : n = 0 := by omega
    subst h1
    clear h0 hn
    go_enter Tryz.func90, Tryz.ntmps90
    go_wp2_with fail
    go_ret
    exact ⟨none, 0, rfl, World.ownsRow_nil _ _ _ _, Below.refl _ _⟩
set_option maxHeartbeats 4000000 in
theorem concatLeg_any (g : Nat) (A1 A2 : Option Addr) (n1 c1 n2 c2 lo hi : Nat) (L1 L2 : List Leg) (w : World) (h1 : w.cell? ⟨g, 0, none⟩ = some (.slice A1 n1 c1)) (h2 : w.cell? ⟨g, 1, none⟩ = some (.slice A2 n2 c2)) (hr1 : RdS 4 (FlatR edgeC) w lo hi A1 n1 L1) (hr2 : RdS 4 (FlatR edgeC) w lo hi A2 n2 L2) (hhi : hi ≤ w.heap.size) (hn : n1 + n2 ≤ 100000) :
    Calls Tryz.prog 78 #[.slice (some ⟨g, 0, none⟩) 2 2] w fun e w' => ∃ (A' : Option Addr) (c' : Nat), e = .returned (.slice A' (n1 + n2) c') ∧ w'.ownsRow w.heap.size 78 4 (.slice A' (n1 + n2) c') (n1 + n2) ((L1 ++ L2).flatMap edgeC) ∧ Below w.heap.size w w' := by
  have hgl : g < w.heap.size := cell_lt h1
  have hgr := Lib.hid (growLeg_any (n1 + n2) w (by omega))
  obtain ⟨N, hN⟩ : ∃ N, N = n1 + n2 := ⟨_, rfl⟩
  rw [← hN] at hgr ⊢
  have hs := Lib.hid (fun W (h : Below w.heap.size w W) => src_rd edgeC_len edgeC_one (hr1.frame (good_flat _) (Below.sameB h hhi)))
  have hs2 := Lib.hid (fun W (h : Below w.heap.size w W) => src_rd edgeC_len edgeC_one (hr2.frame (good_flat _) (Below.sameB h hhi)))
  have q1 : IntKind.i64.wrap ((n1 : Int) + (n2 : Int)) = (N : Int) := by rw [wi (by omega)]; omega
  have q0 : IntKind.i64.wrap (0 + (n1 : Int)) = (n1 : Int) := by rw [wi (by omega)]; omega
  have hn1 : ¬ ((n1 : Int) < 0) := by omega
  have hnN : ¬ ((N : Int) < 0) := by omega
  replace hN := Lib.hid hN
  clear hr1 hr2
  go_enter Tryz.func78, Tryz.ntmps78
  go_wp2_with fail
  go_loop [3, 11] (fun sv kv => ∃ k : Nat, k ≤ 2 ∧ kv = .int .i64 k ∧ ((k = 0 ∧ sv = .int .i64 0) ∨ (k = 1 ∧ sv = .int .i64 n1) ∨ (k = 2 ∧ sv = .int .i64 N))) (fun sv kv => 2 - (intOf kv).toNat)
  case atStart => exact ⟨0, by omega, rfl, .inl ⟨rfl, rfl⟩⟩
  case round =>
    obtain ⟨k, hk, rfl, hcase⟩ := hrel
    rcases hcase with ⟨rfl, rfl⟩ | ⟨rfl, rfl⟩ | ⟨rfl, rfl⟩
    · go_wp2_with fail
      go_round
      case rel => exact ⟨1, by omega, rfl, .inr (.inl ⟨rfl, by first | rfl | simp⟩)⟩
      case measure => simp [intOf]
    · go_wp2_with fail
      go_round
      case rel => exact ⟨2, by omega, rfl, .inr (.inr ⟨rfl, rfl⟩)⟩
      case measure => simp [intOf]
    · go_wp2_with fail
      refine hgr.out.mono ?_
      rintro e w1 ⟨A', c', rfl, ho, hb1⟩
      replace ho := Lib.hid ho
      have hz1 := hb1.size
      go_wp2_with fail
      go_loopw [6, 27] (fun rv kv wr => ∃ (k : Nat) (A3 : Option Addr) (c3 : Nat), k ≤ 2 ∧ kv = .int .i64 k ∧ Below w.heap.size w wr ∧ ((k = 0 ∧ rv = .slice A3 0 c3 ∧ wr.ownsRow w.heap.size 78 4 (.slice A3 0 c3) 0 []) ∨ (k = 1 ∧ rv = .slice A3 n1 c3 ∧ wr.ownsRow w.heap.size 78 4 (.slice A3 n1 c3) n1 (L1.flatMap edgeC)) ∨ (k = 2 ∧ rv = .slice A3 N c3 ∧ wr.ownsRow w.heap.size 78 4 (.slice A3 N c3) N ((L1 ++ L2).flatMap edgeC)))) (fun rv kv wr => 2 - (intOf kv).toNat)
      case atStart => exact ⟨0, A', c', by omega, rfl, hb1, .inl ⟨rfl, rfl, ho.out⟩⟩
      case round =>
        clear ho hb1 hz1
        obtain ⟨k, A3, c3, hk, rfl, hbr, hcase⟩ := hrel
        have hzr := hbr.size
        have g0 := (hbr.cell (p := ⟨g, 0, none⟩) hgl).trans h1
        have g1 := (hbr.cell (p := ⟨g, 1, none⟩) hgl).trans h2
        have hgr' : g < wr.heap.size := by omega
        have hsr := Lib.hid (hs.out wr hbr)
        have hsr2 := Lib.hid (hs2.out wr hbr)
        rcases hcase with ⟨rfl, rfl, ho⟩ | ⟨rfl, rfl, ho⟩ | ⟨rfl, rfl, ho⟩
        · replace ho := Lib.hid ho
          go_wp2_with (at_builtin; refine wpApp rfl (.tmp 31) (.tmp 32) elemLeg rfl (v := .slice A3 0 c3) (n := 0) (xs := []) rfl ho.out rfl hsr.out (by omega) (by omega) (by omega) n1 (by omega) ?_; intro A4 c4 w4 ho4 hb4; replace ho4 := Lib.hid ho4)
          go_roundw
          case rel => exact ⟨1, A4, c4, by omega, rfl, hbr.trans hb4, .inr (.inl ⟨rfl, rfl, by have := ho4.out; simpa using this⟩)⟩
          case measure => simp [intOf]
        · replace ho := Lib.hid ho
          go_wp2_with (at_builtin; refine wpApp rfl (.tmp 31) (.tmp 32) elemLeg rfl (v := .slice A3 n1 c3) (n := n1) (xs := L1.flatMap edgeC) rfl ho.out rfl hsr2.out (by omega) (by omega) (by omega) N (by have := hN.out; omega) ?_; intro A4 c4 w4 ho4 hb4; replace ho4 := Lib.hid ho4)
          go_roundw
          case rel => exact ⟨2, A4, c4, by omega, rfl, hbr.trans hb4, .inr (.inr ⟨rfl, rfl, by rw [List.flatMap_append]; exact ho4.out⟩)⟩
          case measure => simp [intOf]
        · replace ho := Lib.hid ho
          replace hbr := Lib.hid hbr
          go_wp2_with fail
          go_ret
          exact ⟨_, _, rfl, ho.out, hbr.out⟩
end Go.Proofs.YtlifiioflkhkoaaGreat

/- A region that draws, whose operations make memory: each of them once, in whatever order; values of two of them may be told apart. Conditions: as each states. -/
namespace Go.Proofs.YtlifiioflkhkoaaGreat
open Go.RowKit
set_option linter.unusedVariables false
set_option maxRecDepth 100000

/-- one operation: its value meets its predicate, memory only grows -/
def StepOfE (P : Program) (Q : Exit → Act → World → Prop) (l : List Oper) (n : Nat) (a0 : Act) (w0 : World) (V : Nat → Value → World → Prop) (E : Nat → Nat → Bool) (i : Nat) : Prop :=
  ∀ o, l[i]? = some o → ∀ (f : Nat → Value) (w : World) (K : Act → World → Prop), Below w0.heap.size w0 w → (∀ k, o.after.toList.any (fun e => Region.binds .any e && e.on == k) = true → V k (f k) w) →
    (∀ v w', V i v w' → Below w.heap.size w w' → (∀ j u, j < n → j ≠ i → V j u w → E i j = true → v ≠ u) → K ((putsL l a0 f n).put o.dst v) w') → Oper.wp P o (putsL l a0 f n) w K Q

theorem wpAny_staysE {P : Program} {Q : Exit → Act → World → Prop} {l : List Oper} {n : Nat} (hn : n ≤ l.length) (hb : backRB l n = true) (hd : dstB l n = true) {a0 : Act} {w0 : World} {V : Nat → Value → World → Prop} {E : Nat → Nat → Bool} (hE : ∀ i j, E i j = E j i) (hV : ∀ j, j < n → Stays (V j))
    (step : ∀ i, i < n → StepOfE P Q l n a0 w0 V E i) (fin : ∀ f w, Below w0.heap.size w0 w → (∀ j, j < n → V j (f j) w) → (∀ j k, j < n → k < n → j ≠ k → E j k = true → f j ≠ f k) → Q .normal (putsL l a0 f n) w) :
    ∀ (fuel : Nat) (listed : Array Bool) (f : Nat → Value) (w : World), listed.size = n → (∀ j, j < n → listed.getD j false = true → V j (f j) w) → (∀ j k, j < n → k < n → j ≠ k → listed.getD j false = true → listed.getD k false = true → E j k = true → f j ≠ f k) → Below w0.heap.size w0 w →
      (List.range n).countP (fun j => !listed.getD j true) ≤ fuel → wpAny P .any (l.take n).toArray Q fuel listed (putsL l a0 f n) w := by
  have hall : ∀ (listed : Array Bool), listed.size = n → Region.ready .any (l.take n).toArray listed = [] → ∀ j, j < n → listed.getD j true = true := by
    intro listed hs h0 j hj
    cases hv : listed.getD j true with
    | true => rfl
    | false =>
      obtain ⟨i, hi, hpi, hmin⟩ := leastN (p := fun j => j < n ∧ listed.getD j true = false) (fun j => Classical.em _) j ⟨hj, hv⟩
      obtain ⟨o, ho, hon, _⟩ := back_specR hb hpi.1
      have hr : i ∈ Region.ready .any (l.take n).toArray listed := mem_ready.2 ⟨hpi.2, o, by simpa [List.getElem?_take, hpi.1] using ho, fun e he _ => by
        have h1 := hon e he
        have h2 := hmin e.on h1
        rw [getD_two (by have := hpi.1; omega)]
        cases hv : listed.getD e.on true with
        | true => rfl
        | false => exact absurd ⟨by have := hpi.1; omega, hv⟩ h2⟩
      rw [h0] at hr
      cases hr
  have hend : ∀ (listed : Array Bool) (f : Nat → Value) (w : World), listed.size = n → (∀ j, j < n → listed.getD j true = true) → (∀ j, j < n → listed.getD j false = true → V j (f j) w) → (∀ j k, j < n → k < n → j ≠ k → listed.getD j false = true → listed.getD k false = true → E j k = true → f j ≠ f k) → Below w0.heap.size w0 w → Q .normal (putsL l a0 f n) w := by
    intro listed f w hs ha hf hD hB
    exact fin f w hB (fun j hj => hf j hj (by rw [getD_two (by omega)]; exact ha j hj)) (fun j k hj hk hjk he => hD j k hj hk hjk (by rw [getD_two (by omega)]; exact ha j hj) (by rw [getD_two (by omega)]; exact ha k hk) he)
  intro fuel
  induction fuel with
  | zero =>
    intro listed f w hs hf hD hB hc
    have ha : ∀ j, j < n → listed.getD j true = true := by
      intro j hj
      cases hv : listed.getD j true with
      | true => rfl
      | false =>
        have h1 : 0 < (List.range n).countP (fun j => !listed.getD j true) := List.countP_pos_iff.2 ⟨j, List.mem_range.2 hj, by simp only [hv]; rfl⟩
        omega
    refine ⟨?_, hend listed f w hs ha hf hD hB⟩
    cases hr : Region.ready .any (l.take n).toArray listed with
    | nil => rfl
    | cons x xs =>
      exfalso
      have hx : x ∈ Region.ready .any (l.take n).toArray listed := by rw [hr]; exact List.mem_cons_self
      obtain ⟨h1, o, h2, _⟩ := mem_ready.1 hx
      have hxn : x < n := by
        have h3 := (Array.getElem?_eq_some_iff.1 h2).1
        simp at h3; omega
      rw [ha x hxn] at h1; cases h1
  | succ fuel ih =>
    intro listed f w hs hf hD hB hc
    refine ⟨fun h0 => hend listed f w hs (hall listed hs h0) hf hD hB, fun i hi => ?_⟩
    obtain ⟨h1, o, h2, h3⟩ := mem_ready.1 hi
    have hin : i < n := by
      have h4 := (Array.getElem?_eq_some_iff.1 h2).1
      simp at h4; omega
    obtain ⟨o', ho', _, hgd⟩ := back_specR hb hin
    have e1 : (l.take n).toArray[i]? = some o' := by simpa [List.getElem?_take, hin] using ho'
    have eo : o = o' := by rw [e1] at h2; exact (Option.some.inj h2).symm
    subst eo
    have hw : ∀ y, Region.wanted o y = true := fun y => by simp [Region.wanted, hgd]
    unfold wpOp
    rw [e1]
    simp only [hw, if_true]
    refine .inl (step i hin o ho' f w _ hB ?_ ?_)
    · intro k hk
      obtain ⟨e, he, hbe⟩ := List.any_eq_true.1 hk
      have he := Array.mem_toList_iff.1 he
      simp only [Bool.and_eq_true, beq_iff_eq] at hbe
      have hl := h3 e he hbe.1
      rw [hbe.2] at hl
      have hkn : k < n := by
        rcases Nat.lt_or_ge k n with h | h
        · exact h
        · rw [getD_out (by omega)] at hl; cases hl
      exact hf k hkn hl
    · intro v w' hv hbw hne
      have hdst : o.dst = dstL l i := by unfold dstL; rw [ho']; rfl
      rw [hdst, putsL_put hd (Nat.le_refl n) hin]
      refine ih _ _ _ (by simp [hs]) ?_ ?_ (hB.trans (hbw.mono hB.size)) ?_
      · intro j hj hl
        unfold upd
        by_cases hji : j = i
        · subst hji; rw [if_pos rfl]; exact hv
        · rw [if_neg hji]
          rw [getD_set_ne false (Ne.symm hji)] at hl
          exact hV j hj _ _ _ (hf j hj hl) hbw
      · intro j k hj hk hjk hl1 hl2 he
        unfold upd
        by_cases hji : j = i
        · subst hji
          have hki : k ≠ j := fun h => hjk h.symm
          rw [if_pos rfl, if_neg hki]
          rw [getD_set_ne false (Ne.symm hki)] at hl2
          exact hne k _ hk hki (hf k hk hl2) he
        · rw [if_neg hji]
          rw [getD_set_ne false (Ne.symm hji)] at hl1
          by_cases hki : k = i
          · subst hki
            rw [if_pos rfl]
            exact (hne j _ hj hji (hf j hj hl1) (by rw [hE]; exact he)).symm
          · rw [if_neg hki]
            rw [getD_set_ne false (Ne.symm hki)] at hl2
            exact hD j k hj hk hjk hl1 hl2 he
      · have := countP_less (p := fun j => !listed.getD j true) (q := fun j => !(listed.setIfInBounds i true).getD j true) (i := i) (L := List.range n) (List.mem_range.2 hin) (by simp only [h1]; rfl) (by simp [hs, hin]) (fun j hj => by
          by_cases hji : j = i
          · subst hji; simp only [h1]; rfl
          · rw [getD_set_ne true (Ne.symm hji)] at hj; exact hj)
        omega

/-- a region that draws: its first n operations each by itself, the others in order -/
theorem wp_region_staysE {P : Program} {Q : Exit → Act → World → Prop} {id : Nat} {a : Act} {w : World} {l : List Oper} (n : Nat) (V : Nat → Value → World → Prop) (E : Nat → Nat → Bool) (hE : ∀ i j, E i j = E j i) (hm : P.follows .mixedOrders = true) (hB : (headRB l n && dstB l n) = true) (hV : ∀ j, j < n → Stays (V j))
    (step : ∀ i, i < n → StepOfE P (QTail P l.toArray (l.drop n) Q) l n a w.drew V E i) (fin : ∀ f w', Below w.heap.size w w' → (∀ j, j < n → V j (f j) w') → (∀ j k, j < n → k < n → j ≠ k → E j k = true → f j ≠ f k) → wpList P l.toArray Q (l.drop n) (putsL l a f n) w') : (Code.region id l.toArray true).wp P Q a w := by
  rw [Bool.and_eq_true] at hB
  obtain ⟨hB, hd⟩ := hB
  simp only [headRB, Bool.and_eq_true, decide_eq_true_eq] at hB
  obtain ⟨⟨⟨⟨hn, hs⟩, hc⟩, hb⟩, hq⟩ := hB
  have inv0 : HeadInv .any l.toArray n (Array.replicate l.length false) :=
    ⟨by simp, fun j oj _ hl => (by rw [getD_replicate_false] at hl; cases hl), fun t _ ht => getD_in (by simpa using ht) (getD_replicate_false _ _)⟩
  have r0 : HRel n l (Array.replicate n false) (Array.replicate l.length false) :=
    ⟨by simp, by simp, hn, fun j hj => by rw [getD_in (by simp; omega) (getD_replicate_false _ _), getD_in (by simp; omega) (getD_replicate_false _ _)], fun t _ ht => getD_in (by simpa using ht) (getD_replicate_false _ _)⟩
  refine wp_region_any hm ?_
  have h1 := wpAny_staysE (P := P) (Q := QTail P l.toArray (l.drop n) Q) (Nat.le_of_lt hn) hb hd hE hV step (fun f w' hB hf hD => fin f w' ((Below.drew (Below.refl _ w)).trans hB) hf hD) n (Array.replicate n false) (fun j => match dstL l j with | some d => a.tmps.getD d undef | none => undef) w.drew (by simp) (fun j hj hl => by rw [getD_replicate_false] at hl; cases hl) (fun j k hj hk hjk hl _ => by rw [getD_replicate_false] at hl; cases hl) (Below.refl _ _) (Nat.le_trans List.countP_le_length (by simp))
  rw [show putsL l a (fun j => match dstL l j with | some d => a.tmps.getD d undef | none => undef) n = a from putsL_self l a n] at h1
  have := wpAny_of_take hs hc hb hq n _ _ a _ r0 inv0 h1
  rw [show n + (l.length - n) = l.toArray.size by simp; omega] at this
  simpa using this
end Go.Proofs.YtlifiioflkhkoaaGreat

