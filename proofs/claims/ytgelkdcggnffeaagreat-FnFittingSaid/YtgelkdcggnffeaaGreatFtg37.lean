/- Middles of points; the knots of a loop with those between, the reference's side. Printed by mk_fo1.py. Conditions: as each states. -/
import Derived.Test.YtgelkdcggnffeaaGreatFtg36
import Derived.Test.YtgelkdcggnffeaaGreatFtg28
namespace Go.Proofs.YtgelkdcggnffeaaGreat
open Go.RowKit
set_option linter.unusedVariables false
set_option maxRecDepth 100000

set_option maxHeartbeats 2000000 in
theorem l03Mid_any (ax ay bx b : Int) (w : World) (ha : ptOk ax ay = true) (hb : ptOk bx b = true) :
    Calls Tryz.prog 76 #[.agg #[.int .i64 ax, .int .i64 ay], .agg #[.int .i64 bx, .int .i64 b]] w fun e w' => e = .returned (.agg #[.int .i64 (midP (ax, ay) (bx, b)).1, .int .i64 (midP (ax, ay) (bx, b)).2]) ∧ Below w.heap.size w w' := by
  obtain ⟨a1, a2, a3, a4⟩ := pt_bd ha
  obtain ⟨b1, b2, b3, b4⟩ := pt_bd hb
  have c1 := Lib.hid (fun W => calls_turn (l03Round_any (ax + bx) 2 W (by omega) (by omega) (by omega) (by omega)))
  have c2 := Lib.hid (fun W => calls_turn (l03Round_any (ay + b) 2 W (by omega) (by omega) (by omega) (by omega)))
  have q1 : IntKind.i64.wrap (ax + bx) = ax + bx := wi (by omega)
  have q2 : IntKind.i64.wrap (ay + b) = ay + b := wi (by omega)
  have hnew := heap_new0 w (.cells #[.int .i64 ax, .int .i64 ay] 71 (0, 0)) (.cells #[.int .i64 bx, .int .i64 b] 71 (0, 0)) (.cells #[.int .i64 0, .int .i64 0] 71 (0, 0))
  have hB0 : Below w.heap.size w (((w.alloc (.cells #[.int .i64 ax, .int .i64 ay] 71 (0, 0))).alloc (.cells #[.int .i64 bx, .int .i64 b] 71 (0, 0))).alloc (.cells #[.int .i64 0, .int .i64 0] 71 (0, 0))) := (Go.Joins.below_alloc2 w _ _).alloc (by simp; omega) _
  have p0 : PB (((w.alloc (.cells #[.int .i64 ax, .int .i64 ay] 71 (0, 0))).alloc (.cells #[.int .i64 bx, .int .i64 b] 71 (0, 0))).alloc (.cells #[.int .i64 0, .int .i64 0] 71 (0, 0))) w.heap.size ax ay := hnew.1
  have p1 : PB (((w.alloc (.cells #[.int .i64 ax, .int .i64 ay] 71 (0, 0))).alloc (.cells #[.int .i64 bx, .int .i64 b] 71 (0, 0))).alloc (.cells #[.int .i64 0, .int .i64 0] 71 (0, 0))) (w.heap.size + 1) bx b := hnew.2.1
  have p2 : PB (((w.alloc (.cells #[.int .i64 ax, .int .i64 ay] 71 (0, 0))).alloc (.cells #[.int .i64 bx, .int .i64 b] 71 (0, 0))).alloc (.cells #[.int .i64 0, .int .i64 0] 71 (0, 0))) (w.heap.size + 2) 0 0 := hnew.2.2
  show Calls Tryz.prog 76 #[.agg #[.int .i64 ax, .int .i64 ay], .agg #[.int .i64 bx, .int .i64 b]] w fun e w' => e = .returned (.agg #[.int .i64 (rnd (ax + bx) 2), .int .i64 (rnd (ay + b) 2)]) ∧ Below w.heap.size w w'
  clear hnew ha hb
  generalize rnd (ax + bx) 2 = mx at *
  generalize rnd (ay + b) 2 = my at *
  go_enter Tryz.func76, Tryz.ntmps76
  go_wp2_with fail
  generalize (((w.alloc (.cells #[.int .i64 ax, .int .i64 ay] 71 (0, 0))).alloc (.cells #[.int .i64 bx, .int .i64 b] 71 (0, 0))).alloc (.cells #[.int .i64 0, .int .i64 0] 71 (0, 0))) = W at *
  obtain ⟨x0, x1, xf, xl⟩ := p0.cells
  obtain ⟨y0, y1, yf, yl⟩ := p1.cells
  obtain ⟨r0, r1, rf, rl⟩ := p2.cells
  go_still_tail 13, (by kernel_rfl)
  still_call (c1.out _)
  repeat still_step
  still_call (c2.out _)
  repeat still_step
  refine wpStill_nil ?_
  replace p2 := Lib.hid p2.drew
  replace hB0 := Lib.hid hB0.drew
  clear p0 p1 x0 x1 xf xl y0 y1 yf yl r0 r1 rf rl q1 q2
  change wpList _ _ _ _ _ W.drew
  generalize W.drew = W4 at *
  obtain ⟨r0, r1, rf, rl⟩ := p2.out.cells
  go_wp2_with fail
  refine bodyPost_ret (v := .agg #[.int .i64 mx, .int .i64 my]) (by simp [results, Tryz.results76, go_sem, r0, r1]) rfl ⟨rfl, ?_⟩
  exact (hB0.out.setCell (p := ⟨w.heap.size + 2, 0, none⟩) (by show w.heap.size ≤ w.heap.size + 2; omega) _).setCell (p := ⟨w.heap.size + 2, 1, none⟩) (by show w.heap.size ≤ w.heap.size + 2; omega) _

set_option maxHeartbeats 2000000 in
theorem midPt_any (ax ay bx b : Int) (w : World) (ha : ptOk ax ay = true) (hb : ptOk bx b = true) :
    Calls Tryz.prog 85 #[.agg #[.int .i64 ax, .int .i64 ay], .agg #[.int .i64 bx, .int .i64 b]] w fun e w' => e = .returned (.agg #[.int .i64 (midP (ax, ay) (bx, b)).1, .int .i64 (midP (ax, ay) (bx, b)).2]) ∧ Below w.heap.size w w' := by
  obtain ⟨a1, a2, a3, a4⟩ := pt_bd ha
  obtain ⟨b1, b2, b3, b4⟩ := pt_bd hb
  have c1 := Lib.hid (fun W => calls_turn (DivRound_pos (ax + bx) 2 W (by omega) (by omega) (by omega) (by omega)))
  have c2 := Lib.hid (fun W => calls_turn (DivRound_pos (ay + b) 2 W (by omega) (by omega) (by omega) (by omega)))
  have q1 : IntKind.i64.wrap (ax + bx) = ax + bx := wi (by omega)
  have q2 : IntKind.i64.wrap (ay + b) = ay + b := wi (by omega)
  have hnew := heap_new0 w (.cells #[.int .i64 ax, .int .i64 ay] 71 (0, 0)) (.cells #[.int .i64 bx, .int .i64 b] 71 (0, 0)) (.cells #[.int .i64 0, .int .i64 0] 71 (0, 0))
  have hB0 : Below w.heap.size w (((w.alloc (.cells #[.int .i64 ax, .int .i64 ay] 71 (0, 0))).alloc (.cells #[.int .i64 bx, .int .i64 b] 71 (0, 0))).alloc (.cells #[.int .i64 0, .int .i64 0] 71 (0, 0))) := (Go.Joins.below_alloc2 w _ _).alloc (by simp; omega) _
  have p0 : PB (((w.alloc (.cells #[.int .i64 ax, .int .i64 ay] 71 (0, 0))).alloc (.cells #[.int .i64 bx, .int .i64 b] 71 (0, 0))).alloc (.cells #[.int .i64 0, .int .i64 0] 71 (0, 0))) w.heap.size ax ay := hnew.1
  have p1 : PB (((w.alloc (.cells #[.int .i64 ax, .int .i64 ay] 71 (0, 0))).alloc (.cells #[.int .i64 bx, .int .i64 b] 71 (0, 0))).alloc (.cells #[.int .i64 0, .int .i64 0] 71 (0, 0))) (w.heap.size + 1) bx b := hnew.2.1
  have p2 : PB (((w.alloc (.cells #[.int .i64 ax, .int .i64 ay] 71 (0, 0))).alloc (.cells #[.int .i64 bx, .int .i64 b] 71 (0, 0))).alloc (.cells #[.int .i64 0, .int .i64 0] 71 (0, 0))) (w.heap.size + 2) 0 0 := hnew.2.2
  show Calls Tryz.prog 85 #[.agg #[.int .i64 ax, .int .i64 ay], .agg #[.int .i64 bx, .int .i64 b]] w fun e w' => e = .returned (.agg #[.int .i64 (rnd (ax + bx) 2), .int .i64 (rnd (ay + b) 2)]) ∧ Below w.heap.size w w'
  clear hnew ha hb
  generalize rnd (ax + bx) 2 = mx at *
  generalize rnd (ay + b) 2 = my at *
  go_enter Tryz.func85, Tryz.ntmps85
  go_wp2_with fail
  generalize (((w.alloc (.cells #[.int .i64 ax, .int .i64 ay] 71 (0, 0))).alloc (.cells #[.int .i64 bx, .int .i64 b] 71 (0, 0))).alloc (.cells #[.int .i64 0, .int .i64 0] 71 (0, 0))) = W at *
  obtain ⟨x0, x1, xf, xl⟩ := p0.cells
  obtain ⟨y0, y1, yf, yl⟩ := p1.cells
  obtain ⟨r0, r1, rf, rl⟩ := p2.cells
  go_still_tail 13, (by kernel_rfl)
  still_call (c1.out _)
  repeat still_step
  still_call (c2.out _)
  repeat still_step
  refine wpStill_nil ?_
  replace p2 := Lib.hid p2.drew
  replace hB0 := Lib.hid hB0.drew
  clear p0 p1 x0 x1 xf xl y0 y1 yf yl r0 r1 rf rl q1 q2
  change wpList _ _ _ _ _ W.drew
  generalize W.drew = W4 at *
  obtain ⟨r0, r1, rf, rl⟩ := p2.out.cells
  go_wp2_with fail
  refine bodyPost_ret (v := .agg #[.int .i64 mx, .int .i64 my]) (by simp [results, Tryz.results85, go_sem, r0, r1]) rfl ⟨rfl, ?_⟩
  exact (hB0.out.setCell (p := ⟨w.heap.size + 2, 0, none⟩) (by show w.heap.size ≤ w.heap.size + 2; omega) _).setCell (p := ⟨w.heap.size + 2, 1, none⟩) (by show w.heap.size ≤ w.heap.size + 2; omega) _

theorem cells_app {W W' w5 : World} {v : Value} (hg : W'.grownBy w5 v.ownBlock) (hW : Below W.heap.size W W') {a : Addr} (hl : a.block < W.heap.size) (hne : v.ownBlock ≠ some a.block) : w5.cell? a = W.cell? a :=
  World.cell?_of_block (w := W) ((hg.block a.block (Nat.lt_of_lt_of_le hl hW.size) (fun e => hne e.symm)).trans (hW.block a.block hl))
theorem RdS.kns {w : World} {lo hi : Nat} {A : Option Addr} {n : Nat} {K : List Knot} (h : RdS 3 (FlatR knotC) w lo hi A n K) (hn : 0 < n) :
    ∃ b off, A = some ⟨b, off, none⟩ ∧ lo ≤ b ∧ b < hi ∧ ∀ j, j < n → w.cell? ⟨b, off + j * 3, none⟩ = some (.int .i64 (knAt K j).1) ∧ w.cell? ⟨b, off + j * 3 + 1, none⟩ = some (.int .i64 (knAt K j).2.1) ∧ w.cell? ⟨b, off + j * 3 + 2, none⟩ = some (.bool (knAt K j).2.2) := by
  obtain ⟨b, off, a, hA, h1, h2, _, _⟩ := h.at hn
  refine ⟨b, off, hA, h1, h2, fun j hj => ?_⟩
  obtain ⟨b', off', a', hA', _, _, h3, h4⟩ := h.at hj
  rw [hA] at hA'
  injection hA' with hA'
  injection hA' with e1 e2
  subst e1 e2
  rw [knAt_eq h3]
  exact ⟨by have := h4 0 _ rfl; simpa using this, h4 1 _ rfl, h4 2 _ rfl⟩
theorem knot_snoc (L : List Knot) (k : Knot) : (L ++ [k]).flatMap knotC = L.flatMap knotC ++ knotC k := by simp
theorem kn_ok {K : List Knot} (h : KsOk K) {j : Nat} (hj : j < K.length) : ptOk (knAt K j).1 (knAt K j).2.1 = true := h _ (List.mem_of_getElem? (knAt_some hj))

set_option maxHeartbeats 8000000 in
theorem l10Full_any (p po : Nat) (A : Option Addr) (n c lo hi : Nat) (K : List Knot) (w : World) (hp : w.cell? ⟨p, po, none⟩ = some (.slice A n c)) (hr : RdS 3 (FlatR knotC) w lo hi A n K) (hhi : hi ≤ w.heap.size) (hn1 : 1 ≤ n) (hn : n ≤ 1000) (hK : KsOk K) :
    Calls Tryz.prog 52 #[.pointer (some ⟨p, po, none⟩)] w fun e w' => ∃ (A' : Option Addr) (c' : Nat), e = .returned (.slice A' (fullK K).length c') ∧ w'.ownsRow w.heap.size 73 3 (.slice A' (fullK K).length c') (fullK K).length ((fullK K).flatMap knotC) ∧ Below w.heap.size w w' := by
  have hll := Lib.hid hr.1
  have hpl : p < w.heap.size := cell_lt hp
  obtain ⟨E, hE⟩ : ∃ E, E = fullK K := ⟨_, rfl⟩
  rw [← hE]
  replace hE := Lib.hid hE
  replace hr := Lib.hid hr
  replace hK := Lib.hid hK
  have hpH := Lib.hid hp
  go_enter Tryz.func52, Tryz.ntmps52
  go_wp2_with fail
  clear hp
  go_loopw [3, 5] (fun ov iv wr => ∃ (k : Nat) (A1 : Option Addr) (c1 q : Nat), iv = .int .i64 k ∧ k ≤ n ∧ q = (fullTo K k).length ∧ ov = .slice A1 q c1 ∧ wr.ownsRow w.heap.size 73 3 (.slice A1 q c1) q ((fullTo K k).flatMap knotC) ∧ Below w.heap.size w wr) (fun ov iv wr => n - (intOf iv).toNat)
  case atStart => exact ⟨0, _, _, 0, rfl, Nat.zero_le _, by simp [fullTo], rfl, World.ownsRow_lit w _ _ (Nat.le_refl _) (by decide) (by simp), (Below.refl _ _).alloc (Nat.le_refl _) _⟩
  case round =>
    obtain ⟨k, A1, c1, q, rfl, hk, hq, rfl, hown, hbel⟩ := hrel
    have hz := hbel.size
    have hqk := (fullTo_len K k).2
    rw [← hq] at hqk
    have hpr := (hbel.cell (p := ⟨p, po, none⟩) hpl).trans hpH.out
    have hplr : p < wr.heap.size := by omega
    replace hown := Lib.hid hown
    replace hq := Lib.hid hq
    obtain ⟨b, off, rfl, hb0, hb, hcs⟩ := (hr.out.frame (good_flat _) (Below.sameB hbel hhi)).kns (by omega)
    have hbw : b < wr.heap.size := by omega
    by_cases hlt : k < n
    rotate_left
    · have hkn : k = n := by omega
      have hki : ¬ (k : Int) < (n : Int) := by omega
      have hfin : E = fullTo K k ++ [knAt K 0] := by rw [hE.out, hkn, ← hll.out]; rfl
      have hEl : E.length = q + 1 := by rw [hfin, List.length_append, ← hq.out]; rfl
      obtain ⟨s0, s1, s2⟩ := hcs 0 (by omega)
      rw [Nat.zero_mul, Nat.add_zero] at s0 s1 s2
      obtain ⟨⟨kx, ky, kz⟩, hk0⟩ : ∃ a, a = knAt K 0 := ⟨_, rfl⟩
      rw [← hk0] at s0 s1 s2 hfin
      simp only at s0 s1 s2
      replace hk0 := Lib.hid hk0
      replace hfin := Lib.hid hfin
      replace hEl := Lib.hid hEl
      replace hkn := Lib.hid hkn
      have i0 : (0 : Int) < (n : Int) := by omega
      have i1 : 0 < n := by omega
      clear hcs hb0 hb
      go_wp2_with (at_builtin; refine wpApp rfl (.tmp 67) (.tmp 74) elemKnot rfl (v := .slice A1 q c1) (n := q) (xs := (fullTo K k).flatMap knotC) rfl (hown.out.alloc _) rfl (src_at (cs := [.int .i64 kx, .int .i64 ky, .bool kz]) rfl (by simp [Value.oneCell']) rfl) (by omega) (by omega) (by simp; omega) (q + 1) rfl ?_; intro A' c' w5 hown5 hb5; replace hown5 := Lib.hid hown5)
      have hbel5 := (hbel.alloc hz _).trans hb5
      clear hb5
      go_ret
      refine ⟨A', c', by rw [hEl.out]; rfl, ?_, hbel5⟩
      rw [hEl.out, hfin.out, knot_snoc]
      exact hown5.out
    obtain ⟨m, hm⟩ : ∃ m, m = (k + 1) % n := ⟨_, rfl⟩
    have hmn : m < n := by rw [hm]; exact Nat.mod_lt _ (by omega)
    obtain ⟨c10, c11, c12⟩ := hcs k hlt
    obtain ⟨c20, c21, c22⟩ := hcs m hmn
    have hok1 := kn_ok hK.out (j := k) (by have := hll.out; omega)
    have hok2 := kn_ok hK.out (j := m) (by have := hll.out; omega)
    have hst : fullTo K (k + 1) = fullTo K k ++ (knAt K k :: midK (knAt K k) (knAt K m)) := by rw [fullTo_succ, hm, hll.out]
    obtain ⟨⟨kx, ky, kz⟩, hka⟩ : ∃ a, a = knAt K k := ⟨_, rfl⟩
    obtain ⟨⟨nx, ny, nz⟩, hkb⟩ : ∃ a, a = knAt K m := ⟨_, rfl⟩
    rw [← hka] at c10 c11 c12 hst hok1
    rw [← hkb] at c20 c21 c22 hst hok2
    simp only at c10 c11 c12 c20 c21 c22 hok1 hok2
    have hki : (k : Int) < (n : Int) := by omega
    obtain ⟨y, hy⟩ : ∃ y, y = k + 1 := ⟨_, rfl⟩
    have q4 : IntKind.i64.wrap ((k : Int) + 1) = (y : Int) := by rw [wi (by omega)]; omega
    have q5 : (y : Int).tmod (n : Int) = (m : Int) := by rw [mod_i, hy, hm]
    have q6 : ¬ n = 0 := by omega
    have q7 : IntKind.i64.wrap (m : Int) = (m : Int) := wi (by omega)
    have i1 : (0 : Int) ≤ (k : Int) ∧ (k : Int) < (n : Int) := by omega
    have i2 : (0 : Int) ≤ (m : Int) ∧ (m : Int) < (n : Int) := by omega
    have hyH := Lib.hid hy
    replace hm := Lib.hid hm
    replace hka := Lib.hid hka
    replace hkb := Lib.hid hkb
    replace hst := Lib.hid hst
    have hlo : w.heap.size ≤ wr.heap.size := hz
    clear hcs hb0 hb hy
    -- the knot itself
    go_upto_region 7 with (at_builtin; refine wpApp rfl (.tmp 18) (.tmp 26) elemKnot rfl (v := .slice A1 q c1) (n := q) (xs := (fullTo K k).flatMap knotC) rfl (hown.out.alloc _) rfl (src_at (cs := [.int .i64 kx, .int .i64 ky, .bool kz]) rfl (by simp [Value.oneCell']) rfl) (by omega) (by omega) (by simp; omega) (q + 1) rfl ?_; intro A2 c2 u hown5 hb5; replace hown5 := Lib.hid hown5)
    have hbu := (hbel.alloc hz (.cells #[.int .i64 kx, .int .i64 ky, .bool kz] 73 (0, 0))).trans hb5
    have hzu : wr.heap.size + 1 ≤ u.heap.size := by have := hb5.size; simp at this; exact this
    have hbV0 : Below w.heap.size w u := hbu
    have hwu := hbu.size
    have hpu := (hbu.cell (p := ⟨p, po, none⟩) hpl).trans hpH.out
    have hpul : p < u.heap.size := by omega
    obtain ⟨b2, off2, hA2, hb0, hb, hcs⟩ := (hr.out.frame (good_flat _) (Below.sameB hbu hhi)).kns (by omega)
    injection hA2 with hA2
    injection hA2 with e1 e2
    subst e1 e2
    have hbul : b < u.heap.size := by omega
    obtain ⟨d10, d11, d12⟩ := hcs k hlt
    obtain ⟨d20, d21, d22⟩ := hcs m hmn
    rw [← hka.out] at d10 d11 d12
    rw [← hkb.out] at d20 d21 d22
    simp only at d10 d11 d12 d20 d21 d22
    have hS := Lib.hid (fun (W : World) (hb : Below u.heap.size u W) => (show W.cell? ⟨p, po, none⟩ = some (.slice (some ⟨b, off, none⟩) n c) ∧ W.cell? ⟨b, off + m * 3, none⟩ = some (.int .i64 nx) ∧ W.cell? ⟨b, off + m * 3 + 1, none⟩ = some (.int .i64 ny) ∧ W.cell? ⟨b, off + m * 3 + 2, none⟩ = some (.bool nz) from ⟨(hb.cell (p := ⟨p, po, none⟩) hpul).trans hpu, (hb.cell (p := ⟨b, off + m * 3, none⟩) hbul).trans d20, (hb.cell (p := ⟨b, off + m * 3 + 1, none⟩) hbul).trans d21, (hb.cell (p := ⟨b, off + m * 3 + 2, none⟩) hbul).trans d22⟩))
    have hbw0 : b < w.heap.size := by omega
    clear hcs hb0 hb c10 c11 c12 c20 c21 c22 hpr hplr hb5 hown hbw
    go_region_held3 (fun w' => w'.cell? ⟨p, po, none⟩ = some (.slice (some ⟨b, off, none⟩) n c) ∧ w'.cell? ⟨b, off + m * 3, none⟩ = some (.int .i64 nx) ∧ w'.cell? ⟨b, off + m * 3 + 1, none⟩ = some (.int .i64 ny) ∧ w'.cell? ⟨b, off + m * 3 + 2, none⟩ = some (.bool nz)) (first | (refine hS.out _ ?_; repeat (first | with_reducible exact Below.refl _ _ | with_reducible refine Below.drew ?_ | with_reducible refine Below.alloc ?_ (by simp) _ | with_reducible refine Below.setCell ?_ (by simp) _))) (fail)
    all_goals
      have hn1' := heap_alloc_new u (.cells #[.int .i64 nx, .int .i64 ny, .bool nz] 73 (0, 0))
      have hb1 : Below u.heap.size u (u.alloc (.cells #[.int .i64 nx, .int .i64 ny, .bool nz] 73 (0, 0))).drew := Below.drew (Go.Joins.below_alloc1 u _)
      have hz1 : (u.alloc (.cells #[.int .i64 nx, .int .i64 ny, .bool nz] 73 (0, 0))).drew.heap.size = u.heap.size + 1 := by show (u.alloc (.cells #[.int .i64 nx, .int .i64 ny, .bool nz] 73 (0, 0))).heap.size = _; simp
      have hn2 : Hid ((u.alloc (.cells #[.int .i64 nx, .int .i64 ny, .bool nz] 73 (0, 0))).drew.heap[u.heap.size]? = some (.cells #[.int .i64 nx, .int .i64 ny, .bool nz] 73 (0, 0))) := hn1'
      have pV := (hb1.cell (p := ⟨p, po, none⟩) hpul).trans hpu
      have d1 := (hb1.cell (p := ⟨b, off + k * 3, none⟩) hbul).trans d10
      have d2 := (hb1.cell (p := ⟨b, off + k * 3 + 1, none⟩) hbul).trans d11
      have d5 := (hb1.cell (p := ⟨b, off + k * 3 + 2, none⟩) hbul).trans d12
      clear hn1' hS d20 d21 d22 q4 q5 q6 q7 i2 hpu d10 d11 d12
      generalize (u.alloc (.cells #[.int .i64 nx, .int .i64 ny, .bool nz] 73 (0, 0))).drew = V at *
      obtain ⟨X, hX⟩ : ∃ X, X = u.heap.size := ⟨_, rfl⟩
      rw [← hX] at hn2 hz1 hwu hzu hbul hpul ⊢
      have hXV : X < V.heap.size := by omega
      have pl5 : p < V.heap.size := by omega
      have bl5 : b < V.heap.size := by omega
      have xl5 : X < V.heap.size := hXV
      have d3 : V.cell? ⟨X, 0, none⟩ = some (.int .i64 nx) := by rw [Go.Joins.cell_of_block hn2.out]; rfl
      have d4 : V.cell? ⟨X, 1, none⟩ = some (.int .i64 ny) := by rw [Go.Joins.cell_of_block hn2.out]; rfl
      have d6 : V.cell? ⟨X, 2, none⟩ = some (.bool nz) := by rw [Go.Joins.cell_of_block hn2.out]; rfl
      have neX : (Value.slice A2 (q + 1) c2).ownBlock ≠ some X := fun e => by have h1 := (hown5.out.lt X e).2; rw [← hX] at h1; omega
      have hownV := Lib.hid (own_below hown5.out hb1)
      have neP : (Value.slice A2 (q + 1) c2).ownBlock ≠ some p := fun e => by have h1 := (hownV.out.lt p e).1; omega
      have neB : (Value.slice A2 (q + 1) c2).ownBlock ≠ some b := fun e => by have h1 := (hownV.out.lt b e).1; omega
      have hbelV := Lib.hid (hbu.trans (hb1.mono (by rw [← hX]; omega)))
      have hzV : w.heap.size ≤ V.heap.size := by omega
      clear hn2 hz1 hown5 hb1 hbu hbV0
      replace hX := Lib.hid hX
      have d0 := pV
      have hd5 := Lib.hid d5
      have hd6 := Lib.hid d6
      by_cases hmid : kz = false ∧ nz = false
      · obtain ⟨rfl, rfl⟩ := hmid
        have hm2 : midK (kx, ky, false) (nx, ny, false) = [((midP (kx, ky) (nx, ny)).1, (midP (kx, ky) (nx, ny)).2, true)] := by unfold midK; rw [if_pos ⟨rfl, rfl⟩]; rfl
        have hcall := Lib.hid (fun W => l03Mid_any kx ky nx ny W hok1 hok2)
        obtain ⟨px, hpx⟩ : ∃ x, x = (midP (kx, ky) (nx, ny)).1 := ⟨_, rfl⟩
        obtain ⟨py, hpy⟩ : ∃ x, x = (midP (kx, ky) (nx, ny)).2 := ⟨_, rfl⟩
        rw [← hpx, ← hpy] at hm2 hcall
        have hst2 : fullTo K (k + 1) = fullTo K k ++ [(kx, ky, false)] ++ [(px, py, true)] := by rw [hst.out, hm2]; simp
        replace hst2 := Lib.hid hst2
        clear hm2 hpx hpy hok1 hok2
        have hq1 : q + 1 ≤ 2001 := by omega
        go_wp2_with fail
        refine wp_region_head 15 (fun w' => w'.cell? ⟨p, po, none⟩ = some (.slice (some ⟨b, off, none⟩) n c) ∧ w'.cell? ⟨b, off + k * 3, none⟩ = some (.int .i64 kx) ∧ w'.cell? ⟨b, off + k * 3 + 1, none⟩ = some (.int .i64 ky) ∧ w'.cell? ⟨X, 0, none⟩ = some (.int .i64 nx) ∧ w'.cell? ⟨X, 1, none⟩ = some (.int .i64 ny)) (by kernel_rfl) (by kernel_rfl) (by exact ⟨d0, d1, d2, d3, d4⟩) (fun hHeld => ?_)
        simp only [List.take_succ_cons, List.take_zero, List.drop_succ_cons, List.drop_zero]
        refine wpAnyH_take (i := 0) (v := ?_) ((List.getElem?_toArray).trans rfl) (by kernel_rfl) (by kernel_rfl) (by kernel_rfl) (fun _ _ _ h => h) (Or.inl ⟨by rfl, ?_⟩) (by assumption) ?_
        rotate_left
        · (intro w hSw; (try dsimp only at hSw); go_simp; (try (with_reducible rfl)))
        (try simp only [Act.put, List.setIfInBounds_toArray, List.set_cons_zero, List.set_cons_succ])
        refine wpAnyH_take (i := 1) (v := ?_) ((List.getElem?_toArray).trans rfl) (by kernel_rfl) (by kernel_rfl) (by kernel_rfl) (fun _ _ _ h => h) (Or.inl ⟨by rfl, ?_⟩) (by assumption) ?_
        rotate_left
        · (intro w hSw; (try dsimp only at hSw); go_simp; (try (with_reducible rfl)))
        (try simp only [Act.put, List.setIfInBounds_toArray, List.set_cons_zero, List.set_cons_succ])
        refine wpAnyH_take (i := 2) (v := ?_) ((List.getElem?_toArray).trans rfl) (by kernel_rfl) (by kernel_rfl) (by kernel_rfl) (fun _ _ _ h => h) (Or.inl ⟨by rfl, ?_⟩) (by assumption) ?_
        rotate_left
        · (intro w hSw; (try dsimp only at hSw); go_simp; (try (with_reducible rfl)))
        (try simp only [Act.put, List.setIfInBounds_toArray, List.set_cons_zero, List.set_cons_succ])
        refine wpAnyH_take (i := 3) (v := ?_) ((List.getElem?_toArray).trans rfl) (by kernel_rfl) (by kernel_rfl) (by kernel_rfl) (fun _ _ _ h => h) (Or.inl ⟨by rfl, ?_⟩) (by assumption) ?_
        rotate_left
        · (intro w hSw; (try dsimp only at hSw); go_simp; (try (with_reducible rfl)))
        (try simp only [Act.put, List.setIfInBounds_toArray, List.set_cons_zero, List.set_cons_succ])
        refine wpAnyH_take (i := 4) (v := ?_) ((List.getElem?_toArray).trans rfl) (by kernel_rfl) (by kernel_rfl) (by kernel_rfl) (fun _ _ _ h => h) (Or.inl ⟨by rfl, ?_⟩) (by assumption) ?_
        rotate_left
        · (intro w hSw; (try dsimp only at hSw); go_simp; (try (with_reducible rfl)))
        (try simp only [Act.put, List.setIfInBounds_toArray, List.set_cons_zero, List.set_cons_succ])
        refine wpAnyH_take (i := 5) (v := ?_) ((List.getElem?_toArray).trans rfl) (by kernel_rfl) (by kernel_rfl) (by kernel_rfl) (fun _ _ _ h => h) (Or.inl ⟨by rfl, ?_⟩) (by assumption) ?_
        rotate_left
        · (intro w hSw; (try dsimp only at hSw); go_simp; (try (with_reducible rfl)))
        (try simp only [Act.put, List.setIfInBounds_toArray, List.set_cons_zero, List.set_cons_succ])
        refine wpAnyH_take (i := 6) (v := ?_) ((List.getElem?_toArray).trans rfl) (by kernel_rfl) (by kernel_rfl) (by kernel_rfl) (fun _ _ _ h => h) (Or.inl ⟨by rfl, ?_⟩) (by assumption) ?_
        rotate_left
        · (intro w hSw; (try dsimp only at hSw); go_simp; (try (with_reducible rfl)))
        (try simp only [Act.put, List.setIfInBounds_toArray, List.set_cons_zero, List.set_cons_succ])
        refine wpAnyH_take (i := 7) (v := ?_) ((List.getElem?_toArray).trans rfl) (by kernel_rfl) (by kernel_rfl) (by kernel_rfl) (fun _ _ _ h => h) (Or.inl ⟨by rfl, ?_⟩) (by assumption) ?_
        rotate_left
        · (intro w hSw; (try dsimp only at hSw); go_simp; (try (with_reducible rfl)))
        (try simp only [Act.put, List.setIfInBounds_toArray, List.set_cons_zero, List.set_cons_succ])
        refine wpAnyH_take (i := 8) (v := ?_) ((List.getElem?_toArray).trans rfl) (by kernel_rfl) (by kernel_rfl) (by kernel_rfl) (fun _ _ _ h => h) (Or.inl ⟨by rfl, ?_⟩) (by assumption) ?_
        rotate_left
        · (intro w hSw; (try dsimp only at hSw); go_simp; (try (with_reducible rfl)))
        (try simp only [Act.put, List.setIfInBounds_toArray, List.set_cons_zero, List.set_cons_succ])
        refine wpAnyH_take (i := 9) (v := ?_) ((List.getElem?_toArray).trans rfl) (by kernel_rfl) (by kernel_rfl) (by kernel_rfl) (fun _ _ _ h => h) (Or.inl ⟨by rfl, ?_⟩) (by assumption) ?_
        rotate_left
        · (intro w hSw; (try dsimp only at hSw); go_simp; (try (with_reducible rfl)))
        (try simp only [Act.put, List.setIfInBounds_toArray, List.set_cons_zero, List.set_cons_succ])
        refine wpAnyH_take (i := 10) (v := ?_) ((List.getElem?_toArray).trans rfl) (by kernel_rfl) (by kernel_rfl) (by kernel_rfl) (fun _ _ _ h => h) (Or.inl ⟨by rfl, ?_⟩) (by assumption) ?_
        rotate_left
        · (intro w hSw; (try dsimp only at hSw); go_simp; (try (with_reducible rfl)))
        (try simp only [Act.put, List.setIfInBounds_toArray, List.set_cons_zero, List.set_cons_succ])
        refine wpAnyH_ready (rs := [11]) (by kernel_rfl) (by simp) ?_
        refine AllReadyH.cons ((List.getElem?_toArray).trans rfl) (fun K0 hK0 => ?_) AllReadyH.nil
        (go_simp; go_at_call 76; refine (hcall.out _).mono ?_; rintro e w4 ⟨rfl, hb4⟩; have hbm := Lib.hid (belowD hb4); have sC := Lib.hid (show w4.cell? ⟨p, po, none⟩ = some (.slice (some ⟨b, off, none⟩) n c) ∧ w4.cell? ⟨b, off + k * 3, none⟩ = some (.int .i64 kx) ∧ w4.cell? ⟨b, off + k * 3 + 1, none⟩ = some (.int .i64 ky) ∧ w4.cell? ⟨X, 0, none⟩ = some (.int .i64 nx) ∧ w4.cell? ⟨X, 1, none⟩ = some (.int .i64 ny) from ⟨(hbm.out.cell (p := ⟨p, po, none⟩) pl5).trans d0, (hbm.out.cell (p := ⟨b, off + k * 3, none⟩) bl5).trans d1, (hbm.out.cell (p := ⟨b, off + k * 3 + 1, none⟩) bl5).trans d2, (hbm.out.cell (p := ⟨X, 0, none⟩) xl5).trans d3, (hbm.out.cell (p := ⟨X, 1, none⟩) xl5).trans d4⟩); dsimp only)
        refine hK0.out _ _ ?_ (fun hHeld => ?_)
        · (exact sC.out)
        clear hK0 K0
        (try simp only [Act.put, List.setIfInBounds_toArray, List.set_cons_zero, List.set_cons_succ])
        refine wpAnyH_take (i := 12) (v := ?_) ((List.getElem?_toArray).trans rfl) (by kernel_rfl) (by kernel_rfl) (by kernel_rfl) (fun _ _ _ h => h) (Or.inl ⟨by rfl, ?_⟩) (by assumption) ?_
        rotate_left
        · (intro w hSw; (try dsimp only at hSw); go_simp; (try (with_reducible rfl)))
        (try simp only [Act.put, List.setIfInBounds_toArray, List.set_cons_zero, List.set_cons_succ])
        refine wpAnyH_ready (rs := [13]) (by kernel_rfl) (by simp) ?_
        refine AllReadyH.cons ((List.getElem?_toArray).trans rfl) (fun K0 hK0 => ?_) AllReadyH.nil
        go_simp
        refine hK0.out _ _ ?_ (fun hHeld => ?_)
        · (exact ⟨Lib.cell?_alloc_some _ sC.out.1, Lib.cell?_alloc_some _ sC.out.2.1, Lib.cell?_alloc_some _ sC.out.2.2.1, Lib.cell?_alloc_some _ sC.out.2.2.2.1, Lib.cell?_alloc_some _ sC.out.2.2.2.2⟩)
        clear hK0 K0
        (try simp only [Act.put, List.setIfInBounds_toArray, List.set_cons_zero, List.set_cons_succ])
        refine wpAnyH_ready (rs := [14]) (by kernel_rfl) (by simp) ?_
        refine AllReadyH.cons ((List.getElem?_toArray).trans rfl) (fun K0 hK0 => ?_) AllReadyH.nil
        (refine stepAppAt rfl (.tmp 52) (.tmp 65) elemKnot rfl (v := .slice A2 (q + 1) c2) (n := q + 1) (xs := (fullTo K k).flatMap knotC ++ [.int .i64 kx, .int .i64 ky, .bool false]) rfl ((own_below hownV.out hbm.out).alloc _) rfl (src_at (cs := [.int .i64 px, .int .i64 py, .bool true]) rfl (by simp [Value.oneCell']) (by simp)) (by omega) (by omega) (by have := hbm.out.size; simp; omega) (q + 1 + 1) rfl ?_; intro A5 c5 w5 ho5 hg5; have sE := Lib.hid (show w5.cell? ⟨p, po, none⟩ = some (.slice (some ⟨b, off, none⟩) n c) ∧ w5.cell? ⟨b, off + k * 3, none⟩ = some (.int .i64 kx) ∧ w5.cell? ⟨b, off + k * 3 + 1, none⟩ = some (.int .i64 ky) ∧ w5.cell? ⟨X, 0, none⟩ = some (.int .i64 nx) ∧ w5.cell? ⟨X, 1, none⟩ = some (.int .i64 ny) from ⟨(cells_app hg5 (Go.Joins.below_alloc1 _ _) (Nat.lt_of_lt_of_le pl5 hbm.out.size) neP).trans sC.out.1, (cells_app hg5 (Go.Joins.below_alloc1 _ _) (Nat.lt_of_lt_of_le bl5 hbm.out.size) neB).trans sC.out.2.1, (cells_app hg5 (Go.Joins.below_alloc1 _ _) (Nat.lt_of_lt_of_le bl5 hbm.out.size) neB).trans sC.out.2.2.1, (cells_app hg5 (Go.Joins.below_alloc1 _ _) (Nat.lt_of_lt_of_le xl5 hbm.out.size) neX).trans sC.out.2.2.2.1, (cells_app hg5 (Go.Joins.below_alloc1 _ _) (Nat.lt_of_lt_of_le xl5 hbm.out.size) neX).trans sC.out.2.2.2.2⟩); replace ho5 := Lib.hid ho5; replace hg5 := Lib.hid hg5)
        refine hK0.out _ _ ?_ (fun hHeld => ?_)
        · (exact sE.out)
        clear hK0 K0
        (try simp only [Act.put, List.setIfInBounds_toArray, List.set_cons_zero, List.set_cons_succ])
        refine wpAnyH_done (by kernel_rfl) ?_ _
        show wpList _ _ _ _ _ _
        go_wp2_with fail
        go_roundw
        case rel =>
          refine ⟨k + 1, A5, c5, q + 1 + 1, by go_num, by omega, by rw [hst2.out]; simp [← hq.out], rfl, ?_, ?_⟩
          · rw [hst2.out, knot_snoc, knot_snoc]
            have h := ho5.out
            rw [show (List.flatMap knotC (fullTo K k) ++ knotC (kx, ky, false)) = List.flatMap knotC (fullTo K k) ++ [.int .i64 kx, .int .i64 ky, .bool false] from rfl]
            exact h
          · exact (hbelV.out.trans ((hbm.out.mono hzV).alloc (by have := hbm.out.size; omega) _)).grown hg5.out (by have := hbm.out.size; simp; omega) (fun g hg => by have := (hownV.out.lt g hg).1; omega)
        case measure => simp [intOf]; omega
      · have hm2 : midK (kx, ky, kz) (nx, ny, nz) = [] := by unfold midK; rw [if_neg hmid]
        have hst2 : fullTo K (k + 1) = fullTo K k ++ [(kx, ky, kz)] := by rw [hst.out, hm2]
        replace hst2 := Lib.hid hst2
        clear hm2
        cases kz with
        | true =>
          clear hmid
          go_wp2_with fail
          go_roundw
          case rel => exact ⟨k + 1, A2, c2, q + 1, by go_num, by omega, by rw [hst2.out]; simp [← hq.out], rfl, by rw [hst2.out, knot_snoc]; exact hownV.out, hbelV.out⟩
          case measure => simp [intOf]; omega
        | false =>
          cases nz with
          | false => exact absurd ⟨rfl, rfl⟩ hmid
          | true =>
            clear hmid
            go_wp2_with fail
            go_roundw
            case rel => exact ⟨k + 1, A2, c2, q + 1, by go_num, by omega, by rw [hst2.out]; simp [← hq.out], rfl, by rw [hst2.out, knot_snoc]; exact hownV.out, hbelV.out⟩
            case measure => simp [intOf]; omega
end Go.Proofs.YtgelkdcggnffeaaGreat

