/- The edges of a ring: both sides. Printed by mk_ed1.py. Conditions: as each states. -/
import Derived.Test.YtgelkdcggnffeaaGreatFtg20
import Derived.Test.YtgelkdcggnffeaaGreatFtg32
import Derived.Test.YtgelkdcggnffeaaGreatFtg33
namespace Go.Proofs.YtgelkdcggnffeaaGreat
open Go.RowKit
set_option linter.unusedVariables false
set_option maxRecDepth 100000

def edgeC (e : Pnt × Pnt) : List Value := [.int .i64 e.1.1, .int .i64 e.1.2, .int .i64 e.2.1, .int .i64 e.2.2]
theorem edgeC_len (e : Pnt × Pnt) : (edgeC e).length = 4 := rfl
theorem edgeC_one (e : Pnt × Pnt) : ∀ u ∈ edgeC e, u.oneCell' = true := by
  intro u hu
  simp only [edgeC, List.mem_cons, List.not_mem_nil, or_false] at hu
  rcases hu with rfl | rfl | rfl | rfl <;> rfl
theorem elemEdge : Elem Tryz.prog 77 135 4 32 := elem_mk (z := .agg #[.int .i64 0, .int .i64 0, .int .i64 0, .int .i64 0]) Tryz.underlying77 (by kernel_rfl) rfl (by omega)
theorem elemLeg : Elem Tryz.prog 80 109 4 32 := elem_mk (z := .agg #[.int .i64 0, .int .i64 0, .int .i64 0, .int .i64 0]) Tryz.underlying80 (by kernel_rfl) rfl (by omega)
theorem edge_snoc (L : List (Pnt × Pnt)) (e : Pnt × Pnt) : (L ++ [e]).flatMap edgeC = L.flatMap edgeC ++ edgeC e := by simp

set_option maxHeartbeats 8000000 in
theorem l13Edges_any (p po : Nat) (A : Option Addr) (n c lo hi : Nat) (L : List Pnt) (w : World) (hp : w.cell? ⟨p, po, none⟩ = some (.slice A n c)) (hr : RdS 2 (FlatR ptC) w lo hi A n L) (hhi : hi ≤ w.heap.size) (hn1 : 1 ≤ n) (hn : n ≤ 1000) :
    Calls Tryz.prog 56 #[.pointer (some ⟨p, po, none⟩)] w fun e w' => ∃ (A' : Option Addr) (c' : Nat), e = .returned (.slice A' (edgesL L).length c') ∧ w'.ownsRow w.heap.size 135 4 (.slice A' (edgesL L).length c') (edgesL L).length ((edgesL L).flatMap edgeC) ∧ Below w.heap.size w w' := by
  have hll := Lib.hid hr.1
  have hpl : p < w.heap.size := cell_lt hp
  obtain ⟨E, hE⟩ : ∃ E, E = edgesL L := ⟨_, rfl⟩
  rw [← hE]
  replace hE := Lib.hid hE
  replace hr := Lib.hid hr
  have hpH := Lib.hid hp
  go_enter Tryz.func56, Tryz.ntmps56
  go_wp2_with fail
  clear hp
  go_loopw [3, 5] (fun ov iv wr => ∃ (k : Nat) (A1 : Option Addr) (c1 q : Nat), iv = .int .i64 k ∧ k ≤ n ∧ q = (edgesTo L k).length ∧ ov = .slice A1 q c1 ∧ wr.ownsRow w.heap.size 135 4 (.slice A1 q c1) q ((edgesTo L k).flatMap edgeC) ∧ Below w.heap.size w wr) (fun ov iv wr => n - (intOf iv).toNat)
  case atStart => exact ⟨0, _, _, 0, rfl, Nat.zero_le _, by simp [edgesTo], rfl, World.ownsRow_lit w _ _ (Nat.le_refl _) (by decide) (by simp), (Below.refl _ _).alloc (Nat.le_refl _) _⟩
  case round =>
    obtain ⟨k, A1, c1, q, rfl, hk, hq, rfl, hown, hbel⟩ := hrel
    have hz := hbel.size
    have hqk := edgesTo_len L k
    rw [← hq] at hqk
    have hpr := (hbel.cell (p := ⟨p, po, none⟩) hpl).trans hpH.out
    have hplr : p < wr.heap.size := by omega
    replace hown := Lib.hid hown
    replace hq := Lib.hid hq
    by_cases hlt : k < n
    rotate_left
    · have hkn : k = n := by omega
      have hfin : E = edgesTo L k := by rw [hE.out, hkn, ← hll.out]; rfl
      have hki : ¬ (k : Int) < (n : Int) := by omega
      have ho := hown.out
      rw [← hfin] at ho
      have hqE : q = E.length := by rw [hq.out, hfin]
      rw [hqE] at ho
      replace ho := Lib.hid ho
      clear hown
      replace hqE := Lib.hid hqE
      replace hfin := Lib.hid hfin
      replace hkn := Lib.hid hkn
      go_wp2_with fail
      go_ret
      exact ⟨A1, c1, by rw [← hqE.out]; rfl, ho.out, hbel⟩
    obtain ⟨b, off, rfl, hb0, hb, hcs⟩ := (hr.out.frame (good_flat _) (Below.sameB hbel hhi)).pts (by omega)
    obtain ⟨m, hm⟩ : ∃ m, m = (k + 1) % n := ⟨_, rfl⟩
    have hmn : m < n := by rw [hm]; exact Nat.mod_lt _ (by omega)
    obtain ⟨c10, c11⟩ := hcs k hlt
    obtain ⟨c20, c21⟩ := hcs m hmn
    have hey : ptAt L k ≠ ptAt L m → edgesTo L (k + 1) = edgesTo L k ++ [(ptAt L k, ptAt L m)] := fun h => by rw [hm, ← hll.out] at h ⊢; exact edgesTo_yes h
    have hen : ptAt L k = ptAt L m → edgesTo L (k + 1) = edgesTo L k := fun h => by rw [hm, ← hll.out] at h; exact edgesTo_no h
    obtain ⟨⟨ax, ay⟩, ha⟩ : ∃ a, a = ptAt L k := ⟨_, rfl⟩
    obtain ⟨⟨bx, ey⟩, hbp⟩ : ∃ a, a = ptAt L m := ⟨_, rfl⟩
    rw [← ha] at c10 c11 hey hen
    rw [← hbp] at c20 c21 hey hen
    simp only at c10 c11 c20 c21
    have hbw : b < wr.heap.size := by omega
    have hki : (k : Int) < (n : Int) := by omega
    obtain ⟨y, hy⟩ : ∃ y, y = k + 1 := ⟨_, rfl⟩
    have q4 : IntKind.i64.wrap ((k : Int) + 1) = (y : Int) := by rw [wi (by omega)]; omega
    have q5 : (y : Int).tmod (n : Int) = (m : Int) := by rw [mod_i, hy, hm]
    have q6 : ¬ n = 0 := by omega
    have q7 : IntKind.i64.wrap (m : Int) = (m : Int) := wi (by omega)
    have i1 : (0 : Int) ≤ (k : Int) ∧ (k : Int) < (n : Int) := by omega
    have i2 : (0 : Int) ≤ (m : Int) ∧ (m : Int) < (n : Int) := by omega
    have hS := Lib.hid (fun (W : World) (hb : Below wr.heap.size wr W) => (show W.cell? ⟨p, po, none⟩ = some (.slice (some ⟨b, off, none⟩) n c) ∧ W.cell? ⟨b, off + k * 2, none⟩ = some (.int .i64 ax) ∧ W.cell? ⟨b, off + k * 2 + 1, none⟩ = some (.int .i64 ay) ∧ W.cell? ⟨b, off + m * 2, none⟩ = some (.int .i64 bx) ∧ W.cell? ⟨b, off + m * 2 + 1, none⟩ = some (.int .i64 ey) from ⟨(hb.cell (p := ⟨p, po, none⟩) hplr).trans hpr, (hb.cell (p := ⟨b, off + k * 2, none⟩) hbw).trans c10, (hb.cell (p := ⟨b, off + k * 2 + 1, none⟩) hbw).trans c11, (hb.cell (p := ⟨b, off + m * 2, none⟩) hbw).trans c20, (hb.cell (p := ⟨b, off + m * 2 + 1, none⟩) hbw).trans c21⟩))
    have hyH := Lib.hid hy
    replace hm := Lib.hid hm
    replace ha := Lib.hid ha
    replace hbp := Lib.hid hbp
    replace hey := Lib.hid hey
    replace hen := Lib.hid hen
    clear hcs hb0 hb hy
    go_wp2_with fail
    go_region_held3 (fun w' => w'.cell? ⟨p, po, none⟩ = some (.slice (some ⟨b, off, none⟩) n c) ∧ w'.cell? ⟨b, off + k * 2, none⟩ = some (.int .i64 ax) ∧ w'.cell? ⟨b, off + k * 2 + 1, none⟩ = some (.int .i64 ay) ∧ w'.cell? ⟨b, off + m * 2, none⟩ = some (.int .i64 bx) ∧ w'.cell? ⟨b, off + m * 2 + 1, none⟩ = some (.int .i64 ey)) (first | (refine hS.out _ ?_; repeat (first | with_reducible exact Below.refl _ _ | with_reducible refine Below.drew ?_ | with_reducible refine Below.alloc ?_ (by simp) _ | with_reducible refine Below.setCell ?_ (by simp) _))) (fail)
    all_goals
      have hn1' := heap_alloc_new wr (.cells #[.int .i64 ax, .int .i64 ay, .int .i64 bx, .int .i64 ey] 135 (0, 0))
      have hb1 : Below wr.heap.size wr (wr.alloc (.cells #[.int .i64 ax, .int .i64 ay, .int .i64 bx, .int .i64 ey] 135 (0, 0))).drew := Below.drew (Go.Joins.below_alloc1 wr _)
      have hz1 : (wr.alloc (.cells #[.int .i64 ax, .int .i64 ay, .int .i64 bx, .int .i64 ey] 135 (0, 0))).drew.heap.size = wr.heap.size + 1 := by show (wr.alloc (.cells #[.int .i64 ax, .int .i64 ay, .int .i64 bx, .int .i64 ey] 135 (0, 0))).heap.size = _; simp
      have hn2 : Hid ((wr.alloc (.cells #[.int .i64 ax, .int .i64 ay, .int .i64 bx, .int .i64 ey] 135 (0, 0))).drew.heap[wr.heap.size]? = some (.cells #[.int .i64 ax, .int .i64 ay, .int .i64 bx, .int .i64 ey] 135 (0, 0))) := hn1'
      clear hn1' hS c10 c11 c20 c21 q4 q5 q6 q7 i1 i2 hpr hplr hbw
      generalize (wr.alloc (.cells #[.int .i64 ax, .int .i64 ay, .int .i64 bx, .int .i64 ey] 135 (0, 0))).drew = V at *
      obtain ⟨X, hX⟩ : ∃ X, X = wr.heap.size := ⟨_, rfl⟩
      rw [← hX] at hn2 hz1 ⊢
      have hXV : X < V.heap.size := by omega
      have hXz : w.heap.size ≤ X := by omega
      replace hX := Lib.hid hX
      have k0 : V.cell? ⟨X, 0, none⟩ = some (.int .i64 ax) := by rw [Go.Joins.cell_of_block hn2.out]; rfl
      have k1 : V.cell? ⟨X, 1, none⟩ = some (.int .i64 ay) := by rw [Go.Joins.cell_of_block hn2.out]; rfl
      have k2 : V.cell? ⟨X, 2, none⟩ = some (.int .i64 bx) := by rw [Go.Joins.cell_of_block hn2.out]; rfl
      have k3 : V.cell? ⟨X, 3, none⟩ = some (.int .i64 ey) := by rw [Go.Joins.cell_of_block hn2.out]; rfl
      have hown1 := Lib.hid (own_below hown.out hb1)
      have hbel1 := Lib.hid (hbel.trans (hb1.mono hz))
      have hzV : w.heap.size ≤ V.heap.size := by omega
      clear hn2 hz1 hown hb1
      by_cases he : ax = bx ∧ ay = ey
      · obtain ⟨rfl, rfl⟩ := he
        have hsame := hen.out rfl
        replace hsame := Lib.hid hsame
        go_wp2_with fail
        go_roundw
        case rel => exact ⟨k + 1, A1, c1, q, by go_num, by omega, by rw [hsame.out, hq.out], rfl, by rw [hsame.out]; exact hown1.out, hbel1.out⟩
        case measure => simp [intOf]; omega
      · have hdiff := hey.out (by intro h; injection h with h1 h2; exact he ⟨h1, h2⟩)
        replace hdiff := Lib.hid hdiff
        have hql : q ≤ 1000 := by omega
        by_cases e0 : ax = bx
        · have e1 : ¬ ay = ey := fun h => he ⟨e0, h⟩
          subst e0
          have t1 : (ay == ey) = false := by simp [e1]
          clear he e1
          go_wp2_with (at_builtin; refine wpApp rfl (.tmp 41) (.tmp 43) elemEdge rfl (v := .slice A1 q c1) (n := q) (xs := (edgesTo L k).flatMap edgeC) rfl (hown1.out.alloc _) rfl (src_at (cs := [.int .i64 ax, .int .i64 ay, .int .i64 ax, .int .i64 ey]) rfl (by simp [Value.oneCell']) rfl) (by omega) (by omega) (by simp; omega) (q + 1) rfl ?_; intro A' c' w5 hown5 hb5; replace hown5 := Lib.hid hown5)
          have hbel5 := (hbel1.out.alloc hzV _).trans hb5
          clear hb5
          go_roundw
          case rel => exact ⟨k + 1, A', c', q + 1, by go_num, by omega, by rw [hdiff.out, List.length_append, ← hq.out]; rfl, rfl, by rw [hdiff.out, edge_snoc]; exact hown5.out, hbel5⟩
          case measure => simp [intOf]; omega
        · have t0 : (ax == bx) = false := by simp [e0]
          clear he e0
          go_wp2_with (at_builtin; refine wpApp rfl (.tmp 41) (.tmp 43) elemEdge rfl (v := .slice A1 q c1) (n := q) (xs := (edgesTo L k).flatMap edgeC) rfl (hown1.out.alloc _) rfl (src_at (cs := [.int .i64 ax, .int .i64 ay, .int .i64 bx, .int .i64 ey]) rfl (by simp [Value.oneCell']) rfl) (by omega) (by omega) (by simp; omega) (q + 1) rfl ?_; intro A' c' w5 hown5 hb5; replace hown5 := Lib.hid hown5)
          have hbel5 := (hbel1.out.alloc hzV _).trans hb5
          clear hb5
          go_roundw
          case rel => exact ⟨k + 1, A', c', q + 1, by go_num, by omega, by rw [hdiff.out, List.length_append, ← hq.out]; rfl, rfl, by rw [hdiff.out, edge_snoc]; exact hown5.out, hbel5⟩
          case measure => simp [intOf]; omega
end Go.Proofs.YtgelkdcggnffeaaGreat

/- The edges of a ring: the program's side. Printed by mk_ed2.py. Conditions: as each states. -/
namespace Go.Proofs.YtgelkdcggnffeaaGreat
open Go.RowKit
set_option linter.unusedVariables false
set_option maxRecDepth 100000

set_option maxHeartbeats 8000000 in
theorem edgesOfRing_any (A : Option Addr) (n c lo hi : Nat) (L : List Pnt) (w : World) (hr : RdS 2 (FlatR ptC) w lo hi A n L) (hhi : hi ≤ w.heap.size) (hn1 : 1 ≤ n) (hn : n ≤ 1000) :
    Calls Tryz.prog 35 #[.agg #[.slice A n c]] w fun e w' => ∃ (A' : Option Addr) (c' : Nat), e = .returned (.slice A' (edgesL L).length c') ∧ Below w.heap.size w w' := by
  have hll := Lib.hid hr.1
  obtain ⟨E, hE⟩ : ∃ E, E = edgesL L := ⟨_, rfl⟩
  rw [← hE]
  replace hE := Lib.hid hE
  have hb0 : Below w.heap.size w (w.alloc (.cells #[.slice A n c] 41 (0, 0))) := Go.Joins.below_alloc1 _ _
  have hz0 : (w.alloc (.cells #[.slice A n c] 41 (0, 0))).heap.size = w.heap.size + 1 := by simp
  have hp : (w.alloc (.cells #[.slice A n c] 41 (0, 0))).cell? ⟨w.heap.size, 0, none⟩ = some (.slice A n c) := by rw [Go.Joins.cell_of_block (heap_alloc_new w _)]; rfl
  replace hr := Lib.hid (hr.frame (good_flat _) (Below.sameB hb0 hhi))
  have hpH := Lib.hid hp
  go_enter Tryz.func35, Tryz.ntmps35
  go_upto_region 1 with fail
  generalize w.alloc (.cells #[.slice A n c] 41 (0, 0)) = w0 at *
  have hpl : w.heap.size < w0.heap.size := by omega
  go_wp2_with fail
  clear hp
  go_loopw [3, 10] (fun ov iv wr => ∃ (k : Nat) (A1 : Option Addr) (c1 q : Nat), iv = .int .i64 k ∧ k ≤ n ∧ q = (edgesTo L k).length ∧ ov = .slice A1 q c1 ∧ wr.ownsRow (w.heap.size + 1) 109 4 (.slice A1 q c1) q ((edgesTo L k).flatMap edgeC) ∧ Below w0.heap.size w0 wr) (fun ov iv wr => n - (intOf iv).toNat)
  case atStart => exact ⟨0, none, 0, 0, rfl, Nat.zero_le _, by simp [edgesTo], rfl, by simpa [edgesTo] using World.ownsRow_nil w0 (w.heap.size + 1) 109 4, Below.refl _ _⟩
  case round =>
    obtain ⟨k, A1, c1, q, rfl, hk, hq, rfl, hown, hbel⟩ := hrel
    have hz := hbel.size
    have hqk := edgesTo_len L k
    rw [← hq] at hqk
    have hpr := (hbel.cell (p := ⟨w.heap.size, 0, none⟩) hpl).trans hpH.out
    have hplr : w.heap.size < wr.heap.size := by omega
    replace hown := Lib.hid hown
    replace hq := Lib.hid hq
    by_cases hlt : k < n
    rotate_left
    · have hkn : k = n := by omega
      have hfin : E = edgesTo L k := by rw [hE.out, hkn, ← hll.out]; rfl
      have hki : ¬ (k : Int) < (n : Int) := by omega
      have hqE : q = E.length := by rw [hq.out, hfin]
      replace hqE := Lib.hid hqE
      replace hfin := Lib.hid hfin
      replace hkn := Lib.hid hkn
      go_wp2_with fail
      go_ret
      exact ⟨⟨A1, c1, by rw [← hqE.out]; rfl⟩, hb0.trans (hbel.mono hb0.size)⟩
    obtain ⟨b, off, rfl, hb1', hb, hcs⟩ := (hr.out.frame (good_flat _) (Below.sameB hbel (by omega))).pts (by omega)
    obtain ⟨m, hm⟩ : ∃ m, m = (k + 1) % n := ⟨_, rfl⟩
    have hmn : m < n := by rw [hm]; exact Nat.mod_lt _ (by omega)
    obtain ⟨c10, c11⟩ := hcs k hlt
    obtain ⟨c20, c21⟩ := hcs m hmn
    have hey : ptAt L k ≠ ptAt L m → edgesTo L (k + 1) = edgesTo L k ++ [(ptAt L k, ptAt L m)] := fun h => by rw [hm, ← hll.out] at h ⊢; exact edgesTo_yes h
    have hen : ptAt L k = ptAt L m → edgesTo L (k + 1) = edgesTo L k := fun h => by rw [hm, ← hll.out] at h; exact edgesTo_no h
    obtain ⟨⟨ax, ay⟩, ha⟩ : ∃ a, a = ptAt L k := ⟨_, rfl⟩
    obtain ⟨⟨bx, ey⟩, hbp⟩ : ∃ a, a = ptAt L m := ⟨_, rfl⟩
    rw [← ha] at c10 c11 hey hen
    rw [← hbp] at c20 c21 hey hen
    simp only at c10 c11 c20 c21
    have hbw : b < wr.heap.size := by omega
    have hki : (k : Int) < (n : Int) := by omega
    obtain ⟨y, hy⟩ : ∃ y, y = k + 1 := ⟨_, rfl⟩
    have q4 : IntKind.i64.wrap ((k : Int) + 1) = (y : Int) := by rw [wi (by omega)]; omega
    have q5 : (y : Int).tmod (n : Int) = (m : Int) := by rw [mod_i, hy, hm]
    have q6 : ¬ n = 0 := by omega
    have q7 : IntKind.i64.wrap (m : Int) = (m : Int) := wi (by omega)
    have i1 : (0 : Int) ≤ (k : Int) ∧ (k : Int) < (n : Int) := by omega
    have i2 : (0 : Int) ≤ (m : Int) ∧ (m : Int) < (n : Int) := by omega
    have hyH := Lib.hid hy
    replace hm := Lib.hid hm
    replace ha := Lib.hid ha
    replace hbp := Lib.hid hbp
    replace hey := Lib.hid hey
    replace hen := Lib.hid hen
    clear hcs hb1' hb hy
    have hal : Below wr.heap.size wr (wr.alloc (.cells #[.int .i64 ax, .int .i64 ay] 71 (0, 0))) := Go.Joins.below_alloc1 _ _
    have hna := Lib.hid (heap_alloc_new wr (.cells #[.int .i64 ax, .int .i64 ay] 71 (0, 0)))
    have hza : (wr.alloc (.cells #[.int .i64 ax, .int .i64 ay] 71 (0, 0))).heap.size = wr.heap.size + 1 := by simp
    have p1 := (hal.cell (p := ⟨w.heap.size, 0, none⟩) hplr).trans hpr
    have d20 := (hal.cell (p := ⟨b, off + m * 2, none⟩) hbw).trans c20
    have d21 := (hal.cell (p := ⟨b, off + m * 2 + 1, none⟩) hbw).trans c21
    go_upto_region 5 with fail
    clear c10 c11 c20 c21 hpr
    generalize wr.alloc (.cells #[.int .i64 ax, .int .i64 ay] 71 (0, 0)) = u at *
    obtain ⟨Xa, hXa⟩ : ∃ X, X = wr.heap.size := ⟨_, rfl⟩
    rw [← hXa] at hna hza ⊢
    have hXau : Xa < u.heap.size := by omega
    have hXaz : w.heap.size + 1 ≤ Xa := by omega
    have hplu : w.heap.size < u.heap.size := by omega
    have hbu : b < u.heap.size := by omega
    have hzu : wr.heap.size ≤ u.heap.size := by omega
    have hza1 : u.heap.size ≤ Xa + 1 := by omega
    have hza2 : Xa + 1 ≤ u.heap.size := by omega
    replace hXa := Lib.hid hXa
    clear hza
    have hS := Lib.hid (fun (W : World) (hb : Below u.heap.size u W) => (show W.cell? ⟨w.heap.size, 0, none⟩ = some (.slice (some ⟨b, off, none⟩) n c) ∧ W.cell? ⟨b, off + m * 2, none⟩ = some (.int .i64 bx) ∧ W.cell? ⟨b, off + m * 2 + 1, none⟩ = some (.int .i64 ey) from ⟨(hb.cell (p := ⟨w.heap.size, 0, none⟩) hplu).trans p1, (hb.cell (p := ⟨b, off + m * 2, none⟩) hbu).trans d20, (hb.cell (p := ⟨b, off + m * 2 + 1, none⟩) hbu).trans d21⟩))
    go_region_held3 (fun w' => w'.cell? ⟨w.heap.size, 0, none⟩ = some (.slice (some ⟨b, off, none⟩) n c) ∧ w'.cell? ⟨b, off + m * 2, none⟩ = some (.int .i64 bx) ∧ w'.cell? ⟨b, off + m * 2 + 1, none⟩ = some (.int .i64 ey)) (first | (refine hS.out _ ?_; repeat (first | with_reducible exact Below.refl _ _ | with_reducible refine Below.drew ?_ | with_reducible refine Below.alloc ?_ (by simp) _ | with_reducible refine Below.setCell ?_ (by simp) _))) (fail)
    all_goals
      have hn1' := heap_alloc_new u (.cells #[.int .i64 bx, .int .i64 ey] 71 (0, 0))
      have hb1 : Below u.heap.size u (u.alloc (.cells #[.int .i64 bx, .int .i64 ey] 71 (0, 0))).drew := Below.drew (Go.Joins.below_alloc1 u _)
      have hz1 : (u.alloc (.cells #[.int .i64 bx, .int .i64 ey] 71 (0, 0))).drew.heap.size = u.heap.size + 1 := by show (u.alloc (.cells #[.int .i64 bx, .int .i64 ey] 71 (0, 0))).heap.size = _; simp
      have hn2 : Hid ((u.alloc (.cells #[.int .i64 bx, .int .i64 ey] 71 (0, 0))).drew.heap[u.heap.size]? = some (.cells #[.int .i64 bx, .int .i64 ey] 71 (0, 0))) := hn1'
      have hn3 := Lib.hid ((hb1.block Xa hXau).trans hna.out)
      clear hn1' hS d20 d21 q4 q5 q6 q7 i1 i2 p1 hbw hna
      generalize (u.alloc (.cells #[.int .i64 bx, .int .i64 ey] 71 (0, 0))).drew = V at *
      obtain ⟨X, hX⟩ : ∃ X, X = u.heap.size := ⟨_, rfl⟩
      rw [← hX] at hn2 hz1 hza1 hza2 hzu ⊢
      have hXV : X < V.heap.size := by omega
      have hXz : w.heap.size + 1 ≤ X := by omega
      have hXaV : Xa < V.heap.size := by omega
      have hzV : w0.heap.size ≤ V.heap.size := by omega
      have hzV2 : w.heap.size + 1 ≤ V.heap.size := by omega
      replace hX := Lib.hid hX
      have k0 : V.cell? ⟨Xa, 0, none⟩ = some (.int .i64 ax) := by rw [Go.Joins.cell_of_block hn3.out]; rfl
      have k1 : V.cell? ⟨Xa, 1, none⟩ = some (.int .i64 ay) := by rw [Go.Joins.cell_of_block hn3.out]; rfl
      have k2 : V.cell? ⟨X, 0, none⟩ = some (.int .i64 bx) := by rw [Go.Joins.cell_of_block hn2.out]; rfl
      have k3 : V.cell? ⟨X, 1, none⟩ = some (.int .i64 ey) := by rw [Go.Joins.cell_of_block hn2.out]; rfl
      have hbuV : Below wr.heap.size wr V := hal.trans (hb1.mono (by have := hal.size; exact this))
      have hown1 := Lib.hid (own_below hown.out hbuV)
      have hbel1 := Lib.hid (hbel.trans (hbuV.mono hz))
      clear hn2 hn3 hz1 hown hb1 hal
      by_cases he : ax = bx ∧ ay = ey
      · obtain ⟨rfl, rfl⟩ := he
        have hsame := hen.out rfl
        replace hsame := Lib.hid hsame
        go_wp2_with fail
        go_roundw
        case rel => exact ⟨k + 1, A1, c1, q, by go_num, by omega, by rw [hsame.out, hq.out], rfl, by rw [hsame.out]; exact hown1.out, hbel1.out⟩
        case measure => simp [intOf]; omega
      · have hdiff := hey.out (by intro h; injection h with h1 h2; exact he ⟨h1, h2⟩)
        replace hdiff := Lib.hid hdiff
        have hql : q ≤ 1000 := by omega
        by_cases e0 : ax = bx
        · have e1 : ¬ ay = ey := fun h => he ⟨e0, h⟩
          subst e0
          have t1 : (ay == ey) = false := by simp [e1]
          clear he e1
          go_wp2_with (at_builtin; refine wpApp rfl (.tmp 28) (.tmp 32) elemLeg rfl (v := .slice A1 q c1) (n := q) (xs := (edgesTo L k).flatMap edgeC) rfl (hown1.out.alloc _) rfl (src_at (cs := [.int .i64 ax, .int .i64 ay, .int .i64 ax, .int .i64 ey]) rfl (by simp [Value.oneCell']) rfl) (by omega) (by omega) (by simp; omega) (q + 1) rfl ?_; intro A' c' w5 hown5 hb5; replace hown5 := Lib.hid hown5)
          have hbel5 := (hbel1.out.alloc hzV _).trans (hb5.mono (show w0.heap.size ≤ w.heap.size + 1 by omega))
          clear hb5
          go_roundw
          case rel => exact ⟨k + 1, A', c', q + 1, by go_num, by omega, by rw [hdiff.out, List.length_append, ← hq.out]; rfl, rfl, by rw [hdiff.out, edge_snoc]; exact hown5.out, hbel5⟩
          case measure => simp [intOf]; omega
        · have t0 : (ax == bx) = false := by simp [e0]
          clear he e0
          go_wp2_with (at_builtin; refine wpApp rfl (.tmp 28) (.tmp 32) elemLeg rfl (v := .slice A1 q c1) (n := q) (xs := (edgesTo L k).flatMap edgeC) rfl (hown1.out.alloc _) rfl (src_at (cs := [.int .i64 ax, .int .i64 ay, .int .i64 bx, .int .i64 ey]) rfl (by simp [Value.oneCell']) rfl) (by omega) (by omega) (by simp; omega) (q + 1) rfl ?_; intro A' c' w5 hown5 hb5; replace hown5 := Lib.hid hown5)
          have hbel5 := (hbel1.out.alloc hzV _).trans (hb5.mono (show w0.heap.size ≤ w.heap.size + 1 by omega))
          clear hb5
          go_roundw
          case rel => exact ⟨k + 1, A', c', q + 1, by go_num, by omega, by rw [hdiff.out, List.length_append, ← hq.out]; rfl, rfl, by rw [hdiff.out, edge_snoc]; exact hown5.out, hbel5⟩
          case measure => simp [intOf]; omega
end Go.Proofs.YtgelkdcggnffeaaGreat

