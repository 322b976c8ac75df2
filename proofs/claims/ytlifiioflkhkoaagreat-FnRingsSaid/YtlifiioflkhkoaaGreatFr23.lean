/- The edges of a ring: both sides. Printed by mk_ed1.py. Conditions: as each states. -/
import Derived.Test.YtlifiioflkhkoaaGreatFr16
import Derived.Test.YtlifiioflkhkoaaGreatFr22
import Derived.Test.YtlifiioflkhkoaaGreatFr21
import Derived.Test.YtlifiioflkhkoaaGreatFr11
namespace Go.Proofs.YtlifiioflkhkoaaGreat
open Go.RowKit
set_option linter.unusedVariables false
set_option maxRecDepth 100000

def edgeC (e : Pnt × Pnt) : List Value := [.int .i64 e.1.1, .int .i64 e.1.2, .int .i64 e.2.1, .int .i64 e.2.2]
theorem edgeC_len (e : Pnt × Pnt) : (edgeC e).length = 4 := rfl
theorem edgeC_one (e : Pnt × Pnt) : ∀ u ∈ edgeC e, u.oneCell' = true := by
  intro u hu
  simp only [edgeC, List.mem_cons, List.not_mem_nil, or_false] at hu
  rcases hu with rfl | rfl | rfl | rfl <;> rfl
theorem elemEdge : Elem Tryz.prog 58 83 4 32 := elem_mk (z := .agg #[.int .i64 0, .int .i64 0, .int .i64 0, .int .i64 0]) Tryz.underlying58 (by kernel_rfl) rfl (by omega)
theorem elemLeg : Elem Tryz.prog 56 78 4 32 := elem_mk (z := .agg #[.int .i64 0, .int .i64 0, .int .i64 0, .int .i64 0]) Tryz.underlying56 (by kernel_rfl) rfl (by omega)
theorem edge_snoc (L : List (Pnt × Pnt)) (e : Pnt × Pnt) : (L ++ [e]).flatMap edgeC = L.flatMap edgeC ++ edgeC e := by simp

set_option maxHeartbeats 8000000 in
theorem l13Edges_any (p po : Nat) (A : Option Addr) (n c lo hi : Nat) (L : List Pnt) (w : World) (hp : w.cell? ⟨p, po, none⟩ = some (.slice A n c)) (hr : RdS 2 (FlatR ptC) w lo hi A n L) (hhi : hi ≤ w.heap.size) (hn1 : 1 ≤ n) (hn : n ≤ 1000) :
    Calls Tryz.prog 43 #[.pointer (some ⟨p, po, none⟩)] w fun e w' => ∃ (A' : Option Addr) (c' : Nat), e = .returned (.slice A' (edgesL L).length c') ∧ w'.ownsRow w.heap.size 83 4 (.slice A' (edgesL L).length c') (edgesL L).length ((edgesL L).flatMap edgeC) ∧ Below w.heap.size w w' := by
  have hll := Lib.hid hr.1
  have hpl : p < w.heap.size := cell_lt hp
  obtain ⟨E, hE⟩ : ∃ E, E = edgesL L := ⟨_, rfl⟩
  rw [← hE]
  replace hE := Lib.hid hE
  replace hr := Lib.hid hr
  have hpH := Lib.hid hp
  go_enter Tryz.func43, Tryz.ntmps43
  go_wp2_with fail
  clear hp
  go_loopw [3, 5] (fun ov iv wr => ∃ (k : Nat) (A1 : Option Addr) (c1 q : Nat), iv = .int .i64 k ∧ k ≤ n ∧ q = (edgesTo L k).length ∧ ov = .slice A1 q c1 ∧ wr.ownsRow w.heap.size 83 4 (.slice A1 q c1) q ((edgesTo L k).flatMap edgeC) ∧ Below w.heap.size w wr) (fun ov iv wr => n - (intOf iv).toNat)
  case atStart => exact ⟨0, _, _, 0, rfl, Nat.zero_le _, by simp [edgesTo], rfl, World.ownsRow_lit w _ _ (Nat.le_refl _) (by decide) (by simp), (Below.refl _ _).alloc (Nat.le_refl _) _⟩
  case round =>
    obtain ⟨k, A1, c1, q, rfl, hk, hq, rfl, hown, hbel⟩ := hrel
    have hz := hbel.size
    have hqk := edgesTo_len L k
    rw [← hq] at hqk
    have hpr := (hbel.cell (p := ⟨p, po, none⟩) hpl).trans hpH.out
    have hplr : p < wr.heap.size := by omega
    replace hown := Lib.hid hown
    replace hq := Lib.hid hq
    by_cases hlt : k < n
    rotate_left
    · have hkn : k = n := by omega
      have hfin : E = edgesTo L k := by rw [hE.out, hkn, ← hll.out]; rfl
      have hki : ¬ (k : Int) < (n : Int) := by omega
      have ho := hown.out
      rw [← hfin] at ho
      have hqE : q = E.length := by rw [hq.out, hfin]
      rw [hqE] at ho
      replace ho := Lib.hid ho
      clear hown
      replace hqE := Lib.hid hqE
      replace hfin := Lib.hid hfin
      replace hkn := Lib.hid hkn
      go_wp2_with fail
      go_ret
      exact ⟨A1, c1, by rw [← hqE.out]; rfl, ho.out, hbel⟩
    obtain ⟨b, off, rfl, hb0, hb, hcs⟩ := (hr.out.frame (good_flat _) (Below.sameB hbel hhi)).pts (by omega)
    obtain ⟨m, hm⟩ : ∃ m, m = (k + 1) % n := ⟨_, rfl⟩
    have hmn : m < n := by rw [hm]; exact Nat.mod_lt _ (by omega)
    obtain ⟨c10, c11⟩ := hcs k hlt
    obtain ⟨c20, c21⟩ := hcs m hmn
    have hey : ptAt L k ≠ ptAt L m → edgesTo L (k + 1) = edgesTo L k ++ [(ptAt L k, ptAt L m)] := fun h => by rw [hm, ← hll.out] at h ⊢; exact edgesTo_yes h
    have hen : ptAt L k = ptAt L m → edgesTo L (k + 1) = edgesTo L k := fun h => by rw [hm, ← hll.out] at h; exact edgesTo_no h
    obtain ⟨⟨ax, ay⟩, ha⟩ : ∃ a, a = ptAt L k := ⟨_, rfl⟩
    obtain ⟨⟨bx, ey⟩, hbp⟩ : ∃ a, a = ptAt L m := ⟨_, rfl⟩
    rw [← ha] at c10 c11 hey hen
    rw [← hbp] at c20 c21 hey hen
    simp only at c10 c11 c20 c21
    have hbw : b < wr.heap.size := by omega
    have hki : (k : Int) < (n : Int) := by omega
    obtain ⟨y, hy⟩ : ∃ y, y = k + 1 := ⟨_, rfl⟩
    have q4 : IntKind.i64.wrap ((k : Int) + 1) = (y : Int) := by rw [wi (by omega)]; omega
    have q5 : (y : Int).tmod (n : Int) = (m : Int) := by rw [mod_i, hy, hm]
    have q6 : ¬ n = 0 := by omega
    have q7 : IntKind.i64.wrap (m : Int) = (m : Int) := wi (by omega)
    have i1 : (0 : Int) ≤ (k : Int) ∧ (k : Int) < (n : Int) := by omega
    have i2 : (0 : Int) ≤ (m : Int) ∧ (m : Int) < (n : Int) := by omega
    have hS := Lib.hid (fun (W : World) (hb : Below wr.heap.size wr W) => (show W.cell? ⟨p, po, none⟩ = some (.slice (some ⟨b, off, none⟩) n c) ∧ W.cell? ⟨b, off + k * 2, none⟩ = some (.int .i64 ax) ∧ W.cell? ⟨b, off + k * 2 + 1, none⟩ = some (.int .i64 ay) ∧ W.cell? ⟨b, off + m * 2, none⟩ = some (.int .i64 bx) ∧ W.cell? ⟨b, off + m * 2 + 1, none⟩ = some (.int .i64 ey) from ⟨(hb.cell (p := ⟨p, po, none⟩) hplr).trans hpr, (hb.cell (p := ⟨b, off + k * 2, none⟩) hbw).trans c10, (hb.cell (p := ⟨b, off + k * 2 + 1, none⟩) hbw).trans c11, (hb.cell (p := ⟨b, off + m * 2, none⟩) hbw).trans c20, (hb.cell (p := ⟨b, off + m * 2 + 1, none⟩) hbw).trans c21⟩))
    have hyH := Lib.hid hy
    replace hm := Lib.hid hm
    replace ha := Lib.hid ha
    replace hbp := Lib.hid hbp
    replace hey := Lib.hid hey
    replace hen := Lib.hid hen
    clear hcs hb0 hb hy
    go_wp2_with fail
    go_region_held3 (fun w' => w'.cell? ⟨p, po, none⟩ = some (.slice (some ⟨b, off, none⟩) n c) ∧ w'.cell? ⟨b, off + k * 2, none⟩ = some (.int .i64 ax) ∧ w'.cell? ⟨b, off + k * 2 + 1, none⟩ = some (.int .i64 ay) ∧ w'.cell? ⟨b, off + m * 2, none⟩ = some (.int .i64 bx) ∧ w'.cell? ⟨b, off + m * 2 + 1, none⟩ = some (.int .i64 ey)) (first | (refine hS.out _ ?_; repeat (first | with_reducible exact Below.refl _ _ | with_reducible refine Below.drew ?_ | with_reducible refine Below.alloc ?_ (by simp) _ | with_reducible refine Below.setCell ?_ (by simp) _))) (fail)
    all_goals
      have hn1' := heap_alloc_new wr (.cells #[.int .i64 ax, .int .i64 ay, .int .i64 bx, .int .i64 ey] 83 (0, 0))
      have hb1 : Below wr.heap.size wr (wr.alloc (.cells #[.int .i64 ax, .int .i64 ay, .int .i64 bx, .int .i64 ey] 83 (0, 0))).drew := Below.drew (Go.Joins.below_alloc1 wr _)
      have hz1 : (wr.alloc (.cells #[.int .i64 ax, .int .i64 ay, .int .i64 bx, .int .i64 ey] 83 (0, 0))).drew.heap.size = wr.heap.size + 1 := by show (wr.alloc (.cells #[.int .i64 ax, .int .i64 ay, .int .i64 bx, .int .i64 ey] 83 (0, 0))).heap.size = _; simp
      have hn2 : Hid ((wr.alloc (.cells #[.int .i64 ax, .int .i64 ay, .int .i64 bx, .int .i64 ey] 83 (0, 0))).drew.heap[wr.heap.size]? = some (.cells #[.int .i64 ax, .int .i64 ay, .int .i64 bx, .int .i64 ey] 83 (0, 0))) := hn1'
      clear hn1' hS c10 c11 c20 c21 q4 q5 q6 q7 i1 i2 hpr hplr hbw
      generalize (wr.alloc (.cells #[.int .i64 ax, .int .i64 ay, .int .i64 bx, .int .i64 ey] 83 (0, 0))).drew = V at *
      obtain ⟨X, hX⟩ : ∃ X, X = wr.heap.size := ⟨_, rfl⟩
      rw [← hX] at hn2 hz1 ⊢
      have hXV : X < V.heap.size := by omega
      have hXz : w.heap.size ≤ X := by omega
      replace hX := Lib.hid hX
      have k0 : V.cell? ⟨X, 0, none⟩ = some (.int .i64 ax) := by rw [Go.Joins.cell_of_block hn2.out]; rfl
      have k1 : V.cell? ⟨X, 1, none⟩ = some (.int .i64 ay) := by rw [Go.Joins.cell_of_block hn2.out]; rfl
      have k2 : V.cell? ⟨X, 2, none⟩ = some (.int .i64 bx) := by rw [Go.Joins.cell_of_block hn2.out]; rfl
      have k3 : V.cell? ⟨X, 3, none⟩ = some (.int .i64 ey) := by rw [Go.Joins.cell_of_block hn2.out]; rfl
      have hown1 := Lib.hid (own_below hown.out hb1)
      have hbel1 := Lib.hid (hbel.trans (hb1.mono hz))
      have hzV : w.heap.size ≤ V.heap.size := by omega
      clear hn2 hz1 hown hb1
      by_cases he : ax = bx ∧ ay = ey
      · obtain ⟨rfl, rfl⟩ := he
        have hsame := hen.out rfl
        replace hsame := Lib.hid hsame
        go_wp2_with fail
        go_roundw
        case rel => exact ⟨k + 1, A1, c1, q, by go_num, by omega, by rw [hsame.out, hq.out], rfl, by rw [hsame.out]; exact hown1.out, hbel1.out⟩
        case measure => simp [intOf]; omega
      · have hdiff := hey.out (by intro h; injection h with h1 h2; exact he ⟨h1, h2⟩)
        replace hdiff := Lib.hid hdiff
        have hql : q ≤ 1000 := by omega
        by_cases e0 : ax = bx
        · have e1 : ¬ ay = ey := fun h => he ⟨e0, h⟩
          subst e0
          have t1 : (ay == ey) = false := by simp [e1]
          clear he e1
          go_wp2_with (at_builtin; refine wpApp rfl (.tmp 41) (.tmp 43) elemEdge rfl (v := .slice A1 q c1) (n := q) (xs := (edgesTo L k).flatMap edgeC) rfl (hown1.out.alloc _) rfl (src_at (cs := [.int .i64 ax, .int .i64 ay, .int .i64 ax, .int .i64 ey]) rfl (by simp [Value.oneCell']) rfl) (by omega) (by omega) (by simp; omega) (q + 1) rfl ?_; intro A' c' w5 hown5 hb5; replace hown5 := Lib.hid hown5)
          have hbel5 := (hbel1.out.alloc hzV _).trans hb5
          clear hb5
          go_roundw
          case rel => exact ⟨k + 1, A', c', q + 1, by go_num, by omega, by rw [hdiff.out, List.length_append, ← hq.out]; rfl, rfl, by rw [hdiff.out, edge_snoc]; exact hown5.out, hbel5⟩
          case measure => simp [intOf]; omega
        · have t0 : (ax == bx) = false := by simp [e0]
          clear he e0
          go_wp2_with (at_builtin; refine wpApp rfl (.tmp 41) (.tmp 43) elemEdge rfl (v := .slice A1 q c1) (n := q) (xs := (edgesTo L k).flatMap edgeC) rfl (hown1.out.alloc _) rfl (src_at (cs := [.int .i64 ax, .int .i64 ay, .int .i64 bx, .int .i64 ey]) rfl (by simp [Value.oneCell']) rfl) (by omega) (by omega) (by simp; omega) (q + 1) rfl ?_; intro A' c' w5 hown5 hb5; replace hown5 := Lib.hid hown5)
          have hbel5 := (hbel1.out.alloc hzV _).trans hb5
          clear hb5
          go_roundw
          case rel => exact ⟨k + 1, A', c', q + 1, by go_num, by omega, by rw [hdiff.out, List.length_append, ← hq.out]; rfl, rfl, by rw [hdiff.out, edge_snoc]; exact hown5.out, hbel5⟩
          case measure => simp [intOf]; omega
end Go.Proofs.YtlifiioflkhkoaaGreat

/- The edges of a ring: the program's side. Printed by mk_ed2.py. Conditions: as each states. -/
namespace Go.Proofs.YtlifiioflkhkoaaGreat
open Go.RowKit
set_option linter.unusedVariables false
set_option maxRecDepth 100000

set_option maxHeartbeats 8000000 in
theorem edgesOfRing_any (A : Option Addr) (n c lo hi : Nat) (L : List Pnt) (w : World) (hr : RdS 2 (FlatR ptC) w lo hi A n L) (hhi : hi ≤ w.heap.size) (hn1 : 1 ≤ n) (hn : n ≤ 1000) :
    Calls Tryz.prog 39 #[.agg #[.slice A n c]] w fun e w' => ∃ (A' : Option Addr) (c' : Nat), e = .returned (.slice A' (edgesL L).length c') ∧ Below w.heap.size w w' := by
  have hll := Lib.hid hr.1
  obtain ⟨E, hE⟩ : ∃ E, E = edgesL L := ⟨_, rfl⟩
  rw [← hE]
  replace hE := Lib.hid hE
  have hb0 : Below w.heap.size w (w.alloc (.cells #[.slice A n c] 42 (0, 0))) := Go.Joins.below_alloc1 _ _
  have hz0 : (w.alloc (.cells #[.slice A n c] 42 (0, 0))).heap.size = w.heap.size + 1 := by simp
  have hp : (w.alloc (.cells #[.slice A n c] 42 (0, 0))).cell? ⟨w.heap.size, 0, none⟩ = some (.slice A n c) := by rw [Go.Joins.cell_of_block (heap_alloc_new w _)]; rfl
  replace hr := Lib.hid (hr.frame (good_flat _) (Below.sameB hb0 hhi))
  have hpH := Lib.hid hp
  go_enter Tryz.func39, Tryz.ntmps39
  go_upto_region 1 with fail
  generalize w.alloc (.cells #[.slice A n c] 42 (0, 0)) = w0 at *
  have hpl : w.heap.size < w0.heap.size := by omega
  go_wp2_with fail
  clear hp
  go_loopw [3, 10] (fun ov iv wr => ∃ (k : Nat) (A1 : Option Addr) (c1 q : Nat), iv = .int .i64 k ∧ k ≤ n ∧ q = (edgesTo L k).length ∧ ov = .slice A1 q c1 ∧ wr.ownsRow (w.heap.size + 1) 78 4 (.slice A1 q c1) q ((edgesTo L k).flatMap edgeC) ∧ Below w0.heap.size w0 wr) (fun ov iv wr => n - (intOf iv).toNat)
  case atStart => exact ⟨0, none, 0, 0, rfl, Nat.zero_le _, by simp [edgesTo], rfl, by simpa [edgesTo] using World.ownsRow_nil w0 (w.heap.size + 1) 78 4, Below.refl _ _⟩
  case round =>
    obtain ⟨k, A1, c1, q, rfl, hk, hq, rfl, hown, hbel⟩ := hrel
    have hz := hbel.size
    have hqk := edgesTo_len L k
    rw [← hq] at hqk
    have hpr := (hbel.cell (p := ⟨w.heap.size, 0, none⟩) hpl).trans hpH.out
    have hplr : w.heap.size < wr.heap.size := by omega
    replace hown := Lib.hid hown
    replace hq := Lib.hid hq
    by_cases hlt : k < n
    rotate_left
    · have hkn : k = n := by omega
      have hfin : E = edgesTo L k := by rw [hE.out, hkn, ← hll.out]; rfl
      have hki : ¬ (k : Int) < (n : Int) := by omega
      have hqE : q = E.length := by rw [hq.out, hfin]
      replace hqE := Lib.hid hqE
      replace hfin := Lib.hid hfin
      replace hkn := Lib.hid hkn
      go_wp2_with fail
      go_ret
      exact ⟨⟨A1, c1, by rw [← hqE.out]; rfl⟩, hb0.trans (hbel.mono hb0.size)⟩
    obtain ⟨b, off, rfl, hb1', hb, hcs⟩ := (hr.out.frame (good_flat _) (Below.sameB hbel (by omega))).pts (by omega)
    obtain ⟨m, hm⟩ : ∃ m, m = (k + 1) % n := ⟨_, rfl⟩
    have hmn : m < n := by rw [hm]; exact Nat.mod_lt _ (by omega)
    obtain ⟨c10, c11⟩ := hcs k hlt
    obtain ⟨c20, c21⟩ := hcs m hmn
    have hey : ptAt L k ≠ ptAt L m → edgesTo L (k + 1) = edgesTo L k ++ [(ptAt L k, ptAt L m)] := fun h => by rw [hm, ← hll.out] at h ⊢; exact edgesTo_yes h
    have hen : ptAt L k = ptAt L m → edgesTo L (k + 1) = edgesTo L k := fun h => by rw [hm, ← hll.out] at h; exact edgesTo_no h
    obtain ⟨⟨ax, ay⟩, ha⟩ : ∃ a, a = ptAt L k := ⟨_, rfl⟩
    obtain ⟨⟨bx, ey⟩, hbp⟩ : ∃ a, a = ptAt L m := ⟨_, rfl⟩
    rw [← ha] at c10 c11 hey hen
    rw [← hbp] at c20 c21 hey hen
    simp only at c10 c11 c20 c21
    have hbw : b < wr.heap.size := by omega
    have hki : (k : Int) < (n : Int) := by omega
    obtain ⟨y, hy⟩ : ∃ y, y = k + 1 := ⟨_, rfl⟩
    have q4 : IntKind.i64.wrap ((k : Int) + 1) = (y : Int) := by rw [wi (by omega)]; omega
    have q5 : (y : Int).tmod (n : Int) = (m : Int) := by rw [mod_i, hy, hm]
    have q6 : ¬ n = 0 := by omega
    have q7 : IntKind.i64.wrap (m : Int) = (m : Int) := wi (by omega)
    have i1 : (0 : Int) ≤ (k : Int) ∧ (k : Int) < (n : Int) := by omega
    have i2 : (0 : Int) ≤ (m : Int) ∧ (m : Int) < (n : Int) := by omega
    have hyH := Lib.hid hy
    replace hm := Lib.hid hm
    replace ha := Lib.hid ha
    replace hbp := Lib.hid hbp
    replace hey := Lib.hid hey
    replace hen := Lib.hid hen
    clear hcs hb1' hb hy
    have hal : Below wr.heap.size wr (wr.alloc (.cells #[.int .i64 ax, .int .i64 ay] 28 (0, 0))) := Go.Joins.below_alloc1 _ _
    have hna := Lib.hid (heap_alloc_new wr (.cells #[.int .i64 ax, .int .i64 ay] 28 (0, 0)))
    have hza : (wr.alloc (.cells #[.int .i64 ax, .int .i64 ay] 28 (0, 0))).heap.size = wr.heap.size + 1 := by simp
    have p1 := (hal.cell (p := ⟨w.heap.size, 0, none⟩) hplr).trans hpr
    have d20 := (hal.cell (p := ⟨b, off + m * 2, none⟩) hbw).trans c20
    have d21 := (hal.cell (p := ⟨b, off + m * 2 + 1, none⟩) hbw).trans c21
    go_upto_region 5 with fail
    clear c10 c11 c20 c21 hpr
    generalize wr.alloc (.cells #[.int .i64 ax, .int .i64 ay] 28 (0, 0)) = u at *
    obtain ⟨Xa, hXa⟩ : ∃ X, X = wr.heap.size := ⟨_, rfl⟩
    rw [← hXa] at hna hza ⊢
    have hXau : Xa < u.heap.size := by omega
    have hXaz : w.heap.size + 1 ≤ Xa := by omega
    have hplu : w.heap.size < u.heap.size := by omega
    have hbu : b < u.heap.size := by omega
    have hzu : wr.heap.size ≤ u.heap.size := by omega
    have hza1 : u.heap.size ≤ Xa + 1 := by omega
    have hza2 : Xa + 1 ≤ u.heap.size := by omega
    replace hXa := Lib.hid hXa
    clear hza
    have hS := Lib.hid (fun (W : World) (hb : Below u.heap.size u W) => (show W.cell? ⟨w.heap.size, 0, none⟩ = some (.slice (some ⟨b, off, none⟩) n c) ∧ W.cell? ⟨b, off + m * 2, none⟩ = some (.int .i64 bx) ∧ W.cell? ⟨b, off + m * 2 + 1, none⟩ = some (.int .i64 ey) from ⟨(hb.cell (p := ⟨w.heap.size, 0, none⟩) hplu).trans p1, (hb.cell (p := ⟨b, off + m * 2, none⟩) hbu).trans d20, (hb.cell (p := ⟨b, off + m * 2 + 1, none⟩) hbu).trans d21⟩))
    go_region_held3 (fun w' => w'.cell? ⟨w.heap.size, 0, none⟩ = some (.slice (some ⟨b, off, none⟩) n c) ∧ w'.cell? ⟨b, off + m * 2, none⟩ = some (.int .i64 bx) ∧ w'.cell? ⟨b, off + m * 2 + 1, none⟩ = some (.int .i64 ey)) (first | (refine hS.out _ ?_; repeat (first | with_reducible exact Below.refl _ _ | with_reducible refine Below.drew ?_ | with_reducible refine Below.alloc ?_ (by simp) _ | with_reducible refine Below.setCell ?_ (by simp) _))) (fail)
    all_goals
      have hn1' := heap_alloc_new u (.cells #[.int .i64 bx, .int .i64 ey] 28 (0, 0))
      have hb1 : Below u.heap.size u (u.alloc (.cells #[.int .i64 bx, .int .i64 ey] 28 (0, 0))).drew := Below.drew (Go.Joins.below_alloc1 u _)
      have hz1 : (u.alloc (.cells #[.int .i64 bx, .int .i64 ey] 28 (0, 0))).drew.heap.size = u.heap.size + 1 := by show (u.alloc (.cells #[.int .i64 bx, .int .i64 ey] 28 (0, 0))).heap.size = _; simp
      have hn2 : Hid ((u.alloc (.cells #[.int .i64 bx, .int .i64 ey] 28 (0, 0))).drew.heap[u.heap.size]? = some (.cells #[.int .i64 bx, .int .i64 ey] 28 (0, 0))) := hn1'
      have hn3 := Lib.hid ((hb1.block Xa hXau).trans hna.out)
      clear hn1' hS d20 d21 q4 q5 q6 q7 i1 i2 p1 hbw hna
      generalize (u.alloc (.cells #[.int .i64 bx, .int .i64 ey] 28 (0, 0))).drew = V at *
      obtain ⟨X, hX⟩ : ∃ X, X = u.heap.size := ⟨_, rfl⟩
      rw [← hX] at hn2 hz1 hza1 hza2 hzu ⊢
      have hXV : X < V.heap.size := by omega
      have hXz : w.heap.size + 1 ≤ X := by omega
      have hXaV : Xa < V.heap.size := by omega
      have hzV : w0.heap.size ≤ V.heap.size := by omega
      have hzV2 : w.heap.size + 1 ≤ V.heap.size := by omega
      replace hX := Lib.hid hX
      have k0 : V.cell? ⟨Xa, 0, none⟩ = some (.int .i64 ax) := by rw [Go.Joins.cell_of_block hn3.out]; rfl
      have k1 : V.cell? ⟨Xa, 1, none⟩ = some (.int .i64 ay) := by rw [Go.Joins.cell_of_block hn3.out]; rfl
      have k2 : V.cell? ⟨X, 0, none⟩ = some (.int .i64 bx) := by rw [Go.Joins.cell_of_block hn2.out]; rfl
      have k3 : V.cell? ⟨X, 1, none⟩ = some (.int .i64 ey) := by rw [Go.Joins.cell_of_block hn2.out]; rfl
      have hbuV : Below wr.heap.size wr V := hal.trans (hb1.mono (by have := hal.size; exact this))
      have hown1 := Lib.hid (own_below hown.out hbuV)
      have hbel1 := Lib.hid (hbel.trans (hbuV.mono hz))
      clear hn2 hn3 hz1 hown hb1 hal
      by_cases he : ax = bx ∧ ay = ey
      · obtain ⟨rfl, rfl⟩ := he
        have hsame := hen.out rfl
        replace hsame := Lib.hid hsame
        go_wp2_with fail
        go_roundw
        case rel => exact ⟨k + 1, A1, c1, q, by go_num, by omega, by rw [hsame.out, hq.out], rfl, by rw [hsame.out]; exact hown1.out, hbel1.out⟩
        case measure => simp [intOf]; omega
      · have hdiff := hey.out (by intro h; injection h with h1 h2; exact he ⟨h1, h2⟩)
        replace hdiff := Lib.hid hdiff
        have hql : q ≤ 1000 := by omega
        by_cases e0 : ax = bx
        · have e1 : ¬ ay = ey := fun h => he ⟨e0, h⟩
          subst e0
          have t1 : (ay == ey) = false := by simp [e1]
          clear he e1
          go_wp2_with (at_builtin; refine wpApp rfl (.tmp 28) (.tmp 32) elemLeg rfl (v := .slice A1 q c1) (n := q) (xs := (edgesTo L k).flatMap edgeC) rfl (hown1.out.alloc _) rfl (src_at (cs := [.int .i64 ax, .int .i64 ay, .int .i64 ax, .int .i64 ey]) rfl (by simp [Value.oneCell']) rfl) (by omega) (by omega) (by simp; omega) (q + 1) rfl ?_; intro A' c' w5 hown5 hb5; replace hown5 := Lib.hid hown5)
          have hbel5 := (hbel1.out.alloc hzV _).trans (hb5.mono (show w0.heap.size ≤ w.heap.size + 1 by omega))
          clear hb5
          go_roundw
          case rel => exact ⟨k + 1, A', c', q + 1, by go_num, by omega, by rw [hdiff.out, List.length_append, ← hq.out]; rfl, rfl, by rw [hdiff.out, edge_snoc]; exact hown5.out, hbel5⟩
          case measure => simp [intOf]; omega
        · have t0 : (ax == bx) = false := by simp [e0]
          clear he e0
          go_wp2_with (at_builtin; refine wpApp rfl (.tmp 28) (.tmp 32) elemLeg rfl (v := .slice A1 q c1) (n := q) (xs := (edgesTo L k).flatMap edgeC) rfl (hown1.out.alloc _) rfl (src_at (cs := [.int .i64 ax, .int .i64 ay, .int .i64 bx, .int .i64 ey]) rfl (by simp [Value.oneCell']) rfl) (by omega) (by omega) (by simp; omega) (q + 1) rfl ?_; intro A' c' w5 hown5 hb5; replace hown5 := Lib.hid hown5)
          have hbel5 := (hbel1.out.alloc hzV _).trans (hb5.mono (show w0.heap.size ≤ w.heap.size + 1 by omega))
          clear hb5
          go_roundw
          case rel => exact ⟨k + 1, A', c', q + 1, by go_num, by omega, by rw [hdiff.out, List.length_append, ← hq.out]; rfl, rfl, by rw [hdiff.out, edge_snoc]; exact hown5.out, hbel5⟩
          case measure => simp [intOf]; omega
end Go.Proofs.YtlifiioflkhkoaaGreat

/- Regions: whether they are valid, both sides. Conditions: as each states. -/
namespace Go.Proofs.YtlifiioflkhkoaaGreat
open Go.RowKit
set_option linter.unusedVariables false
set_option maxRecDepth 100000

/-- the edges of the first k rings -/
def allE (Rs : List (List Pnt)) (k : Nat) : List (Pnt × Pnt) := (Rs.take k).flatMap edgesL
theorem allE_succ {Rs : List (List Pnt)} {k : Nat} {L : List Pnt} (h : Rs[k]? = some L) : allE Rs (k + 1) = allE Rs k ++ edgesL L := by
  have hl := (List.getElem?_eq_some_iff.1 h).1
  unfold allE
  rw [List.take_succ_eq_append_getElem hl, List.flatMap_append]
  rw [List.getElem?_eq_getElem hl] at h
  injection h with h
  simp [h]
theorem allE_len (Rs : List (List Pnt)) : (allE Rs Rs.length).length = edgeN Rs := by
  unfold allE edgeN
  rw [List.take_length]
  induction Rs with
  | nil => rfl
  | cons L Rs ih => simp [ih]
theorem sum_bound {α : Type} {f : α → Nat} {B : Nat} : ∀ {l : List α}, (∀ a ∈ l, f a ≤ B) → (l.map f).sum ≤ l.length * B := by
  intro l
  induction l with
  | nil => intro _; simp
  | cons a l ih =>
    intro h
    have h1 := h a (by simp)
    have h2 := ih fun x hx => h x (by simp [hx])
    simp only [List.map_cons, List.sum_cons, List.length_cons, Nat.add_mul, Nat.one_mul]
    omega
theorem allE_bd {Rs : List (List Pnt)} {k : Nat} (h : ∀ L ∈ Rs, L.length ≤ 400) (hk : k ≤ 40) : (allE Rs k).length ≤ 16000 := by
  unfold allE
  rw [List.length_flatMap]
  have h1 := sum_bound (f := fun a => (edgesL a).length) (B := 400) (l := Rs.take k) fun L hL => by
    have := h L (List.mem_of_mem_take hL)
    have := edgesTo_len L L.length
    exact Nat.le_trans this (by assumption)
  have h2 : (Rs.take k).length ≤ 40 := by rw [List.length_take]; omega
  have h3 : (Rs.take k).length * 400 ≤ 40 * 400 := Nat.mul_le_mul_right _ h2
  exact Nat.le_trans h1 (by omega)

set_option maxHeartbeats 4000000 in
theorem l13All_any (p po : Nat) (A : Option Addr) (n c lo hi : Nat) (Rs : List (List Pnt)) (w : World) (hp : w.cell? ⟨p, po, none⟩ = some (.slice A n c)) (hr : RegRd w lo hi A n Rs) (hhi : hi ≤ w.heap.size) (hn : n ≤ 40) (hok : ∀ L ∈ Rs, pathOk L = true) :
    Calls Tryz.prog 23 #[.pointer (some ⟨p, po, none⟩)] w fun e w' => ∃ (A' : Option Addr) (c' : Nat), e = .returned (.slice A' (edgeN Rs) c') ∧ Below w.heap.size w w' := by
  have hll := Lib.hid hr.1
  have hpl : p < w.heap.size := cell_lt hp
  have hl4 : ∀ L ∈ Rs, 1 ≤ L.length ∧ L.length ≤ 400 := fun L hL => by obtain ⟨a, b, _⟩ := pathOk_is (hok L hL); exact ⟨a, b⟩
  have hbd := Lib.hid (fun k (hk : k ≤ 40) => allE_bd (fun L hL => (hl4 L hL).2) hk)
  have hN : edgeN Rs = (allE Rs n).length := by rw [← allE_len, hll.out]
  rw [hN]
  clear hN
  replace hl4 := Lib.hid hl4
  replace hr := Lib.hid hr
  have hpH := Lib.hid hp
  clear hok
  go_enter Tryz.func23, Tryz.ntmps23
  go_wp2_with fail
  clear hp
  go_loopw [3, 4] (fun ov iv wr => ∃ (k : Nat) (A1 : Option Addr) (c1 q : Nat), iv = .int .i64 k ∧ k ≤ n ∧ q = (allE Rs k).length ∧ ov = .slice A1 q c1 ∧ wr.ownsRow w.heap.size 83 4 (.slice A1 q c1) q ((allE Rs k).flatMap edgeC) ∧ Below w.heap.size w wr) (fun ov iv wr => n - (intOf iv).toNat)
  case atStart => exact ⟨0, _, _, 0, rfl, Nat.zero_le _, by simp [allE], rfl, World.ownsRow_lit w _ _ (Nat.le_refl _) (by decide) (by simp), (Below.refl _ _).alloc (Nat.le_refl _) _⟩
  case round =>
    obtain ⟨k, A1, c1, q, rfl, hk, hq, rfl, hown, hbel⟩ := hrel
    have hz := hbel.size
    have hqk := hbd.out k (by omega)
    rw [← hq] at hqk
    have hpr := (hbel.cell (p := ⟨p, po, none⟩) hpl).trans hpH.out
    have hplr : p < wr.heap.size := by omega
    replace hown := Lib.hid hown
    replace hq := Lib.hid hq
    by_cases hlt : k < n
    rotate_left
    · have hkn : k = n := by omega
      have hki : ¬ (k : Int) < (n : Int) := by omega
      replace hkn := Lib.hid hkn
      go_wp2_with fail
      go_ret
      exact ⟨⟨A1, c1, by rw [← hkn.out, ← hq.out]; rfl⟩, hbel⟩
    obtain ⟨b, off, K, A2, n2, c2, rfl, hb0, hb, hja, q0, hm, hrk⟩ := reg_at (hr.out.frame good_ring (Below.sameB hbel hhi)) hlt
    have hbw : b < wr.heap.size := by omega
    obtain ⟨hk1, hk4⟩ := hl4.out K (List.mem_of_getElem? hja)
    have hlK := hrk.1
    have hcall := Lib.hid (l13Edges_any b (off + k) A2 n2 c2 lo hi K wr q0 hrk (by omega) (by omega) (by omega))
    have hst := Lib.hid (allE_succ hja)
    have hEb : (edgesL K).length ≤ 400 := Nat.le_trans (edgesTo_len K K.length) hk4
    obtain ⟨E, hE⟩ : ∃ E, E = edgesL K := ⟨_, rfl⟩
    rw [← hE] at hcall hst hEb
    obtain ⟨m, hm2⟩ : ∃ m, m = E.length := ⟨_, rfl⟩
    rw [← hm2] at hcall hEb
    have hki : (k : Int) < (n : Int) := by omega
    have i1 : (0 : Int) ≤ (k : Int) ∧ (k : Int) < (n : Int) := by omega
    replace hm2 := Lib.hid hm2
    replace hja := Lib.hid hja
    replace hE := Lib.hid hE
    replace hlK := Lib.hid hlK
    clear hm hrk hb0 hb
    go_wp2_with (first
      | (go_at_call 43; refine hcall.out.mono ?_; rintro e w1 ⟨A3, c3, rfl, ho3, hb1⟩; have hown1 := Lib.hid (own_below hown.out hb1); have hb1z := hb1.size; have hsrc := Lib.hid (src_rd edgeC_len edgeC_one (rdS_own edgeC_len (by omega) ho3 hm2.out.symm)); have hbel1 := Lib.hid (hbel.trans (hb1.mono hz)); clear ho3 hb1)
      | (at_builtin; refine wpApp rfl (.tmp 15) (.tmp 22) elemEdge rfl (v := .slice A1 q c1) (n := q) (xs := (allE Rs k).flatMap edgeC) rfl hown1.out rfl hsrc.out (by omega) (by omega) (by omega) (q + m) rfl ?_; intro A' c' w5 hown5 hb5; replace hown5 := Lib.hid hown5))
    have hbel5 := hbel1.out.trans hb5
    clear hb5
    go_roundw
    case rel => exact ⟨k + 1, A', c', q + m, by go_num, by omega, by rw [hst.out, List.length_append, ← hq.out, ← hm2.out], rfl, by rw [hst.out, List.flatMap_append]; exact hown5.out, hbel5⟩
    case measure => simp [intOf]; omega

set_option maxHeartbeats 4000000 in
theorem l13Ok_any (p po : Nat) (A : Option Addr) (n c lo hi : Nat) (Rs : List (List Pnt)) (v : Bool) (hv : v = regOk Rs) (w : World) (hp : w.cell? ⟨p, po, none⟩ = some (.slice A n c)) (hr : RegRd w lo hi A n Rs) (hhi : hi ≤ w.heap.size) (hn : n ≤ 1048576) (hs : ∀ L ∈ Rs, L.length ≤ 1048576) :
    Calls Tryz.prog 19 #[.pointer (some ⟨p, po, none⟩)] w fun e w' => e = .returned (.bool v) ∧ Below w.heap.size w w' := by
  have hll := hr.1
  have hpl : p < w.heap.size := cell_lt hp
  by_cases h40 : 40 < n
  · have hvf : v = false := by rw [hv]; exact regOk_many (by omega)
    subst hvf
    clear hv hr
    have h40i : (40 : Int) < (n : Int) := by omega
    go_enter Tryz.func19, Tryz.ntmps19
    go_wp2_with fail
    go_ret
    exact ⟨rfl, Below.refl _ _⟩
  have h40i : ¬ (40 : Int) < (n : Int) := by omega
  replace hll := Lib.hid hll
  replace hr := Lib.hid hr
  replace hs := Lib.hid hs
  replace hv := Lib.hid hv
  have hpH := Lib.hid hp
  go_enter Tryz.func19, Tryz.ntmps19
  go_wp2_with fail
  clear hp
  go_loopw [3] (fun iv wr => ∃ k : Nat, iv = .int .i64 k ∧ k ≤ n ∧ (∀ j K, j < k → Rs[j]? = some K → pathOk K = true) ∧ Below w.heap.size w wr) (fun iv wr => n - (intOf iv).toNat)
  case atStart => exact ⟨0, rfl, Nat.zero_le _, fun j K hj => absurd hj (Nat.not_lt_zero j), Below.refl _ _⟩
  case round =>
    obtain ⟨k, rfl, hk, hall, hbel⟩ := hrel
    have hz := hbel.size
    have hpr := (hbel.cell (p := ⟨p, po, none⟩) hpl).trans hpH.out
    have hplr : p < wr.heap.size := by omega
    replace hall := Lib.hid hall
    by_cases hlt : k < n
    · obtain ⟨b, off, K, A2, n2, c2, rfl, hb0, hb, hja, q0, hm, hrk⟩ := reg_at (hr.out.frame good_ring (Below.sameB hbel hhi)) hlt
      have hbw : b < wr.heap.size := by omega
      obtain ⟨t, ht⟩ : ∃ t, t = pathOk K := ⟨_, rfl⟩
      have hcall := Lib.hid (l13Ring_any b (off + k) A2 n2 c2 lo hi K t ht wr q0 hrk (by omega) (by rw [← hrk.1]; exact hs.out K (List.mem_of_getElem? hja)))
      have hki : (k : Int) < (n : Int) := by omega
      have i1 : (0 : Int) ≤ (k : Int) ∧ (k : Int) < (n : Int) := by omega
      replace ht := Lib.hid ht
      replace hja := Lib.hid hja
      clear hm hrk hb0 hb
      go_wp2_with fail
      refine hcall.out.mono ?_
      rintro e w1 ⟨rfl, hb1⟩
      have hbel1 := Lib.hid (hbel.trans (hb1.mono hz))
      clear hb1 hcall
      cases t with
      | false =>
        have hvf : v = false := by rw [hv.out]; exact regOk_bad (List.mem_of_getElem? hja.out) ht.out.symm
        subst hvf
        go_wp2_with fail
        go_ret
        exact ⟨rfl, hbel1.out⟩
      | true =>
        go_wp2_with fail
        go_roundw
        case rel => exact ⟨k + 1, by go_num, by omega, fun j K' hj hK' => by
          rcases Nat.lt_or_ge j k with h | h
          · exact hall.out j K' h hK'
          · obtain rfl : j = k := by omega
            have h2 := hja.out
            rw [hK'] at h2
            injection h2 with h2
            rw [h2]; exact ht.out.symm, hbel1.out⟩
        case measure => simp [intOf]; omega
    · have hkn : k = n := by omega
      have hki : ¬ (k : Int) < (n : Int) := by omega
      have hok : ∀ L ∈ Rs, pathOk L = true := fun L hL => by
        obtain ⟨j, hj⟩ := List.mem_iff_getElem?.1 hL
        have h1 := (List.getElem?_eq_some_iff.1 hj).1
        have h2 := hll.out
        exact hall.out j L (by omega) hj
      have hve : v = decide (edgeN Rs ≤ 400) := by rw [hv.out]; exact regOk_end (by have := hll.out; omega) hok
      have hcall := Lib.hid (l13All_any p po A n c lo hi Rs wr hpr (hr.out.frame good_ring (Below.sameB hbel hhi)) (by omega) (by omega) hok)
      generalize edgeN Rs = N at *
      replace hve := Lib.hid hve
      replace hkn := Lib.hid hkn
      go_wp2_with fail
      refine hcall.out.mono ?_
      rintro e w1 ⟨A3, c3, rfl, hb1⟩
      have hbel1 := Lib.hid (hbel.trans (hb1.mono hz))
      clear hb1 hcall
      go_wp2_with fail
      go_ret
      exact ⟨ret_bool (by rw [hve.out, decide_eq_decide]; omega), hbel1.out⟩

set_option maxHeartbeats 4000000 in
theorem validRegion_any (A : Option Addr) (n c lo hi : Nat) (Rs : List (List Pnt)) (v : Bool) (hv : v = regOk Rs) (w : World) (hr : RegRd w lo hi A n Rs) (hhi : hi ≤ w.heap.size) (hn : n ≤ 1048576) (hs : ∀ L ∈ Rs, L.length ≤ 1048576) :
    Calls Tryz.prog 17 #[.agg #[.slice A n c]] w fun e w' => e = .returned (.bool v) ∧ Below w.heap.size w w' := by
  have hll := hr.1
  have hb0 : Below w.heap.size w (w.alloc (.cells #[.slice A n c] 26 (0, 0))) := Go.Joins.below_alloc1 _ _
  by_cases h40 : 40 < n
  · have hvf : v = false := by rw [hv]; exact regOk_many (by omega)
    subst hvf
    clear hv hr
    have h40i : (40 : Int) < (n : Int) := by omega
    go_enter Tryz.func17, Tryz.ntmps17
    go_wp2_with fail
    go_ret
    exact ⟨rfl, hb0⟩
  have h40i : ¬ (40 : Int) < (n : Int) := by omega
  have hr0 := Lib.hid (hr.frame good_ring (Below.sameB hb0 hhi))
  have hz0 : (w.alloc (.cells #[.slice A n c] 26 (0, 0))).heap.size = w.heap.size + 1 := by simp
  replace hll := Lib.hid hll
  replace hs := Lib.hid hs
  replace hv := Lib.hid hv
  clear hr
  go_enter Tryz.func17, Tryz.ntmps17
  go_wp2_with fail
  generalize w.alloc (.cells #[.slice A n c] 26 (0, 0)) = w0 at *
  go_loopw [3, 13] (fun sv iv wr => ∃ (k q : Nat), iv = .int .i64 k ∧ k ≤ n ∧ sv = .int .i64 q ∧ q = (allE Rs k).length ∧ (∀ j K, j < k → Rs[j]? = some K → pathOk K = true) ∧ q ≤ k * 400 ∧ Below w0.heap.size w0 wr) (fun sv iv wr => n - (intOf iv).toNat)
  case atStart => exact ⟨0, 0, rfl, Nat.zero_le _, rfl, by simp [allE], fun j K hj => absurd hj (Nat.not_lt_zero j), by omega, Below.refl _ _⟩
  case round =>
    obtain ⟨k, q, rfl, hk, rfl, hq, hall, hqb, hbel⟩ := hrel
    have hz := hbel.size
    replace hall := Lib.hid hall
    replace hq := Lib.hid hq
    by_cases hlt : k < n
    · obtain ⟨b, off, K, A2, n2, c2, rfl, hb0', hb, hja, q0, hm, hrk⟩ := reg_at (hr0.out.frame good_ring (Below.sameB hbel (by omega))) hlt
      have hbw : b < wr.heap.size := by omega
      have hsK := hs.out K (List.mem_of_getElem? hja)
      obtain ⟨t, ht⟩ : ∃ t, t = pathOk K := ⟨_, rfl⟩
      have hal := Go.Joins.below_alloc1 wr (.cells #[.slice A2 n2 c2] 42 (0, 0))
      have hza : (wr.alloc (.cells #[.slice A2 n2 c2] 42 (0, 0))).heap.size = wr.heap.size + 1 := by simp
      have hrk1 := hrk.frame (good_flat _) (Below.sameB hal (by omega))
      have hxb := Lib.hid (heap_alloc_new wr (.cells #[.slice A2 n2 c2] 42 (0, 0)))
      have hcall := Lib.hid (validRing_any A2 n2 c2 lo hi K t ht _ hrk1 (by omega) (by rw [← hrk.1]; exact hsK))
      have hst := Lib.hid (allE_succ hja)
      have hki : (k : Int) < (n : Int) := by omega
      have i1 : (0 : Int) ≤ (k : Int) ∧ (k : Int) < (n : Int) := by omega
      have hlK := hrk.1
      replace hrk1 := Lib.hid hrk1
      replace ht := Lib.hid ht
      replace hja := Lib.hid hja
      have hbelA := Lib.hid (hbel.trans (hal.mono hz))
      clear hm hrk hb0' hb hal
      go_upto_region 7 with fail
      generalize wr.alloc (.cells #[.slice A2 n2 c2] 42 (0, 0)) = u at *
      obtain ⟨X, hX⟩ : ∃ X, X = wr.heap.size := ⟨_, rfl⟩
      rw [← hX] at hxb hza ⊢
      have hXu : X < u.heap.size := by omega
      clear hza
      replace hX := Lib.hid hX
      have x0 : u.cell? ⟨X, 0, none⟩ = some (.slice A2 n2 c2) := by rw [Go.Joins.cell_of_block hxb.out]; rfl
      have hzu : w0.heap.size ≤ u.heap.size := hbelA.out.size
      go_wp2_with fail
      refine hcall.out.mono ?_
      rintro e w1 ⟨rfl, hb1⟩
      have hbel1 := Lib.hid (hbelA.out.trans (hb1.mono hzu))
      have hz1 := hb1.size
      have x1 := (hb1.cell (p := ⟨X, 0, none⟩) hXu).trans x0
      have hX1 : X < w1.heap.size := by omega
      have hrk2 := Lib.hid (hrk1.out.frame (good_flat _) (Below.sameB hb1 (by have := hbelA.out.size; omega)))
      clear hb1 hcall x0
      cases t with
      | false =>
        have hvf : v = false := by rw [hv.out]; exact regOk_bad (List.mem_of_getElem? hja.out) ht.out.symm
        subst hvf
        go_wp2_with fail
        go_ret
        exact ⟨rfl, hb0.trans (hbel1.out.mono (by omega))⟩
      | true =>
        obtain ⟨g1, g2, _⟩ := pathOk_is ht.out.symm
        have hEb : (edgesL K).length ≤ 400 := Nat.le_trans (edgesTo_len K K.length) g2
        have hcall2 := Lib.hid (edgesOfRing_any A2 n2 c2 lo hi K w1 hrk2.out (by have := hbelA.out.size; omega) (by omega) (by omega))
        obtain ⟨m, hm⟩ : ∃ m, m = (edgesL K).length := ⟨_, rfl⟩
        rw [← hm] at hcall2 hEb
        replace hm := Lib.hid hm
        go_wp2_with fail
        refine hcall2.out.mono ?_
        rintro e w2 ⟨A3, c3, rfl, hb2⟩
        have hbel2 := Lib.hid (hbel1.out.trans (hb2.mono hbel1.out.size))
        have qq : IntKind.i64.wrap ((q : Int) + (m : Int)) = ((q + m : Nat) : Int) := by rw [wi (by omega)]; omega
        clear hb2 hcall2 x1
        go_wp2_with fail
        go_roundw
        case rel => exact ⟨k + 1, q + m, by go_num, by omega, by first | rfl | go_num, by rw [hst.out, List.length_append, ← hq.out, ← hm.out], fun j K' hj hK' => by
          rcases Nat.lt_or_ge j k with h | h
          · exact hall.out j K' h hK'
          · obtain rfl : j = k := by omega
            have h2 := hja.out
            rw [hK'] at h2
            injection h2 with h2
            rw [h2]; exact ht.out.symm, by omega, hbel2.out⟩
        case measure => simp [intOf]; omega
    · have hkn : k = n := by omega
      have hki : ¬ (k : Int) < (n : Int) := by omega
      have hok : ∀ L ∈ Rs, pathOk L = true := fun L hL => by
        obtain ⟨j, hj⟩ := List.mem_iff_getElem?.1 hL
        have h1 := (List.getElem?_eq_some_iff.1 hj).1
        have h2 := hll.out
        exact hall.out j L (by omega) hj
      have hve : v = decide (q ≤ 400) := by rw [hv.out, regOk_end (by have := hll.out; omega) hok, hq.out, hkn, ← hll.out, allE_len]
      replace hve := Lib.hid hve
      replace hkn := Lib.hid hkn
      go_wp2_with fail
      go_ret
      exact ⟨ret_bool (by rw [hve.out, decide_eq_decide]; omega), hb0.trans (hbel.mono (by omega))⟩
end Go.Proofs.YtlifiioflkhkoaaGreat

/- FitRegion, both sides. Printed by mk_rg2.py. Conditions: as each states. -/
namespace Go.Proofs.YtlifiioflkhkoaaGreat
open Go.RowKit
set_option linter.unusedVariables false
set_option maxRecDepth 100000

/-- each ring's slice is no longer than its array -/
def RegCap (w : World) (A : Option Addr) (n : Nat) : Prop := ∀ (j b off : Nat) (A' : Option Addr) (n' c' : Nat), j < n → A = some ⟨b, off, none⟩ → w.cell? ⟨b, off + j, none⟩ = some (.slice A' n' c') → n' ≤ c'
theorem RegCap.frame {w w' : World} {A : Option Addr} {n lo hi : Nat} {Rs : List (List Pnt)} (h : RegCap w A n) (hr : RegRd w lo hi A n Rs) (hs : SameB lo hi w w') : RegCap w' A n := fun j b off A' n' c' hj hA hc => by
  obtain ⟨b', off', hA', h1, h2, _⟩ := hr.2 (by omega)
  rw [hA] at hA'
  injection hA' with hA'
  injection hA' with e1 e2
  subst e1 e2
  rw [hs.cell h1 h2] at hc
  exact h j b off A' n' c' hj hA hc
theorem RegOwn.cap {w : World} {lo n c : Nat} {A : Option Addr} {Rs : List (List Pnt)} (h : RegOwn w lo A n c Rs) : RegCap w A n := fun j b off A' n' c' hj hA hc => by
  obtain ⟨ys, h1, h2, h3, _⟩ := h
  obtain ⟨g, hg, _, _, _, hcell, _⟩ := own_at h2 (by omega)
  rw [hA] at hg
  injection hg with hg
  injection hg with e1 e2
  subst e1 e2
  have hl : j < Rs.length := by omega
  obtain ⟨Aj, cj, h4, h5⟩ := h3 j _ (List.getElem?_eq_getElem hl)
  have h6 := hcell j (by omega)
  rw [Nat.zero_add] at hc
  rw [hc, h4] at h6
  injection h6 with h6
  injection h6 with e3 e4 e5
  subst e3 e4 e5
  rcases Nat.eq_zero_or_pos (Rs[j]).length with h0 | h0
  · omega
  · obtain ⟨_, _, _, _, h7, _⟩ := own_at h5 h0
    exact h7
end Go.Proofs.YtlifiioflkhkoaaGreat

