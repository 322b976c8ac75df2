/- Where segments cross. Conditions: as each states. -/
import Derived.Test.YtlifiioflkhkoaaGreatFr26
import Derived.Test.YtlifiioflkhkoaaGreatFr07
import Derived.Test.YtlifiioflkhkoaaGreatFr23
import Derived.Test.YtlifiioflkhkoaaGreatFr25
namespace Go.Proofs.YtlifiioflkhkoaaGreat
open Go.RowKit
set_option linter.unusedVariables false
set_option maxRecDepth 100000
set_option linter.unusedSimpArgs false

theorem rnd_low {x d lo : Int} (hd : 0 < d) (h : lo * d ≤ x) : lo ≤ rnd x d := by
  unfold rnd
  rw [Int.le_ediv_iff_mul_le (by omega)]
  grind
theorem rnd_upp {x d hi : Int} (hd : 0 < d) (h : x ≤ hi * d) : rnd x d ≤ hi := by
  have : rnd x d < hi + 1 := by
    unfold rnd
    rw [Int.ediv_lt_iff_lt_mul (by omega)]
    grind
  omega
/-- the rounded point where two segments cross -/
def crossP (a b c d : Pnt) : Pnt := lnP a.1 a.2 b.1 b.2 c.1 c.2 d.1 d.2
theorem sgn_mul {x y : Int} (h : sgnI x * sgnI y < 0) : x < 0 ∧ 0 < y ∨ 0 < x ∧ y < 0 := by
  unfold sgnI at h
  split at h <;> split at h <;> first | omega | (split at h <;> first | omega | (split at h <;> omega))
theorem cross_hull {x y D N : Int} (hD : 0 < D) (h0 : 0 ≤ N) (h1 : N ≤ D) : min x y ≤ x + rnd ((y - x) * N) D ∧ x + rnd ((y - x) * N) D ≤ max x y := by
  obtain ⟨j1, j2, j3, j4⟩ : min x y ≤ x ∧ min x y ≤ y ∧ x ≤ max x y ∧ y ≤ max x y := by omega
  generalize min x y = lo at *
  generalize max x y = hi at *
  have k1 := Int.mul_nonneg (show 0 ≤ x - lo by omega) (show 0 ≤ D - N by omega)
  have k2 := Int.mul_nonneg (show 0 ≤ y - lo by omega) h0
  have k3 := Int.mul_nonneg (show 0 ≤ hi - x by omega) (show 0 ≤ D - N by omega)
  have k4 := Int.mul_nonneg (show 0 ≤ hi - y by omega) h0
  have g1 : lo - x ≤ rnd ((y - x) * N) D := rnd_low hD (by grind)
  have g2 : rnd ((y - x) * N) D ≤ hi - x := rnd_upp hD (by grind)
  omega
theorem cross_ne {a b c d : Pnt} (h : crossB a b c d = true) : lnM a.1 a.2 b.1 b.2 c.1 c.2 d.1 d.2 ≠ 0 := by
  unfold crossB at h
  simp only [Bool.and_eq_true, decide_eq_true_eq] at h
  have h2 := sgn_mul h.2
  unfold tn at h2
  unfold lnM
  omega
theorem crossP_in {a b c d : Pnt} (h : crossB a b c d = true) : (min a.1 b.1 ≤ (crossP a b c d).1 ∧ (crossP a b c d).1 ≤ max a.1 b.1) ∧ (min a.2 b.2 ≤ (crossP a b c d).2 ∧ (crossP a b c d).2 ≤ max a.2 b.2) := by
  unfold crossB at h
  simp only [Bool.and_eq_true, decide_eq_true_eq] at h
  have h2 := sgn_mul h.2
  unfold tn at h2
  unfold crossP lnP lnM lnN lnPt
  generalize turnI c.1 c.2 d.1 d.2 a.1 a.2 = s at *
  generalize turnI c.1 c.2 d.1 d.2 b.1 b.2 = t at *
  split
  · exact ⟨cross_hull (by omega) (by omega) (by omega), cross_hull (by omega) (by omega) (by omega)⟩
  · exact ⟨cross_hull (by omega) (by omega) (by omega), cross_hull (by omega) (by omega) (by omega)⟩
theorem crossP_ok {a b c d : Pnt} (h : crossB a b c d = true) (ha : pt2Ok a = true) (hb : pt2Ok b = true) : pt2Ok (crossP a b c d) = true := by
  obtain ⟨⟨h1, h2⟩, h3, h4⟩ := crossP_in h
  obtain ⟨⟨a1, a2⟩, a3, a4⟩ := ptOk_iff.1 ha
  obtain ⟨⟨b1, b2⟩, b3, b4⟩ := ptOk_iff.1 hb
  exact ptOk_iff.2 ⟨⟨by omega, by omega⟩, by omega, by omega⟩
theorem crossingP_any (a b c d p : Pnt) (hp : p = crossP a b c d) (w : World) (hx : crossB a b c d = true) (ha : pt2Ok a = true) (hb : pt2Ok b = true) (hc : pt2Ok c = true) (hd : pt2Ok d = true) :
    Calls Tryz.prog 92 #[.agg #[.int .i64 a.1, .int .i64 a.2], .agg #[.int .i64 b.1, .int .i64 b.2], .agg #[.int .i64 c.1, .int .i64 c.2], .agg #[.int .i64 d.1, .int .i64 d.2]] w fun e w' => e = .returned (.agg #[.int .i64 p.1, .int .i64 p.2]) ∧ Below w.heap.size w w' :=
  crossing_any a.1 a.2 b.1 b.2 c.1 c.2 d.1 d.2 w ha hb hc hd (cross_ne hx) p.1 p.2 (by rw [hp]; rfl)
end Go.Proofs.YtlifiioflkhkoaaGreat

/- The edges of a ring, with what they are: the program's side. XEd2 turned. Conditions: as each states. -/
namespace Go.Proofs.YtlifiioflkhkoaaGreat
open Go.RowKit
set_option linter.unusedVariables false
set_option maxRecDepth 100000

set_option maxHeartbeats 8000000 in
theorem edgesRing_own (A : Option Addr) (n c lo hi : Nat) (L : List Pnt) (w : World) (hr : RdS 2 (FlatR ptC) w lo hi A n L) (hhi : hi ≤ w.heap.size) (hn1 : 1 ≤ n) (hn : n ≤ 1000) :
    Calls Tryz.prog 39 #[.agg #[.slice A n c]] w fun e w' => ∃ (A' : Option Addr) (c' : Nat), e = .returned (.slice A' (edgesL L).length c') ∧ w'.ownsRow w.heap.size 78 4 (.slice A' (edgesL L).length c') (edgesL L).length ((edgesL L).flatMap edgeC) ∧ Below w.heap.size w w' := by
  have hll := Lib.hid hr.1
  obtain ⟨E, hE⟩ : ∃ E, E = edgesL L := ⟨_, rfl⟩
  rw [← hE]
  replace hE := Lib.hid hE
  have hb0 : Below w.heap.size w (w.alloc (.cells #[.slice A n c] 42 (0, 0))) := Go.Joins.below_alloc1 _ _
  have hz0 : (w.alloc (.cells #[.slice A n c] 42 (0, 0))).heap.size = w.heap.size + 1 := by simp
  have hp : (w.alloc (.cells #[.slice A n c] 42 (0, 0))).cell? ⟨w.heap.size, 0, none⟩ = some (.slice A n c) := by rw [Go.Joins.cell_of_block (heap_alloc_new w _)]; rfl
  replace hr := Lib.hid (hr.frame (good_flat _) (Below.sameB hb0 hhi))
  have hpH := Lib.hid hp
  go_enter Tryz.func39, Tryz.ntmps39
  go_upto_region 1 with fail
  generalize w.alloc (.cells #[.slice A n c] 42 (0, 0)) = w0 at *
  have hpl : w.heap.size < w0.heap.size := by omega
  go_wp2_with fail
  clear hp
  go_loopw [3, 10] (fun ov iv wr => ∃ (k : Nat) (A1 : Option Addr) (c1 q : Nat), iv = .int .i64 k ∧ k ≤ n ∧ q = (edgesTo L k).length ∧ ov = .slice A1 q c1 ∧ wr.ownsRow (w.heap.size + 1) 78 4 (.slice A1 q c1) q ((edgesTo L k).flatMap edgeC) ∧ Below w0.heap.size w0 wr) (fun ov iv wr => n - (intOf iv).toNat)
  case atStart => exact ⟨0, none, 0, 0, rfl, Nat.zero_le _, by simp [edgesTo], rfl, by simpa [edgesTo] using World.ownsRow_nil w0 (w.heap.size + 1) 78 4, Below.refl _ _⟩
  case round =>
    obtain ⟨k, A1, c1, q, rfl, hk, hq, rfl, hown, hbel⟩ := hrel
    have hz := hbel.size
    have hqk := edgesTo_len L k
    rw [← hq] at hqk
    have hpr := (hbel.cell (p := ⟨w.heap.size, 0, none⟩) hpl).trans hpH.out
    have hplr : w.heap.size < wr.heap.size := by omega
    replace hown := Lib.hid hown
    replace hq := Lib.hid hq
    by_cases hlt : k < n
    rotate_left
    · have hkn : k = n := by omega
      have hfin : E = edgesTo L k := by rw [hE.out, hkn, ← hll.out]; rfl
      have hki : ¬ (k : Int) < (n : Int) := by omega
      have hqE : q = E.length := by rw [hq.out, hfin]
      replace hqE := Lib.hid hqE
      replace hfin := Lib.hid hfin
      replace hkn := Lib.hid hkn
      go_wp2_with fail
      go_ret
      exact ⟨A1, c1, by rw [← hqE.out]; rfl, by rw [← hqE.out, hfin.out]; exact own_lower hown.out (by omega), hb0.trans (hbel.mono hb0.size)⟩
    obtain ⟨b, off, rfl, hb1', hb, hcs⟩ := (hr.out.frame (good_flat _) (Below.sameB hbel (by omega))).pts (by omega)
    obtain ⟨m, hm⟩ : ∃ m, m = (k + 1) % n := ⟨_, rfl⟩
    have hmn : m < n := by rw [hm]; exact Nat.mod_lt _ (by omega)
    obtain ⟨c10, c11⟩ := hcs k hlt
    obtain ⟨c20, c21⟩ := hcs m hmn
    have hey : ptAt L k ≠ ptAt L m → edgesTo L (k + 1) = edgesTo L k ++ [(ptAt L k, ptAt L m)] := fun h => by rw [hm, ← hll.out] at h ⊢; exact edgesTo_yes h
    have hen : ptAt L k = ptAt L m → edgesTo L (k + 1) = edgesTo L k := fun h => by rw [hm, ← hll.out] at h; exact edgesTo_no h
    obtain ⟨⟨ax, ay⟩, ha⟩ : ∃ a, a = ptAt L k := ⟨_, rfl⟩
    obtain ⟨⟨bx, ey⟩, hbp⟩ : ∃ a, a = ptAt L m := ⟨_, rfl⟩
    rw [← ha] at c10 c11 hey hen
    rw [← hbp] at c20 c21 hey hen
    simp only at c10 c11 c20 c21
    have hbw : b < wr.heap.size := by omega
    have hki : (k : Int) < (n : Int) := by omega
    obtain ⟨y, hy⟩ : ∃ y, y = k + 1 := ⟨_, rfl⟩
    have q4 : IntKind.i64.wrap ((k : Int) + 1) = (y : Int) := by rw [wi (by omega)]; omega
    have q5 : (y : Int).tmod (n : Int) = (m : Int) := by rw [mod_i, hy, hm]
    have q6 : ¬ n = 0 := by omega
    have q7 : IntKind.i64.wrap (m : Int) = (m : Int) := wi (by omega)
    have i1 : (0 : Int) ≤ (k : Int) ∧ (k : Int) < (n : Int) := by omega
    have i2 : (0 : Int) ≤ (m : Int) ∧ (m : Int) < (n : Int) := by omega
    have hyH := Lib.hid hy
    replace hm := Lib.hid hm
    replace ha := Lib.hid ha
    replace hbp := Lib.hid hbp
    replace hey := Lib.hid hey
    replace hen := Lib.hid hen
    clear hcs hb1' hb hy
    have hal : Below wr.heap.size wr (wr.alloc (.cells #[.int .i64 ax, .int .i64 ay] 28 (0, 0))) := Go.Joins.below_alloc1 _ _
    have hna := Lib.hid (heap_alloc_new wr (.cells #[.int .i64 ax, .int .i64 ay] 28 (0, 0)))
    have hza : (wr.alloc (.cells #[.int .i64 ax, .int .i64 ay] 28 (0, 0))).heap.size = wr.heap.size + 1 := by simp
    have p1 := (hal.cell (p := ⟨w.heap.size, 0, none⟩) hplr).trans hpr
    have d20 := (hal.cell (p := ⟨b, off + m * 2, none⟩) hbw).trans c20
    have d21 := (hal.cell (p := ⟨b, off + m * 2 + 1, none⟩) hbw).trans c21
    go_upto_region 5 with fail
    clear c10 c11 c20 c21 hpr
    generalize wr.alloc (.cells #[.int .i64 ax, .int .i64 ay] 28 (0, 0)) = u at *
    obtain ⟨Xa, hXa⟩ : ∃ X, X = wr.heap.size := ⟨_, rfl⟩
    rw [← hXa] at hna hza ⊢
    have hXau : Xa < u.heap.size := by omega
    have hXaz : w.heap.size + 1 ≤ Xa := by omega
    have hplu : w.heap.size < u.heap.size := by omega
    have hbu : b < u.heap.size := by omega
    have hzu : wr.heap.size ≤ u.heap.size := by omega
    have hza1 : u.heap.size ≤ Xa + 1 := by omega
    have hza2 : Xa + 1 ≤ u.heap.size := by omega
    replace hXa := Lib.hid hXa
    clear hza
    have hS := Lib.hid (fun (W : World) (hb : Below u.heap.size u W) => (show W.cell? ⟨w.heap.size, 0, none⟩ = some (.slice (some ⟨b, off, none⟩) n c) ∧ W.cell? ⟨b, off + m * 2, none⟩ = some (.int .i64 bx) ∧ W.cell? ⟨b, off + m * 2 + 1, none⟩ = some (.int .i64 ey) from ⟨(hb.cell (p := ⟨w.heap.size, 0, none⟩) hplu).trans p1, (hb.cell (p := ⟨b, off + m * 2, none⟩) hbu).trans d20, (hb.cell (p := ⟨b, off + m * 2 + 1, none⟩) hbu).trans d21⟩))
    go_region_held3 (fun w' => w'.cell? ⟨w.heap.size, 0, none⟩ = some (.slice (some ⟨b, off, none⟩) n c) ∧ w'.cell? ⟨b, off + m * 2, none⟩ = some (.int .i64 bx) ∧ w'.cell? ⟨b, off + m * 2 + 1, none⟩ = some (.int .i64 ey)) (first | (refine hS.out _ ?_; repeat (first | with_reducible exact Below.refl _ _ | with_reducible refine Below.drew ?_ | with_reducible refine Below.alloc ?_ (by simp) _ | with_reducible refine Below.setCell ?_ (by simp) _))) (fail)
    all_goals
      have hn1' := heap_alloc_new u (.cells #[.int .i64 bx, .int .i64 ey] 28 (0, 0))
      have hb1 : Below u.heap.size u (u.alloc (.cells #[.int .i64 bx, .int .i64 ey] 28 (0, 0))).drew := Below.drew (Go.Joins.below_alloc1 u _)
      have hz1 : (u.alloc (.cells #[.int .i64 bx, .int .i64 ey] 28 (0, 0))).drew.heap.size = u.heap.size + 1 := by show (u.alloc (.cells #[.int .i64 bx, .int .i64 ey] 28 (0, 0))).heap.size = _; simp
      have hn2 : Hid ((u.alloc (.cells #[.int .i64 bx, .int .i64 ey] 28 (0, 0))).drew.heap[u.heap.size]? = some (.cells #[.int .i64 bx, .int .i64 ey] 28 (0, 0))) := hn1'
      have hn3 := Lib.hid ((hb1.block Xa hXau).trans hna.out)
      clear hn1' hS d20 d21 q4 q5 q6 q7 i1 i2 p1 hbw hna
      generalize (u.alloc (.cells #[.int .i64 bx, .int .i64 ey] 28 (0, 0))).drew = V at *
      obtain ⟨X, hX⟩ : ∃ X, X = u.heap.size := ⟨_, rfl⟩
      rw [← hX] at hn2 hz1 hza1 hza2 hzu ⊢
      have hXV : X < V.heap.size := by omega
      have hXz : w.heap.size + 1 ≤ X := by omega
      have hXaV : Xa < V.heap.size := by omega
      have hzV : w0.heap.size ≤ V.heap.size := by omega
      have hzV2 : w.heap.size + 1 ≤ V.heap.size := by omega
      replace hX := Lib.hid hX
      have k0 : V.cell? ⟨Xa, 0, none⟩ = some (.int .i64 ax) := by rw [Go.Joins.cell_of_block hn3.out]; rfl
      have k1 : V.cell? ⟨Xa, 1, none⟩ = some (.int .i64 ay) := by rw [Go.Joins.cell_of_block hn3.out]; rfl
      have k2 : V.cell? ⟨X, 0, none⟩ = some (.int .i64 bx) := by rw [Go.Joins.cell_of_block hn2.out]; rfl
      have k3 : V.cell? ⟨X, 1, none⟩ = some (.int .i64 ey) := by rw [Go.Joins.cell_of_block hn2.out]; rfl
      have hbuV : Below wr.heap.size wr V := hal.trans (hb1.mono (by have := hal.size; exact this))
      have hown1 := Lib.hid (own_below hown.out hbuV)
      have hbel1 := Lib.hid (hbel.trans (hbuV.mono hz))
      clear hn2 hn3 hz1 hown hb1 hal
      by_cases he : ax = bx ∧ ay = ey
      · obtain ⟨rfl, rfl⟩ := he
        have hsame := hen.out rfl
        replace hsame := Lib.hid hsame
        go_wp2_with fail
        go_roundw
        case rel => exact ⟨k + 1, A1, c1, q, by go_num, by omega, by rw [hsame.out, hq.out], rfl, by rw [hsame.out]; exact hown1.out, hbel1.out⟩
        case measure => simp [intOf]; omega
      · have hdiff := hey.out (by intro h; injection h with h1 h2; exact he ⟨h1, h2⟩)
        replace hdiff := Lib.hid hdiff
        have hql : q ≤ 1000 := by omega
        by_cases e0 : ax = bx
        · have e1 : ¬ ay = ey := fun h => he ⟨e0, h⟩
          subst e0
          have t1 : (ay == ey) = false := by simp [e1]
          clear he e1
          go_wp2_with (at_builtin; refine wpApp rfl (.tmp 28) (.tmp 32) elemLeg rfl (v := .slice A1 q c1) (n := q) (xs := (edgesTo L k).flatMap edgeC) rfl (hown1.out.alloc _) rfl (src_at (cs := [.int .i64 ax, .int .i64 ay, .int .i64 ax, .int .i64 ey]) rfl (by simp [Value.oneCell']) rfl) (by omega) (by omega) (by simp; omega) (q + 1) rfl ?_; intro A' c' w5 hown5 hb5; replace hown5 := Lib.hid hown5)
          have hbel5 := (hbel1.out.alloc hzV _).trans (hb5.mono (show w0.heap.size ≤ w.heap.size + 1 by omega))
          clear hb5
          go_roundw
          case rel => exact ⟨k + 1, A', c', q + 1, by go_num, by omega, by rw [hdiff.out, List.length_append, ← hq.out]; rfl, rfl, by rw [hdiff.out, edge_snoc]; exact hown5.out, hbel5⟩
          case measure => simp [intOf]; omega
        · have t0 : (ax == bx) = false := by simp [e0]
          clear he e0
          go_wp2_with (at_builtin; refine wpApp rfl (.tmp 28) (.tmp 32) elemLeg rfl (v := .slice A1 q c1) (n := q) (xs := (edgesTo L k).flatMap edgeC) rfl (hown1.out.alloc _) rfl (src_at (cs := [.int .i64 ax, .int .i64 ay, .int .i64 bx, .int .i64 ey]) rfl (by simp [Value.oneCell']) rfl) (by omega) (by omega) (by simp; omega) (q + 1) rfl ?_; intro A' c' w5 hown5 hb5; replace hown5 := Lib.hid hown5)
          have hbel5 := (hbel1.out.alloc hzV _).trans (hb5.mono (show w0.heap.size ≤ w.heap.size + 1 by omega))
          clear hb5
          go_roundw
          case rel => exact ⟨k + 1, A', c', q + 1, by go_num, by omega, by rw [hdiff.out, List.length_append, ← hq.out]; rfl, rfl, by rw [hdiff.out, edge_snoc]; exact hown5.out, hbel5⟩
          case measure => simp [intOf]; omega
end Go.Proofs.YtlifiioflkhkoaaGreat

/- The edges of a region, with what they are: both sides. XRg1 turned. Conditions: as each states. -/
namespace Go.Proofs.YtlifiioflkhkoaaGreat
open Go.RowKit
set_option linter.unusedVariables false
set_option maxRecDepth 100000

set_option maxHeartbeats 4000000 in
theorem l13All_own (p po : Nat) (A : Option Addr) (n c lo hi : Nat) (Rs : List (List Pnt)) (w : World) (hp : w.cell? ⟨p, po, none⟩ = some (.slice A n c)) (hr : RegRd w lo hi A n Rs) (hhi : hi ≤ w.heap.size) (hn : n ≤ 40) (hok : ∀ L ∈ Rs, pathOk L = true) :
    Calls Tryz.prog 23 #[.pointer (some ⟨p, po, none⟩)] w fun e w' => ∃ (A' : Option Addr) (c' : Nat), e = .returned (.slice A' (edgeN Rs) c') ∧ w'.ownsRow w.heap.size 83 4 (.slice A' (edgeN Rs) c') (edgeN Rs) ((allE Rs n).flatMap edgeC) ∧ Below w.heap.size w w' := by
  have hll := Lib.hid hr.1
  have hpl : p < w.heap.size := cell_lt hp
  have hl4 : ∀ L ∈ Rs, 1 ≤ L.length ∧ L.length ≤ 400 := fun L hL => by obtain ⟨a, b, _⟩ := pathOk_is (hok L hL); exact ⟨a, b⟩
  have hbd := Lib.hid (fun k (hk : k ≤ 40) => allE_bd (fun L hL => (hl4 L hL).2) hk)
  have hN : edgeN Rs = (allE Rs n).length := by rw [← allE_len, hll.out]
  rw [hN]
  clear hN
  replace hl4 := Lib.hid hl4
  replace hr := Lib.hid hr
  have hpH := Lib.hid hp
  clear hok
  go_enter Tryz.func23, Tryz.ntmps23
  go_wp2_with fail
  clear hp
  go_loopw [3, 4] (fun ov iv wr => ∃ (k : Nat) (A1 : Option Addr) (c1 q : Nat), iv = .int .i64 k ∧ k ≤ n ∧ q = (allE Rs k).length ∧ ov = .slice A1 q c1 ∧ wr.ownsRow w.heap.size 83 4 (.slice A1 q c1) q ((allE Rs k).flatMap edgeC) ∧ Below w.heap.size w wr) (fun ov iv wr => n - (intOf iv).toNat)
  case atStart => exact ⟨0, _, _, 0, rfl, Nat.zero_le _, by simp [allE], rfl, World.ownsRow_lit w _ _ (Nat.le_refl _) (by decide) (by simp), (Below.refl _ _).alloc (Nat.le_refl _) _⟩
  case round =>
    obtain ⟨k, A1, c1, q, rfl, hk, hq, rfl, hown, hbel⟩ := hrel
    have hz := hbel.size
    have hqk := hbd.out k (by omega)
    rw [← hq] at hqk
    have hpr := (hbel.cell (p := ⟨p, po, none⟩) hpl).trans hpH.out
    have hplr : p < wr.heap.size := by omega
    replace hown := Lib.hid hown
    replace hq := Lib.hid hq
    by_cases hlt : k < n
    rotate_left
    · have hkn : k = n := by omega
      have hki : ¬ (k : Int) < (n : Int) := by omega
      replace hkn := Lib.hid hkn
      go_wp2_with fail
      go_ret
      exact ⟨A1, c1, by rw [← hkn.out, ← hq.out]; rfl, by rw [← hkn.out, ← hq.out]; exact hown.out, hbel⟩
    obtain ⟨b, off, K, A2, n2, c2, rfl, hb0, hb, hja, q0, hm, hrk⟩ := reg_at (hr.out.frame good_ring (Below.sameB hbel hhi)) hlt
    have hbw : b < wr.heap.size := by omega
    obtain ⟨hk1, hk4⟩ := hl4.out K (List.mem_of_getElem? hja)
    have hlK := hrk.1
    have hcall := Lib.hid (l13Edges_any b (off + k) A2 n2 c2 lo hi K wr q0 hrk (by omega) (by omega) (by omega))
    have hst := Lib.hid (allE_succ hja)
    have hEb : (edgesL K).length ≤ 400 := Nat.le_trans (edgesTo_len K K.length) hk4
    obtain ⟨E, hE⟩ : ∃ E, E = edgesL K := ⟨_, rfl⟩
    rw [← hE] at hcall hst hEb
    obtain ⟨m, hm2⟩ : ∃ m, m = E.length := ⟨_, rfl⟩
    rw [← hm2] at hcall hEb
    have hki : (k : Int) < (n : Int) := by omega
    have i1 : (0 : Int) ≤ (k : Int) ∧ (k : Int) < (n : Int) := by omega
    replace hm2 := Lib.hid hm2
    replace hja := Lib.hid hja
    replace hE := Lib.hid hE
    replace hlK := Lib.hid hlK
    clear hm hrk hb0 hb
    go_wp2_with (first
      | (go_at_call 43; refine hcall.out.mono ?_; rintro e w1 ⟨A3, c3, rfl, ho3, hb1⟩; have hown1 := Lib.hid (own_below hown.out hb1); have hb1z := hb1.size; have hsrc := Lib.hid (src_rd edgeC_len edgeC_one (rdS_own edgeC_len (by omega) ho3 hm2.out.symm)); have hbel1 := Lib.hid (hbel.trans (hb1.mono hz)); clear ho3 hb1)
      | (at_builtin; refine wpApp rfl (.tmp 15) (.tmp 22) elemEdge rfl (v := .slice A1 q c1) (n := q) (xs := (allE Rs k).flatMap edgeC) rfl hown1.out rfl hsrc.out (by omega) (by omega) (by omega) (q + m) rfl ?_; intro A' c' w5 hown5 hb5; replace hown5 := Lib.hid hown5))
    have hbel5 := hbel1.out.trans hb5
    clear hb5
    go_roundw
    case rel => exact ⟨k + 1, A', c', q + m, by go_num, by omega, by rw [hst.out, List.length_append, ← hq.out, ← hm2.out], rfl, by rw [hst.out, List.flatMap_append]; exact hown5.out, hbel5⟩
    case measure => simp [intOf]; omega


set_option maxHeartbeats 4000000 in
theorem edgesOf_any (A : Option Addr) (n c lo hi : Nat) (Rs : List (List Pnt)) (w : World) (hr : RegRd w lo hi A n Rs) (hhi : hi ≤ w.heap.size) (hn : n ≤ 40) (hok : ∀ L ∈ Rs, 1 ≤ L.length ∧ L.length ≤ 400) :
    Calls Tryz.prog 22 #[.agg #[.slice A n c]] w fun e w' => ∃ (A' : Option Addr) (c' : Nat), e = .returned (.slice A' (allE Rs n).length c') ∧ w'.ownsRow w.heap.size 78 4 (.slice A' (allE Rs n).length c') (allE Rs n).length ((allE Rs n).flatMap edgeC) ∧ Below w.heap.size w w' := by
  have hll := Lib.hid hr.1
  have hbd := Lib.hid (fun k (hk : k ≤ 40) => allE_bd (fun L hL => (hok L hL).2) hk)
  replace hok := Lib.hid hok
  have hb0 := Go.Joins.below_alloc1 w (.cells #[.slice A n c] 26 (0, 0))
  have hP0 := heap_alloc_new w (.cells #[.slice A n c] 26 (0, 0))
  have hz0 : (w.alloc (.cells #[.slice A n c] 26 (0, 0))).heap.size = w.heap.size + 1 := by simp
  replace hr := Lib.hid (hr.frame good_ring (Below.sameB hb0 hhi))
  go_enter Tryz.func22, Tryz.ntmps22
  go_upto_region 1 with fail
  generalize w.alloc (.cells #[.slice A n c] 26 (0, 0)) = v at *
  obtain ⟨Y, hY⟩ : ∃ Y, Y = w.heap.size := ⟨_, rfl⟩
  rw [← hY] at hP0 hz0 ⊢
  have hYv : Y < v.heap.size := by omega
  have hzv : Y + 1 ≤ v.heap.size ∧ v.heap.size ≤ Y + 1 ∧ hi ≤ v.heap.size := by omega
  have y0 : v.cell? ⟨Y, 0, none⟩ = some (.slice A n c) := by rw [Go.Joins.cell_of_block hP0]; rfl
  have hYH := Lib.hid hY
  have hB0 := Lib.hid hb0
  clear hz0 hY hb0 hP0
  go_wp2_with fail
  go_loopw [3, 9] (fun ov iv wr => ∃ (k : Nat) (A1 : Option Addr) (c1 q : Nat), iv = .int .i64 k ∧ k ≤ n ∧ q = (allE Rs k).length ∧ ov = .slice A1 q c1 ∧ wr.ownsRow v.heap.size 78 4 (.slice A1 q c1) q ((allE Rs k).flatMap edgeC) ∧ Below v.heap.size v wr) (fun ov iv wr => n - (intOf iv).toNat)
  case atStart => exact ⟨0, none, 0, 0, rfl, Nat.zero_le _, by simp [allE], rfl, by simpa [allE] using World.ownsRow_nil v v.heap.size 78 4, Below.refl _ _⟩
  case round =>
  clear y0
  obtain ⟨k, A1, c1, q, rfl, hk, hq, rfl, hown, hbel⟩ := hrel
  have hz := hbel.size
  have hqk := hbd.out k (by omega)
  rw [← hq] at hqk
  replace hown := Lib.hid hown
  replace hq := Lib.hid hq
  generalize wr = xr at *
  by_cases hlt : k < n
  rotate_left
  · have hkn : k = n := by omega
    have hki : ¬ (k : Int) < (n : Int) := by omega
    replace hkn := Lib.hid hkn
    go_wp2_with fail
    go_ret
    exact ⟨A1, c1, by rw [← hkn.out, ← hq.out]; rfl, by rw [← hkn.out, ← hq.out]; exact own_lower hown.out (by have := hYH.out; omega), hB0.out.trans (hbel.mono (by have := hYH.out; omega))⟩
  obtain ⟨b, off, K, A2, n2, c2, rfl, hb0, hb, hja, q0, hm, hrk⟩ := reg_at (hr.out.frame good_ring (Below.sameB hbel hzv.2.2)) hlt
  have hbw : b < xr.heap.size := by omega
  obtain ⟨hk1, hk4⟩ := hok.out K (List.mem_of_getElem? hja)
  have hlK := hrk.1
  subst hlK
  have hal3 := Go.Joins.below_alloc1 xr (.cells #[.slice A2 K.length c2] 42 (0, 0))
  have hbo3 := heap_alloc_new xr (.cells #[.slice A2 K.length c2] 42 (0, 0))
  have hz4 : (xr.alloc (.cells #[.slice A2 K.length c2] 42 (0, 0))).heap.size = xr.heap.size + 1 := by simp
  have hcall := Lib.hid (edgesRing_own A2 K.length c2 lo hi K _ (hrk.frame (good_flat _) (Below.sameB hal3 (by omega))) (by omega) hk1 (by omega))
  have hst := Lib.hid (allE_succ hja)
  have hEb : (edgesL K).length ≤ 400 := Nat.le_trans (edgesTo_len K K.length) hk4
  obtain ⟨E, hE⟩ : ∃ E, E = edgesL K := ⟨_, rfl⟩
  rw [← hE] at hcall hst hEb
  obtain ⟨m, hm2⟩ : ∃ m, m = E.length := ⟨_, rfl⟩
  rw [← hm2] at hcall hEb
  have hki : (k : Int) < (n : Int) := by omega
  have i1 : (0 : Int) ≤ (k : Int) ∧ (k : Int) < (n : Int) := by omega
  replace hm2 := Lib.hid hm2
  replace hja := Lib.hid hja
  replace hE := Lib.hid hE
  have hAL := Lib.hid hal3
  have hbel' := Lib.hid hbel
  clear hm hrk hb0 hb hal3 hbel
  go_upto_region 5 with fail
  generalize xr.alloc (.cells #[.slice A2 K.length c2] 42 (0, 0)) = w4 at *
  obtain ⟨Z, hZ⟩ : ∃ Z, Z = xr.heap.size := ⟨_, rfl⟩
  rw [← hZ] at hbo3 hz4 ⊢
  have hZ4 : Z < w4.heap.size := by omega
  have hzw4 : xr.heap.size ≤ w4.heap.size := by omega
  have z4 : w4.cell? ⟨Z, 0, none⟩ = some (.slice A2 K.length c2) := by rw [Go.Joins.cell_of_block hbo3]; rfl
  replace hZ := Lib.hid hZ
  clear hbo3 hz4 q0
  go_wp2_with (first
    | (go_at_call 39; refine hcall.out.mono ?_; rintro e w1 ⟨A3, c3, rfl, ho3, hb1⟩; have hown1 := Lib.hid (own_below (own_below hown.out hAL.out) hb1); have hb1z := hb1.size; have hsrc := Lib.hid (src_rd edgeC_len edgeC_one (rdS_own edgeC_len (by omega) ho3 hm2.out.symm)); have hbel1 := Lib.hid ((hbel'.out.trans (hAL.out.mono hz)).trans (hb1.mono (by omega))); clear ho3 hb1)
    | (at_builtin; refine wpApp rfl (.tmp 13) (.tmp 15) elemLeg rfl (v := .slice A1 q c1) (n := q) (xs := (allE Rs k).flatMap edgeC) rfl hown1.out rfl hsrc.out (by omega) (by omega) (by omega) (q + m) rfl ?_; intro A' c' w5 hown5 hb5; replace hown5 := Lib.hid hown5))
  have hbel5 := hbel1.out.trans hb5
  clear hb5
  go_roundw
  case rel => exact ⟨k + 1, A', c', q + m, by go_num, by omega, by rw [hst.out, List.length_append, ← hq.out, ← hm2.out], rfl, by rw [hst.out, List.flatMap_append]; exact hown5.out, hbel5⟩
  case measure => simp [intOf]; omega
end Go.Proofs.YtlifiioflkhkoaaGreat

/- Twice the area, both sides. Conditions: as each states. -/
namespace Go.Proofs.YtlifiioflkhkoaaGreat
open Go.RowKit
set_option linter.unusedVariables false
set_option maxRecDepth 100000

theorem sumE_step {f : Pnt × Pnt → Int} {E : List (Pnt × Pnt)} {k : Nat} {e : Pnt × Pnt} (h : E[k]? = some e) : sumE f (E.take (k + 1)) = sumE f (E.take k) + f e := by
  rw [List.take_add_one, h, sumE_app]; simp [sumE]
theorem cross_bd {e : Pnt × Pnt} (h1 : pt2Ok e.1 = true) (h2 : pt2Ok e.2 = true) : (-68719476736 ≤ e.1.1 * e.2.2 ∧ e.1.1 * e.2.2 ≤ 68719476736) ∧ -68719476736 ≤ e.1.2 * e.2.1 ∧ e.1.2 * e.2.1 ≤ 68719476736 := by
  obtain ⟨a1, a2, a3, a4⟩ := pt_bd h1
  obtain ⟨b1, b2, b3, b4⟩ := pt_bd h2
  have p1 := prod_bd (A := 262144) (B := 262144) a1 a2 b3 b4
  have p2 := prod_bd (A := 262144) (B := 262144) a3 a4 b1 b2
  exact ⟨by omega, by omega⟩

set_option maxHeartbeats 4000000 in
theorem l14Twice_any (A : Option Addr) (n c lo hi : Nat) (L : List Pnt) (w : World) (hr : RdS 2 (FlatR ptC) w lo hi A n L) (hhi : hi ≤ w.heap.size) (hn : n ≤ 1000) (hok : ∀ p ∈ L, pt2Ok p = true) :
    Calls Tryz.prog 20 #[.slice A n c] w fun e w' => e = .returned (.int .i64 (sumE crossE (cyc L))) ∧ Below w.heap.size w w' := by
  have hll := Lib.hid hr.1
  replace hr := Lib.hid hr
  replace hok := Lib.hid hok
  go_enter Tryz.func20, Tryz.ntmps20
  go_wp2_with fail
  go_loopg [3, 4, 5, 6] n (fun kx s3 s4 s5 s6 wr => ∃ (k : Nat) (s : Int), s4 = .int .i64 k ∧ k ≤ n ∧ n - k ≤ kx ∧ s3 = .int .i64 s ∧ Hid (s = sumE crossE ((cyc L).take k)) ∧ -(k * 137438953472) ≤ s ∧ s ≤ k * 137438953472 ∧ Below w.heap.size w wr)
  case atStart => exact ⟨0, 0, rfl, Nat.zero_le _, Nat.le_refl _, rfl, rfl, by omega, by omega, Below.refl _ _⟩
  case round =>
  obtain ⟨k, s, rfl, hk, hkx, rfl, hs, hs1, hs2, hbel⟩ := hrel
  have hz := hbel.size
  by_cases hlt : k < n
  rotate_left
  · have hki : ¬ (k : Int) < (n : Int) := by omega
    have hfin : s = sumE crossE (cyc L) := by
      rw [hs.out, List.take_of_length_le (by rw [cyc_len, hll.out]; omega)]
    clear hs
    subst hfin
    go_wp2_with fail
    go_ret
    exact ⟨rfl, hbel⟩
  have hki : (k : Int) < (n : Int) := by omega
  obtain ⟨b, off, rfl, _, hb, hcs⟩ := (hr.out.frame (good_flat _) (Below.sameB hbel hhi)).pts (by omega)
  obtain ⟨v, hv⟩ : ∃ v, v = (k + 1) % n := ⟨_, rfl⟩
  have hvm : v < n := by rw [hv]; exact Nat.mod_lt _ (by omega)
  obtain ⟨c10, c11⟩ := hcs k hlt
  obtain ⟨c20, c21⟩ := hcs v hvm
  have hcy := cyc_at L k (by have := hll.out; omega)
  rw [hll.out, ← hv] at hcy
  have hst := sumE_step (f := crossE) hcy
  have ok1 := hok.out _ (ptL_mem (L := L) (k := k) (by have := hll.out; omega))
  have ok2 := hok.out _ (ptL_mem (L := L) (k := v) (by have := hll.out; omega))
  have hcb := cross_bd (e := (ptAt L k, ptAt L v)) ok1 ok2
  obtain ⟨⟨ax, ay⟩, ha⟩ : ∃ a, a = ptAt L k := ⟨_, rfl⟩
  obtain ⟨⟨bx, ey⟩, hbp⟩ : ∃ a, a = ptAt L v := ⟨_, rfl⟩
  rw [← ha] at c10 c11 hst hcb
  rw [← hbp] at c20 c21 hst hcb
  rw [show crossE ((ax, ay), (bx, ey)) = ax * ey - ay * bx from rfl] at hst
  simp only at c10 c11 c20 c21 hcb
  have hbw : b < wr.heap.size := by omega
  obtain ⟨P1, hP1⟩ : ∃ P, P = ax * ey := ⟨_, rfl⟩
  obtain ⟨P2, hP2⟩ : ∃ P, P = ay * bx := ⟨_, rfl⟩
  obtain ⟨D, hD⟩ : ∃ P, P = P1 - P2 := ⟨_, rfl⟩
  obtain ⟨s', hs'⟩ : ∃ P, P = s + D := ⟨_, rfl⟩
  obtain ⟨y2, hy2⟩ : ∃ y, y = k + 1 := ⟨_, rfl⟩
  rw [← hP1, ← hP2] at hcb
  have m1 : IntKind.i64.wrap (ax * ey) = P1 := by rw [← hP1]; exact wi (by omega)
  have m2 : IntKind.i64.wrap (ay * bx) = P2 := by rw [← hP2]; exact wi (by omega)
  have m3 : IntKind.i64.wrap (P1 - P2) = D := by have h1 := hD; rw [← h1]; exact wi (by omega)
  have m4 : IntKind.i64.wrap (s + D) = s' := by have h1 := hD; have h2 := hs'; rw [← h2]; exact wi (by omega)
  have q4 : IntKind.i64.wrap ((k : Int) + 1) = (y2 : Int) := by rw [wi (by omega)]; omega
  have q5 : (y2 : Int).tmod (n : Int) = (v : Int) := by rw [mod_i, hy2, hv]
  have q6 : ¬ n = 0 := by omega
  have q8 : IntKind.i64.wrap (v : Int) = (v : Int) := wi (by omega)
  have i1 : (0 : Int) ≤ (k : Int) ∧ (k : Int) < (n : Int) := by omega
  have i3 : (0 : Int) ≤ (v : Int) ∧ (v : Int) < (n : Int) := by omega
  have hsb : -((k + 1 : Nat) * 137438953472) ≤ s' ∧ s' ≤ (k + 1 : Nat) * 137438953472 := by rw [hs', hD]; omega
  have hsn : Hid (s' = sumE crossE ((cyc L).take (k + 1))) := by
    show _ = _
    rw [hst, ← hs.out, ← hP1, ← hP2, ← hD, ← hs']
  replace hs := Lib.hid hs
  have hyH := Lib.hid hy2
  have hbelH := Lib.hid hbel
  clear hP1 hP2 hD hs' hs1 hs2 hy2 hv ha hbp hst hcb hcs ok1 ok2 hcy hb
  go_wp2_with fail
  go_roundg (n - (k + 1))
  case measure => omega
  case rel => exact ⟨k + 1, s', by rw [hyH.out], by omega, Nat.le_refl _, rfl, hsn, hsb.1, hsb.2, (hbelH.out.alloc hz _).alloc (by simp; omega) _⟩

set_option maxHeartbeats 4000000 in
/-- twice the area of a valid region: the reference -/
theorem specAreaTwice_any (A : Option Addr) (n c lo hi : Nat) (Rs : List (List Pnt)) (w : World) (hr : RegRd w lo hi A n Rs) (hhi : hi ≤ w.heap.size) (hv : regOk Rs = true) :
    Calls Tryz.prog 7 #[.agg #[.slice A n c]] w fun e w' => e = .returned (.tuple #[.int .i64 (sumE crossE (regE Rs)), .int .i64 0]) ∧ Below w.heap.size w w' := by
  have hl := hr.1
  obtain ⟨v1, v2, v3⟩ := regOk_is hv
  have hb0 := Go.Joins.below_alloc1 w (.cells #[.slice A n c] 26 (0, 0))
  have hP0 := heap_alloc_new w (.cells #[.slice A n c] 26 (0, 0))
  have hz0 : (w.alloc (.cells #[.slice A n c] 26 (0, 0))).heap.size = w.heap.size + 1 := by simp
  have hK : ∀ K ∈ Rs, K.length ≤ 1000 ∧ ∀ p ∈ K, pt2Ok p = true := fun K hK => by
    obtain ⟨p1, p2, p3⟩ := pathOk_is (v2 K hK)
    exact ⟨by omega, p3⟩
  replace hr := Lib.hid (hr.frame good_ring (Below.sameB hb0 hhi))
  go_enter Tryz.func7, Tryz.ntmps7
  go_upto_region 1 with fail
  generalize w.alloc (.cells #[.slice A n c] 26 (0, 0)) = v at *
  obtain ⟨Y, hY⟩ : ∃ Y, Y = w.heap.size := ⟨_, rfl⟩
  rw [← hY] at hP0 hz0 ⊢
  have hYv : Y < v.heap.size := by omega
  have hzv : Y + 1 ≤ v.heap.size ∧ v.heap.size ≤ Y + 1 ∧ hi ≤ v.heap.size := by omega
  have y0 : v.cell? ⟨Y, 0, none⟩ = some (.slice A n c) := by rw [Go.Joins.cell_of_block hP0]; rfl
  have hok := Lib.hid (l13Ok_any Y 0 A n c lo hi Rs true hv.symm v y0 hr.out hzv.2.2 (by omega) (fun K h => by have := (hK K h).1; omega))
  have hYH := Lib.hid hY
  have hB0 := Lib.hid hb0
  have hn40 : n ≤ 40 := by omega
  have y0H := Lib.hid y0
  replace hK := Lib.hid hK
  replace hl := Lib.hid hl
  clear hz0 hY hb0 hP0 y0 v3 hv v2
  go_wp2_with fail
  refine hok.out.mono ?_
  rintro e w1 ⟨rfl, hb1⟩
  have hz1 := hb1.size
  clear hok
  go_wp2_with fail
  go_loopg [4, 5] n (fun kx s4 s5 wr => ∃ (k : Nat) (s : Int), s5 = .int .i64 k ∧ k ≤ n ∧ n - k ≤ kx ∧ s4 = .int .i64 s ∧ Hid (s = sumE crossE (regE (Rs.take k))) ∧ -(k * 137438953472000) ≤ s ∧ s ≤ k * 137438953472000 ∧ Below v.heap.size v wr)
  case atStart => exact ⟨0, 0, rfl, Nat.zero_le _, Nat.le_refl _, rfl, rfl, by omega, by omega, hb1⟩
  case round =>
  clear hb1
  obtain ⟨k, s, rfl, hk, hkx, rfl, hs, hs1, hs2, hbel⟩ := hrel
  have hz := hbel.size
  have yr : wr.cell? ⟨Y, 0, none⟩ = some (.slice A n c) := (hbel.cell (p := ⟨Y, 0, none⟩) hYv).trans y0H.out
  have hYr : Y < wr.heap.size := by omega
  by_cases hlt : k < n
  rotate_left
  · have hki : ¬ (k : Int) < (n : Int) := by omega
    have hfin : s = sumE crossE (regE Rs) := by
      rw [hs.out, List.take_of_length_le (by have := hl.out; omega)]
    clear hs
    subst hfin
    go_wp2_with fail
    go_ret2
    exact ⟨rfl, hB0.out.trans (hbel.mono (by have := hYH.out; omega))⟩
  have hki : (k : Int) < (n : Int) := by omega
  have i1 : (0 : Int) ≤ (k : Int) ∧ (k : Int) < (n : Int) := by omega
  obtain ⟨b, off, K, A2, n2, c2, rfl, hb0, hb, hja, q0, hm, hrk⟩ := reg_at (hr.out.frame good_ring (Below.sameB hbel hzv.2.2)) hlt
  have hbw : b < wr.heap.size := by omega
  obtain ⟨hk1, hk4⟩ := hK.out K (List.mem_of_getElem? hja)
  have hn2 := hrk.1
  have hcall := Lib.hid (l14Twice_any A2 n2 c2 lo hi K wr hrk (by omega) (by omega) hk4)
  obtain ⟨D, hD⟩ : ∃ P, P = sumE crossE (cyc K) := ⟨_, rfl⟩
  have hDb : -137438953472000 ≤ D ∧ D ≤ 137438953472000 := by
    have h1 : ∀ m, m ≤ (cyc K).length → -(m * 137438953472) ≤ sumE crossE ((cyc K).take m) ∧ sumE crossE ((cyc K).take m) ≤ m * 137438953472 := by
      intro m
      induction m with
      | zero => intro _; rw [List.take_zero, sumE_nil]; omega
      | succ m ih =>
        intro hm
        obtain ⟨i1, i2⟩ := ih (by omega)
        have hcy := cyc_at K m (by rw [cyc_len] at hm; omega)
        have hcb := cross_bd (e := (ptAt K m, ptAt K ((m + 1) % K.length))) (hk4 _ (ptL_mem (by rw [cyc_len] at hm; omega))) (hk4 _ (ptL_mem (Nat.mod_lt _ (by rw [cyc_len] at hm; omega))))
        rw [sumE_step hcy]
        unfold crossE at *
        omega
    have h2 := h1 (cyc K).length (Nat.le_refl _)
    rw [List.take_length, ← hD, cyc_len] at h2
    omega
  rw [← hD] at hcall
  obtain ⟨s', hs'⟩ : ∃ P, P = s + D := ⟨_, rfl⟩
  have m4 : IntKind.i64.wrap (s + D) = s' := by rw [← hs']; exact wi (by omega)
  have hsb : -((k + 1 : Nat) * 137438953472000) ≤ s' ∧ s' ≤ (k + 1 : Nat) * 137438953472000 := by omega
  have hsn : Hid (s' = sumE crossE (regE (Rs.take (k + 1)))) := by
    show _ = _
    rw [hs', hs.out, hD, List.take_add_one, hja]
    unfold regE
    simp only [Option.toList_some, List.flatMap_append, List.flatMap_cons, List.flatMap_nil, List.append_nil, sumE_app]
  replace hs := Lib.hid hs
  have hbelH := Lib.hid hbel
  clear hD hs' hs1 hs2 hja hm hrk hb hb0 hDb hbel hn2 hk1 hk4
  go_wp2_with fail
  refine hcall.out.mono ?_
  rintro e w2 ⟨rfl, hb2⟩
  go_wp2_with fail
  go_roundg (n - (k + 1))
  case measure => omega
  case rel => exact ⟨k + 1, s', by go_num, by omega, Nat.le_refl _, rfl, hsn, hsb.1, hsb.2, hbelH.out.trans (hb2.mono hz)⟩
end Go.Proofs.YtlifiioflkhkoaaGreat

/- Twice the area: the program's side. Conditions: as each states. -/
namespace Go.Proofs.YtlifiioflkhkoaaGreat
open Go.RowKit
set_option linter.unusedVariables false
set_option maxRecDepth 100000

/-- both ends within bounds -/
def EOk (E : List (Pnt × Pnt)) : Prop := ∀ e ∈ E, pt2Ok e.1 = true ∧ pt2Ok e.2 = true
theorem legAt {w : World} {lo hi : Nat} {A : Option Addr} {n : Nat} {E : List (Pnt × Pnt)} (h : RdS 4 (FlatR edgeC) w lo hi A n E) {j : Nat} (hj : j < n) :
    ∃ b off ax ay bx ey, A = some ⟨b, off, none⟩ ∧ lo ≤ b ∧ b < hi ∧ E[j]? = some ((ax, ay), (bx, ey)) ∧ w.cell? ⟨b, off + j * 4, none⟩ = some (.int .i64 ax) ∧ w.cell? ⟨b, off + j * 4 + 1, none⟩ = some (.int .i64 ay) ∧ w.cell? ⟨b, off + j * 4 + 2, none⟩ = some (.int .i64 bx) ∧ w.cell? ⟨b, off + j * 4 + 3, none⟩ = some (.int .i64 ey) := by
  obtain ⟨b, off, ⟨⟨ax, ay⟩, bx, ey⟩, rfl, h1, h2, h3, h4⟩ := h.at hj
  exact ⟨b, off, ax, ay, bx, ey, rfl, h1, h2, h3, h4 0 _ rfl, h4 1 _ rfl, h4 2 _ rfl, h4 3 _ rfl⟩

set_option maxHeartbeats 4000000 in
theorem areaTwice_any (A : Option Addr) (n c lo hi : Nat) (E : List (Pnt × Pnt)) (w : World) (hr : RdS 4 (FlatR edgeC) w lo hi A n E) (hhi : hi ≤ w.heap.size) (hn : n ≤ 20000) (hok : EOk E) :
    Calls Tryz.prog 21 #[.slice A n c] w fun e w' => e = .returned (.int .i64 (sumE crossE E)) ∧ Below w.heap.size w w' := by
  have hll := Lib.hid hr.1
  replace hr := Lib.hid hr
  replace hok := Lib.hid hok
  go_enter Tryz.func21, Tryz.ntmps21
  go_wp2_with fail
  go_loopg [3, 5, 8] n (fun kx s3 s5 s8 wr => ∃ (k : Nat) (s : Int), s8 = .int .i64 k ∧ k ≤ n ∧ n - k ≤ kx ∧ s3 = .int .i64 s ∧ Hid (s = sumE crossE (E.take k)) ∧ -(k * 137438953472) ≤ s ∧ s ≤ k * 137438953472 ∧ Below w.heap.size w wr)
  case atStart => exact ⟨0, 0, rfl, Nat.zero_le _, Nat.le_refl _, rfl, rfl, by omega, by omega, Below.refl _ _⟩
  case round =>
  obtain ⟨k, s, rfl, hk, hkx, rfl, hs, hs1, hs2, hbel⟩ := hrel
  have hz := hbel.size
  by_cases hlt : k < n
  rotate_left
  · have hki : ¬ (k : Int) < (n : Int) := by omega
    have hfin : s = sumE crossE E := by
      rw [hs.out, List.take_of_length_le (by have := hll.out; omega)]
    clear hs
    subst hfin
    go_wp2_with fail
    go_ret
    exact ⟨rfl, hbel⟩
  have hki : (k : Int) < (n : Int) := by omega
  obtain ⟨b, off, ax, ay, bx, ey, rfl, _, hb, hja, c0, c1, c2, c3⟩ := legAt (hr.out.frame (good_flat _) (Below.sameB hbel hhi)) hlt
  have hst := sumE_step (f := crossE) hja
  obtain ⟨ok1, ok2⟩ := hok.out _ (List.mem_of_getElem? hja)
  have hcb := cross_bd (e := ((ax, ay), (bx, ey))) ok1 ok2
  rw [show crossE ((ax, ay), (bx, ey)) = ax * ey - ay * bx from rfl] at hst
  simp only at hcb
  have hbw : b < wr.heap.size := by omega
  obtain ⟨P1, hP1⟩ : ∃ P, P = ax * ey := ⟨_, rfl⟩
  obtain ⟨P2, hP2⟩ : ∃ P, P = ay * bx := ⟨_, rfl⟩
  obtain ⟨D, hD⟩ : ∃ P, P = P1 - P2 := ⟨_, rfl⟩
  obtain ⟨s', hs'⟩ : ∃ P, P = s + D := ⟨_, rfl⟩
  rw [← hP1, ← hP2] at hcb
  have m1 : IntKind.i64.wrap (ax * ey) = P1 := by rw [← hP1]; exact wi (by omega)
  have m2 : IntKind.i64.wrap (ay * bx) = P2 := by rw [← hP2]; exact wi (by omega)
  have m3 : IntKind.i64.wrap (P1 - P2) = D := by have h1 := hD; rw [← h1]; exact wi (by omega)
  have m4 : IntKind.i64.wrap (s + D) = s' := by have h1 := hD; have h2 := hs'; rw [← h2]; exact wi (by omega)
  have i1 : (0 : Int) ≤ (k : Int) ∧ (k : Int) < (n : Int) := by omega
  have hsb : -((k + 1 : Nat) * 137438953472) ≤ s' ∧ s' ≤ (k + 1 : Nat) * 137438953472 := by rw [hs', hD]; omega
  have hsn : Hid (s' = sumE crossE (E.take (k + 1))) := by
    show _ = _
    rw [hst, ← hs.out, ← hP1, ← hP2, ← hD, ← hs']
  replace hs := Lib.hid hs
  have hbelH := Lib.hid hbel
  clear hP1 hP2 hD hs' hs1 hs2 hst hcb ok1 ok2 hja hb
  go_wp2_with fail
  go_roundg (n - (k + 1))
  case measure => omega
  case rel => exact ⟨k + 1, s', by go_num, by omega, Nat.le_refl _, rfl, hsn, hsb.1, hsb.2, hbelH.out.alloc hz _⟩
theorem edges_ok {L : List Pnt} (h : ∀ p ∈ L, pt2Ok p = true) : EOk (edgesL L) := by
  intro e he
  rw [edges_cyc] at he
  have he := (List.mem_filter.1 he).1
  obtain ⟨i, hi⟩ := List.mem_iff_getElem?.1 he
  have hl := (List.getElem?_eq_some_iff.1 hi).1
  rw [cyc_len] at hl
  rw [cyc_at L i hl] at hi
  injection hi with hi
  subst hi
  exact ⟨h _ (ptL_mem hl), h _ (ptL_mem (Nat.mod_lt _ (by omega)))⟩
theorem allE_ok {Rs : List (List Pnt)} (h : ∀ K ∈ Rs, ∀ p ∈ K, pt2Ok p = true) (k : Nat) : EOk (allE Rs k) := by
  intro e he
  unfold allE at he
  obtain ⟨L, hL, he⟩ := List.mem_flatMap.1 he
  exact edges_ok (h L (List.mem_of_mem_take hL)) e he
theorem allE_E (Rs : List (List Pnt)) : allE Rs Rs.length = (regE Rs).filter realE := by
  unfold allE regE
  rw [List.take_length, List.filter_flatMap]
  congr 1
  funext L
  exact edges_cyc L
theorem allE_sum (Rs : List (List Pnt)) {f : Pnt × Pnt → Int} (h : ∀ a, f (a, a) = 0) : sumE f (allE Rs Rs.length) = sumE f (regE Rs) := by rw [allE_E, sumE_real h]

set_option maxHeartbeats 4000000 in
theorem implAreaTwice_any (A : Option Addr) (n c lo hi : Nat) (Rs : List (List Pnt)) (w : World) (hr : RegRd w lo hi A n Rs) (hhi : hi ≤ w.heap.size) (hv : regOk Rs = true) :
    Calls Tryz.prog 8 #[.agg #[.slice A n c]] w fun e w' => e = .returned (.tuple #[.int .i64 (sumE crossE (regE Rs)), .int .i64 0]) ∧ Below w.heap.size w w' := by
  have hl := hr.1
  obtain ⟨v1, v2, v3⟩ := regOk_is hv
  have hb0 := Go.Joins.below_alloc1 w (.cells #[.slice A n c] 26 (0, 0))
  have hP0 := heap_alloc_new w (.cells #[.slice A n c] 26 (0, 0))
  have hz0 : (w.alloc (.cells #[.slice A n c] 26 (0, 0))).heap.size = w.heap.size + 1 := by simp
  have hK : ∀ K ∈ Rs, (1 ≤ K.length ∧ K.length ≤ 400) ∧ ∀ p ∈ K, pt2Ok p = true := fun K hK => by
    obtain ⟨p1, p2, p3⟩ := pathOk_is (v2 K hK)
    exact ⟨⟨by omega, by omega⟩, p3⟩
  have hEl : Hid ((allE Rs n).length ≤ 400) := by show _ ≤ _; rw [← hl, allE_len]; exact v3
  have hEo : Hid (EOk (allE Rs n)) := allE_ok (fun K h => (hK K h).2) n
  have hEs : Hid (sumE crossE (allE Rs n) = sumE crossE (regE Rs)) := by show _ = _; rw [← hl]; exact allE_sum Rs cross_self
  replace hr := Lib.hid (hr.frame good_ring (Below.sameB hb0 hhi))
  obtain ⟨E, hE⟩ : ∃ E, E = allE Rs n := ⟨_, rfl⟩
  rw [← hE] at hEl hEo hEs
  rw [← hEs.out]
  obtain ⟨S, hS⟩ : ∃ S, S = sumE crossE E := ⟨_, rfl⟩
  rw [← hS]
  replace hS := Lib.hid hS
  clear hEs
  go_enter Tryz.func8, Tryz.ntmps8
  go_upto_region 1 with fail
  generalize w.alloc (.cells #[.slice A n c] 26 (0, 0)) = v at *
  obtain ⟨Y, hY⟩ : ∃ Y, Y = w.heap.size := ⟨_, rfl⟩
  rw [← hY] at hP0 hz0 ⊢
  have hYv : Y < v.heap.size := by omega
  have hzv : Y + 1 ≤ v.heap.size ∧ v.heap.size ≤ Y + 1 ∧ hi ≤ v.heap.size := by omega
  have y0 : v.cell? ⟨Y, 0, none⟩ = some (.slice A n c) := by rw [Go.Joins.cell_of_block hP0]; rfl
  have hok := Lib.hid (validRegion_any A n c lo hi Rs true hv.symm v hr.out hzv.2.2 (by omega) (fun K h => by have := (hK K h).1; omega))
  have hYH := Lib.hid hY
  have hB0 := Lib.hid hb0
  have hn40 : n ≤ 40 := by omega
  replace hK := Lib.hid hK
  clear hz0 hY hb0 hP0 v3 hv v2
  go_wp2_with fail
  refine hok.out.mono ?_
  rintro e w1 ⟨rfl, hb1⟩
  have hz1 := hb1.size
  have y1 : w1.cell? ⟨Y, 0, none⟩ = some (.slice A n c) := (hb1.cell (p := ⟨Y, 0, none⟩) hYv).trans y0
  have hY1 : Y < w1.heap.size := by omega
  have hce := Lib.hid (edgesOf_any A n c lo hi Rs w1 (hr.out.frame good_ring (Below.sameB hb1 hzv.2.2)) (by omega) hn40 (fun L hL => (hK.out L hL).1))
  rw [← hE] at hce
  obtain ⟨m, hm⟩ : ∃ m, m = E.length := ⟨_, rfl⟩
  rw [← hm] at hce
  have hm4 : m ≤ 400 := by rw [hm]; exact hEl.out
  replace hm := Lib.hid hm
  replace hE := Lib.hid hE
  clear hok y0
  go_wp2_with fail
  refine hce.out.mono ?_
  rintro e w2 ⟨A2, c2, rfl, ho2, hb2⟩
  have hz2 := hb2.size
  have hca := Lib.hid (areaTwice_any A2 m c2 _ _ E w2 (rdS_own edgeC_len (by omega) ho2 hm.out.symm) (Nat.le_refl _) (by omega) hEo.out)
  have hB2 := Lib.hid ((hB0.out.trans (hb1.mono (by have := hYH.out; omega))).trans (hb2.mono (by have := hYH.out; omega)))
  rw [← hS.out] at hca
  clear hce ho2 hb2 hb1
  go_wp2_with fail
  refine hca.out.mono ?_
  rintro e w3 ⟨rfl, hb3⟩
  go_wp2_with fail
  go_ret2
  exact ⟨rfl, hB2.out.trans (hb3.mono (by have := hYH.out; omega))⟩
end Go.Proofs.YtlifiioflkhkoaaGreat

