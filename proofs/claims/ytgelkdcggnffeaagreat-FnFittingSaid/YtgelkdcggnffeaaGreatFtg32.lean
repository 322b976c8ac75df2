/- FitRing: the program's side. Printed by mk_fr9.py. Conditions: as each states. -/
import Derived.Deep.DeepCutAuto
import Derived.Test.YtgelkdcggnffeaaGreatFtg31
import Derived.Test.YtgelkdcggnffeaaGreatFtg02
namespace Go.Proofs.YtgelkdcggnffeaaGreat
open Go.RowKit
set_option linter.unusedVariables false
set_option maxRecDepth 100000

theorem rowB {w w' : World} {g n k : Nat} {ys : List Value} (h : w.ownsRow g 4 1 (.slice (some ⟨g, 0, none⟩) n n) n ys) (hb : Below w.heap.size w w') (hk : k < n) : ∃ v0, w'.cell? ⟨g, k, none⟩ = some v0 ∧ w'.frozen? ⟨g, k, none⟩ = false := by
  obtain ⟨g', hA, _, _, _, hcell, hfr⟩ := own_at (own_below h hb) (by omega)
  injection hA with hA
  injection hA with hA
  subst hA
  have hl := h.1
  refine ⟨ys[k]'(by omega), ?_, hfr k⟩
  rw [hcell k (by omega), List.getElem?_eq_getElem (by omega)]
abbrev Seven (W : World) (r b o1 o2 o3 : Nat) (h : Value) (ax ay px py bx ey : Int) : Prop := W.cell? ⟨r, 0, none⟩ = some h ∧ W.cell? ⟨b, o1, none⟩ = some (.int .i64 ax) ∧ W.cell? ⟨b, o1 + 1, none⟩ = some (.int .i64 ay) ∧ W.cell? ⟨b, o2, none⟩ = some (.int .i64 px) ∧ W.cell? ⟨b, o2 + 1, none⟩ = some (.int .i64 py) ∧ W.cell? ⟨b, o3, none⟩ = some (.int .i64 bx) ∧ W.cell? ⟨b, o3 + 1, none⟩ = some (.int .i64 ey)
theorem Seven.below {W W' : World} {B r b o1 o2 o3 : Nat} {h : Value} {ax ay px py bx ey : Int} (s : Seven W r b o1 o2 o3 h ax ay px py bx ey) (hb : Below B W W') (hr : r < B) (hbb : b < B) : Seven W' r b o1 o2 o3 h ax ay px py bx ey := by
  obtain ⟨s0, s1, s2, s3, s4, s5, s6⟩ := s
  exact ⟨(hb.cell (p := ⟨r, 0, none⟩) hr).trans s0, (hb.cell (p := ⟨b, o1, none⟩) hbb).trans s1, (hb.cell (p := ⟨b, o1 + 1, none⟩) hbb).trans s2, (hb.cell (p := ⟨b, o2, none⟩) hbb).trans s3, (hb.cell (p := ⟨b, o2 + 1, none⟩) hbb).trans s4, (hb.cell (p := ⟨b, o3, none⟩) hbb).trans s5, (hb.cell (p := ⟨b, o3 + 1, none⟩) hbb).trans s6⟩
theorem Seven.set {W : World} {g k r b o1 o2 o3 : Nat} {h : Value} {ax ay px py bx ey : Int} (s : Seven W r b o1 o2 o3 h ax ay px py bx ey) (hr : r < g) (hbb : b < g) (x : Value) : Seven (W.setCell ⟨g, k, none⟩ x) r b o1 o2 o3 h ax ay px py bx ey :=
  s.below ((Below.refl g W).setCell (p := ⟨g, k, none⟩) (Nat.le_refl _) x) hr hbb
theorem ret_intV {a b : Int} (h : a = b) : Value.int .i64 a = Value.int .i64 b := by rw [h]
theorem RdS.dropL {w : World} {lo hi b off n i : Nat} {L : List (Int × Int)} (h : RdS 2 (FlatR ptC) w lo hi (some ⟨b, off, none⟩) n L) (hi' : i ≤ n) : RdS 2 (FlatR ptC) w lo hi (some ⟨b, off + i * 2, none⟩) (n - i) (L.drop i) := by
  have hl := h.1
  refine ⟨by rw [List.length_drop, hl], fun h0 => ?_⟩
  obtain ⟨b', off', hA, h1, h2, h3⟩ := h.2 (by omega)
  injection hA with hA
  injection hA with e1 e2
  subst e1 e2
  refine ⟨b, off + i * 2, rfl, h1, h2, fun j a hj => ?_⟩
  rw [List.getElem?_drop] at hj
  obtain ⟨es, e3, e4, e5⟩ := h3 (i + j) a hj
  refine ⟨es, e3, fun u x hu => ?_, e5⟩
  have := e4 u x hu
  rw [Nat.add_mul, ← Nat.add_assoc] at this
  exact this
theorem belowD {w w' : World} (h : Below w.drew.heap.size w.drew w') : Below w.heap.size w w' := (Below.drew (Below.refl w.heap.size w)).trans h
theorem validRing_any (A : Option Addr) (n c lo hi : Nat) (L : List (Int × Int)) (v : Bool) (hv : v = pathOk L) (w : World) (hr : RdS 2 (FlatR ptC) w lo hi A n L) (hhi : hi ≤ w.heap.size) (hn : n ≤ 1048576) :
    Calls Tryz.prog 34 #[.agg #[.slice A n c]] w fun e w' => e = .returned (.bool v) ∧ Below w.heap.size w w' := by
  have hc := Lib.hid (fun o => isPath_any A n c lo hi L v hv (w.alloc o) (hr.frame (good_flat _) (SameB.alloc (SameB.refl _ _ _) hhi _)) (by simp; omega) hn)
  clear hr hv
  go_enter Tryz.func34, Tryz.ntmps34
  go_wp2_with fail
  refine (hc.out _).mono ?_
  rintro e w1 ⟨rfl, hb1⟩
  have hB := (Go.Joins.below_alloc1 _ _).trans (hb1.mono (by simp))
  clear hb1
  go_wp2_with fail
  go_ret
  exact ⟨rfl, hB⟩

set_option maxHeartbeats 16000000 in
theorem implFitRing_any (A : Option Addr) (n c lo hi : Nat) (L : List (Int × Int)) (t : Int) (KK : List Knot) (cd : Int) (hv : frR L t = (KK, cd)) (w : World) (hr : RdS 2 (FlatR ptC) w lo hi A n L) (hhi : hi ≤ w.heap.size) (hn : n ≤ 1048576) (hnc : n ≤ c) :
    Calls Tryz.prog 18 #[.agg #[.slice A n c], .int .i64 t] w fun e w' => ∃ (A' : Option Addr) (c' : Nat), e = .returned (.tuple #[.agg #[.slice A' KK.length c'], .int .i64 cd]) ∧ w'.ownsRow w.heap.size 73 3 (.slice A' KK.length c') KK.length (KK.flatMap knotC) ∧ Below w.heap.size w w' := by
  obtain ⟨i0, hi0, hz0b, hs0, hby0⟩ := info_parts infoBool
  have hl := hr.1
  have hnew := heap_new2 w (.cells #[.slice A n c] 41 (0, 0)) (.cells #[.slice none 0 0] 49 (0, 0))
  have hB0 : Below w.heap.size w ((w.alloc (.cells #[.slice A n c] 41 (0, 0))).alloc (.cells #[.slice none 0 0] 49 (0, 0))) := Go.Joins.below_alloc2 _ _ _
  have hz0 : ((w.alloc (.cells #[.slice A n c] 41 (0, 0))).alloc (.cells #[.slice none 0 0] 49 (0, 0))).heap.size = w.heap.size + 2 := by simp
  have hr0 := Lib.hid (hr.frame (good_flat _) (Below.sameB hB0 hhi))
  obtain ⟨v, hvv⟩ : ∃ v, v = pathOk L := ⟨_, rfl⟩
  unfold frR at hv
  rw [← hvv] at hv
  have hrg := Lib.hid (fun W hr hh => validRing_any A n c lo hi L v hvv W hr hh hn)
  replace hvv := Lib.hid hvv
  clear hr
  go_enter Tryz.func18, Tryz.ntmps18
  go_upto_region 1 with fail
  generalize (w.alloc (.cells #[.slice A n c] 41 (0, 0))).alloc (.cells #[.slice none 0 0] 49 (0, 0)) = w0 at *
  have p0 : w0.cell? ⟨w.heap.size, 0, none⟩ = some (.slice A n c) := by rw [Go.Joins.cell_of_block hnew.1]; rfl
  have pl0 : w.heap.size < w0.heap.size := by omega
  go_wp2_with fail
  refine (hrg.out w0 hr0.out (by omega)).mono ?_
  rintro e w1 ⟨rfl, hb1⟩
  have hz1 := hb1.size
  have hB1 := Lib.hid (hB0.trans (hb1.mono hB0.size))
  have hP1 := Lib.hid ((hb1.block w.heap.size pl0).trans hnew.1)
  have hR1 := Lib.hid ((hb1.block (w.heap.size + 1) (by omega)).trans hnew.2)
  have hr1 := Lib.hid (hr0.out.frame (good_flat _) (Below.sameB hb1 (by omega)))
  have p1 : w1.cell? ⟨w.heap.size, 0, none⟩ = some (.slice A n c) := by rw [Go.Joins.cell_of_block hP1.out]; rfl
  have pl1 : w.heap.size < w1.heap.size := by omega
  have r0 : w1.cell? ⟨w.heap.size + 1, 0, none⟩ = some (.slice none 0 0) := by rw [Go.Joins.cell_of_block hR1.out]; rfl
  have rf := Go.Joins.unfrozen_of_block hR1.out
  have rl : w.heap.size + 1 < w1.heap.size := by omega
  clear hrg hr0 p0 pl0 hb1 hnew hB0
  cases v with
  | false =>
    rw [if_pos rfl] at hv
    injection hv with e1 e2
    subst e1 e2
    go_wp2_with fail
    refine bodyPost_ret (v := .tuple #[.agg #[.slice none 0 0], .int .i64 1]) (by simp [results, Tryz.results18, go_sem, r0]) rfl ⟨none, 0, rfl, World.ownsRow_nil _ _ _ _, ?_⟩
    exact hB1.out.setCell (by show w.heap.size ≤ w.heap.size + 1; omega) _
  | true =>
  rw [if_neg (by simp)] at hv
  obtain ⟨hn1, hn4, hLok⟩ := pathOk_is hvv.out.symm
  rw [hl] at hn1 hn4
  have htl := Lib.hid (isTolerance_any t w1)
  go_wp2_with fail
  refine htl.out.mono ?_
  rintro e w' ⟨rfl, rfl⟩
  cases ht : inB t 1 262144 with
  | false =>
    rw [ht, if_pos rfl] at hv
    injection hv with e1 e2
    subst e1 e2
    go_wp2_with fail
    refine bodyPost_ret (v := .tuple #[.agg #[.slice none 0 0], .int .i64 2]) (by simp [results, Tryz.results18, go_sem, r0]) rfl ⟨none, 0, rfl, World.ownsRow_nil _ _ _ _, ?_⟩
    exact hB1.out.setCell (by show w.heap.size ≤ w.heap.size + 1; omega) _
  | true =>
  rw [ht, if_neg (by simp)] at hv
  rw [inB_iff] at ht
  obtain ⟨ht0, ht1⟩ := ht
  replace hv := Lib.hid hv
  have hll := Lib.hid hl
  replace hLok := Lib.hid hLok
  clear hl htl r0 rf rl
  go_upto_region 7 with (at_make; refine wpList_make_full _ rfl _ _ 82 rfl w1.heap.size 4 i0 (.bool false) 1 Tryz.underlying82 hi0 hz0b hs0 .i64 .i64 _ _ n rfl rfl rfl rfl (by rw [hby0]; omega) (by unfold maxLen; omega) (Nat.le_refl _) ?_; intro w2 hown2 hg2)
  have hb2 : Below w1.heap.size w1 w2 := (Below.refl _ _).grown hg2 (Nat.le_refl _) (by simp)
  have hlt2 := (hown2.lt _ rfl).2
  have hz12 := hb2.size
  have p2 := (hb2.cell (p := ⟨w.heap.size, 0, none⟩) pl1).trans p1
  have pl2 : w.heap.size < w2.heap.size := by omega
  obtain ⟨g, hge⟩ : ∃ g, g = w1.heap.size := ⟨_, rfl⟩
  rw [← hge] at hown2 hlt2 hb2 pl1 hz1 ⊢
  have hb2' : Below g w1 w2 := hb2
  have hge' : w1.heap.size ≤ g := by omega
  have hge2 : g ≤ w1.heap.size := by omega
  replace hown2 := Lib.hid hown2
  have p1H := Lib.hid p1
  clear hg2 p1
  replace hge := Lib.hid hge
  go_wp2_with fail
  clear p2 pl2
  go_loopw [33] (fun iv wr => ∃ (k : Nat) (ys : List Value), iv = .int .i64 k ∧ k ≤ n ∧ wr.ownsRow g 4 1 (.slice (some ⟨g, 0, none⟩) n n) n ys ∧ (∀ j, j < k → ys[j]? = some (.bool (cornL L j))) ∧ Below g w1 wr) (fun iv wr => n - (intOf iv).toNat)
  case atStart => exact ⟨0, _, rfl, Nat.zero_le _, hown2.out, fun j hj => absurd hj (Nat.not_lt_zero j), hb2'⟩
  case round =>
    clear hown2 hb2 hb2' hlt2
    obtain ⟨k, ys, rfl, hk, ho, hall, hbel⟩ := hrel
    have hz := hbel.size
    have hglt := (ho.lt _ rfl).2
    have p3 := (hbel.cell (p := ⟨w.heap.size, 0, none⟩) pl1).trans p1H.out
    have pl3 : w.heap.size < wr.heap.size := by omega
    replace hall := Lib.hid hall
    by_cases hlt : k < n
    · obtain ⟨b, off, rfl, hb0, hb, hcs⟩ := (hr1.out.frame (good_flat _) (Below.sameB hbel (by omega))).pts (by omega)
      obtain ⟨m, hm⟩ : ∃ m, m = (k + n - 1) % n := ⟨_, rfl⟩
      obtain ⟨p, hp⟩ : ∃ p, p = (k + 1) % n := ⟨_, rfl⟩
      have hmn : m < n := by rw [hm]; exact Nat.mod_lt _ (by omega)
      have hpn : p < n := by rw [hp]; exact Nat.mod_lt _ (by omega)
      obtain ⟨c10, c11⟩ := hcs m hmn
      obtain ⟨c20, c21⟩ := hcs k hlt
      obtain ⟨c30, c31⟩ := hcs p hpn
      have hll1 := hll.out
      obtain ⟨v, hv⟩ : ∃ v, v = cornL L k := ⟨_, rfl⟩
      have hcall := Lib.hid (fun W => isCorner_any (ptAt L m).1 (ptAt L m).2 (ptAt L k).1 (ptAt L k).2 (ptAt L p).1 (ptAt L p).2 v (by rw [hv]; unfold cornL; rw [hll1, ← hm, ← hp]) W (pts_ok hLok.out (by omega)) (pts_ok hLok.out (by omega)) (pts_ok hLok.out (by omega)))
      generalize (ptAt L m).1 = ax at *
      generalize (ptAt L m).2 = ay at *
      generalize (ptAt L k).1 = px at *
      generalize (ptAt L k).2 = py at *
      generalize (ptAt L p).1 = bx at *
      generalize (ptAt L p).2 = ey at *
      have hbw : b < wr.heap.size := by omega
      have hki : (k : Int) < (n : Int) := by omega
      have i1 : (0 : Int) ≤ (m : Int) ∧ (m : Int) < (n : Int) := by omega
      have i2 : (0 : Int) ≤ (k : Int) ∧ (k : Int) < (n : Int) := by omega
      have i3 : (0 : Int) ≤ (p : Int) ∧ (p : Int) < (n : Int) := by omega
      obtain ⟨y1, hy1⟩ : ∃ y1, y1 = k + n - 1 := ⟨_, rfl⟩
      obtain ⟨y2, hy2⟩ : ∃ y2, y2 = k + 1 := ⟨_, rfl⟩
      have q1 : IntKind.i64.wrap ((k : Int) + (n : Int)) = (k : Int) + (n : Int) := wi (by omega)
      have q2 : IntKind.i64.wrap ((k : Int) + (n : Int) - 1) = (y1 : Int) := by rw [wi (by omega)]; omega
      have q3 : (y1 : Int).tmod (n : Int) = (m : Int) := by rw [mod_i, hy1, hm]
      have q4 : IntKind.i64.wrap ((k : Int) + 1) = (y2 : Int) := by rw [wi (by omega)]; omega
      have q5 : (y2 : Int).tmod (n : Int) = (p : Int) := by rw [mod_i, hy2, hp]
      have q6 : ¬ n = 0 := by omega
      have q7 : IntKind.i64.wrap (m : Int) = (m : Int) := wi (by omega)
      have q8 : IntKind.i64.wrap (p : Int) = (p : Int) := wi (by omega)
      replace hv := Lib.hid hv
      replace hm := Lib.hid hm
      replace hp := Lib.hid hp
      replace hy1 := Lib.hid hy1
      have hy2' := Lib.hid hy2
      obtain ⟨z0, z1, z2, z3, z4, z5, z6⟩ := (show _ ∧ _ ∧ _ ∧ _ ∧ _ ∧ _ ∧ _ from ⟨p3, c10, c11, c20, c21, c30, c31⟩)
      have hwg : w.heap.size < g := by omega
      have hbg : b < g := by omega
      clear hcs hb0 hb hy2 hll1
      have hgk : (0 : Int) ≤ (k : Int) ∧ (k : Int) < (n : Int) := by omega
      have hoB := Lib.hid ho
      clear ho
      go_wp2_with fail
      have s7 := Lib.hid (show Seven wr w.heap.size b (off + m * 2) (off + k * 2) (off + p * 2) (.slice (some ⟨b, off, none⟩) n c) ax ay px py bx ey from ⟨p3, c10, c11, c20, c21, c30, c31⟩)
      have sD := Lib.hid (show wr.drew.cell? ⟨w.heap.size, 0, none⟩ = some (.slice (some ⟨b, off, none⟩) n c) ∧ wr.drew.cell? ⟨b, off + m * 2, none⟩ = some (.int .i64 ax) ∧ wr.drew.cell? ⟨b, off + m * 2 + 1, none⟩ = some (.int .i64 ay) ∧ wr.drew.cell? ⟨b, off + k * 2, none⟩ = some (.int .i64 px) ∧ wr.drew.cell? ⟨b, off + k * 2 + 1, none⟩ = some (.int .i64 py) ∧ wr.drew.cell? ⟨b, off + p * 2, none⟩ = some (.int .i64 bx) ∧ wr.drew.cell? ⟨b, off + p * 2 + 1, none⟩ = some (.int .i64 ey) from ⟨p3, c10, c11, c20, c21, c30, c31⟩)
      go_region_held3 (fun w' => w'.cell? ⟨w.heap.size, 0, none⟩ = some (.slice (some ⟨b, off, none⟩) n c) ∧ w'.cell? ⟨b, off + m * 2, none⟩ = some (.int .i64 ax) ∧ w'.cell? ⟨b, off + m * 2 + 1, none⟩ = some (.int .i64 ay) ∧ w'.cell? ⟨b, off + k * 2, none⟩ = some (.int .i64 px) ∧ w'.cell? ⟨b, off + k * 2 + 1, none⟩ = some (.int .i64 py) ∧ w'.cell? ⟨b, off + p * 2, none⟩ = some (.int .i64 bx) ∧ w'.cell? ⟨b, off + p * 2 + 1, none⟩ = some (.int .i64 ey)) (first | (with_reducible exact sD.out) | (with_reducible exact sQ.out) | (with_reducible exact sR.out _)) (first | (go_at_call 36; with_reducible refine (hcall.out _).mono ?_; rintro e w3 ⟨rfl, hb3⟩; have hbD : Hid (Below wr.heap.size wr w3) := Lib.hid (belowD hb3); have sQ := Lib.hid (Seven.below s7.out hbD.out pl3 hbw); have sR := Lib.hid (Seven.set (g := g) (k := k) sQ.out hwg hbg); obtain ⟨v0, cr, fr⟩ := rowB hoB.out hbD.out hlt; have lg : g < w3.heap.size := Nat.lt_of_lt_of_le hglt hbD.out.size))
      all_goals
        clear sD sQ sR s7 c10 c11 c20 c21 c30 c31 z0 z1 z2 z3 z4 z5 z6 q1 q2 q3 q4 q5 q6 q7 q8 i1 i2 i3 hcall
        go_wp2_with fail
        go_roundw
        case rel =>
          have hoS := (own_below hoB.out hbD.out).stored k (.bool v)
          have hyl := hoB.out.1
          refine ⟨k + 1, _, by go_num, by omega, hoS.1, fun j hj => ?_, (hbel.trans (hbD.out.mono (by omega))).setCell (Nat.le_refl _) _⟩
          rcases Nat.lt_or_ge j k with h | h
          · rw [List.getElem?_set_ne (by omega)]; exact hall.out j h
          · obtain rfl : j = k := by omega
            rw [List.getElem?_set_self (by omega), ← hv.out]
        case measure => simp [intOf]; omega
    have hkn : k = n := by omega
    subst k
    have hki : ¬ (n : Int) < (n : Int) := by omega
    obtain ⟨Cs, hCs⟩ : ∃ Cs : List Bool, Cs = (List.range n).map (cornL L) := ⟨_, rfl⟩
    have hCl : Cs.length = n := by rw [hCs]; simp
    have hCa : ∀ j, j < n → Cs[j]? = some (cornL L j) := fun j hj => by rw [hCs, List.getElem?_map, List.getElem?_range hj]; rfl
    have hys : ys = Cs.flatMap boolC := flat_ext boolC_len hCl ho.1 fun j a hj i hi => by
      have hjk : j < n := by have := (List.getElem?_eq_some_iff.1 hj).1; omega
      obtain rfl : i = 0 := by omega
      rw [hCa j hjk] at hj
      injection hj with hj
      subst hj
      rw [Nat.mul_one, Nat.add_zero, hall.out j hjk]; rfl
    rw [hys] at ho
    have hrC := Lib.hid (rdS_own boolC_len (by omega) ho hCl)
    replace hCa := Lib.hid hCa
    have hrg := Lib.hid (hr1.out.frame (good_flat _) (Below.sameB hbel (by omega)))
    have hBw := Lib.hid (hB1.out.trans (hbel.mono (by omega)))
    have hPw := Lib.hid ((hbel.block w.heap.size pl1).trans hP1.out)
    have hRw := Lib.hid ((hbel.block (w.heap.size + 1) (by omega)).trans hR1.out)
    obtain ⟨F, hF⟩ : ∃ F, F = firstC L := ⟨_, rfl⟩
    have hFl : F < n := by rw [hF, ← hll.out]; exact firstC_lt (by have := hll.out; omega)
    have hix := Lib.hid (indexBool_any (some ⟨g, 0, none⟩) n n g wr.heap.size Cs wr hrC.out (Nat.le_refl _) (by omega))
    clear ho hys hall hCs hCl p3
    generalize wr = w3 at *
    go_upto_region 12 with fail
    go_cut [9] (fun s9 wx => s9 = .int .i64 F ∧ w3 = wx)
    case first =>
      go_wp2_with fail
      refine hix.out.mono ?_
      rintro e w' ⟨r, rfl, hr2, rfl⟩
      rcases hr2 with ⟨j, rfl, h1, h2⟩ | ⟨rfl, h2⟩
      · have hjk : j < n := by
          have := (List.getElem?_eq_some_iff.1 h1).1
          have h3 := hrC.out.1
          omega
        have hFj : F = j := by
          rw [hF]
          refine firstC_hit (by rw [hll.out]; exact hjk) ?_ fun x hx => ?_
          · have := hCa.out j hjk; rw [h1] at this; injection this with this; exact this.symm
          · have := hCa.out x (by omega); rw [h2 x hx] at this; injection this with this; exact this.symm
        have h0 : ¬ (j : Int) < 0 := by omega
        have h00 : (0 : Int) ≤ (j : Int) := by omega
        replace h1 := Lib.hid h1
        replace h2 := Lib.hid h2
        replace hFj := Lib.hid hFj
        go_wp2_with fail
        all_goals
          go_meet
          exact ⟨ret_intV (by rw [hFj.out]), rfl⟩
      · have hF0 : F = 0 := by
          rw [hF]
          exact firstC_none fun x hx => by have h3 := hCa.out x (by rw [hll.out] at hx; exact hx); rw [h2 x (by rw [hll.out] at hx; exact hx)] at h3; injection h3 with h3; exact h3.symm
        replace h2 := Lib.hid h2
        replace hF0 := Lib.hid hF0
        go_wp2_with fail
        all_goals
          go_meet
          exact ⟨ret_intV (by rw [hF0.out]; rfl), rfl⟩
    case rest =>
    obtain ⟨rfl, rfl⟩ := hcut
    -- the turned ring
    obtain ⟨P, hP⟩ : ∃ P, P = rotL L F := ⟨_, rfl⟩
    have hPs : P = L.drop F ++ L.take (F + 1) := by rw [hP]; exact rotL_split (by rw [hll.out]; exact hFl)
    have hPl : P.length = n + 1 := by rw [hP, rotL_len, hll.out]
    have hPok : ∀ p ∈ P, ptOk p.1 p.2 = true := by rw [hP]; exact rotL_ok hLok.out (by have := hll.out; omega) F
    have hPc : ptAt P 0 = ptAt P n := by rw [hP, rotL_pt (by omega), rotL_pt (by rw [hll.out]; exact Nat.le_refl _), hll.out, Nat.add_mod_right, Nat.add_zero]
    have hcp : ∀ e, 1 ≤ e → e < n → cornP P e = cornL L ((F + e) % n) := fun e h1 h2 => by rw [hP, corn_rot h1 (by rw [hll.out]; exact h2), hll.out]
    have hKF : ringK L t = fitK P n t 0 := by rw [hP, hF, ← hll.out]; rfl
    obtain ⟨b, off, hAe, hb0, hb, -⟩ := hrg.out.pts (by omega)
    subst hAe
    have hrT0 := hrg.out.part (i := 0) (k := F) (by omega)
    rw [Nat.zero_mul, Nat.add_zero] at hrT0
    have hpT : partP L 0 F = L.take (F + 1) := by unfold partP; rw [List.drop_zero]
    rw [hpT] at hrT0
    have hrD0 := hrg.out.dropL (i := F) (by omega)
    have hrT := Lib.hid hrT0
    have hrD := Lib.hid hrD0
    have p3 : w3.cell? ⟨w.heap.size, 0, none⟩ = some (.slice (some ⟨b, off, none⟩) n c) := by rw [Go.Joins.cell_of_block hPw.out]; rfl
    have pl3 : w.heap.size < w3.heap.size := by omega
    obtain ⟨n1, hn1e⟩ : ∃ n1, n1 = n - F := ⟨_, rfl⟩
    obtain ⟨n2, hn2e⟩ : ∃ n2, n2 = F + 1 := ⟨_, rfl⟩
    obtain ⟨T1, hT1⟩ : ∃ T1, T1 = L.drop F := ⟨_, rfl⟩
    obtain ⟨T2, hT2⟩ : ∃ T2, T2 = L.take (F + 1) := ⟨_, rfl⟩
    rw [← hT2, ← hn2e] at hrT
    rw [← hT1, ← hn1e] at hrD
    rw [← hT1, ← hT2] at hPs
    replace hT1 := Lib.hid hT1
    replace hT2 := Lib.hid hT2
    have hn12 : n1 + n2 = n + 1 := by omega
    have hcc := Lib.hid (fun (W : World) (g' c1' c2' : Nat) h1 h2 (hb : Below w3.heap.size w3 W) => concatPt_any g' (some ⟨b, off + F * 2, none⟩) (some ⟨b, off, none⟩) n1 c1' n2 c2' lo hi T1 T2 W h1 h2 (hrD.out.frame (good_flat _) (Below.sameB hb (by omega))) (hrT.out.frame (good_flat _) (Below.sameB hb (by omega))) (Nat.le_trans (by omega) hb.size) (by omega) (by omega))
    rw [hn12, ← hPs] at hcc
    have q1 : IntKind.i64.wrap ((F : Int) + 1) = (n2 : Int) := by rw [wi (by omega)]; omega
    have i1 : (0 : Int) ≤ (F : Int) ∧ (F : Int) ≤ (n : Int) := by omega
    have i2 : (0 : Int) ≤ (n2 : Int) ∧ (n2 : Int) ≤ (c : Int) := by omega
    have i3 : F ≤ n := by omega
    have i4 : n2 ≤ c := by omega
    have i5 : n ≤ c := hnc
    have i6 : ((n : Int) - (F : Int)) = (n1 : Int) := by omega
    have i7 : n - F = n1 := hn1e.symm
    replace hn1e := Lib.hid hn1e
    replace hn2e := Lib.hid hn2e
    replace hP := Lib.hid hP
    replace hF := Lib.hid hF
    replace hPs := Lib.hid hPs
    replace hPl := Lib.hid hPl
    replace hPok := Lib.hid hPok
    replace hPc := Lib.hid hPc
    replace hKF := Lib.hid hKF
    replace hcp := Lib.hid hcp
    clear hpT hrT0 hrD0 hix
    go_upto_region 13 with fail
    go_cut [10] (fun s10 wx => ∃ (A3 : Option Addr) (c3 : Nat), s10 = .slice A3 (n + 1) c3 ∧ wx.ownsRow w3.heap.size 71 2 (.slice A3 (n + 1) c3) (n + 1) (P.flatMap ptC) ∧ Below w3.heap.size w3 wx)
    case first =>
      go_still_tail 9, (by kernel_rfl)
      have hdr : Below w3.heap.size w3 w3.drew := Below.drew (Below.refl _ _)
      have hn13 := hcc.out
      change wpList _ _ _ _ _ w3.drew
      clear p3 pl3
      generalize w3.drew = w4 at *
      have hcc4 := Lib.hid (hcc.out (w4.alloc (.cells #[.slice (some ⟨b, off + F * 2, none⟩) n1 (c - F), .slice (some ⟨b, off, none⟩) n2 c] 39 (0, 0))) w4.heap.size (c - F) c (by rw [Go.Joins.cell_of_block (heap_alloc_new w4 _)]; rfl) (by rw [Go.Joins.cell_of_block (heap_alloc_new w4 _)]; rfl) (hdr.alloc hdr.size _))
      have hdr2 := hdr.alloc hdr.size (.cells #[.slice (some ⟨b, off + F * 2, none⟩) n1 (c - F), .slice (some ⟨b, off, none⟩) n2 c] 39 (0, 0))
      clear hcc hn13
      go_wp2_with fail
      refine hcc4.out.mono ?_
      rintro e w5 ⟨A3, c3, rfl, ho3, hb3⟩
      go_wp2_with fail
      go_meet
      exact ⟨A3, c3, rfl, own_lower ho3 hdr2.size, hdr2.trans (hb3.mono hdr2.size)⟩
    case rest =>
    obtain ⟨A3, c3, rfl, ho3, hb3⟩ := hcut
    generalize wc = u1 at *
    have hz3 := hb3.size
    obtain ⟨bp, rfl, hg3a, hg3b, hc3, -, -⟩ := own_at ho3 (by omega)
    have hrP0 := Lib.hid (rdS_own ptC_len (by omega) ho3 hPl.out)
    have hrC1 := Lib.hid (hrC.out.frame (good_flat _) (Below.sameB hb3 (Nat.le_refl _)))
    have hR1' := Lib.hid ((hb3.block (w.heap.size + 1) (by omega)).trans hRw.out)
    have hB1' := Lib.hid (hBw.out.trans (hb3.mono (by omega)))
    clear ho3 hrC hRw hBw hPw hcc hb3 hrT hrD p3 pl3
    have hX : LoopB (u1.alloc (.cells #[.slice none 0 0] 49 (0, 0))) u1.heap.size none 0 [] := ⟨heap_alloc_new u1 _, World.ownsRow_nil _ _ _ _⟩
    have hal := Go.Joins.below_alloc1 u1 (.cells #[.slice none 0 0] 49 (0, 0))
    have hrP1 := Lib.hid (hrP0.out.frame (good_flat _) (Below.sameB hal (Nat.le_refl _)))
    have hrC2 := Lib.hid (hrC1.out.frame (good_flat _) (Below.sameB hal hz3))
    have hR2 := Lib.hid ((hal.block (w.heap.size + 1) (by omega)).trans hR1'.out)
    have hB2 := Lib.hid (hB1'.out.trans (hal.mono (by omega)))
    have hzX : u1.heap.size < (u1.alloc (.cells #[.slice none 0 0] 49 (0, 0))).heap.size := by simp
    have hw1X : w.heap.size + 1 < u1.heap.size := by omega
    clear hrP0 hrC1 hR1' hB1' hal
    go_upto_region 15 with fail
    generalize u1.alloc (.cells #[.slice none 0 0] 49 (0, 0)) = v0 at *
    obtain ⟨X, hXe⟩ : ∃ X, X = u1.heap.size := ⟨_, rfl⟩
    rw [← hXe] at hX hrP1 hzX hw1X hg3b hz3 ⊢
    clear hXe
    replace hX := Lib.hid hX
    obtain ⟨KR, hKR⟩ : ∃ KR, KR = ringK L t := ⟨_, rfl⟩
    rw [← hKR] at hv hKF
    replace hKR := Lib.hid hKR
    go_wp2_with fail
    go_loopw [12] (fun iv xr => ∃ (i : Nat) (Ao : Option Addr) (co : Nat) (K : List Knot), iv = .int .i64 i ∧ i ≤ n ∧ K.length ≤ 2 * i ∧ K ++ fitK P n t i = KR ∧ LoopB xr X Ao co K ∧ Below X v0 xr) (fun iv xr => n - (intOf iv).toNat)
    case atStart => exact ⟨0, none, 0, [], rfl, Nat.zero_le _, by simp, by rw [hKF.out]; rfl, hX.out, Below.refl _ _⟩
    case round =>
    clear hX
    generalize wr = xr at *
    obtain ⟨i, Ao, co, K, rfl, hi, hKl, hKe, hLB, hbx⟩ := hrel
    have hzx := hbx.size
    have hXl := hLB.lt
    have hrX := Lib.hid (hrP1.out.frame (good_flat _) (Below.sameB hbx (Nat.le_refl _)))
    have hrCx := Lib.hid (hrC2.out.frame (good_flat _) (Below.sameB hbx hz3))
    replace hKe := Lib.hid hKe
    by_cases hlt : i < n
    rotate_left
    · have hni : ¬ (i : Int) < (n : Int) := by omega
      have hKK : K = KR := by have := hKe.out; rw [fitK_end (by omega), List.append_nil] at this; exact this
      clear hKe
      subst hKK
      have hRx := Lib.hid ((hbx.block (w.heap.size + 1) (by omega)).trans hR2.out)
      have hBx := Lib.hid (hB2.out.trans (hbx.mono (by omega)))
      have c0 := hLB.cell
      have r0 : xr.cell? ⟨w.heap.size + 1, 0, none⟩ = some (.slice none 0 0) := by rw [Go.Joins.cell_of_block hRx.out]; rfl
      have rf := Go.Joins.unfrozen_of_block hRx.out
      have hzr : w.heap.size + 1 < xr.heap.size := by omega
      have hvo := hv.out
      replace hLB := Lib.hid hLB
      by_cases h60 : 60 < K.length
      · have h60i : (60 : Int) < (K.length : Int) := by omega
        rw [if_pos h60] at hvo
        injection hvo with e1 e2
        subst e1 e2
        go_wp2_with fail
        refine bodyPost_ret (v := .tuple #[.agg #[.slice none 0 0], .int .i64 5]) (by simp [results, Tryz.results18, go_sem, r0]) rfl ⟨none, 0, rfl, World.ownsRow_nil _ _ _ _, ?_⟩
        exact hBx.out.setCell (by show w.heap.size ≤ w.heap.size + 1; omega) _
      · have h60i : ¬ (60 : Int) < (K.length : Int) := by omega
        rw [if_neg h60] at hvo
        injection hvo with e1 e2
        subst e1 e2
        go_wp2_with fail
        refine bodyPost_ret (v := .tuple #[.agg #[.slice Ao K.length co], .int .i64 0]) (by simp [results, Tryz.results18, go_sem, r0]) rfl ⟨Ao, co, rfl, ?_, ?_⟩
        · exact own_lower (ownsRow_setCell_below hLB.out.2 (by show w.heap.size + 1 < X + 1; omega) _) (by omega)
        · exact hBx.out.setCell (by show w.heap.size ≤ w.heap.size + 1; omega) _
    have hii : (i : Int) < (n : Int) := by omega
    replace hLB := Lib.hid hLB
    replace hbx := Lib.hid hbx
    go_wp2_with fail
    go_loopw [13] (fun mv yr => ∃ e : Nat, mv = .int .i64 e ∧ i + 1 ≤ e ∧ e ≤ n ∧ endW P n e = endW P n (i + 1) ∧ Below xr.heap.size xr yr) (fun mv yr => n - (intOf mv).toNat)
    case atStart => exact ⟨i + 1, by go_num, Nat.le_refl _, by omega, rfl, Below.refl _ _⟩
    case round =>
    generalize wr = yr at *
    obtain ⟨e, rfl, hm1, hm2, hme, hby⟩ := hrel
    have hzy := hby.size
    have hrY := Lib.hid (hrX.out.frame (good_flat _) (Below.sameB hby (by omega)))
    have hrCy := hrCx.out.frame (good_flat _) (Below.sameB hby (by omega))
    have hLY := Lib.hid (hLB.out.below hby)
    have hbY := Lib.hid (hbx.out.trans (hby.mono (by omega)))
    replace hme := Lib.hid hme
    replace hby := Lib.hid hby
    by_cases hgo : e < n ∧ cornP P e = false
    · obtain ⟨hen, hcf⟩ := hgo
      obtain ⟨m, hm⟩ : ∃ m, m = (F + e) % n := ⟨_, rfl⟩
      have hmn : m < n := by rw [hm]; exact Nat.mod_lt _ (by omega)
      obtain ⟨b', off', v, hA', _, hb', hja, hcs⟩ := hrCy.at hmn
      injection hA' with hA'
      injection hA' with e1 e2
      subst e1 e2
      have cc := hcs 0 _ rfl
      rw [hCa.out m hmn, hm, ← hcp.out e (by omega) hen, hcf] at hja
      injection hja with hja
      subst hja
      simp only [Nat.mul_one, Nat.zero_add, Nat.add_zero] at cc
      obtain ⟨y, hy⟩ : ∃ y, y = F + e := ⟨_, rfl⟩
      have q1 : IntKind.i64.wrap ((F : Int) + (e : Int)) = (y : Int) := by rw [wi (by omega)]; omega
      have q3 : (y : Int).tmod (n : Int) = (m : Int) := by rw [mod_i, hy, hm]
      have q6 : ¬ n = 0 := by omega
      have q7 : IntKind.i64.wrap (m : Int) = (m : Int) := wi (by omega)
      have i1 : (0 : Int) ≤ (m : Int) ∧ (m : Int) < (n : Int) := by omega
      have hei : (e : Int) < (n : Int) := by omega
      have hgy : g < yr.heap.size := by omega
      replace hm := Lib.hid hm
      replace hy := Lib.hid hy
      replace hcf := Lib.hid hcf
      clear hcs hrCy
      go_wp2_with fail
      go_roundw
      case rel => exact ⟨e + 1, by go_num, by omega, by omega, by rw [← hme.out, endW_next hen hcf.out], hby.out⟩
      case measure => simp [intOf]; omega
    have hE : endW P n (i + 1) = e := by
      rw [← hme.out]
      by_cases h : e < n
      · cases hc : cornP P e with
        | true => exact endW_corn hc
        | false => exact absurd ⟨h, hc⟩ hgo
      · exact endW_ge (by omega)
    replace hE := Lib.hid hE
    obtain ⟨e1, he1⟩ : ∃ e1, e1 = e + 1 := ⟨_, rfl⟩
    obtain ⟨ln, hln⟩ : ∃ ln, ln = e - i + 1 := ⟨_, rfl⟩
    have hpart0 := hrY.out.part (i := i) (k := e - i) (by omega)
    rw [Nat.zero_add, ← hln] at hpart0
    have hpok : ∀ p ∈ partP P i (e - i), ptOk p.1 p.2 = true := fun p hp => hPok.out p (by unfold partP at hp; exact List.mem_of_mem_drop (List.mem_of_mem_take hp))
    have hcl : ln = 401 → ptAt (partP P i (e - i)) 0 = ptAt (partP P i (e - i)) (ln - 1) := fun h => by
      have h1 : i = 0 := by omega
      have h2 : e = n := by omega
      have h3 : ln - 1 = e - i := by omega
      rw [h3, partP_pt (Nat.zero_le _), partP_pt (Nat.le_refl _), h1, h2]
      simpa using hPc.out
    have hft := Lib.hid (fitWay_any bp (i * 2) ln (c3 - i) w3.heap.size X (partP P i (e - i)) t yr hpart0 (by omega) (by omega) (by omega) (by omega) hpok hcl ht0 ht1)
    have q2 : IntKind.i64.wrap ((e : Int) + 1) = (e1 : Int) := by rw [wi (by omega)]; omega
    have j1 : (0 : Int) ≤ (i : Int) ∧ (i : Int) ≤ (e1 : Int) ∧ (e1 : Int) ≤ (c3 : Int) := by omega
    have j2 : i ≤ e1 := by omega
    have j3 : e1 ≤ c3 := by omega
    have j4 : e1 - i = ln := by omega
    have j5 : ((e1 : Int) - (i : Int)) = (ln : Int) := by omega
    have hie : i + 1 ≤ e := hm1
    replace he1 := Lib.hid he1
    replace hln := Lib.hid hln
    clear hpart0 hpok hcl hgo
    by_cases hen : e < n
    · have hcf : cornP P e = true := by
        cases hc : cornP P e with
        | true => rfl
        | false => have h1 := endW_next hen hc; have h2 := endW_bd (P := P) (n := n) (e := e + 1) rfl (by omega); rw [hme.out, hE.out] at h1; omega
      obtain ⟨m, hm⟩ : ∃ m, m = (F + e) % n := ⟨_, rfl⟩
      have hmn : m < n := by rw [hm]; exact Nat.mod_lt _ (by omega)
      obtain ⟨b', off', v, hA', _, hb', hja, hcs⟩ := hrCy.at hmn
      injection hA' with hA'
      injection hA' with e1' e2'
      subst e1' e2'
      have cc := hcs 0 _ rfl
      rw [hCa.out m hmn, hm, ← hcp.out e (by omega) hen, hcf] at hja
      injection hja with hja
      subst hja
      simp only [Nat.mul_one, Nat.zero_add, Nat.add_zero] at cc
      obtain ⟨y, hy⟩ : ∃ y, y = F + e := ⟨_, rfl⟩
      have q1 : IntKind.i64.wrap ((F : Int) + (e : Int)) = (y : Int) := by rw [wi (by omega)]; omega
      have q3 : (y : Int).tmod (n : Int) = (m : Int) := by rw [mod_i, hy, hm]
      have q6 : ¬ n = 0 := by omega
      have q7 : IntKind.i64.wrap (m : Int) = (m : Int) := wi (by omega)
      have i1 : (0 : Int) ≤ (m : Int) ∧ (m : Int) < (n : Int) := by omega
      have hei : (e : Int) < (n : Int) := by omega
      have hgy : g < yr.heap.size := by omega
      replace hm := Lib.hid hm
      replace hy := Lib.hid hy
      replace hcf := Lib.hid hcf
      clear hcs hrCy
      go_wp2_with fail
      refine hft.out.mono ?_
      rintro e' w4 ⟨⟨k, a0, a1, qx, qy, a4, a5, v, rfl, hfw⟩, hb4⟩
      have hz4 := hb4.size
      have hfK : fitW P i t (endW P n (i + 1) - i) = (k, if v = true then some (qx, qy) else none) := by
        rw [hE.out, ← fitW_part (m := e - i) (Nat.le_refl _), ← hfw, show ln - 1 = e - i by have := hln.out; omega]
      have hk12 : 1 ≤ k ∧ k ≤ e - i := by
        obtain ⟨k', o, h1, h2, h3, _⟩ := fitW_is (P := P) (i := i) (t := t) (c := e - i) (by omega)
        rw [hE.out, h1] at hfK
        injection hfK with h4 h5
        omega
      replace hfK := Lib.hid hfK
      have hbox := heap_alloc_new w4 (.cells #[.int .i64 a0, .int .i64 a1, .int .i64 qx, .int .i64 qy, .int .i64 a4, .int .i64 a5] 87 (0, 0))
      have hb5 := hb4.trans ((Go.Joins.below_alloc1 w4 (.cells #[.int .i64 a0, .int .i64 a1, .int .i64 qx, .int .i64 qy, .int .i64 a4, .int .i64 a5] 87 (0, 0))).mono hz4)
      have hz5 : w4.heap.size + 1 = (w4.alloc (.cells #[.int .i64 a0, .int .i64 a1, .int .i64 qx, .int .i64 qy, .int .i64 a4, .int .i64 a5] 87 (0, 0))).heap.size := by simp
      clear hft hb4 hfw q2 j1 j2 j3 j4 j5
      go_upto_region 21 with fail
      generalize w4.alloc (.cells #[.int .i64 a0, .int .i64 a1, .int .i64 qx, .int .i64 qy, .int .i64 a4, .int .i64 a5] 87 (0, 0)) = s4 at *
      obtain ⟨Y, hYe⟩ : ∃ Y, Y = w4.heap.size := ⟨_, rfl⟩
      rw [← hYe] at hbox hz5 hz4 ⊢
      have hYX : X < Y := by omega
      clear hYe
      have hLZ := Lib.hid (hLY.out.below hb5)
      have hbZ := Lib.hid (hbY.out.trans (hb5.mono (by omega)))
      have hrZ := Lib.hid (hrY.out.frame (good_flat _) (Below.sameB hb5 (by omega)))
      obtain ⟨bq, oq, hAq, hq1, hbX', hcsq⟩ := hrZ.out.pts (by omega)
      injection hAq with hAq
      injection hAq with e1q e2q
      subst e1q e2q
      obtain ⟨x00, x01⟩ := hcsq i (by omega)
      rw [Nat.zero_add] at x00 x01
      obtain ⟨⟨px, py⟩, hpt⟩ : ∃ p, p = ptAt P i := ⟨_, rfl⟩
      rw [← hpt] at x00 x01
      simp only at x00 x01
      have hbX : bp < X := hbX'
      have hXs : X < s4.heap.size := by omega
      have hbs : bp < s4.heap.size := by omega
      have ii0 : (0 : Int) ≤ (i : Int) ∧ (i : Int) < ((n + 1 : Nat) : Int) := by omega
      have ii1 : (i : Int) < (n : Int) + 1 := by omega
      have hLD := Lib.hid (show LoopB s4.drew X Ao co K from hLZ.out)
      have cX := hLZ.out.cell
      have fX := hLZ.out.free
      replace hpt := Lib.hid hpt
      have hboxH := Lib.hid hbox
      clear hcsq hbox
      go_wp2_with fail
      refine wp_region_head 9 (fun w' => w'.cell? ⟨X, 0, none⟩ = some (.slice Ao K.length co) ∧ w'.cell? ⟨bp, i * 2, none⟩ = some (.int .i64 px) ∧ w'.cell? ⟨bp, i * 2 + 1, none⟩ = some (.int .i64 py)) (by kernel_rfl) (by kernel_rfl) (by exact ⟨cX, x00, x01⟩) (fun hHeld => ?_)
      simp only [List.take_succ_cons, List.take_zero, List.drop_succ_cons, List.drop_zero]
      refine wpAnyH_take (i := 0) (v := ?_) ((List.getElem?_toArray).trans rfl) (by kernel_rfl) (by kernel_rfl) (by kernel_rfl) (fun _ _ _ h => h) (Or.inl ⟨by rfl, ?_⟩) (by assumption) ?_
      rotate_left
      · (intro w hSw; (try dsimp only at hSw); go_simp; (try (with_reducible rfl)))
      (try simp only [Act.put, List.setIfInBounds_toArray, List.set_cons_zero, List.set_cons_succ])
      refine wpAnyH_take (i := 1) (v := ?_) ((List.getElem?_toArray).trans rfl) (by kernel_rfl) (by kernel_rfl) (by kernel_rfl) (fun _ _ _ h => h) (Or.inl ⟨by rfl, ?_⟩) (by assumption) ?_
      rotate_left
      · (intro w hSw; (try dsimp only at hSw); go_simp; (try (with_reducible rfl)))
      (try simp only [Act.put, List.setIfInBounds_toArray, List.set_cons_zero, List.set_cons_succ])
      refine wpAnyH_take (i := 2) (v := ?_) ((List.getElem?_toArray).trans rfl) (by kernel_rfl) (by kernel_rfl) (by kernel_rfl) (fun _ _ _ h => h) (Or.inl ⟨by rfl, ?_⟩) (by assumption) ?_
      rotate_left
      · (intro w hSw; (try dsimp only at hSw); go_simp; (try (with_reducible rfl)))
      (try simp only [Act.put, List.setIfInBounds_toArray, List.set_cons_zero, List.set_cons_succ])
      refine wpAnyH_take (i := 3) (v := ?_) ((List.getElem?_toArray).trans rfl) (by kernel_rfl) (by kernel_rfl) (by kernel_rfl) (fun _ _ _ h => h) (Or.inl ⟨by rfl, ?_⟩) (by assumption) ?_
      rotate_left
      · (intro w hSw; (try dsimp only at hSw); go_simp; (try (with_reducible rfl)))
      (try simp only [Act.put, List.setIfInBounds_toArray, List.set_cons_zero, List.set_cons_succ])
      refine wpAnyH_take (i := 4) (v := ?_) ((List.getElem?_toArray).trans rfl) (by kernel_rfl) (by kernel_rfl) (by kernel_rfl) (fun _ _ _ h => h) (Or.inl ⟨by rfl, ?_⟩) (by assumption) ?_
      rotate_left
      · (intro w hSw; (try dsimp only at hSw); go_simp; (try (with_reducible rfl)))
      (try simp only [Act.put, List.setIfInBounds_toArray, List.set_cons_zero, List.set_cons_succ])
      refine wpAnyH_take (i := 5) (v := ?_) ((List.getElem?_toArray).trans rfl) (by kernel_rfl) (by kernel_rfl) (by kernel_rfl) (fun _ _ _ h => h) (Or.inl ⟨by rfl, ?_⟩) (by assumption) ?_
      rotate_left
      · (intro w hSw; (try dsimp only at hSw); go_simp; (try (with_reducible rfl)))
      (try simp only [Act.put, List.setIfInBounds_toArray, List.set_cons_zero, List.set_cons_succ])
      refine wpAnyH_take (i := 6) (v := ?_) ((List.getElem?_toArray).trans rfl) (by kernel_rfl) (by kernel_rfl) (by kernel_rfl) (fun _ _ _ h => h) (Or.inl ⟨by rfl, ?_⟩) (by assumption) ?_
      rotate_left
      · (intro w hSw; (try dsimp only at hSw); go_simp; (try (with_reducible rfl)))
      (try simp only [Act.put, List.setIfInBounds_toArray, List.set_cons_zero, List.set_cons_succ])
      refine wpAnyH_ready (rs := [7]) (by kernel_rfl) (by simp) ?_
      refine AllReadyH.cons ((List.getElem?_toArray).trans rfl) (fun K0 hK0 => ?_) AllReadyH.nil
      go_simp
      refine hK0.out _ _ ?_ (fun hHeld => ?_)
      · (exact ⟨Lib.cell?_alloc_some _ cX, Lib.cell?_alloc_some _ x00, Lib.cell?_alloc_some _ x01⟩)
      clear hK0 K0
      (try simp only [Act.put, List.setIfInBounds_toArray, List.set_cons_zero, List.set_cons_succ])
      refine wpAnyH_ready (rs := [8]) (by kernel_rfl) (by simp) ?_
      refine AllReadyH.cons ((List.getElem?_toArray).trans rfl) (fun K0 hK0 => ?_) AllReadyH.nil
      (refine stepAppAt rfl (.tmp 111) (.tmp 117) elemKnot rfl (v := .slice Ao K.length co) (n := K.length) (xs := K.flatMap knotC) rfl (hLD.out.2.alloc _) rfl (src_at (cs := [.int .i64 px, .int .i64 py, .bool true]) rfl (by simp [Value.oneCell']) (by simp)) (by omega) (by omega) (by simp; omega) (K.length + 1) rfl ?_; intro A5 c5 w5 ho5 hg5; obtain ⟨q5, f5, l5⟩ := LoopB.mid hLD.out (Go.Joins.below_alloc1 _ _) hg5; replace ho5 := Lib.hid ho5; replace hg5 := Lib.hid hg5)
      refine hK0.out _ _ ?_ (fun hHeld => ?_)
      · (exact ⟨q5, (LoopB.old hLD.out (Go.Joins.below_alloc1 _ _) hg5.out (p := ⟨bp, i * 2, none⟩) hbX).trans x00, (LoopB.old hLD.out (Go.Joins.below_alloc1 _ _) hg5.out (p := ⟨bp, i * 2 + 1, none⟩) hbX).trans x01⟩)
      clear hK0 K0
      (try simp only [Act.put, List.setIfInBounds_toArray, List.set_cons_zero, List.set_cons_succ])
      refine wpAnyH_done (by kernel_rfl) ?_ _
      show wpList _ _ _ _ _ _
      obtain ⟨hLA, hbA⟩ := LoopB.app (q := (px, py, true)) hLD.out (Go.Joins.below_alloc1 _ _) hg5.out ho5.out
      have hzA := hbA.size
      replace hbA : Below X s4 (w5.setCell ⟨X, 0, none⟩ (.slice A5 (K.length + 1) c5)) := (Below.drew (Below.refl X s4)).trans hbA
      have hboxA : (w5.setCell ⟨X, 0, none⟩ (.slice A5 (K.length + 1) c5)).heap[Y]? = some (.cells #[.int .i64 a0, .int .i64 a1, .int .i64 qx, .int .i64 qy, .int .i64 a4, .int .i64 a5] 87 (0, 0)) := (Below.heap_setCell _ _ _ _ (by show Y ≠ X; omega)).trans ((hg5.out.block Y (by simp; omega) (fun h => by have hY5 := (hLB.out.2.lt _ h.symm).2; omega)).trans ((Below.heap_alloc _ _ _ (by show Y < s4.heap.size; omega)).trans hboxH.out))
      replace hLA := Lib.hid hLA
      replace hbA := Lib.hid (hbZ.out.trans hbA)
      clear ho5 hg5 hLD cX fX x00 x01 hLZ hbZ hrZ ii0 ii1 hboxH
      go_upto_region 22 with fail
      clear q5 f5 l5
      generalize (w5.setCell ⟨X, 0, none⟩ (.slice A5 (K.length + 1) c5)) = u0 at *
      have hXu := hLA.out.lt
      have hK1 : (K ++ [(px, py, true)]).length = K.length + 1 := by simp
      obtain ⟨K1, hK1e⟩ : ∃ K1, K1 = K ++ [(px, py, true)] := ⟨_, rfl⟩
      rw [← hK1e] at hLA hK1
      replace hK1e := Lib.hid hK1e
      have hK1l : K1.length ≤ 2 * i + 1 := by omega
      replace hK1 := Lib.hid hK1
      cases v with
      | false =>
        go_wp2_with fail
        go_roundw
        case rel => exact ⟨i + k, A5, c5, K1, by go_num, by omega, by omega, by rw [← hKe.out, hK1e.out, fitK_none (k := k) hlt hfK.out hk12.1, List.append_assoc, ← hpt.out]; rfl, hLA.out, hbA.out⟩
        case measure => simp [intOf]; omega
      | true =>
        have y2 : u0.cell? ⟨Y, 2, none⟩ = some (.int .i64 qx) := by rw [Go.Joins.cell_of_block hboxA]; rfl
        have y3 : u0.cell? ⟨Y, 3, none⟩ = some (.int .i64 qy) := by rw [Go.Joins.cell_of_block hboxA]; rfl
        have yl : Y < u0.heap.size := (Array.getElem?_eq_some_iff.1 hboxA).1
        have cX4 := hLA.out.cell
        have fX4 := hLA.out.free
        clear hboxA
        go_wp2_with (at_builtin; refine wpAppAt rfl (.tmp 122) (.tmp 126) elemKnot rfl (v := .slice A5 K1.length c5) (n := K1.length) (xs := K1.flatMap knotC) rfl (hLA.out.2.alloc _) rfl (src_at (cs := [.int .i64 qx, .int .i64 qy, .bool false]) rfl (by simp [Value.oneCell']) (by simp)) (by omega) (by omega) (by simp; omega) (K1.length + 1) rfl ?_; intro A6 c6 w6 ho6 hg6 _; obtain ⟨q6, f6, l6⟩ := LoopB.mid hLA.out (Go.Joins.below_alloc1 _ _) hg6; replace ho6 := Lib.hid ho6; replace hg6 := Lib.hid hg6)
        obtain ⟨hLB6, hbB6⟩ := LoopB.app (q := (qx, qy, false)) hLA.out (Go.Joins.below_alloc1 _ _) hg6.out ho6.out
        go_roundw
        case rel => exact ⟨i + k, A6, c6, K1 ++ [(qx, qy, false)], by go_num, by omega, by simp; omega, by rw [← hKe.out, hK1e.out, fitK_some (k := k) hlt hfK.out hk12.1, List.append_assoc, List.append_assoc, ← hpt.out]; rfl, hLB6, hbA.out.trans hbB6⟩
        case measure => simp [intOf]; omega
    · have hei : ¬ (e : Int) < (n : Int) := by omega
      clear hrCy
      go_wp2_with fail
      refine hft.out.mono ?_
      rintro e' w4 ⟨⟨k, a0, a1, qx, qy, a4, a5, v, rfl, hfw⟩, hb4⟩
      have hz4 := hb4.size
      have hfK : fitW P i t (endW P n (i + 1) - i) = (k, if v = true then some (qx, qy) else none) := by
        rw [hE.out, ← fitW_part (m := e - i) (Nat.le_refl _), ← hfw, show ln - 1 = e - i by have := hln.out; omega]
      have hk12 : 1 ≤ k ∧ k ≤ e - i := by
        obtain ⟨k', o, h1, h2, h3, _⟩ := fitW_is (P := P) (i := i) (t := t) (c := e - i) (by omega)
        rw [hE.out, h1] at hfK
        injection hfK with h4 h5
        omega
      replace hfK := Lib.hid hfK
      have hbox := heap_alloc_new w4 (.cells #[.int .i64 a0, .int .i64 a1, .int .i64 qx, .int .i64 qy, .int .i64 a4, .int .i64 a5] 87 (0, 0))
      have hb5 := hb4.trans ((Go.Joins.below_alloc1 w4 (.cells #[.int .i64 a0, .int .i64 a1, .int .i64 qx, .int .i64 qy, .int .i64 a4, .int .i64 a5] 87 (0, 0))).mono hz4)
      have hz5 : w4.heap.size + 1 = (w4.alloc (.cells #[.int .i64 a0, .int .i64 a1, .int .i64 qx, .int .i64 qy, .int .i64 a4, .int .i64 a5] 87 (0, 0))).heap.size := by simp
      clear hft hb4 hfw q2 j1 j2 j3 j4 j5
      go_upto_region 21 with fail
      generalize w4.alloc (.cells #[.int .i64 a0, .int .i64 a1, .int .i64 qx, .int .i64 qy, .int .i64 a4, .int .i64 a5] 87 (0, 0)) = s4 at *
      obtain ⟨Y, hYe⟩ : ∃ Y, Y = w4.heap.size := ⟨_, rfl⟩
      rw [← hYe] at hbox hz5 hz4 ⊢
      have hYX : X < Y := by omega
      clear hYe
      have hLZ := Lib.hid (hLY.out.below hb5)
      have hbZ := Lib.hid (hbY.out.trans (hb5.mono (by omega)))
      have hrZ := Lib.hid (hrY.out.frame (good_flat _) (Below.sameB hb5 (by omega)))
      obtain ⟨bq, oq, hAq, hq1, hbX', hcsq⟩ := hrZ.out.pts (by omega)
      injection hAq with hAq
      injection hAq with e1q e2q
      subst e1q e2q
      obtain ⟨x00, x01⟩ := hcsq i (by omega)
      rw [Nat.zero_add] at x00 x01
      obtain ⟨⟨px, py⟩, hpt⟩ : ∃ p, p = ptAt P i := ⟨_, rfl⟩
      rw [← hpt] at x00 x01
      simp only at x00 x01
      have hbX : bp < X := hbX'
      have hXs : X < s4.heap.size := by omega
      have hbs : bp < s4.heap.size := by omega
      have ii0 : (0 : Int) ≤ (i : Int) ∧ (i : Int) < ((n + 1 : Nat) : Int) := by omega
      have ii1 : (i : Int) < (n : Int) + 1 := by omega
      have hLD := Lib.hid (show LoopB s4.drew X Ao co K from hLZ.out)
      have cX := hLZ.out.cell
      have fX := hLZ.out.free
      replace hpt := Lib.hid hpt
      have hboxH := Lib.hid hbox
      clear hcsq hbox
      go_wp2_with fail
      refine wp_region_head 9 (fun w' => w'.cell? ⟨X, 0, none⟩ = some (.slice Ao K.length co) ∧ w'.cell? ⟨bp, i * 2, none⟩ = some (.int .i64 px) ∧ w'.cell? ⟨bp, i * 2 + 1, none⟩ = some (.int .i64 py)) (by kernel_rfl) (by kernel_rfl) (by exact ⟨cX, x00, x01⟩) (fun hHeld => ?_)
      simp only [List.take_succ_cons, List.take_zero, List.drop_succ_cons, List.drop_zero]
      refine wpAnyH_take (i := 0) (v := ?_) ((List.getElem?_toArray).trans rfl) (by kernel_rfl) (by kernel_rfl) (by kernel_rfl) (fun _ _ _ h => h) (Or.inl ⟨by rfl, ?_⟩) (by assumption) ?_
      rotate_left
      · (intro w hSw; (try dsimp only at hSw); go_simp; (try (with_reducible rfl)))
      (try simp only [Act.put, List.setIfInBounds_toArray, List.set_cons_zero, List.set_cons_succ])
      refine wpAnyH_take (i := 1) (v := ?_) ((List.getElem?_toArray).trans rfl) (by kernel_rfl) (by kernel_rfl) (by kernel_rfl) (fun _ _ _ h => h) (Or.inl ⟨by rfl, ?_⟩) (by assumption) ?_
      rotate_left
      · (intro w hSw; (try dsimp only at hSw); go_simp; (try (with_reducible rfl)))
      (try simp only [Act.put, List.setIfInBounds_toArray, List.set_cons_zero, List.set_cons_succ])
      refine wpAnyH_take (i := 2) (v := ?_) ((List.getElem?_toArray).trans rfl) (by kernel_rfl) (by kernel_rfl) (by kernel_rfl) (fun _ _ _ h => h) (Or.inl ⟨by rfl, ?_⟩) (by assumption) ?_
      rotate_left
      · (intro w hSw; (try dsimp only at hSw); go_simp; (try (with_reducible rfl)))
      (try simp only [Act.put, List.setIfInBounds_toArray, List.set_cons_zero, List.set_cons_succ])
      refine wpAnyH_take (i := 3) (v := ?_) ((List.getElem?_toArray).trans rfl) (by kernel_rfl) (by kernel_rfl) (by kernel_rfl) (fun _ _ _ h => h) (Or.inl ⟨by rfl, ?_⟩) (by assumption) ?_
      rotate_left
      · (intro w hSw; (try dsimp only at hSw); go_simp; (try (with_reducible rfl)))
      (try simp only [Act.put, List.setIfInBounds_toArray, List.set_cons_zero, List.set_cons_succ])
      refine wpAnyH_take (i := 4) (v := ?_) ((List.getElem?_toArray).trans rfl) (by kernel_rfl) (by kernel_rfl) (by kernel_rfl) (fun _ _ _ h => h) (Or.inl ⟨by rfl, ?_⟩) (by assumption) ?_
      rotate_left
      · (intro w hSw; (try dsimp only at hSw); go_simp; (try (with_reducible rfl)))
      (try simp only [Act.put, List.setIfInBounds_toArray, List.set_cons_zero, List.set_cons_succ])
      refine wpAnyH_take (i := 5) (v := ?_) ((List.getElem?_toArray).trans rfl) (by kernel_rfl) (by kernel_rfl) (by kernel_rfl) (fun _ _ _ h => h) (Or.inl ⟨by rfl, ?_⟩) (by assumption) ?_
      rotate_left
      · (intro w hSw; (try dsimp only at hSw); go_simp; (try (with_reducible rfl)))
      (try simp only [Act.put, List.setIfInBounds_toArray, List.set_cons_zero, List.set_cons_succ])
      refine wpAnyH_take (i := 6) (v := ?_) ((List.getElem?_toArray).trans rfl) (by kernel_rfl) (by kernel_rfl) (by kernel_rfl) (fun _ _ _ h => h) (Or.inl ⟨by rfl, ?_⟩) (by assumption) ?_
      rotate_left
      · (intro w hSw; (try dsimp only at hSw); go_simp; (try (with_reducible rfl)))
      (try simp only [Act.put, List.setIfInBounds_toArray, List.set_cons_zero, List.set_cons_succ])
      refine wpAnyH_ready (rs := [7]) (by kernel_rfl) (by simp) ?_
      refine AllReadyH.cons ((List.getElem?_toArray).trans rfl) (fun K0 hK0 => ?_) AllReadyH.nil
      go_simp
      refine hK0.out _ _ ?_ (fun hHeld => ?_)
      · (exact ⟨Lib.cell?_alloc_some _ cX, Lib.cell?_alloc_some _ x00, Lib.cell?_alloc_some _ x01⟩)
      clear hK0 K0
      (try simp only [Act.put, List.setIfInBounds_toArray, List.set_cons_zero, List.set_cons_succ])
      refine wpAnyH_ready (rs := [8]) (by kernel_rfl) (by simp) ?_
      refine AllReadyH.cons ((List.getElem?_toArray).trans rfl) (fun K0 hK0 => ?_) AllReadyH.nil
      (refine stepAppAt rfl (.tmp 111) (.tmp 117) elemKnot rfl (v := .slice Ao K.length co) (n := K.length) (xs := K.flatMap knotC) rfl (hLD.out.2.alloc _) rfl (src_at (cs := [.int .i64 px, .int .i64 py, .bool true]) rfl (by simp [Value.oneCell']) (by simp)) (by omega) (by omega) (by simp; omega) (K.length + 1) rfl ?_; intro A5 c5 w5 ho5 hg5; obtain ⟨q5, f5, l5⟩ := LoopB.mid hLD.out (Go.Joins.below_alloc1 _ _) hg5; replace ho5 := Lib.hid ho5; replace hg5 := Lib.hid hg5)
      refine hK0.out _ _ ?_ (fun hHeld => ?_)
      · (exact ⟨q5, (LoopB.old hLD.out (Go.Joins.below_alloc1 _ _) hg5.out (p := ⟨bp, i * 2, none⟩) hbX).trans x00, (LoopB.old hLD.out (Go.Joins.below_alloc1 _ _) hg5.out (p := ⟨bp, i * 2 + 1, none⟩) hbX).trans x01⟩)
      clear hK0 K0
      (try simp only [Act.put, List.setIfInBounds_toArray, List.set_cons_zero, List.set_cons_succ])
      refine wpAnyH_done (by kernel_rfl) ?_ _
      show wpList _ _ _ _ _ _
      obtain ⟨hLA, hbA⟩ := LoopB.app (q := (px, py, true)) hLD.out (Go.Joins.below_alloc1 _ _) hg5.out ho5.out
      have hzA := hbA.size
      replace hbA : Below X s4 (w5.setCell ⟨X, 0, none⟩ (.slice A5 (K.length + 1) c5)) := (Below.drew (Below.refl X s4)).trans hbA
      have hboxA : (w5.setCell ⟨X, 0, none⟩ (.slice A5 (K.length + 1) c5)).heap[Y]? = some (.cells #[.int .i64 a0, .int .i64 a1, .int .i64 qx, .int .i64 qy, .int .i64 a4, .int .i64 a5] 87 (0, 0)) := (Below.heap_setCell _ _ _ _ (by show Y ≠ X; omega)).trans ((hg5.out.block Y (by simp; omega) (fun h => by have hY5 := (hLB.out.2.lt _ h.symm).2; omega)).trans ((Below.heap_alloc _ _ _ (by show Y < s4.heap.size; omega)).trans hboxH.out))
      replace hLA := Lib.hid hLA
      replace hbA := Lib.hid (hbZ.out.trans hbA)
      clear ho5 hg5 hLD cX fX x00 x01 hLZ hbZ hrZ ii0 ii1 hboxH
      go_upto_region 22 with fail
      clear q5 f5 l5
      generalize (w5.setCell ⟨X, 0, none⟩ (.slice A5 (K.length + 1) c5)) = u0 at *
      have hXu := hLA.out.lt
      have hK1 : (K ++ [(px, py, true)]).length = K.length + 1 := by simp
      obtain ⟨K1, hK1e⟩ : ∃ K1, K1 = K ++ [(px, py, true)] := ⟨_, rfl⟩
      rw [← hK1e] at hLA hK1
      replace hK1e := Lib.hid hK1e
      have hK1l : K1.length ≤ 2 * i + 1 := by omega
      replace hK1 := Lib.hid hK1
      cases v with
      | false =>
        go_wp2_with fail
        go_roundw
        case rel => exact ⟨i + k, A5, c5, K1, by go_num, by omega, by omega, by rw [← hKe.out, hK1e.out, fitK_none (k := k) hlt hfK.out hk12.1, List.append_assoc, ← hpt.out]; rfl, hLA.out, hbA.out⟩
        case measure => simp [intOf]; omega
      | true =>
        have y2 : u0.cell? ⟨Y, 2, none⟩ = some (.int .i64 qx) := by rw [Go.Joins.cell_of_block hboxA]; rfl
        have y3 : u0.cell? ⟨Y, 3, none⟩ = some (.int .i64 qy) := by rw [Go.Joins.cell_of_block hboxA]; rfl
        have yl : Y < u0.heap.size := (Array.getElem?_eq_some_iff.1 hboxA).1
        have cX4 := hLA.out.cell
        have fX4 := hLA.out.free
        clear hboxA
        go_wp2_with (at_builtin; refine wpAppAt rfl (.tmp 122) (.tmp 126) elemKnot rfl (v := .slice A5 K1.length c5) (n := K1.length) (xs := K1.flatMap knotC) rfl (hLA.out.2.alloc _) rfl (src_at (cs := [.int .i64 qx, .int .i64 qy, .bool false]) rfl (by simp [Value.oneCell']) (by simp)) (by omega) (by omega) (by simp; omega) (K1.length + 1) rfl ?_; intro A6 c6 w6 ho6 hg6 _; obtain ⟨q6, f6, l6⟩ := LoopB.mid hLA.out (Go.Joins.below_alloc1 _ _) hg6; replace ho6 := Lib.hid ho6; replace hg6 := Lib.hid hg6)
        obtain ⟨hLB6, hbB6⟩ := LoopB.app (q := (qx, qy, false)) hLA.out (Go.Joins.below_alloc1 _ _) hg6.out ho6.out
        go_roundw
        case rel => exact ⟨i + k, A6, c6, K1 ++ [(qx, qy, false)], by go_num, by omega, by simp; omega, by rw [← hKe.out, hK1e.out, fitK_some (k := k) hlt hfK.out hk12.1, List.append_assoc, List.append_assoc, ← hpt.out]; rfl, hLB6, hbA.out.trans hbB6⟩
        case measure => simp [intOf]; omega
end Go.Proofs.YtgelkdcggnffeaaGreat

