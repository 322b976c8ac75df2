/- The first corner of a ring, parts of a path: the reference's side. Conditions: as each states. -/
import Derived.StillTail
import Derived.Deep.RegionHeld3
import Derived.Test.YtgelkdcggnffeaaGreatFtg24
import Derived.Test.YtgelkdcggnffeaaGreatFtg25
import Derived.Test.YtgelkdcggnffeaaGreatFtg27
import Derived.Test.YtgelkdcggnffeaaGreatFtg01
namespace Go.Proofs.YtgelkdcggnffeaaGreat
open Go.RowKit
set_option linter.unusedVariables false
set_option maxRecDepth 100000

theorem RdS.pts {w : World} {lo hi : Nat} {A : Option Addr} {n : Nat} {L : List (Int × Int)} (h : RdS 2 (FlatR ptC) w lo hi A n L) (hn : 0 < n) :
    ∃ b off, A = some ⟨b, off, none⟩ ∧ lo ≤ b ∧ b < hi ∧ ∀ j, j < n → w.cell? ⟨b, off + j * 2, none⟩ = some (.int .i64 (ptAt L j).1) ∧ w.cell? ⟨b, off + j * 2 + 1, none⟩ = some (.int .i64 (ptAt L j).2) := by
  obtain ⟨b, off, a, hA, h1, h2, _, _⟩ := h.at hn
  refine ⟨b, off, hA, h1, h2, fun j hj => ?_⟩
  obtain ⟨b', off', a', hA', _, _, h3, h4⟩ := h.at hj
  rw [hA] at hA'
  injection hA' with hA'
  injection hA' with e1 e2
  subst e1 e2
  rw [ptAt_eq h3]
  exact ⟨by have := h4 0 _ rfl; simpa using this, h4 1 _ rfl⟩
theorem mod_i {a n : Nat} : ((a : Nat) : Int).tmod (n : Int) = ((a % n : Nat) : Int) := (Int.ofNat_tmod a n).symm
theorem pts_ok {L : List (Int × Int)} (h : ∀ p ∈ L, ptOk p.1 p.2 = true) {j : Nat} (hj : j < L.length) : ptOk (ptAt L j).1 (ptAt L j).2 = true := h _ (List.mem_of_getElem? (ptAt_some hj))

set_option maxHeartbeats 2000000 in
theorem l16First_any (A : Option Addr) (n c lo hi : Nat) (L : List (Int × Int)) (w : World) (hr : RdS 2 (FlatR ptC) w lo hi A n L) (hhi : hi ≤ w.heap.size) (hn1 : 1 ≤ n) (hn : n ≤ 1000) (hL : ∀ p ∈ L, ptOk p.1 p.2 = true) :
    Calls Tryz.prog 61 #[.slice A n c] w fun e w' => e = .returned (.int .i64 (firstC L : Nat)) ∧ Below w.heap.size w w' := by
  have hl := hr.1
  obtain ⟨F, hF⟩ : ∃ F, F = firstC L := ⟨_, rfl⟩
  rw [← hF]
  replace hF := Lib.hid hF
  replace hr := Lib.hid hr
  have hll := Lib.hid hl
  replace hL := Lib.hid hL
  go_enter Tryz.func61, Tryz.ntmps61
  go_wp2_with fail
  go_loopw [4] (fun i wr => ∃ k : Nat, i = .int .i64 k ∧ k ≤ n ∧ (∀ j, j < k → cornL L j = false) ∧ Below w.heap.size w wr) (fun i wr => n - (intOf i).toNat)
  case atStart => exact ⟨0, rfl, Nat.zero_le _, fun j hj => absurd hj (Nat.not_lt_zero j), Below.refl _ _⟩
  case round =>
    obtain ⟨k, rfl, hk, hno, hbel⟩ := hrel
    have hsz := hbel.size
    replace hno := Lib.hid hno
    by_cases hlt : k < n
    · obtain ⟨b, off, rfl, hb0, hb, hcs⟩ := (hr.out.frame (good_flat _) (Below.sameB hbel hhi)).pts (by omega)
      obtain ⟨m, hm⟩ : ∃ m, m = (k + n - 1) % n := ⟨_, rfl⟩
      obtain ⟨p, hp⟩ : ∃ p, p = (k + 1) % n := ⟨_, rfl⟩
      have hmn : m < n := by rw [hm]; exact Nat.mod_lt _ (by omega)
      have hpn : p < n := by rw [hp]; exact Nat.mod_lt _ (by omega)
      have c1 := hcs m hmn
      have c2 := hcs k hlt
      have c3 := hcs p hpn
      have hcall := Lib.hid (fun W => l16Corner_any (ptAt L m).1 (ptAt L m).2 (ptAt L k).1 (ptAt L k).2 (ptAt L p).1 (ptAt L p).2 (cornL L k) (by unfold cornL; rw [hl, ← hm, ← hp]) W (pts_ok hL.out (by omega)) (pts_ok hL.out (by omega)) (pts_ok hL.out (by omega)))
      obtain ⟨t, ht⟩ : ∃ t, t = cornL L k := ⟨_, rfl⟩
      rw [← ht] at hcall
      generalize (ptAt L m).1 = ax at *
      generalize (ptAt L m).2 = ay at *
      generalize (ptAt L k).1 = px at *
      generalize (ptAt L k).2 = py at *
      generalize (ptAt L p).1 = bx at *
      generalize (ptAt L p).2 = by' at *
      obtain ⟨c10, c11⟩ := c1
      obtain ⟨c20, c21⟩ := c2
      obtain ⟨c30, c31⟩ := c3
      have hbw : b < wr.heap.size := by omega
      have hki : (k : Int) < (n : Int) := by omega
      have i1 : (0 : Int) ≤ (m : Int) ∧ (m : Int) < (n : Int) := by omega
      have i2 : (0 : Int) ≤ (k : Int) ∧ (k : Int) < (n : Int) := by omega
      have i3 : (0 : Int) ≤ (p : Int) ∧ (p : Int) < (n : Int) := by omega
      have q1 : IntKind.i64.wrap ((k : Int) + (n : Int)) = (k : Int) + (n : Int) := wi (by omega)
      obtain ⟨y1, hy1⟩ : ∃ y1, y1 = k + n - 1 := ⟨_, rfl⟩
      obtain ⟨y2, hy2⟩ : ∃ y2, y2 = k + 1 := ⟨_, rfl⟩
      have q2 : IntKind.i64.wrap ((k : Int) + (n : Int) - 1) = (y1 : Int) := by rw [wi (by omega)]; omega
      have q3 : (y1 : Int).tmod (n : Int) = (m : Int) := by rw [mod_i, hy1, hm]
      have q4 : IntKind.i64.wrap ((k : Int) + 1) = (y2 : Int) := by rw [wi (by omega)]; omega
      have q5 : (y2 : Int).tmod (n : Int) = (p : Int) := by rw [mod_i, hy2, hp]
      have q6 : ¬ n = 0 := by omega
      replace hy1 := Lib.hid hy1
      replace hy2 := Lib.hid hy2
      have q7 : IntKind.i64.wrap (m : Int) = (m : Int) := wi (by omega)
      have q8 : IntKind.i64.wrap (p : Int) = (p : Int) := wi (by omega)
      replace ht := Lib.hid ht
      replace hm := Lib.hid hm
      replace hp := Lib.hid hp
      clear hcs hb0 hb hl hr
      go_wp2_with fail
      go_still_tail 20, (by kernel_rfl)
      change wpList _ _ _ _ _ wr.drew
      have hbd : Below w.heap.size w wr.drew := hbel.drew
      clear c10 c11 c20 c21 c30 c31 q1 q2 q3 q4 q5 q6 q7 q8 i1 i2 i3 hbw
      generalize wr.drew = w1 at *
      go_wp2_with fail
      refine (hcall.out _).mono ?_
      rintro e w2 ⟨rfl, hb2⟩
      have hB2 := hbd.trans (hb2.mono hbd.size)
      clear hcall hb2
      cases t with
      | true =>
        go_wp2_with fail
        go_ret
        exact ⟨ret_int (by rw [hF.out, firstC_hit (by rw [hll.out]; exact hlt) ht.out.symm hno.out]), hB2⟩
      | false =>
        go_wp2_with fail
        go_roundw
        case rel => exact ⟨k + 1, by go_num, by omega, fun j hj => by
          rcases Nat.lt_or_ge j k with h | h
          · exact hno.out j h
          · rw [show j = k by omega]; exact ht.out.symm, hB2⟩
        case measure => simp [intOf]; omega
    · have hkn : k = n := by omega
      have hF0 : F = 0 := by rw [hF.out]; exact firstC_none fun j hj => hno.out j (by rw [hll.out] at hj; omega)
      have hki : ¬ (k : Int) < (n : Int) := by omega
      replace hF0 := Lib.hid hF0
      replace hkn := Lib.hid hkn
      go_wp2_with fail
      go_ret
      exact ⟨ret_int (by rw [hF0.out]; rfl), hbel⟩

set_option maxHeartbeats 2000000 in
/-- a path's part, made by the call -/
theorem l16Run_any (A : Option Addr) (n c lo hi i count : Nat) (L : List (Int × Int)) (w : World) (hr : RdS 2 (FlatR ptC) w lo hi A n L) (hhi : hi ≤ w.heap.size) (hn : n ≤ 1000) (hic : i + count < n) :
    Calls Tryz.prog 63 #[.slice A n c, .int .i64 i, .int .i64 count] w fun e w' => ∃ (A' : Option Addr) (c' : Nat), e = .returned (.slice A' (count + 1) c') ∧ RdS 2 (FlatR ptC) w' w.heap.size w'.heap.size A' (count + 1) (partP L i count) ∧ Below w.heap.size w w' := by
  have hl := hr.1
  have hpl : (partP L i count).length = count + 1 := partP_len (by omega)
  have hpa : ∀ k, k ≤ count → (partP L i count).take (k + 1) = (partP L i count).take k ++ [ptAt L (i + k)] := fun k hk => by
    rw [List.take_succ_eq_append_getElem (by omega)]
    congr 2
    have := partP_at (P := L) (i := i) (count := count) (j := k) hk
    rw [List.getElem?_eq_getElem (by omega), ptAt_some (by omega)] at this
    injection this
  generalize hPP : partP L i count = PP at *
  clear hPP
  replace hr := Lib.hid hr
  replace hpl := Lib.hid hpl
  replace hpa := Lib.hid hpa
  have hll := Lib.hid hl
  clear hl
  go_enter Tryz.func63, Tryz.ntmps63
  go_wp2_with fail
  go_loopw [7, 8] (fun out kv wr => ∃ (k : Nat) (A1 : Option Addr) (c1 : Nat), kv = .int .i64 k ∧ k ≤ count + 1 ∧ out = .slice A1 k c1 ∧ wr.ownsRow w.heap.size 71 2 (.slice A1 k c1) k ((PP.take k).flatMap ptC) ∧ Below w.heap.size w wr) (fun out kv wr => count + 1 - (intOf kv).toNat)
  case atStart => exact ⟨0, _, _, rfl, Nat.zero_le _, rfl, World.ownsRow_lit w _ _ (Nat.le_refl _) (by decide) (by simp), (Below.refl _ _).alloc (Nat.le_refl _) _⟩
  case round =>
    obtain ⟨k, A1, c1, rfl, hk, rfl, hown, hbel⟩ := hrel
    have hz := hbel.size
    replace hown := Lib.hid hown
    by_cases hlt : k ≤ count
    · obtain ⟨b, off, rfl, hb0, hb, hcs⟩ := (hr.out.frame (good_flat _) (Below.sameB hbel hhi)).pts (by omega)
      obtain ⟨x0, x1⟩ := hcs (i + k) (by omega)
      have hst := Lib.hid (hpa.out k hlt)
      generalize hpe : ptAt L (i + k) = pt at *
      obtain ⟨px, py⟩ := pt
      simp only at x0 x1
      have hki : (k : Int) ≤ (count : Int) := by omega
      have q1 : IntKind.i64.wrap ((i : Int) + (k : Int)) = ((i + k : Nat) : Int) := by rw [wi (by omega)]; omega
      have i1 : (0 : Int) ≤ ((i + k : Nat) : Int) ∧ ((i + k : Nat) : Int) < (n : Int) := by omega
      have hbw : b < wr.heap.size := by omega
      clear hcs hb0 hb hpe
      obtain ⟨j, hj⟩ : ∃ j, j = i + k := ⟨_, rfl⟩
      rw [← hj] at x0 x1 q1 i1
      replace hj := Lib.hid hj
      go_wp2_with (at_builtin; refine wpApp rfl (.tmp 15) (.tmp 22) elemPt rfl (v := .slice A1 k c1) (n := k) (xs := (PP.take k).flatMap ptC) rfl (hown.out.alloc _) rfl (src_at (cs := [.int .i64 px, .int .i64 py]) rfl (by simp [Value.oneCell']) rfl) (by omega) (by omega) (by simp; omega) (k + 1) rfl ?_; intro A' c' w5 hown5 hb5; replace hown5 := Lib.hid hown5)
      have hbel5 := (hbel.alloc hz _).trans hb5
      clear hb5
      go_roundw
      case rel => exact ⟨k + 1, A', c', by go_num, by omega, rfl, by rw [hst.out, ptC_flat_snoc]; exact hown5.out, hbel5⟩
      case measure => simp [intOf]; omega
    · have hkn : k = count + 1 := by omega
      subst hkn
      have hki : ¬ (((count + 1 : Nat) : Int) ≤ (count : Int)) := by omega
      have hrd : RdS 2 (FlatR ptC) wr w.heap.size wr.heap.size A1 (count + 1) PP := by
        have h := hown.out
        rw [List.take_of_length_le (by rw [hpl.out]; omega)] at h
        exact rdS_own ptC_len (by omega) h hpl.out
      replace hrd := Lib.hid hrd
      go_wp2_with fail
      go_ret
      exact ⟨A1, ⟨c1, rfl⟩, hrd.out, hbel⟩
end Go.Proofs.YtgelkdcggnffeaaGreat

/- Straight ways: both sides. Conditions: as each states. -/
namespace Go.Proofs.YtgelkdcggnffeaaGreat
open Go.RowKit
set_option linter.unusedVariables false
set_option maxRecDepth 100000

theorem pair_rd (w : World) (x0 y0 x1 y1 : Int) (T : TypeId) : RdS 2 (FlatR ptC) (w.alloc (.cells #[.int .i64 x0, .int .i64 y0, .int .i64 x1, .int .i64 y1] T (0, 0))).drew w.heap.size (w.alloc (.cells #[.int .i64 x0, .int .i64 y0, .int .i64 x1, .int .i64 y1] T (0, 0))).drew.heap.size (some ⟨w.heap.size, 0, none⟩) 2 [(x0, y0), (x1, y1)] := by
  have hb : (w.alloc (.cells #[.int .i64 x0, .int .i64 y0, .int .i64 x1, .int .i64 y1] T (0, 0))).drew.heap[w.heap.size]? = some (.cells #[.int .i64 x0, .int .i64 y0, .int .i64 x1, .int .i64 y1] T (0, 0)) := heap_alloc_new w _
  refine ⟨rfl, fun _ => ⟨w.heap.size, 0, rfl, Nat.le_refl _, (Array.getElem?_eq_some_iff.1 hb).1, fun j a hj => ?_⟩⟩
  match j, hj with
  | 0, hj =>
    injection hj with hj; subst hj
    refine ⟨ptC (x0, y0), rfl, fun i u hu => ?_, rfl⟩
    match i, hu with
    | 0, hu => injection hu with hu; subst hu; rw [Go.Joins.cell_of_block hb]; rfl
    | 1, hu => injection hu with hu; subst hu; rw [Go.Joins.cell_of_block hb]; rfl
    | i + 2, hu => simp [ptC] at hu
  | 1, hj =>
    injection hj with hj; subst hj
    refine ⟨ptC (x1, y1), rfl, fun i u hu => ?_, rfl⟩
    match i, hu with
    | 0, hu => injection hu with hu; subst hu; rw [Go.Joins.cell_of_block hb]; rfl
    | 1, hu => injection hu with hu; subst hu; rw [Go.Joins.cell_of_block hb]; rfl
    | i + 2, hu => simp [ptC] at hu
  | j + 2, hj => simp at hj

set_option maxHeartbeats 4000000 in
theorem l16Straight_any (A : Option Addr) (n c lo hi : Nat) (L : List (Int × Int)) (t : Int) (v : Bool) (hv : v = withinB L [ptAt L 0, ptAt L (n - 1)] t) (w : World) (hr : RdS 2 (FlatR ptC) w lo hi A n L) (hhi : hi ≤ w.heap.size) (hn1 : 1 ≤ n) (hn : n ≤ 1000) (hL : ∀ p ∈ L, ptOk p.1 p.2 = true) (ht0 : 0 ≤ t) (ht1 : t ≤ 262144) :
    Calls Tryz.prog 64 #[.slice A n c, .int .i64 t] w fun e w' => e = .returned (.bool v) ∧ Below w.heap.size w w' := by
  have hl := hr.1
  have hrH := Lib.hid hr
  obtain ⟨b, off, rfl, hb0, hb, hcs⟩ := hr.pts (by omega)
  obtain ⟨x00, x01⟩ := hcs 0 (by omega)
  obtain ⟨m, hm⟩ : ∃ m, m = n - 1 := ⟨_, rfl⟩
  rw [← hm] at hv
  obtain ⟨x10, x11⟩ := hcs m (by omega)
  have o0 := pts_ok hL (j := 0) (by omega)
  have o1 := pts_ok hL (j := m) (by omega)
  obtain ⟨⟨x0, y0⟩, hp0⟩ : ∃ p, p = ptAt L 0 := ⟨_, rfl⟩
  obtain ⟨⟨x1, y1⟩, hp1⟩ : ∃ p, p = ptAt L m := ⟨_, rfl⟩
  rw [← hp0] at hv x00 x01 o0
  rw [← hp1] at hv x10 x11 o1
  simp only at x00 x01 x10 x11 o0 o1
  rw [Nat.zero_mul, Nat.add_zero] at x00 x01
  have hbw : b < w.heap.size := by omega
  have hcl := Lib.hid (fun (W : World) (A' : Option Addr) (c' : Nat) (hb : Below w.heap.size w W) (hp : RdS 2 (FlatR ptC) W w.heap.size W.heap.size A' 2 [(x0, y0), (x1, y1)]) => l16Within_any (some ⟨b, off, none⟩) A' n c 2 c' lo hi w.heap.size W.heap.size L [(x0, y0), (x1, y1)] t v hv W (hrH.out.frame (good_flat _) (Below.sameB hb hhi)) hp (Nat.le_trans hhi hb.size) (Nat.le_refl _) (by omega) (by omega) (by omega) hL (by intro p hp; rcases List.mem_cons.1 hp with rfl | hp; exact o0; rw [List.mem_singleton] at hp; subst hp; exact o1) ht0 ht1)
  have hS := Lib.hid (fun (W : World) (hb : Below w.heap.size w W) => (show W.cell? ⟨b, off, none⟩ = some (.int .i64 x0) ∧ W.cell? ⟨b, off + 1, none⟩ = some (.int .i64 y0) ∧ W.cell? ⟨b, off + m * 2, none⟩ = some (.int .i64 x1) ∧ W.cell? ⟨b, off + m * 2 + 1, none⟩ = some (.int .i64 y1) from ⟨(hb.cell (p := ⟨b, off, none⟩) hbw).trans x00, (hb.cell (p := ⟨b, off + 1, none⟩) hbw).trans x01, (hb.cell (p := ⟨b, off + m * 2, none⟩) hbw).trans x10, (hb.cell (p := ⟨b, off + m * 2 + 1, none⟩) hbw).trans x11⟩))
  have i0 : (0 : Int) ≤ 0 ∧ (0 : Int) < (n : Int) := by omega
  have i1 : (0 : Int) ≤ (m : Int) ∧ (m : Int) < (n : Int) := by omega
  have i2 : 0 < n := by omega
  have i3 : (m : Int) < (n : Int) := by omega
  have i4 : (0 : Int) < (n : Int) := by omega
  have i5 : (0 : Int) ≤ (m : Int) := by omega
  have q1 : IntKind.i64.wrap ((n : Int) - 1) = (m : Int) := by rw [wi (by omega)]; omega
  replace hm := Lib.hid hm
  replace hp0 := Lib.hid hp0
  replace hp1 := Lib.hid hp1
  replace hL := Lib.hid hL
  replace hl := Lib.hid hl
  clear hv hcs o0 o1 hr
  go_enter Tryz.func64, Tryz.ntmps64
  go_wp2_with fail
  go_region_held3 (fun w' => w'.cell? ⟨b, off, none⟩ = some (.int .i64 x0) ∧ w'.cell? ⟨b, off + 1, none⟩ = some (.int .i64 y0) ∧ w'.cell? ⟨b, off + m * 2, none⟩ = some (.int .i64 x1) ∧ w'.cell? ⟨b, off + m * 2 + 1, none⟩ = some (.int .i64 y1)) (first | (with_reducible exact sQ.out) | (refine hS.out _ ?_; repeat (first | with_reducible exact Below.refl _ _ | with_reducible refine Below.drew ?_ | with_reducible refine Below.alloc ?_ (by simp) _))) (first | (go_at_call 49; with_reducible refine (hcl.out _ _ _ ?_ ?_).mono ?_; exact Below.drew (Go.Joins.below_alloc1 _ _); exact pair_rd w _ _ _ _ _; rintro e w1 ⟨rfl, hb1⟩; have hB1 := Lib.hid ((Below.drew (Go.Joins.below_alloc1 w _)).trans (hb1.mono (show w.heap.size ≤ _ by simp))); have sQ := Lib.hid (hS.out w1 hB1.out)))
  all_goals
    have hB := hB1.out
    clear hb1 hS hcl sQ hB1
    go_wp2_with fail
    go_ret
    exact ⟨rfl, hB⟩

set_option maxHeartbeats 4000000 in
theorem straightWay_any (A : Option Addr) (n c lo hi : Nat) (L : List (Int × Int)) (t : Int) (v : Bool) (hv : v = withinB L [ptAt L 0, ptAt L (n - 1)] t) (w : World) (hr : RdS 2 (FlatR ptC) w lo hi A n L) (hhi : hi ≤ w.heap.size) (hn1 : 1 ≤ n) (hn : n ≤ 1000) (hL : ∀ p ∈ L, ptOk p.1 p.2 = true) (ht0 : 0 ≤ t) (ht1 : t ≤ 262144) :
    Calls Tryz.prog 59 #[.slice A n c, .int .i64 t] w fun e w' => e = .returned (.bool v) ∧ Below w.heap.size w w' := by
  have hl := hr.1
  have hrH := Lib.hid hr
  obtain ⟨b, off, rfl, hb0, hb, hcs⟩ := hr.pts (by omega)
  obtain ⟨x00, x01⟩ := hcs 0 (by omega)
  obtain ⟨m, hm⟩ : ∃ m, m = n - 1 := ⟨_, rfl⟩
  rw [← hm] at hv
  obtain ⟨x10, x11⟩ := hcs m (by omega)
  have o0 := pts_ok hL (j := 0) (by omega)
  have o1 := pts_ok hL (j := m) (by omega)
  obtain ⟨⟨x0, y0⟩, hp0⟩ : ∃ p, p = ptAt L 0 := ⟨_, rfl⟩
  obtain ⟨⟨x1, y1⟩, hp1⟩ : ∃ p, p = ptAt L m := ⟨_, rfl⟩
  rw [← hp0] at hv x00 x01 o0
  rw [← hp1] at hv x10 x11 o1
  simp only at x00 x01 x10 x11 o0 o1
  rw [Nat.zero_mul, Nat.add_zero] at x00 x01
  have hbw : b < w.heap.size := by omega
  have hcl := Lib.hid (fun (W : World) (A' : Option Addr) (c' : Nat) (hb : Below w.heap.size w W) (hp : RdS 2 (FlatR ptC) W w.heap.size W.heap.size A' 2 [(x0, y0), (x1, y1)]) => pathWithin_any (some ⟨b, off, none⟩) A' n c 2 c' lo hi w.heap.size W.heap.size L [(x0, y0), (x1, y1)] t v hv W (hrH.out.frame (good_flat _) (Below.sameB hb hhi)) hp (Nat.le_trans hhi hb.size) (Nat.le_refl _) (by omega) (by omega) (by omega) hL (by intro p hp; rcases List.mem_cons.1 hp with rfl | hp; exact o0; rw [List.mem_singleton] at hp; subst hp; exact o1) ht0 ht1)
  have hS := Lib.hid (fun (W : World) (hb : Below w.heap.size w W) => (show W.cell? ⟨b, off, none⟩ = some (.int .i64 x0) ∧ W.cell? ⟨b, off + 1, none⟩ = some (.int .i64 y0) ∧ W.cell? ⟨b, off + m * 2, none⟩ = some (.int .i64 x1) ∧ W.cell? ⟨b, off + m * 2 + 1, none⟩ = some (.int .i64 y1) from ⟨(hb.cell (p := ⟨b, off, none⟩) hbw).trans x00, (hb.cell (p := ⟨b, off + 1, none⟩) hbw).trans x01, (hb.cell (p := ⟨b, off + m * 2, none⟩) hbw).trans x10, (hb.cell (p := ⟨b, off + m * 2 + 1, none⟩) hbw).trans x11⟩))
  have i0 : (0 : Int) ≤ 0 ∧ (0 : Int) < (n : Int) := by omega
  have i1 : (0 : Int) ≤ (m : Int) ∧ (m : Int) < (n : Int) := by omega
  have i2 : 0 < n := by omega
  have i3 : (m : Int) < (n : Int) := by omega
  have i4 : (0 : Int) < (n : Int) := by omega
  have i5 : (0 : Int) ≤ (m : Int) := by omega
  have q1 : IntKind.i64.wrap ((n : Int) - 1) = (m : Int) := by rw [wi (by omega)]; omega
  replace hm := Lib.hid hm
  replace hp0 := Lib.hid hp0
  replace hp1 := Lib.hid hp1
  replace hL := Lib.hid hL
  replace hl := Lib.hid hl
  clear hv hcs o0 o1 hr
  go_enter Tryz.func59, Tryz.ntmps59
  go_wp2_with fail
  go_region_held3 (fun w' => w'.cell? ⟨b, off, none⟩ = some (.int .i64 x0) ∧ w'.cell? ⟨b, off + 1, none⟩ = some (.int .i64 y0) ∧ w'.cell? ⟨b, off + m * 2, none⟩ = some (.int .i64 x1) ∧ w'.cell? ⟨b, off + m * 2 + 1, none⟩ = some (.int .i64 y1)) (first | (with_reducible exact sQ.out) | (refine hS.out _ ?_; repeat (first | with_reducible exact Below.refl _ _ | with_reducible refine Below.drew ?_ | with_reducible refine Below.alloc ?_ (by simp) _))) (first | (go_at_call 25; with_reducible refine (hcl.out _ _ _ ?_ ?_).mono ?_; exact Below.drew (Go.Joins.below_alloc1 _ _); exact pair_rd w _ _ _ _ _; rintro e w1 ⟨rfl, hb1⟩; have hB1 := Lib.hid ((Below.drew (Go.Joins.below_alloc1 w _)).trans (hb1.mono (show w.heap.size ≤ _ by simp))); have sQ := Lib.hid (hS.out w1 hB1.out)))
  all_goals
    have hB := hB1.out
    clear hb1 hS hcl sQ hB1
    go_wp2_with fail
    go_ret
    exact ⟨rfl, hB⟩
end Go.Proofs.YtgelkdcggnffeaaGreat

/- A region that draws its order, whose last operations wait for all that stand ahead of them: its head by itself (with what is held in S), its tail in order. No program in sight. Conditions: as each states. -/
namespace Go.Proofs.YtgelkdcggnffeaaGreat
set_option linter.unusedVariables false
set_option maxRecDepth 100000

/-- what is to be shown behind the head: the tail, in order -/
def QTail (P : Program) (ops : Array Oper) (l : List Oper) (Q : Exit → Act → World → Prop) : Exit → Act → World → Prop
  | .normal, a, w => wpList P ops Q l a w
  | e, a, w => Q e a w
theorem wp_of_tail {P : Program} {Q : Exit → Act → World → Prop} {ops : Array Oper} {l : List Oper} {o : Oper} {a : Act} {w : World} {K K' : Act → World → Prop} (h : ∀ a w, K a w → K' a w)
    (hh : Oper.wp P o a w K (QTail P ops l Q)) : Oper.wp P o a w K' Q := by
  have h1 := Oper.wp_mono h hh
  clear hh
  unfold Oper.wp at *
  generalize (execOp a.eval o).run P w = r at *
  cases r with
  | ok n w' =>
    cases n <;> first
      | exact h1
      | (refine Calls.mono h1 fun e w'' he => ?_
         cases e <;> exact he)
  | halt x w' => cases x <;> exact h1
theorem wpAny_more {P : Program} {md : Region.Mode} {ops : Array Oper} {Q : Exit → Act → World → Prop} : ∀ (g : Nat) (listed : Array Bool) (a : Act) (w : World), wpAny P md ops Q g listed a w → wpAny P md ops Q (g + 1) listed a w
  | 0, listed, a, w, h => ⟨fun _ => h.2, by rw [h.1]; intro i hi; cases hi⟩
  | g + 1, listed, a, w, h => ⟨h.1, fun i hi => wpOp_mono (fun a' w' h' => wpAny_more g _ a' w' h') (h.2 i hi)⟩
theorem wpAny_plus {P : Program} {md : Region.Mode} {ops : Array Oper} {Q : Exit → Act → World → Prop} {g : Nat} {listed : Array Bool} {a : Act} {w : World} (h : wpAny P md ops Q g listed a w) (k : Nat) : wpAny P md ops Q (k + g) listed a w := by
  induction k with
  | zero => rw [Nat.zero_add]; exact h
  | succ k ih => rw [show k + 1 + g = (k + g) + 1 by omega]; exact wpAny_more _ _ _ _ ih
theorem leastN {p : Nat → Prop} (hp : ∀ j, p j ∨ ¬ p j) : ∀ (j : Nat), p j → ∃ i, i ≤ j ∧ p i ∧ ∀ k, k < i → ¬ p k := by
  intro j
  induction j using Nat.strongRecOn with
  | _ j ih =>
    intro hj
    by_cases h : ∃ k, k < j ∧ p k
    · obtain ⟨k, hk, hpk⟩ := h
      obtain ⟨i, h1, h2, h3⟩ := ih k hk hpk
      exact ⟨i, by omega, h2, h3⟩
    · exact ⟨j, Nat.le_refl _, hj, fun k hk hpk => h ⟨k, hk, hpk⟩⟩

def backRB (l : List Oper) (n : Nat) : Bool := (List.range n).all fun i => match l[i]? with
  | some o => o.after.all (fun e => decide (e.on < i)) && o.guard.isNone
  | none => false
def maskL (n m : Nat) : Array Bool := (List.replicate n true ++ List.replicate m false).toArray
def headRB (l : List Oper) (n : Nat) : Bool := decide (n < l.length) && Region.sinkB .any l.toArray n && Region.chainB .any l.toArray n && backRB l n && Region.seqB .any l.toArray (l.length - n) n (maskL n (l.length - n))
theorem back_specR {l : List Oper} {n i : Nat} (h : backRB l n = true) (hi : i < n) : ∃ o, l[i]? = some o ∧ (∀ e ∈ o.after, e.on < i) ∧ o.guard = none := by
  have h1 := List.all_eq_true.1 h i (List.mem_range.2 hi)
  cases ho : l[i]? with
  | none => rw [ho] at h1; cases h1
  | some o =>
    rw [ho] at h1
    simp only [Bool.and_eq_true] at h1
    refine ⟨o, rfl, fun e he => ?_, by simpa using h1.2⟩
    have := Array.all_eq_true'.1 h1.1 e he
    simpa using this

structure HRel (n : Nat) (l : List Oper) (h f : Array Bool) : Prop where
  hs : h.size = n
  fs : f.size = l.length
  hn : n < l.length
  eq : ∀ j, j < n → f.getD j true = h.getD j true
  tl : ∀ t, n ≤ t → t < l.length → f.getD t true = false
theorem getD_two {a : Array Bool} {j : Nat} (hj : j < a.size) : a.getD j false = a.getD j true := by simp [hj]
theorem getD_out {a : Array Bool} {j : Nat} {d : Bool} (hj : a.size ≤ j) : a.getD j d = d := by simp [Array.getElem?_eq_none hj]
theorem HRel.fb {n : Nat} {l : List Oper} {h f : Array Bool} (r : HRel n l h f) (j : Nat) : f.getD j false = h.getD j false := by
  rcases Nat.lt_or_ge j n with hj | hj
  · rw [getD_two (by have := r.fs; have := r.hn; omega), getD_two (by have := r.hs; omega)]
    exact r.eq j hj
  · rw [getD_out (a := h) (by have := r.hs; omega)]
    rcases Nat.lt_or_ge j l.length with h2 | h2
    · rw [getD_two (by have := r.fs; omega)]; exact r.tl j hj h2
    · exact getD_out (by have := r.fs; omega)
theorem ready_head {md : Region.Mode} {n : Nat} {l : List Oper} {h f : Array Bool} (r : HRel n l h f) {j : Nat} (hj : j < n) : j ∈ Region.ready md l.toArray f ↔ j ∈ Region.ready md (l.take n).toArray h := by
  rw [mem_ready, mem_ready, r.eq j hj]
  have e : (l.take n).toArray[j]? = l.toArray[j]? := by simp [hj]
  rw [e]
  simp only [r.fb]
theorem HRel.set {n : Nat} {l : List Oper} {h f : Array Bool} (r : HRel n l h f) {i : Nat} (hi : i < n) : HRel n l (h.setIfInBounds i true) (f.setIfInBounds i true) := by
  refine ⟨by simp [r.hs], by simp [r.fs], r.hn, fun j hj => ?_, fun t h1 h2 => ?_⟩
  · by_cases hij : i = j
    · subst hij
      have h1 := r.hs
      have h2 := r.fs
      have h3 := r.hn
      simp [hi, h1, show i < f.size by omega]
    · rw [getD_set_ne true hij, getD_set_ne true hij]; exact r.eq j hj
  · rw [getD_set_ne true (by omega)]; exact r.tl t h1 h2
theorem HRel.mask {n : Nat} {l : List Oper} {h f : Array Bool} (r : HRel n l h f) (hall : ∀ j, j < n → h.getD j true = true) : f = maskL n (l.length - n) := by
  have h1 := r.hn
  apply Array.ext
  · rw [r.fs]; simp [maskL]; omega
  · intro i hi1 hi2
    rw [r.fs] at hi1
    have hg : f[i] = f.getD i true := by simp [show i < f.size by rw [r.fs]; exact hi1]
    rw [hg]
    rcases Nat.lt_or_ge i n with hj | hj
    · rw [r.eq i hj, hall i hj]
      simp [maskL, hj]
    · rw [r.tl i hj hi1]
      simp [maskL, List.getElem_append, Nat.not_lt.2 hj]

theorem wpAny_of_take {P : Program} {Q : Exit → Act → World → Prop} {n : Nat} {l : List Oper} (hs : Region.sinkB .any l.toArray n = true) (hc : Region.chainB .any l.toArray n = true) (hb : backRB l n = true) (hq : Region.seqB .any l.toArray (l.length - n) n (maskL n (l.length - n)) = true) :
    ∀ (fuel : Nat) (h f : Array Bool) (a : Act) (w : World), HRel n l h f → HeadInv .any l.toArray n f → wpAny P .any (l.take n).toArray (QTail P l.toArray (l.drop n) Q) fuel h a w → wpAny P .any l.toArray Q (fuel + (l.length - n)) f a w := by
  intro fuel
  induction fuel with
  | zero =>
    intro h f a w r inv hh
    by_cases hall : ∀ j, j < n → h.getD j true = true
    · rw [r.mask hall, Nat.zero_add]
      have hdl : (l.drop n).length = l.length - n := by simp
      have := wpAny_of_seq (md := .any) (ops := l.toArray) (Q' := Q) (l.drop n) n (maskL n (l.length - n)) a w (fun j => by simp [List.getElem?_drop]) (by rw [hdl]; exact hq) hh.2
      rwa [hdl] at this
    · exfalso
      obtain ⟨j, hj⟩ : ∃ j, j < n ∧ h.getD j true = false := by
        refine Classical.byContradiction fun hno => hall fun j hj => ?_
        cases hv : h.getD j true with
        | true => rfl
        | false => exact absurd ⟨j, hj, hv⟩ hno
      obtain ⟨i, hi, hpi, hmin⟩ := leastN (p := fun j => j < n ∧ h.getD j true = false) (fun j => Classical.em _) j hj
      obtain ⟨o, ho, hon, _⟩ := back_specR hb hpi.1
      have hr : i ∈ Region.ready .any (l.take n).toArray h := mem_ready.2 ⟨hpi.2, o, by simpa [List.getElem?_take, hpi.1] using ho, fun e he _ => by
        have h1 := hon e he
        have h2 := hmin e.on h1
        rw [getD_two (by have := r.hs; have := hpi.1; omega)]
        cases hv : h.getD e.on true with
        | true => rfl
        | false => exact absurd ⟨by have := hpi.1; omega, hv⟩ h2⟩
      rw [hh.1] at hr
      cases hr
  | succ fuel ih =>
    intro h f a w r inv hh
    by_cases hall : ∀ j, j < n → h.getD j true = true
    · have h0 : Region.ready .any (l.take n).toArray h = [] := by
        cases hr : Region.ready .any (l.take n).toArray h with
        | nil => rfl
        | cons x xs =>
          exfalso
          have hx : x ∈ Region.ready .any (l.take n).toArray h := by rw [hr]; exact List.mem_cons_self
          obtain ⟨h1, o, h2, _⟩ := mem_ready.1 hx
          have hxn : x < n := by
            have h3 := (Array.getElem?_eq_some_iff.1 h2).1
            simp at h3; omega
          rw [hall x hxn] at h1; cases h1
      rw [r.mask hall]
      have hdl : (l.drop n).length = l.length - n := by simp
      have := wpAny_of_seq (md := .any) (ops := l.toArray) (Q' := Q) (l.drop n) n (maskL n (l.length - n)) a w (fun j => by simp [List.getElem?_drop]) (by rw [hdl]; exact hq) (hh.1 h0)
      rw [hdl] at this
      exact wpAny_plus this _
    · obtain ⟨j, hj⟩ : ∃ j, j < n ∧ h.getD j true = false := by
        refine Classical.byContradiction fun hno => hall fun j hj => ?_
        cases hv : h.getD j true with
        | true => rfl
        | false => exact absurd ⟨j, hj, hv⟩ hno
      obtain ⟨i, hi, hpi, hmin⟩ := leastN (p := fun j => j < n ∧ h.getD j true = false) (fun j => Classical.em _) j hj
      obtain ⟨o, ho, hon, _⟩ := back_specR hb hpi.1
      have hr : i ∈ Region.ready .any (l.take n).toArray h := mem_ready.2 ⟨hpi.2, o, by simpa [List.getElem?_take, hpi.1] using ho, fun e he _ => by
        have h1 := hon e he
        have h2 := hmin e.on h1
        rw [getD_two (by have := r.hs; have := hpi.1; omega)]
        cases hv : h.getD e.on true with
        | true => rfl
        | false => exact absurd ⟨by have := hpi.1; omega, hv⟩ h2⟩
      have hrf := (ready_head r hpi.1).2 hr
      rw [show fuel + 1 + (l.length - n) = (fuel + (l.length - n)) + 1 by omega]
      refine ⟨fun h0 => (by rw [h0] at hrf; cases hrf), fun k hk => ?_⟩
      have hkn : k < n := by
        rcases Nat.lt_or_ge k n with h1 | h1
        · exact h1
        · exact absurd hk (tail_waits hs hc (by simpa using r.hn) inv (n - i) i rfl hpi.1 (by rw [r.eq i hpi.1]; exact hpi.2) k h1)
      have hkh := (ready_head r hkn).1 hk
      have hop := hh.2 k hkh
      obtain ⟨o', ho', _, hgd⟩ := back_specR hb hkn
      have e1 : (l.take n).toArray[k]? = some o' := by simpa [List.getElem?_take, hkn] using ho'
      have e2 : l.toArray[k]? = some o' := by simpa using ho'
      have hw : ∀ y, Region.wanted o' y = true := fun y => by simp [Region.wanted, hgd]
      unfold wpOp at hop ⊢
      rw [e1] at hop
      rw [e2]
      simp only [hw, if_true] at hop ⊢
      rcases hop with hop | ⟨h1, h2⟩
      · exact .inl (wp_of_tail (fun a' w' h' => ih _ _ a' w' (r.set hkn) (inv.set hk hkn) h') hop)
      · exact .inr ⟨h1, h2⟩

/-- the head by itself, and the tail in order -/
theorem wp_region_head {P : Program} {Q : Exit → Act → World → Prop} {id : Nat} {a : Act} {w : World} {l : List Oper} (n : Nat) (S : World → Prop) (hm : P.follows .mixedOrders = true) (hB : headRB l n = true) (hS : S w.drew)
    (h : S w.drew → wpAnyH P .any (l.take n).toArray (QTail P l.toArray (l.drop n) Q) S n (Array.replicate n false) a w.drew) : (Code.region id l.toArray true).wp P Q a w := by
  simp only [headRB, Bool.and_eq_true, decide_eq_true_eq] at hB
  obtain ⟨⟨⟨⟨hn, hs⟩, hc⟩, hb⟩, hq⟩ := hB
  have inv0 : HeadInv .any l.toArray n (Array.replicate l.length false) :=
    ⟨by simp, fun j oj _ hl => (by rw [getD_replicate_false] at hl; cases hl), fun t _ ht => getD_in (by simpa using ht) (getD_replicate_false _ _)⟩
  have r0 : HRel n l (Array.replicate n false) (Array.replicate l.length false) :=
    ⟨by simp, by simp, hn, fun j hj => by rw [getD_in (by simp; omega) (getD_replicate_false _ _), getD_in (by simp; omega) (getD_replicate_false _ _)], fun t _ ht => getD_in (by simpa using ht) (getD_replicate_false _ _)⟩
  refine wp_region_any hm ?_
  have := wpAny_of_take hs hc hb hq n _ _ a _ r0 inv0 (wpAny_of_held _ _ _ _ (h hS))
  rw [show n + (l.length - n) = l.toArray.size by simp; omega] at this
  simpa using this
end Go.Proofs.YtgelkdcggnffeaaGreat

