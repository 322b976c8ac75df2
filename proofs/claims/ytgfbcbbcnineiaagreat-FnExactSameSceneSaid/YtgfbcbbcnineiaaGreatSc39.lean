/- Comparisons for scenes: lists of points, terms, rings, linear expressions. Printed by mk_scsame.py. Conditions: as each states. -/
import Derived.BigQuiet
import Derived.Lib.QuietBelow
import Derived.Test.YtgfbcbbcnineiaaGreatSc04
import Derived.Test.YtgfbcbbcnineiaaGreatSc05
import Derived.Test.YtgfbcbbcnineiaaGreatSc13
import Derived.Test.YtgfbcbbcnineiaaGreatSc35
import Derived.Test.YtgfbcbbcnineiaaGreatSc38
namespace Go.Proofs.YtgfbcbbcnineiaaGreat
open Go.RowKit
set_option linter.unusedVariables false
set_option maxRecDepth 100000

set_option maxHeartbeats 1000000 in
theorem l08Same_any (A A' : Option Addr) (n c n' c' lo hi lo' hi' : Nat) (L M : List (Int × Int)) (b : Bool) (hb : b = decide (L = M)) (w : World) (h1 : RdS 2 (FlatR ptC) w lo hi A n L) (h2 : RdS 2 (FlatR ptC) w lo' hi' A' n' M) (hh1 : hi ≤ w.heap.size) (hh2 : hi' ≤ w.heap.size) (hn : n ≤ 1000000000) (hn' : n' ≤ 1000000000) :
    Calls Tryz.prog 19 #[.slice A n c, .slice A' n' c'] w fun e w' => e = .returned (.bool b) ∧ ∃ q, w' = w.drewN q := by
  by_cases hl : n = n'
  · subst hl
    have hfin := Lib.hid (fun h => take_eq_done (n := n) h h1.1 h2.1)
    replace hb := Lib.hid hb
    replace h1 := Lib.hid h1
    replace h2 := Lib.hid h2
    go_enter Tryz.func19, Tryz.ntmps19
    go_wp2_with fail
    go_loopw [5] (fun i wr => ∃ k q : Nat, i = .int .i64 k ∧ k ≤ n ∧ L.take k = M.take k ∧ wr = w.drewN q) (fun i wr => n - (intOf i).toNat)
    case atStart => exact ⟨0, 0, rfl, Nat.zero_le _, rfl, rfl⟩
    case round =>
      obtain ⟨k, q, rfl, hk, htk, rfl⟩ := hrel
      replace htk := Lib.hid htk
      by_cases hlt : k < n
      · obtain ⟨b1, o1, ⟨x0, x1⟩, rfl, hb0, hbw, hja, hcs⟩ := h1.out.at hlt
        obtain ⟨b2, o2, ⟨y0, y1⟩, rfl, hb0', hbw', hja', hcs'⟩ := h2.out.at hlt
        have q0 := hcs 0 _ rfl
        have p0 := hcs' 0 _ rfl
        have q1 := hcs 1 _ rfl
        have p1 := hcs' 1 _ rfl
        simp only [Nat.add_zero] at q0 p0 q1 p1
        have hw1 : b1 < w.heap.size := by omega
        have hw2 : b2 < w.heap.size := by omega
        clear hcs hcs' hb0 hb0' hbw hbw' hh1 hh2 h1 h2
        have hi : (0 : Int) ≤ (k : Int) ∧ (k : Int) < (n : Int) := by omega
        by_cases e0 : x0 = y0
        rotate_left
        · have hbf : b = false := by rw [hb.out, decide_eq_false_iff_not]; exact ne_of_at hja hja' (by simp [e0])
          have t0 : (x0 == y0) = false := by simp [e0]
          subst hbf
          clear e0 hja hja'
          go_wp2_with fail
          go_quiet (fail)
          go_wp2_with fail
          go_ret
          exact ⟨rfl, _, by rw [World.drewN_drewN]⟩
        subst e0
        by_cases e1 : x1 = y1
        rotate_left
        · have hbf : b = false := by rw [hb.out, decide_eq_false_iff_not]; exact ne_of_at hja hja' (by simp [e1])
          have t1 : (x1 == y1) = false := by simp [e1]
          subst hbf
          clear e1 hja hja'
          go_wp2_with fail
          go_quiet (fail)
          go_wp2_with fail
          go_ret
          exact ⟨rfl, _, by rw [World.drewN_drewN]⟩
        subst e1
        replace hja := Lib.hid hja
        replace hja' := Lib.hid hja'
        go_wp2_with fail
        go_quiet (fail)
        go_wp2_with fail
        go_roundw
        case rel => exact ⟨k + 1, _, by go_num, by omega, take_eq_step htk.out hja.out hja'.out, rfl⟩
        case measure => simp [intOf]; omega
      · have hkn : k = n := by omega
        have hbt : b = true := by rw [hb.out, decide_eq_true_iff]; exact hfin.out (by rw [← hkn]; exact htk.out)
        subst hbt
        replace hkn := Lib.hid hkn
        go_wp2_with fail
        go_ret
        exact ⟨rfl, _, rfl⟩
  · have hbf : b = false := by
      rw [hb, decide_eq_false_iff_not]; rintro rfl; exact hl (h1.1.symm.trans h2.1)
    have t1 : ((n : Int) == (n' : Int)) = false := by simp; omega
    have t2 : ((n : Int) != (n' : Int)) = true := by simp; omega
    subst hbf
    clear hl h1 h2 hb
    go_enter Tryz.func19, Tryz.ntmps19
    go_wp2_with fail
    go_ret
    exact ⟨rfl, 0, rfl⟩


set_option maxHeartbeats 1000000 in
theorem equalTerm_any (A A' : Option Addr) (n c n' c' lo hi lo' hi' : Nat) (L M : List (ByteArray × Int × Int)) (b : Bool) (hb : b = decide (L = M)) (w : World) (h1 : RdS 3 (FlatR anchC) w lo hi A n L) (h2 : RdS 3 (FlatR anchC) w lo' hi' A' n' M) (hh1 : hi ≤ w.heap.size) (hh2 : hi' ≤ w.heap.size) (hn : n ≤ 1000000000) (hn' : n' ≤ 1000000000) :
    Calls Tryz.prog 89 #[.slice A n c, .slice A' n' c'] w fun e w' => e = .returned (.bool b) ∧ ∃ q, w' = w.drewN q := by
  by_cases hl : n = n'
  · subst hl
    have hfin := Lib.hid (fun h => take_eq_done (n := n) h h1.1 h2.1)
    replace hb := Lib.hid hb
    replace h1 := Lib.hid h1
    replace h2 := Lib.hid h2
    go_enter Tryz.func89, Tryz.ntmps89
    go_wp2_with fail
    go_loopw [13] (fun i wr => ∃ k q : Nat, i = .int .i64 k ∧ k ≤ n ∧ L.take k = M.take k ∧ wr = w.drewN q) (fun i wr => n - (intOf i).toNat)
    case atStart => exact ⟨0, 0, rfl, Nat.zero_le _, rfl, rfl⟩
    case round =>
      obtain ⟨k, q, rfl, hk, htk, rfl⟩ := hrel
      replace htk := Lib.hid htk
      by_cases hlt : k < n
      · obtain ⟨b1, o1, ⟨x0, x1, x2⟩, rfl, hb0, hbw, hja, hcs⟩ := h1.out.at hlt
        obtain ⟨b2, o2, ⟨y0, y1, y2⟩, rfl, hb0', hbw', hja', hcs'⟩ := h2.out.at hlt
        have q0 := hcs 0 _ rfl
        have p0 := hcs' 0 _ rfl
        have q1 := hcs 1 _ rfl
        have p1 := hcs' 1 _ rfl
        have q2 := hcs 2 _ rfl
        have p2 := hcs' 2 _ rfl
        simp only [Nat.add_zero] at q0 p0 q1 p1 q2 p2
        have hw1 : b1 < w.heap.size := by omega
        have hw2 : b2 < w.heap.size := by omega
        clear hcs hcs' hb0 hb0' hbw hbw' hh1 hh2 h1 h2
        have hi : (0 : Int) ≤ (k : Int) ∧ (k : Int) < (n : Int) := by omega
        by_cases e0 : x0 = y0
        rotate_left
        · have hbf : b = false := by rw [hb.out, decide_eq_false_iff_not]; exact ne_of_at hja hja' (by simp [e0])

          have u0 : (x0.toList == y0.toList) = false := bytes_neq e0
          subst hbf
          clear e0 hja hja'
          go_wp2_with fail
          go_quiet (fail)
          go_wp2_with fail
          go_ret
          exact ⟨rfl, _, by rw [World.drewN_drewN]⟩
        subst e0
        by_cases e1 : x1 = y1
        rotate_left
        · have hbf : b = false := by rw [hb.out, decide_eq_false_iff_not]; exact ne_of_at hja hja' (by simp [e1])
          have t1 : (x1 == y1) = false := by simp [e1]
          subst hbf
          clear e1 hja hja'
          go_wp2_with fail
          go_quiet (fail)
          go_wp2_with fail
          go_ret
          exact ⟨rfl, _, by rw [World.drewN_drewN]⟩
        subst e1
        by_cases e2 : x2 = y2
        rotate_left
        · have hbf : b = false := by rw [hb.out, decide_eq_false_iff_not]; exact ne_of_at hja hja' (by simp [e2])
          have t2 : (x2 == y2) = false := by simp [e2]
          subst hbf
          clear e2 hja hja'
          go_wp2_with fail
          go_quiet (fail)
          go_wp2_with fail
          go_ret
          exact ⟨rfl, _, by rw [World.drewN_drewN]⟩
        subst e2
        replace hja := Lib.hid hja
        replace hja' := Lib.hid hja'
        go_wp2_with fail
        go_quiet (fail)
        go_wp2_with fail
        go_roundw
        case rel => exact ⟨k + 1, _, by go_num, by omega, take_eq_step htk.out hja.out hja'.out, rfl⟩
        case measure => simp [intOf]; omega
      · have hkn : k = n := by omega
        have hbt : b = true := by rw [hb.out, decide_eq_true_iff]; exact hfin.out (by rw [← hkn]; exact htk.out)
        subst hbt
        replace hkn := Lib.hid hkn
        go_wp2_with fail
        go_ret
        exact ⟨rfl, _, rfl⟩
  · have hbf : b = false := by
      rw [hb, decide_eq_false_iff_not]; rintro rfl; exact hl (h1.1.symm.trans h2.1)
    have t1 : ((n : Int) == (n' : Int)) = false := by simp; omega
    have t2 : ((n : Int) != (n' : Int)) = true := by simp; omega
    subst hbf
    clear hl h1 h2 hb
    go_enter Tryz.func89, Tryz.ntmps89
    go_wp2_with fail
    go_ret
    exact ⟨rfl, 0, rfl⟩

/-! ### the program's side -/
theorem sameRing_any (A A' : Option Addr) (n c n' c' lo hi lo' hi' : Nat) (L M : List (Int × Int)) (b : Bool) (hb : b = decide (L = M)) (w : World) (h1 : RdS 2 (FlatR ptC) w lo hi A n L) (h2 : RdS 2 (FlatR ptC) w lo' hi' A' n' M) (hh1 : hi ≤ w.heap.size) (hh2 : hi' ≤ w.heap.size) (hn : n ≤ 1000000000) (hn' : n' ≤ 1000000000) :
    Calls Tryz.prog 68 #[.agg #[.slice A n c], .agg #[.slice A' n' c']] w fun e w' => e = .returned (.bool b) ∧ Below w.heap.size w w' := by
  have hc := Lib.hid (fun x y => equalPt_any A A' n c n' c' lo hi lo' hi' L M b hb ((w.alloc x).alloc y) (h1.frame (good_flat _) (((SameB.refl _ _ w).alloc hh1 _).alloc (by simp; omega) _)) (h2.frame (good_flat _) (((SameB.refl _ _ w).alloc hh2 _).alloc (by simp; omega) _)) (by simp; omega) (by simp; omega) hn hn')
  clear h1 h2 hb
  go_enter Tryz.func68, Tryz.ntmps68
  go_wp2_with fail
  refine (hc.out _ _).mono ?_
  rintro e w1 ⟨rfl, nq, rfl⟩
  go_wp2_with fail
  go_ret
  exact ⟨rfl, below_drewN (Go.Joins.below_alloc2 _ _ _) _⟩

set_option maxHeartbeats 2000000 in
theorem equalFRing_any (A A' : Option Addr) (n c n' c' lo hi lo' hi' : Nat) (L M : List (List (Int × Int))) (b : Bool) (hb : b = decide (L = M)) (w : World) (h1 : RegRd w lo hi A n L) (h2 : RegRd w lo' hi' A' n' M) (hh1 : hi ≤ w.heap.size) (hh2 : hi' ≤ w.heap.size) (hn : n ≤ 1000000000) (hn' : n' ≤ 1000000000) (hL : ∀ K ∈ L, K.length ≤ 1000000000) (hM : ∀ K ∈ M, K.length ≤ 1000000000) :
    Calls Tryz.prog 67 #[.slice A n c, .slice A' n' c', .func (.func 68) #[] #[]] w fun e w' => e = .returned (.bool b) ∧ Below w.heap.size w w' := by
  by_cases hl : n = n'
  rotate_left
  · have hbf : b = false := by
      rw [hb, decide_eq_false_iff_not]; rintro rfl; exact hl (h1.1.symm.trans h2.1)
    have t1 : ((n : Int) == (n' : Int)) = false := by simp; omega
    have t2 : ((n : Int) != (n' : Int)) = true := by simp; omega
    subst hbf
    clear hl h1 h2 hb
    go_enter Tryz.func67, Tryz.ntmps67
    go_wp2_with fail
    go_ret
    exact ⟨rfl, Below.refl _ _⟩
  subst hl
  have hfin := Lib.hid (fun h => take_eq_done (n := n) h h1.1 h2.1)
  replace hb := Lib.hid hb
  replace h1 := Lib.hid h1
  replace h2 := Lib.hid h2
  replace hL := Lib.hid hL
  replace hM := Lib.hid hM
  go_enter Tryz.func67, Tryz.ntmps67
  go_wp2_with fail
  go_loopw [17] (fun i wr => ∃ k : Nat, i = .int .i64 k ∧ k ≤ n ∧ L.take k = M.take k ∧ Below w.heap.size w wr) (fun i wr => n - (intOf i).toNat)
  case atStart => exact ⟨0, rfl, Nat.zero_le _, rfl, Below.refl _ _⟩
  case round =>
    obtain ⟨k, rfl, hk, htk, hbel⟩ := hrel
    replace htk := Lib.hid htk
    have hsz := hbel.size
    by_cases hlt : k < n
    · obtain ⟨b1, f1, K1, A1, n1, c1, rfl, hb0, hb1, hja, q0, hm, hr1⟩ := reg_at (h1.out.frame good_ring (Below.sameB hbel hh1)) hlt
      obtain ⟨b2, f2, K2, A2, n2, c2, rfl, hb0', hb2, hja', q0', hm', hr2⟩ := reg_at (h2.out.frame good_ring (Below.sameB hbel hh2)) hlt
      have hl1 := hL.out K1 (List.mem_of_getElem? hja)
      have hl2 := hM.out K2 (List.mem_of_getElem? hja')
      rw [hr1.1] at hl1
      rw [hr2.1] at hl2
      obtain ⟨t, ht⟩ : ∃ t, t = decide (K1 = K2) := ⟨_, rfl⟩
      have hcall := Lib.hid (fun x y => sameRing_any A1 A2 n1 c1 n2 c2 lo hi lo' hi' K1 K2 t ht ((wr.alloc x).alloc y) (hr1.frame (good_flat _) (((SameB.refl _ _ wr).alloc (by omega) _).alloc (by simp; omega) _)) (hr2.frame (good_flat _) (((SameB.refl _ _ wr).alloc (by omega) _).alloc (by simp; omega) _)) (by simp; omega) (by simp; omega) hl1 hl2)
      have hbw : b1 < wr.heap.size := by omega
      have hbw' : b2 < wr.heap.size := by omega
      have hno := Lib.hid (fun h => ne_list_at hja hja' h)
      have hst := Lib.hid (fun (h : K1 = K2) => take_eq_step htk.out hja (h ▸ hja'))
      clear hr1 hr2 hm hm' hja hja' hb0 hb0' hl1 hl2
      replace ht := Lib.hid ht
      go_wp2_with fail
      refine (hcall.out _ _).mono ?_
      rintro e w1 ⟨rfl, hb1⟩
      have hbel1 : Below w.heap.size w w1 := ((hbel.alloc hbel.size _).alloc (by simp; omega) _).trans (hb1.mono (by simp; omega))
      cases t with
      | false =>
        have hbf : b = false := by rw [hb.out]; exact hno.out ht.out.symm
        subst hbf
        go_wp2_with fail
        go_ret
        exact ⟨rfl, hbel1⟩
      | true =>
        go_wp2_with fail
        go_roundw
        case rel => exact ⟨k + 1, by go_num, by omega, hst.out (of_decide_eq_true ht.out.symm), hbel1⟩
        case measure => simp [intOf]; omega
    · have hkn : k = n := by omega
      have hbt : b = true := by rw [hb.out, decide_eq_true_iff]; exact hfin.out (by rw [← hkn]; exact htk.out)
      subst hbt
      replace hkn := Lib.hid hkn
      go_wp2_with fail
      go_ret
      exact ⟨rfl, hbel⟩
theorem implSameReg_any (A A' : Option Addr) (n c n' c' lo hi lo' hi' : Nat) (L M : List (List (Int × Int))) (b : Bool) (hb : b = decide (L = M)) (w : World) (h1 : RegRd w lo hi A n L) (h2 : RegRd w lo' hi' A' n' M) (hh1 : hi ≤ w.heap.size) (hh2 : hi' ≤ w.heap.size) (hn : n ≤ 1000000000) (hn' : n' ≤ 1000000000) (hL : ∀ K ∈ L, K.length ≤ 1000000000) (hM : ∀ K ∈ M, K.length ≤ 1000000000) :
    Calls Tryz.prog 34 #[.agg #[.slice A n c], .agg #[.slice A' n' c']] w fun e w' => e = .returned (.bool b) ∧ Below w.heap.size w w' := by
  have hc := Lib.hid (fun x y => equalFRing_any A A' n c n' c' lo hi lo' hi' L M b hb ((w.alloc x).alloc y) (h1.frame good_ring (((SameB.refl _ _ w).alloc hh1 _).alloc (by simp; omega) _)) (h2.frame good_ring (((SameB.refl _ _ w).alloc hh2 _).alloc (by simp; omega) _)) (by simp; omega) (by simp; omega) hn hn' hL hM)
  clear h1 h2 hb hL hM
  go_enter Tryz.func34, Tryz.ntmps34
  go_wp2_with fail
  refine (hc.out _ _).mono ?_
  rintro e w1 ⟨rfl, hb1⟩
  go_wp2_with fail
  go_ret
  exact ⟨rfl, (Go.Joins.below_alloc2 _ _ _).trans (hb1.mono (by simp; omega))⟩

theorem drewN_below {w w' : World} (h : ∃ q, w' = w.drewN q) : Below w.heap.size w w' := by
  obtain ⟨q, rfl⟩ := h; exact below_drewN (Below.refl _ _) q
set_option maxHeartbeats 4000000 in
theorem specSameReg_any (A A' : Option Addr) (n c n' c' lo hi lo' hi' : Nat) (L M : List (List (Int × Int))) (b : Bool) (hb : b = decide (L = M)) (w : World) (h1 : RegRd w lo hi A n L) (h2 : RegRd w lo' hi' A' n' M) (hh1 : hi ≤ w.heap.size) (hh2 : hi' ≤ w.heap.size) (hn : n ≤ 1000000000) (hn' : n' ≤ 1000000000) (hL : ∀ K ∈ L, K.length ≤ 1000000000) (hM : ∀ K ∈ M, K.length ≤ 1000000000) :
    Calls Tryz.prog 18 #[.agg #[.slice A n c], .agg #[.slice A' n' c']] w fun e w' => e = .returned (.bool b) ∧ Below w.heap.size w w' := by
  have hnew := heap_two w (.cells #[.slice A n c] 61 (0, 0)) (.cells #[.slice A' n' c'] 61 (0, 0))
  have hB0 : Below w.heap.size w ((w.alloc (.cells #[.slice A n c] 61 (0, 0))).alloc (.cells #[.slice A' n' c'] 61 (0, 0))) := Go.Joins.below_alloc2 _ _ _
  by_cases hl : n = n'
  rotate_left
  · have hbf : b = false := by
      rw [hb, decide_eq_false_iff_not]; rintro rfl; exact hl (h1.1.symm.trans h2.1)
    have t1 : ((n : Int) == (n' : Int)) = false := by simp; omega
    have t2 : ((n : Int) != (n' : Int)) = true := by simp; omega
    subst hbf
    clear hl h1 h2 hb hnew
    go_enter Tryz.func18, Tryz.ntmps18
    go_wp2_with fail
    go_ret
    exact ⟨rfl, hB0⟩
  subst hl
  have hfin := Lib.hid (fun h => take_eq_done (n := n) h h1.1 h2.1)
  have kb : ((w.alloc (.cells #[.slice A n c] 61 (0, 0))).alloc (.cells #[.slice A' n c'] 61 (0, 0))).cell? ⟨w.heap.size, 0, none⟩ = some (.slice A n c) := by simp only [World.cell?, hnew.1]; rfl
  have mb : ((w.alloc (.cells #[.slice A n c] 61 (0, 0))).alloc (.cells #[.slice A' n c'] 61 (0, 0))).cell? ⟨w.heap.size + 1, 0, none⟩ = some (.slice A' n c') := by simp only [World.cell?, hnew.2]; rfl
  have hz0 : w.heap.size + 1 < ((w.alloc (.cells #[.slice A n c] 61 (0, 0))).alloc (.cells #[.slice A' n c'] 61 (0, 0))).heap.size := by simp
  replace hb := Lib.hid hb
  replace h1 := Lib.hid h1
  replace h2 := Lib.hid h2
  replace hL := Lib.hid hL
  replace hM := Lib.hid hM
  clear hnew
  go_enter Tryz.func18, Tryz.ntmps18
  go_wp2_with fail
  generalize ((w.alloc (.cells #[.slice A n c] 61 (0, 0))).alloc (.cells #[.slice A' n c'] 61 (0, 0))) = W at hB0 kb mb hz0 ⊢
  go_loopw [5] (fun i wr => ∃ k : Nat, i = .int .i64 k ∧ k ≤ n ∧ L.take k = M.take k ∧ Below W.heap.size W wr) (fun i wr => n - (intOf i).toNat)
  case atStart => exact ⟨0, rfl, Nat.zero_le _, rfl, Below.refl _ _⟩
  case round =>
    obtain ⟨k, rfl, hk, htk, hbel⟩ := hrel
    replace htk := Lib.hid htk
    have hsz := hbel.size
    have hB1 := hB0.trans (hbel.mono hB0.size)
    have kw := (hbel.cell (by simp; omega)).trans kb
    have mw := (hbel.cell (by simp; omega)).trans mb
    by_cases hlt : k < n
    · obtain ⟨b1, f1, K1, A1, n1, c1, rfl, hb0, hb1, hja, q0, hm, hr1⟩ := reg_at (h1.out.frame good_ring (Below.sameB hB1 hh1)) hlt
      obtain ⟨b2, f2, K2, A2, n2, c2, rfl, hb0', hb2, hja', q0', hm', hr2⟩ := reg_at (h2.out.frame good_ring (Below.sameB hB1 hh2)) hlt
      have hl1 := hL.out K1 (List.mem_of_getElem? hja)
      have hl2 := hM.out K2 (List.mem_of_getElem? hja')
      rw [hr1.1] at hl1
      rw [hr2.1] at hl2
      have hs1 := hB1.size
      obtain ⟨t, ht⟩ : ∃ t, t = decide (K1 = K2) := ⟨_, rfl⟩
      have hcall := Lib.hid (fun dr os => Calls.regrown_of ((l13Same_any A1 A2 n1 c1 n2 c2 lo hi lo' hi' K1 K2 t ht (Go.Sort.grow (redrawn wr dr) os)
        (hr1.frame (good_flat _) (Below.sameB (below_regrown wr dr os) (by omega))) (hr2.frame (good_flat _) (Below.sameB (below_regrown wr dr os) (by omega))) (Nat.le_trans (by omega) (below_regrown wr dr os).size) (Nat.le_trans (by omega) (below_regrown wr dr os).size) hl1 hl2).mono fun e w' ⟨he, hq⟩ => ⟨he, drewN_below hq⟩))
      have hno := Lib.hid (fun h => ne_list_at hja hja' h)
      have hst := Lib.hid (fun (h : K1 = K2) => take_eq_step htk.out hja (h ▸ hja'))
      have hi : (0 : Int) ≤ (k : Int) ∧ (k : Int) < (n : Int) := by omega
      have kg : ∀ dr os, (Go.Sort.grow (redrawn wr dr) os).cell? ⟨w.heap.size, 0, none⟩ = some (.slice (some ⟨b1, f1, none⟩) n c) := cell_regrown kw
      have mg : ∀ dr os, (Go.Sort.grow (redrawn wr dr) os).cell? ⟨w.heap.size + 1, 0, none⟩ = some (.slice (some ⟨b2, f2, none⟩) n c') := cell_regrown mw
      have qg : ∀ dr os, (Go.Sort.grow (redrawn wr dr) os).cell? ⟨b1, f1 + k, none⟩ = some (.slice A1 n1 c1) := cell_regrown q0
      have qg' : ∀ dr os, (Go.Sort.grow (redrawn wr dr) os).cell? ⟨b2, f2 + k, none⟩ = some (.slice A2 n2 c2) := cell_regrown q0'
      clear hr1 hr2 hja hja' hl1 hl2 q0 q0'
      replace ht := Lib.hid ht
      go_wp2_with fail
      refine wp_region_quiet_below (by kernel_rfl) (by kernel_rfl) ?_
      repeat (go_big_quiet_step (exact hcall.out _ _))
      refine wpQuiet_nil ?_
      intro _ hw'
      obtain ⟨⟨dq, osq⟩, hw''⟩ := hw'
      subst hw''
      have hb3 := hbel.trans ((below_regrown wr dq osq).mono hsz)
      generalize Go.Sort.grow (redrawn wr dq) osq = w1 at hb3 ⊢
      clear kg mg qg qg'
      cases t with
      | false =>
        have hbf : b = false := by rw [hb.out]; exact hno.out ht.out.symm
        subst hbf
        go_wp2_with fail
        go_ret
        exact ⟨rfl, hB0.trans (hb3.mono hB0.size)⟩
      | true =>
        go_wp2_with fail
        go_roundw
        case rel => exact ⟨k + 1, by go_num, by omega, hst.out (of_decide_eq_true ht.out.symm), hb3⟩
        case measure => simp [intOf]; omega
    · have hkn : k = n := by omega
      have hbt : b = true := by rw [hb.out, decide_eq_true_iff]; exact hfin.out (by rw [← hkn]; exact htk.out)
      subst hbt
      replace hkn := Lib.hid hkn
      go_wp2_with fail
      go_ret
      exact ⟨rfl, hB1⟩

set_option maxHeartbeats 4000000 in
theorem implSameLin_any (a b a' b' : Int) (A A' : Option Addr) (n c n' c' lo hi lo' hi' : Nat) (L M : List Anch) (t : Bool) (ht : t = decide ((a, b, L) = (a', b', M))) (w : World) (h1 : RdS 3 (FlatR anchC) w lo hi A n L) (h2 : RdS 3 (FlatR anchC) w lo' hi' A' n' M) (hh1 : hi ≤ w.heap.size) (hh2 : hi' ≤ w.heap.size) (hn : n ≤ 1000000000) (hn' : n' ≤ 1000000000) :
    Calls Tryz.prog 62 #[linV a b A n c, linV a' b' A' n' c'] w fun e w' => e = .returned (.bool t) ∧ Below w.heap.size w w' := by
  have hne : Hid ((a ≠ a' ∨ b ≠ b' ∨ L ≠ M) → t = false) := fun hor => by
    rw [ht, decide_eq_false_iff_not]; intro e; simp only [Prod.mk.injEq] at e; rcases hor with h | h | h
    · exact h e.1
    · exact h e.2.1
    · exact h e.2.2
  have hyes : Hid (a = a' → b = b' → L = M → t = true) := fun e1 e2 e3 => by rw [ht, decide_eq_true_iff, e1, e2, e3]
  clear ht
  by_cases ea : a = a'
  rotate_left
  · have hbf := hne.out (.inl ea)
    subst hbf
    have t1 : (a == a') = false := by simp [ea]
    have t2 : (a != a') = true := by simp [ea]
    clear ea h1 h2
    go_enter Tryz.func62, Tryz.ntmps62
    go_wp2_with fail
    go_ret
    exact ⟨rfl, Go.Joins.below_alloc2 _ _ _⟩
  subst ea
  by_cases eb : b = b'
  rotate_left
  · have hbf := hne.out (.inr (.inl eb))
    subst hbf
    have t1 : (b == b') = false := by simp [eb]
    have t2 : (b != b') = true := by simp [eb]
    clear eb h1 h2
    go_enter Tryz.func62, Tryz.ntmps62
    go_wp2_with fail
    go_ret
    exact ⟨rfl, Go.Joins.below_alloc2 _ _ _⟩
  subst eb
  have hB0 : Below w.heap.size w ((w.alloc (.cells #[.int .i64 a, .int .i64 b, .slice A n c] 115 (0, 0))).alloc (.cells #[.int .i64 a, .int .i64 b, .slice A' n' c'] 115 (0, 0))) := Go.Joins.below_alloc2 _ _ _
  obtain ⟨u, hu⟩ : ∃ u, u = decide (L = M) := ⟨_, rfl⟩
  have hc := Lib.hid (equalTerm_any A A' n c n' c' lo hi lo' hi' L M u hu ((w.alloc (.cells #[.int .i64 a, .int .i64 b, .slice A n c] 115 (0, 0))).alloc (.cells #[.int .i64 a, .int .i64 b, .slice A' n' c'] 115 (0, 0))) (h1.frame (good_flat _) (Below.sameB hB0 hh1)) (h2.frame (good_flat _) (Below.sameB hB0 hh2)) (Nat.le_trans hh1 hB0.size) (Nat.le_trans hh2 hB0.size) hn hn')
  have hbt : t = u := by
    cases u
    · exact hne.out (.inr (.inr (of_decide_eq_false hu.symm)))
    · exact hyes.out rfl rfl (of_decide_eq_true hu.symm)
  subst hbt
  clear h1 h2 hu
  go_enter Tryz.func62, Tryz.ntmps62
  go_wp2_with fail
  refine hc.out.mono ?_
  rintro e w1 ⟨rfl, q, rfl⟩
  go_wp2_with fail
  go_ret
  exact ⟨rfl, below_drewN hB0 _⟩

set_option maxHeartbeats 4000000 in
theorem specSameLin_any (a b a' b' : Int) (A A' : Option Addr) (n c n' c' lo hi lo' hi' : Nat) (L M : List Anch) (t : Bool) (ht : t = decide ((a, b, L) = (a', b', M))) (w : World) (h1 : RdS 3 (FlatR anchC) w lo hi A n L) (h2 : RdS 3 (FlatR anchC) w lo' hi' A' n' M) (hh1 : hi ≤ w.heap.size) (hh2 : hi' ≤ w.heap.size) (hn : n ≤ 1000000000) (hn' : n' ≤ 1000000000) :
    Calls Tryz.prog 49 #[linV a b A n c, linV a' b' A' n' c'] w fun e w' => e = .returned (.bool t) ∧ Below w.heap.size w w' := by
  have hne : Hid ((a ≠ a' ∨ b ≠ b' ∨ L ≠ M) → t = false) := fun hor => by
    rw [ht, decide_eq_false_iff_not]; intro e; simp only [Prod.mk.injEq] at e; rcases hor with h | h | h
    · exact h e.1
    · exact h e.2.1
    · exact h e.2.2
  have hyes : Hid (a = a' → b = b' → L = M → t = true) := fun e1 e2 e3 => by rw [ht, decide_eq_true_iff, e1, e2, e3]
  clear ht
  by_cases ea : a = a'
  rotate_left
  · have hbf := hne.out (.inl ea)
    subst hbf
    have t1 : (a == a') = false := by simp [ea]
    have t2 : (a != a') = true := by simp [ea]
    clear ea h1 h2
    go_enter Tryz.func49, Tryz.ntmps49
    go_wp2_with fail
    go_ret
    exact ⟨rfl, Go.Joins.below_alloc2 _ _ _⟩
  subst ea
  by_cases eb : b = b'
  rotate_left
  · have hbf := hne.out (.inr (.inl eb))
    subst hbf
    have t1 : (b == b') = false := by simp [eb]
    have t2 : (b != b') = true := by simp [eb]
    clear eb h1 h2
    go_enter Tryz.func49, Tryz.ntmps49
    go_wp2_with fail
    go_ret
    exact ⟨rfl, Go.Joins.below_alloc2 _ _ _⟩
  subst eb
  by_cases hl : n = n'
  rotate_left
  · have hbf := hne.out (.inr (.inr (by rintro rfl; exact hl (h1.1.symm.trans h2.1))))
    have t1 : ((n : Int) == (n' : Int)) = false := by simp; omega
    have t2 : ((n : Int) != (n' : Int)) = true := by simp; omega
    subst hbf
    clear hl h1 h2
    go_enter Tryz.func49, Tryz.ntmps49
    go_wp2_with fail
    go_ret
    exact ⟨rfl, Go.Joins.below_alloc2 _ _ _⟩
  subst hl
  have hB0 : Below w.heap.size w ((w.alloc (.cells #[.int .i64 a, .int .i64 b, .slice A n c] 115 (0, 0))).alloc (.cells #[.int .i64 a, .int .i64 b, .slice A' n c'] 115 (0, 0))) := Go.Joins.below_alloc2 _ _ _
  have hnew := heap_two w (.cells #[.int .i64 a, .int .i64 b, .slice A n c] 115 (0, 0)) (.cells #[.int .i64 a, .int .i64 b, .slice A' n c'] 115 (0, 0))
  have hfin := Lib.hid (fun h => take_eq_done (n := n) h h1.1 h2.1)
  have kb : ((w.alloc (.cells #[.int .i64 a, .int .i64 b, .slice A n c] 115 (0, 0))).alloc (.cells #[.int .i64 a, .int .i64 b, .slice A' n c'] 115 (0, 0))).cell? ⟨w.heap.size, 2, none⟩ = some (.slice A n c) := by simp only [World.cell?, hnew.1]; rfl
  have mb : ((w.alloc (.cells #[.int .i64 a, .int .i64 b, .slice A n c] 115 (0, 0))).alloc (.cells #[.int .i64 a, .int .i64 b, .slice A' n c'] 115 (0, 0))).cell? ⟨w.heap.size + 1, 2, none⟩ = some (.slice A' n c') := by simp only [World.cell?, hnew.2]; rfl
  have hz0 : w.heap.size + 1 < ((w.alloc (.cells #[.int .i64 a, .int .i64 b, .slice A n c] 115 (0, 0))).alloc (.cells #[.int .i64 a, .int .i64 b, .slice A' n c'] 115 (0, 0))).heap.size := by simp
  replace h1 := Lib.hid (h1.frame (good_flat _) (Below.sameB hB0 hh1))
  replace h2 := Lib.hid (h2.frame (good_flat _) (Below.sameB hB0 hh2))
  clear hnew
  go_enter Tryz.func49, Tryz.ntmps49
  go_wp2_with fail
  generalize ((w.alloc (.cells #[.int .i64 a, .int .i64 b, .slice A n c] 115 (0, 0))).alloc (.cells #[.int .i64 a, .int .i64 b, .slice A' n c'] 115 (0, 0))) = W at hB0 kb mb hz0 h1 h2 ⊢
  go_loopw [5] (fun i wr => ∃ k q : Nat, i = .int .i64 k ∧ k ≤ n ∧ L.take k = M.take k ∧ wr = W.drewN q) (fun i wr => n - (intOf i).toNat)
  case atStart => exact ⟨0, 0, rfl, Nat.zero_le _, rfl, rfl⟩
  case round =>
      obtain ⟨k, q, rfl, hk, htk, rfl⟩ := hrel
      replace htk := Lib.hid htk
      by_cases hlt : k < n
      · obtain ⟨b1, o1, ⟨x0, x1, x2⟩, rfl, hb0, hbw, hja, hcs⟩ := h1.out.at hlt
        obtain ⟨b2, o2, ⟨y0, y1, y2⟩, rfl, hb0', hbw', hja', hcs'⟩ := h2.out.at hlt
        have q0 := hcs 0 _ rfl
        have p0 := hcs' 0 _ rfl
        have q1 := hcs 1 _ rfl
        have p1 := hcs' 1 _ rfl
        have q2 := hcs 2 _ rfl
        have p2 := hcs' 2 _ rfl
        simp only [Nat.add_zero] at q0 p0 q1 p1 q2 p2
        have hs0 := hB0.size
        have hw1 : b1 < W.heap.size := by omega
        have hw2 : b2 < W.heap.size := by omega
        have hw3 : w.heap.size < W.heap.size := by omega
        clear hcs hcs' hb0 hb0' hbw hbw' hh1 hh2 h1 h2
        have hi : (0 : Int) ≤ (k : Int) ∧ (k : Int) < (n : Int) := by omega
        by_cases e0 : x0 = y0
        rotate_left
        · have hbf : t = false := hne.out (.inr (.inr (ne_of_at hja hja' (by simp [e0]))))
          have u0 : (x0.toList == y0.toList) = false := bytes_neq e0
          subst hbf
          clear e0 hja hja'
          go_wp2_with fail
          go_quiet (fail)
          go_wp2_with fail
          go_ret
          exact ⟨rfl, hB0.trans (below_drewN (below_drewN (Below.refl _ _) _) _ |>.mono hB0.size)⟩
        subst e0
        by_cases e1 : x1 = y1
        rotate_left
        · have hbf : t = false := hne.out (.inr (.inr (ne_of_at hja hja' (by simp [e1]))))
          have t1 : (x1 == y1) = false := by simp [e1]
          subst hbf
          clear e1 hja hja'
          go_wp2_with fail
          go_quiet (fail)
          go_wp2_with fail
          go_ret
          exact ⟨rfl, hB0.trans (below_drewN (below_drewN (Below.refl _ _) _) _ |>.mono hB0.size)⟩
        subst e1
        by_cases e2 : x2 = y2
        rotate_left
        · have hbf : t = false := hne.out (.inr (.inr (ne_of_at hja hja' (by simp [e2]))))
          have t2 : (x2 == y2) = false := by simp [e2]
          subst hbf
          clear e2 hja hja'
          go_wp2_with fail
          go_quiet (fail)
          go_wp2_with fail
          go_ret
          exact ⟨rfl, hB0.trans (below_drewN (below_drewN (Below.refl _ _) _) _ |>.mono hB0.size)⟩
        subst e2
        replace hja := Lib.hid hja
        replace hja' := Lib.hid hja'
        go_wp2_with fail
        go_quiet (fail)
        go_wp2_with fail
        go_roundw
        case rel => exact ⟨k + 1, _, by go_num, by omega, take_eq_step htk.out hja.out hja'.out, rfl⟩
        case measure => simp [intOf]; omega
      · have hkn : k = n := by omega
        have hbt : t = true := hyes.out (by first | rfl | trivial) (by first | rfl | trivial) (hfin.out (by rw [← hkn]; exact htk.out))
        subst hbt
        replace hkn := Lib.hid hkn
        go_wp2_with fail
        go_ret
        exact ⟨rfl, hB0.trans (below_drewN (Below.refl _ _) _ |>.mono hB0.size)⟩

end Go.Proofs.YtgfbcbbcnineiaaGreat

