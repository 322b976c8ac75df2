/- Whether two outlines are the same: both sides. Conditions: as each states. -/
import Derived.Test.YtgfbcbbcnineiaaGreatSc10
import Derived.Test.YtgfbcbbcnineiaaGreatSc04
import Derived.Test.YtgfbcbbcnineiaaGreatSc12
namespace Go.Proofs.YtgfbcbbcnineiaaGreat
open Go.RowKit
set_option linter.unusedVariables false
set_option maxRecDepth 100000

set_option maxHeartbeats 1000000 in
theorem l10Same_any (p1 o1 p2 o2 : Nat) (A A' : Option Addr) (n c n' c' lo hi lo' hi' : Nat) (L M : List (Int × Int × Bool)) (b : Bool) (hb : b = decide (L = M)) (w : World) (hc1 : w.cell? ⟨p1, o1, none⟩ = some (.slice A n c)) (hc2 : w.cell? ⟨p2, o2, none⟩ = some (.slice A' n' c')) (h1 : RdS 3 (FlatR knotC) w lo hi A n L) (h2 : RdS 3 (FlatR knotC) w lo' hi' A' n' M) (hh1 : hi ≤ w.heap.size) (hh2 : hi' ≤ w.heap.size) (hn : n ≤ 1000000000) (hn' : n' ≤ 1000000000) :
    Calls Tryz.prog 82 #[.pointer (some ⟨p1, o1, none⟩), .pointer (some ⟨p2, o2, none⟩)] w fun e w' => e = .returned (.bool b) ∧ ∃ q, w' = w.drewN q := by
  by_cases hl : n = n'
  · subst hl
    have hfin := Lib.hid (fun h => take_eq_done (n := n) h h1.1 h2.1)
    replace hb := Lib.hid hb
    replace h1 := Lib.hid h1
    replace h2 := Lib.hid h2
    go_enter Tryz.func82, Tryz.ntmps82
    go_wp2_with fail
    go_quiet (fail)
    go_wp2_with fail
    go_loopw [5] (fun i wr => ∃ k q : Nat, i = .int .i64 k ∧ k ≤ n ∧ L.take k = M.take k ∧ wr = w.drewN q) (fun i wr => n - (intOf i).toNat)
    case atStart => exact ⟨0, _, rfl, Nat.zero_le _, rfl, rfl⟩
    case round =>
      obtain ⟨k, q, rfl, hk, htk, rfl⟩ := hrel
      replace htk := Lib.hid htk
      by_cases hlt : k < n
      · obtain ⟨b1, o1, ⟨x0, x1, x2⟩, rfl, hb0, hbw, hja, hcs⟩ := h1.out.at hlt
        obtain ⟨b2, o2, ⟨y0, y1, y2⟩, rfl, hb0', hbw', hja', hcs'⟩ := h2.out.at hlt
        have q0 := hcs 0 _ rfl
        have p0 := hcs' 0 _ rfl
        have q1 := hcs 1 _ rfl
        have p1 := hcs' 1 _ rfl
        have q2 := hcs 2 _ rfl
        have p2 := hcs' 2 _ rfl
        simp only [Nat.add_zero] at q0 p0 q1 p1 q2 p2
        have hw1 : b1 < w.heap.size := by omega
        have hw2 : b2 < w.heap.size := by omega
        clear hcs hcs' hb0 hb0' hbw hbw' hh1 hh2 h1 h2
        have hi : (0 : Int) ≤ (k : Int) ∧ (k : Int) < (n : Int) := by omega
        by_cases e0 : x0 = y0
        rotate_left
        · have hbf : b = false := by rw [hb.out, decide_eq_false_iff_not]; exact ne_of_at hja hja' (by simp [e0])
          have t0 : (x0 == y0) = false := by simp [e0]
          subst hbf
          clear e0 hja hja'
          go_wp2_with fail
          go_quiet (fail)
          go_wp2_with fail
          go_ret
          exact ⟨rfl, _, by rw [World.drewN_drewN]⟩
        subst e0
        by_cases e1 : x1 = y1
        rotate_left
        · have hbf : b = false := by rw [hb.out, decide_eq_false_iff_not]; exact ne_of_at hja hja' (by simp [e1])
          have t1 : (x1 == y1) = false := by simp [e1]
          subst hbf
          clear e1 hja hja'
          go_wp2_with fail
          go_quiet (fail)
          go_wp2_with fail
          go_ret
          exact ⟨rfl, _, by rw [World.drewN_drewN]⟩
        subst e1
        by_cases e2 : x2 = y2
        rotate_left
        · have hbf : b = false := by rw [hb.out, decide_eq_false_iff_not]; exact ne_of_at hja hja' (by simp [e2])
          have t2 : (x2 == y2) = false := by simp [e2]
          subst hbf
          clear e2 hja hja'
          go_wp2_with fail
          go_quiet (fail)
          go_wp2_with fail
          go_ret
          exact ⟨rfl, _, by rw [World.drewN_drewN]⟩
        subst e2
        replace hja := Lib.hid hja
        replace hja' := Lib.hid hja'
        go_wp2_with fail
        go_quiet (fail)
        go_wp2_with fail
        go_roundw
        case rel => exact ⟨k + 1, _, by go_num, by omega, take_eq_step htk.out hja.out hja'.out, rfl⟩
        case measure => simp [intOf]; omega
      · have hkn : k = n := by omega
        have hbt : b = true := by rw [hb.out, decide_eq_true_iff]; exact hfin.out (by rw [← hkn]; exact htk.out)
        subst hbt
        replace hkn := Lib.hid hkn
        go_wp2_with fail
        go_ret
        exact ⟨rfl, _, rfl⟩
  · have hbf : b = false := by
      rw [hb, decide_eq_false_iff_not]; rintro rfl; exact hl (h1.1.symm.trans h2.1)
    have t1 : ((n : Int) == (n' : Int)) = false := by simp; omega
    have t2 : ((n : Int) != (n' : Int)) = true := by simp; omega
    subst hbf
    clear hl h1 h2 hb
    go_enter Tryz.func82, Tryz.ntmps82
    go_wp2_with fail
    go_quiet (fail)
    go_wp2_with fail
    go_ret
    exact ⟨rfl, _, rfl⟩



theorem ne_list_at {α : Type} [DecidableEq α] {L M : List α} {k : Nat} {a b : α} (h1 : L[k]? = some a) (h2 : M[k]? = some b) (h : decide (a = b) = false) : decide (L = M) = false := by
  rw [decide_eq_false_iff_not] at *
  exact ne_of_at h1 h2 h

set_option maxHeartbeats 2000000 in
theorem specSameO_any (A A' : Option Addr) (n c n' c' lo hi lo' hi' : Nat) (L M : List (List Knot)) (b : Bool) (hb : b = decide (L = M)) (w : World) (h1 : OutRd w lo hi A n L) (h2 : OutRd w lo' hi' A' n' M) (hh1 : hi ≤ w.heap.size) (hh2 : hi' ≤ w.heap.size) (hn : n ≤ 1000000000) (hn' : n' ≤ 1000000000) (hL : ∀ K ∈ L, K.length ≤ 1000000000) (hM : ∀ K ∈ M, K.length ≤ 1000000000) :
    Calls Tryz.prog 50 #[.agg #[.slice A n c], .agg #[.slice A' n' c']] w fun e w' => e = .returned (.bool b) ∧ Below w.heap.size w w' := by
  have hnew := heap_new2 w (.cells #[.slice A n c] 54 (0, 0)) (.cells #[.slice A' n' c'] 54 (0, 0))
  have hB0 : Below w.heap.size w ((w.alloc (.cells #[.slice A n c] 54 (0, 0))).alloc (.cells #[.slice A' n' c'] 54 (0, 0))) := Go.Joins.below_alloc2 _ _ _
  have hx0 : Hid (((w.alloc (.cells #[.slice A n c] 54 (0, 0))).alloc (.cells #[.slice A' n' c'] 54 (0, 0))).cell? ⟨w.heap.size, 0, none⟩ = some (.slice A n c) ∧ ((w.alloc (.cells #[.slice A n c] 54 (0, 0))).alloc (.cells #[.slice A' n' c'] 54 (0, 0))).cell? ⟨w.heap.size + 1, 0, none⟩ = some (.slice A' n' c')) := ⟨by rw [Go.Joins.cell_of_block hnew.1]; rfl, by rw [Go.Joins.cell_of_block hnew.2]; rfl⟩
  have hz0 : w.heap.size + 2 ≤ ((w.alloc (.cells #[.slice A n c] 54 (0, 0))).alloc (.cells #[.slice A' n' c'] 54 (0, 0))).heap.size := by simp
  clear hnew
  by_cases hl : n = n'
  rotate_left
  · have hbf : b = false := by
      rw [hb, decide_eq_false_iff_not]; rintro rfl; exact hl (h1.1.symm.trans h2.1)
    have t1 : ((n : Int) == (n' : Int)) = false := by simp; omega
    have t2 : ((n : Int) != (n' : Int)) = true := by simp; omega
    subst hbf
    clear hl h1 h2 hb hx0
    go_enter Tryz.func50, Tryz.ntmps50
    go_wp2_with fail
    go_ret
    exact ⟨rfl, hB0⟩
  subst hl
  have hfin := Lib.hid (fun h => take_eq_done (n := n) h h1.1 h2.1)
  replace hb := Lib.hid hb
  replace h1 := Lib.hid h1
  replace h2 := Lib.hid h2
  replace hL := Lib.hid hL
  replace hM := Lib.hid hM
  go_enter Tryz.func50, Tryz.ntmps50
  go_wp2_with fail
  go_loopw [5] (fun i wr => ∃ k : Nat, i = .int .i64 k ∧ k ≤ n ∧ L.take k = M.take k ∧ Below w.heap.size w wr ∧ w.heap.size + 2 ≤ wr.heap.size ∧ Hid (wr.cell? ⟨w.heap.size, 0, none⟩ = some (.slice A n c) ∧ wr.cell? ⟨w.heap.size + 1, 0, none⟩ = some (.slice A' n c'))) (fun i wr => n - (intOf i).toNat)
  case atStart => exact ⟨0, rfl, Nat.zero_le _, rfl, hB0, hz0, hx0⟩
  case round =>
    clear hB0 hz0 hx0
    obtain ⟨k, rfl, hk, htk, hbel, hsz, hxc⟩ := hrel
    obtain ⟨x0, x1⟩ := hxc.out
    replace htk := Lib.hid htk
    by_cases hlt : k < n
    · obtain ⟨b1, f1, K1, A1, n1, c1, rfl, hb0, hb1, hja, q0, hm, hr1⟩ := out_at (h1.out.frame good_loop (Below.sameB hbel hh1)) hlt
      obtain ⟨b2, f2, K2, A2, n2, c2, rfl, hb0', hb2, hja', q0', hm', hr2⟩ := out_at (h2.out.frame good_loop (Below.sameB hbel hh2)) hlt
      have hl1 := hL.out K1 (List.mem_of_getElem? hja)
      have hl2 := hM.out K2 (List.mem_of_getElem? hja')
      rw [hr1.1] at hl1
      rw [hr2.1] at hl2
      obtain ⟨t, ht⟩ : ∃ t, t = decide (K1 = K2) := ⟨_, rfl⟩
      have hcall := Lib.hid (fun W (hS : SameB 0 wr.heap.size wr W) (hs : wr.heap.size ≤ W.heap.size) => l10Same_any b1 (f1 + k) b2 (f2 + k) A1 A2 n1 c1 n2 c2 lo hi lo' hi' K1 K2 t ht W ((hS.cell (Nat.zero_le _) (by simp; omega)).trans q0) ((hS.cell (Nat.zero_le _) (by simp; omega)).trans q0') (hr1.frame (good_flat _) (hS.mono (Nat.zero_le _) (by omega))) (hr2.frame (good_flat _) (hS.mono (Nat.zero_le _) (by omega))) (by omega) (by omega) hl1 hl2)
      have hbw : b1 < wr.heap.size := by omega
      have hbw' : b2 < wr.heap.size := by omega
      have hw0 : w.heap.size < wr.heap.size := by omega
      have hw1 : w.heap.size + 1 < wr.heap.size := by omega
      have hi : (0 : Int) ≤ (k : Int) ∧ (k : Int) < (n : Int) := by omega
      have hno := Lib.hid (fun h => ne_list_at hja hja' h)
      have hst := Lib.hid (fun (h : K1 = K2) => take_eq_step htk.out hja (h ▸ hja'))
      clear hr1 hr2 hm hm' hja hja' hb0 hb0' hl1 hl2 q0 q0'
      replace ht := Lib.hid ht
      go_wp2_with fail
      go_still_tail 8, (by kernel_rfl)
      go_wp2_with fail
      refine (hcall.out _ (SameB.refl _ _ wr).drew (Nat.le_refl _)).mono ?_
      rintro e w1 ⟨rfl, nq, rfl⟩
      have hbel1 : Below w.heap.size w (wr.drewN (1 + nq)) := below_drewN hbel _
      cases t with
      | false =>
        have hbf : b = false := by rw [hb.out]; exact hno.out ht.out.symm
        subst hbf
        go_wp2_with fail
        go_ret
        exact ⟨rfl, hbel1⟩
      | true =>
        go_wp2_with fail
        go_roundw
        case rel => exact ⟨k + 1, by go_num, by omega, hst.out (of_decide_eq_true ht.out.symm), hbel1, hsz, hxc⟩
        case measure => simp [intOf]; omega
    · have hkn : k = n := by omega
      have hbt : b = true := by rw [hb.out, decide_eq_true_iff]; exact hfin.out (by rw [← hkn]; exact htk.out)
      subst hbt
      replace hkn := Lib.hid hkn
      go_wp2_with fail
      go_ret
      exact ⟨rfl, hbel⟩

/-! ### the program's side -/
theorem sameLoop_any (A A' : Option Addr) (n c n' c' lo hi lo' hi' : Nat) (L M : List Knot) (b : Bool) (hb : b = decide (L = M)) (w : World) (h1 : RdS 3 (FlatR knotC) w lo hi A n L) (h2 : RdS 3 (FlatR knotC) w lo' hi' A' n' M) (hh1 : hi ≤ w.heap.size) (hh2 : hi' ≤ w.heap.size) (hn : n ≤ 1000000000) (hn' : n' ≤ 1000000000) :
    Calls Tryz.prog 91 #[.agg #[.slice A n c], .agg #[.slice A' n' c']] w fun e w' => e = .returned (.bool b) ∧ Below w.heap.size w w' := by
  have hc := Lib.hid (fun x y => equalKnot_any A A' n c n' c' lo hi lo' hi' L M b hb ((w.alloc x).alloc y) (h1.frame (good_flat _) (((SameB.refl _ _ w).alloc hh1 _).alloc (by simp; omega) _)) (h2.frame (good_flat _) (((SameB.refl _ _ w).alloc hh2 _).alloc (by simp; omega) _)) (by simp; omega) (by simp; omega) hn hn')
  clear h1 h2 hb
  go_enter Tryz.func91, Tryz.ntmps91
  go_wp2_with fail
  refine (hc.out _ _).mono ?_
  rintro e w1 ⟨rfl, nq, rfl⟩
  go_wp2_with fail
  go_ret
  exact ⟨rfl, below_drewN (Go.Joins.below_alloc2 _ _ _) _⟩

set_option maxHeartbeats 2000000 in
theorem equalFLoop_any (A A' : Option Addr) (n c n' c' lo hi lo' hi' : Nat) (L M : List (List Knot)) (b : Bool) (hb : b = decide (L = M)) (w : World) (h1 : OutRd w lo hi A n L) (h2 : OutRd w lo' hi' A' n' M) (hh1 : hi ≤ w.heap.size) (hh2 : hi' ≤ w.heap.size) (hn : n ≤ 1000000000) (hn' : n' ≤ 1000000000) (hL : ∀ K ∈ L, K.length ≤ 1000000000) (hM : ∀ K ∈ M, K.length ≤ 1000000000) :
    Calls Tryz.prog 90 #[.slice A n c, .slice A' n' c', .func (.func 91) #[] #[]] w fun e w' => e = .returned (.bool b) ∧ Below w.heap.size w w' := by
  by_cases hl : n = n'
  rotate_left
  · have hbf : b = false := by
      rw [hb, decide_eq_false_iff_not]; rintro rfl; exact hl (h1.1.symm.trans h2.1)
    have t1 : ((n : Int) == (n' : Int)) = false := by simp; omega
    have t2 : ((n : Int) != (n' : Int)) = true := by simp; omega
    subst hbf
    clear hl h1 h2 hb
    go_enter Tryz.func90, Tryz.ntmps90
    go_wp2_with fail
    go_ret
    exact ⟨rfl, Below.refl _ _⟩
  subst hl
  have hfin := Lib.hid (fun h => take_eq_done (n := n) h h1.1 h2.1)
  replace hb := Lib.hid hb
  replace h1 := Lib.hid h1
  replace h2 := Lib.hid h2
  replace hL := Lib.hid hL
  replace hM := Lib.hid hM
  go_enter Tryz.func90, Tryz.ntmps90
  go_wp2_with fail
  go_loopw [17] (fun i wr => ∃ k : Nat, i = .int .i64 k ∧ k ≤ n ∧ L.take k = M.take k ∧ Below w.heap.size w wr) (fun i wr => n - (intOf i).toNat)
  case atStart => exact ⟨0, rfl, Nat.zero_le _, rfl, Below.refl _ _⟩
  case round =>
    obtain ⟨k, rfl, hk, htk, hbel⟩ := hrel
    replace htk := Lib.hid htk
    have hsz := hbel.size
    by_cases hlt : k < n
    · obtain ⟨b1, f1, K1, A1, n1, c1, rfl, hb0, hb1, hja, q0, hm, hr1⟩ := out_at (h1.out.frame good_loop (Below.sameB hbel hh1)) hlt
      obtain ⟨b2, f2, K2, A2, n2, c2, rfl, hb0', hb2, hja', q0', hm', hr2⟩ := out_at (h2.out.frame good_loop (Below.sameB hbel hh2)) hlt
      have hl1 := hL.out K1 (List.mem_of_getElem? hja)
      have hl2 := hM.out K2 (List.mem_of_getElem? hja')
      rw [hr1.1] at hl1
      rw [hr2.1] at hl2
      obtain ⟨t, ht⟩ : ∃ t, t = decide (K1 = K2) := ⟨_, rfl⟩
      have hcall := Lib.hid (fun x y => sameLoop_any A1 A2 n1 c1 n2 c2 lo hi lo' hi' K1 K2 t ht ((wr.alloc x).alloc y) (hr1.frame (good_flat _) (((SameB.refl _ _ wr).alloc (by omega) _).alloc (by simp; omega) _)) (hr2.frame (good_flat _) (((SameB.refl _ _ wr).alloc (by omega) _).alloc (by simp; omega) _)) (by simp; omega) (by simp; omega) hl1 hl2)
      have hbw : b1 < wr.heap.size := by omega
      have hbw' : b2 < wr.heap.size := by omega
      have hno := Lib.hid (fun h => ne_list_at hja hja' h)
      have hst := Lib.hid (fun (h : K1 = K2) => take_eq_step htk.out hja (h ▸ hja'))
      clear hr1 hr2 hm hm' hja hja' hb0 hb0' hl1 hl2
      replace ht := Lib.hid ht
      go_wp2_with fail
      refine (hcall.out _ _).mono ?_
      rintro e w1 ⟨rfl, hb1⟩
      have hbel1 : Below w.heap.size w w1 := ((hbel.alloc hbel.size _).alloc (by simp; omega) _).trans (hb1.mono (by simp; omega))
      cases t with
      | false =>
        have hbf : b = false := by rw [hb.out]; exact hno.out ht.out.symm
        subst hbf
        go_wp2_with fail
        go_ret
        exact ⟨rfl, hbel1⟩
      | true =>
        go_wp2_with fail
        go_roundw
        case rel => exact ⟨k + 1, by go_num, by omega, hst.out (of_decide_eq_true ht.out.symm), hbel1⟩
        case measure => simp [intOf]; omega
    · have hkn : k = n := by omega
      have hbt : b = true := by rw [hb.out, decide_eq_true_iff]; exact hfin.out (by rw [← hkn]; exact htk.out)
      subst hbt
      replace hkn := Lib.hid hkn
      go_wp2_with fail
      go_ret
      exact ⟨rfl, hbel⟩
theorem implSameO_any (A A' : Option Addr) (n c n' c' lo hi lo' hi' : Nat) (L M : List (List Knot)) (b : Bool) (hb : b = decide (L = M)) (w : World) (h1 : OutRd w lo hi A n L) (h2 : OutRd w lo' hi' A' n' M) (hh1 : hi ≤ w.heap.size) (hh2 : hi' ≤ w.heap.size) (hn : n ≤ 1000000000) (hn' : n' ≤ 1000000000) (hL : ∀ K ∈ L, K.length ≤ 1000000000) (hM : ∀ K ∈ M, K.length ≤ 1000000000) :
    Calls Tryz.prog 64 #[.agg #[.slice A n c], .agg #[.slice A' n' c']] w fun e w' => e = .returned (.bool b) ∧ Below w.heap.size w w' := by
  have hc := Lib.hid (fun x y => equalFLoop_any A A' n c n' c' lo hi lo' hi' L M b hb ((w.alloc x).alloc y) (h1.frame good_loop (((SameB.refl _ _ w).alloc hh1 _).alloc (by simp; omega) _)) (h2.frame good_loop (((SameB.refl _ _ w).alloc hh2 _).alloc (by simp; omega) _)) (by simp; omega) (by simp; omega) hn hn' hL hM)
  clear h1 h2 hb hL hM
  go_enter Tryz.func64, Tryz.ntmps64
  go_wp2_with fail
  refine (hc.out _ _).mono ?_
  rintro e w1 ⟨rfl, hb1⟩
  go_wp2_with fail
  go_ret
  exact ⟨rfl, (Go.Joins.below_alloc2 _ _ _).trans (hb1.mono (by simp; omega))⟩

end Go.Proofs.YtgfbcbbcnineiaaGreat

