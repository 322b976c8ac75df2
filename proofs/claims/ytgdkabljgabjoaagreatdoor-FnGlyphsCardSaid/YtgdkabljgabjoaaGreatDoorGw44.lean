/- Whether two outlines are the same: both sides. Conditions: as each states. -/
import Derived.BigQuiet
import Derived.Lib.QuietBelow
import Derived.Test.YtgdkabljgabjoaaGreatDoorGw06
import Derived.Test.YtgdkabljgabjoaaGreatDoorGw12
import Derived.Test.YtgdkabljgabjoaaGreatDoorGw03
import Derived.Test.YtgdkabljgabjoaaGreatDoorGw25
namespace Go.Proofs.YtgdkabljgabjoaaGreatDoor
open Go.RowKit
set_option linter.unusedVariables false
set_option maxRecDepth 100000

set_option maxHeartbeats 1000000 in
theorem l10Same_any (p1 o1 p2 o2 : Nat) (A A' : Option Addr) (n c n' c' lo hi lo' hi' : Nat) (L M : List (Int × Int × Bool)) (b : Bool) (hb : b = decide (L = M)) (w : World) (hc1 : w.cell? ⟨p1, o1, none⟩ = some (.slice A n c)) (hc2 : w.cell? ⟨p2, o2, none⟩ = some (.slice A' n' c')) (h1 : RdS 3 (FlatR knotC) w lo hi A n L) (h2 : RdS 3 (FlatR knotC) w lo' hi' A' n' M) (hh1 : hi ≤ w.heap.size) (hh2 : hi' ≤ w.heap.size) (hn : n ≤ 1000000000) (hn' : n' ≤ 1000000000) :
    Calls Tryz.prog 136 #[.pointer (some ⟨p1, o1, none⟩), .pointer (some ⟨p2, o2, none⟩)] w fun e w' => e = .returned (.bool b) ∧ ∃ q, w' = w.drewN q := by
  by_cases hl : n = n'
  · subst hl
    have hfin := Lib.hid (fun h => take_eq_done (n := n) h h1.1 h2.1)
    replace hb := Lib.hid hb
    replace h1 := Lib.hid h1
    replace h2 := Lib.hid h2
    go_enter Tryz.func136, Tryz.ntmps136
    go_wp2_with fail
    go_quiet (fail)
    go_wp2_with fail
    go_loopw [5] (fun i wr => ∃ k q : Nat, i = .int .i64 k ∧ k ≤ n ∧ L.take k = M.take k ∧ wr = w.drewN q) (fun i wr => n - (intOf i).toNat)
    case atStart => exact ⟨0, _, rfl, Nat.zero_le _, rfl, rfl⟩
    case round =>
      obtain ⟨k, q, rfl, hk, htk, rfl⟩ := hrel
      replace htk := Lib.hid htk
      by_cases hlt : k < n
      · obtain ⟨b1, o1, ⟨x0, x1, x2⟩, rfl, hb0, hbw, hja, hcs⟩ := h1.out.at hlt
        obtain ⟨b2, o2, ⟨y0, y1, y2⟩, rfl, hb0', hbw', hja', hcs'⟩ := h2.out.at hlt
        have q0 := hcs 0 _ rfl
        have p0 := hcs' 0 _ rfl
        have q1 := hcs 1 _ rfl
        have p1 := hcs' 1 _ rfl
        have q2 := hcs 2 _ rfl
        have p2 := hcs' 2 _ rfl
        simp only [Nat.add_zero] at q0 p0 q1 p1 q2 p2
        have hw1 : b1 < w.heap.size := by omega
        have hw2 : b2 < w.heap.size := by omega
        clear hcs hcs' hb0 hb0' hbw hbw' hh1 hh2 h1 h2
        have hi : (0 : Int) ≤ (k : Int) ∧ (k : Int) < (n : Int) := by omega
        by_cases e0 : x0 = y0
        rotate_left
        · have hbf : b = false := by rw [hb.out, decide_eq_false_iff_not]; exact ne_of_at hja hja' (by simp [e0])
          have t0 : (x0 == y0) = false := by simp [e0]
          subst hbf
          clear e0 hja hja'
          go_wp2_with fail
          go_quiet (fail)
          go_wp2_with fail
          go_ret
          exact ⟨rfl, _, by rw [World.drewN_drewN]⟩
        subst e0
        by_cases e1 : x1 = y1
        rotate_left
        · have hbf : b = false := by rw [hb.out, decide_eq_false_iff_not]; exact ne_of_at hja hja' (by simp [e1])
          have t1 : (x1 == y1) = false := by simp [e1]
          subst hbf
          clear e1 hja hja'
          go_wp2_with fail
          go_quiet (fail)
          go_wp2_with fail
          go_ret
          exact ⟨rfl, _, by rw [World.drewN_drewN]⟩
        subst e1
        by_cases e2 : x2 = y2
        rotate_left
        · have hbf : b = false := by rw [hb.out, decide_eq_false_iff_not]; exact ne_of_at hja hja' (by simp [e2])
          have t2 : (x2 == y2) = false := by simp [e2]
          subst hbf
          clear e2 hja hja'
          go_wp2_with fail
          go_quiet (fail)
          go_wp2_with fail
          go_ret
          exact ⟨rfl, _, by rw [World.drewN_drewN]⟩
        subst e2
        replace hja := Lib.hid hja
        replace hja' := Lib.hid hja'
        go_wp2_with fail
        go_quiet (fail)
        go_wp2_with fail
        go_roundw
        case rel => exact ⟨k + 1, _, by go_num, by omega, take_eq_step htk.out hja.out hja'.out, rfl⟩
        case measure => simp [intOf]; omega
      · have hkn : k = n := by omega
        have hbt : b = true := by rw [hb.out, decide_eq_true_iff]; exact hfin.out (by rw [← hkn]; exact htk.out)
        subst hbt
        replace hkn := Lib.hid hkn
        go_wp2_with fail
        go_ret
        exact ⟨rfl, _, rfl⟩
  · have hbf : b = false := by
      rw [hb, decide_eq_false_iff_not]; rintro rfl; exact hl (h1.1.symm.trans h2.1)
    have t1 : ((n : Int) == (n' : Int)) = false := by simp; omega
    have t2 : ((n : Int) != (n' : Int)) = true := by simp; omega
    subst hbf
    clear hl h1 h2 hb
    go_enter Tryz.func136, Tryz.ntmps136
    go_wp2_with fail
    go_quiet (fail)
    go_wp2_with fail
    go_ret
    exact ⟨rfl, _, rfl⟩



theorem ne_list_at {α : Type} [DecidableEq α] {L M : List α} {k : Nat} {a b : α} (h1 : L[k]? = some a) (h2 : M[k]? = some b) (h : decide (a = b) = false) : decide (L = M) = false := by
  rw [decide_eq_false_iff_not] at *
  exact ne_of_at h1 h2 h

set_option maxHeartbeats 2000000 in
theorem specSameO_any (A A' : Option Addr) (n c n' c' lo hi lo' hi' : Nat) (L M : List (List Knot)) (b : Bool) (hb : b = decide (L = M)) (w : World) (h1 : OutRd w lo hi A n L) (h2 : OutRd w lo' hi' A' n' M) (hh1 : hi ≤ w.heap.size) (hh2 : hi' ≤ w.heap.size) (hn : n ≤ 1000000000) (hn' : n' ≤ 1000000000) (hL : ∀ K ∈ L, K.length ≤ 1000000000) (hM : ∀ K ∈ M, K.length ≤ 1000000000) :
    Calls Tryz.prog 100 #[.agg #[.slice A n c], .agg #[.slice A' n' c']] w fun e w' => e = .returned (.bool b) ∧ Below w.heap.size w w' := by
  have hnew := heap_new2 w (.cells #[.slice A n c] 24 (0, 0)) (.cells #[.slice A' n' c'] 24 (0, 0))
  have hB0 : Below w.heap.size w ((w.alloc (.cells #[.slice A n c] 24 (0, 0))).alloc (.cells #[.slice A' n' c'] 24 (0, 0))) := Go.Joins.below_alloc2 _ _ _
  have hx0 : Hid (((w.alloc (.cells #[.slice A n c] 24 (0, 0))).alloc (.cells #[.slice A' n' c'] 24 (0, 0))).cell? ⟨w.heap.size, 0, none⟩ = some (.slice A n c) ∧ ((w.alloc (.cells #[.slice A n c] 24 (0, 0))).alloc (.cells #[.slice A' n' c'] 24 (0, 0))).cell? ⟨w.heap.size + 1, 0, none⟩ = some (.slice A' n' c')) := ⟨by rw [Go.Joins.cell_of_block hnew.1]; rfl, by rw [Go.Joins.cell_of_block hnew.2]; rfl⟩
  have hz0 : w.heap.size + 2 ≤ ((w.alloc (.cells #[.slice A n c] 24 (0, 0))).alloc (.cells #[.slice A' n' c'] 24 (0, 0))).heap.size := by simp
  clear hnew
  by_cases hl : n = n'
  rotate_left
  · have hbf : b = false := by
      rw [hb, decide_eq_false_iff_not]; rintro rfl; exact hl (h1.1.symm.trans h2.1)
    have t1 : ((n : Int) == (n' : Int)) = false := by simp; omega
    have t2 : ((n : Int) != (n' : Int)) = true := by simp; omega
    subst hbf
    clear hl h1 h2 hb hx0
    go_enter Tryz.func100, Tryz.ntmps100
    go_wp2_with fail
    go_ret
    exact ⟨rfl, hB0⟩
  subst hl
  have hfin := Lib.hid (fun h => take_eq_done (n := n) h h1.1 h2.1)
  replace hb := Lib.hid hb
  replace h1 := Lib.hid h1
  replace h2 := Lib.hid h2
  replace hL := Lib.hid hL
  replace hM := Lib.hid hM
  go_enter Tryz.func100, Tryz.ntmps100
  go_wp2_with fail
  go_loopw [5] (fun i wr => ∃ k : Nat, i = .int .i64 k ∧ k ≤ n ∧ L.take k = M.take k ∧ Below w.heap.size w wr ∧ w.heap.size + 2 ≤ wr.heap.size ∧ Hid (wr.cell? ⟨w.heap.size, 0, none⟩ = some (.slice A n c) ∧ wr.cell? ⟨w.heap.size + 1, 0, none⟩ = some (.slice A' n c'))) (fun i wr => n - (intOf i).toNat)
  case atStart => exact ⟨0, rfl, Nat.zero_le _, rfl, hB0, hz0, hx0⟩
  case round =>
    clear hB0 hz0 hx0
    obtain ⟨k, rfl, hk, htk, hbel, hsz, hxc⟩ := hrel
    obtain ⟨x0, x1⟩ := hxc.out
    replace htk := Lib.hid htk
    by_cases hlt : k < n
    · obtain ⟨b1, f1, K1, A1, n1, c1, rfl, hb0, hb1, hja, q0, hm, hr1⟩ := out_at (h1.out.frame good_loop (Below.sameB hbel hh1)) hlt
      obtain ⟨b2, f2, K2, A2, n2, c2, rfl, hb0', hb2, hja', q0', hm', hr2⟩ := out_at (h2.out.frame good_loop (Below.sameB hbel hh2)) hlt
      have hl1 := hL.out K1 (List.mem_of_getElem? hja)
      have hl2 := hM.out K2 (List.mem_of_getElem? hja')
      rw [hr1.1] at hl1
      rw [hr2.1] at hl2
      obtain ⟨t, ht⟩ : ∃ t, t = decide (K1 = K2) := ⟨_, rfl⟩
      have hcall := Lib.hid (fun W (hS : SameB 0 wr.heap.size wr W) (hs : wr.heap.size ≤ W.heap.size) => l10Same_any b1 (f1 + k) b2 (f2 + k) A1 A2 n1 c1 n2 c2 lo hi lo' hi' K1 K2 t ht W ((hS.cell (Nat.zero_le _) (by simp; omega)).trans q0) ((hS.cell (Nat.zero_le _) (by simp; omega)).trans q0') (hr1.frame (good_flat _) (hS.mono (Nat.zero_le _) (by omega))) (hr2.frame (good_flat _) (hS.mono (Nat.zero_le _) (by omega))) (by omega) (by omega) hl1 hl2)
      have hbw : b1 < wr.heap.size := by omega
      have hbw' : b2 < wr.heap.size := by omega
      have hw0 : w.heap.size < wr.heap.size := by omega
      have hw1 : w.heap.size + 1 < wr.heap.size := by omega
      have hi : (0 : Int) ≤ (k : Int) ∧ (k : Int) < (n : Int) := by omega
      have hno := Lib.hid (fun h => ne_list_at hja hja' h)
      have hst := Lib.hid (fun (h : K1 = K2) => take_eq_step htk.out hja (h ▸ hja'))
      clear hr1 hr2 hm hm' hja hja' hb0 hb0' hl1 hl2 q0 q0'
      replace ht := Lib.hid ht
      go_wp2_with fail
      go_still_tail 8, (by kernel_rfl)
      go_wp2_with fail
      refine (hcall.out _ (SameB.refl _ _ wr).drew (Nat.le_refl _)).mono ?_
      rintro e w1 ⟨rfl, nq, rfl⟩
      have hbel1 : Below w.heap.size w (wr.drewN (1 + nq)) := below_drewN hbel _
      cases t with
      | false =>
        have hbf : b = false := by rw [hb.out]; exact hno.out ht.out.symm
        subst hbf
        go_wp2_with fail
        go_ret
        exact ⟨rfl, hbel1⟩
      | true =>
        go_wp2_with fail
        go_roundw
        case rel => exact ⟨k + 1, by go_num, by omega, hst.out (of_decide_eq_true ht.out.symm), hbel1, hsz, hxc⟩
        case measure => simp [intOf]; omega
    · have hkn : k = n := by omega
      have hbt : b = true := by rw [hb.out, decide_eq_true_iff]; exact hfin.out (by rw [← hkn]; exact htk.out)
      subst hbt
      replace hkn := Lib.hid hkn
      go_wp2_with fail
      go_ret
      exact ⟨rfl, hbel⟩

/-! ### the program's side -/
end Go.Proofs.YtgdkabljgabjoaaGreatDoor

/- Whether two glyphs are the same: both sides. Conditions: as each states. -/
namespace Go.Proofs.YtgdkabljgabjoaaGreatDoor
open Go.RowKit
set_option linter.unusedVariables false
set_option maxRecDepth 100000

theorem gl_neq (x0 y0 : ByteArray) (x1 y1 x2 y2 : Int) (x3 y3 : List (List Knot)) (x4 y4 : List Part) (x5 y5 : List Anch) (x6 y6 : ByteArray) (A3 B3 A4 B4 A5 B5 : Option Addr) (n3 c3 m3 k3 n4 c4 m4 k4 n5 c5 m5 k5 lo hi lo' hi' : Nat) (f : Nat) (h : match f with | 0 => x0 ≠ y0 | 1 => x1 ≠ y1 | 2 => x2 ≠ y2 | 3 => x3 ≠ y3 | 4 => x4 ≠ y4 | 5 => x5 ≠ y5 | 6 => x6 ≠ y6 | _ => False) : decide ((⟨x0, x1, x2, x3, x4, x5, x6⟩ : Gl) = ⟨y0, y1, y2, y3, y4, y5, y6⟩) = false := by
  rw [decide_eq_false_iff_not]
  intro e
  simp only [Gl.mk.injEq] at e
  obtain ⟨e0, e1, e2, e3, e4, e5, e6⟩ := e
  match f, h with
  | 0, h => exact h e0
  | 1, h => exact h e1
  | 2, h => exact h e2
  | 3, h => exact h e3
  | 4, h => exact h e4
  | 5, h => exact h e5
  | 6, h => exact h e6

set_option maxHeartbeats 2000000 in
theorem l17Same_n0 (p1 o1 p2 o2 : Nat) (x0 y0 : ByteArray) (x1 y1 x2 y2 : Int) (x6 y6 : ByteArray) (A3 B3 A4 B4 A5 B5 : Option Addr) (n3 c3 m3 k3 n4 c4 m4 k4 n5 c5 m5 k5 : Nat) (w : World)
    (q0 : w.cell? ⟨p1, o1, none⟩ = some (.string x0)) (r0 : w.cell? ⟨p2, o2, none⟩ = some (.string y0))
    (q1 : w.cell? ⟨p1, o1 + 1, none⟩ = some (.int .i64 x1)) (r1 : w.cell? ⟨p2, o2 + 1, none⟩ = some (.int .i64 y1))
    (q2 : w.cell? ⟨p1, o1 + 2, none⟩ = some (.int .i64 x2)) (r2 : w.cell? ⟨p2, o2 + 2, none⟩ = some (.int .i64 y2))
    (q3 : w.cell? ⟨p1, o1 + 3, none⟩ = some (.slice A3 n3 c3)) (r3 : w.cell? ⟨p2, o2 + 3, none⟩ = some (.slice B3 m3 k3))
    (q4 : w.cell? ⟨p1, o1 + 4, none⟩ = some (.slice A4 n4 c4)) (r4 : w.cell? ⟨p2, o2 + 4, none⟩ = some (.slice B4 m4 k4))
    (q5 : w.cell? ⟨p1, o1 + 5, none⟩ = some (.slice A5 n5 c5)) (r5 : w.cell? ⟨p2, o2 + 5, none⟩ = some (.slice B5 m5 k5))
    (q6 : w.cell? ⟨p1, o1 + 6, none⟩ = some (.string x6)) (r6 : w.cell? ⟨p2, o2 + 6, none⟩ = some (.string y6))
     (e0 : x0 ≠ y0) :
    Calls Tryz.prog 57 #[.pointer (some ⟨p1, o1, none⟩), .pointer (some ⟨p2, o2, none⟩)] w fun e w' => e = .returned (.bool false) ∧ Below w.heap.size w w' := by

  have u0 : (x0.toList == y0.toList) = false := bytes_neq e0
  clear e0
  go_enter Tryz.func57, Tryz.ntmps57
  go_wp2_with fail
  refine wp_region_quiet_lit (by kernel_rfl) (by kernel_rfl) ?_
  simp only [List.append]
  repeat (go_big_quiet_step (fail))
  refine wpQuiet_nil ?_
  intro _ hw'
  obtain ⟨nq, hw''⟩ := hw'
  subst hw''
  go_wp2_with fail
  go_ret
  exact ⟨rfl, below_drewN (Below.refl _ _) _⟩

set_option maxHeartbeats 2000000 in
theorem l17Same_n1 (p1 o1 p2 o2 : Nat) (x0 y0 : ByteArray) (x1 y1 x2 y2 : Int) (x6 y6 : ByteArray) (A3 B3 A4 B4 A5 B5 : Option Addr) (n3 c3 m3 k3 n4 c4 m4 k4 n5 c5 m5 k5 : Nat) (w : World)
    (q0 : w.cell? ⟨p1, o1, none⟩ = some (.string x0)) (r0 : w.cell? ⟨p2, o2, none⟩ = some (.string y0))
    (q1 : w.cell? ⟨p1, o1 + 1, none⟩ = some (.int .i64 x1)) (r1 : w.cell? ⟨p2, o2 + 1, none⟩ = some (.int .i64 y1))
    (q2 : w.cell? ⟨p1, o1 + 2, none⟩ = some (.int .i64 x2)) (r2 : w.cell? ⟨p2, o2 + 2, none⟩ = some (.int .i64 y2))
    (q3 : w.cell? ⟨p1, o1 + 3, none⟩ = some (.slice A3 n3 c3)) (r3 : w.cell? ⟨p2, o2 + 3, none⟩ = some (.slice B3 m3 k3))
    (q4 : w.cell? ⟨p1, o1 + 4, none⟩ = some (.slice A4 n4 c4)) (r4 : w.cell? ⟨p2, o2 + 4, none⟩ = some (.slice B4 m4 k4))
    (q5 : w.cell? ⟨p1, o1 + 5, none⟩ = some (.slice A5 n5 c5)) (r5 : w.cell? ⟨p2, o2 + 5, none⟩ = some (.slice B5 m5 k5))
    (q6 : w.cell? ⟨p1, o1 + 6, none⟩ = some (.string x6)) (r6 : w.cell? ⟨p2, o2 + 6, none⟩ = some (.string y6))
    (e0 : x0 = y0) (e1 : x1 ≠ y1) :
    Calls Tryz.prog 57 #[.pointer (some ⟨p1, o1, none⟩), .pointer (some ⟨p2, o2, none⟩)] w fun e w' => e = .returned (.bool false) ∧ Below w.heap.size w w' := by
  subst e0
  have u1 : (x1 == y1) = false := by simp [e1]
  have v1 : (x1 != y1) = true := by simp [e1]
  clear e1
  go_enter Tryz.func57, Tryz.ntmps57
  go_wp2_with fail
  refine wp_region_quiet_lit (by kernel_rfl) (by kernel_rfl) ?_
  simp only [List.append]
  repeat (go_big_quiet_step (fail))
  refine wpQuiet_nil ?_
  intro _ hw'
  obtain ⟨nq, hw''⟩ := hw'
  subst hw''
  go_wp2_with fail
  go_ret
  exact ⟨rfl, below_drewN (Below.refl _ _) _⟩

set_option maxHeartbeats 2000000 in
theorem l17Same_n2 (p1 o1 p2 o2 : Nat) (x0 y0 : ByteArray) (x1 y1 x2 y2 : Int) (x6 y6 : ByteArray) (A3 B3 A4 B4 A5 B5 : Option Addr) (n3 c3 m3 k3 n4 c4 m4 k4 n5 c5 m5 k5 : Nat) (w : World)
    (q0 : w.cell? ⟨p1, o1, none⟩ = some (.string x0)) (r0 : w.cell? ⟨p2, o2, none⟩ = some (.string y0))
    (q1 : w.cell? ⟨p1, o1 + 1, none⟩ = some (.int .i64 x1)) (r1 : w.cell? ⟨p2, o2 + 1, none⟩ = some (.int .i64 y1))
    (q2 : w.cell? ⟨p1, o1 + 2, none⟩ = some (.int .i64 x2)) (r2 : w.cell? ⟨p2, o2 + 2, none⟩ = some (.int .i64 y2))
    (q3 : w.cell? ⟨p1, o1 + 3, none⟩ = some (.slice A3 n3 c3)) (r3 : w.cell? ⟨p2, o2 + 3, none⟩ = some (.slice B3 m3 k3))
    (q4 : w.cell? ⟨p1, o1 + 4, none⟩ = some (.slice A4 n4 c4)) (r4 : w.cell? ⟨p2, o2 + 4, none⟩ = some (.slice B4 m4 k4))
    (q5 : w.cell? ⟨p1, o1 + 5, none⟩ = some (.slice A5 n5 c5)) (r5 : w.cell? ⟨p2, o2 + 5, none⟩ = some (.slice B5 m5 k5))
    (q6 : w.cell? ⟨p1, o1 + 6, none⟩ = some (.string x6)) (r6 : w.cell? ⟨p2, o2 + 6, none⟩ = some (.string y6))
    (e0 : x0 = y0) (e1 : x1 = y1) (e2 : x2 ≠ y2) :
    Calls Tryz.prog 57 #[.pointer (some ⟨p1, o1, none⟩), .pointer (some ⟨p2, o2, none⟩)] w fun e w' => e = .returned (.bool false) ∧ Below w.heap.size w w' := by
  subst e0
  subst e1
  have u2 : (x2 == y2) = false := by simp [e2]
  have v2 : (x2 != y2) = true := by simp [e2]
  clear e2
  go_enter Tryz.func57, Tryz.ntmps57
  go_wp2_with fail
  refine wp_region_quiet_lit (by kernel_rfl) (by kernel_rfl) ?_
  simp only [List.append]
  repeat (go_big_quiet_step (fail))
  refine wpQuiet_nil ?_
  intro _ hw'
  obtain ⟨nq, hw''⟩ := hw'
  subst hw''
  go_wp2_with fail
  go_ret
  exact ⟨rfl, below_drewN (Below.refl _ _) _⟩

set_option maxHeartbeats 2000000 in
theorem l17Same_n6 (p1 o1 p2 o2 : Nat) (x0 y0 : ByteArray) (x1 y1 x2 y2 : Int) (x6 y6 : ByteArray) (A3 B3 A4 B4 A5 B5 : Option Addr) (n3 c3 m3 k3 n4 c4 m4 k4 n5 c5 m5 k5 : Nat) (w : World)
    (q0 : w.cell? ⟨p1, o1, none⟩ = some (.string x0)) (r0 : w.cell? ⟨p2, o2, none⟩ = some (.string y0))
    (q1 : w.cell? ⟨p1, o1 + 1, none⟩ = some (.int .i64 x1)) (r1 : w.cell? ⟨p2, o2 + 1, none⟩ = some (.int .i64 y1))
    (q2 : w.cell? ⟨p1, o1 + 2, none⟩ = some (.int .i64 x2)) (r2 : w.cell? ⟨p2, o2 + 2, none⟩ = some (.int .i64 y2))
    (q3 : w.cell? ⟨p1, o1 + 3, none⟩ = some (.slice A3 n3 c3)) (r3 : w.cell? ⟨p2, o2 + 3, none⟩ = some (.slice B3 m3 k3))
    (q4 : w.cell? ⟨p1, o1 + 4, none⟩ = some (.slice A4 n4 c4)) (r4 : w.cell? ⟨p2, o2 + 4, none⟩ = some (.slice B4 m4 k4))
    (q5 : w.cell? ⟨p1, o1 + 5, none⟩ = some (.slice A5 n5 c5)) (r5 : w.cell? ⟨p2, o2 + 5, none⟩ = some (.slice B5 m5 k5))
    (q6 : w.cell? ⟨p1, o1 + 6, none⟩ = some (.string x6)) (r6 : w.cell? ⟨p2, o2 + 6, none⟩ = some (.string y6))
    (e0 : x0 = y0) (e1 : x1 = y1) (e2 : x2 = y2) (e6 : x6 ≠ y6) :
    Calls Tryz.prog 57 #[.pointer (some ⟨p1, o1, none⟩), .pointer (some ⟨p2, o2, none⟩)] w fun e w' => e = .returned (.bool false) ∧ Below w.heap.size w w' := by
  subst e0
  subst e1
  subst e2
  have u6 : (x6.toList == y6.toList) = false := bytes_neq e6
  clear e6
  go_enter Tryz.func57, Tryz.ntmps57
  go_wp2_with fail
  refine wp_region_quiet_lit (by kernel_rfl) (by kernel_rfl) ?_
  simp only [List.append]
  repeat (go_big_quiet_step (fail))
  refine wpQuiet_nil ?_
  intro _ hw'
  obtain ⟨nq, hw''⟩ := hw'
  subst hw''
  go_wp2_with fail
  go_ret
  exact ⟨rfl, below_drewN (Below.refl _ _) _⟩

set_option maxHeartbeats 8000000 in
theorem l17Same_any (p1 o1 p2 o2 : Nat) (x0 y0 : ByteArray) (x1 y1 x2 y2 : Int) (x3 y3 : List (List Knot)) (x4 y4 : List Part) (x5 y5 : List Anch) (x6 y6 : ByteArray) (A3 B3 A4 B4 A5 B5 : Option Addr) (n3 c3 m3 k3 n4 c4 m4 k4 n5 c5 m5 k5 lo hi lo' hi' : Nat) (b : Bool) (hb : b = decide ((⟨x0, x1, x2, x3, x4, x5, x6⟩ : Gl) = ⟨y0, y1, y2, y3, y4, y5, y6⟩)) (w : World) (hw1 : p1 < w.heap.size) (hw2 : p2 < w.heap.size)
    (q0 : w.cell? ⟨p1, o1, none⟩ = some (.string x0)) (r0 : w.cell? ⟨p2, o2, none⟩ = some (.string y0))
    (q1 : w.cell? ⟨p1, o1 + 1, none⟩ = some (.int .i64 x1)) (r1 : w.cell? ⟨p2, o2 + 1, none⟩ = some (.int .i64 y1))
    (q2 : w.cell? ⟨p1, o1 + 2, none⟩ = some (.int .i64 x2)) (r2 : w.cell? ⟨p2, o2 + 2, none⟩ = some (.int .i64 y2))
    (q3 : w.cell? ⟨p1, o1 + 3, none⟩ = some (.slice A3 n3 c3)) (r3 : w.cell? ⟨p2, o2 + 3, none⟩ = some (.slice B3 m3 k3))
    (q4 : w.cell? ⟨p1, o1 + 4, none⟩ = some (.slice A4 n4 c4)) (r4 : w.cell? ⟨p2, o2 + 4, none⟩ = some (.slice B4 m4 k4))
    (q5 : w.cell? ⟨p1, o1 + 5, none⟩ = some (.slice A5 n5 c5)) (r5 : w.cell? ⟨p2, o2 + 5, none⟩ = some (.slice B5 m5 k5))
    (q6 : w.cell? ⟨p1, o1 + 6, none⟩ = some (.string x6)) (r6 : w.cell? ⟨p2, o2 + 6, none⟩ = some (.string y6))
    (ho1 : OutRd w lo hi A3 n3 x3) (ho2 : OutRd w lo' hi' B3 m3 y3) (hp1 : RdS 3 (FlatR partC) w lo hi A4 n4 x4) (hp2 : RdS 3 (FlatR partC) w lo' hi' B4 m4 y4) (ha1 : RdS 3 (FlatR anchC) w lo hi A5 n5 x5) (ha2 : RdS 3 (FlatR anchC) w lo' hi' B5 m5 y5) (hh1 : hi ≤ w.heap.size) (hh2 : hi' ≤ w.heap.size) (s1 : Gl.small ⟨x0, x1, x2, x3, x4, x5, x6⟩ 1000000000) (s2 : Gl.small ⟨y0, y1, y2, y3, y4, y5, y6⟩ 1000000000) :
    Calls Tryz.prog 57 #[.pointer (some ⟨p1, o1, none⟩), .pointer (some ⟨p2, o2, none⟩)] w fun e w' => e = .returned (.bool b) ∧ Below w.heap.size w w' := by
  have hne := Lib.hid (gl_neq x0 y0 x1 y1 x2 y2 x3 y3 x4 y4 x5 y5 x6 y6 A3 B3 A4 B4 A5 B5 n3 c3 m3 k3 n4 c4 m4 k4 n5 c5 m5 k5 lo hi lo' hi')
  replace hb := Lib.hid hb
  by_cases e0 : x0 = y0
  rotate_left
  · have hbf : b = false := by rw [hb.out]; exact hne.out 0 e0
    subst hbf
    exact l17Same_n0 _ _ _ _ _ _ _ _ _ _ _ _ _ _ _ _ _ _ _ _ _ _ _ _ _ _ _ _ _ _ w q0 r0 q1 r1 q2 r2 q3 r3 q4 r4 q5 r5 q6 r6  e0
  subst e0
  by_cases e1 : x1 = y1
  rotate_left
  · have hbf : b = false := by rw [hb.out]; exact hne.out 1 e1
    subst hbf
    exact l17Same_n1 _ _ _ _ _ _ _ _ _ _ _ _ _ _ _ _ _ _ _ _ _ _ _ _ _ _ _ _ _ _ w q0 r0 q1 r1 q2 r2 q3 r3 q4 r4 q5 r5 q6 r6 rfl e1
  subst e1
  by_cases e2 : x2 = y2
  rotate_left
  · have hbf : b = false := by rw [hb.out]; exact hne.out 2 e2
    subst hbf
    exact l17Same_n2 _ _ _ _ _ _ _ _ _ _ _ _ _ _ _ _ _ _ _ _ _ _ _ _ _ _ _ _ _ _ w q0 r0 q1 r1 q2 r2 q3 r3 q4 r4 q5 r5 q6 r6 rfl rfl e2
  subst e2
  by_cases e6 : x6 = y6
  rotate_left
  · have hbf : b = false := by rw [hb.out]; exact hne.out 6 e6
    subst hbf
    exact l17Same_n6 _ _ _ _ _ _ _ _ _ _ _ _ _ _ _ _ _ _ _ _ _ _ _ _ _ _ _ _ _ _ w q0 r0 q1 r1 q2 r2 q3 r3 q4 r4 q5 r5 q6 r6 rfl rfl rfl e6
  subst e6
  obtain ⟨t, ht⟩ : ∃ t, t = decide (x3 = y3) := ⟨_, rfl⟩
  have hso := Lib.hid (fun d os => Calls.regrown_of (specSameO_any A3 B3 n3 c3 m3 k3 lo hi lo' hi' x3 y3 t ht (Go.Sort.grow (redrawn w d) os) (ho1.frame good_loop (Below.sameB (below_regrown w d os) hh1)) (ho2.frame good_loop (Below.sameB (below_regrown w d os) hh2)) (Nat.le_trans hh1 (below_regrown w d os).size) (Nat.le_trans hh2 (below_regrown w d os).size) (by rw [← ho1.1]; exact s1.o) (by rw [← ho2.1]; exact s2.o) s1.k s2.k))
  replace ht := Lib.hid ht
  have n4b : n4 ≤ 1000000000 := by rw [← hp1.1]; exact s1.p
  have m4b : m4 ≤ 1000000000 := by rw [← hp2.1]; exact s2.p
  have n5b : n5 ≤ 1000000000 := by rw [← ha1.1]; exact s1.a
  have m5b : m5 ≤ 1000000000 := by rw [← ha2.1]; exact s2.a
  clear ho1 ho2
  have cq0 : ∀ d os, (Go.Sort.grow (redrawn w d) os).cell? ⟨p1, o1, none⟩ = some (.string x0) := cell_regrown q0
  have cr0 : ∀ d os, (Go.Sort.grow (redrawn w d) os).cell? ⟨p2, o2, none⟩ = some (.string x0) := cell_regrown r0
  have cq1 : ∀ d os, (Go.Sort.grow (redrawn w d) os).cell? ⟨p1, o1 + 1, none⟩ = some (.int .i64 x1) := cell_regrown q1
  have cr1 : ∀ d os, (Go.Sort.grow (redrawn w d) os).cell? ⟨p2, o2 + 1, none⟩ = some (.int .i64 x1) := cell_regrown r1
  have cq2 : ∀ d os, (Go.Sort.grow (redrawn w d) os).cell? ⟨p1, o1 + 2, none⟩ = some (.int .i64 x2) := cell_regrown q2
  have cr2 : ∀ d os, (Go.Sort.grow (redrawn w d) os).cell? ⟨p2, o2 + 2, none⟩ = some (.int .i64 x2) := cell_regrown r2
  have cq3 : ∀ d os, (Go.Sort.grow (redrawn w d) os).cell? ⟨p1, o1 + 3, none⟩ = some (.slice A3 n3 c3) := cell_regrown q3
  have cr3 : ∀ d os, (Go.Sort.grow (redrawn w d) os).cell? ⟨p2, o2 + 3, none⟩ = some (.slice B3 m3 k3) := cell_regrown r3
  have cq4 : ∀ d os, (Go.Sort.grow (redrawn w d) os).cell? ⟨p1, o1 + 4, none⟩ = some (.slice A4 n4 c4) := cell_regrown q4
  have cr4 : ∀ d os, (Go.Sort.grow (redrawn w d) os).cell? ⟨p2, o2 + 4, none⟩ = some (.slice B4 m4 k4) := cell_regrown r4
  have cq5 : ∀ d os, (Go.Sort.grow (redrawn w d) os).cell? ⟨p1, o1 + 5, none⟩ = some (.slice A5 n5 c5) := cell_regrown q5
  have cr5 : ∀ d os, (Go.Sort.grow (redrawn w d) os).cell? ⟨p2, o2 + 5, none⟩ = some (.slice B5 m5 k5) := cell_regrown r5
  have cq6 : ∀ d os, (Go.Sort.grow (redrawn w d) os).cell? ⟨p1, o1 + 6, none⟩ = some (.string x6) := cell_regrown q6
  have cr6 : ∀ d os, (Go.Sort.grow (redrawn w d) os).cell? ⟨p2, o2 + 6, none⟩ = some (.string x6) := cell_regrown r6
  cases t with
  | false =>
    have hbf : b = false := by rw [hb.out]; exact hne.out 3 (of_decide_eq_false ht.out.symm)
    subst hbf
    clear hp1 hp2 ha1 ha2
    go_enter Tryz.func57, Tryz.ntmps57
    go_wp2_with fail
    refine wp_region_quiet_below (by kernel_rfl) (by kernel_rfl) ?_
    simp only [List.append]
    repeat (go_big_quiet_step (exact hso.out _ _))
    refine wpQuiet_nil ?_
    intro _ hw'
    obtain ⟨⟨dq, osq⟩, hw''⟩ := hw'
    subst hw''
    have hb1 : Below w.heap.size w (Go.Sort.grow (redrawn w dq) osq) := below_regrown w dq osq
    generalize Go.Sort.grow (redrawn w dq) osq = w1 at hb1 ⊢
    go_wp2_with fail
    go_ret
    exact ⟨rfl, hb1⟩
  | true =>
    by_cases l4 : n4 = m4
    rotate_left
    · have hbf : b = false := by rw [hb.out]; exact hne.out 4 (by rintro rfl; exact l4 (hp1.1.symm.trans hp2.1))
      have g1 : ((n4 : Int) == (m4 : Int)) = false := by simp; omega
      have g2 : ((n4 : Int) != (m4 : Int)) = true := by simp; omega
      subst hbf
      clear l4 hp1 hp2 ha1 ha2
      go_enter Tryz.func57, Tryz.ntmps57
      go_wp2_with fail
      refine wp_region_quiet_below (by kernel_rfl) (by kernel_rfl) ?_
      simp only [List.append]
      repeat (go_big_quiet_step (exact hso.out _ _))
      refine wpQuiet_nil ?_
      intro _ hw'
      obtain ⟨⟨dq, osq⟩, hw''⟩ := hw'
      subst hw''
      have hb1 : Below w.heap.size w (Go.Sort.grow (redrawn w dq) osq) := below_regrown w dq osq
      generalize Go.Sort.grow (redrawn w dq) osq = w1 at hb1 ⊢
      have zq4 : w1.cell? ⟨p1, o1 + 4, none⟩ = some (.slice A4 n4 c4) := (hb1.cell (by simp; omega)).trans q4
      have zr4 : w1.cell? ⟨p2, o2 + 4, none⟩ = some (.slice B4 m4 k4) := (hb1.cell (by simp; omega)).trans r4
      have zq5 : w1.cell? ⟨p1, o1 + 5, none⟩ = some (.slice A5 n5 c5) := (hb1.cell (by simp; omega)).trans q5
      have zr5 : w1.cell? ⟨p2, o2 + 5, none⟩ = some (.slice B5 m5 k5) := (hb1.cell (by simp; omega)).trans r5
      clear q0 q1 q2 q3 q4 q5 q6 r0 r1 r2 r3 r4 r5 r6
      go_wp2_with fail
      go_ret
      exact ⟨rfl, hb1⟩
    subst l4
    by_cases l5 : n5 = m5
    rotate_left
    · have hbf : b = false := by rw [hb.out]; exact hne.out 5 (by rintro rfl; exact l5 (ha1.1.symm.trans ha2.1))
      have g1 : ((n5 : Int) == (m5 : Int)) = false := by simp; omega
      have g2 : ((n5 : Int) != (m5 : Int)) = true := by simp; omega
      subst hbf
      clear l5 hp1 hp2 ha1 ha2
      go_enter Tryz.func57, Tryz.ntmps57
      go_wp2_with fail
      refine wp_region_quiet_below (by kernel_rfl) (by kernel_rfl) ?_
      simp only [List.append]
      repeat (go_big_quiet_step (exact hso.out _ _))
      refine wpQuiet_nil ?_
      intro _ hw'
      obtain ⟨⟨dq, osq⟩, hw''⟩ := hw'
      subst hw''
      have hb1 : Below w.heap.size w (Go.Sort.grow (redrawn w dq) osq) := below_regrown w dq osq
      generalize Go.Sort.grow (redrawn w dq) osq = w1 at hb1 ⊢
      have zq4 : w1.cell? ⟨p1, o1 + 4, none⟩ = some (.slice A4 n4 c4) := (hb1.cell (by simp; omega)).trans q4
      have zr4 : w1.cell? ⟨p2, o2 + 4, none⟩ = some (.slice B4 n4 k4) := (hb1.cell (by simp; omega)).trans r4
      have zq5 : w1.cell? ⟨p1, o1 + 5, none⟩ = some (.slice A5 n5 c5) := (hb1.cell (by simp; omega)).trans q5
      have zr5 : w1.cell? ⟨p2, o2 + 5, none⟩ = some (.slice B5 m5 k5) := (hb1.cell (by simp; omega)).trans r5
      clear q0 q1 q2 q3 q4 q5 q6 r0 r1 r2 r3 r4 r5 r6
      go_wp2_with fail
      go_ret
      exact ⟨rfl, hb1⟩
    subst l5
    have hfin4 := Lib.hid (fun h => take_eq_done (n := n4) h hp1.1 hp2.1)
    have hfin5 := Lib.hid (fun h => take_eq_done (n := n5) h ha1.1 ha2.1)
    go_enter Tryz.func57, Tryz.ntmps57
    go_wp2_with fail
    refine wp_region_quiet_below (by kernel_rfl) (by kernel_rfl) ?_
    simp only [List.append]
    repeat (go_big_quiet_step (exact hso.out _ _))
    refine wpQuiet_nil ?_
    intro _ hw'
    obtain ⟨⟨dq, osq⟩, hw''⟩ := hw'
    subst hw''
    have hb1 : Below w.heap.size w (Go.Sort.grow (redrawn w dq) osq) := below_regrown w dq osq
    generalize Go.Sort.grow (redrawn w dq) osq = w1 at hb1 ⊢
    have zq4 : w1.cell? ⟨p1, o1 + 4, none⟩ = some (.slice A4 n4 c4) := (hb1.cell (by simp; omega)).trans q4
    have zr4 : w1.cell? ⟨p2, o2 + 4, none⟩ = some (.slice B4 n4 k4) := (hb1.cell (by simp; omega)).trans r4
    have zq5 : w1.cell? ⟨p1, o1 + 5, none⟩ = some (.slice A5 n5 c5) := (hb1.cell (by simp; omega)).trans q5
    have zr5 : w1.cell? ⟨p2, o2 + 5, none⟩ = some (.slice B5 n5 k5) := (hb1.cell (by simp; omega)).trans r5
    clear q0 q1 q2 q3 q4 q5 q6 r0 r1 r2 r3 r4 r5 r6
    replace hp1 := Lib.hid (hp1.frame (good_flat _) (Below.sameB hb1 hh1))
    replace hp2 := Lib.hid (hp2.frame (good_flat _) (Below.sameB hb1 hh2))
    replace ha1 := Lib.hid (ha1.frame (good_flat _) (Below.sameB hb1 hh1))
    replace ha2 := Lib.hid (ha2.frame (good_flat _) (Below.sameB hb1 hh2))
    go_wp2_with fail
    go_loopw [5] (fun i wr => ∃ k q : Nat, i = .int .i64 k ∧ k ≤ n4 ∧ x4.take k = y4.take k ∧ wr = w1.drewN q) (fun i wr => n4 - (intOf i).toNat)
    case atStart => exact ⟨0, 0, rfl, Nat.zero_le _, rfl, rfl⟩
    case round =>
      obtain ⟨k, q, rfl, hk, htk, rfl⟩ := hrel
      replace htk := Lib.hid htk
      by_cases hlt : k < n4
      · obtain ⟨b1, f1, ⟨a0, a1, a2⟩, rfl, hb0, hbw, hja, hcs⟩ := hp1.out.at hlt
        obtain ⟨b2, f2, ⟨d0, d1, d2⟩, rfl, hb0', hbw', hja', hcs'⟩ := hp2.out.at hlt
        have q0 := hcs 0 _ rfl
        have r0 := hcs' 0 _ rfl
        have q1 := hcs 1 _ rfl
        have r1 := hcs' 1 _ rfl
        have q2 := hcs 2 _ rfl
        have r2 := hcs' 2 _ rfl
        simp only [Nat.add_zero] at q0 r0 q1 r1 q2 r2
        have hi : (0 : Int) ≤ (k : Int) ∧ (k : Int) < (n4 : Int) := by omega
        clear hcs hcs' hb0 hb0' hbw hbw'
        by_cases e0 : a0 = d0
        rotate_left
        · have hbf : b = false := by rw [hb.out]; exact hne.out 4 (ne_of_at hja hja' (by simp [e0]))
          have t0 : (a0 == d0) = false := by simp [e0]
          subst hbf
          clear e0 hja hja'
          go_wp2_with fail
          go_quiet (fail)
          go_wp2_with fail
          go_ret
          exact ⟨rfl, by first | exact below_drewN hb1 _ | (rw [World.drewN_drewN]; exact below_drewN hb1 _)⟩
        subst e0
        by_cases e1 : a1 = d1
        rotate_left
        · have hbf : b = false := by rw [hb.out]; exact hne.out 4 (ne_of_at hja hja' (by simp [e1]))
          have t1 : (a1 == d1) = false := by simp [e1]
          subst hbf
          clear e1 hja hja'
          go_wp2_with fail
          go_quiet (fail)
          go_wp2_with fail
          go_ret
          exact ⟨rfl, by first | exact below_drewN hb1 _ | (rw [World.drewN_drewN]; exact below_drewN hb1 _)⟩
        subst e1
        by_cases e2 : a2 = d2
        rotate_left
        · have hbf : b = false := by rw [hb.out]; exact hne.out 4 (ne_of_at hja hja' (by simp [e2]))
          have t2 : (a2 == d2) = false := by simp [e2]
          subst hbf
          clear e2 hja hja'
          go_wp2_with fail
          go_quiet (fail)
          go_wp2_with fail
          go_ret
          exact ⟨rfl, by first | exact below_drewN hb1 _ | (rw [World.drewN_drewN]; exact below_drewN hb1 _)⟩
        subst e2
        replace hja := Lib.hid hja
        replace hja' := Lib.hid hja'
        go_wp2_with fail
        go_quiet (fail)
        go_wp2_with fail
        go_roundw
        case rel => exact ⟨k + 1, _, by go_num, by omega, take_eq_step htk.out hja.out hja'.out, rfl⟩
        case measure => simp [intOf]; omega
      · have hkn : k = n4 := by omega
        have hfin4e := hfin4.out (by rw [← hkn]; exact htk.out)
        replace hfin4e := Lib.hid hfin4e
        replace hkn := Lib.hid hkn
        go_wp2_with fail
        go_loopw [6] (fun i wr => ∃ k q : Nat, i = .int .i64 k ∧ k ≤ n5 ∧ x5.take k = y5.take k ∧ wr = w1.drewN q) (fun i wr => n5 - (intOf i).toNat)
        case atStart => exact ⟨0, _, rfl, Nat.zero_le _, rfl, rfl⟩
        case round =>
          obtain ⟨k, q, rfl, hk, htk, rfl⟩ := hrel
          replace htk := Lib.hid htk
          by_cases hlt : k < n5
          · obtain ⟨b1, f1, ⟨a0, a1, a2⟩, rfl, hb0, hbw, hja, hcs⟩ := ha1.out.at hlt
            obtain ⟨b2, f2, ⟨d0, d1, d2⟩, rfl, hb0', hbw', hja', hcs'⟩ := ha2.out.at hlt
            have q0 := hcs 0 _ rfl
            have r0 := hcs' 0 _ rfl
            have q1 := hcs 1 _ rfl
            have r1 := hcs' 1 _ rfl
            have q2 := hcs 2 _ rfl
            have r2 := hcs' 2 _ rfl
            simp only [Nat.add_zero] at q0 r0 q1 r1 q2 r2
            have hi : (0 : Int) ≤ (k : Int) ∧ (k : Int) < (n5 : Int) := by omega
            clear hcs hcs' hb0 hb0' hbw hbw'
            by_cases e0 : a0 = d0
            rotate_left
            · have hbf : b = false := by rw [hb.out]; exact hne.out 5 (ne_of_at hja hja' (by simp [e0]))
              have u0 : (a0.toList == d0.toList) = false := bytes_neq e0
              subst hbf
              clear e0 hja hja'
              go_wp2_with fail
              go_quiet (fail)
              go_wp2_with fail
              go_ret
              exact ⟨rfl, by first | exact below_drewN hb1 _ | (rw [World.drewN_drewN]; exact below_drewN hb1 _)⟩
            subst e0
            by_cases e1 : a1 = d1
            rotate_left
            · have hbf : b = false := by rw [hb.out]; exact hne.out 5 (ne_of_at hja hja' (by simp [e1]))
              have t1 : (a1 == d1) = false := by simp [e1]
              subst hbf
              clear e1 hja hja'
              go_wp2_with fail
              go_quiet (fail)
              go_wp2_with fail
              go_ret
              exact ⟨rfl, by first | exact below_drewN hb1 _ | (rw [World.drewN_drewN]; exact below_drewN hb1 _)⟩
            subst e1
            by_cases e2 : a2 = d2
            rotate_left
            · have hbf : b = false := by rw [hb.out]; exact hne.out 5 (ne_of_at hja hja' (by simp [e2]))
              have t2 : (a2 == d2) = false := by simp [e2]
              subst hbf
              clear e2 hja hja'
              go_wp2_with fail
              go_quiet (fail)
              go_wp2_with fail
              go_ret
              exact ⟨rfl, by first | exact below_drewN hb1 _ | (rw [World.drewN_drewN]; exact below_drewN hb1 _)⟩
            subst e2
            replace hja := Lib.hid hja
            replace hja' := Lib.hid hja'
            go_wp2_with fail
            go_quiet (fail)
            go_wp2_with fail
            go_roundw
            case rel => exact ⟨k + 1, _, by go_num, by omega, take_eq_step htk.out hja.out hja'.out, rfl⟩
            case measure => simp [intOf]; omega
          · have hkn : k = n5 := by omega
            have hfin5e := hfin5.out (by rw [← hkn]; exact htk.out)
            have hbt : b = true := by rw [hb.out, decide_eq_true_iff, hfin4e.out, hfin5e, of_decide_eq_true ht.out.symm]
            subst hbt
            replace hkn := Lib.hid hkn
            go_wp2_with fail
            go_ret
            exact ⟨rfl, below_drewN hb1 _⟩
end Go.Proofs.YtgdkabljgabjoaaGreatDoor

