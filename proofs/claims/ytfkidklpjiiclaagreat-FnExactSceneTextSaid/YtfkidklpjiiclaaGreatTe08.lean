/- Functions that compare two slices: the result says whether the lists are one. Conditions: as each states. -/
import Derived.RegionTactic
import Derived.ChangeAlike
import Derived.Outline
import Derived.BigQuiet
import Derived.Deep.QuietTactic
import Derived.WalkSmall
import Derived.Test.YtfkidklpjiiclaaGreatTe01
import Derived.Test.YtfkidklpjiiclaaGreatProg
namespace Go.Proofs.YtfkidklpjiiclaaGreat
open Go.RowKit
set_option linter.unusedVariables false
set_option maxRecDepth 100000

set_option maxHeartbeats 1000000 in
theorem l13Same_any (A A' : Option Addr) (n c n' c' lo hi lo' hi' : Nat) (L M : List (Int × Int)) (b : Bool) (hb : b = decide (L = M)) (w : World) (h1 : RdS 2 (FlatR ptC) w lo hi A n L) (h2 : RdS 2 (FlatR ptC) w lo' hi' A' n' M) (hh1 : hi ≤ w.heap.size) (hh2 : hi' ≤ w.heap.size) (hn : n ≤ 1000000000) (hn' : n' ≤ 1000000000) :
    Calls Tryz.prog 150 #[.slice A n c, .slice A' n' c'] w fun e w' => e = .returned (.bool b) ∧ ∃ q, w' = w.drewN q := by
  by_cases hl : n = n'
  · subst hl
    have hfin := Lib.hid (fun h => take_eq_done (n := n) h h1.1 h2.1)
    replace hb := Lib.hid hb
    replace h1 := Lib.hid h1
    replace h2 := Lib.hid h2
    go_enter Tryz.func150, Tryz.ntmps150
    go_wp2_with fail
    go_loopw [5] (fun i wr => ∃ k q : Nat, i = .int .i64 k ∧ k ≤ n ∧ L.take k = M.take k ∧ wr = w.drewN q) (fun i wr => n - (intOf i).toNat)
    case atStart => exact ⟨0, 0, rfl, Nat.zero_le _, rfl, rfl⟩
    case round =>
      obtain ⟨k, q, rfl, hk, htk, rfl⟩ := hrel
      replace htk := Lib.hid htk
      by_cases hlt : k < n
      · obtain ⟨b1, o1, ⟨x0, x1⟩, rfl, hb0, hbw, hja, hcs⟩ := h1.out.at hlt
        obtain ⟨b2, o2, ⟨y0, y1⟩, rfl, hb0', hbw', hja', hcs'⟩ := h2.out.at hlt
        have q0 := hcs 0 _ rfl
        have p0 := hcs' 0 _ rfl
        have q1 := hcs 1 _ rfl
        have p1 := hcs' 1 _ rfl
        simp only [Nat.add_zero] at q0 p0 q1 p1
        have hw1 : b1 < w.heap.size := by omega
        have hw2 : b2 < w.heap.size := by omega
        clear hcs hcs' hb0 hb0' hbw hbw' hh1 hh2 h1 h2
        have hi : (0 : Int) ≤ (k : Int) ∧ (k : Int) < (n : Int) := by omega
        by_cases e0 : x0 = y0
        rotate_left
        · have hbf : b = false := by rw [hb.out, decide_eq_false_iff_not]; exact ne_of_at hja hja' (by simp [e0])
          have t0 : (x0 == y0) = false := by simp [e0]
          subst hbf
          clear e0 hja hja'
          go_wp2_with fail
          go_quiet (fail)
          go_wp2_with fail
          go_ret
          exact ⟨rfl, _, by rw [World.drewN_drewN]⟩
        subst e0
        by_cases e1 : x1 = y1
        rotate_left
        · have hbf : b = false := by rw [hb.out, decide_eq_false_iff_not]; exact ne_of_at hja hja' (by simp [e1])
          have t1 : (x1 == y1) = false := by simp [e1]
          subst hbf
          clear e1 hja hja'
          go_wp2_with fail
          go_quiet (fail)
          go_wp2_with fail
          go_ret
          exact ⟨rfl, _, by rw [World.drewN_drewN]⟩
        subst e1
        replace hja := Lib.hid hja
        replace hja' := Lib.hid hja'
        go_wp2_with fail
        go_quiet (fail)
        go_wp2_with fail
        go_roundw
        case rel => exact ⟨k + 1, _, by go_num, by omega, take_eq_step htk.out hja.out hja'.out, rfl⟩
        case measure => simp [intOf]; omega
      · have hkn : k = n := by omega
        have hbt : b = true := by rw [hb.out, decide_eq_true_iff]; exact hfin.out (by rw [← hkn]; exact htk.out)
        subst hbt
        replace hkn := Lib.hid hkn
        go_wp2_with fail
        go_ret
        exact ⟨rfl, _, rfl⟩
  · have hbf : b = false := by
      rw [hb, decide_eq_false_iff_not]; rintro rfl; exact hl (h1.1.symm.trans h2.1)
    have t1 : ((n : Int) == (n' : Int)) = false := by simp; omega
    have t2 : ((n : Int) != (n' : Int)) = true := by simp; omega
    subst hbf
    clear hl h1 h2 hb
    go_enter Tryz.func150, Tryz.ntmps150
    go_wp2_with fail
    go_ret
    exact ⟨rfl, 0, rfl⟩

set_option maxHeartbeats 1000000 in
theorem equalPt_any (A A' : Option Addr) (n c n' c' lo hi lo' hi' : Nat) (L M : List (Int × Int)) (b : Bool) (hb : b = decide (L = M)) (w : World) (h1 : RdS 2 (FlatR ptC) w lo hi A n L) (h2 : RdS 2 (FlatR ptC) w lo' hi' A' n' M) (hh1 : hi ≤ w.heap.size) (hh2 : hi' ≤ w.heap.size) (hn : n ≤ 1000000000) (hn' : n' ≤ 1000000000) :
    Calls Tryz.prog 73 #[.slice A n c, .slice A' n' c'] w fun e w' => e = .returned (.bool b) ∧ ∃ q, w' = w.drewN q := by
  by_cases hl : n = n'
  · subst hl
    have hfin := Lib.hid (fun h => take_eq_done (n := n) h h1.1 h2.1)
    replace hb := Lib.hid hb
    replace h1 := Lib.hid h1
    replace h2 := Lib.hid h2
    go_enter Tryz.func73, Tryz.ntmps73
    go_wp2_with fail
    go_loopw [13] (fun i wr => ∃ k q : Nat, i = .int .i64 k ∧ k ≤ n ∧ L.take k = M.take k ∧ wr = w.drewN q) (fun i wr => n - (intOf i).toNat)
    case atStart => exact ⟨0, 0, rfl, Nat.zero_le _, rfl, rfl⟩
    case round =>
      obtain ⟨k, q, rfl, hk, htk, rfl⟩ := hrel
      replace htk := Lib.hid htk
      by_cases hlt : k < n
      · obtain ⟨b1, o1, ⟨x0, x1⟩, rfl, hb0, hbw, hja, hcs⟩ := h1.out.at hlt
        obtain ⟨b2, o2, ⟨y0, y1⟩, rfl, hb0', hbw', hja', hcs'⟩ := h2.out.at hlt
        have q0 := hcs 0 _ rfl
        have p0 := hcs' 0 _ rfl
        have q1 := hcs 1 _ rfl
        have p1 := hcs' 1 _ rfl
        simp only [Nat.add_zero] at q0 p0 q1 p1
        have hw1 : b1 < w.heap.size := by omega
        have hw2 : b2 < w.heap.size := by omega
        clear hcs hcs' hb0 hb0' hbw hbw' hh1 hh2 h1 h2
        have hi : (0 : Int) ≤ (k : Int) ∧ (k : Int) < (n : Int) := by omega
        by_cases e0 : x0 = y0
        rotate_left
        · have hbf : b = false := by rw [hb.out, decide_eq_false_iff_not]; exact ne_of_at hja hja' (by simp [e0])
          have t0 : (x0 == y0) = false := by simp [e0]
          subst hbf
          clear e0 hja hja'
          go_wp2_with fail
          go_quiet (fail)
          go_wp2_with fail
          go_ret
          exact ⟨rfl, _, by rw [World.drewN_drewN]⟩
        subst e0
        by_cases e1 : x1 = y1
        rotate_left
        · have hbf : b = false := by rw [hb.out, decide_eq_false_iff_not]; exact ne_of_at hja hja' (by simp [e1])
          have t1 : (x1 == y1) = false := by simp [e1]
          subst hbf
          clear e1 hja hja'
          go_wp2_with fail
          go_quiet (fail)
          go_wp2_with fail
          go_ret
          exact ⟨rfl, _, by rw [World.drewN_drewN]⟩
        subst e1
        replace hja := Lib.hid hja
        replace hja' := Lib.hid hja'
        go_wp2_with fail
        go_quiet (fail)
        go_wp2_with fail
        go_roundw
        case rel => exact ⟨k + 1, _, by go_num, by omega, take_eq_step htk.out hja.out hja'.out, rfl⟩
        case measure => simp [intOf]; omega
      · have hkn : k = n := by omega
        have hbt : b = true := by rw [hb.out, decide_eq_true_iff]; exact hfin.out (by rw [← hkn]; exact htk.out)
        subst hbt
        replace hkn := Lib.hid hkn
        go_wp2_with fail
        go_ret
        exact ⟨rfl, _, rfl⟩
  · have hbf : b = false := by
      rw [hb, decide_eq_false_iff_not]; rintro rfl; exact hl (h1.1.symm.trans h2.1)
    have t1 : ((n : Int) == (n' : Int)) = false := by simp; omega
    have t2 : ((n : Int) != (n' : Int)) = true := by simp; omega
    subst hbf
    clear hl h1 h2 hb
    go_enter Tryz.func73, Tryz.ntmps73
    go_wp2_with fail
    go_ret
    exact ⟨rfl, 0, rfl⟩

set_option maxHeartbeats 1000000 in
theorem equalKnot_any (A A' : Option Addr) (n c n' c' lo hi lo' hi' : Nat) (L M : List (Int × Int × Bool)) (b : Bool) (hb : b = decide (L = M)) (w : World) (h1 : RdS 3 (FlatR knotC) w lo hi A n L) (h2 : RdS 3 (FlatR knotC) w lo' hi' A' n' M) (hh1 : hi ≤ w.heap.size) (hh2 : hi' ≤ w.heap.size) (hn : n ≤ 1000000000) (hn' : n' ≤ 1000000000) :
    Calls Tryz.prog 138 #[.slice A n c, .slice A' n' c'] w fun e w' => e = .returned (.bool b) ∧ ∃ q, w' = w.drewN q := by
  by_cases hl : n = n'
  · subst hl
    have hfin := Lib.hid (fun h => take_eq_done (n := n) h h1.1 h2.1)
    replace hb := Lib.hid hb
    replace h1 := Lib.hid h1
    replace h2 := Lib.hid h2
    go_enter Tryz.func138, Tryz.ntmps138
    go_wp2_with fail
    go_loopw [13] (fun i wr => ∃ k q : Nat, i = .int .i64 k ∧ k ≤ n ∧ L.take k = M.take k ∧ wr = w.drewN q) (fun i wr => n - (intOf i).toNat)
    case atStart => exact ⟨0, 0, rfl, Nat.zero_le _, rfl, rfl⟩
    case round =>
      obtain ⟨k, q, rfl, hk, htk, rfl⟩ := hrel
      replace htk := Lib.hid htk
      by_cases hlt : k < n
      · obtain ⟨b1, o1, ⟨x0, x1, x2⟩, rfl, hb0, hbw, hja, hcs⟩ := h1.out.at hlt
        obtain ⟨b2, o2, ⟨y0, y1, y2⟩, rfl, hb0', hbw', hja', hcs'⟩ := h2.out.at hlt
        have q0 := hcs 0 _ rfl
        have p0 := hcs' 0 _ rfl
        have q1 := hcs 1 _ rfl
        have p1 := hcs' 1 _ rfl
        have q2 := hcs 2 _ rfl
        have p2 := hcs' 2 _ rfl
        simp only [Nat.add_zero] at q0 p0 q1 p1 q2 p2
        have hw1 : b1 < w.heap.size := by omega
        have hw2 : b2 < w.heap.size := by omega
        clear hcs hcs' hb0 hb0' hbw hbw' hh1 hh2 h1 h2
        have hi : (0 : Int) ≤ (k : Int) ∧ (k : Int) < (n : Int) := by omega
        by_cases e0 : x0 = y0
        rotate_left
        · have hbf : b = false := by rw [hb.out, decide_eq_false_iff_not]; exact ne_of_at hja hja' (by simp [e0])
          have t0 : (x0 == y0) = false := by simp [e0]
          subst hbf
          clear e0 hja hja'
          go_wp2_with fail
          go_quiet (fail)
          go_wp2_with fail
          go_ret
          exact ⟨rfl, _, by rw [World.drewN_drewN]⟩
        subst e0
        by_cases e1 : x1 = y1
        rotate_left
        · have hbf : b = false := by rw [hb.out, decide_eq_false_iff_not]; exact ne_of_at hja hja' (by simp [e1])
          have t1 : (x1 == y1) = false := by simp [e1]
          subst hbf
          clear e1 hja hja'
          go_wp2_with fail
          go_quiet (fail)
          go_wp2_with fail
          go_ret
          exact ⟨rfl, _, by rw [World.drewN_drewN]⟩
        subst e1
        by_cases e2 : x2 = y2
        rotate_left
        · have hbf : b = false := by rw [hb.out, decide_eq_false_iff_not]; exact ne_of_at hja hja' (by simp [e2])
          have t2 : (x2 == y2) = false := by simp [e2]
          subst hbf
          clear e2 hja hja'
          go_wp2_with fail
          go_quiet (fail)
          go_wp2_with fail
          go_ret
          exact ⟨rfl, _, by rw [World.drewN_drewN]⟩
        subst e2
        replace hja := Lib.hid hja
        replace hja' := Lib.hid hja'
        go_wp2_with fail
        go_quiet (fail)
        go_wp2_with fail
        go_roundw
        case rel => exact ⟨k + 1, _, by go_num, by omega, take_eq_step htk.out hja.out hja'.out, rfl⟩
        case measure => simp [intOf]; omega
      · have hkn : k = n := by omega
        have hbt : b = true := by rw [hb.out, decide_eq_true_iff]; exact hfin.out (by rw [← hkn]; exact htk.out)
        subst hbt
        replace hkn := Lib.hid hkn
        go_wp2_with fail
        go_ret
        exact ⟨rfl, _, rfl⟩
  · have hbf : b = false := by
      rw [hb, decide_eq_false_iff_not]; rintro rfl; exact hl (h1.1.symm.trans h2.1)
    have t1 : ((n : Int) == (n' : Int)) = false := by simp; omega
    have t2 : ((n : Int) != (n' : Int)) = true := by simp; omega
    subst hbf
    clear hl h1 h2 hb
    go_enter Tryz.func138, Tryz.ntmps138
    go_wp2_with fail
    go_ret
    exact ⟨rfl, 0, rfl⟩

set_option maxHeartbeats 1000000 in
theorem equalPart_any (A A' : Option Addr) (n c n' c' lo hi lo' hi' : Nat) (L M : List (Int × Int × Int)) (b : Bool) (hb : b = decide (L = M)) (w : World) (h1 : RdS 3 (FlatR partC) w lo hi A n L) (h2 : RdS 3 (FlatR partC) w lo' hi' A' n' M) (hh1 : hi ≤ w.heap.size) (hh2 : hi' ≤ w.heap.size) (hn : n ≤ 1000000000) (hn' : n' ≤ 1000000000) :
    Calls Tryz.prog 83 #[.slice A n c, .slice A' n' c'] w fun e w' => e = .returned (.bool b) ∧ ∃ q, w' = w.drewN q := by
  by_cases hl : n = n'
  · subst hl
    have hfin := Lib.hid (fun h => take_eq_done (n := n) h h1.1 h2.1)
    replace hb := Lib.hid hb
    replace h1 := Lib.hid h1
    replace h2 := Lib.hid h2
    go_enter Tryz.func83, Tryz.ntmps83
    go_wp2_with fail
    go_loopw [13] (fun i wr => ∃ k q : Nat, i = .int .i64 k ∧ k ≤ n ∧ L.take k = M.take k ∧ wr = w.drewN q) (fun i wr => n - (intOf i).toNat)
    case atStart => exact ⟨0, 0, rfl, Nat.zero_le _, rfl, rfl⟩
    case round =>
      obtain ⟨k, q, rfl, hk, htk, rfl⟩ := hrel
      replace htk := Lib.hid htk
      by_cases hlt : k < n
      · obtain ⟨b1, o1, ⟨x0, x1, x2⟩, rfl, hb0, hbw, hja, hcs⟩ := h1.out.at hlt
        obtain ⟨b2, o2, ⟨y0, y1, y2⟩, rfl, hb0', hbw', hja', hcs'⟩ := h2.out.at hlt
        have q0 := hcs 0 _ rfl
        have p0 := hcs' 0 _ rfl
        have q1 := hcs 1 _ rfl
        have p1 := hcs' 1 _ rfl
        have q2 := hcs 2 _ rfl
        have p2 := hcs' 2 _ rfl
        simp only [Nat.add_zero] at q0 p0 q1 p1 q2 p2
        have hw1 : b1 < w.heap.size := by omega
        have hw2 : b2 < w.heap.size := by omega
        clear hcs hcs' hb0 hb0' hbw hbw' hh1 hh2 h1 h2
        have hi : (0 : Int) ≤ (k : Int) ∧ (k : Int) < (n : Int) := by omega
        by_cases e0 : x0 = y0
        rotate_left
        · have hbf : b = false := by rw [hb.out, decide_eq_false_iff_not]; exact ne_of_at hja hja' (by simp [e0])
          have t0 : (x0 == y0) = false := by simp [e0]
          subst hbf
          clear e0 hja hja'
          go_wp2_with fail
          go_quiet (fail)
          go_wp2_with fail
          go_ret
          exact ⟨rfl, _, by rw [World.drewN_drewN]⟩
        subst e0
        by_cases e1 : x1 = y1
        rotate_left
        · have hbf : b = false := by rw [hb.out, decide_eq_false_iff_not]; exact ne_of_at hja hja' (by simp [e1])
          have t1 : (x1 == y1) = false := by simp [e1]
          subst hbf
          clear e1 hja hja'
          go_wp2_with fail
          go_quiet (fail)
          go_wp2_with fail
          go_ret
          exact ⟨rfl, _, by rw [World.drewN_drewN]⟩
        subst e1
        by_cases e2 : x2 = y2
        rotate_left
        · have hbf : b = false := by rw [hb.out, decide_eq_false_iff_not]; exact ne_of_at hja hja' (by simp [e2])
          have t2 : (x2 == y2) = false := by simp [e2]
          subst hbf
          clear e2 hja hja'
          go_wp2_with fail
          go_quiet (fail)
          go_wp2_with fail
          go_ret
          exact ⟨rfl, _, by rw [World.drewN_drewN]⟩
        subst e2
        replace hja := Lib.hid hja
        replace hja' := Lib.hid hja'
        go_wp2_with fail
        go_quiet (fail)
        go_wp2_with fail
        go_roundw
        case rel => exact ⟨k + 1, _, by go_num, by omega, take_eq_step htk.out hja.out hja'.out, rfl⟩
        case measure => simp [intOf]; omega
      · have hkn : k = n := by omega
        have hbt : b = true := by rw [hb.out, decide_eq_true_iff]; exact hfin.out (by rw [← hkn]; exact htk.out)
        subst hbt
        replace hkn := Lib.hid hkn
        go_wp2_with fail
        go_ret
        exact ⟨rfl, _, rfl⟩
  · have hbf : b = false := by
      rw [hb, decide_eq_false_iff_not]; rintro rfl; exact hl (h1.1.symm.trans h2.1)
    have t1 : ((n : Int) == (n' : Int)) = false := by simp; omega
    have t2 : ((n : Int) != (n' : Int)) = true := by simp; omega
    subst hbf
    clear hl h1 h2 hb
    go_enter Tryz.func83, Tryz.ntmps83
    go_wp2_with fail
    go_ret
    exact ⟨rfl, 0, rfl⟩

end Go.Proofs.YtfkidklpjiiclaaGreat

/- slices.Equal at anchors. Conditions: as it states. -/
namespace Go.Proofs.YtfkidklpjiiclaaGreat
open Go.RowKit
set_option linter.unusedVariables false
set_option maxRecDepth 100000
theorem bytes_neq {a b : ByteArray} (h : a ≠ b) : (a.toList == b.toList) = false := by
  cases h1 : (a.toList == b.toList)
  · rfl
  · exact absurd (bytes_eq h1) h

set_option maxHeartbeats 1000000 in
theorem equalAnchor_any (A A' : Option Addr) (n c n' c' lo hi lo' hi' : Nat) (L M : List (ByteArray × Int × Int)) (b : Bool) (hb : b = decide (L = M)) (w : World) (h1 : RdS 3 (FlatR anchC) w lo hi A n L) (h2 : RdS 3 (FlatR anchC) w lo' hi' A' n' M) (hh1 : hi ≤ w.heap.size) (hh2 : hi' ≤ w.heap.size) (hn : n ≤ 1000000000) (hn' : n' ≤ 1000000000) :
    Calls Tryz.prog 84 #[.slice A n c, .slice A' n' c'] w fun e w' => e = .returned (.bool b) ∧ ∃ q, w' = w.drewN q := by
  by_cases hl : n = n'
  · subst hl
    have hfin := Lib.hid (fun h => take_eq_done (n := n) h h1.1 h2.1)
    replace hb := Lib.hid hb
    replace h1 := Lib.hid h1
    replace h2 := Lib.hid h2
    go_enter Tryz.func84, Tryz.ntmps84
    go_wp2_with fail
    go_loopw [13] (fun i wr => ∃ k q : Nat, i = .int .i64 k ∧ k ≤ n ∧ L.take k = M.take k ∧ wr = w.drewN q) (fun i wr => n - (intOf i).toNat)
    case atStart => exact ⟨0, 0, rfl, Nat.zero_le _, rfl, rfl⟩
    case round =>
      obtain ⟨k, q, rfl, hk, htk, rfl⟩ := hrel
      replace htk := Lib.hid htk
      by_cases hlt : k < n
      · obtain ⟨b1, o1, ⟨x0, x1, x2⟩, rfl, hb0, hbw, hja, hcs⟩ := h1.out.at hlt
        obtain ⟨b2, o2, ⟨y0, y1, y2⟩, rfl, hb0', hbw', hja', hcs'⟩ := h2.out.at hlt
        have q0 := hcs 0 _ rfl
        have p0 := hcs' 0 _ rfl
        have q1 := hcs 1 _ rfl
        have p1 := hcs' 1 _ rfl
        have q2 := hcs 2 _ rfl
        have p2 := hcs' 2 _ rfl
        simp only [Nat.add_zero] at q0 p0 q1 p1 q2 p2
        have hw1 : b1 < w.heap.size := by omega
        have hw2 : b2 < w.heap.size := by omega
        clear hcs hcs' hb0 hb0' hbw hbw' hh1 hh2 h1 h2
        have hi : (0 : Int) ≤ (k : Int) ∧ (k : Int) < (n : Int) := by omega
        by_cases e0 : x0 = y0
        rotate_left
        · have hbf : b = false := by rw [hb.out, decide_eq_false_iff_not]; exact ne_of_at hja hja' (by simp [e0])

          have u0 : (x0.toList == y0.toList) = false := bytes_neq e0
          subst hbf
          clear e0 hja hja'
          go_wp2_with fail
          go_quiet (fail)
          go_wp2_with fail
          go_ret
          exact ⟨rfl, _, by rw [World.drewN_drewN]⟩
        subst e0
        by_cases e1 : x1 = y1
        rotate_left
        · have hbf : b = false := by rw [hb.out, decide_eq_false_iff_not]; exact ne_of_at hja hja' (by simp [e1])
          have t1 : (x1 == y1) = false := by simp [e1]
          subst hbf
          clear e1 hja hja'
          go_wp2_with fail
          go_quiet (fail)
          go_wp2_with fail
          go_ret
          exact ⟨rfl, _, by rw [World.drewN_drewN]⟩
        subst e1
        by_cases e2 : x2 = y2
        rotate_left
        · have hbf : b = false := by rw [hb.out, decide_eq_false_iff_not]; exact ne_of_at hja hja' (by simp [e2])
          have t2 : (x2 == y2) = false := by simp [e2]
          subst hbf
          clear e2 hja hja'
          go_wp2_with fail
          go_quiet (fail)
          go_wp2_with fail
          go_ret
          exact ⟨rfl, _, by rw [World.drewN_drewN]⟩
        subst e2
        replace hja := Lib.hid hja
        replace hja' := Lib.hid hja'
        go_wp2_with fail
        go_quiet (fail)
        go_wp2_with fail
        go_roundw
        case rel => exact ⟨k + 1, _, by go_num, by omega, take_eq_step htk.out hja.out hja'.out, rfl⟩
        case measure => simp [intOf]; omega
      · have hkn : k = n := by omega
        have hbt : b = true := by rw [hb.out, decide_eq_true_iff]; exact hfin.out (by rw [← hkn]; exact htk.out)
        subst hbt
        replace hkn := Lib.hid hkn
        go_wp2_with fail
        go_ret
        exact ⟨rfl, _, rfl⟩
  · have hbf : b = false := by
      rw [hb, decide_eq_false_iff_not]; rintro rfl; exact hl (h1.1.symm.trans h2.1)
    have t1 : ((n : Int) == (n' : Int)) = false := by simp; omega
    have t2 : ((n : Int) != (n' : Int)) = true := by simp; omega
    subst hbf
    clear hl h1 h2 hb
    go_enter Tryz.func84, Tryz.ntmps84
    go_wp2_with fail
    go_ret
    exact ⟨rfl, 0, rfl⟩

end Go.Proofs.YtfkidklpjiiclaaGreat

/- Contracts of the small functions on numbers: what each returns. Conditions: as each states. -/
namespace Go.Proofs.YtfkidklpjiiclaaGreat
open Go.RowKit
set_option linter.unusedVariables false
set_option maxRecDepth 100000

theorem l00In_any (n a b : Int) (w : World) :
    Calls Tryz.prog 105 #[.int .i64 n, .int .i64 a, .int .i64 b] w fun e w' => e = .returned (.bool (inB n a b)) ∧ w = w' := by
  by_cases h : a ≤ n
  all_goals
    go_enter Tryz.func105, Tryz.ntmps105
    go_wp2
    go_ret
    exact ⟨ret_bool (by simp [inB]; omega), rfl⟩

/-! ### scaling -/
/-! ### the two laws -/
end Go.Proofs.YtfkidklpjiiclaaGreat

