/- An outline and a point that came in, opened. No walk in sight. Conditions: none. -/
import Derived.Deep.RegionWith
import Derived.StillTailTactics
import Derived.RegionTactic
import Derived.ChangeAlike
import Derived.Outline
import Derived.Test.YtgdkabljgabjoaaGreatDoorRb04
import Derived.Test.YtgdkabljgabjoaaGreatDoorRb06
import Derived.Test.YtgdkabljgabjoaaGreatDoorRb01
import Derived.Test.YtgdkabljgabjoaaGreatDoorProg
import Derived.Test.YtgdkabljgabjoaaGreatDoorRb02
namespace Go.Proofs.YtgdkabljgabjoaaGreatDoor
open Go.RowKit Go.ChangeShapes Go.WideShapes Go.Deep
set_option linter.unusedVariables false
set_option maxRecDepth 100000

end Go.Proofs.YtgdkabljgabjoaaGreatDoor

/- Two outlines compared by the laws' functions. Conditions: as each states. -/
namespace Go.Proofs.YtgdkabljgabjoaaGreatDoor
open Go.RowKit
set_option linter.unusedVariables false
set_option maxRecDepth 100000

theorem eqLoop_any (A A' : Option Addr) (n c n' c' lo hi lo' hi' : Nat) (K : List Knot) (w : World) (h1 : RdS 3 (FlatR knotC) w lo hi A n K) (h2 : RdS 3 (FlatR knotC) w lo' hi' A' n' K) (hh1 : hi ≤ w.heap.size) (hh2 : hi' ≤ w.heap.size) (hn : n ≤ 100000000) :
    Calls Tryz.prog 120 #[.agg #[.slice A n c], .agg #[.slice A' n' c']] w fun e w' => e = .returned (.bool true) ∧ Below w.heap.size w w' := by
  have hc := Lib.hid (fun a b => eqKnotS_any A A' n c n' c' lo hi lo' hi' K ((w.alloc a).alloc b) (h1.frame (good_flat _) (((SameB.refl _ _ w).alloc hh1 _).alloc (by simp; omega) _)) (h2.frame (good_flat _) (((SameB.refl _ _ w).alloc hh2 _).alloc (by simp; omega) _)) (by simp; omega) (by simp; omega) (by omega))
  clear h1 h2
  go_enter Tryz.func120, Tryz.ntmps120
  go_wp2_with fail
  refine (hc.out _ _).mono ?_
  rintro e w1 ⟨rfl, hb1⟩
  go_wp2_with fail
  go_ret
  exact ⟨rfl, (Go.Joins.below_alloc2 _ _ _).trans (hb1.mono (by simp; omega))⟩

set_option maxHeartbeats 1000000 in
theorem eqLoopS_any (A A' : Option Addr) (n c n' c' lo hi lo' hi' : Nat) (Ls : List (List Knot)) (w : World) (h1 : OutRd w lo hi A n Ls) (h2 : OutRd w lo' hi' A' n' Ls) (hh1 : hi ≤ w.heap.size) (hh2 : hi' ≤ w.heap.size) (hn : n ≤ 100000000) (hK : ∀ K ∈ Ls, K.length ≤ 100000000) :
    Calls Tryz.prog 82 #[.slice A n c, .slice A' n' c'] w fun e w' => e = .returned (.bool true) ∧ Below w.heap.size w w' := by
  obtain rfl : n = n' := h1.1.symm.trans h2.1
  replace h1 := Lib.hid h1
  replace h2 := Lib.hid h2
  replace hK := Lib.hid hK
  go_enter Tryz.func82, Tryz.ntmps82
  go_wp2_with fail
  go_loopw [5] (fun i wr => ∃ k : Nat, i = .int .i64 k ∧ k ≤ n ∧ Below w.heap.size w wr) (fun i wr => n - (intOf i).toNat)
  case atStart => exact ⟨0, rfl, Nat.zero_le _, Below.refl _ _⟩
  case round =>
    obtain ⟨k, rfl, hk, hbel⟩ := hrel
    have hsz := hbel.size
    by_cases hlt : k < n
    · obtain ⟨b, off, K, A1, n1, c1, rfl, hb0, hb, hja, q0, hm, hr1⟩ := out_at (h1.out.frame good_loop (Below.sameB hbel hh1)) hlt
      obtain ⟨b', off', K', A2, n2, c2, rfl, hb0', hb', hja', q0', hm', hr2⟩ := out_at (h2.out.frame good_loop (Below.sameB hbel hh2)) hlt
      have hKK := Option.some.inj (hja.symm.trans hja')
      subst hKK
      have hlen := hK.out K (List.mem_of_getElem? hja)
      have hcall := Lib.hid (fun W (hB : SameB 0 wr.heap.size wr W) (hs : wr.heap.size ≤ W.heap.size) => eqLoop_any A1 A2 n1 c1 n2 c2 lo hi lo' hi' K W (hr1.frame (good_flat _) (hB.mono (Nat.zero_le _) (by omega))) (hr2.frame (good_flat _) (hB.mono (Nat.zero_le _) (by omega))) (by omega) (by omega) (by rw [← hr1.1]; exact hlen))
      have hbw : b < wr.heap.size := by omega
      have hbw' : b' < wr.heap.size := by omega
      clear hr1 hr2 hm hm' hja hja' hb0 hb0' hb hb' hsz hh1 hh2 h1 h2 hlen
      have hi : (0 : Int) ≤ (k : Int) ∧ (k : Int) < (n : Int) := by omega
      go_wp2_with fail
      go_still_tail 8, (by kernel_rfl)
      go_wp2_with (go_at_call 120; refine (hcall.out _ (SameB.refl _ _ wr).drew (Nat.le_refl _)).mono ?_; rintro e w1 ⟨rfl, hb1⟩)
      go_roundw
      case rel => exact ⟨k + 1, by go_num, by omega, hbel.drew.trans (hb1.mono (by simp; exact hbel.size))⟩
      case measure => simp [intOf]; omega
    · go_wp2_with fail
      go_ret
      exact ⟨rfl, hbel⟩

theorem eqOutline_any (A A' : Option Addr) (n c n' c' lo hi lo' hi' : Nat) (Ls : List (List Knot)) (w : World) (h1 : OutRd w lo hi A n Ls) (h2 : OutRd w lo' hi' A' n' Ls) (hh1 : hi ≤ w.heap.size) (hh2 : hi' ≤ w.heap.size) (hn : n ≤ 100000000) (hK : ∀ K ∈ Ls, K.length ≤ 100000000) :
    Calls Tryz.prog 32 #[.agg #[.slice A n c], .agg #[.slice A' n' c']] w fun e w' => e = .returned (.bool true) ∧ Below w.heap.size w w' := by
  have hc := Lib.hid (fun a b => eqLoopS_any A A' n c n' c' lo hi lo' hi' Ls ((w.alloc a).alloc b) (h1.frame good_loop (((SameB.refl _ _ w).alloc hh1 _).alloc (by simp; omega) _)) (h2.frame good_loop (((SameB.refl _ _ w).alloc hh2 _).alloc (by simp; omega) _)) (by simp; omega) (by simp; omega) hn hK)
  clear h1 h2
  go_enter Tryz.func32, Tryz.ntmps32
  go_wp2_with fail
  refine (hc.out _ _).mono ?_
  rintro e w1 ⟨rfl, hb1⟩
  go_wp2_with fail
  go_ret
  exact ⟨rfl, (Go.Joins.below_alloc2 _ _ _).trans (hb1.mono (by simp; omega))⟩
end Go.Proofs.YtgdkabljgabjoaaGreatDoor

/- The laws' own functions on slices of Part. Conditions: as each states. -/
namespace Go.Proofs.YtgdkabljgabjoaaGreatDoor
open Go.RowKit
set_option linter.unusedVariables false
set_option maxRecDepth 100000

theorem eqPart_any (x0 : Int) (x1 : Int) (x2 : Int) (w : World) :
    Calls Tryz.prog 83 #[.agg #[.int .i64 x0, .int .i64 x1, .int .i64 x2], .agg #[.int .i64 x0, .int .i64 x1, .int .i64 x2]] w fun e w' => e = .returned (.bool true) ∧ Below w.heap.size w w' := by
  go_enter Tryz.func83, Tryz.ntmps83
  go_wp2_with fail
  refine (eqPt_any _ _ _).mono ?_
  rintro e w1 ⟨rfl, hb1⟩
  obtain ⟨hc, hf⟩ := bcell hb1
  have hz1 := hb1.size
  simp at hz1
  clear hc hf
  go_wp2_with fail
  go_ret
  exact ⟨rfl, (((Below.refl _ _).alloc (Nat.le_refl _) _).alloc (by simp) _).trans (hb1.mono (by simp <;> omega))⟩

theorem elemPart : Elem Tryz.prog 25 106 3 24 := elem_mk (z := .agg #[.int .i64 0, .int .i64 0, .int .i64 0]) Tryz.underlying25 (by kernel_rfl) rfl (by omega)
theorem infoPart : (Tryz.prog.info? 106).map (fun i => (i.zero, i.size, i.bytes)) = some (some (.agg #[.int .i64 0, .int .i64 0, .int .i64 0]), 3, 24) := by kernel_rfl

set_option maxRecDepth 100000 in
set_option maxHeartbeats 1000000 in
theorem eqPartS_any (A A' : Option Addr) (n c n' c' lo hi lo' hi' : Nat) (L : List (Int × Int × Int)) (w : World) (h1 : RdS 3 (FlatR partC) w lo hi A n L) (h2 : RdS 3 (FlatR partC) w lo' hi' A' n' L) (hh1 : hi ≤ w.heap.size) (hh2 : hi' ≤ w.heap.size) (hn : n ≤ 1000000000) :
    Calls Tryz.prog 33 #[.slice A n c, .slice A' n' c'] w fun e w' => e = .returned (.bool true) ∧ Below w.heap.size w w' := by
  obtain rfl : n = n' := h1.1.symm.trans h2.1
  replace h1 := Lib.hid h1
  replace h2 := Lib.hid h2
  go_enter Tryz.func33, Tryz.ntmps33
  go_wp2_with fail
  go_loopw [5] (fun i wr => ∃ k : Nat, i = .int .i64 k ∧ k ≤ n ∧ Below w.heap.size w wr) (fun i wr => n - (intOf i).toNat)
  case atStart => exact ⟨0, rfl, Nat.zero_le _, Below.refl _ _⟩
  case round =>
    obtain ⟨k, rfl, hk, hbel⟩ := hrel
    have hsz := hbel.size
    by_cases hlt : k < n
    · obtain ⟨b, off, ⟨x0, x1, x2⟩, rfl, hb0, hb, hja, hcs⟩ := (h1.out.frame (good_flat _) (Below.sameB hbel hh1)).at hlt
      obtain ⟨b', off', a', rfl, hb0', hb', hja', hcs'⟩ := (h2.out.frame (good_flat _) (Below.sameB hbel hh2)).at hlt
      have hja' := Option.some.inj (hja.symm.trans hja')
      subst hja' 
      have q0 := hcs 0 _ rfl
      have p0 := hcs' 0 _ rfl
      have q1 := hcs 1 _ rfl
      have p1 := hcs' 1 _ rfl
      have q2 := hcs 2 _ rfl
      have p2 := hcs' 2 _ rfl
      simp only [Nat.add_zero] at q0 p0 q1 p1 q2 p2
      clear hcs hcs' hja
      have hbw : b < wr.heap.size := by omega
      have hbw' : b' < wr.heap.size := by omega
      clear hb0 hb0' hb hb' hsz hh1 hh2 h1 h2
      have hi : (0 : Int) ≤ (k : Int) ∧ (k : Int) < (n : Int) := by omega
      go_wp2_with fail
      go_still_tail 8, (by kernel_rfl)
      go_wp2_with (go_at_call 83; refine (eqPart_any _ _ _ _).mono ?_; rintro e w1 ⟨rfl, hb1⟩)
      go_roundw
      case rel => exact ⟨k + 1, by go_num, by omega, hbel.drew.trans (hb1.mono (by simp; exact hbel.size))⟩
      case measure => simp [intOf]; omega
    · go_wp2_with fail
      go_ret
      exact ⟨rfl, hbel⟩

end Go.Proofs.YtgdkabljgabjoaaGreatDoor

/- The laws' own functions on slices of Anchor. Conditions: as each states. -/
namespace Go.Proofs.YtgdkabljgabjoaaGreatDoor
open Go.RowKit
set_option linter.unusedVariables false
set_option maxRecDepth 100000

theorem eqAnchor_any (x0 : ByteArray) (x1 : Int) (x2 : Int) (w : World) :
    Calls Tryz.prog 84 #[.agg #[.string x0, .int .i64 x1, .int .i64 x2], .agg #[.string x0, .int .i64 x1, .int .i64 x2]] w fun e w' => e = .returned (.bool true) ∧ Below w.heap.size w w' := by
  go_enter Tryz.func84, Tryz.ntmps84
  go_wp2_with fail
  refine (eqPt_any _ _ _).mono ?_
  rintro e w1 ⟨rfl, hb1⟩
  obtain ⟨hc, hf⟩ := bcell hb1
  have hz1 := hb1.size
  simp at hz1
  clear hc hf
  go_wp2_with fail
  go_ret
  exact ⟨rfl, (((Below.refl _ _).alloc (Nat.le_refl _) _).alloc (by simp) _).trans (hb1.mono (by simp <;> omega))⟩

theorem elemAnchor : Elem Tryz.prog 26 117 3 32 := elem_mk (z := .agg #[.string ⟨#[]⟩, .int .i64 0, .int .i64 0]) Tryz.underlying26 (by kernel_rfl) rfl (by omega)
theorem infoAnchor : (Tryz.prog.info? 117).map (fun i => (i.zero, i.size, i.bytes)) = some (some (.agg #[.string ⟨#[]⟩, .int .i64 0, .int .i64 0]), 3, 32) := by kernel_rfl

set_option maxRecDepth 100000 in
set_option maxHeartbeats 1000000 in
theorem eqAnchorS_any (A A' : Option Addr) (n c n' c' lo hi lo' hi' : Nat) (L : List (ByteArray × Int × Int)) (w : World) (h1 : RdS 3 (FlatR anchC) w lo hi A n L) (h2 : RdS 3 (FlatR anchC) w lo' hi' A' n' L) (hh1 : hi ≤ w.heap.size) (hh2 : hi' ≤ w.heap.size) (hn : n ≤ 1000000000) :
    Calls Tryz.prog 34 #[.slice A n c, .slice A' n' c'] w fun e w' => e = .returned (.bool true) ∧ Below w.heap.size w w' := by
  obtain rfl : n = n' := h1.1.symm.trans h2.1
  replace h1 := Lib.hid h1
  replace h2 := Lib.hid h2
  go_enter Tryz.func34, Tryz.ntmps34
  go_wp2_with fail
  go_loopw [5] (fun i wr => ∃ k : Nat, i = .int .i64 k ∧ k ≤ n ∧ Below w.heap.size w wr) (fun i wr => n - (intOf i).toNat)
  case atStart => exact ⟨0, rfl, Nat.zero_le _, Below.refl _ _⟩
  case round =>
    obtain ⟨k, rfl, hk, hbel⟩ := hrel
    have hsz := hbel.size
    by_cases hlt : k < n
    · obtain ⟨b, off, ⟨x0, x1, x2⟩, rfl, hb0, hb, hja, hcs⟩ := (h1.out.frame (good_flat _) (Below.sameB hbel hh1)).at hlt
      obtain ⟨b', off', a', rfl, hb0', hb', hja', hcs'⟩ := (h2.out.frame (good_flat _) (Below.sameB hbel hh2)).at hlt
      have hja' := Option.some.inj (hja.symm.trans hja')
      subst hja' 
      have q0 := hcs 0 _ rfl
      have p0 := hcs' 0 _ rfl
      have q1 := hcs 1 _ rfl
      have p1 := hcs' 1 _ rfl
      have q2 := hcs 2 _ rfl
      have p2 := hcs' 2 _ rfl
      simp only [Nat.add_zero] at q0 p0 q1 p1 q2 p2
      clear hcs hcs' hja
      have hbw : b < wr.heap.size := by omega
      have hbw' : b' < wr.heap.size := by omega
      clear hb0 hb0' hb hb' hsz hh1 hh2 h1 h2
      have hi : (0 : Int) ≤ (k : Int) ∧ (k : Int) < (n : Int) := by omega
      go_wp2_with fail
      go_still_tail 8, (by kernel_rfl)
      go_wp2_with (go_at_call 84; refine (eqAnchor_any _ _ _ _).mono ?_; rintro e w1 ⟨rfl, hb1⟩)
      go_roundw
      case rel => exact ⟨k + 1, by go_num, by omega, hbel.drew.trans (hb1.mono (by simp; exact hbel.size))⟩
      case measure => simp [intOf]; omega
    · go_wp2_with fail
      go_ret
      exact ⟨rfl, hbel⟩

end Go.Proofs.YtgdkabljgabjoaaGreatDoor

