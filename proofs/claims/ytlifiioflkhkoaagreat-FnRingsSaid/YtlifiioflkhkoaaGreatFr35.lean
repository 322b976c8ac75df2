/- Comparisons for scenes: lists of points, terms, rings, linear expressions. Printed by mk_scsame.py. Conditions: as each states. -/
import Derived.BigQuiet
import Derived.Lib.QuietBelow
import Derived.Test.YtlifiioflkhkoaaGreatFr14
import Derived.Test.YtlifiioflkhkoaaGreatFr31
import Derived.Test.YtlifiioflkhkoaaGreatFr33
import Derived.Test.YtlifiioflkhkoaaGreatFr34
namespace Go.Proofs.YtlifiioflkhkoaaGreat
open Go.RowKit
set_option linter.unusedVariables false
set_option maxRecDepth 100000

/-! ### the program's side -/
theorem sameRing_any (A A' : Option Addr) (n c n' c' lo hi lo' hi' : Nat) (L M : List (Int × Int)) (b : Bool) (hb : b = decide (L = M)) (w : World) (h1 : RdS 2 (FlatR ptC) w lo hi A n L) (h2 : RdS 2 (FlatR ptC) w lo' hi' A' n' M) (hh1 : hi ≤ w.heap.size) (hh2 : hi' ≤ w.heap.size) (hn : n ≤ 1000000000) (hn' : n' ≤ 1000000000) :
    Calls Tryz.prog 49 #[.agg #[.slice A n c], .agg #[.slice A' n' c']] w fun e w' => e = .returned (.bool b) ∧ Below w.heap.size w w' := by
  have hc := Lib.hid (fun x y => equalPt_any A A' n c n' c' lo hi lo' hi' L M b hb ((w.alloc x).alloc y) (h1.frame (good_flat _) (((SameB.refl _ _ w).alloc hh1 _).alloc (by simp; omega) _)) (h2.frame (good_flat _) (((SameB.refl _ _ w).alloc hh2 _).alloc (by simp; omega) _)) (by simp; omega) (by simp; omega) hn hn')
  clear h1 h2 hb
  go_enter Tryz.func49, Tryz.ntmps49
  go_wp2_with fail
  refine (hc.out _ _).mono ?_
  rintro e w1 ⟨rfl, nq, rfl⟩
  go_wp2_with fail
  go_ret
  exact ⟨rfl, below_drewN (Go.Joins.below_alloc2 _ _ _) _⟩

set_option maxHeartbeats 2000000 in
theorem equalFRing_any (A A' : Option Addr) (n c n' c' lo hi lo' hi' : Nat) (L M : List (List (Int × Int))) (b : Bool) (hb : b = decide (L = M)) (w : World) (h1 : RegRd w lo hi A n L) (h2 : RegRd w lo' hi' A' n' M) (hh1 : hi ≤ w.heap.size) (hh2 : hi' ≤ w.heap.size) (hn : n ≤ 1000000000) (hn' : n' ≤ 1000000000) (hL : ∀ K ∈ L, K.length ≤ 1000000000) (hM : ∀ K ∈ M, K.length ≤ 1000000000) :
    Calls Tryz.prog 48 #[.slice A n c, .slice A' n' c', .func (.func 49) #[] #[]] w fun e w' => e = .returned (.bool b) ∧ Below w.heap.size w w' := by
  by_cases hl : n = n'
  rotate_left
  · have hbf : b = false := by
      rw [hb, decide_eq_false_iff_not]; rintro rfl; exact hl (h1.1.symm.trans h2.1)
    have t1 : ((n : Int) == (n' : Int)) = false := by simp; omega
    have t2 : ((n : Int) != (n' : Int)) = true := by simp; omega
    subst hbf
    clear hl h1 h2 hb
    go_enter Tryz.func48, Tryz.ntmps48
    go_wp2_with fail
    go_ret
    exact ⟨rfl, Below.refl _ _⟩
  subst hl
  have hfin := Lib.hid (fun h => take_eq_done (n := n) h h1.1 h2.1)
  replace hb := Lib.hid hb
  replace h1 := Lib.hid h1
  replace h2 := Lib.hid h2
  replace hL := Lib.hid hL
  replace hM := Lib.hid hM
  go_enter Tryz.func48, Tryz.ntmps48
  go_wp2_with fail
  go_loopw [17] (fun i wr => ∃ k : Nat, i = .int .i64 k ∧ k ≤ n ∧ L.take k = M.take k ∧ Below w.heap.size w wr) (fun i wr => n - (intOf i).toNat)
  case atStart => exact ⟨0, rfl, Nat.zero_le _, rfl, Below.refl _ _⟩
  case round =>
    obtain ⟨k, rfl, hk, htk, hbel⟩ := hrel
    replace htk := Lib.hid htk
    have hsz := hbel.size
    by_cases hlt : k < n
    · obtain ⟨b1, f1, K1, A1, n1, c1, rfl, hb0, hb1, hja, q0, hm, hr1⟩ := reg_at (h1.out.frame good_ring (Below.sameB hbel hh1)) hlt
      obtain ⟨b2, f2, K2, A2, n2, c2, rfl, hb0', hb2, hja', q0', hm', hr2⟩ := reg_at (h2.out.frame good_ring (Below.sameB hbel hh2)) hlt
      have hl1 := hL.out K1 (List.mem_of_getElem? hja)
      have hl2 := hM.out K2 (List.mem_of_getElem? hja')
      rw [hr1.1] at hl1
      rw [hr2.1] at hl2
      obtain ⟨t, ht⟩ : ∃ t, t = decide (K1 = K2) := ⟨_, rfl⟩
      have hcall := Lib.hid (fun x y => sameRing_any A1 A2 n1 c1 n2 c2 lo hi lo' hi' K1 K2 t ht ((wr.alloc x).alloc y) (hr1.frame (good_flat _) (((SameB.refl _ _ wr).alloc (by omega) _).alloc (by simp; omega) _)) (hr2.frame (good_flat _) (((SameB.refl _ _ wr).alloc (by omega) _).alloc (by simp; omega) _)) (by simp; omega) (by simp; omega) hl1 hl2)
      have hbw : b1 < wr.heap.size := by omega
      have hbw' : b2 < wr.heap.size := by omega
      have hno := Lib.hid (fun h => ne_list_at hja hja' h)
      have hst := Lib.hid (fun (h : K1 = K2) => take_eq_step htk.out hja (h ▸ hja'))
      clear hr1 hr2 hm hm' hja hja' hb0 hb0' hl1 hl2
      replace ht := Lib.hid ht
      go_wp2_with fail
      refine (hcall.out _ _).mono ?_
      rintro e w1 ⟨rfl, hb1⟩
      have hbel1 : Below w.heap.size w w1 := ((hbel.alloc hbel.size _).alloc (by simp; omega) _).trans (hb1.mono (by simp; omega))
      cases t with
      | false =>
        have hbf : b = false := by rw [hb.out]; exact hno.out ht.out.symm
        subst hbf
        go_wp2_with fail
        go_ret
        exact ⟨rfl, hbel1⟩
      | true =>
        go_wp2_with fail
        go_roundw
        case rel => exact ⟨k + 1, by go_num, by omega, hst.out (of_decide_eq_true ht.out.symm), hbel1⟩
        case measure => simp [intOf]; omega
    · have hkn : k = n := by omega
      have hbt : b = true := by rw [hb.out, decide_eq_true_iff]; exact hfin.out (by rw [← hkn]; exact htk.out)
      subst hbt
      replace hkn := Lib.hid hkn
      go_wp2_with fail
      go_ret
      exact ⟨rfl, hbel⟩
theorem implSameReg_any (A A' : Option Addr) (n c n' c' lo hi lo' hi' : Nat) (L M : List (List (Int × Int))) (b : Bool) (hb : b = decide (L = M)) (w : World) (h1 : RegRd w lo hi A n L) (h2 : RegRd w lo' hi' A' n' M) (hh1 : hi ≤ w.heap.size) (hh2 : hi' ≤ w.heap.size) (hn : n ≤ 1000000000) (hn' : n' ≤ 1000000000) (hL : ∀ K ∈ L, K.length ≤ 1000000000) (hM : ∀ K ∈ M, K.length ≤ 1000000000) :
    Calls Tryz.prog 28 #[.agg #[.slice A n c], .agg #[.slice A' n' c']] w fun e w' => e = .returned (.bool b) ∧ Below w.heap.size w w' := by
  have hc := Lib.hid (fun x y => equalFRing_any A A' n c n' c' lo hi lo' hi' L M b hb ((w.alloc x).alloc y) (h1.frame good_ring (((SameB.refl _ _ w).alloc hh1 _).alloc (by simp; omega) _)) (h2.frame good_ring (((SameB.refl _ _ w).alloc hh2 _).alloc (by simp; omega) _)) (by simp; omega) (by simp; omega) hn hn' hL hM)
  clear h1 h2 hb hL hM
  go_enter Tryz.func28, Tryz.ntmps28
  go_wp2_with fail
  refine (hc.out _ _).mono ?_
  rintro e w1 ⟨rfl, hb1⟩
  go_wp2_with fail
  go_ret
  exact ⟨rfl, (Go.Joins.below_alloc2 _ _ _).trans (hb1.mono (by simp; omega))⟩

end Go.Proofs.YtlifiioflkhkoaaGreat

