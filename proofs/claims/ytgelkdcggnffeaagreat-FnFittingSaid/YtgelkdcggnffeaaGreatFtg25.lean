/- The law on PathWithin. Conditions: as each states. -/
import Derived.Test.YtgelkdcggnffeaaGreatFtg17
namespace Go.Proofs.YtgelkdcggnffeaaGreat
open Go.RowKit
set_option linter.unusedVariables false
set_option maxRecDepth 100000

set_option maxHeartbeats 2000000 in
theorem l16Within_any (A A' : Option Addr) (n c n' c' lo hi lo' hi' : Nat) (L M : List (Int × Int)) (r : Int) (v : Bool) (hv : v = withinB L M r) (w : World) (hr : RdS 2 (FlatR ptC) w lo hi A n L) (hr' : RdS 2 (FlatR ptC) w lo' hi' A' n' M) (hhi : hi ≤ w.heap.size) (hhi' : hi' ≤ w.heap.size) (hn : n ≤ 1048576) (hn1 : 1 ≤ n') (hn' : n' ≤ 1048576) (hL : ∀ p ∈ L, ptOk p.1 p.2 = true) (hM : ∀ p ∈ M, ptOk p.1 p.2 = true) (h0 : 0 ≤ r) (h1 : r ≤ 262144) :
    Calls Tryz.prog 49 #[.slice A n c, .slice A' n' c', .int .i64 r] w fun e w' => e = .returned (.bool v) ∧ Below w.heap.size w w' := by
  have hl := Lib.hid hr.1
  replace hr := Lib.hid hr
  replace hr' := Lib.hid hr'
  replace hv := Lib.hid hv
  replace hL := Lib.hid hL
  replace hM := Lib.hid hM
  go_enter Tryz.func49, Tryz.ntmps49
  go_wp2_with fail
  go_loopw [7] (fun i wr => ∃ k : Nat, i = .int .i64 k ∧ k ≤ n ∧ (L.take k).all (fun p => nearP M p.1 p.2 r) = true ∧ Below w.heap.size w wr) (fun i wr => n - (intOf i).toNat)
  case atStart => exact ⟨0, rfl, Nat.zero_le _, rfl, Below.refl _ _⟩
  case round =>
    obtain ⟨k, rfl, hk, hall, hbel⟩ := hrel
    replace hall := Lib.hid hall
    have hsz := hbel.size
    by_cases hlt : k < n
    · obtain ⟨b, off, ⟨x0, x1⟩, rfl, hb0, hb, hja, hcs⟩ := (hr.out.frame (good_flat _) (Below.sameB hbel hhi)).at hlt
      have q0 := hcs 0 _ rfl
      have q1 := hcs 1 _ rfl
      simp only [Nat.add_zero] at q0 q1
      have hbw : b < wr.heap.size := by omega
      have hok := hL.out _ (List.mem_of_getElem? hja)
      obtain ⟨t, ht⟩ : ∃ t, t = nearP M x0 x1 r := ⟨_, rfl⟩
      have hcall := Lib.hid (fun W (hS : Below w.heap.size w W) => l16Near_any A' n' c' lo' hi' M x0 x1 r t ht W (hr'.out.frame (good_flat _) (Below.sameB hS hhi')) (Nat.le_trans hhi' hS.size) hn1 hn' hM.out hok h0 h1)
      replace hja := Lib.hid hja
      replace ht := Lib.hid ht
      clear hcs hb0 hb hok
      go_wp2_with fail
      refine (hcall.out _ (by first | exact hbel | exact hbel.alloc hbel.size _)).mono ?_
      rintro e w1 ⟨rfl, hb1⟩
      cases t with
      | false =>
        have hvf : v = false := by rw [hv.out]; exact allT_no hja.out ht.out.symm
        subst hvf
        go_wp2_with fail
        go_ret
        exact ⟨rfl, hbel.trans (hb1.mono hbel.size)⟩
      | true =>
        go_wp2_with fail
        go_roundw
        case rel => exact ⟨k + 1, by go_num, by omega, allT_step (f := fun p => nearP M p.1 p.2 r) hall.out hja.out ht.out.symm, hbel.trans (hb1.mono hbel.size)⟩
        case measure => simp [intOf]; omega
    · have hkn : k = n := by omega
      have hvt : v = true := by rw [hv.out, withinB, ← List.take_of_length_le (l := L) (i := k) (by rw [hl.out]; omega)]; exact hall.out
      subst hvt
      replace hkn := Lib.hid hkn
      go_wp2_with fail
      go_ret
      exact ⟨rfl, hbel⟩

set_option maxHeartbeats 2000000 in
theorem pathWithin_any (A A' : Option Addr) (n c n' c' lo hi lo' hi' : Nat) (L M : List (Int × Int)) (r : Int) (v : Bool) (hv : v = withinB L M r) (w : World) (hr : RdS 2 (FlatR ptC) w lo hi A n L) (hr' : RdS 2 (FlatR ptC) w lo' hi' A' n' M) (hhi : hi ≤ w.heap.size) (hhi' : hi' ≤ w.heap.size) (hn : n ≤ 1048576) (hn1 : 1 ≤ n') (hn' : n' ≤ 1048576) (hL : ∀ p ∈ L, ptOk p.1 p.2 = true) (hM : ∀ p ∈ M, ptOk p.1 p.2 = true) (h0 : 0 ≤ r) (h1 : r ≤ 262144) :
    Calls Tryz.prog 25 #[.slice A n c, .slice A' n' c', .int .i64 r] w fun e w' => e = .returned (.bool v) ∧ Below w.heap.size w w' := by
  have hl := Lib.hid hr.1
  replace hr := Lib.hid hr
  replace hr' := Lib.hid hr'
  replace hv := Lib.hid hv
  replace hL := Lib.hid hL
  replace hM := Lib.hid hM
  go_enter Tryz.func25, Tryz.ntmps25
  go_wp2_with fail
  go_loopw [11] (fun i wr => ∃ k : Nat, i = .int .i64 k ∧ k ≤ n ∧ (L.take k).all (fun p => nearP M p.1 p.2 r) = true ∧ Below w.heap.size w wr) (fun i wr => n - (intOf i).toNat)
  case atStart => exact ⟨0, rfl, Nat.zero_le _, rfl, Below.refl _ _⟩
  case round =>
    obtain ⟨k, rfl, hk, hall, hbel⟩ := hrel
    replace hall := Lib.hid hall
    have hsz := hbel.size
    by_cases hlt : k < n
    · obtain ⟨b, off, ⟨x0, x1⟩, rfl, hb0, hb, hja, hcs⟩ := (hr.out.frame (good_flat _) (Below.sameB hbel hhi)).at hlt
      have q0 := hcs 0 _ rfl
      have q1 := hcs 1 _ rfl
      simp only [Nat.add_zero] at q0 q1
      have hbw : b < wr.heap.size := by omega
      have hok := hL.out _ (List.mem_of_getElem? hja)
      obtain ⟨t, ht⟩ : ∃ t, t = nearP M x0 x1 r := ⟨_, rfl⟩
      have hcall := Lib.hid (fun W (hS : Below w.heap.size w W) => nearPath_any A' n' c' lo' hi' M x0 x1 r t ht W (hr'.out.frame (good_flat _) (Below.sameB hS hhi')) (Nat.le_trans hhi' hS.size) hn1 hn' hM.out hok h0 h1)
      replace hja := Lib.hid hja
      replace ht := Lib.hid ht
      clear hcs hb0 hb hok
      go_wp2_with fail
      refine (hcall.out _ (by first | exact hbel | exact hbel.alloc hbel.size _)).mono ?_
      rintro e w1 ⟨rfl, hb1⟩
      cases t with
      | false =>
        have hvf : v = false := by rw [hv.out]; exact allT_no hja.out ht.out.symm
        subst hvf
        go_wp2_with fail
        go_ret
        exact ⟨rfl, (hbel.alloc hbel.size _).trans (hb1.mono (by simp; omega))⟩
      | true =>
        go_wp2_with fail
        go_roundw
        case rel => exact ⟨k + 1, by go_num, by omega, allT_step (f := fun p => nearP M p.1 p.2 r) hall.out hja.out ht.out.symm, (hbel.alloc hbel.size _).trans (hb1.mono (by simp; omega))⟩
        case measure => simp [intOf]; omega
    · have hkn : k = n := by omega
      have hvt : v = true := by rw [hv.out, withinB, ← List.take_of_length_le (l := L) (i := k) (by rw [hl.out]; omega)]; exact hall.out
      subst hvt
      replace hkn := Lib.hid hkn
      go_wp2_with fail
      go_ret
      exact ⟨rfl, hbel⟩

end Go.Proofs.YtgelkdcggnffeaaGreat

