/- The law on PathWithin. Conditions: as each states. -/
import Derived.Test.YtpjmpbdbfldnaaaNearL
namespace Go.Proofs.Ytpjmpbdbfldnaaa
open Go.RowKit
set_option linter.unusedVariables false
set_option maxRecDepth 100000

set_option maxHeartbeats 2000000 in
theorem l16Within_any (A A' : Option Addr) (n c n' c' lo hi lo' hi' : Nat) (L M : List (Int × Int)) (r : Int) (v : Bool) (hv : v = withinB L M r) (w : World) (hr : RdS 2 (FlatR ptC) w lo hi A n L) (hr' : RdS 2 (FlatR ptC) w lo' hi' A' n' M) (hhi : hi ≤ w.heap.size) (hhi' : hi' ≤ w.heap.size) (hn : n ≤ 1048576) (hn1 : 1 ≤ n') (hn' : n' ≤ 1048576) (hL : ∀ p ∈ L, ptOk p.1 p.2 = true) (hM : ∀ p ∈ M, ptOk p.1 p.2 = true) (h0 : 0 ≤ r) (h1 : r ≤ 262144) :
    Calls Try.prog 93 #[.slice A n c, .slice A' n' c', .int .i64 r] w fun e w' => e = .returned (.bool v) ∧ Below w.heap.size w w' := by
  have hl := Lib.hid hr.1
  replace hr := Lib.hid hr
  replace hr' := Lib.hid hr'
  replace hv := Lib.hid hv
  replace hL := Lib.hid hL
  replace hM := Lib.hid hM
  go_enter Try.func93, Try.ntmps93
  go_wp2_with fail
  go_loopw [7] (fun i wr => ∃ k : Nat, i = .int .i64 k ∧ k ≤ n ∧ (L.take k).all (fun p => nearP M p.1 p.2 r) = true ∧ Below w.heap.size w wr) (fun i wr => n - (intOf i).toNat)
  case atStart => exact ⟨0, rfl, Nat.zero_le _, rfl, Below.refl _ _⟩
  case round =>
    obtain ⟨k, rfl, hk, hall, hbel⟩ := hrel
    replace hall := Lib.hid hall
    have hsz := hbel.size
    by_cases hlt : k < n
    · obtain ⟨b, off, ⟨x0, x1⟩, rfl, hb0, hb, hja, hcs⟩ := (hr.out.frame (good_flat _) (Below.sameB hbel hhi)).at hlt
      have q0 := hcs 0 _ rfl
      have q1 := hcs 1 _ rfl
      simp only [Nat.add_zero] at q0 q1
      have hbw : b < wr.heap.size := by omega
      have hok := hL.out _ (List.mem_of_getElem? hja)
      obtain ⟨t, ht⟩ : ∃ t, t = nearP M x0 x1 r := ⟨_, rfl⟩
      have hcall := Lib.hid (fun W (hS : Below w.heap.size w W) => l16Near_any A' n' c' lo' hi' M x0 x1 r t ht W (hr'.out.frame (good_flat _) (Below.sameB hS hhi')) (Nat.le_trans hhi' hS.size) hn1 hn' hM.out hok h0 h1)
      replace hja := Lib.hid hja
      replace ht := Lib.hid ht
      clear hcs hb0 hb hok
      go_wp2_with fail
      refine (hcall.out _ (by first | exact hbel | exact hbel.alloc hbel.size _)).mono ?_
      rintro e w1 ⟨rfl, hb1⟩
      cases t with
      | false =>
        have hvf : v = false := by rw [hv.out]; exact allT_no hja.out ht.out.symm
        subst hvf
        go_wp2_with fail
        go_ret
        exact ⟨rfl, hbel.trans (hb1.mono hbel.size)⟩
      | true =>
        go_wp2_with fail
        go_roundw
        case rel => exact ⟨k + 1, by go_num, by omega, allT_step (f := fun p => nearP M p.1 p.2 r) hall.out hja.out ht.out.symm, hbel.trans (hb1.mono hbel.size)⟩
        case measure => simp [intOf]; omega
    · have hkn : k = n := by omega
      have hvt : v = true := by rw [hv.out, withinB, ← List.take_of_length_le (l := L) (i := k) (by rw [hl.out]; omega)]; exact hall.out
      subst hvt
      replace hkn := Lib.hid hkn
      go_wp2_with fail
      go_ret
      exact ⟨rfl, hbel⟩

set_option maxHeartbeats 2000000 in
theorem pathWithin_any (A A' : Option Addr) (n c n' c' lo hi lo' hi' : Nat) (L M : List (Int × Int)) (r : Int) (v : Bool) (hv : v = withinB L M r) (w : World) (hr : RdS 2 (FlatR ptC) w lo hi A n L) (hr' : RdS 2 (FlatR ptC) w lo' hi' A' n' M) (hhi : hi ≤ w.heap.size) (hhi' : hi' ≤ w.heap.size) (hn : n ≤ 1048576) (hn1 : 1 ≤ n') (hn' : n' ≤ 1048576) (hL : ∀ p ∈ L, ptOk p.1 p.2 = true) (hM : ∀ p ∈ M, ptOk p.1 p.2 = true) (h0 : 0 ≤ r) (h1 : r ≤ 262144) :
    Calls Try.prog 94 #[.slice A n c, .slice A' n' c', .int .i64 r] w fun e w' => e = .returned (.bool v) ∧ Below w.heap.size w w' := by
  have hl := Lib.hid hr.1
  replace hr := Lib.hid hr
  replace hr' := Lib.hid hr'
  replace hv := Lib.hid hv
  replace hL := Lib.hid hL
  replace hM := Lib.hid hM
  go_enter Try.func94, Try.ntmps94
  go_wp2_with fail
  go_loopw [11] (fun i wr => ∃ k : Nat, i = .int .i64 k ∧ k ≤ n ∧ (L.take k).all (fun p => nearP M p.1 p.2 r) = true ∧ Below w.heap.size w wr) (fun i wr => n - (intOf i).toNat)
  case atStart => exact ⟨0, rfl, Nat.zero_le _, rfl, Below.refl _ _⟩
  case round =>
    obtain ⟨k, rfl, hk, hall, hbel⟩ := hrel
    replace hall := Lib.hid hall
    have hsz := hbel.size
    by_cases hlt : k < n
    · obtain ⟨b, off, ⟨x0, x1⟩, rfl, hb0, hb, hja, hcs⟩ := (hr.out.frame (good_flat _) (Below.sameB hbel hhi)).at hlt
      have q0 := hcs 0 _ rfl
      have q1 := hcs 1 _ rfl
      simp only [Nat.add_zero] at q0 q1
      have hbw : b < wr.heap.size := by omega
      have hok := hL.out _ (List.mem_of_getElem? hja)
      obtain ⟨t, ht⟩ : ∃ t, t = nearP M x0 x1 r := ⟨_, rfl⟩
      have hcall := Lib.hid (fun W (hS : Below w.heap.size w W) => nearPath_any A' n' c' lo' hi' M x0 x1 r t ht W (hr'.out.frame (good_flat _) (Below.sameB hS hhi')) (Nat.le_trans hhi' hS.size) hn1 hn' hM.out hok h0 h1)
      replace hja := Lib.hid hja
      replace ht := Lib.hid ht
      clear hcs hb0 hb hok
      go_wp2_with fail
      refine (hcall.out _ (by first | exact hbel | exact hbel.alloc hbel.size _)).mono ?_
      rintro e w1 ⟨rfl, hb1⟩
      cases t with
      | false =>
        have hvf : v = false := by rw [hv.out]; exact allT_no hja.out ht.out.symm
        subst hvf
        go_wp2_with fail
        go_ret
        exact ⟨rfl, (hbel.alloc hbel.size _).trans (hb1.mono (by simp; omega))⟩
      | true =>
        go_wp2_with fail
        go_roundw
        case rel => exact ⟨k + 1, by go_num, by omega, allT_step (f := fun p => nearP M p.1 p.2 r) hall.out hja.out ht.out.symm, (hbel.alloc hbel.size _).trans (hb1.mono (by simp; omega))⟩
        case measure => simp [intOf]; omega
    · have hkn : k = n := by omega
      have hvt : v = true := by rw [hv.out, withinB, ← List.take_of_length_le (l := L) (i := k) (by rw [hl.out]; omega)]; exact hall.out
      subst hvt
      replace hkn := Lib.hid hkn
      go_wp2_with fail
      go_ret
      exact ⟨rfl, hbel⟩

set_option maxHeartbeats 2000000 in
theorem specWithin_any (A A' : Option Addr) (n c n' c' lo hi lo' hi' : Nat) (L M : List (Int × Int)) (r : Int) (v : Bool) (hv : v = withinOk L M r) (w : World) (hr : RdS 2 (FlatR ptC) w lo hi A n L) (hr' : RdS 2 (FlatR ptC) w lo' hi' A' n' M) (hhi : hi ≤ w.heap.size) (hhi' : hi' ≤ w.heap.size) (hn : n ≤ 1048576) (hn' : n' ≤ 1048576) :
    Calls Try.prog 26 #[.slice A n c, .slice A' n' c', .int .i64 r] w fun e w' => e = .returned (.bool v) ∧ Below w.heap.size w w' := by
  obtain ⟨t1, ht1⟩ : ∃ t, t = pathOk L := ⟨_, rfl⟩
  obtain ⟨t2, ht2⟩ : ∃ t, t = pathOk M := ⟨_, rfl⟩
  have hp1 := Lib.hid (l12Path_any A n c lo hi L t1 ht1 w hr hhi hn)
  have hp2 := Lib.hid (fun W (hS : Below w.heap.size w W) => l12Path_any A' n' c' lo' hi' M t2 ht2 W (hr'.frame (good_flat _) (Below.sameB hS hhi')) (Nat.le_trans hhi' hS.size) hn')
  unfold withinOk at hv
  rw [← ht1, ← ht2] at hv
  have hl := hr.1
  have hl' := hr'.1
  cases t1 with
  | false =>
    have hvf : v = false := by rw [hv]; rfl
    subst hvf
    clear hv ht1 ht2 hr hr' hl hl'
    go_enter Try.func26, Try.ntmps26
    go_wp2_with fail
    refine hp1.out.mono ?_
    rintro e w1 ⟨rfl, hb1⟩
    go_wp2_with fail
    go_ret
    exact ⟨rfl, hb1⟩
  | true =>
  obtain ⟨k1, k2, k3⟩ := pathOk_is ht1.symm
  cases t2 with
  | false =>
    have hvf : v = false := by rw [hv]; rfl
    subst hvf
    clear hv ht1 ht2 hr hr' hl hl' k3
    go_enter Try.func26, Try.ntmps26
    go_wp2_with fail
    refine hp1.out.mono ?_
    rintro e w1 ⟨rfl, hb1⟩
    go_wp2_with fail
    refine (hp2.out _ hb1).mono ?_
    rintro e w2 ⟨rfl, hb2⟩
    have hB2 := hb1.trans (hb2.mono hb1.size)
    go_wp2_with fail
    go_ret
    exact ⟨rfl, hB2⟩
  | true =>
  obtain ⟨j1, j2, j3⟩ := pathOk_is ht2.symm
  cases t3 : inB r 0 262144
  · have hvf : v = false := by rw [hv, t3]; rfl
    subst hvf
    clear hv ht1 ht2 hr hr' hl hl' k3 j3
    go_enter Try.func26, Try.ntmps26
    go_wp2_with fail
    refine hp1.out.mono ?_
    rintro e w1 ⟨rfl, hb1⟩
    go_wp2_with fail
    refine (hp2.out _ hb1).mono ?_
    rintro e w2 ⟨rfl, hb2⟩
    have hB2 := hb1.trans (hb2.mono hb1.size)
    go_wp2_with fail
    refine (l16Distance_any _ _).mono ?_
    rintro e w' ⟨rfl, rfl⟩
    go_wp2_with fail
    go_ret
    exact ⟨rfl, hB2⟩
  · have hvn : v = withinB L M r := by rw [hv, t3]; simp
    obtain ⟨r0, r1⟩ := inB_iff.1 t3
    have hwc := Lib.hid (fun W (hS : Below w.heap.size w W) => l16Within_any A A' n c n' c' lo hi lo' hi' L M r v hvn W (hr.frame (good_flat _) (Below.sameB hS hhi)) (hr'.frame (good_flat _) (Below.sameB hS hhi')) (Nat.le_trans hhi hS.size) (Nat.le_trans hhi' hS.size) hn (by omega) hn' k3 j3 r0 r1)
    clear hv ht1 ht2 k3 j3 hvn hl hl' hr hr'
    go_enter Try.func26, Try.ntmps26
    go_wp2_with fail
    refine hp1.out.mono ?_
    rintro e w1 ⟨rfl, hb1⟩
    go_wp2_with fail
    refine (hp2.out _ hb1).mono ?_
    rintro e w2 ⟨rfl, hb2⟩
    have hB2 := hb1.trans (hb2.mono hb1.size)
    go_wp2_with fail
    refine (l16Distance_any _ _).mono ?_
    rintro e w' ⟨rfl, rfl⟩
    go_wp2_with fail
    refine (hwc.out _ hB2).mono ?_
    rintro e w3 ⟨rfl, hb3⟩
    have hB3 := hB2.trans (hb3.mono hB2.size)
    go_wp2_with fail
    go_ret
    exact ⟨rfl, hB3⟩

set_option maxHeartbeats 2000000 in
theorem implWithin_any (A A' : Option Addr) (n c n' c' lo hi lo' hi' : Nat) (L M : List (Int × Int)) (r : Int) (v : Bool) (hv : v = withinOk L M r) (w : World) (hr : RdS 2 (FlatR ptC) w lo hi A n L) (hr' : RdS 2 (FlatR ptC) w lo' hi' A' n' M) (hhi : hi ≤ w.heap.size) (hhi' : hi' ≤ w.heap.size) (hn : n ≤ 1048576) (hn' : n' ≤ 1048576) :
    Calls Try.prog 27 #[.slice A n c, .slice A' n' c', .int .i64 r] w fun e w' => e = .returned (.bool v) ∧ Below w.heap.size w w' := by
  obtain ⟨t1, ht1⟩ : ∃ t, t = pathOk L := ⟨_, rfl⟩
  obtain ⟨t2, ht2⟩ : ∃ t, t = pathOk M := ⟨_, rfl⟩
  have hp1 := Lib.hid (isPath_any A n c lo hi L t1 ht1 w hr hhi hn)
  have hp2 := Lib.hid (fun W (hS : Below w.heap.size w W) => isPath_any A' n' c' lo' hi' M t2 ht2 W (hr'.frame (good_flat _) (Below.sameB hS hhi')) (Nat.le_trans hhi' hS.size) hn')
  unfold withinOk at hv
  rw [← ht1, ← ht2] at hv
  have hl := hr.1
  have hl' := hr'.1
  cases t1 with
  | false =>
    have hvf : v = false := by rw [hv]; rfl
    subst hvf
    clear hv ht1 ht2 hr hr' hl hl'
    go_enter Try.func27, Try.ntmps27
    go_wp2_with fail
    refine hp1.out.mono ?_
    rintro e w1 ⟨rfl, hb1⟩
    go_wp2_with fail
    go_ret
    exact ⟨rfl, hb1⟩
  | true =>
  obtain ⟨k1, k2, k3⟩ := pathOk_is ht1.symm
  cases t2 with
  | false =>
    have hvf : v = false := by rw [hv]; rfl
    subst hvf
    clear hv ht1 ht2 hr hr' hl hl' k3
    go_enter Try.func27, Try.ntmps27
    go_wp2_with fail
    refine hp1.out.mono ?_
    rintro e w1 ⟨rfl, hb1⟩
    go_wp2_with fail
    refine (hp2.out _ hb1).mono ?_
    rintro e w2 ⟨rfl, hb2⟩
    have hB2 := hb1.trans (hb2.mono hb1.size)
    go_wp2_with fail
    go_ret
    exact ⟨rfl, hB2⟩
  | true =>
  obtain ⟨j1, j2, j3⟩ := pathOk_is ht2.symm
  cases t3 : inB r 0 262144
  · have hvf : v = false := by rw [hv, t3]; rfl
    subst hvf
    clear hv ht1 ht2 hr hr' hl hl' k3 j3
    go_enter Try.func27, Try.ntmps27
    go_wp2_with fail
    refine hp1.out.mono ?_
    rintro e w1 ⟨rfl, hb1⟩
    go_wp2_with fail
    refine (hp2.out _ hb1).mono ?_
    rintro e w2 ⟨rfl, hb2⟩
    have hB2 := hb1.trans (hb2.mono hb1.size)
    go_wp2_with fail
    refine (isDistance_any _ _).mono ?_
    rintro e w' ⟨rfl, rfl⟩
    go_wp2_with fail
    go_ret
    exact ⟨rfl, hB2⟩
  · have hvn : v = withinB L M r := by rw [hv, t3]; simp
    obtain ⟨r0, r1⟩ := inB_iff.1 t3
    have hwc := Lib.hid (fun W (hS : Below w.heap.size w W) => pathWithin_any A A' n c n' c' lo hi lo' hi' L M r v hvn W (hr.frame (good_flat _) (Below.sameB hS hhi)) (hr'.frame (good_flat _) (Below.sameB hS hhi')) (Nat.le_trans hhi hS.size) (Nat.le_trans hhi' hS.size) hn (by omega) hn' k3 j3 r0 r1)
    clear hv ht1 ht2 k3 j3 hvn hl hl' hr hr'
    go_enter Try.func27, Try.ntmps27
    go_wp2_with fail
    refine hp1.out.mono ?_
    rintro e w1 ⟨rfl, hb1⟩
    go_wp2_with fail
    refine (hp2.out _ hb1).mono ?_
    rintro e w2 ⟨rfl, hb2⟩
    have hB2 := hb1.trans (hb2.mono hb1.size)
    go_wp2_with fail
    refine (isDistance_any _ _).mono ?_
    rintro e w' ⟨rfl, rfl⟩
    go_wp2_with fail
    refine (hwc.out _ hB2).mono ?_
    rintro e w3 ⟨rfl, hb3⟩
    have hB3 := hB2.trans (hb3.mono hB2.size)
    go_wp2_with fail
    go_ret
    exact ⟨rfl, hB3⟩


set_option maxHeartbeats 4000000 in
theorem lawWithin_walk (A : Option Addr) (n c : Nat) (L : List (Int × Int)) (A' : Option Addr) (n' c' : Nat) (M : List (Int × Int)) (r : Int) {w : World} (hr : RdS 2 (FlatR ptC) w 0 w.heap.size A n L) (hm : n ≤ maxLen) (hr' : RdS 2 (FlatR ptC) w 0 w.heap.size A' n' M) (hm' : n' ≤ maxLen) (_ : (Lit.int .i64 r).wf = true) :
    Calls Try.prog 4 #[.slice A n c, .slice A' n' c', .int .i64 r] w fun e w' => e = .returned (.bool true) ∧ Below w.heap.size w w' := by
  obtain ⟨v, hv⟩ : ∃ v, v = withinOk L M r := ⟨_, rfl⟩
  have hspec := Lib.hid (fun A n c A' n' c' lo hi lo' hi' W h h' h1 h1' h2 h2' => specWithin_any A A' n c n' c' lo hi lo' hi' L M r v hv W h h' h1 h1' h2 h2')
  have himpl := Lib.hid (fun A n c A' n' c' lo hi lo' hi' W h h' h1 h1' h2 h2' => implWithin_any A A' n c n' c' lo hi lo' hi' L M r v hv W h h' h1 h1' h2 h2')
  clear hv
  have hll := Lib.hid hr.1
  have hll' := Lib.hid hr'.1
  unfold maxLen at hm hm'
  replace hr := Lib.hid hr
  replace hr' := Lib.hid hr'
  by_cases hn : (n : Int) ≤ 1048576
  rotate_left
  · have hsz := Lib.hid (fun W => szPtS_any A n c 1048576 W hm (by omega) (by omega) (-1) (by rw [if_neg (by omega)]))
    go_enter Try.func4, Try.ntmps4
    go_wp2_with fail
    refine (hsz.out _).mono ?_
    rintro e w' ⟨rfl, rfl⟩
    go_wp2_with fail
    go_ret
    exact ⟨rfl, Below.refl _ _⟩
  obtain ⟨r1, hr1⟩ : ∃ x : Int, x = 1048576 - (n : Int) := ⟨_, rfl⟩
  have hr0 : 0 ≤ r1 ∧ r1 ≤ 1048576 := by omega
  have hsz := Lib.hid (fun W => szPtS_any A n c 1048576 W hm (by omega) (by omega) r1 (by rw [if_pos hn]; exact hr1))
  replace hr1 := Lib.hid hr1
  obtain ⟨r00, r01⟩ := hr0
  by_cases hn' : (n' : Int) ≤ r1
  rotate_left
  · have hsz2 := Lib.hid (fun W => szPtS_any A' n' c' r1 W hm' r00 r01 (-1) (by rw [if_neg (by omega)]))
    go_enter Try.func4, Try.ntmps4
    go_wp2_with fail
    refine (hsz.out _).mono ?_
    rintro e w' ⟨rfl, rfl⟩
    go_wp2_with fail
    refine (hsz2.out _).mono ?_
    rintro e w' ⟨rfl, rfl⟩
    go_wp2_with fail
    go_ret
    exact ⟨rfl, Below.refl _ _⟩
  obtain ⟨r2, hr2⟩ : ∃ x : Int, x = r1 - (n' : Int) := ⟨_, rfl⟩
  have hr20 : 0 ≤ r2 := by omega
  have hsz2 := Lib.hid (fun W => szPtS_any A' n' c' r1 W hm' r00 r01 r2 (by rw [if_pos hn']; exact hr2))
  have g1 : n ≤ 1048576 := by omega
  have g2 : n' ≤ 1048576 := by omega
  clear hr2
  go_enter Try.func4, Try.ntmps4
  go_wp2_with fail
  refine (hsz.out _).mono ?_
  rintro e w' ⟨rfl, rfl⟩
  go_wp2_with fail
  refine (hsz2.out _).mono ?_
  rintro e w' ⟨rfl, rfl⟩
  go_wp2_with fail
  refine (toPtS_any A n c 0 w.heap.size L _ (hr.out.frame (good_flat _) (Below.sameB (Below.refl _ _) (Nat.le_refl _))) (Below.refl _ _ : Below w.heap.size w w).size g1).mono ?_
  rintro e w1 ⟨p1, rfl, hg1, ho1, hb1⟩
  have hz1 : w.heap.size ≤ w1.heap.size := hb1.size
  have hB1 : Below w.heap.size w w1 := hb1
  have rd1 := Lib.hid (rdS_own ptC_len (by omega) ho1 hll.out)
  clear ho1 hg1
  clear hb1
  go_wp2_with fail
  refine (toPtS_any A' n' c' 0 w.heap.size M _ (hr'.out.frame (good_flat _) (Below.sameB (hB1) (Nat.le_refl _))) (hB1 : Below w.heap.size w w1).size g2).mono ?_
  rintro e w2 ⟨p2, rfl, hg2, ho2, hb2⟩
  have hz2 : w1.heap.size ≤ w2.heap.size := hb2.size
  have hB2 : Below w.heap.size w w2 := hB1.trans (hb2.mono hB1.size)
  replace rd1 := Lib.hid (rd1.out.frame (good_flat _) (Below.sameB hb2 (by omega)))
  have rd2 := Lib.hid (rdS_own ptC_len (by omega) ho2 hll'.out)
  clear ho2 hg2
  clear hb2
  go_wp2_with fail
  refine (hspec.out _ _ _ _ _ _ _ _ _ _ _ rd1.out rd2.out (by omega) (by omega) g1 g2).mono ?_
  rintro e w3 ⟨rfl, hb3⟩
  have hz3 : w2.heap.size ≤ w3.heap.size := hb3.size
  have hB3 : Below w.heap.size w w3 := hB2.trans (hb3.mono hB2.size)
  replace rd1 := Lib.hid (rd1.out.frame (good_flat _) (Below.sameB hb3 (by omega)))
  replace rd2 := Lib.hid (rd2.out.frame (good_flat _) (Below.sameB hb3 (by omega)))
  clear hb3
  clear rd1 rd2
  go_wp2_with fail
  refine (toPtS_any A n c 0 w.heap.size L _ (hr.out.frame (good_flat _) (Below.sameB (hB3) (Nat.le_refl _))) (hB3 : Below w.heap.size w w3).size g1).mono ?_
  rintro e w4 ⟨p4, rfl, hg4, ho4, hb4⟩
  have hz4 : w3.heap.size ≤ w4.heap.size := hb4.size
  have hB4 : Below w.heap.size w w4 := hB3.trans (hb4.mono hB3.size)
  have rd4 := Lib.hid (rdS_own ptC_len (by omega) ho4 hll.out)
  clear ho4 hg4
  clear hb4
  go_wp2_with fail
  refine (toPtS_any A' n' c' 0 w.heap.size M _ (hr'.out.frame (good_flat _) (Below.sameB (hB4) (Nat.le_refl _))) (hB4 : Below w.heap.size w w4).size g2).mono ?_
  rintro e w5 ⟨p5, rfl, hg5, ho5, hb5⟩
  have hz5 : w4.heap.size ≤ w5.heap.size := hb5.size
  have hB5 : Below w.heap.size w w5 := hB4.trans (hb5.mono hB4.size)
  replace rd4 := Lib.hid (rd4.out.frame (good_flat _) (Below.sameB hb5 (by omega)))
  have rd5 := Lib.hid (rdS_own ptC_len (by omega) ho5 hll'.out)
  clear ho5 hg5
  clear hb5
  go_wp2_with fail
  refine (himpl.out _ _ _ _ _ _ _ _ _ _ _ rd4.out rd5.out (by omega) (by omega) g1 g2).mono ?_
  rintro e w6 ⟨rfl, hb6⟩
  have hz6 : w5.heap.size ≤ w6.heap.size := hb6.size
  have hB6 : Below w.heap.size w w6 := hB5.trans (hb6.mono hB5.size)
  replace rd4 := Lib.hid (rd4.out.frame (good_flat _) (Below.sameB hb6 (by omega)))
  replace rd5 := Lib.hid (rd5.out.frame (good_flat _) (Below.sameB hb6 (by omega)))
  clear hb6
  have hvv : (v != v) = false := by simp
  go_wp2_with fail
  refine (toPtS_any A n c 0 w.heap.size L _ (hr.out.frame (good_flat _) (Below.sameB (hB6) (Nat.le_refl _))) (hB6 : Below w.heap.size w w6).size g1).mono ?_
  rintro e w7 ⟨p7, rfl, hg7, ho7, hb7⟩
  have hz7 : w6.heap.size ≤ w7.heap.size := hb7.size
  have hB7 : Below w.heap.size w w7 := hB6.trans (hb7.mono hB6.size)
  replace rd4 := Lib.hid (rd4.out.frame (good_flat _) (Below.sameB hb7 (by omega)))
  replace rd5 := Lib.hid (rd5.out.frame (good_flat _) (Below.sameB hb7 (by omega)))
  have rd7 := Lib.hid (rdS_own ptC_len (by omega) ho7 hll.out)
  clear ho7 hg7
  clear hb7
  go_wp2_with fail
  refine (eqPtS_any _ _ _ _ _ _ _ _ _ _ L _ rd4.out rd7.out (by omega) (by omega) (by omega)).mono ?_
  rintro e w8 ⟨rfl, hb8⟩
  have hz8 : w7.heap.size ≤ w8.heap.size := hb8.size
  have hB8 : Below w.heap.size w w8 := hB7.trans (hb8.mono hB7.size)
  replace rd4 := Lib.hid (rd4.out.frame (good_flat _) (Below.sameB hb8 (by omega)))
  replace rd5 := Lib.hid (rd5.out.frame (good_flat _) (Below.sameB hb8 (by omega)))
  replace rd7 := Lib.hid (rd7.out.frame (good_flat _) (Below.sameB hb8 (by omega)))
  clear hb8
  go_wp2_with fail
  refine (toPtS_any A' n' c' 0 w.heap.size M _ (hr'.out.frame (good_flat _) (Below.sameB (hB8) (Nat.le_refl _))) (hB8 : Below w.heap.size w w8).size g2).mono ?_
  rintro e w9 ⟨p9, rfl, hg9, ho9, hb9⟩
  have hz9 : w8.heap.size ≤ w9.heap.size := hb9.size
  have hB9 : Below w.heap.size w w9 := hB8.trans (hb9.mono hB8.size)
  replace rd4 := Lib.hid (rd4.out.frame (good_flat _) (Below.sameB hb9 (by omega)))
  replace rd5 := Lib.hid (rd5.out.frame (good_flat _) (Below.sameB hb9 (by omega)))
  replace rd7 := Lib.hid (rd7.out.frame (good_flat _) (Below.sameB hb9 (by omega)))
  have rd9 := Lib.hid (rdS_own ptC_len (by omega) ho9 hll'.out)
  clear ho9 hg9
  clear hb9
  go_wp2_with fail
  refine (eqPtS_any _ _ _ _ _ _ _ _ _ _ M _ rd5.out rd9.out (by omega) (by omega) (by omega)).mono ?_
  rintro e w10 ⟨rfl, hb10⟩
  have hz10 : w9.heap.size ≤ w10.heap.size := hb10.size
  have hB10 : Below w.heap.size w w10 := hB9.trans (hb10.mono hB9.size)
  replace rd4 := Lib.hid (rd4.out.frame (good_flat _) (Below.sameB hb10 (by omega)))
  replace rd5 := Lib.hid (rd5.out.frame (good_flat _) (Below.sameB hb10 (by omega)))
  replace rd7 := Lib.hid (rd7.out.frame (good_flat _) (Below.sameB hb10 (by omega)))
  replace rd9 := Lib.hid (rd9.out.frame (good_flat _) (Below.sameB hb10 (by omega)))
  clear hb10
  go_wp2_with fail
  go_ret
  exact ⟨rfl, hB10⟩
end Go.Proofs.Ytpjmpbdbfldnaaa
