/- Comparisons for scenes: closures and slices.EqualFunc at pens, paths, rows; SameSystem. Printed by mk_sceq2.py. Conditions: as each states. -/
import Derived.Test.YtgfbcbbcnineiaaGreatSc39
namespace Go.Proofs.YtgfbcbbcnineiaaGreat
open Go.RowKit
set_option linter.unusedVariables false
set_option maxRecDepth 100000

set_option maxHeartbeats 4000000 in
theorem sameNamedPen_any (x0 y0 : ByteArray) (A A' : Option Addr) (n c n' c' lo hi lo' hi' : Nat) (L M : List (Int × Int)) (b : Bool) (hb : b = decide ((⟨x0, L⟩ : NamedPenD) = (⟨y0, M⟩ : NamedPenD))) (w : World) (h1 : RdS 2 (FlatR ptC) w lo hi A n L) (h2 : RdS 2 (FlatR ptC) w lo' hi' A' n' M) (hh1 : hi ≤ w.heap.size) (hh2 : hi' ≤ w.heap.size) (hn : n ≤ 1000000000) (hn' : n' ≤ 1000000000) :
    Calls Tryz.prog 27 #[.agg #[.string x0, .slice A n c], .agg #[.string y0, .slice A' n' c']] w fun e w' => e = .returned (.bool b) ∧ Below w.heap.size w w' := by
  have hne : Hid ((x0 ≠ y0 ∨ L ≠ M) → b = false) := fun hor => by
    rw [hb, decide_eq_false_iff_not]; intro e; injection e with g0 g1
    rcases hor with h | h
    · exact h g0
    · exact h g1
  have hyes : Hid (x0 = y0 → L = M → b = true) := fun e0 e1 => by rw [hb, decide_eq_true_iff, e0, e1]
  clear hb
  by_cases e0 : x0 = y0
  rotate_left
  · have hbf := hne.out (.inl e0)
    subst hbf
    have ux0 : (x0.toList == y0.toList) = false := bytes_neq e0
    clear e0 h1 h2
    go_enter Tryz.func27, Tryz.ntmps27
    go_wp2_with fail
    go_ret
    exact ⟨rfl, Go.Joins.below_alloc2 _ _ _⟩
  subst e0
  have hB0 : Below w.heap.size w ((w.alloc (.cells #[.string x0, .slice A n c] 79 (0, 0))).alloc (.cells #[.string x0, .slice A' n' c'] 79 (0, 0))) := Go.Joins.below_alloc2 _ _ _
  obtain ⟨u, hu⟩ : ∃ u, u = decide (L = M) := ⟨_, rfl⟩
  have hc := Lib.hid (equalPt_any A A' n c n' c' lo hi lo' hi' L M u hu ((w.alloc (.cells #[.string x0, .slice A n c] 79 (0, 0))).alloc (.cells #[.string x0, .slice A' n' c'] 79 (0, 0))) (h1.frame (good_flat _) (Below.sameB hB0 hh1)) (h2.frame (good_flat _) (Below.sameB hB0 hh2)) (Nat.le_trans hh1 hB0.size) (Nat.le_trans hh2 hB0.size) hn hn')
  have hbt : b = u := by
    cases u
    · exact hne.out (.inr (of_decide_eq_false hu.symm))
    · exact hyes.out rfl (of_decide_eq_true hu.symm)
  subst hbt
  clear h1 h2 hu
  go_enter Tryz.func27, Tryz.ntmps27
  go_wp2_with fail
  refine hc.out.mono ?_
  rintro e w1 ⟨rfl, q, rfl⟩
  go_wp2_with fail
  go_ret
  exact ⟨rfl, below_drewN hB0 _⟩
theorem sameNamedPen_d (d d' : NamedPenD) (h h' : Hd) (b : Bool) (hb : b = decide (d = d')) (lo hi lo' hi' : Nat) (w : World) (h1 : penI w lo hi d h) (h2 : penI w lo' hi' d' h') (hh1 : hi ≤ w.heap.size) (hh2 : hi' ≤ w.heap.size) (hm : d.L.length ≤ 1000000000) (hm' : d'.L.length ≤ 1000000000) :
    Calls Tryz.prog 27 #[penV d h, penV d' h'] w fun e w' => e = .returned (.bool b) ∧ Below w.heap.size w w' :=
  sameNamedPen_any d.name d'.name h.A h'.A h.n h.c h'.n h'.c lo hi lo' hi' d.L d'.L b hb w h1 h2 hh1 hh2 (by rw [← h1.1]; exact hm) (by rw [← h2.1]; exact hm')

set_option maxHeartbeats 4000000 in
theorem equalFNamedPen_any (A A' : Option Addr) (n c n' c' lo hi lo' hi' : Nat) (L M : List NamedPenD) (b : Bool) (hb : b = decide (L = M)) (w : World) (h1 : pensRd w lo hi A n L) (h2 : pensRd w lo' hi' A' n' M) (hh1 : hi ≤ w.heap.size) (hh2 : hi' ≤ w.heap.size) (hL : SmL penLen 1000000000 L) (hM : SmL penLen 1000000000 M) :
    Calls Tryz.prog 26 #[.slice A n c, .slice A' n' c', .func (.func 27) #[] #[]] w fun e w' => e = .returned (.bool b) ∧ Below w.heap.size w w' := by
  have hn : n ≤ 1000000000 := by rw [← h1.1]; exact hL.1
  have hn' : n' ≤ 1000000000 := by rw [← h2.1]; exact hM.1
  by_cases hl : n = n'
  rotate_left
  · have hbf : b = false := by
      rw [hb, decide_eq_false_iff_not]; rintro rfl; exact hl (h1.1.symm.trans h2.1)
    have t1 : ((n : Int) == (n' : Int)) = false := by simp; omega
    have t2 : ((n : Int) != (n' : Int)) = true := by simp; omega
    subst hbf
    clear hl h1 h2 hb
    go_enter Tryz.func26, Tryz.ntmps26
    go_wp2_with fail
    go_ret
    exact ⟨rfl, Below.refl _ _⟩
  subst hl
  have hfin := Lib.hid (fun h => take_eq_done (n := n) h h1.1 h2.1)
  replace hb := Lib.hid hb
  replace h1 := Lib.hid h1
  replace h2 := Lib.hid h2
  replace hL := Lib.hid hL
  replace hM := Lib.hid hM
  go_enter Tryz.func26, Tryz.ntmps26
  go_wp2_with fail
  go_loopw [17] (fun i wr => ∃ k : Nat, i = .int .i64 k ∧ k ≤ n ∧ L.take k = M.take k ∧ Below w.heap.size w wr) (fun i wr => n - (intOf i).toNat)
  case atStart => exact ⟨0, rfl, Nat.zero_le _, rfl, Below.refl _ _⟩
  case round =>
    obtain ⟨k, rfl, hk, htk, hbel⟩ := hrel
    replace htk := Lib.hid htk
    have hsz := hbel.size
    by_cases hlt : k < n
    · obtain ⟨b1, f1, d, h, rfl, hb0, hb1, hja, hcs, hr1⟩ := pen_at (h1.out.frame good_pen (Below.sameB hbel hh1)) hlt
      obtain ⟨b2, f2, d', h', rfl, hb0', hb2, hja', hcs', hr2⟩ := pen_at (h2.out.frame good_pen (Below.sameB hbel hh2)) hlt
      have q0 := hcs 0 _ rfl
      have r0 := hcs' 0 _ rfl
      have q1 := hcs 1 _ rfl
      have r1 := hcs' 1 _ rfl
      simp only [Nat.add_zero] at q0 r0
      have hl1 := hL.out.2 d (List.mem_of_getElem? hja)
      have hl2 := hM.out.2 d' (List.mem_of_getElem? hja')
      obtain ⟨t, ht⟩ : ∃ t, t = decide (d = d') := ⟨_, rfl⟩
      have hcall := Lib.hid (fun x y => sameNamedPen_d d d' h h' t ht lo hi lo' hi' ((wr.alloc x).alloc y) (hr1.frame (good_flat _) (((SameB.refl _ _ wr).alloc (by omega) _).alloc (by simp; omega) _)) (hr2.frame (good_flat _) (((SameB.refl _ _ wr).alloc (by omega) _).alloc (by simp; omega) _)) (by simp; omega) (by simp; omega) hl1 hl2)
      have hbw : b1 < wr.heap.size := by omega
      have hbw' : b2 < wr.heap.size := by omega
      have hno := Lib.hid (fun h => ne_list_at hja hja' h)
      have hst := Lib.hid (fun (h : d = d') => take_eq_step htk.out hja (h ▸ hja'))
      clear hr1 hr2 hja hja' hb0 hb0' hl1 hl2 hcs hcs'
      replace ht := Lib.hid ht
      go_wp2_with fail
      refine (hcall.out _ _).mono ?_
      rintro e w1 ⟨rfl, hb1⟩
      have hbel1 : Below w.heap.size w w1 := ((hbel.alloc hbel.size _).alloc (by simp; omega) _).trans (hb1.mono (by simp; omega))
      cases t with
      | false =>
        have hbf : b = false := by rw [hb.out]; exact hno.out ht.out.symm
        subst hbf
        go_wp2_with fail
        go_ret
        exact ⟨rfl, hbel1⟩
      | true =>
        go_wp2_with fail
        go_roundw
        case rel => exact ⟨k + 1, by go_num, by omega, hst.out (of_decide_eq_true ht.out.symm), hbel1⟩
        case measure => simp [intOf]; omega
    · have hkn : k = n := by omega
      have hbt : b = true := by rw [hb.out, decide_eq_true_iff]; exact hfin.out (by rw [← hkn]; exact htk.out)
      subst hbt
      replace hkn := Lib.hid hkn
      go_wp2_with fail
      go_ret
      exact ⟨rfl, hbel⟩

set_option maxHeartbeats 4000000 in
theorem sameNamedPath_any (x0 y0 : ByteArray) (x2 y2 : Bool) (A A' : Option Addr) (n c n' c' lo hi lo' hi' : Nat) (L M : List (Int × Int)) (b : Bool) (hb : b = decide ((⟨x0, L, x2⟩ : NamedPathD) = (⟨y0, M, y2⟩ : NamedPathD))) (w : World) (h1 : RdS 2 (FlatR ptC) w lo hi A n L) (h2 : RdS 2 (FlatR ptC) w lo' hi' A' n' M) (hh1 : hi ≤ w.heap.size) (hh2 : hi' ≤ w.heap.size) (hn : n ≤ 1000000000) (hn' : n' ≤ 1000000000) :
    Calls Tryz.prog 30 #[.agg #[.string x0, .slice A n c, .bool x2], .agg #[.string y0, .slice A' n' c', .bool y2]] w fun e w' => e = .returned (.bool b) ∧ Below w.heap.size w w' := by
  have hne : Hid ((x0 ≠ y0 ∨ x2 ≠ y2 ∨ L ≠ M) → b = false) := fun hor => by
    rw [hb, decide_eq_false_iff_not]; intro e; injection e with g0 g1 g2
    rcases hor with h | h | h
    · exact h g0
    · exact h g2
    · exact h g1
  have hyes : Hid (x0 = y0 → x2 = y2 → L = M → b = true) := fun e0 e1 e2 => by rw [hb, decide_eq_true_iff, e0, e1, e2]
  clear hb
  by_cases e0 : x0 = y0
  rotate_left
  · have hbf := hne.out (.inl e0)
    subst hbf
    have ux0 : (x0.toList == y0.toList) = false := bytes_neq e0
    clear e0 h1 h2
    go_enter Tryz.func30, Tryz.ntmps30
    go_wp2_with fail
    go_ret
    exact ⟨rfl, Go.Joins.below_alloc2 _ _ _⟩
  subst e0
  by_cases e1 : x2 = y2
  rotate_left
  · have hbf := hne.out (.inr (.inl e1))
    subst hbf
    have ux2 : (x2 == y2) = false := by simp [e1]
    clear e1 h1 h2
    go_enter Tryz.func30, Tryz.ntmps30
    go_wp2_with fail
    go_ret
    exact ⟨rfl, Go.Joins.below_alloc2 _ _ _⟩
  subst e1
  have hB0 : Below w.heap.size w ((w.alloc (.cells #[.string x0, .slice A n c, .bool x2] 82 (0, 0))).alloc (.cells #[.string x0, .slice A' n' c', .bool x2] 82 (0, 0))) := Go.Joins.below_alloc2 _ _ _
  obtain ⟨u, hu⟩ : ∃ u, u = decide (L = M) := ⟨_, rfl⟩
  have hc := Lib.hid (equalPt_any A A' n c n' c' lo hi lo' hi' L M u hu ((w.alloc (.cells #[.string x0, .slice A n c, .bool x2] 82 (0, 0))).alloc (.cells #[.string x0, .slice A' n' c', .bool x2] 82 (0, 0))) (h1.frame (good_flat _) (Below.sameB hB0 hh1)) (h2.frame (good_flat _) (Below.sameB hB0 hh2)) (Nat.le_trans hh1 hB0.size) (Nat.le_trans hh2 hB0.size) hn hn')
  have hbt : b = u := by
    cases u
    · exact hne.out (.inr (.inr (of_decide_eq_false hu.symm)))
    · exact hyes.out rfl rfl (of_decide_eq_true hu.symm)
  subst hbt
  clear h1 h2 hu
  go_enter Tryz.func30, Tryz.ntmps30
  go_wp2_with fail
  refine hc.out.mono ?_
  rintro e w1 ⟨rfl, q, rfl⟩
  go_wp2_with fail
  go_ret
  exact ⟨rfl, below_drewN hB0 _⟩
theorem sameNamedPath_d (d d' : NamedPathD) (h h' : Hd) (b : Bool) (hb : b = decide (d = d')) (lo hi lo' hi' : Nat) (w : World) (h1 : npathI w lo hi d h) (h2 : npathI w lo' hi' d' h') (hh1 : hi ≤ w.heap.size) (hh2 : hi' ≤ w.heap.size) (hm : d.L.length ≤ 1000000000) (hm' : d'.L.length ≤ 1000000000) :
    Calls Tryz.prog 30 #[npathV d h, npathV d' h'] w fun e w' => e = .returned (.bool b) ∧ Below w.heap.size w w' :=
  sameNamedPath_any d.name d'.name d.closed d'.closed h.A h'.A h.n h.c h'.n h'.c lo hi lo' hi' d.L d'.L b hb w h1 h2 hh1 hh2 (by rw [← h1.1]; exact hm) (by rw [← h2.1]; exact hm')

set_option maxHeartbeats 4000000 in
theorem equalFNamedPath_any (A A' : Option Addr) (n c n' c' lo hi lo' hi' : Nat) (L M : List NamedPathD) (b : Bool) (hb : b = decide (L = M)) (w : World) (h1 : npathsRd w lo hi A n L) (h2 : npathsRd w lo' hi' A' n' M) (hh1 : hi ≤ w.heap.size) (hh2 : hi' ≤ w.heap.size) (hL : SmL pathLen 1000000000 L) (hM : SmL pathLen 1000000000 M) :
    Calls Tryz.prog 29 #[.slice A n c, .slice A' n' c', .func (.func 30) #[] #[]] w fun e w' => e = .returned (.bool b) ∧ Below w.heap.size w w' := by
  have hn : n ≤ 1000000000 := by rw [← h1.1]; exact hL.1
  have hn' : n' ≤ 1000000000 := by rw [← h2.1]; exact hM.1
  by_cases hl : n = n'
  rotate_left
  · have hbf : b = false := by
      rw [hb, decide_eq_false_iff_not]; rintro rfl; exact hl (h1.1.symm.trans h2.1)
    have t1 : ((n : Int) == (n' : Int)) = false := by simp; omega
    have t2 : ((n : Int) != (n' : Int)) = true := by simp; omega
    subst hbf
    clear hl h1 h2 hb
    go_enter Tryz.func29, Tryz.ntmps29
    go_wp2_with fail
    go_ret
    exact ⟨rfl, Below.refl _ _⟩
  subst hl
  have hfin := Lib.hid (fun h => take_eq_done (n := n) h h1.1 h2.1)
  replace hb := Lib.hid hb
  replace h1 := Lib.hid h1
  replace h2 := Lib.hid h2
  replace hL := Lib.hid hL
  replace hM := Lib.hid hM
  go_enter Tryz.func29, Tryz.ntmps29
  go_wp2_with fail
  go_loopw [17] (fun i wr => ∃ k : Nat, i = .int .i64 k ∧ k ≤ n ∧ L.take k = M.take k ∧ Below w.heap.size w wr) (fun i wr => n - (intOf i).toNat)
  case atStart => exact ⟨0, rfl, Nat.zero_le _, rfl, Below.refl _ _⟩
  case round =>
    obtain ⟨k, rfl, hk, htk, hbel⟩ := hrel
    replace htk := Lib.hid htk
    have hsz := hbel.size
    by_cases hlt : k < n
    · obtain ⟨b1, f1, d, h, rfl, hb0, hb1, hja, hcs, hr1⟩ := npath_at (h1.out.frame good_npath (Below.sameB hbel hh1)) hlt
      obtain ⟨b2, f2, d', h', rfl, hb0', hb2, hja', hcs', hr2⟩ := npath_at (h2.out.frame good_npath (Below.sameB hbel hh2)) hlt
      have q0 := hcs 0 _ rfl
      have r0 := hcs' 0 _ rfl
      have q1 := hcs 1 _ rfl
      have r1 := hcs' 1 _ rfl
      have q2 := hcs 2 _ rfl
      have r2 := hcs' 2 _ rfl
      simp only [Nat.add_zero] at q0 r0
      have hl1 := hL.out.2 d (List.mem_of_getElem? hja)
      have hl2 := hM.out.2 d' (List.mem_of_getElem? hja')
      obtain ⟨t, ht⟩ : ∃ t, t = decide (d = d') := ⟨_, rfl⟩
      have hcall := Lib.hid (fun x y => sameNamedPath_d d d' h h' t ht lo hi lo' hi' ((wr.alloc x).alloc y) (hr1.frame (good_flat _) (((SameB.refl _ _ wr).alloc (by omega) _).alloc (by simp; omega) _)) (hr2.frame (good_flat _) (((SameB.refl _ _ wr).alloc (by omega) _).alloc (by simp; omega) _)) (by simp; omega) (by simp; omega) hl1 hl2)
      have hbw : b1 < wr.heap.size := by omega
      have hbw' : b2 < wr.heap.size := by omega
      have hno := Lib.hid (fun h => ne_list_at hja hja' h)
      have hst := Lib.hid (fun (h : d = d') => take_eq_step htk.out hja (h ▸ hja'))
      clear hr1 hr2 hja hja' hb0 hb0' hl1 hl2 hcs hcs'
      replace ht := Lib.hid ht
      go_wp2_with fail
      refine (hcall.out _ _).mono ?_
      rintro e w1 ⟨rfl, hb1⟩
      have hbel1 : Below w.heap.size w w1 := ((hbel.alloc hbel.size _).alloc (by simp; omega) _).trans (hb1.mono (by simp; omega))
      cases t with
      | false =>
        have hbf : b = false := by rw [hb.out]; exact hno.out ht.out.symm
        subst hbf
        go_wp2_with fail
        go_ret
        exact ⟨rfl, hbel1⟩
      | true =>
        go_wp2_with fail
        go_roundw
        case rel => exact ⟨k + 1, by go_num, by omega, hst.out (of_decide_eq_true ht.out.symm), hbel1⟩
        case measure => simp [intOf]; omega
    · have hkn : k = n := by omega
      have hbt : b = true := by rw [hb.out, decide_eq_true_iff]; exact hfin.out (by rw [← hkn]; exact htk.out)
      subst hbt
      replace hkn := Lib.hid hkn
      go_wp2_with fail
      go_ret
      exact ⟨rfl, hbel⟩

set_option maxHeartbeats 4000000 in
theorem sameRow_any (x0 y0 : ByteArray) (x1 y1 : Int) (x2 y2 : Int) (A A' : Option Addr) (n c n' c' lo hi lo' hi' : Nat) (L M : List (ByteArray × Int × Int)) (b : Bool) (hb : b = decide ((⟨x0, x1, x2, L⟩ : RowD) = (⟨y0, y1, y2, M⟩ : RowD))) (w : World) (h1 : RdS 3 (FlatR anchC) w lo hi A n L) (h2 : RdS 3 (FlatR anchC) w lo' hi' A' n' M) (hh1 : hi ≤ w.heap.size) (hh2 : hi' ≤ w.heap.size) (hn : n ≤ 1000000000) (hn' : n' ≤ 1000000000) :
    Calls Tryz.prog 61 #[.agg #[.string x0, .int .i64 x1, .int .i64 x2, .slice A n c], .agg #[.string y0, .int .i64 y1, .int .i64 y2, .slice A' n' c']] w fun e w' => e = .returned (.bool b) ∧ Below w.heap.size w w' := by
  have hne : Hid ((x0 ≠ y0 ∨ (x1, x2, L) ≠ (y1, y2, M)) → b = false) := fun hor => by
    rw [hb, decide_eq_false_iff_not]; intro e; injection e with g0 g1 g2 g3
    rcases hor with h | h
    · exact h g0
    · exact h (by rw [g1, g2, g3])
  have hyes : Hid (x0 = y0 → (x1, x2, L) = (y1, y2, M) → b = true) := fun e0 e1 => by simp only [Prod.mk.injEq] at e1; rw [hb, decide_eq_true_iff, e0, e1.1, e1.2.1, e1.2.2]
  clear hb
  by_cases e0 : x0 = y0
  rotate_left
  · have hbf := hne.out (.inl e0)
    subst hbf
    have ux0 : (x0.toList == y0.toList) = false := bytes_neq e0
    clear e0 h1 h2
    go_enter Tryz.func61, Tryz.ntmps61
    go_wp2_with fail
    go_ret
    exact ⟨rfl, Go.Joins.below_alloc2 _ _ _⟩
  subst e0
  have hB0 : Below w.heap.size w ((w.alloc (.cells #[.string x0, .int .i64 x1, .int .i64 x2, .slice A n c] 117 (0, 0))).alloc (.cells #[.string x0, .int .i64 y1, .int .i64 y2, .slice A' n' c'] 117 (0, 0))) := Go.Joins.below_alloc2 _ _ _
  obtain ⟨u, hu⟩ : ∃ u, u = decide ((x1, x2, L) = (y1, y2, M)) := ⟨_, rfl⟩
  have hc := Lib.hid (implSameLin_any x1 x2 y1 y2 A A' n c n' c' lo hi lo' hi' L M u hu ((w.alloc (.cells #[.string x0, .int .i64 x1, .int .i64 x2, .slice A n c] 117 (0, 0))).alloc (.cells #[.string x0, .int .i64 y1, .int .i64 y2, .slice A' n' c'] 117 (0, 0))) (h1.frame (good_flat _) (Below.sameB hB0 hh1)) (h2.frame (good_flat _) (Below.sameB hB0 hh2)) (Nat.le_trans hh1 hB0.size) (Nat.le_trans hh2 hB0.size) hn hn')
  have hbt : b = u := by
    cases u
    · exact hne.out (.inr (of_decide_eq_false hu.symm))
    · exact hyes.out rfl (of_decide_eq_true hu.symm)
  subst hbt
  clear h1 h2 hu
  go_enter Tryz.func61, Tryz.ntmps61
  go_wp2_with fail
  refine hc.out.mono ?_
  rintro e w1 ⟨rfl, hb1⟩
  go_wp2_with fail
  go_ret
  exact ⟨rfl, hB0.trans (hb1.mono hB0.size)⟩
theorem sameRow_d (d d' : RowD) (h h' : Hd) (b : Bool) (hb : b = decide (d = d')) (lo hi lo' hi' : Nat) (w : World) (h1 : rowI w lo hi d h) (h2 : rowI w lo' hi' d' h') (hh1 : hi ≤ w.heap.size) (hh2 : hi' ≤ w.heap.size) (hm : d.L.length ≤ 1000000000) (hm' : d'.L.length ≤ 1000000000) :
    Calls Tryz.prog 61 #[rowV d h, rowV d' h'] w fun e w' => e = .returned (.bool b) ∧ Below w.heap.size w w' :=
  sameRow_any d.name d'.name d.num d'.num d.den d'.den h.A h'.A h.n h.c h'.n h'.c lo hi lo' hi' d.L d'.L b hb w h1 h2 hh1 hh2 (by rw [← h1.1]; exact hm) (by rw [← h2.1]; exact hm')

set_option maxHeartbeats 4000000 in
theorem equalFRow_any (A A' : Option Addr) (n c n' c' lo hi lo' hi' : Nat) (L M : List RowD) (b : Bool) (hb : b = decide (L = M)) (w : World) (h1 : rowsRd w lo hi A n L) (h2 : rowsRd w lo' hi' A' n' M) (hh1 : hi ≤ w.heap.size) (hh2 : hi' ≤ w.heap.size) (hL : SmL rowLen 1000000000 L) (hM : SmL rowLen 1000000000 M) :
    Calls Tryz.prog 60 #[.slice A n c, .slice A' n' c', .func (.func 61) #[] #[]] w fun e w' => e = .returned (.bool b) ∧ Below w.heap.size w w' := by
  have hn : n ≤ 1000000000 := by rw [← h1.1]; exact hL.1
  have hn' : n' ≤ 1000000000 := by rw [← h2.1]; exact hM.1
  by_cases hl : n = n'
  rotate_left
  · have hbf : b = false := by
      rw [hb, decide_eq_false_iff_not]; rintro rfl; exact hl (h1.1.symm.trans h2.1)
    have t1 : ((n : Int) == (n' : Int)) = false := by simp; omega
    have t2 : ((n : Int) != (n' : Int)) = true := by simp; omega
    subst hbf
    clear hl h1 h2 hb
    go_enter Tryz.func60, Tryz.ntmps60
    go_wp2_with fail
    go_ret
    exact ⟨rfl, Below.refl _ _⟩
  subst hl
  have hfin := Lib.hid (fun h => take_eq_done (n := n) h h1.1 h2.1)
  replace hb := Lib.hid hb
  replace h1 := Lib.hid h1
  replace h2 := Lib.hid h2
  replace hL := Lib.hid hL
  replace hM := Lib.hid hM
  go_enter Tryz.func60, Tryz.ntmps60
  go_wp2_with fail
  go_loopw [17] (fun i wr => ∃ k : Nat, i = .int .i64 k ∧ k ≤ n ∧ L.take k = M.take k ∧ Below w.heap.size w wr) (fun i wr => n - (intOf i).toNat)
  case atStart => exact ⟨0, rfl, Nat.zero_le _, rfl, Below.refl _ _⟩
  case round =>
    obtain ⟨k, rfl, hk, htk, hbel⟩ := hrel
    replace htk := Lib.hid htk
    have hsz := hbel.size
    by_cases hlt : k < n
    · obtain ⟨b1, f1, d, h, rfl, hb0, hb1, hja, hcs, hr1⟩ := row_at (h1.out.frame good_row (Below.sameB hbel hh1)) hlt
      obtain ⟨b2, f2, d', h', rfl, hb0', hb2, hja', hcs', hr2⟩ := row_at (h2.out.frame good_row (Below.sameB hbel hh2)) hlt
      have q0 := hcs 0 _ rfl
      have r0 := hcs' 0 _ rfl
      have q1 := hcs 1 _ rfl
      have r1 := hcs' 1 _ rfl
      have q2 := hcs 2 _ rfl
      have r2 := hcs' 2 _ rfl
      have q3 := hcs 3 _ rfl
      have r3 := hcs' 3 _ rfl
      simp only [Nat.add_zero] at q0 r0
      have hl1 := hL.out.2 d (List.mem_of_getElem? hja)
      have hl2 := hM.out.2 d' (List.mem_of_getElem? hja')
      obtain ⟨t, ht⟩ : ∃ t, t = decide (d = d') := ⟨_, rfl⟩
      have hcall := Lib.hid (fun x y => sameRow_d d d' h h' t ht lo hi lo' hi' ((wr.alloc x).alloc y) (hr1.frame (good_flat _) (((SameB.refl _ _ wr).alloc (by omega) _).alloc (by simp; omega) _)) (hr2.frame (good_flat _) (((SameB.refl _ _ wr).alloc (by omega) _).alloc (by simp; omega) _)) (by simp; omega) (by simp; omega) hl1 hl2)
      have hbw : b1 < wr.heap.size := by omega
      have hbw' : b2 < wr.heap.size := by omega
      have hno := Lib.hid (fun h => ne_list_at hja hja' h)
      have hst := Lib.hid (fun (h : d = d') => take_eq_step htk.out hja (h ▸ hja'))
      clear hr1 hr2 hja hja' hb0 hb0' hl1 hl2 hcs hcs'
      replace ht := Lib.hid ht
      go_wp2_with fail
      refine (hcall.out _ _).mono ?_
      rintro e w1 ⟨rfl, hb1⟩
      have hbel1 : Below w.heap.size w w1 := ((hbel.alloc hbel.size _).alloc (by simp; omega) _).trans (hb1.mono (by simp; omega))
      cases t with
      | false =>
        have hbf : b = false := by rw [hb.out]; exact hno.out ht.out.symm
        subst hbf
        go_wp2_with fail
        go_ret
        exact ⟨rfl, hbel1⟩
      | true =>
        go_wp2_with fail
        go_roundw
        case rel => exact ⟨k + 1, by go_num, by omega, hst.out (of_decide_eq_true ht.out.symm), hbel1⟩
        case measure => simp [intOf]; omega
    · have hkn : k = n := by omega
      have hbt : b = true := by rw [hb.out, decide_eq_true_iff]; exact hfin.out (by rw [← hkn]; exact htk.out)
      subst hbt
      replace hkn := Lib.hid hkn
      go_wp2_with fail
      go_ret
      exact ⟨rfl, hbel⟩

theorem implSameSys_any (h h' : Hd) (lo hi lo' hi' : Nat) (L M : List RowD) (b : Bool) (hb : b = decide (L = M)) (w : World) (h1 : rowsRd w lo hi h.A h.n L) (h2 : rowsRd w lo' hi' h'.A h'.n M) (hh1 : hi ≤ w.heap.size) (hh2 : hi' ≤ w.heap.size) (hL : SmL rowLen 1000000000 L) (hM : SmL rowLen 1000000000 M) :
    Calls Tryz.prog 31 #[.agg #[.slice h.A h.n h.c], .agg #[.slice h'.A h'.n h'.c]] w fun e w' => e = .returned (.bool b) ∧ Below w.heap.size w w' := by
  have hc := Lib.hid (fun x y => equalFRow_any h.A h'.A h.n h.c h'.n h'.c lo hi lo' hi' L M b hb ((w.alloc x).alloc y) (h1.frame good_row (((SameB.refl _ _ w).alloc hh1 _).alloc (by simp; omega) _)) (h2.frame good_row (((SameB.refl _ _ w).alloc hh2 _).alloc (by simp; omega) _)) (by simp; omega) (by simp; omega) hL hM)
  clear h1 h2 hb hL hM
  go_enter Tryz.func31, Tryz.ntmps31
  go_wp2_with fail
  refine (hc.out _ _).mono ?_
  rintro e w1 ⟨rfl, hb1⟩
  go_wp2_with fail
  go_ret
  exact ⟨rfl, (Go.Joins.below_alloc2 _ _ _).trans (hb1.mono (by simp; omega))⟩

set_option maxHeartbeats 8000000 in
theorem specSameSys_any (h h' : Hd) (lo hi lo' hi' : Nat) (L M : List RowD) (b : Bool) (hb : b = decide (L = M)) (w : World) (h1 : rowsRd w lo hi h.A h.n L) (h2 : rowsRd w lo' hi' h'.A h'.n M) (hh1 : hi ≤ w.heap.size) (hh2 : hi' ≤ w.heap.size) (hL : SmL rowLen 1000000000 L) (hM : SmL rowLen 1000000000 M) :
    Calls Tryz.prog 15 #[.agg #[.slice h.A h.n h.c], .agg #[.slice h'.A h'.n h'.c]] w fun e w' => e = .returned (.bool b) ∧ Below w.heap.size w w' := by
  obtain ⟨A, n, c⟩ := h
  obtain ⟨A', n', c'⟩ := h'
  dsimp only at h1 h2 ⊢
  have hn : n ≤ 1000000000 := by rw [← h1.1]; exact hL.1
  have hn' : n' ≤ 1000000000 := by rw [← h2.1]; exact hM.1
  by_cases hl : n = n'
  rotate_left
  · have hbf : b = false := by
      rw [hb, decide_eq_false_iff_not]; rintro rfl; exact hl (h1.1.symm.trans h2.1)
    have t1 : ((n : Int) == (n' : Int)) = false := by simp; omega
    have t2 : ((n : Int) != (n' : Int)) = true := by simp; omega
    subst hbf
    clear hl h1 h2 hb
    go_enter Tryz.func15, Tryz.ntmps15
    go_wp2_with fail
    go_ret
    exact ⟨rfl, Go.Joins.below_alloc2 _ _ _⟩
  subst hl
  have hnew := heap_two w (.cells #[.slice A n c] 46 (0, 0)) (.cells #[.slice A' n c'] 46 (0, 0))
  have hB0 : Below w.heap.size w ((w.alloc (.cells #[.slice A n c] 46 (0, 0))).alloc (.cells #[.slice A' n c'] 46 (0, 0))) := Go.Joins.below_alloc2 _ _ _
  have hfin := Lib.hid (fun h => take_eq_done (n := n) h h1.1 h2.1)
  have kb : ((w.alloc (.cells #[.slice A n c] 46 (0, 0))).alloc (.cells #[.slice A' n c'] 46 (0, 0))).cell? ⟨w.heap.size, 0, none⟩ = some (.slice A n c) := by simp only [World.cell?, hnew.1]; rfl
  have mb : ((w.alloc (.cells #[.slice A n c] 46 (0, 0))).alloc (.cells #[.slice A' n c'] 46 (0, 0))).cell? ⟨w.heap.size + 1, 0, none⟩ = some (.slice A' n c') := by simp only [World.cell?, hnew.2]; rfl
  have hz0 : w.heap.size + 1 < ((w.alloc (.cells #[.slice A n c] 46 (0, 0))).alloc (.cells #[.slice A' n c'] 46 (0, 0))).heap.size := by simp
  replace hb := Lib.hid hb
  replace h1 := Lib.hid h1
  replace h2 := Lib.hid h2
  replace hL := Lib.hid hL
  replace hM := Lib.hid hM
  clear hnew
  go_enter Tryz.func15, Tryz.ntmps15
  go_wp2_with fail
  generalize ((w.alloc (.cells #[.slice A n c] 46 (0, 0))).alloc (.cells #[.slice A' n c'] 46 (0, 0))) = W at hB0 kb mb hz0 ⊢
  go_loopw [5] (fun i wr => ∃ k : Nat, i = .int .i64 k ∧ k ≤ n ∧ L.take k = M.take k ∧ Below W.heap.size W wr) (fun i wr => n - (intOf i).toNat)
  case atStart => exact ⟨0, rfl, Nat.zero_le _, rfl, Below.refl _ _⟩
  case round =>
    obtain ⟨k, rfl, hk, htk, hbel⟩ := hrel
    replace htk := Lib.hid htk
    have hsz := hbel.size
    have hB1 := hB0.trans (hbel.mono hB0.size)
    have kw := (hbel.cell (by simp; omega)).trans kb
    have mw := (hbel.cell (by simp; omega)).trans mb
    by_cases hlt : k < n
    rotate_left
    · have hkn : k = n := by omega
      have hbt : b = true := by rw [hb.out, decide_eq_true_iff]; exact hfin.out (by rw [← hkn]; exact htk.out)
      subst hbt
      replace hkn := Lib.hid hkn
      go_wp2_with fail
      go_ret
      exact ⟨rfl, hB1⟩
    · obtain ⟨b1, f1, ⟨x0, x1, x2, K1⟩, ⟨A1, n1, c1⟩, rfl, hb0, hb1, hja, hcs, hr1⟩ := row_at (h1.out.frame good_row (Below.sameB hB1 hh1)) hlt
      obtain ⟨b2, f2, ⟨y0, y1, y2, K2⟩, ⟨A2, n2, c2⟩, rfl, hb0', hb2, hja', hcs', hr2⟩ := row_at (h2.out.frame good_row (Below.sameB hB1 hh2)) hlt
      have q0 := hcs 0 _ rfl
      have p0 := hcs' 0 _ rfl
      have q1 := hcs 1 _ rfl
      have p1 := hcs' 1 _ rfl
      have q2 := hcs 2 _ rfl
      have p2 := hcs' 2 _ rfl
      have q3 := hcs 3 _ rfl
      have p3 := hcs' 3 _ rfl
      simp only [Nat.add_zero] at q0 p0 q1 p1 q2 p2 q3 p3
      have hl1 := hL.out.2 _ (List.mem_of_getElem? hja)
      have hl2 := hM.out.2 _ (List.mem_of_getElem? hja')
      have hl3 : n1 ≤ 1000000000 := Nat.le_trans (Nat.le_of_eq hr1.1.symm) hl1
      have hl4 : n2 ≤ 1000000000 := Nat.le_trans (Nat.le_of_eq hr2.1.symm) hl2
      have hs1 := hB1.size
      obtain ⟨t, ht⟩ : ∃ t, t = decide ((x1, x2, K1) = (y1, y2, K2)) := ⟨_, rfl⟩
      have hcall := Lib.hid (fun dr os => Calls.regrown_of ((specSameLin_any x1 x2 y1 y2 A1 A2 n1 c1 n2 c2 lo hi lo' hi' K1 K2 t ht (Go.Sort.grow (redrawn wr dr) os)
        (hr1.frame (good_flat _) (Below.sameB (below_regrown wr dr os) (by omega))) (hr2.frame (good_flat _) (Below.sameB (below_regrown wr dr os) (by omega))) (Nat.le_trans (by omega) (below_regrown wr dr os).size) (Nat.le_trans (by omega) (below_regrown wr dr os).size) hl3 hl4)))
      have hno := Lib.hid (fun h => ne_list_at hja hja' h)
      have hst := Lib.hid (fun (h : (⟨x0, x1, x2, K1⟩ : RowD) = (⟨y0, y1, y2, K2⟩ : RowD)) => take_eq_step htk.out hja (h ▸ hja'))
      have hi : (0 : Int) ≤ (k : Int) ∧ (k : Int) < (n : Int) := by omega
      have kg := fun dr os => cell_regrown kw dr os
      have mg := fun dr os => cell_regrown mw dr os
      have qg0 := fun dr os => cell_regrown q0 dr os
      have pg0 := fun dr os => cell_regrown p0 dr os
      have qg1 := fun dr os => cell_regrown q1 dr os
      have pg1 := fun dr os => cell_regrown p1 dr os
      have qg2 := fun dr os => cell_regrown q2 dr os
      have pg2 := fun dr os => cell_regrown p2 dr os
      have qg3 := fun dr os => cell_regrown q3 dr os
      have pg3 := fun dr os => cell_regrown p3 dr os
      clear hr1 hr2 hja hja' hl1 hl2 hcs hcs' q0 p0 q1 p1 q2 p2 q3 p3
      by_cases e0 : x0 = y0
      rotate_left
      · have ht : decide ((⟨x0, x1, x2, K1⟩ : RowD) = (⟨y0, y1, y2, K2⟩ : RowD)) = false := by rw [decide_eq_false_iff_not]; intro e; exact e0 (congrArg RowD.name e)
        have u0 : (x0.toList == y0.toList) = false := bytes_neq e0
        have hbf : b = false := by rw [hb.out]; exact hno.out ht
        subst hbf
        clear e0 ht
        go_wp2_with fail
        refine wp_region_quiet_below (by kernel_rfl) (by kernel_rfl) ?_
        repeat (go_big_quiet_step (fail))
        refine wpQuiet_nil ?_
        intro _ hw'
        obtain ⟨⟨dq, osq⟩, hw''⟩ := hw'
        subst hw''
        have hb3 := hbel.trans ((below_regrown wr dq osq).mono hsz)
        generalize Go.Sort.grow (redrawn wr dq) osq = w1 at hb3 ⊢
        clear kg mg qg0 pg0 qg1 pg1 qg2 pg2 qg3 pg3
        go_wp2_with fail
        go_ret
        exact ⟨rfl, hB0.trans (hb3.mono hB0.size)⟩
      subst e0
      have ht2 := ht
      replace ht := Lib.hid ht
      replace ht2 := Lib.hid ht2
      go_wp2_with fail
      refine wp_region_quiet_below (by kernel_rfl) (by kernel_rfl) ?_
      repeat (go_big_quiet_step (exact hcall.out _ _))
      refine wpQuiet_nil ?_
      intro _ hw'
      obtain ⟨⟨dq, osq⟩, hw''⟩ := hw'
      subst hw''
      have hb3 := hbel.trans ((below_regrown wr dq osq).mono hsz)
      generalize Go.Sort.grow (redrawn wr dq) osq = w1 at hb3 ⊢
      clear kg mg qg0 pg0 qg1 pg1 qg2 pg2 qg3 pg3
      cases t with
      | false =>
        have ht : decide ((⟨x0, x1, x2, K1⟩ : RowD) = (⟨x0, y1, y2, K2⟩ : RowD)) = false := by rw [decide_eq_false_iff_not]; intro e; exact of_decide_eq_false ht2.out.symm (by injection e with g0 g1 g2 g3; rw [g1, g2, g3])
        have hbf : b = false := by rw [hb.out]; exact hno.out ht
        subst hbf
        clear ht
        go_wp2_with fail
        go_ret
        exact ⟨rfl, hB0.trans (hb3.mono hB0.size)⟩
      | true =>
        go_wp2_with fail
        go_roundw
        case rel => exact ⟨k + 1, by go_num, by omega, hst.out (by have g := of_decide_eq_true ht2.out.symm; simp only [Prod.mk.injEq] at g; rw [g.1, g.2.1, g.2.2]), hb3⟩
        case measure => simp [intOf]; omega
end Go.Proofs.YtgfbcbbcnineiaaGreat

