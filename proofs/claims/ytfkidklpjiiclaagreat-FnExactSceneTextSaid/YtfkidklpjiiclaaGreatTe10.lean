/- Linear expressions: whether they are valid, both sides. Printed by mk_vs3.py. Conditions: as each states. -/
import Derived.Test.YtfkidklpjiiclaaGreatTe09
import Derived.Test.YtfkidklpjiiclaaGreatTe07
import Derived.Test.YtfkidklpjiiclaaGreatTe08
namespace Go.Proofs.YtfkidklpjiiclaaGreat
open Go.RowKit
set_option linter.unusedVariables false
set_option maxRecDepth 100000

theorem specIsName_k (s : ByteArray) (v : Bool) (hv : v = nameB s) (w : World) (hs : s.size ≤ 9223372036854775807) :
    Calls Tryz.prog 99 #[.string s] w fun e w' => e = .returned (.bool v) ∧ w' = w := (specIsName_any s v hv w hs).mono fun e w' h => ⟨h.1, h.2.symm⟩
theorem implIsName_k (s : ByteArray) (v : Bool) (hv : v = nameB s) (w : World) (hs : s.size ≤ 9223372036854775807) :
    Calls Tryz.prog 28 #[.string s] w fun e w' => e = .returned (.bool v) ∧ w' = w := (implIsName_any s v hv w hs).mono fun e w' h => ⟨h.1, h.2.symm⟩
/-- not behind: less or the same -/
def leS (x y : ByteArray) : Bool := Op.bytesLess x.toList y.toList || x.toList == y.toList
abbrev zT : Anch := (ByteArray.empty, 0, 0)
def okT (L : List Anch) (k : Nat) : Bool := nameB (L.getD k zT).1 && (fracB (L.getD k zT).2.1 (L.getD k zT).2.2 && (!((L.getD k zT).2.1 == 0) && (decide (k = 0) || !leS (L.getD k zT).1 (L.getD (k - 1) zT).1)))
def linB (a b : Int) (L : List Anch) : Bool := fracB a b && (decide (L.length ≤ 12) && (List.range L.length).all (okT L))
theorem getD_some {α : Type} {L : List α} {k : Nat} {x d : α} (h : L[k]? = some x) : L.getD k d = x := by rw [List.getD_eq_getElem?_getD, h]; rfl
theorem okT_0 {L : List Anch} {x0 : ByteArray} {x1 x2 : Int} (h : L[0]? = some (x0, x1, x2)) : okT L 0 = (nameB x0 && (fracB x1 x2 && !(x1 == 0))) := by
  unfold okT; rw [getD_some h]; simp
theorem okT_k {L : List Anch} {k : Nat} {x0 y0 : ByteArray} {x1 x2 y1 y2 : Int} (hk : 0 < k) (h : L[k]? = some (x0, x1, x2)) (h' : L[k - 1]? = some (y0, y1, y2)) : okT L k = (nameB x0 && (fracB x1 x2 && (!(x1 == 0) && !leS x0 y0))) := by
  unfold okT; rw [getD_some h, getD_some h', decide_eq_false (by omega)]; rfl
theorem lin_no {a b : Int} {L : List Anch} {k : Nat} (hk : k < L.length) (h : okT L k = false) : linB a b L = false := by
  unfold linB
  have : (List.range L.length).all (okT L) = false := by
    rw [List.all_eq_false]; exact ⟨k, List.mem_range.2 hk, by rw [h]; simp⟩
  rw [this]; simp
theorem lin_yes {a b : Int} {L : List Anch} (hf : fracB a b = true) (hl : L.length ≤ 12) (h : ∀ j, j < L.length → okT L j = true) : linB a b L = true := by
  unfold linB
  rw [hf, decide_eq_true hl, List.all_eq_true.2 fun j hj => h j (List.mem_range.1 hj)]; rfl
theorem all_next {p : Nat → Bool} {k : Nat} (h : ∀ j, j < k → p j = true) (hk : p k = true) : ∀ j, j < k + 1 → p j = true := fun j hj => by
  rcases Nat.lt_or_ge j k with h' | h'
  · exact h j h'
  · have : j = k := by omega
    rw [this]; exact hk
set_option maxHeartbeats 8000000 in
theorem specLinOk_any (p o : Nat) (a b : Int) (A : Option Addr) (n c lo hi : Nat) (L : List Anch) (t : Bool) (ht : t = linB a b L) (w : World) (hp : p < w.heap.size)
    (c0 : w.cell? ⟨p, o, none⟩ = some (.int .i64 a)) (c1 : w.cell? ⟨p, o + 1, none⟩ = some (.int .i64 b)) (c2 : w.cell? ⟨p, o + 2, none⟩ = some (.slice A n c))
    (hr : RdS 3 (FlatR anchC) w lo hi A n L) (hhi : hi ≤ w.heap.size) (hn : n ≤ 1000000000) (hs : ∀ g ∈ L, g.1.size ≤ maxLen) :
    Calls Tryz.prog 100 #[.pointer (some ⟨p, o, none⟩)] w fun e w' => e = .returned (.bool t) ∧ Below w.heap.size w w' := by
  obtain ⟨u, hu⟩ : ∃ u, u = fracB a b := ⟨_, rfl⟩
  have hc1 := specFrac_any a b w
  rw [← hu] at hc1
  replace hc1 := Lib.hid hc1
  have hll := Lib.hid hr.1
  replace hr := Lib.hid hr
  replace hs := Lib.hid hs
  replace ht := Lib.hid ht
  go_enter Tryz.func100, Tryz.ntmps100
  go_wp2_with fail
  refine hc1.out.mono ?_
  rintro e w1 ⟨rfl, hb1⟩
  have c21 := (hb1.cell (p := ⟨p, o + 2, none⟩) hp).trans c2
  have hp1 : p < w1.heap.size := Nat.lt_of_lt_of_le hp hb1.size
  replace hu := Lib.hid hu
  clear c0 c1 c2 hc1
  cases u with
  | false =>
    have htf : t = false := by rw [ht.out]; unfold linB; rw [← hu.out]; rfl
    subst htf
    go_wp2_with fail
    go_ret
    exact ⟨rfl, hb1⟩
  | true =>
  by_cases h12 : (12 : Int) < (n : Int)
  · have htf : t = false := by rw [ht.out]; unfold linB; rw [decide_eq_false (by have := hll.out; omega)]; simp
    subst htf
    go_wp2_with fail
    go_ret
    exact ⟨rfl, hb1⟩
  go_wp2_with fail
  go_loopw [3] (fun i wr => ∃ k : Nat, i = .int .i64 k ∧ k ≤ n ∧ (∀ j, j < k → okT L j = true) ∧ Below w1.heap.size w1 wr) (fun i wr => n - (intOf i).toNat)
  case atStart => exact ⟨0, rfl, Nat.zero_le _, fun j hj => absurd hj (Nat.not_lt_zero j), Below.refl _ _⟩
  case round =>
    obtain ⟨k, rfl, hk, hall, hbel⟩ := hrel
    replace hall := Lib.hid hall
    have hsz := hbel.size
    have hB1 := hb1.trans (hbel.mono hb1.size)
    have c2w := (hbel.cell (p := ⟨p, o + 2, none⟩) hp1).trans c21
    have hpw : p < wr.heap.size := Nat.lt_of_lt_of_le hp1 hsz
    by_cases hlt : k < n
    rotate_left
    · have htt : t = true := by rw [ht.out]; exact lin_yes hu.out.symm (by have := hll.out; omega) fun j hj => hall.out j (by have := hll.out; omega)
      subst htt
      go_wp2_with fail
      go_ret
      exact ⟨rfl, hB1⟩
    have hkl : k < L.length := by rw [hll.out]; exact hlt
    obtain ⟨b1, f1, ⟨x0, x1, x2⟩, rfl, hb0, hbx, hja, hcs⟩ := (hr.out.frame (good_flat _) (Below.sameB hB1 hhi)).at hlt
    have q0 := hcs 0 _ rfl
    have q1 := hcs 1 _ rfl
    have q2 := hcs 2 _ rfl
    simp only [Nat.add_zero] at q0 q1 q2
    have hbw : b1 < wr.heap.size := by have := hB1.size; omega
    have hi : (0 : Int) ≤ (k : Int) ∧ (k : Int) < (n : Int) := by omega
    clear hcs
    rcases Nat.eq_zero_or_pos k with hk0 | hk0
    · have hal : okT L k = (nameB x0 && (fracB x1 x2 && !(x1 == 0))) := by subst hk0; exact okT_0 hja
      have hk3 : decide ((0 : Int) < (k : Int)) = false := decide_eq_false (by omega)
      have hk4 : decide (0 < k) = false := decide_eq_false (by omega)
      replace hk0 := Lib.hid hk0
      go_wp2_with fail
      have hsx : x0.size ≤ 9223372036854775807 := by have := hs.out _ (List.mem_of_getElem? hja); unfold maxLen at this; simpa using this
      obtain ⟨tN, hN⟩ : ∃ t, t = nameB x0 := ⟨_, rfl⟩
      obtain ⟨tF, hF⟩ : ∃ t, t = fracB x1 x2 := ⟨_, rfl⟩
      have hcn := Lib.hid (fun W dr os => calls_kept (fun w => specIsName_k x0 tN hN w hsx) W dr os)
      have hcf := specFrac_any x1 x2
      rw [← hF] at hcf
      have hcg := Lib.hid (fun W dr os => calls_below hcf W dr os)
      have hB0 := Go.Joins.below_alloc1 wr (.cells #[.string x0, .int .i64 x1, .int .i64 x2] 142 (0, 0))
      have hX := heap_alloc_new wr (.cells #[.string x0, .int .i64 x1, .int .i64 x2] 142 (0, 0))
      have t0 : (wr.alloc (.cells #[.string x0, .int .i64 x1, .int .i64 x2] 142 (0, 0))).cell? ⟨wr.heap.size, 0, none⟩ = some (.string x0) := by rw [Go.Joins.cell_of_block hX]; rfl
      have t1 : (wr.alloc (.cells #[.string x0, .int .i64 x1, .int .i64 x2] 142 (0, 0))).cell? ⟨wr.heap.size, 1, none⟩ = some (.int .i64 x1) := by rw [Go.Joins.cell_of_block hX]; rfl
      have t2 : (wr.alloc (.cells #[.string x0, .int .i64 x1, .int .i64 x2] 142 (0, 0))).cell? ⟨wr.heap.size, 2, none⟩ = some (.int .i64 x2) := by rw [Go.Joins.cell_of_block hX]; rfl
      have c2v := (hB0.cell (p := ⟨p, o + 2, none⟩) hpw).trans c2w
      clear hX hcf hsx
      generalize wr.alloc (.cells #[.string x0, .int .i64 x1, .int .i64 x2] 142 (0, 0)) = W at *
      have kg0 := fun dr os => cell_regrown t0 dr os
      have kg1 := fun dr os => cell_regrown t1 dr os
      have kg2 := fun dr os => cell_regrown t2 dr os
      have kg3 := fun dr os => cell_regrown c2v dr os
      replace hN := Lib.hid hN
      replace hF := Lib.hid hF
      replace hal := Lib.hid hal
      cases tN with
      | false =>
        have hok : okT L k = false := by rw [hal.out, ← hN.out]; rfl
        have htf : t = false := by rw [ht.out]; exact lin_no hkl hok
        subst htf
        clear hok
        refine wp_region_quiet_below (by kernel_rfl) (by kernel_rfl) ?_
        repeat (go_big_quiet_step (first | (with_reducible exact hcn.out _ _ _) | (with_reducible exact hcg.out _ _ _)))
        refine wpQuiet_nil ?_
        intro _ hw'
        obtain ⟨⟨dq, osq⟩, hw''⟩ := hw'
        subst hw''
        have hb9 := hbel.trans ((hB0.trans ((below_regrown W dq osq).mono hB0.size)).mono hsz)
        generalize Go.Sort.grow (redrawn W dq) osq = W9 at hb9 ⊢
        go_wp2_with fail
        go_ret
        exact ⟨rfl, hb1.trans (hb9.mono hb1.size)⟩
      | true =>
      cases tF with
      | false =>
        have hok : okT L k = false := by rw [hal.out, ← hN.out, ← hF.out]; rfl
        have htf : t = false := by rw [ht.out]; exact lin_no hkl hok
        subst htf
        clear hok
        refine wp_region_quiet_below (by kernel_rfl) (by kernel_rfl) ?_
        repeat (go_big_quiet_step (first | (with_reducible exact hcn.out _ _ _) | (with_reducible exact hcg.out _ _ _)))
        refine wpQuiet_nil ?_
        intro _ hw'
        obtain ⟨⟨dq, osq⟩, hw''⟩ := hw'
        subst hw''
        have hb9 := hbel.trans ((hB0.trans ((below_regrown W dq osq).mono hB0.size)).mono hsz)
        generalize Go.Sort.grow (redrawn W dq) osq = W9 at hb9 ⊢
        go_wp2_with fail
        go_ret
        exact ⟨rfl, hb1.trans (hb9.mono hb1.size)⟩
      | true =>
      by_cases hx : x1 = 0
      · have hok : okT L k = false := by rw [hal.out, ← hN.out, ← hF.out, hx]; rfl
        have htf : t = false := by rw [ht.out]; exact lin_no hkl hok
        have hx2 : (x1 == 0) = true := by simpa using hx
        subst htf
        clear hok hx
        refine wp_region_quiet_below (by kernel_rfl) (by kernel_rfl) ?_
        repeat (go_big_quiet_step (first | (with_reducible exact hcn.out _ _ _) | (with_reducible exact hcg.out _ _ _)))
        refine wpQuiet_nil ?_
        intro _ hw'
        obtain ⟨⟨dq, osq⟩, hw''⟩ := hw'
        subst hw''
        have hb9 := hbel.trans ((hB0.trans ((below_regrown W dq osq).mono hB0.size)).mono hsz)
        generalize Go.Sort.grow (redrawn W dq) osq = W9 at hb9 ⊢
        go_wp2_with fail
        go_ret
        exact ⟨rfl, hb1.trans (hb9.mono hb1.size)⟩
      have hx2 : (x1 == 0) = false := by simpa using hx
      clear hx
      have hok : okT L k = true := by rw [hal.out, ← hN.out, ← hF.out, hx2]; rfl
      refine wp_region_quiet_below (by kernel_rfl) (by kernel_rfl) ?_
      repeat (go_big_quiet_step (first | (with_reducible exact hcn.out _ _ _) | (with_reducible exact hcg.out _ _ _)))
      refine wpQuiet_nil ?_
      intro _ hw'
      obtain ⟨⟨dq, osq⟩, hw''⟩ := hw'
      subst hw''
      have hb9 := hbel.trans ((hB0.trans ((below_regrown W dq osq).mono hB0.size)).mono hsz)
      generalize Go.Sort.grow (redrawn W dq) osq = W9 at hb9 ⊢
      go_wp2_with fail
      go_roundw
      case rel => exact ⟨k + 1, by go_num, by omega, all_next hall.out hok, hb9⟩
      case measure => simp [intOf]; omega
    · have hk2 : IntKind.i64.wrap ((k : Int) - 1) = (k : Int) - 1 := IntWalk.i64_in _ (by omega)
      have hi2 : (0 : Int) ≤ (k : Int) - 1 ∧ (k : Int) - 1 < (n : Int) := by omega
      have e1 : ((k : Int) - 1).toNat = k - 1 := by omega
      obtain ⟨b2, f2, ⟨y0, y1, y2⟩, hA, hb0', hbx', hja', hcs⟩ := (hr.out.frame (good_flat _) (Below.sameB hB1 hhi)).at (j := k - 1) (by omega)
      have r0 := hcs 0 _ rfl
      injection hA with hA
      injection hA with hA1 hA2
      subst hA1 hA2
      simp only [Nat.add_zero] at r0
      clear hcs
      have hal := okT_k hk0 hja hja'
      go_wp2_with fail
      have hsx : x0.size ≤ 9223372036854775807 := by have := hs.out _ (List.mem_of_getElem? hja); unfold maxLen at this; simpa using this
      obtain ⟨tN, hN⟩ : ∃ t, t = nameB x0 := ⟨_, rfl⟩
      obtain ⟨tF, hF⟩ : ∃ t, t = fracB x1 x2 := ⟨_, rfl⟩
      have hcn := Lib.hid (fun W dr os => calls_kept (fun w => specIsName_k x0 tN hN w hsx) W dr os)
      have hcf := specFrac_any x1 x2
      rw [← hF] at hcf
      have hcg := Lib.hid (fun W dr os => calls_below hcf W dr os)
      have hB0 := Go.Joins.below_alloc1 wr (.cells #[.string x0, .int .i64 x1, .int .i64 x2] 142 (0, 0))
      have hX := heap_alloc_new wr (.cells #[.string x0, .int .i64 x1, .int .i64 x2] 142 (0, 0))
      have t0 : (wr.alloc (.cells #[.string x0, .int .i64 x1, .int .i64 x2] 142 (0, 0))).cell? ⟨wr.heap.size, 0, none⟩ = some (.string x0) := by rw [Go.Joins.cell_of_block hX]; rfl
      have t1 : (wr.alloc (.cells #[.string x0, .int .i64 x1, .int .i64 x2] 142 (0, 0))).cell? ⟨wr.heap.size, 1, none⟩ = some (.int .i64 x1) := by rw [Go.Joins.cell_of_block hX]; rfl
      have t2 : (wr.alloc (.cells #[.string x0, .int .i64 x1, .int .i64 x2] 142 (0, 0))).cell? ⟨wr.heap.size, 2, none⟩ = some (.int .i64 x2) := by rw [Go.Joins.cell_of_block hX]; rfl
      have c2v := (hB0.cell (p := ⟨p, o + 2, none⟩) hpw).trans c2w
      clear hX hcf hsx
      have r0v := (hB0.cell (p := ⟨b1, f1 + (k - 1) * 3, none⟩) hbw).trans r0
      generalize wr.alloc (.cells #[.string x0, .int .i64 x1, .int .i64 x2] 142 (0, 0)) = W at *
      have kg0 := fun dr os => cell_regrown t0 dr os
      have kg1 := fun dr os => cell_regrown t1 dr os
      have kg2 := fun dr os => cell_regrown t2 dr os
      have kg3 := fun dr os => cell_regrown c2v dr os
      replace hN := Lib.hid hN
      replace hF := Lib.hid hF
      replace hal := Lib.hid hal
      cases tN with
      | false =>
        have hok : okT L k = false := by rw [hal.out, ← hN.out]; rfl
        have htf : t = false := by rw [ht.out]; exact lin_no hkl hok
        subst htf
        clear hok
        refine wp_region_quiet_below (by kernel_rfl) (by kernel_rfl) ?_
        repeat (go_big_quiet_step (first | (with_reducible exact hcn.out _ _ _) | (with_reducible exact hcg.out _ _ _)))
        refine wpQuiet_nil ?_
        intro _ hw'
        obtain ⟨⟨dq, osq⟩, hw''⟩ := hw'
        subst hw''
        have hb9 := hbel.trans ((hB0.trans ((below_regrown W dq osq).mono hB0.size)).mono hsz)
        generalize Go.Sort.grow (redrawn W dq) osq = W9 at hb9 ⊢
        go_wp2_with fail
        go_ret
        exact ⟨rfl, hb1.trans (hb9.mono hb1.size)⟩
      | true =>
      cases tF with
      | false =>
        have hok : okT L k = false := by rw [hal.out, ← hN.out, ← hF.out]; rfl
        have htf : t = false := by rw [ht.out]; exact lin_no hkl hok
        subst htf
        clear hok
        refine wp_region_quiet_below (by kernel_rfl) (by kernel_rfl) ?_
        repeat (go_big_quiet_step (first | (with_reducible exact hcn.out _ _ _) | (with_reducible exact hcg.out _ _ _)))
        refine wpQuiet_nil ?_
        intro _ hw'
        obtain ⟨⟨dq, osq⟩, hw''⟩ := hw'
        subst hw''
        have hb9 := hbel.trans ((hB0.trans ((below_regrown W dq osq).mono hB0.size)).mono hsz)
        generalize Go.Sort.grow (redrawn W dq) osq = W9 at hb9 ⊢
        go_wp2_with fail
        go_ret
        exact ⟨rfl, hb1.trans (hb9.mono hb1.size)⟩
      | true =>
      by_cases hx : x1 = 0
      · have hok : okT L k = false := by rw [hal.out, ← hN.out, ← hF.out, hx]; rfl
        have htf : t = false := by rw [ht.out]; exact lin_no hkl hok
        have hx2 : (x1 == 0) = true := by simpa using hx
        subst htf
        clear hok hx
        refine wp_region_quiet_below (by kernel_rfl) (by kernel_rfl) ?_
        repeat (go_big_quiet_step (first | (with_reducible exact hcn.out _ _ _) | (with_reducible exact hcg.out _ _ _)))
        refine wpQuiet_nil ?_
        intro _ hw'
        obtain ⟨⟨dq, osq⟩, hw''⟩ := hw'
        subst hw''
        have hb9 := hbel.trans ((hB0.trans ((below_regrown W dq osq).mono hB0.size)).mono hsz)
        generalize Go.Sort.grow (redrawn W dq) osq = W9 at hb9 ⊢
        go_wp2_with fail
        go_ret
        exact ⟨rfl, hb1.trans (hb9.mono hb1.size)⟩
      have hx2 : (x1 == 0) = false := by simpa using hx
      clear hx
      have hk3 : decide ((0 : Int) < (k : Int)) = true := decide_eq_true (by omega)
      have kg4 := fun dr os => cell_regrown r0v dr os
      obtain ⟨v, hv⟩ : ∃ v, v = leS x0 y0 := ⟨_, rfl⟩
      have hv1 := hv
      unfold leS at hv1
      have hv3 := hv1.symm
      replace hv := Lib.hid hv
      clear hv1
      cases v with
      | true =>
        have hok : okT L k = false := by rw [hal.out, ← hN.out, ← hF.out, hx2, ← hv.out]; rfl
        have htf : t = false := by rw [ht.out]; exact lin_no hkl hok
        subst htf
        clear hok
        refine wp_region_quiet_below (by kernel_rfl) (by kernel_rfl) ?_
        repeat (go_big_quiet_step (first | (with_reducible exact hcn.out _ _ _) | (with_reducible exact hcg.out _ _ _)))
        refine wpQuiet_nil ?_
        intro _ hw'
        obtain ⟨⟨dq, osq⟩, hw''⟩ := hw'
        subst hw''
        have hb9 := hbel.trans ((hB0.trans ((below_regrown W dq osq).mono hB0.size)).mono hsz)
        generalize Go.Sort.grow (redrawn W dq) osq = W9 at hb9 ⊢
        go_wp2_with fail
        go_ret
        exact ⟨rfl, hb1.trans (hb9.mono hb1.size)⟩
      | false =>
        have hok : okT L k = true := by rw [hal.out, ← hN.out, ← hF.out, hx2, ← hv.out]; rfl
        refine wp_region_quiet_below (by kernel_rfl) (by kernel_rfl) ?_
        repeat (go_big_quiet_step (first | (with_reducible exact hcn.out _ _ _) | (with_reducible exact hcg.out _ _ _)))
        refine wpQuiet_nil ?_
        intro _ hw'
        obtain ⟨⟨dq, osq⟩, hw''⟩ := hw'
        subst hw''
        have hb9 := hbel.trans ((hB0.trans ((below_regrown W dq osq).mono hB0.size)).mono hsz)
        generalize Go.Sort.grow (redrawn W dq) osq = W9 at hb9 ⊢
        go_wp2_with fail
        go_roundw
        case rel => exact ⟨k + 1, by go_num, by omega, all_next hall.out hok, hb9⟩
        case measure => simp [intOf]; omega

set_option maxHeartbeats 8000000 in
theorem implLinOk_any (a b : Int) (A : Option Addr) (n c lo hi : Nat) (L : List Anch) (t : Bool) (ht : t = linB a b L) (w : World)
    (hr : RdS 3 (FlatR anchC) w lo hi A n L) (hhi : hi ≤ w.heap.size) (hn : n ≤ 1000000000) (hs : ∀ g ∈ L, g.1.size ≤ maxLen) :
    Calls Tryz.prog 65 #[linV a b A n c] w fun e w' => e = .returned (.bool t) ∧ Below w.heap.size w w' := by
  obtain ⟨u, hu⟩ : ∃ u, u = fracB a b := ⟨_, rfl⟩
  have hc1 := implFrac_any a b (w.alloc (.cells #[.int .i64 a, .int .i64 b, .slice A n c] 105 (0, 0)))
  rw [← hu] at hc1
  replace hc1 := Lib.hid hc1
  have hBa := Go.Joins.below_alloc1 w (.cells #[.int .i64 a, .int .i64 b, .slice A n c] 105 (0, 0))
  have hX := heap_alloc_new w (.cells #[.int .i64 a, .int .i64 b, .slice A n c] 105 (0, 0))
  have k2 : (w.alloc (.cells #[.int .i64 a, .int .i64 b, .slice A n c] 105 (0, 0))).cell? ⟨w.heap.size, 2, none⟩ = some (.slice A n c) := by rw [Go.Joins.cell_of_block hX]; rfl
  have hll := Lib.hid hr.1
  replace hr := Lib.hid hr
  replace hs := Lib.hid hs
  replace ht := Lib.hid ht
  replace k2 := Lib.hid k2
  clear hX
  go_enter Tryz.func65, Tryz.ntmps65
  go_wp2_with fail
  refine hc1.out.mono ?_
  rintro e w1 ⟨rfl, hb1⟩
  have c21 := (hb1.cell (p := ⟨w.heap.size, 2, none⟩) (by simp)).trans k2.out
  have hp1 : w.heap.size < w1.heap.size := by have := hb1.size; simp at this; omega
  replace hb1 := hBa.trans (hb1.mono hBa.size)
  replace hu := Lib.hid hu
  clear hc1 k2 hBa
  cases u with
  | false =>
    have htf : t = false := by rw [ht.out]; unfold linB; rw [← hu.out]; rfl
    subst htf
    go_wp2_with fail
    go_ret
    exact ⟨rfl, hb1⟩
  | true =>
  by_cases h12 : (12 : Int) < (n : Int)
  · have htf : t = false := by rw [ht.out]; unfold linB; rw [decide_eq_false (by have := hll.out; omega)]; simp
    subst htf
    go_wp2_with fail
    go_ret
    exact ⟨rfl, hb1⟩
  go_wp2_with fail
  go_loopw [18] (fun i wr => ∃ k : Nat, i = .int .i64 k ∧ k ≤ n ∧ (∀ j, j < k → okT L j = true) ∧ Below w1.heap.size w1 wr) (fun i wr => n - (intOf i).toNat)
  case atStart => exact ⟨0, rfl, Nat.zero_le _, fun j hj => absurd hj (Nat.not_lt_zero j), Below.refl _ _⟩
  case round =>
    obtain ⟨k, rfl, hk, hall, hbel⟩ := hrel
    replace hall := Lib.hid hall
    have hsz := hbel.size
    have hB1 := hb1.trans (hbel.mono hb1.size)
    have c2w := (hbel.cell (p := ⟨w.heap.size, 2, none⟩) hp1).trans c21
    have hpw : w.heap.size < wr.heap.size := Nat.lt_of_lt_of_le hp1 hsz
    by_cases hlt : k < n
    rotate_left
    · have htt : t = true := by rw [ht.out]; exact lin_yes hu.out.symm (by have := hll.out; omega) fun j hj => hall.out j (by have := hll.out; omega)
      subst htt
      go_wp2_with fail
      go_ret
      exact ⟨rfl, hB1⟩
    have hkl : k < L.length := by rw [hll.out]; exact hlt
    obtain ⟨b1, f1, ⟨x0, x1, x2⟩, rfl, hb0, hbx, hja, hcs⟩ := (hr.out.frame (good_flat _) (Below.sameB hB1 hhi)).at hlt
    have q0 := hcs 0 _ rfl
    have q1 := hcs 1 _ rfl
    have q2 := hcs 2 _ rfl
    simp only [Nat.add_zero] at q0 q1 q2
    have hbw : b1 < wr.heap.size := by have := hB1.size; omega
    have hi : (0 : Int) ≤ (k : Int) ∧ (k : Int) < (n : Int) := by omega
    clear hcs
    rcases Nat.eq_zero_or_pos k with hk0 | hk0
    · have hal : okT L k = (nameB x0 && (fracB x1 x2 && !(x1 == 0))) := by subst hk0; exact okT_0 hja
      have hk3 : decide ((0 : Int) < (k : Int)) = false := decide_eq_false (by omega)
      have hk4 : decide (0 < k) = false := decide_eq_false (by omega)
      replace hk0 := Lib.hid hk0
      go_wp2_with fail
      have hsx : x0.size ≤ 9223372036854775807 := by have := hs.out _ (List.mem_of_getElem? hja); unfold maxLen at this; simpa using this
      obtain ⟨tN, hN⟩ : ∃ t, t = nameB x0 := ⟨_, rfl⟩
      obtain ⟨tF, hF⟩ : ∃ t, t = fracB x1 x2 := ⟨_, rfl⟩
      have hcn := Lib.hid (fun W dr os => calls_kept (fun w => implIsName_k x0 tN hN w hsx) W dr os)
      have hcf := implFrac_any x1 x2
      rw [← hF] at hcf
      have hcg := Lib.hid (fun W dr os => calls_below hcf W dr os)
      have hB0 := Go.Joins.below_alloc1 wr (.cells #[.string x0, .int .i64 x1, .int .i64 x2] 142 (0, 0))
      have hX := heap_alloc_new wr (.cells #[.string x0, .int .i64 x1, .int .i64 x2] 142 (0, 0))
      have t0 : (wr.alloc (.cells #[.string x0, .int .i64 x1, .int .i64 x2] 142 (0, 0))).cell? ⟨wr.heap.size, 0, none⟩ = some (.string x0) := by rw [Go.Joins.cell_of_block hX]; rfl
      have t1 : (wr.alloc (.cells #[.string x0, .int .i64 x1, .int .i64 x2] 142 (0, 0))).cell? ⟨wr.heap.size, 1, none⟩ = some (.int .i64 x1) := by rw [Go.Joins.cell_of_block hX]; rfl
      have t2 : (wr.alloc (.cells #[.string x0, .int .i64 x1, .int .i64 x2] 142 (0, 0))).cell? ⟨wr.heap.size, 2, none⟩ = some (.int .i64 x2) := by rw [Go.Joins.cell_of_block hX]; rfl
      have c2v := (hB0.cell (p := ⟨w.heap.size, 2, none⟩) hpw).trans c2w
      clear hX hcf hsx
      generalize wr.alloc (.cells #[.string x0, .int .i64 x1, .int .i64 x2] 142 (0, 0)) = W at *
      have kg0 := fun dr os => cell_regrown t0 dr os
      have kg1 := fun dr os => cell_regrown t1 dr os
      have kg2 := fun dr os => cell_regrown t2 dr os
      have kg3 := fun dr os => cell_regrown c2v dr os
      replace hN := Lib.hid hN
      replace hF := Lib.hid hF
      replace hal := Lib.hid hal
      cases tN with
      | false =>
        have hok : okT L k = false := by rw [hal.out, ← hN.out]; rfl
        have htf : t = false := by rw [ht.out]; exact lin_no hkl hok
        subst htf
        clear hok
        refine wp_region_quiet_below (by kernel_rfl) (by kernel_rfl) ?_
        repeat (go_big_quiet_step (first | (with_reducible exact hcn.out _ _ _) | (with_reducible exact hcg.out _ _ _)))
        refine wpQuiet_nil ?_
        intro _ hw'
        obtain ⟨⟨dq, osq⟩, hw''⟩ := hw'
        subst hw''
        have hb9 := hbel.trans ((hB0.trans ((below_regrown W dq osq).mono hB0.size)).mono hsz)
        generalize Go.Sort.grow (redrawn W dq) osq = W9 at hb9 ⊢
        go_wp2_with fail
        go_ret
        exact ⟨rfl, hb1.trans (hb9.mono hb1.size)⟩
      | true =>
      cases tF with
      | false =>
        have hok : okT L k = false := by rw [hal.out, ← hN.out, ← hF.out]; rfl
        have htf : t = false := by rw [ht.out]; exact lin_no hkl hok
        subst htf
        clear hok
        refine wp_region_quiet_below (by kernel_rfl) (by kernel_rfl) ?_
        repeat (go_big_quiet_step (first | (with_reducible exact hcn.out _ _ _) | (with_reducible exact hcg.out _ _ _)))
        refine wpQuiet_nil ?_
        intro _ hw'
        obtain ⟨⟨dq, osq⟩, hw''⟩ := hw'
        subst hw''
        have hb9 := hbel.trans ((hB0.trans ((below_regrown W dq osq).mono hB0.size)).mono hsz)
        generalize Go.Sort.grow (redrawn W dq) osq = W9 at hb9 ⊢
        go_wp2_with fail
        go_ret
        exact ⟨rfl, hb1.trans (hb9.mono hb1.size)⟩
      | true =>
      by_cases hx : x1 = 0
      · have hok : okT L k = false := by rw [hal.out, ← hN.out, ← hF.out, hx]; rfl
        have htf : t = false := by rw [ht.out]; exact lin_no hkl hok
        have hx2 : (x1 == 0) = true := by simpa using hx
        subst htf
        clear hok hx
        refine wp_region_quiet_below (by kernel_rfl) (by kernel_rfl) ?_
        repeat (go_big_quiet_step (first | (with_reducible exact hcn.out _ _ _) | (with_reducible exact hcg.out _ _ _)))
        refine wpQuiet_nil ?_
        intro _ hw'
        obtain ⟨⟨dq, osq⟩, hw''⟩ := hw'
        subst hw''
        have hb9 := hbel.trans ((hB0.trans ((below_regrown W dq osq).mono hB0.size)).mono hsz)
        generalize Go.Sort.grow (redrawn W dq) osq = W9 at hb9 ⊢
        go_wp2_with fail
        go_ret
        exact ⟨rfl, hb1.trans (hb9.mono hb1.size)⟩
      have hx2 : (x1 == 0) = false := by simpa using hx
      clear hx
      have hok : okT L k = true := by rw [hal.out, ← hN.out, ← hF.out, hx2]; rfl
      refine wp_region_quiet_below (by kernel_rfl) (by kernel_rfl) ?_
      repeat (go_big_quiet_step (first | (with_reducible exact hcn.out _ _ _) | (with_reducible exact hcg.out _ _ _)))
      refine wpQuiet_nil ?_
      intro _ hw'
      obtain ⟨⟨dq, osq⟩, hw''⟩ := hw'
      subst hw''
      have hb9 := hbel.trans ((hB0.trans ((below_regrown W dq osq).mono hB0.size)).mono hsz)
      generalize Go.Sort.grow (redrawn W dq) osq = W9 at hb9 ⊢
      go_wp2_with fail
      go_roundw
      case rel => exact ⟨k + 1, by go_num, by omega, all_next hall.out hok, hb9⟩
      case measure => simp [intOf]; omega
    · have hk2 : IntKind.i64.wrap ((k : Int) - 1) = (k : Int) - 1 := IntWalk.i64_in _ (by omega)
      have hi2 : (0 : Int) ≤ (k : Int) - 1 ∧ (k : Int) - 1 < (n : Int) := by omega
      have e1 : ((k : Int) - 1).toNat = k - 1 := by omega
      obtain ⟨b2, f2, ⟨y0, y1, y2⟩, hA, hb0', hbx', hja', hcs⟩ := (hr.out.frame (good_flat _) (Below.sameB hB1 hhi)).at (j := k - 1) (by omega)
      have r0 := hcs 0 _ rfl
      injection hA with hA
      injection hA with hA1 hA2
      subst hA1 hA2
      simp only [Nat.add_zero] at r0
      clear hcs
      have hal := okT_k hk0 hja hja'
      go_wp2_with fail
      have hsx : x0.size ≤ 9223372036854775807 := by have := hs.out _ (List.mem_of_getElem? hja); unfold maxLen at this; simpa using this
      obtain ⟨tN, hN⟩ : ∃ t, t = nameB x0 := ⟨_, rfl⟩
      obtain ⟨tF, hF⟩ : ∃ t, t = fracB x1 x2 := ⟨_, rfl⟩
      have hcn := Lib.hid (fun W dr os => calls_kept (fun w => implIsName_k x0 tN hN w hsx) W dr os)
      have hcf := implFrac_any x1 x2
      rw [← hF] at hcf
      have hcg := Lib.hid (fun W dr os => calls_below hcf W dr os)
      have hB0 := Go.Joins.below_alloc1 wr (.cells #[.string x0, .int .i64 x1, .int .i64 x2] 142 (0, 0))
      have hX := heap_alloc_new wr (.cells #[.string x0, .int .i64 x1, .int .i64 x2] 142 (0, 0))
      have t0 : (wr.alloc (.cells #[.string x0, .int .i64 x1, .int .i64 x2] 142 (0, 0))).cell? ⟨wr.heap.size, 0, none⟩ = some (.string x0) := by rw [Go.Joins.cell_of_block hX]; rfl
      have t1 : (wr.alloc (.cells #[.string x0, .int .i64 x1, .int .i64 x2] 142 (0, 0))).cell? ⟨wr.heap.size, 1, none⟩ = some (.int .i64 x1) := by rw [Go.Joins.cell_of_block hX]; rfl
      have t2 : (wr.alloc (.cells #[.string x0, .int .i64 x1, .int .i64 x2] 142 (0, 0))).cell? ⟨wr.heap.size, 2, none⟩ = some (.int .i64 x2) := by rw [Go.Joins.cell_of_block hX]; rfl
      have c2v := (hB0.cell (p := ⟨w.heap.size, 2, none⟩) hpw).trans c2w
      clear hX hcf hsx
      have r0v := (hB0.cell (p := ⟨b1, f1 + (k - 1) * 3, none⟩) hbw).trans r0
      generalize wr.alloc (.cells #[.string x0, .int .i64 x1, .int .i64 x2] 142 (0, 0)) = W at *
      have kg0 := fun dr os => cell_regrown t0 dr os
      have kg1 := fun dr os => cell_regrown t1 dr os
      have kg2 := fun dr os => cell_regrown t2 dr os
      have kg3 := fun dr os => cell_regrown c2v dr os
      replace hN := Lib.hid hN
      replace hF := Lib.hid hF
      replace hal := Lib.hid hal
      cases tN with
      | false =>
        have hok : okT L k = false := by rw [hal.out, ← hN.out]; rfl
        have htf : t = false := by rw [ht.out]; exact lin_no hkl hok
        subst htf
        clear hok
        refine wp_region_quiet_below (by kernel_rfl) (by kernel_rfl) ?_
        repeat (go_big_quiet_step (first | (with_reducible exact hcn.out _ _ _) | (with_reducible exact hcg.out _ _ _)))
        refine wpQuiet_nil ?_
        intro _ hw'
        obtain ⟨⟨dq, osq⟩, hw''⟩ := hw'
        subst hw''
        have hb9 := hbel.trans ((hB0.trans ((below_regrown W dq osq).mono hB0.size)).mono hsz)
        generalize Go.Sort.grow (redrawn W dq) osq = W9 at hb9 ⊢
        go_wp2_with fail
        go_ret
        exact ⟨rfl, hb1.trans (hb9.mono hb1.size)⟩
      | true =>
      cases tF with
      | false =>
        have hok : okT L k = false := by rw [hal.out, ← hN.out, ← hF.out]; rfl
        have htf : t = false := by rw [ht.out]; exact lin_no hkl hok
        subst htf
        clear hok
        refine wp_region_quiet_below (by kernel_rfl) (by kernel_rfl) ?_
        repeat (go_big_quiet_step (first | (with_reducible exact hcn.out _ _ _) | (with_reducible exact hcg.out _ _ _)))
        refine wpQuiet_nil ?_
        intro _ hw'
        obtain ⟨⟨dq, osq⟩, hw''⟩ := hw'
        subst hw''
        have hb9 := hbel.trans ((hB0.trans ((below_regrown W dq osq).mono hB0.size)).mono hsz)
        generalize Go.Sort.grow (redrawn W dq) osq = W9 at hb9 ⊢
        go_wp2_with fail
        go_ret
        exact ⟨rfl, hb1.trans (hb9.mono hb1.size)⟩
      | true =>
      by_cases hx : x1 = 0
      · have hok : okT L k = false := by rw [hal.out, ← hN.out, ← hF.out, hx]; rfl
        have htf : t = false := by rw [ht.out]; exact lin_no hkl hok
        have hx2 : (x1 == 0) = true := by simpa using hx
        subst htf
        clear hok hx
        refine wp_region_quiet_below (by kernel_rfl) (by kernel_rfl) ?_
        repeat (go_big_quiet_step (first | (with_reducible exact hcn.out _ _ _) | (with_reducible exact hcg.out _ _ _)))
        refine wpQuiet_nil ?_
        intro _ hw'
        obtain ⟨⟨dq, osq⟩, hw''⟩ := hw'
        subst hw''
        have hb9 := hbel.trans ((hB0.trans ((below_regrown W dq osq).mono hB0.size)).mono hsz)
        generalize Go.Sort.grow (redrawn W dq) osq = W9 at hb9 ⊢
        go_wp2_with fail
        go_ret
        exact ⟨rfl, hb1.trans (hb9.mono hb1.size)⟩
      have hx2 : (x1 == 0) = false := by simpa using hx
      clear hx
      have hk3 : decide ((0 : Int) < (k : Int)) = true := decide_eq_true (by omega)
      have kg4 := fun dr os => cell_regrown r0v dr os
      obtain ⟨v, hv⟩ : ∃ v, v = leS x0 y0 := ⟨_, rfl⟩
      have hv1 := hv
      unfold leS at hv1
      have hv3 := (not_less x0.toList y0.toList).trans hv1.symm
      replace hv := Lib.hid hv
      clear hv1
      cases v with
      | true =>
        have hok : okT L k = false := by rw [hal.out, ← hN.out, ← hF.out, hx2, ← hv.out]; rfl
        have htf : t = false := by rw [ht.out]; exact lin_no hkl hok
        subst htf
        clear hok
        refine wp_region_quiet_below (by kernel_rfl) (by kernel_rfl) ?_
        repeat (go_big_quiet_step (first | (with_reducible exact hcn.out _ _ _) | (with_reducible exact hcg.out _ _ _)))
        refine wpQuiet_nil ?_
        intro _ hw'
        obtain ⟨⟨dq, osq⟩, hw''⟩ := hw'
        subst hw''
        have hb9 := hbel.trans ((hB0.trans ((below_regrown W dq osq).mono hB0.size)).mono hsz)
        generalize Go.Sort.grow (redrawn W dq) osq = W9 at hb9 ⊢
        go_wp2_with fail
        go_ret
        exact ⟨rfl, hb1.trans (hb9.mono hb1.size)⟩
      | false =>
        have hok : okT L k = true := by rw [hal.out, ← hN.out, ← hF.out, hx2, ← hv.out]; rfl
        refine wp_region_quiet_below (by kernel_rfl) (by kernel_rfl) ?_
        repeat (go_big_quiet_step (first | (with_reducible exact hcn.out _ _ _) | (with_reducible exact hcg.out _ _ _)))
        refine wpQuiet_nil ?_
        intro _ hw'
        obtain ⟨⟨dq, osq⟩, hw''⟩ := hw'
        subst hw''
        have hb9 := hbel.trans ((hB0.trans ((below_regrown W dq osq).mono hB0.size)).mono hsz)
        generalize Go.Sort.grow (redrawn W dq) osq = W9 at hb9 ⊢
        go_wp2_with fail
        go_roundw
        case rel => exact ⟨k + 1, by go_num, by omega, all_next hall.out hok, hb9⟩
        case measure => simp [intOf]; omega
end Go.Proofs.YtfkidklpjiiclaaGreat

/- Pens and paths by name, both sides. Printed by mk_vs6.py. Conditions: as each states. -/
namespace Go.Proofs.YtfkidklpjiiclaaGreat
open Go.RowKit
set_option linter.unusedVariables false
set_option maxRecDepth 100000

/-- the place of the first of a name; -1 if there is none -/
def nmIdx {α : Type} (f : α → ByteArray) (L : List α) (s : ByteArray) : Int := match L.findIdx? (fun r => (f r).toList == s.toList) with | some i => i | none => -1
theorem nmIdx_at {α : Type} {f : α → ByteArray} {L : List α} {s : ByteArray} {k : Nat} {d : α} (h : L[k]? = some d) (he : ((f d).toList == s.toList) = true) (hall : ∀ (j : Nat) (d : α), j < k → L[j]? = some d → ((f d).toList == s.toList) = false) : nmIdx f L s = k := by
  have hk := (List.getElem?_eq_some_iff.1 h).1
  have e : L.findIdx? (fun r => (f r).toList == s.toList) = some k := by
    rw [List.findIdx?_eq_some_iff_getElem]
    refine ⟨hk, ?_, fun j hj => ?_⟩
    · rw [List.getElem?_eq_getElem hk] at h
      injection h with h
      rw [h]; exact he
    · rw [hall j _ hj (List.getElem?_eq_getElem (by omega))]; simp
  unfold nmIdx; rw [e]
theorem nmIdx_no {α : Type} {f : α → ByteArray} {L : List α} {s : ByteArray} (h : ∀ (j : Nat) (d : α), L[j]? = some d → ((f d).toList == s.toList) = false) : nmIdx f L s = -1 := by
  have e : L.findIdx? (fun r => (f r).toList == s.toList) = none := by
    rw [List.findIdx?_eq_none_iff]
    intro d hd
    obtain ⟨j, hj⟩ := List.getElem?_of_mem hd
    exact h j d hj
  unfold nmIdx; rw [e]
/-- no earlier one bears the name -/
theorem nm_first {α : Type} {f : α → ByteArray} {L : List α} {k : Nat} {d : α} (h : L[k]? = some d) : nmIdx f L (f d) = k ↔ nmIdx f (L.take k) (f d) < 0 := by
  have hk := (List.getElem?_eq_some_iff.1 h).1
  have hself : ((f d).toList == (f d).toList) = true := by simp
  by_cases hall : ∀ (j : Nat) (e : α), j < k → L[j]? = some e → ((f e).toList == (f d).toList) = false
  · have h1 := nmIdx_at h hself hall
    have h2 : nmIdx f (L.take k) (f d) = -1 := nmIdx_no fun j e hj => by
      have hjl := (List.getElem?_eq_some_iff.1 hj).1
      rw [List.length_take] at hjl
      rw [List.getElem?_take_of_lt (by omega)] at hj
      exact hall j e (by omega) hj
    rw [h1, h2]; simp
  · have hex : ∃ (j : Nat) (e : α), j < k ∧ L[j]? = some e ∧ ((f e).toList == (f d).toList) = true := by
      refine Classical.byContradiction fun hno => hall fun j e hj he => ?_
      cases hb : ((f e).toList == (f d).toList)
      · rfl
      · exact absurd ⟨j, e, hj, he, hb⟩ hno
    obtain ⟨j, e, hj, he, hb⟩ := hex
    -- the first such place
    have key : ∀ (M : List α), M[j]? = some e → ∃ i : Nat, i ≤ j ∧ nmIdx f M (f d) = i := by
      intro M hM
      unfold nmIdx
      cases hf : M.findIdx? (fun r => (f r).toList == (f d).toList) with
      | none =>
        rw [List.findIdx?_eq_none_iff] at hf
        have := hf e (List.mem_of_getElem? hM)
        rw [hb] at this; cases this
      | some i =>
        refine ⟨i, ?_, rfl⟩
        rw [List.findIdx?_eq_some_iff_getElem] at hf
        obtain ⟨hi, h1, h2⟩ := hf
        refine Nat.le_of_not_lt fun hlt => ?_
        have hjl := (List.getElem?_eq_some_iff.1 hM).1
        have h3 := h2 j hlt
        rw [List.getElem?_eq_getElem hjl] at hM
        injection hM with hM
        rw [hM] at h3
        exact h3 hb
    obtain ⟨i1, hi1, h1⟩ := key L he
    obtain ⟨i2, hi2, h2⟩ := key (L.take k) (by rw [List.getElem?_take_of_lt hj]; exact he)
    rw [h1, h2]
    constructor <;> intro h' <;> omega

abbrev penIdx (L : List NamedPenD) (s : ByteArray) : Int := nmIdx NamedPenD.name L s
set_option maxHeartbeats 2000000 in
theorem l08Pen_any (p o : Nat) (s : ByteArray) (A : Option Addr) (n c lo hi : Nat) (L : List NamedPenD) (w : World) (hp : w.cell? ⟨p, o + 1, none⟩ = some (.slice A n c)) (hr : pensRd w lo hi A n L) (hhi : hi ≤ w.heap.size) (hn : n ≤ 1000000000) :
    Calls Tryz.prog 102 #[.pointer (some ⟨p, o, none⟩), .string s] w fun e w' => e = .returned (.int .i64 (penIdx L s)) ∧ w' = w := by
  have hll := Lib.hid hr.1
  obtain ⟨res, hres⟩ : ∃ x, x = penIdx L s := ⟨_, rfl⟩
  rw [← hres]
  replace hr := Lib.hid hr
  replace hres := Lib.hid hres
  go_enter Tryz.func102, Tryz.ntmps102
  go_wp2_with fail
  go_loopw [5] (fun i wr => ∃ k : Nat, i = .int .i64 k ∧ k ≤ n ∧ (∀ (j : Nat) (d : NamedPenD), j < k → L[j]? = some d → (d.name.toList == s.toList) = false) ∧ wr = w) (fun i wr => n - (intOf i).toNat)
  case atStart => exact ⟨0, rfl, Nat.zero_le _, fun j d hj => absurd hj (Nat.not_lt_zero j), rfl⟩
  case round =>
    obtain ⟨k, rfl, hk, hall, rfl⟩ := hrel
    replace hall := Lib.hid hall
    by_cases hlt : k < n
    rotate_left
    · have htf : res = -1 := by
        rw [hres.out]
        exact nmIdx_no fun j d hj => hall.out j d (by have := (List.getElem?_eq_some_iff.1 hj).1; have := hll.out; omega) hj
      subst htf
      go_wp2_with fail
      go_ret
      exact ⟨rfl, rfl⟩
    obtain ⟨b, off, d, hh, rfl, hb0, hb, hja, hcs, hrd⟩ := pen_at hr.out hlt
    have q0 := hcs 0 _ rfl
    simp only [Nat.add_zero] at q0
    have hbw : b < wr.heap.size := by omega
    have hki : (0 : Int) ≤ (k : Int) ∧ (k : Int) < (n : Int) := by omega
    obtain ⟨nm, hnm⟩ : ∃ x, x = d.name := ⟨_, rfl⟩
    rw [← hnm] at q0
    replace hnm := Lib.hid hnm
    clear hcs hrd
    cases he : (nm.toList == s.toList) with
    | true =>
      have htt : res = k := by rw [hres.out]; exact nmIdx_at hja (by rw [← hnm.out]; exact he) hall.out
      subst htt
      go_wp2_with fail
      go_ret
      exact ⟨rfl, rfl⟩
    | false =>
      replace hja := Lib.hid hja
      go_wp2_with fail
      go_roundw
      case rel =>
        refine ⟨k + 1, by go_num, by omega, fun j d' hj hd' => ?_, trivial⟩
        rcases Nat.lt_or_ge j k with h | h
        · exact hall.out j d' h hd'
        · have : j = k := by omega
          subst this
          have := Option.some.inj (hja.out.symm.trans hd')
          subst this
          rw [← hnm.out]; exact he
      case measure => simp [intOf]; omega
theorem findPenIs_any (bb : Nat) (d : NamedPenD) (h : Hd) (s : ByteArray) (t : Bool) (ht : t = (d.name.toList == s.toList)) (w : World) (hc : w.cell? ⟨bb, 0, none⟩ = some (.string s)) (hb : bb < w.heap.size) :
    Calls Tryz.prog 76 #[penV d h, .pointer (some ⟨bb, 0, none⟩)] w fun e w' => e = .returned (.bool t) ∧ Below w.heap.size w w' := by
  have ht2 := ht.symm
  replace ht := Lib.hid ht
  go_enter Tryz.func76, Tryz.ntmps76
  go_wp2_with fail
  go_ret
  exact ⟨rfl, Go.Joins.below_alloc1 _ _⟩
set_option maxHeartbeats 2000000 in
theorem findPenIdx_any (bb : Nat) (s : ByteArray) (A : Option Addr) (n c lo hi : Nat) (L : List NamedPenD) (w : World) (hr : pensRd w lo hi A n L) (hhi : hi ≤ w.heap.size) (hn : n ≤ 1000000000) (hc : w.cell? ⟨bb, 0, none⟩ = some (.string s)) (hb : bb < w.heap.size) :
    Calls Tryz.prog 75 #[.slice A n c, .func (.func 76) #[] #[.pointer (some ⟨bb, 0, none⟩)]] w fun e w' => e = .returned (.int .i64 (penIdx L s)) ∧ Below w.heap.size w w' := by
  have hll := Lib.hid hr.1
  obtain ⟨res, hres⟩ : ∃ x, x = penIdx L s := ⟨_, rfl⟩
  rw [← hres]
  replace hr := Lib.hid hr
  replace hc := Lib.hid hc
  replace hres := Lib.hid hres
  go_enter Tryz.func75, Tryz.ntmps75
  go_wp2_with fail
  go_loopw [8] (fun i wr => ∃ k : Nat, i = .int .i64 k ∧ k ≤ n ∧ (∀ (j : Nat) (d : NamedPenD), j < k → L[j]? = some d → (d.name.toList == s.toList) = false) ∧ Below w.heap.size w wr) (fun i wr => n - (intOf i).toNat)
  case atStart => exact ⟨0, rfl, Nat.zero_le _, fun j d hj => absurd hj (Nat.not_lt_zero j), Below.refl _ _⟩
  case round =>
    obtain ⟨k, rfl, hk, hall, hbel⟩ := hrel
    replace hall := Lib.hid hall
    have hsz := hbel.size
    by_cases hlt : k < n
    rotate_left
    · have htf : res = -1 := by
        rw [hres.out]
        exact nmIdx_no fun j d hj => hall.out j d (by have := (List.getElem?_eq_some_iff.1 hj).1; have := hll.out; omega) hj
      subst htf
      go_wp2_with fail
      go_ret
      exact ⟨rfl, hbel⟩
    obtain ⟨b, off, d, hh, rfl, hb0, hb1, hja, hcs, hrd⟩ := pen_at (hr.out.frame good_pen (Below.sameB hbel hhi)) hlt
    have q0 := hcs 0 _ rfl
    have q1 := hcs 1 _ rfl
    simp only [Nat.add_zero] at q0 q1
    have hbw : b < wr.heap.size := by omega
    have hki : (0 : Int) ≤ (k : Int) ∧ (k : Int) < (n : Int) := by omega
    obtain ⟨t, ht⟩ : ∃ t, t = (d.name.toList == s.toList) := ⟨_, rfl⟩
    have hcall := Lib.hid (findPenIs_any bb d hh s t ht wr ((hbel.cell (p := ⟨bb, 0, none⟩) hb).trans hc.out) (by omega))
    replace ht := Lib.hid ht
    replace hja := Lib.hid hja
    clear hcs hrd
    go_wp2_with fail
    refine hcall.out.mono ?_
    rintro e w1 ⟨rfl, hb2⟩
    have hbel1 := hbel.trans (hb2.mono hsz)
    cases t with
    | true =>
      have htt : res = k := by rw [hres.out]; exact nmIdx_at hja.out ht.out.symm hall.out
      subst htt
      go_wp2_with fail
      go_ret
      exact ⟨rfl, hbel1⟩
    | false =>
      go_wp2_with fail
      go_roundw
      case rel =>
        refine ⟨k + 1, by go_num, by omega, fun j d' hj hd' => ?_, hbel1⟩
        rcases Nat.lt_or_ge j k with h | h
        · exact hall.out j d' h hd'
        · have : j = k := by omega
          subst this
          have := Option.some.inj (hja.out.symm.trans hd')
          subst this
          exact ht.out.symm
      case measure => simp [intOf]; omega
theorem findPen_any (s : ByteArray) (A : Option Addr) (n c lo hi : Nat) (L : List NamedPenD) (w : World) (hr : pensRd w lo hi A n L) (hhi : hi ≤ w.heap.size) (hn : n ≤ 1000000000) :
    Calls Tryz.prog 30 #[.slice A n c, .string s] w fun e w' => e = .returned (.int .i64 (penIdx L s)) ∧ Below w.heap.size w w' := by
  have hb0 := Go.Joins.below_alloc1 w (.cells #[.string s] 9 (0, 0))
  have hX := heap_alloc_new w (.cells #[.string s] 9 (0, 0))
  have hc := Lib.hid (findPenIdx_any w.heap.size s A n c lo hi L (w.alloc (.cells #[.string s] 9 (0, 0))) (hr.frame good_pen (Below.sameB hb0 hhi)) (Nat.le_trans hhi hb0.size) hn (by rw [Go.Joins.cell_of_block hX]; rfl) (by simp))
  clear hr hX
  go_enter Tryz.func30, Tryz.ntmps30
  go_wp2_with fail
  refine hc.out.mono ?_
  rintro e w1 ⟨rfl, hb1⟩
  go_wp2_with fail
  go_ret
  exact ⟨rfl, hb0.trans (hb1.mono hb0.size)⟩

abbrev npathIdx (L : List NamedPathD) (s : ByteArray) : Int := nmIdx NamedPathD.name L s
set_option maxHeartbeats 2000000 in
theorem l08Path_any (p o : Nat) (s : ByteArray) (A : Option Addr) (n c lo hi : Nat) (L : List NamedPathD) (w : World) (hp : w.cell? ⟨p, o + 2, none⟩ = some (.slice A n c)) (hr : npathsRd w lo hi A n L) (hhi : hi ≤ w.heap.size) (hn : n ≤ 1000000000) :
    Calls Tryz.prog 104 #[.pointer (some ⟨p, o, none⟩), .string s] w fun e w' => e = .returned (.int .i64 (npathIdx L s)) ∧ w' = w := by
  have hll := Lib.hid hr.1
  obtain ⟨res, hres⟩ : ∃ x, x = npathIdx L s := ⟨_, rfl⟩
  rw [← hres]
  replace hr := Lib.hid hr
  replace hres := Lib.hid hres
  go_enter Tryz.func104, Tryz.ntmps104
  go_wp2_with fail
  go_loopw [5] (fun i wr => ∃ k : Nat, i = .int .i64 k ∧ k ≤ n ∧ (∀ (j : Nat) (d : NamedPathD), j < k → L[j]? = some d → (d.name.toList == s.toList) = false) ∧ wr = w) (fun i wr => n - (intOf i).toNat)
  case atStart => exact ⟨0, rfl, Nat.zero_le _, fun j d hj => absurd hj (Nat.not_lt_zero j), rfl⟩
  case round =>
    obtain ⟨k, rfl, hk, hall, rfl⟩ := hrel
    replace hall := Lib.hid hall
    by_cases hlt : k < n
    rotate_left
    · have htf : res = -1 := by
        rw [hres.out]
        exact nmIdx_no fun j d hj => hall.out j d (by have := (List.getElem?_eq_some_iff.1 hj).1; have := hll.out; omega) hj
      subst htf
      go_wp2_with fail
      go_ret
      exact ⟨rfl, rfl⟩
    obtain ⟨b, off, d, hh, rfl, hb0, hb, hja, hcs, hrd⟩ := npath_at hr.out hlt
    have q0 := hcs 0 _ rfl
    simp only [Nat.add_zero] at q0
    have hbw : b < wr.heap.size := by omega
    have hki : (0 : Int) ≤ (k : Int) ∧ (k : Int) < (n : Int) := by omega
    obtain ⟨nm, hnm⟩ : ∃ x, x = d.name := ⟨_, rfl⟩
    rw [← hnm] at q0
    replace hnm := Lib.hid hnm
    clear hcs hrd
    cases he : (nm.toList == s.toList) with
    | true =>
      have htt : res = k := by rw [hres.out]; exact nmIdx_at hja (by rw [← hnm.out]; exact he) hall.out
      subst htt
      go_wp2_with fail
      go_ret
      exact ⟨rfl, rfl⟩
    | false =>
      replace hja := Lib.hid hja
      go_wp2_with fail
      go_roundw
      case rel =>
        refine ⟨k + 1, by go_num, by omega, fun j d' hj hd' => ?_, trivial⟩
        rcases Nat.lt_or_ge j k with h | h
        · exact hall.out j d' h hd'
        · have : j = k := by omega
          subst this
          have := Option.some.inj (hja.out.symm.trans hd')
          subst this
          rw [← hnm.out]; exact he
      case measure => simp [intOf]; omega
theorem findPathIs_any (bb : Nat) (d : NamedPathD) (h : Hd) (s : ByteArray) (t : Bool) (ht : t = (d.name.toList == s.toList)) (w : World) (hc : w.cell? ⟨bb, 0, none⟩ = some (.string s)) (hb : bb < w.heap.size) :
    Calls Tryz.prog 78 #[npathV d h, .pointer (some ⟨bb, 0, none⟩)] w fun e w' => e = .returned (.bool t) ∧ Below w.heap.size w w' := by
  have ht2 := ht.symm
  replace ht := Lib.hid ht
  go_enter Tryz.func78, Tryz.ntmps78
  go_wp2_with fail
  go_ret
  exact ⟨rfl, Go.Joins.below_alloc1 _ _⟩
set_option maxHeartbeats 2000000 in
theorem findPathIdx_any (bb : Nat) (s : ByteArray) (A : Option Addr) (n c lo hi : Nat) (L : List NamedPathD) (w : World) (hr : npathsRd w lo hi A n L) (hhi : hi ≤ w.heap.size) (hn : n ≤ 1000000000) (hc : w.cell? ⟨bb, 0, none⟩ = some (.string s)) (hb : bb < w.heap.size) :
    Calls Tryz.prog 77 #[.slice A n c, .func (.func 78) #[] #[.pointer (some ⟨bb, 0, none⟩)]] w fun e w' => e = .returned (.int .i64 (npathIdx L s)) ∧ Below w.heap.size w w' := by
  have hll := Lib.hid hr.1
  obtain ⟨res, hres⟩ : ∃ x, x = npathIdx L s := ⟨_, rfl⟩
  rw [← hres]
  replace hr := Lib.hid hr
  replace hc := Lib.hid hc
  replace hres := Lib.hid hres
  go_enter Tryz.func77, Tryz.ntmps77
  go_wp2_with fail
  go_loopw [8] (fun i wr => ∃ k : Nat, i = .int .i64 k ∧ k ≤ n ∧ (∀ (j : Nat) (d : NamedPathD), j < k → L[j]? = some d → (d.name.toList == s.toList) = false) ∧ Below w.heap.size w wr) (fun i wr => n - (intOf i).toNat)
  case atStart => exact ⟨0, rfl, Nat.zero_le _, fun j d hj => absurd hj (Nat.not_lt_zero j), Below.refl _ _⟩
  case round =>
    obtain ⟨k, rfl, hk, hall, hbel⟩ := hrel
    replace hall := Lib.hid hall
    have hsz := hbel.size
    by_cases hlt : k < n
    rotate_left
    · have htf : res = -1 := by
        rw [hres.out]
        exact nmIdx_no fun j d hj => hall.out j d (by have := (List.getElem?_eq_some_iff.1 hj).1; have := hll.out; omega) hj
      subst htf
      go_wp2_with fail
      go_ret
      exact ⟨rfl, hbel⟩
    obtain ⟨b, off, d, hh, rfl, hb0, hb1, hja, hcs, hrd⟩ := npath_at (hr.out.frame good_npath (Below.sameB hbel hhi)) hlt
    have q0 := hcs 0 _ rfl
    have q1 := hcs 1 _ rfl
    have q2 := hcs 2 _ rfl
    simp only [Nat.add_zero] at q0 q1 q2
    have hbw : b < wr.heap.size := by omega
    have hki : (0 : Int) ≤ (k : Int) ∧ (k : Int) < (n : Int) := by omega
    obtain ⟨t, ht⟩ : ∃ t, t = (d.name.toList == s.toList) := ⟨_, rfl⟩
    have hcall := Lib.hid (findPathIs_any bb d hh s t ht wr ((hbel.cell (p := ⟨bb, 0, none⟩) hb).trans hc.out) (by omega))
    replace ht := Lib.hid ht
    replace hja := Lib.hid hja
    clear hcs hrd
    go_wp2_with fail
    refine hcall.out.mono ?_
    rintro e w1 ⟨rfl, hb2⟩
    have hbel1 := hbel.trans (hb2.mono hsz)
    cases t with
    | true =>
      have htt : res = k := by rw [hres.out]; exact nmIdx_at hja.out ht.out.symm hall.out
      subst htt
      go_wp2_with fail
      go_ret
      exact ⟨rfl, hbel1⟩
    | false =>
      go_wp2_with fail
      go_roundw
      case rel =>
        refine ⟨k + 1, by go_num, by omega, fun j d' hj hd' => ?_, hbel1⟩
        rcases Nat.lt_or_ge j k with h | h
        · exact hall.out j d' h hd'
        · have : j = k := by omega
          subst this
          have := Option.some.inj (hja.out.symm.trans hd')
          subst this
          exact ht.out.symm
      case measure => simp [intOf]; omega
theorem findPath_any (s : ByteArray) (A : Option Addr) (n c lo hi : Nat) (L : List NamedPathD) (w : World) (hr : npathsRd w lo hi A n L) (hhi : hi ≤ w.heap.size) (hn : n ≤ 1000000000) :
    Calls Tryz.prog 32 #[.slice A n c, .string s] w fun e w' => e = .returned (.int .i64 (npathIdx L s)) ∧ Below w.heap.size w w' := by
  have hb0 := Go.Joins.below_alloc1 w (.cells #[.string s] 9 (0, 0))
  have hX := heap_alloc_new w (.cells #[.string s] 9 (0, 0))
  have hc := Lib.hid (findPathIdx_any w.heap.size s A n c lo hi L (w.alloc (.cells #[.string s] 9 (0, 0))) (hr.frame good_npath (Below.sameB hb0 hhi)) (Nat.le_trans hhi hb0.size) hn (by rw [Go.Joins.cell_of_block hX]; rfl) (by simp))
  clear hr hX
  go_enter Tryz.func32, Tryz.ntmps32
  go_wp2_with fail
  refine hc.out.mono ?_
  rintro e w1 ⟨rfl, hb1⟩
  go_wp2_with fail
  go_ret
  exact ⟨rfl, hb0.trans (hb1.mono hb0.size)⟩

end Go.Proofs.YtfkidklpjiiclaaGreat

