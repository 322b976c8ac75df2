/- Systems: whether they are valid, both sides. Printed by mk_vs5.py. Conditions: as each states. -/
import Derived.Test.YtfkidklpjiiclaaGreatTe11
namespace Go.Proofs.YtfkidklpjiiclaaGreat
open Go.RowKit
set_option linter.unusedVariables false
set_option maxRecDepth 100000

abbrev zR : RowD := ⟨ByteArray.empty, 0, 0, []⟩
def okR (L : List RowD) (k : Nat) : Bool := nameB (L.getD k zR).name && (linB (L.getD k zR).num (L.getD k zR).den (L.getD k zR).L && (decide (k = 0) || !leS (L.getD k zR).name (L.getD (k - 1) zR).name))
def freeR (L : List RowD) (k : Nat) : Bool := (L.getD k zR).L.all fun t => !hasR L t.1
def sysB (L : List RowD) : Bool := decide (L.length ≤ 24) && ((List.range L.length).all (okR L) && (List.range L.length).all (freeR L))
theorem okR_0 {L : List RowD} {d : RowD} (h : L[0]? = some d) : okR L 0 = (nameB d.name && linB d.num d.den d.L) := by
  unfold okR; rw [getD_some h]; simp
theorem okR_k {L : List RowD} {k : Nat} {d e : RowD} (hk : 0 < k) (h : L[k]? = some d) (h' : L[k - 1]? = some e) : okR L k = (nameB d.name && (linB d.num d.den d.L && !leS d.name e.name)) := by
  unfold okR; rw [getD_some h, getD_some h', decide_eq_false (by omega)]; rfl
theorem all_range_no {p : Nat → Bool} {n k : Nat} (hk : k < n) (h : p k = false) : (List.range n).all p = false := by
  rw [List.all_eq_false]; exact ⟨k, List.mem_range.2 hk, by rw [h]; simp⟩
theorem sys_no1 {L : List RowD} {k : Nat} (hk : k < L.length) (h : okR L k = false) : sysB L = false := by
  unfold sysB; rw [all_range_no hk h]; simp
theorem sys_no2 {L : List RowD} {k : Nat} (hk : k < L.length) (h : freeR L k = false) : sysB L = false := by
  unfold sysB; rw [all_range_no hk h]; simp
theorem sys_all {L : List RowD} (h : ∀ j, j < L.length → okR L j = true) (h' : ∀ j, j < L.length → freeR L j = true) : sysB L = decide (L.length ≤ 24) := by
  unfold sysB
  rw [List.all_eq_true.2 fun j hj => h j (List.mem_range.1 hj), List.all_eq_true.2 fun j hj => h' j (List.mem_range.1 hj)]; simp
theorem free_no {L : List RowD} {k : Nat} {d : RowD} {t : Anch} (h : L[k]? = some d) (ht : t ∈ d.L) (hh : hasR L t.1 = true) : freeR L k = false := by
  unfold freeR; rw [getD_some h, List.all_eq_false]; exact ⟨t, ht, by rw [hh]; simp⟩
theorem free_yes {L : List RowD} {k : Nat} {d : RowD} (h : L[k]? = some d) (hh : ∀ (j : Nat) (t : Anch), j < d.L.length → d.L[j]? = some t → hasR L t.1 = false) : freeR L k = true := by
  unfold freeR; rw [getD_some h, List.all_eq_true]
  intro t ht
  obtain ⟨j, hj⟩ := List.getElem?_of_mem ht
  rw [hh j t (List.getElem?_eq_some_iff.1 hj).1 hj]; rfl
theorem leS_cmp (x y : ByteArray) : leS x y = decide (¬ Lib.compareBytes y.data.toList x.data.toList < 0) := by
  unfold leS
  rw [← not_less, less_cmp, ByteArray.toList_eq, ByteArray.toList_eq, decide_not]
theorem ris_of {L : List RowD} (h : ∀ j, j < L.length → okR L j = true) : RisR L := by
  have step : ∀ (i : Nat) (a b : RowD), L[i]? = some a → L[i + 1]? = some b → Lib.compareBytes a.name.data.toList b.name.data.toList < 0 := by
    intro i a b ha hb
    have h1 := h (i + 1) (List.getElem?_eq_some_iff.1 hb).1
    rw [okR_k (by omega) hb (by simpa using ha)] at h1
    simp only [Bool.and_eq_true, Bool.not_eq_true', leS_cmp, decide_eq_false_iff_not, Decidable.not_not] at h1
    exact h1.2.2
  have : ∀ (m i : Nat) (a b : RowD), L[i]? = some a → L[i + 1 + m]? = some b → Lib.compareBytes a.name.data.toList b.name.data.toList < 0 := by
    intro m
    induction m with
    | zero => intro i a b ha hb; exact step i a b ha hb
    | succ m ih =>
      intro i a b ha hb
      have hlt : i + 1 + m < L.length := by have := (List.getElem?_eq_some_iff.1 hb).1; omega
      exact cmp_trans _ _ _ (ih i a _ ha (List.getElem?_eq_getElem hlt)) (step (i + 1 + m) _ b (List.getElem?_eq_getElem hlt) hb)
  intro i j a b hij ha hb
  exact this (j - i - 1) i a b ha (by rw [show i + 1 + (j - i - 1) = j by omega]; exact hb)
theorem names_ok {d : RowD} (h : d.str) : d.name.size ≤ 9223372036854775807 := by have := h.1; unfold maxLen at this; exact this
/-- the search's answer does not hang on the world -/
theorem l05Find_r (s : ByteArray) (A : Option Addr) (n c lo hi : Nat) (L : List RowD) (t : Bool) (ht : t = hasR L s) (hn : n ≤ 1000000000) :
    ∃ r : Int, (0 ≤ r ↔ t = true) ∧ ∀ (w : World), rowsRd w lo hi A n L → hi ≤ w.heap.size → Calls Tryz.prog 101 #[.slice A n c, .string s] w fun e w' => e = .returned (.int .i64 r) ∧ w' = w := by
  refine ⟨idxR L s, idxR_iff ht, fun w hr hhi => ?_⟩
  exact l05Find_any s A n c lo hi L w hr hhi hn

set_option maxHeartbeats 16000000 in
theorem specSysOk_any (p o : Nat) (A : Option Addr) (n c lo hi : Nat) (L : List RowD) (t : Bool) (ht : t = sysB L) (w : World) (hp : p < w.heap.size)
    (c0 : w.cell? ⟨p, o, none⟩ = some (.slice A n c)) (hr : rowsRd w lo hi A n L) (hhi : hi ≤ w.heap.size) (hn : n ≤ 1000000000) (hm : ∀ g ∈ L, g.L.length ≤ 1000000000) (hs : ∀ g ∈ L, g.str) :
    Calls Tryz.prog 51 #[.pointer (some ⟨p, o, none⟩)] w fun e w' => e = .returned (.bool t) ∧ Below w.heap.size w w' := by
  have hll := Lib.hid hr.1
  have hb0 := Below.refl w.heap.size w
  replace hr := Lib.hid hr
  replace hs := Lib.hid hs
  replace hm := Lib.hid hm
  replace ht := Lib.hid ht
  go_enter Tryz.func51, Tryz.ntmps51
  go_wp2_with fail
  go_loopw [3] (fun i wr => ∃ k : Nat, i = .int .i64 k ∧ k ≤ n ∧ (∀ j, j < k → okR L j = true) ∧ (∀ j, j < k → freeR L j = true) ∧ Below w.heap.size w wr) (fun i wr => n - (intOf i).toNat)
  case atStart => exact ⟨0, rfl, Nat.zero_le _, fun j hj => absurd hj (Nat.not_lt_zero j), fun j hj => absurd hj (Nat.not_lt_zero j), Below.refl _ _⟩
  case round =>
    obtain ⟨k, rfl, hk, hall, hallf, hbel⟩ := hrel
    replace hall := Lib.hid hall
    replace hallf := Lib.hid hallf
    have hsz := hbel.size
    have hB1 := hbel
    have hB0 := Below.refl wr.heap.size wr
    have c0w := (hbel.cell (p := ⟨p, o, none⟩) hp).trans c0
    have hpw : p < wr.heap.size := Nat.lt_of_lt_of_le hp hsz
    by_cases hlt : k < n
    rotate_left
    · have hkn : k = n := by omega
      have htt : t = decide ((n : Int) ≤ 24) := by
        rw [ht.out, sys_all (fun j hj => hall.out j (by have := hll.out; omega)) (fun j hj => hallf.out j (by have := hll.out; omega)), hll.out]
        rw [decide_eq_decide]; omega
      replace htt := Lib.hid htt
      replace hkn := Lib.hid hkn
      go_wp2_with fail
      go_ret
      exact ⟨by rw [htt.out]; simp, hbel⟩
    have hkl : k < L.length := by rw [hll.out]; exact hlt
    obtain ⟨b1, f1, ⟨x0, x1, x2, K1⟩, ⟨A1, n1, c1⟩, rfl, hba, hbx, hja, hcs, hr1⟩ := row_at (hr.out.frame good_row (Below.sameB hB1 hhi)) hlt
    have q0 := hcs 0 _ rfl
    have q1 := hcs 1 _ rfl
    have q2 := hcs 2 _ rfl
    have q3 := hcs 3 _ rfl
    simp only [Nat.add_zero] at q0 q1 q2 q3
    have hbw : b1 < wr.heap.size := by have := hB1.size; omega
    have hki : (0 : Int) ≤ (k : Int) ∧ (k : Int) < (n : Int) := by omega
    have hst := hs.out _ (List.mem_of_getElem? hja)
    have hsx : x0.size ≤ 9223372036854775807 := names_ok hst
    have hn1 : n1 ≤ 1000000000 := Nat.le_trans (Nat.le_of_eq hr1.1.symm) (hm.out _ (List.mem_of_getElem? hja))
    obtain ⟨tN, hN⟩ : ∃ t, t = nameB x0 := ⟨_, rfl⟩
    obtain ⟨tL, hLi⟩ : ∃ t, t = linB x1 x2 K1 := ⟨_, rfl⟩
    have hSX : ∀ x : World, Below w.heap.size w x → SameB lo hi wr x := fun x hx k1 h1 h2 => (hx.block k1 (by omega)).trans (hB1.block k1 (by omega)).symm
    have hcn := Lib.hid (fun dr os => calls_kept (fun W => specIsName_k x0 tN hN W hsx) wr dr os)
    have hcl := Lib.hid (fun dr os => Calls.regrown_of (specLinOk_any b1 (f1 + k * 4 + 1) x1 x2 A1 n1 c1 lo hi K1 tL hLi (Go.Sort.grow (redrawn wr dr) os) (Nat.lt_of_lt_of_le hbw (below_regrown wr dr os).size) (cell_regrown q1 dr os) (cell_regrown q2 dr os) (cell_regrown q3 dr os) (hr1.frame (good_flat _) (Below.sameB (below_regrown wr dr os) (Nat.le_trans hhi hB1.size))) (Nat.le_trans (Nat.le_trans hhi hB1.size) (below_regrown wr dr os).size) hn1 hst.2.2))
    have hr1H := Lib.hid hr1
    have kg0 := fun dr os => cell_regrown q0 dr os
    have kg3 := fun dr os => cell_regrown c0w dr os
    clear hr1 hst hsx
    replace hN := Lib.hid hN
    replace hLi := Lib.hid hLi
    rcases Nat.eq_zero_or_pos k with hk0 | hk0
    · have hal := Lib.hid (show okR L k = (nameB x0 && linB x1 x2 K1) by subst hk0; exact okR_0 hja)
      have hk3 : decide ((0 : Int) < (k : Int)) = false := decide_eq_false (by omega)
      have hk4 : decide (0 < k) = false := decide_eq_false (by omega)
      replace hk0 := Lib.hid hk0
      go_wp2_with fail
      cases tN with
      | false =>
        have hok : okR L k = false := by rw [hal.out, ← hN.out]; rfl
        have htf : t = false := by rw [ht.out]; exact sys_no1 hkl hok
        subst htf
        clear hok
        refine wp_region_quiet_below (by kernel_rfl) (by kernel_rfl) ?_
        repeat (go_big_quiet_step (first | (with_reducible exact hcn.out _ _) | (with_reducible exact hcl.out _ _)))
        refine wpQuiet_nil ?_
        intro _ hw'
        obtain ⟨⟨dq, osq⟩, hw''⟩ := hw'
        subst hw''
        have hb9 := hbel.trans ((hB0.trans ((below_regrown wr dq osq).mono hB0.size)).mono hsz)
        generalize Go.Sort.grow (redrawn wr dq) osq = W9 at hb9 ⊢
        go_wp2_with fail
        go_ret
        exact ⟨rfl, hb0.trans (hb9.mono hb0.size)⟩
      | true =>
      cases tL with
      | false =>
        have hok : okR L k = false := by rw [hal.out, ← hN.out, ← hLi.out]; rfl
        have htf : t = false := by rw [ht.out]; exact sys_no1 hkl hok
        subst htf
        clear hok
        refine wp_region_quiet_below (by kernel_rfl) (by kernel_rfl) ?_
        repeat (go_big_quiet_step (first | (with_reducible exact hcn.out _ _) | (with_reducible exact hcl.out _ _)))
        refine wpQuiet_nil ?_
        intro _ hw'
        obtain ⟨⟨dq, osq⟩, hw''⟩ := hw'
        subst hw''
        have hb9 := hbel.trans ((hB0.trans ((below_regrown wr dq osq).mono hB0.size)).mono hsz)
        generalize Go.Sort.grow (redrawn wr dq) osq = W9 at hb9 ⊢
        go_wp2_with fail
        go_ret
        exact ⟨rfl, hb0.trans (hb9.mono hb0.size)⟩
      | true =>
      have hok : okR L k = true := by rw [hal.out, ← hN.out, ← hLi.out]; rfl
      refine wp_region_quiet_below (by kernel_rfl) (by kernel_rfl) ?_
      repeat (go_big_quiet_step (first | (with_reducible exact hcn.out _ _) | (with_reducible exact hcl.out _ _)))
      refine wpQuiet_nil ?_
      intro _ hw'
      obtain ⟨⟨dq, osq⟩, hw''⟩ := hw'
      subst hw''
      have hb9 := hbel.trans ((hB0.trans ((below_regrown wr dq osq).mono hB0.size)).mono hsz)
      generalize Go.Sort.grow (redrawn wr dq) osq = W9 at hb9 ⊢
      have hjH := Lib.hid hja
      clear hja hcs
      go_wp2_with fail
      generalize W9 = xr at *
      have hbX := hb9
      have hB9 := hb0.trans (hb9.mono hb0.size)
      have cX := (hb9.cell (p := ⟨p, o, none⟩) hp).trans c0
      have qX := (hB9.cell (p := ⟨b1, f1 + k * 4 + 3, none⟩) (by show b1 < _; omega)).trans ((hB1.cell (p := ⟨b1, f1 + k * 4 + 3, none⟩) (by show b1 < _; omega)).symm.trans q3)
      have hpx : p < xr.heap.size := Nat.lt_of_lt_of_le hp hb9.size
      have hbX1 : b1 < xr.heap.size := by have := hB9.size; omega
      have hr1X := hr1H.out.frame (good_flat _) (hSX xr hB9)
      go_loopw [5] (fun i wr => ∃ m : Nat, i = .int .i64 m ∧ m ≤ n1 ∧ (∀ (j : Nat) (t : Anch), j < m → K1[j]? = some t → hasR L t.1 = false) ∧ Below xr.heap.size xr wr) (fun i wr => n1 - (intOf i).toNat)
      case atStart => exact ⟨0, rfl, Nat.zero_le _, fun j t hj => absurd hj (Nat.not_lt_zero j), Below.refl _ _⟩
      case round =>
      obtain ⟨m, rfl, hmn, hfr, hbm⟩ := hrel
      replace hfr := Lib.hid hfr
      have hszm := hbm.size
      have hBm := hB9.trans (hbm.mono hB9.size)
      have cM := (hbm.cell (p := ⟨p, o, none⟩) hpx).trans cX
      have qM := (hbm.cell (p := ⟨b1, f1 + k * 4 + 3, none⟩) hbX1).trans qX
      by_cases hml : m < n1
      rotate_left
      · have hbmX := hbX.trans (hbm.mono hbX.size)
        have hfree : freeR L k = true := free_yes hjH.out fun j t hj ht' => hfr.out j t (by have := hr1H.out.1; show j < m; have h5 : K1.length = n1 := this; have h6 : j < K1.length := hj; omega) ht'
        go_wp2_with fail
        go_roundw
        case rel => exact ⟨k + 1, by go_num, by omega, all_next hall.out hok, all_next hallf.out hfree, hbmX⟩
        case measure => simp [intOf]; omega
      obtain ⟨b3, f3, ⟨z0, z1, z2⟩, rfl, hbc, hbz, hjz, hcz⟩ := (hr1X.frame (good_flat _) (Below.sameB hbm (Nat.le_trans hhi hB9.size))).at hml
      have s0 := hcz 0 _ rfl
      simp only [Nat.add_zero] at s0
      have hi3 : (0 : Int) ≤ (m : Int) ∧ (m : Int) < (n1 : Int) := by omega
      have hb3w : b3 < wr.heap.size := by have := hBm.size; omega
      obtain ⟨tH, hH⟩ : ∃ u, u = hasR L z0 := ⟨_, rfl⟩
      obtain ⟨ri, hri, hcf⟩ := l05Find_r z0 (some ⟨b1, f1, none⟩) n c lo hi L tH hH hn
      replace hri := Lib.hid hri
      have hcn := Lib.hid (fun dr os => Calls.regrown_of ((hcf (Go.Sort.grow (redrawn wr dr) os) (hr.out.frame good_row (Below.sameB (hBm.trans ((below_regrown wr dr os).mono hBm.size)) hhi)) (Nat.le_trans hhi (Nat.le_trans hBm.size (below_regrown wr dr os).size))).mono fun e w' ⟨he, hw⟩ => ⟨he, hw ▸ Below.refl _ _⟩))
      have kg0 := fun dr os => cell_regrown cM dr os
      have kg1 := fun dr os => cell_regrown qM dr os
      have kg2 := fun dr os => cell_regrown s0 dr os
      have hjz2 := Lib.hid hjz
      clear hcz hjz hcf
      replace hH := Lib.hid hH
      go_wp2_with fail
      clear cM qM s0
      refine wp_region_quiet_below (by kernel_rfl) (by kernel_rfl) ?_
      repeat (go_big_quiet_step (with_reducible exact hcn.out _ _))
      refine wpQuiet_nil ?_
      intro _ hw'
      obtain ⟨⟨dq, osq⟩, hw''⟩ := hw'
      subst hw''
      have hbn := hbm.trans ((below_regrown wr dq osq).mono hszm)
      generalize Go.Sort.grow (redrawn wr dq) osq = W8 at hbn ⊢
      clear kg0 kg1 kg2
      by_cases hr0 : 0 ≤ ri
      · have hfree : freeR L k = false := free_no hjH.out (List.mem_of_getElem? hjz2.out) (by rw [← hH.out]; exact hri.out.1 hr0)
        have htf : t = false := by rw [ht.out]; exact sys_no2 hkl hfree
        subst htf
        clear hfree
        go_wp2_with fail
        go_ret
        exact ⟨rfl, hB9.trans (hbn.mono hB9.size)⟩
      · have hfa : tH = false := by cases tH with | false => rfl | true => exact absurd (hri.out.2 rfl) hr0
        go_wp2_with fail
        go_roundw
        case rel =>
          refine ⟨m + 1, by go_num, by omega, fun j u hj hu => ?_, hbn⟩
          rcases Nat.lt_or_ge j m with h | h
          · exact hfr.out j u h hu
          · have : j = m := by omega
            subst this
            have := Option.some.inj (hjz2.out.symm.trans hu)
            subst this
            rw [← hH.out]; exact hfa
        case measure => simp [intOf]; omega
    · have hk2 : IntKind.i64.wrap ((k : Int) - 1) = (k : Int) - 1 := IntWalk.i64_in _ (by omega)
      have hi2 : (0 : Int) ≤ (k : Int) - 1 ∧ (k : Int) - 1 < (n : Int) := by omega
      have e1 : ((k : Int) - 1).toNat = k - 1 := by omega
      have hk3 : decide ((0 : Int) < (k : Int)) = true := decide_eq_true (by omega)
      have hk4 : decide (0 < k) = true := decide_eq_true hk0
      obtain ⟨b2, f2, ⟨y0, y1, y2, K2⟩, hh2, hA, hbb, hby, hja', hcs', hr2⟩ := row_at (hr.out.frame good_row (Below.sameB hB1 hhi)) (j := k - 1) (by omega)
      have r0 := hcs' 0 _ rfl
      injection hA with hA
      injection hA with hA1 hA2
      subst hA1 hA2
      simp only [Nat.add_zero] at r0
      have hal := Lib.hid (okR_k hk0 hja hja')
      clear hcs' hr2
      have kg4 := fun dr os => cell_regrown r0 dr os
      go_wp2_with fail
      cases tN with
      | false =>
        have hok : okR L k = false := by rw [hal.out, ← hN.out]; rfl
        have htf : t = false := by rw [ht.out]; exact sys_no1 hkl hok
        subst htf
        clear hok
        refine wp_region_quiet_below (by kernel_rfl) (by kernel_rfl) ?_
        repeat (go_big_quiet_step (first | (with_reducible exact hcn.out _ _) | (with_reducible exact hcl.out _ _)))
        refine wpQuiet_nil ?_
        intro _ hw'
        obtain ⟨⟨dq, osq⟩, hw''⟩ := hw'
        subst hw''
        have hb9 := hbel.trans ((hB0.trans ((below_regrown wr dq osq).mono hB0.size)).mono hsz)
        generalize Go.Sort.grow (redrawn wr dq) osq = W9 at hb9 ⊢
        go_wp2_with fail
        go_ret
        exact ⟨rfl, hb0.trans (hb9.mono hb0.size)⟩
      | true =>
      cases tL with
      | false =>
        have hok : okR L k = false := by rw [hal.out, ← hN.out, ← hLi.out]; rfl
        have htf : t = false := by rw [ht.out]; exact sys_no1 hkl hok
        subst htf
        clear hok
        refine wp_region_quiet_below (by kernel_rfl) (by kernel_rfl) ?_
        repeat (go_big_quiet_step (first | (with_reducible exact hcn.out _ _) | (with_reducible exact hcl.out _ _)))
        refine wpQuiet_nil ?_
        intro _ hw'
        obtain ⟨⟨dq, osq⟩, hw''⟩ := hw'
        subst hw''
        have hb9 := hbel.trans ((hB0.trans ((below_regrown wr dq osq).mono hB0.size)).mono hsz)
        generalize Go.Sort.grow (redrawn wr dq) osq = W9 at hb9 ⊢
        go_wp2_with fail
        go_ret
        exact ⟨rfl, hb0.trans (hb9.mono hb0.size)⟩
      | true =>
      obtain ⟨v, hv⟩ : ∃ v, v = leS x0 y0 := ⟨_, rfl⟩
      have hv1 := hv
      unfold leS at hv1
      have hv3 := hv1.symm
      replace hv := Lib.hid hv
      clear hv1
      cases v with
      | true =>
        have hok : okR L k = false := by rw [hal.out, ← hN.out, ← hLi.out, ← hv.out]; rfl
        have htf : t = false := by rw [ht.out]; exact sys_no1 hkl hok
        subst htf
        clear hok
        refine wp_region_quiet_below (by kernel_rfl) (by kernel_rfl) ?_
        repeat (go_big_quiet_step (first | (with_reducible exact hcn.out _ _) | (with_reducible exact hcl.out _ _)))
        refine wpQuiet_nil ?_
        intro _ hw'
        obtain ⟨⟨dq, osq⟩, hw''⟩ := hw'
        subst hw''
        have hb9 := hbel.trans ((hB0.trans ((below_regrown wr dq osq).mono hB0.size)).mono hsz)
        generalize Go.Sort.grow (redrawn wr dq) osq = W9 at hb9 ⊢
        go_wp2_with fail
        go_ret
        exact ⟨rfl, hb0.trans (hb9.mono hb0.size)⟩
      | false =>
        have hok : okR L k = true := by rw [hal.out, ← hN.out, ← hLi.out, ← hv.out]; rfl
        refine wp_region_quiet_below (by kernel_rfl) (by kernel_rfl) ?_
        repeat (go_big_quiet_step (first | (with_reducible exact hcn.out _ _) | (with_reducible exact hcl.out _ _)))
        refine wpQuiet_nil ?_
        intro _ hw'
        obtain ⟨⟨dq, osq⟩, hw''⟩ := hw'
        subst hw''
        have hb9 := hbel.trans ((hB0.trans ((below_regrown wr dq osq).mono hB0.size)).mono hsz)
        generalize Go.Sort.grow (redrawn wr dq) osq = W9 at hb9 ⊢
        have hjH := Lib.hid hja
        clear hja hcs
        go_wp2_with fail
        generalize W9 = xr at *
        have hbX := hb9
        have hB9 := hb0.trans (hb9.mono hb0.size)
        have cX := (hb9.cell (p := ⟨p, o, none⟩) hp).trans c0
        have qX := (hB9.cell (p := ⟨b1, f1 + k * 4 + 3, none⟩) (by show b1 < _; omega)).trans ((hB1.cell (p := ⟨b1, f1 + k * 4 + 3, none⟩) (by show b1 < _; omega)).symm.trans q3)
        have hpx : p < xr.heap.size := Nat.lt_of_lt_of_le hp hb9.size
        have hbX1 : b1 < xr.heap.size := by have := hB9.size; omega
        have hr1X := hr1H.out.frame (good_flat _) (hSX xr hB9)
        go_loopw [5] (fun i wr => ∃ m : Nat, i = .int .i64 m ∧ m ≤ n1 ∧ (∀ (j : Nat) (t : Anch), j < m → K1[j]? = some t → hasR L t.1 = false) ∧ Below xr.heap.size xr wr) (fun i wr => n1 - (intOf i).toNat)
        case atStart => exact ⟨0, rfl, Nat.zero_le _, fun j t hj => absurd hj (Nat.not_lt_zero j), Below.refl _ _⟩
        case round =>
        obtain ⟨m, rfl, hmn, hfr, hbm⟩ := hrel
        replace hfr := Lib.hid hfr
        have hszm := hbm.size
        have hBm := hB9.trans (hbm.mono hB9.size)
        have cM := (hbm.cell (p := ⟨p, o, none⟩) hpx).trans cX
        have qM := (hbm.cell (p := ⟨b1, f1 + k * 4 + 3, none⟩) hbX1).trans qX
        by_cases hml : m < n1
        rotate_left
        · have hbmX := hbX.trans (hbm.mono hbX.size)
          have hfree : freeR L k = true := free_yes hjH.out fun j t hj ht' => hfr.out j t (by have := hr1H.out.1; show j < m; have h5 : K1.length = n1 := this; have h6 : j < K1.length := hj; omega) ht'
          go_wp2_with fail
          go_roundw
          case rel => exact ⟨k + 1, by go_num, by omega, all_next hall.out hok, all_next hallf.out hfree, hbmX⟩
          case measure => simp [intOf]; omega
        obtain ⟨b3, f3, ⟨z0, z1, z2⟩, rfl, hbc, hbz, hjz, hcz⟩ := (hr1X.frame (good_flat _) (Below.sameB hbm (Nat.le_trans hhi hB9.size))).at hml
        have s0 := hcz 0 _ rfl
        simp only [Nat.add_zero] at s0
        have hi3 : (0 : Int) ≤ (m : Int) ∧ (m : Int) < (n1 : Int) := by omega
        have hb3w : b3 < wr.heap.size := by have := hBm.size; omega
        obtain ⟨tH, hH⟩ : ∃ u, u = hasR L z0 := ⟨_, rfl⟩
        obtain ⟨ri, hri, hcf⟩ := l05Find_r z0 (some ⟨b1, f1, none⟩) n c lo hi L tH hH hn
        replace hri := Lib.hid hri
        have hcn := Lib.hid (fun dr os => Calls.regrown_of ((hcf (Go.Sort.grow (redrawn wr dr) os) (hr.out.frame good_row (Below.sameB (hBm.trans ((below_regrown wr dr os).mono hBm.size)) hhi)) (Nat.le_trans hhi (Nat.le_trans hBm.size (below_regrown wr dr os).size))).mono fun e w' ⟨he, hw⟩ => ⟨he, hw ▸ Below.refl _ _⟩))
        have kg0 := fun dr os => cell_regrown cM dr os
        have kg1 := fun dr os => cell_regrown qM dr os
        have kg2 := fun dr os => cell_regrown s0 dr os
        have hjz2 := Lib.hid hjz
        clear hcz hjz hcf
        replace hH := Lib.hid hH
        go_wp2_with fail
        clear cM qM s0
        refine wp_region_quiet_below (by kernel_rfl) (by kernel_rfl) ?_
        repeat (go_big_quiet_step (with_reducible exact hcn.out _ _))
        refine wpQuiet_nil ?_
        intro _ hw'
        obtain ⟨⟨dq, osq⟩, hw''⟩ := hw'
        subst hw''
        have hbn := hbm.trans ((below_regrown wr dq osq).mono hszm)
        generalize Go.Sort.grow (redrawn wr dq) osq = W8 at hbn ⊢
        clear kg0 kg1 kg2
        by_cases hr0 : 0 ≤ ri
        · have hfree : freeR L k = false := free_no hjH.out (List.mem_of_getElem? hjz2.out) (by rw [← hH.out]; exact hri.out.1 hr0)
          have htf : t = false := by rw [ht.out]; exact sys_no2 hkl hfree
          subst htf
          clear hfree
          go_wp2_with fail
          go_ret
          exact ⟨rfl, hB9.trans (hbn.mono hB9.size)⟩
        · have hfa : tH = false := by cases tH with | false => rfl | true => exact absurd (hri.out.2 rfl) hr0
          go_wp2_with fail
          go_roundw
          case rel =>
            refine ⟨m + 1, by go_num, by omega, fun j u hj hu => ?_, hbn⟩
            rcases Nat.lt_or_ge j m with h | h
            · exact hfr.out j u h hu
            · have : j = m := by omega
              subst this
              have := Option.some.inj (hjz2.out.symm.trans hu)
              subst this
              rw [← hH.out]; exact hfa
          case measure => simp [intOf]; omega

set_option maxHeartbeats 16000000 in
theorem implSysOk_any (A : Option Addr) (n c lo hi : Nat) (L : List RowD) (t : Bool) (ht : t = sysB L) (w : World) (hr : rowsRd w lo hi A n L) (hhi : hi ≤ w.heap.size) (hn : n ≤ 1000000000) (hm : ∀ g ∈ L, g.L.length ≤ 1000000000) (hs : ∀ g ∈ L, g.str) :
    Calls Tryz.prog 25 #[.agg #[.slice A n c]] w fun e w' => e = .returned (.bool t) ∧ Below w.heap.size w w' := by
  have hll := Lib.hid hr.1
  have hb0 := Go.Joins.below_alloc1 w (.cells #[.slice A n c] 46 (0, 0))
  have hX := heap_alloc_new w (.cells #[.slice A n c] 46 (0, 0))
  have c0 : (w.alloc (.cells #[.slice A n c] 46 (0, 0))).cell? ⟨w.heap.size, 0, none⟩ = some (.slice A n c) := by rw [Go.Joins.cell_of_block hX]; rfl
  have hp : w.heap.size < (w.alloc (.cells #[.slice A n c] 46 (0, 0))).heap.size := by simp
  replace hr := Lib.hid hr
  replace hs := Lib.hid hs
  replace hm := Lib.hid hm
  replace ht := Lib.hid ht
  clear hX
  by_cases h24 : (24 : Int) < (n : Int)
  · have htf : t = false := by rw [ht.out]; unfold sysB; rw [decide_eq_false (by have := hll.out; omega)]; rfl
    subst htf
    go_enter Tryz.func25, Tryz.ntmps25
    go_wp2_with fail
    go_ret
    exact ⟨rfl, hb0⟩
  go_enter Tryz.func25, Tryz.ntmps25
  go_wp2_with fail
  generalize w.alloc (.cells #[.slice A n c] 46 (0, 0)) = w0 at *
  go_loopw [18] (fun i wr => ∃ k : Nat, i = .int .i64 k ∧ k ≤ n ∧ (∀ j, j < k → okR L j = true) ∧ Below w0.heap.size w0 wr) (fun i wr => n - (intOf i).toNat)
  case atStart => exact ⟨0, rfl, Nat.zero_le _, fun j hj => absurd hj (Nat.not_lt_zero j), Below.refl _ _⟩
  case round =>
    obtain ⟨k, rfl, hk, hall, hbel⟩ := hrel
    replace hall := Lib.hid hall
    have hsz := hbel.size
    have hB1 := hb0.trans (hbel.mono hb0.size)
    have c0w := (hbel.cell (p := ⟨w.heap.size, 0, none⟩) hp).trans c0
    have hpw : w.heap.size < wr.heap.size := Nat.lt_of_lt_of_le hp hsz
    by_cases hlt : k < n
    rotate_left
    · have hris := Lib.hid (ris_of fun j hj => hall.out j (by have := hll.out; omega))
      have hallN := Lib.hid (fun j (hj : j < L.length) => hall.out j (by have := hll.out; omega))
      have hcx := c0w
      have hBX := hB1
      have hpX := hpw
      go_wp2_with fail
      generalize wr = xr at *
      clear hbel hB1 c0w hpw hsz hall
      go_loopw [53] (fun i wr => ∃ k : Nat, i = .int .i64 k ∧ k ≤ n ∧ (∀ j, j < k → freeR L j = true) ∧ Below xr.heap.size xr wr) (fun i wr => n - (intOf i).toNat)
      case atStart => exact ⟨0, rfl, Nat.zero_le _, fun j hj => absurd hj (Nat.not_lt_zero j), Below.refl _ _⟩
      case round =>
      obtain ⟨k', rfl, hk', hallf, hbel⟩ := hrel
      replace hallf := Lib.hid hallf
      have hsz := hbel.size
      have hB1 := hBX.trans (hbel.mono hBX.size)
      have c0w := (hbel.cell (p := ⟨w.heap.size, 0, none⟩) hpX).trans hcx
      have hpw : w.heap.size < wr.heap.size := Nat.lt_of_lt_of_le hpX hsz
      by_cases hlt' : k' < n
      rotate_left
      · have htt : t = true := by
          rw [ht.out, sys_all hallN.out (fun j hj => hallf.out j (by have := hll.out; omega)), decide_eq_true_iff]
          have := hll.out; omega
        subst htt
        go_wp2_with fail
        go_ret
        exact ⟨rfl, hB1⟩
      have hkl : k' < L.length := by rw [hll.out]; exact hlt'
      obtain ⟨b1, f1, ⟨x0, x1, x2, K1⟩, ⟨A1, n1, c1⟩, rfl, hba, hbx, hja, hcs, hr1⟩ := row_at (hr.out.frame good_row (Below.sameB hB1 hhi)) hlt'
      have q0 := hcs 0 _ rfl
      have q1 := hcs 1 _ rfl
      have q2 := hcs 2 _ rfl
      have q3 := hcs 3 _ rfl
      simp only [Nat.add_zero] at q0 q1 q2 q3
      have hbw : b1 < wr.heap.size := by have := hB1.size; omega
      have hki : (0 : Int) ≤ (k' : Int) ∧ (k' : Int) < (n : Int) := by omega
      have hn1 : n1 ≤ 1000000000 := Nat.le_trans (Nat.le_of_eq hr1.1.symm) (hm.out _ (List.mem_of_getElem? hja))
      have hB0 := Go.Joins.below_alloc1 wr (.cells #[.string x0, .int .i64 x1, .int .i64 x2, .slice A1 n1 c1] 107 (0, 0))
      have c0v := (hB0.cell (p := ⟨w.heap.size, 0, none⟩) hpw).trans c0w
      have hr1H := Lib.hid (hr1.frame (good_flat _) (Below.sameB hB0 (Nat.le_trans hhi hB1.size)))
      have hjH := Lib.hid hja
      have hbY := hbel.trans (hB0.mono hsz)
      clear hcs hr1 hja
      go_wp2_with fail
      generalize wr.alloc (.cells #[.string x0, .int .i64 x1, .int .i64 x2, .slice A1 n1 c1] 107 (0, 0)) = yr at *
      have hBY := hBX.trans (hbY.mono hBX.size)
      have hpY : w.heap.size < yr.heap.size := Nat.lt_of_lt_of_le hpw hB0.size
      clear q0 q1 q2 q3 hB0 c0w hbw hba hbx hpw hsz hbel hB1
      go_loopw [61] (fun i wr => ∃ m : Nat, i = .int .i64 m ∧ m ≤ n1 ∧ (∀ (j : Nat) (t : Anch), j < m → K1[j]? = some t → hasR L t.1 = false) ∧ Below yr.heap.size yr wr) (fun i wr => n1 - (intOf i).toNat)
      case atStart => exact ⟨0, rfl, Nat.zero_le _, fun j t hj => absurd hj (Nat.not_lt_zero j), Below.refl _ _⟩
      case round =>
      obtain ⟨m, rfl, hmn, hfr, hbm⟩ := hrel
      replace hfr := Lib.hid hfr
      have hszm := hbm.size
      have hBm := hBY.trans (hbm.mono hBY.size)
      have cM := (hbm.cell (p := ⟨w.heap.size, 0, none⟩) hpY).trans c0v
      have hpM : w.heap.size < wr.heap.size := Nat.lt_of_lt_of_le hpY hszm
      by_cases hml : m < n1
      rotate_left
      · have hbmX := hbY.trans (hbm.mono hbY.size)
        have hfree : freeR L k' = true := free_yes hjH.out fun j t hj ht' => hfr.out j t (by have h5 : K1.length = n1 := hr1H.out.1; have h6 : j < K1.length := hj; omega) ht'
        go_wp2_with fail
        go_roundw
        case rel => exact ⟨k' + 1, by go_num, by omega, all_next hallf.out hfree, hbmX⟩
        case measure => simp [intOf]; omega
      obtain ⟨b3, f3, ⟨z0, z1, z2⟩, rfl, hbc, hbz, hjz, hcz⟩ := (hr1H.out.frame (good_flat _) (Below.sameB hbm (Nat.le_trans hhi hBY.size))).at hml
      have s0 := hcz 0 _ rfl
      have s1 := hcz 1 _ rfl
      have s2 := hcz 2 _ rfl
      simp only [Nat.add_zero] at s0 s1 s2
      have hi3 : (0 : Int) ≤ (m : Int) ∧ (m : Int) < (n1 : Int) := by omega
      have hb3w : b3 < wr.heap.size := by have := hBm.size; omega
      obtain ⟨tH, hH⟩ : ∃ u, u = hasR L z0 := ⟨_, rfl⟩
      have hB2 := hBm.alloc hBm.size (.cells #[.string z0, .int .i64 z1, .int .i64 z2] 142 (0, 0))
      have hcf := Lib.hid (findRow_any z0 _ n c lo hi L tH hH hris.out _ (hr.out.frame good_row (Below.sameB hB2 hhi)) (Nat.le_trans hhi hB2.size) hn)
      have hjz2 := Lib.hid hjz
      replace hH := Lib.hid hH
      clear hcz hjz
      go_wp2_with fail
      refine hcf.out.mono ?_
      rintro e w8 ⟨ri, rfl, hb8⟩
      have hbn := hbm.trans ((Go.Joins.below_alloc1 wr _).trans (hb8.mono (by simp)) |>.mono hszm)
      clear hcf s0 s1 s2 cM
      cases tH with
      | true =>
        have hfree : freeR L k' = false := free_no hjH.out (List.mem_of_getElem? hjz2.out) hH.out.symm
        have htf : t = false := by rw [ht.out]; exact sys_no2 hkl hfree
        subst htf
        clear hfree
        go_wp2_with fail
        go_ret
        exact ⟨rfl, hBY.trans (hbn.mono hBY.size)⟩
      | false =>
        go_wp2_with fail
        go_roundw
        case rel =>
          refine ⟨m + 1, by go_num, by omega, fun j u hj hu => ?_, hbn⟩
          rcases Nat.lt_or_ge j m with h | h
          · exact hfr.out j u h hu
          · have : j = m := by omega
            subst this
            have := Option.some.inj (hjz2.out.symm.trans hu)
            subst this
            exact hH.out.symm
        case measure => simp [intOf]; omega
    have hkl : k < L.length := by rw [hll.out]; exact hlt
    obtain ⟨b1, f1, ⟨x0, x1, x2, K1⟩, ⟨A1, n1, c1⟩, rfl, hba, hbx, hja, hcs, hr1⟩ := row_at (hr.out.frame good_row (Below.sameB hB1 hhi)) hlt
    have q0 := hcs 0 _ rfl
    have q1 := hcs 1 _ rfl
    have q2 := hcs 2 _ rfl
    have q3 := hcs 3 _ rfl
    simp only [Nat.add_zero] at q0 q1 q2 q3
    have hbw : b1 < wr.heap.size := by have := hB1.size; omega
    have hki : (0 : Int) ≤ (k : Int) ∧ (k : Int) < (n : Int) := by omega
    have hst := hs.out _ (List.mem_of_getElem? hja)
    have hsx : x0.size ≤ 9223372036854775807 := names_ok hst
    have hn1 : n1 ≤ 1000000000 := Nat.le_trans (Nat.le_of_eq hr1.1.symm) (hm.out _ (List.mem_of_getElem? hja))
    obtain ⟨tN, hN⟩ : ∃ t, t = nameB x0 := ⟨_, rfl⟩
    obtain ⟨tL, hLi⟩ : ∃ t, t = linB x1 x2 K1 := ⟨_, rfl⟩
    have hB0 := Go.Joins.below_alloc1 wr (.cells #[.string x0, .int .i64 x1, .int .i64 x2, .slice A1 n1 c1] 107 (0, 0))
    have hX := heap_alloc_new wr (.cells #[.string x0, .int .i64 x1, .int .i64 x2, .slice A1 n1 c1] 107 (0, 0))
    have t0 : (wr.alloc (.cells #[.string x0, .int .i64 x1, .int .i64 x2, .slice A1 n1 c1] 107 (0, 0))).cell? ⟨wr.heap.size, 0, none⟩ = some (.string x0) := by rw [Go.Joins.cell_of_block hX]; rfl
    have t1 : (wr.alloc (.cells #[.string x0, .int .i64 x1, .int .i64 x2, .slice A1 n1 c1] 107 (0, 0))).cell? ⟨wr.heap.size, 1, none⟩ = some (.int .i64 x1) := by rw [Go.Joins.cell_of_block hX]; rfl
    have t2 : (wr.alloc (.cells #[.string x0, .int .i64 x1, .int .i64 x2, .slice A1 n1 c1] 107 (0, 0))).cell? ⟨wr.heap.size, 2, none⟩ = some (.int .i64 x2) := by rw [Go.Joins.cell_of_block hX]; rfl
    have t3 : (wr.alloc (.cells #[.string x0, .int .i64 x1, .int .i64 x2, .slice A1 n1 c1] 107 (0, 0))).cell? ⟨wr.heap.size, 3, none⟩ = some (.slice A1 n1 c1) := by rw [Go.Joins.cell_of_block hX]; rfl
    have c0v := (hB0.cell (p := ⟨w.heap.size, 0, none⟩) hpw).trans c0w
    have hcn := Lib.hid (fun dr os => calls_kept (fun W => implIsName_k x0 tN hN W hsx) (wr.alloc (.cells #[.string x0, .int .i64 x1, .int .i64 x2, .slice A1 n1 c1] 107 (0, 0))) dr os)
    have hcl := Lib.hid (fun dr os => Calls.regrown_of (implLinOk_any x1 x2 A1 n1 c1 lo hi K1 tL hLi (Go.Sort.grow (redrawn (wr.alloc (.cells #[.string x0, .int .i64 x1, .int .i64 x2, .slice A1 n1 c1] 107 (0, 0))) dr) os) (hr1.frame (good_flat _) (Below.sameB (hB0.trans ((below_regrown (wr.alloc (.cells #[.string x0, .int .i64 x1, .int .i64 x2, .slice A1 n1 c1] 107 (0, 0))) dr os).mono hB0.size)) (Nat.le_trans hhi hB1.size))) (Nat.le_trans (Nat.le_trans hhi hB1.size) (Nat.le_trans hB0.size (below_regrown (wr.alloc (.cells #[.string x0, .int .i64 x1, .int .i64 x2, .slice A1 n1 c1] 107 (0, 0))) dr os).size)) hn1 hst.2.2))
    clear hr1 hst hsx hcs hX
    replace hN := Lib.hid hN
    replace hLi := Lib.hid hLi
    rcases Nat.eq_zero_or_pos k with hk0 | hk0
    · have hal := Lib.hid (show okR L k = (nameB x0 && linB x1 x2 K1) by subst hk0; exact okR_0 hja)
      have hk3 : decide ((0 : Int) < (k : Int)) = false := decide_eq_false (by omega)
      have hk4 : decide (0 < k) = false := decide_eq_false (by omega)
      replace hk0 := Lib.hid hk0
      go_wp2_with fail
      generalize wr.alloc (.cells #[.string x0, .int .i64 x1, .int .i64 x2, .slice A1 n1 c1] 107 (0, 0)) = W at *
      have kg0 := fun dr os => cell_regrown t0 dr os
      have kg1 := fun dr os => cell_regrown t1 dr os
      have kg2 := fun dr os => cell_regrown t2 dr os
      have kg3 := fun dr os => cell_regrown t3 dr os
      have kg4 := fun dr os => cell_regrown c0v dr os
      cases tN with
      | false =>
        have hok : okR L k = false := by rw [hal.out, ← hN.out]; rfl
        have htf : t = false := by rw [ht.out]; exact sys_no1 hkl hok
        subst htf
        clear hok
        refine wp_region_quiet_below (by kernel_rfl) (by kernel_rfl) ?_
        repeat (go_big_quiet_step (first | (with_reducible exact hcn.out _ _) | (with_reducible exact hcl.out _ _)))
        refine wpQuiet_nil ?_
        intro _ hw'
        obtain ⟨⟨dq, osq⟩, hw''⟩ := hw'
        subst hw''
        have hb9 := hbel.trans ((hB0.trans ((below_regrown W dq osq).mono hB0.size)).mono hsz)
        generalize Go.Sort.grow (redrawn W dq) osq = W9 at hb9 ⊢
        go_wp2_with fail
        go_ret
        exact ⟨rfl, hb0.trans (hb9.mono hb0.size)⟩
      | true =>
      cases tL with
      | false =>
        have hok : okR L k = false := by rw [hal.out, ← hN.out, ← hLi.out]; rfl
        have htf : t = false := by rw [ht.out]; exact sys_no1 hkl hok
        subst htf
        clear hok
        refine wp_region_quiet_below (by kernel_rfl) (by kernel_rfl) ?_
        repeat (go_big_quiet_step (first | (with_reducible exact hcn.out _ _) | (with_reducible exact hcl.out _ _)))
        refine wpQuiet_nil ?_
        intro _ hw'
        obtain ⟨⟨dq, osq⟩, hw''⟩ := hw'
        subst hw''
        have hb9 := hbel.trans ((hB0.trans ((below_regrown W dq osq).mono hB0.size)).mono hsz)
        generalize Go.Sort.grow (redrawn W dq) osq = W9 at hb9 ⊢
        go_wp2_with fail
        go_ret
        exact ⟨rfl, hb0.trans (hb9.mono hb0.size)⟩
      | true =>
      have hok : okR L k = true := by rw [hal.out, ← hN.out, ← hLi.out]; rfl
      refine wp_region_quiet_below (by kernel_rfl) (by kernel_rfl) ?_
      repeat (go_big_quiet_step (first | (with_reducible exact hcn.out _ _) | (with_reducible exact hcl.out _ _)))
      refine wpQuiet_nil ?_
      intro _ hw'
      obtain ⟨⟨dq, osq⟩, hw''⟩ := hw'
      subst hw''
      have hb9 := hbel.trans ((hB0.trans ((below_regrown W dq osq).mono hB0.size)).mono hsz)
      generalize Go.Sort.grow (redrawn W dq) osq = W9 at hb9 ⊢
      go_wp2_with fail
      go_roundw
      case rel => exact ⟨k + 1, by go_num, by omega, all_next hall.out hok, hb9⟩
      case measure => simp [intOf]; omega
    · have hk2 : IntKind.i64.wrap ((k : Int) - 1) = (k : Int) - 1 := IntWalk.i64_in _ (by omega)
      have hi2 : (0 : Int) ≤ (k : Int) - 1 ∧ (k : Int) - 1 < (n : Int) := by omega
      have e1 : ((k : Int) - 1).toNat = k - 1 := by omega
      have hk3 : decide ((0 : Int) < (k : Int)) = true := decide_eq_true (by omega)
      have hk4 : decide (0 < k) = true := decide_eq_true hk0
      obtain ⟨b2, f2, ⟨y0, y1, y2, K2⟩, hh2, hA, hbb, hby, hja', hcs', hr2⟩ := row_at (hr.out.frame good_row (Below.sameB hB1 hhi)) (j := k - 1) (by omega)
      have r0 := hcs' 0 _ rfl
      injection hA with hA
      injection hA with hA1 hA2
      subst hA1 hA2
      simp only [Nat.add_zero] at r0
      have hal := Lib.hid (okR_k hk0 hja hja')
      clear hcs' hr2
      have r0v := (hB0.cell (p := ⟨b1, f1 + (k - 1) * 4, none⟩) hbw).trans r0
      go_wp2_with fail
      generalize wr.alloc (.cells #[.string x0, .int .i64 x1, .int .i64 x2, .slice A1 n1 c1] 107 (0, 0)) = W at *
      have kg0 := fun dr os => cell_regrown t0 dr os
      have kg1 := fun dr os => cell_regrown t1 dr os
      have kg2 := fun dr os => cell_regrown t2 dr os
      have kg3 := fun dr os => cell_regrown t3 dr os
      have kg4 := fun dr os => cell_regrown c0v dr os
      have kg5 := fun dr os => cell_regrown r0v dr os
      cases tN with
      | false =>
        have hok : okR L k = false := by rw [hal.out, ← hN.out]; rfl
        have htf : t = false := by rw [ht.out]; exact sys_no1 hkl hok
        subst htf
        clear hok
        refine wp_region_quiet_below (by kernel_rfl) (by kernel_rfl) ?_
        repeat (go_big_quiet_step (first | (with_reducible exact hcn.out _ _) | (with_reducible exact hcl.out _ _)))
        refine wpQuiet_nil ?_
        intro _ hw'
        obtain ⟨⟨dq, osq⟩, hw''⟩ := hw'
        subst hw''
        have hb9 := hbel.trans ((hB0.trans ((below_regrown W dq osq).mono hB0.size)).mono hsz)
        generalize Go.Sort.grow (redrawn W dq) osq = W9 at hb9 ⊢
        go_wp2_with fail
        go_ret
        exact ⟨rfl, hb0.trans (hb9.mono hb0.size)⟩
      | true =>
      cases tL with
      | false =>
        have hok : okR L k = false := by rw [hal.out, ← hN.out, ← hLi.out]; rfl
        have htf : t = false := by rw [ht.out]; exact sys_no1 hkl hok
        subst htf
        clear hok
        refine wp_region_quiet_below (by kernel_rfl) (by kernel_rfl) ?_
        repeat (go_big_quiet_step (first | (with_reducible exact hcn.out _ _) | (with_reducible exact hcl.out _ _)))
        refine wpQuiet_nil ?_
        intro _ hw'
        obtain ⟨⟨dq, osq⟩, hw''⟩ := hw'
        subst hw''
        have hb9 := hbel.trans ((hB0.trans ((below_regrown W dq osq).mono hB0.size)).mono hsz)
        generalize Go.Sort.grow (redrawn W dq) osq = W9 at hb9 ⊢
        go_wp2_with fail
        go_ret
        exact ⟨rfl, hb0.trans (hb9.mono hb0.size)⟩
      | true =>
      obtain ⟨v, hv⟩ : ∃ v, v = leS x0 y0 := ⟨_, rfl⟩
      have hv1 := hv
      unfold leS at hv1
      have hv3 := (not_less x0.toList y0.toList).trans hv1.symm
      replace hv := Lib.hid hv
      clear hv1
      cases v with
      | true =>
        have hok : okR L k = false := by rw [hal.out, ← hN.out, ← hLi.out, ← hv.out]; rfl
        have htf : t = false := by rw [ht.out]; exact sys_no1 hkl hok
        subst htf
        clear hok
        refine wp_region_quiet_below (by kernel_rfl) (by kernel_rfl) ?_
        repeat (go_big_quiet_step (first | (with_reducible exact hcn.out _ _) | (with_reducible exact hcl.out _ _)))
        refine wpQuiet_nil ?_
        intro _ hw'
        obtain ⟨⟨dq, osq⟩, hw''⟩ := hw'
        subst hw''
        have hb9 := hbel.trans ((hB0.trans ((below_regrown W dq osq).mono hB0.size)).mono hsz)
        generalize Go.Sort.grow (redrawn W dq) osq = W9 at hb9 ⊢
        go_wp2_with fail
        go_ret
        exact ⟨rfl, hb0.trans (hb9.mono hb0.size)⟩
      | false =>
        have hok : okR L k = true := by rw [hal.out, ← hN.out, ← hLi.out, ← hv.out]; rfl
        refine wp_region_quiet_below (by kernel_rfl) (by kernel_rfl) ?_
        repeat (go_big_quiet_step (first | (with_reducible exact hcn.out _ _) | (with_reducible exact hcl.out _ _)))
        refine wpQuiet_nil ?_
        intro _ hw'
        obtain ⟨⟨dq, osq⟩, hw''⟩ := hw'
        subst hw''
        have hb9 := hbel.trans ((hB0.trans ((below_regrown W dq osq).mono hB0.size)).mono hsz)
        generalize Go.Sort.grow (redrawn W dq) osq = W9 at hb9 ⊢
        go_wp2_with fail
        go_roundw
        case rel => exact ⟨k + 1, by go_num, by omega, all_next hall.out hok, hb9⟩
        case measure => simp [intOf]; omega
end Go.Proofs.YtfkidklpjiiclaaGreat

