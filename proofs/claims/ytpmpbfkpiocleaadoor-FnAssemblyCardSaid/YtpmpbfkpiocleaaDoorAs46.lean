/- The law on assembly. Conditions: as each states. -/
import Derived.Deep.RegionHeld3
import Derived.Test.YtpmpbfkpiocleaaDoorAs31
import Derived.Test.YtpmpbfkpiocleaaDoorAs44
import Derived.Test.YtpmpbfkpiocleaaDoorAs40
import Derived.Test.YtpmpbfkpiocleaaDoorAs45
namespace Go.Proofs.YtpmpbfkpiocleaaDoor
open Go.RowKit
set_option linter.unusedVariables false
set_option maxRecDepth 100000

theorem makeR_ok {L : List (Int × Int)} (hv : allValid L = true) (hn : nestB (codesOf L) = true) : makeR L = if 400 < (progL L).length then ([], 5) else (progL L, 0) := by
  unfold makeR
  rw [if_neg (by rw [hv]; simp), if_neg (by rw [hn]; simp)]
theorem partR_ok {L : List (Int × Int)} (hv : allValid L = true) (hn : nestB (codesOf L) = true) {t : Nat} (ht : t < L.length) :
    partR L t = if (codesOf L).getD t 0 = 35 ∨ (codesOf L).getD t 0 = 36 ∨ (codesOf L).getD t 0 = 44 then (scan (codesOf L) t, 0) else (0, 6) := by
  unfold partR
  rw [if_neg (by rw [hv, hn]; simp), if_neg (by omega)]
  rfl
theorem codes_at (L : List (Int × Int)) (t : Nat) : (codesOf L).getD t 0 = (L.getD t (0, 0)).1 := by
  unfold codesOf
  rw [List.getD_eq_getElem?_getD, List.getD_eq_getElem?_getD, List.getElem?_map]
  cases L[t]? <;> rfl
theorem textR_ok {s : ByteArray} {L : List (Int × Int)} (h : hintList s = some L) (hn : nestB (codesOf L) = true) : textR s = (htText L, 0) := by
  unfold textR
  rw [h]
  simp [hn]
theorem asmR_ok {L : List (Int × Int)} : asmR (some L) = makeR L := rfl

set_option maxHeartbeats 8000000 in
theorem lawAssembly_walk (A0 : Option Addr) (n0 c0 : Nat) (L0 : List Int) {w : World} (hr0 : RdS 1 u8R w 0 w.heap.size A0 n0 L0) (hm0 : n0 ≤ maxLen) (hm : MaxI w) :
    Calls Tryd.prog 3 #[.slice A0 n0 c0] w fun e w' => e = .returned (.bool true) ∧ Below w.heap.size w w' := by
  unfold maxLen at hm0
  have hml := hm.lt
  by_cases hn : 1048576 < n0
  · have hni : (1048576 : Int) < (n0 : Int) := by omega
    clear hr0 hm
    go_enter Tryd.func3, Tryd.ntmps3
    go_wp2_with fail
    go_ret
    exact ⟨rfl, Below.refl _ _⟩
  have hni : ¬ (1048576 : Int) < (n0 : Int) := by omega
  have hc0 := Lib.hid (E8Hints_any A0 n0 c0 0 w.heap.size L0 w hr0 (Nat.le_refl _) (by omega))
  replace hm := Lib.hid hm
  clear hr0
  go_enter Tryd.func3, Tryd.ntmps3
  go_wp2_with fail
  refine hc0.out.mono ?_
  rintro e w1 ⟨A, n, c, H, rfl, ⟨hl, hown, hv, hnest, hn6⟩, hb1⟩
  have hrd := rdH_own hown hl
  have hmk := makeR_ok hv hnest
  clear hown hc0
  by_cases h4 : 400 < (progL H).length
  · rw [if_pos h4] at hmk
    have hc := Lib.hid (implProgramOf_any A n c H w1 hrd (by omega) _ _ hmk)
    clear hrd hmk hv hnest hm h4 hl
    go_wp2_with fail
    refine hc.out.mono ?_
    rintro e w2 ⟨rfl, hb2⟩
    go_wp2_with fail
    go_ret
    exact ⟨rfl, hb1.trans (hb2.mono hb1.size)⟩
  rw [if_neg h4] at hmk
  have hpl : (progL H).length ≤ 400 := by omega
  have hpp := parse_prog hv hpl
  obtain ⟨P, hP⟩ : ∃ P : ByteArray, P = ⟨(progL H).toArray⟩ := ⟨_, rfl⟩
  have hPs : P.size ≤ 400 := by rw [hP]; show (progL H).toArray.size ≤ 400; simpa using hpl
  rw [← hP] at hpp
  have hc1 : Calls Tryd.prog 5 #[.slice A n c] w1 fun e w' => e = .returned (.tuple #[.string P, .int .i64 0]) ∧ Below w1.heap.size w1 w' := by
    rw [hP]; exact implProgramOf_any A n c H w1 hrd (by omega) _ _ hmk
  have hl4 : H.length ≤ 400 := (hintList_valid hpp).2
  have htx := textR_ok hpp hnest
  have htl : (htText H).length ≤ 11200 := by have := htText_len hv; omega
  have htb := text_back hv
  obtain ⟨T, hT⟩ : ∃ T : ByteArray, T = ⟨(htText H).toArray⟩ := ⟨_, rfl⟩
  have hTs : T.size ≤ 11200 := by rw [hT]; show (htText H).toArray.size ≤ 11200; simpa using htl
  have hc2 : ∀ W, Below w1.heap.size w1 W → Calls Tryd.prog 7 #[.string P] W fun e w' => e = .returned (.tuple #[.string T, .int .i64 0]) ∧ Below W.heap.size W w' := by
    intro W hW
    rw [hT]
    exact implHintsText_any P W ((hm.out.kept hb1 hml).kept hW (by have := (hm.out.kept hb1 hml).lt; omega)) (by omega) _ _ htx
  have hc3 : ∀ W, Below w1.heap.size w1 W → Calls Tryd.prog 8 #[.string T] W fun e w' => e = .returned (.tuple #[.string P, .int .i64 0]) ∧ Below W.heap.size W w' := by
    intro W hW
    refine (implAssemble_any T W ((hm.out.kept hb1 hml).kept hW (by have := (hm.out.kept hb1 hml).lt; omega)) (by omega)).mono ?_
    rintro e w' ⟨o, ho, rfl, hb⟩
    have ho' : o = some H := by
      refine ho.unique ?_
      rw [hT]; exact htb
    subst ho'
    refine ⟨?_, hb⟩
    rw [asmR_ok, hmk, hP]
  have hc4 : ∀ W, Calls Tryd.prog 9 #[.string P] W fun e w' => e = .returned (.bool true) ∧ Below W.heap.size W w' := by
    intro W
    exact implValidHints_any P W (by omega) true (by rw [hpp]; exact hnest.symm)
  have hc5 : ∀ W, Calls Tryd.prog 6 #[.string P] W fun e w' => ∃ A' c', e = .returned (.tuple #[.slice A' n c', .bool true]) ∧ RdH w' A' n H ∧ Below W.heap.size W w' := by
    intro W
    refine (implHintsOf_any P W (by omega)).mono ?_
    rintro e w' (⟨h, _, _⟩ | ⟨L, A', c', hL, _, rfl, ho, hb⟩)
    · rw [h H hpp] at hnest; cases hnest
    · obtain rfl : H = L := by rw [hpp] at hL; injection hL
      rw [← hl]
      exact ⟨A', c', rfl, rdH_own ho rfl, hb⟩
  have hc6 : ∀ (t : Nat) (W : World), t < n → Below w1.heap.size w1 W → Calls Tryd.prog 10 #[.slice A n c, .int .i64 t] W fun e w' => e = .returned (.tuple #[.int .i64 (partR H t).1, .int .i64 (partR H t).2]) ∧ Below W.heap.size W w' :=
    fun t W ht hW => implPartnerOf_any A n c t H W (hrd.below hW) (by omega) _ _ rfl
  replace hc1 := Lib.hid hc1
  replace hc2 := Lib.hid hc2
  replace hc3 := Lib.hid hc3
  replace hc4 := Lib.hid hc4
  replace hc5 := Lib.hid hc5
  replace hc6 := Lib.hid hc6
  replace hv := Lib.hid hv
  replace hnest := Lib.hid hnest
  replace hrd := Lib.hid hrd
  clear hP hT hmk hpp htx htb hm h4 hpl hTs hPs htl
  go_wp2_with fail
  refine hc1.out.mono ?_
  rintro e w2 ⟨rfl, hb2⟩
  go_wp2_with fail
  refine (hc5.out w2).mono ?_
  rintro e w3 ⟨A2, c2, rfl, hrd2, hb3⟩
  have hB3 := hb2.trans (hb3.mono hb2.size)
  have hB3H := Lib.hid hB3
  replace hrd2 := Lib.hid hrd2
  clear hb2 hb3 hB3 hc1 hc5
  go_wp2_with fail
  refine (hc2.out w3 hB3H.out).mono ?_
  rintro e w4 ⟨rfl, hb4⟩
  have hB4 := Lib.hid (hB3H.out.trans (hb4.mono hB3H.out.size))
  replace hrd2 := Lib.hid (hrd2.out.below hb4)
  clear hb4 hB3H hc2
  go_wp2_with fail
  refine (hc3.out w4 hB4.out).mono ?_
  rintro e w5 ⟨rfl, hb5⟩
  have hB5 := Lib.hid (hB4.out.trans (hb5.mono hB4.out.size))
  replace hrd2 := Lib.hid (hrd2.out.below hb5)
  clear hb5 hB4 hc3
  go_wp2_with fail
  refine (hc4.out w5).mono ?_
  rintro e w6 ⟨rfl, hb6⟩
  have hB6 := Lib.hid (hB5.out.trans (hb6.mono hB5.out.size))
  replace hrd2 := Lib.hid (hrd2.out.below hb6)
  replace hrd := Lib.hid (hrd.out.below hB6.out)
  have hBw := Lib.hid (hb1.trans (hB6.out.mono hb1.size))
  have hB1 := Lib.hid (fun (W : World) (h : Below w6.heap.size w6 W) => hB6.out.trans (h.mono hB6.out.size))
  clear hb6 hB5 hc4 hB6
  go_wp2_with fail
  go_loopw [12] (fun iv wr => ∃ t : Nat, iv = .int .i64 t ∧ t ≤ n ∧ Below w6.heap.size w6 wr) (fun iv wr => n - (intOf iv).toNat)
  case atStart => exact ⟨0, rfl, by omega, Below.refl _ _⟩
  case round =>
  obtain ⟨t, rfl, htn, hbl⟩ := hrel
  generalize wr = xr at *
  by_cases ht : t < n
  rotate_left
  · have hfin := Lib.hid (hBw.out.trans (hbl.mono hBw.out.size))
    clear hbl
    go_wp2_with fail
    go_ret
    exact ⟨rfl, hfin.out⟩
  have hti : (0 : Int) ≤ (t : Int) ∧ (t : Int) < (n : Int) := by omega
  obtain ⟨b, off, rfl, hb, hcs⟩ := hrd.out.2 (by omega)
  obtain ⟨b2, off2, rfl, hb2, hcs2⟩ := hrd2.out.2 (by omega)
  have hz := hbl.size
  have hcell : ∀ j, j < n → xr.cell? ⟨b, off + j * 2, none⟩ = some (.int .i64 ((codesOf H).getD j 0)) := fun j hj => by
    rw [codes_at]; exact (hbl.cell (p := ⟨b, off + j * 2, none⟩) hb).trans (hcs j hj).1
  have f1 := hcell t ht
  have f2 := (hbl.cell (p := ⟨b, off + t * 2 + 1, none⟩) hb).trans (hcs t ht).2
  have f3 := (hbl.cell (p := ⟨b2, off2 + t * 2, none⟩) hb2).trans (hcs2 t ht).1
  have f4 := (hbl.cell (p := ⟨b2, off2 + t * 2 + 1, none⟩) hb2).trans (hcs2 t ht).2
  rw [← codes_at] at f3
  have hpr := partR_ok hv.out hnest.out (t := t) (by omega)
  have hpi := Lib.hid (fun hc => partner_is hnest.out (t := t) (by unfold codesOf; rw [List.length_map]; omega) hc)
  have hcl : (codesOf H).length = n := by unfold codesOf; rw [List.length_map, hl]
  clear hcs hcs2 hv hnest
  obtain ⟨cd, hcd⟩ : ∃ cd, cd = (codesOf H).getD t 0 := ⟨_, rfl⟩
  obtain ⟨od, hod⟩ : ∃ od, od = (H.getD t (0, 0)).2 := ⟨_, rfl⟩
  rw [← hcd] at f1 f3 hpr hpi
  rw [← hod] at f2 f4
  replace hcd := Lib.hid hcd
  replace hod := Lib.hid hod
  replace hcell := Lib.hid hcell
  replace hcl := Lib.hid hcl
  have hcp := Lib.hid (fun (W : World) (h : Below w6.heap.size w6 W) => hc6.out t W ht (hB1.out W h))
  have hfin := Lib.hid (fun (W W' : World) (h : Below xr.heap.size xr W) (h' : Below W.heap.size W W') => (hbl.trans (h.mono hbl.size)).trans (h'.mono (Nat.le_trans hbl.size h.size)))
  replace hbl := Lib.hid hbl
  clear hc6 hB1 hrd hrd2
  by_cases hc : cd = 35 ∨ cd = 36 ∨ cd = 44
  · rw [if_pos hc] at hpr
    obtain ⟨k, hk0, hk1, hk2, hk3, hk4, hk5⟩ := hpi.out hc
    rw [hk0] at hpr
    rw [hpr] at hcp
    have f5 := hcell.out k (by rw [← hcl.out]; exact hk2)
    have hki : (0 : Int) ≤ (k : Int) ∧ (k : Int) < (n : Int) := by have := hcl.out; omega
    have hkt : ¬ (k : Int) ≤ (t : Int) := by omega
    have hkn : ¬ (n : Int) ≤ (k : Int) := by omega
    obtain ⟨ck, hck⟩ : ∃ ck, ck = (codesOf H).getD k 0 := ⟨_, rfl⟩
    rw [← hck] at f5 hk3 hk4 hk5
    replace hck := Lib.hid hck
    clear hpr hpi hk0 hk2 hcell
    have hall : (cd = 35 ∧ ck = 37) ∨ (cd = 35 ∧ ck = 36) ∨ (cd = 36 ∧ ck = 37) ∨ (cd = 44 ∧ ck = 38) := by
      rcases hc with h | h | h
      · rcases hk5 h with h' | h'
        · exact .inl ⟨h, h'⟩
        · exact .inr (.inl ⟨h, h'⟩)
      · exact .inr (.inr (.inl ⟨h, hk4 h⟩))
      · exact .inr (.inr (.inr ⟨h, hk3 h⟩))
    clear hk3 hk4 hk5 hc
    rcases hall with ⟨rfl, rfl⟩ | ⟨rfl, rfl⟩ | ⟨rfl, rfl⟩ | ⟨rfl, rfl⟩
    all_goals
      go_wp2_with fail
      go_quiet (fail)
      go_wp2_with fail
      refine (hcp.out _ (below_drewN hbl.out _)).mono ?_
      rintro e w7 ⟨rfl, hb7⟩
      have hB7 := Lib.hid ((below_drewN hbl.out _).trans (hb7.mono hbl.out.size))
      have g1 := (hb7.cell (p := ⟨b, off + t * 2, none⟩) (Nat.lt_of_lt_of_le hb hbl.out.size)).trans f1
      have g5 := (hb7.cell (p := ⟨b, off + k * 2, none⟩) (Nat.lt_of_lt_of_le hb hbl.out.size)).trans f5
      clear f1 f2 f3 f4 f5 hb7 hcp hfin
      go_wp2_with fail
      go_roundw
      case rel => exact ⟨t + 1, by go_num, by omega, hB7.out⟩
      case measure => simp [intOf]; omega
  · rw [if_neg hc] at hpr
    rw [hpr] at hcp
    clear hpr hpi hcell
    have e1 : (cd == 35) = false := by simp; omega
    have e2 : (cd == 36) = false := by simp; omega
    have e3 : (cd == 44) = false := by simp; omega
    clear hc
    go_wp2_with fail
    go_quiet (fail)
    go_wp2_with fail
    refine (hcp.out _ (below_drewN hbl.out _)).mono ?_
    rintro e w7 ⟨rfl, hb7⟩
    have hB7 := Lib.hid ((below_drewN hbl.out _).trans (hb7.mono hbl.out.size))
    have g1 := (hb7.cell (p := ⟨b, off + t * 2, none⟩) (Nat.lt_of_lt_of_le hb hbl.out.size)).trans f1
    clear f1 f2 f3 f4 hb7 hcp hfin
    go_wp2_with fail
    go_roundw
    case rel => exact ⟨t + 1, by go_num, by omega, hB7.out⟩
    case measure => simp [intOf]; omega
end Go.Proofs.YtpmpbfkpiocleaaDoor

