/- The reference's reading of a number. Conditions: as each states. -/
import Derived.Test.YtjmogpolipinlaaDoorReadD
import Derived.Test.YtjmogpolipinlaaDoorDec
import Derived.Deep.DeepCutAuto
namespace Go.Proofs.YtjmogpolipinlaaDoor
open Go.RowKit
set_option linter.unusedVariables false
set_option maxRecDepth 100000

theorem l01Digit_any (c : UInt8) (w : World) : Calls Tryd.prog 70 #[.int .u8 c.toNat] w fun e w' => e = .returned (.bool (isDig c)) ∧ w = w' := by
  by_cases h : (48 : Int) ≤ (c.toNat : Int) <;> by_cases h2 : (c.toNat : Int) ≤ 57
  all_goals try (exfalso; omega)
  all_goals
    go_enter Tryd.func70, Tryd.ntmps70
    go_wp2
    go_ret
    exact ⟨ret_bool (by first | (simp [isDig]; omega) | (simp only [isDig]; rw [Bool.eq_iff_iff]; simp; omega)), rfl⟩

theorem bytes_length (s : ByteArray) : s.toList.length = s.size := by
  rw [ByteArray.toList_eq]; simp
theorem sign_cut {s : ByteArray} (h : 0 < s.size) (hm : s[0] = 45) : s.data.toList = 45 :: (s.extract 1 s.size).data.toList := by
  rw [extract_list]
  have h0 : s.data.toList = s[0] :: s.data.toList.drop 1 := by
    have hl : 0 < s.data.toList.length := by simpa using h
    have e := List.drop_eq_getElem_cons (l := s.data.toList) hl
    rw [List.drop_zero] at e
    exact e
  rw [List.take_of_length_le (by simp)]
  rw [hm] at h0
  exact h0
theorem sign_none {s : ByteArray} (h : 0 < s.size) (hm : ¬ s[0] = 45) : ∀ l, s.data.toList ≠ 45 :: l := by
  intro l hl
  have h0 : s.data.toList[0]? = some s[0] := by
    rw [List.getElem?_eq_getElem (by simpa using h)]; rfl
  rw [hl] at h0
  exact hm (Option.some.inj h0).symm
set_option maxRecDepth 100000 in
set_option maxHeartbeats 4000000 in
theorem l01Number_any (s : ByteArray) (w : World) (hs : s.size ≤ 1048576) :
    Calls Tryd.prog 60 #[.string s] w fun e w' => RDPost s w e w' := by
  by_cases h0 : s.size = 0
  · have hn : ∀ n, ¬ IsDec s n := fun n hn => by
      have h := congrArg ByteArray.size hn.1
      rw [h0] at h
      have h2 : (decL n).length = 0 := h.symm
      unfold decL at h2
      have := List.length_pos_iff.2 (dec1_ne n.natAbs)
      rw [List.length_append] at h2
      omega
    have hse : s = ⟨#[]⟩ := by
      cases s with
      | mk d => simp [ByteArray.size] at h0; rw [h0]
    replace hn := Lib.hid hn
    subst hse
    go_enter Tryd.func60, Tryd.ntmps60
    go_wp2_with fail
    go_ret2
    exact .inr ⟨hn.out, rfl, Below.refl _ _⟩
  have hne : (s.toList == []) = false := by
    rw [beq_eq_false_iff_ne]
    intro h
    exact h0 (by rw [← bytes_length, h]; rfl)
  have h1s : 0 < s.size := by omega
  by_cases hm : s[0] = 45
  · have hbody : Body s (s.extract 1 s.size) true := .inl ⟨rfl, sign_cut h1s hm⟩
    have hrz : (s.extract 1 s.size).size + 1 = s.size := by rw [ByteArray.size_extract]; omega
    go_enter Tryd.func60, Tryd.ntmps60
    go_upto_region 4 with fail
    generalize s.extract 1 s.size = r at *
    clear hm hne
    have hrl : r.size < s.size := by omega
    replace hbody := Lib.hid hbody
    by_cases hl : r.size < 1 ∨ 18 < r.size
    · have hno : ∀ n, ¬ IsDec s n := fun n hn => by
        have h1 := (hbody.out.dec hn).1
        have h2 := congrArg List.length h1
        have h3 := dec1_len18 hn.2
        have h4 := List.length_pos_iff.2 (dec1_ne n.natAbs)
        simp at h2
        omega
      replace hno := Lib.hid hno
      rcases hl with hl | hl
      · first
          | (exfalso; omega)
          | (go_wp2_with fail
             go_ret2
             exact .inr ⟨hno.out, rfl, Below.refl _ _⟩)
      · by_cases hl' : r.size < 1
        · omega
        · go_wp2_with fail
          go_ret2
          exact .inr ⟨hno.out, rfl, Below.refl _ _⟩
    · have hl1 : 1 ≤ r.size := by omega
      have hl2 : r.size ≤ 18 := by omega
      clear hl
      go_wp2_with fail
      go_loop [5, 6] (fun nv i => ∃ k v : Nat, i = .int .i64 k ∧ nv = .int .i64 v ∧ k ≤ r.size ∧ ReadTo r k v) (fun nv i => r.size - (intOf i).toNat)
      case atStart => exact ⟨0, 0, rfl, rfl, Nat.zero_le _, ReadTo.start r⟩
      case round =>
        obtain ⟨k, v, rfl, rfl, hk, hrd⟩ := hrel
        have hv := hrd.lt hk
        by_cases hlt : k < r.size
        · have hv17 : v < 100000000000000000 := by
            have : (10 : Nat) ^ k ≤ 10 ^ 17 := Nat.pow_le_pow_right (by omega) (by omega)
            omega
          clear hv
          obtain ⟨c, hc⟩ : ∃ c, r[k] = c := ⟨_, rfl⟩
          have hc256 := c.toNat_lt
          have hstep := Lib.hid (fun h => hrd.step hlt h)
          replace hrd := Lib.hid hrd
          by_cases hd : isDig c = true
          · have hd2 : 48 ≤ c.toNat ∧ c.toNat ≤ 57 := by simpa [isDig] using hd
            go_wp2_with (go_at_call 70; refine (l01Digit_any _ _).mono ?_; rintro e w' ⟨rfl, rfl⟩)
            go_round
            case rel => exact ⟨k + 1, 10 * v + (c.toNat - 48), by go_num, by congr 1; omega, by omega, by have := hstep.out (by rw [hc]; exact hd); rw [hc] at this; exact this⟩
            case measure => simp [intOf]; omega
          · have hd' : isDig c = false := by simpa using hd
            have hno : ∀ n, ¬ IsDec s n := fun n hn => by
              have h1 := (hbody.out.dec hn).1
              have h2 := dec1_digits n.natAbs
              rw [← h1, List.all_eq_true] at h2
              have h3 : r[k] ∈ r.data.toList := by
                have e : r[k] = r.data.toList[k]'(by simpa using hlt) := rfl
                rw [e]; exact List.getElem_mem _
              have := h2 _ h3
              rw [hc] at this
              exact absurd this (by rw [hd']; simp)
            replace hno := Lib.hid hno
            clear hd
            go_wp2_with (go_at_call 70; refine (l01Digit_any _ _).mono ?_; rintro e w' ⟨rfl, rfl⟩)
            go_ret2
            exact .inr ⟨hno.out, rfl, Below.refl _ _⟩
        · have hkr : k = r.size := by omega
          have hv18 : v < 1000000000000000000 := by
            have : (10 : Nat) ^ k ≤ 10 ^ 18 := Nat.pow_le_pow_right (by omega) (by omega)
            omega
          have hfin : v = val r.data.toList := by subst hkr; exact hrd.all.2
          clear hv
          have hsound : decS (-(v : Int)) = s → IsDec s (-(v : Int)) := fun h => ⟨h.symm, by omega⟩
          have hcomp : ∀ n, IsDec s n → n = -(v : Int) := fun n hn => by rw [(hbody.out.dec hn).2, ← hfin]; simp
          replace hsound := Lib.hid hsound
          replace hcomp := Lib.hid hcomp
          replace hfin := Lib.hid hfin
          replace hkr := Lib.hid hkr
          replace hrd := Lib.hid hrd
          have hdec := fun W => l01Dec_any (-(v : Int)) W (by omega) (by omega)
          replace hdec := Lib.hid hdec
          go_wp2_with fail
          refine (hdec.out _).mono ?_
          rintro e w1 ⟨rfl, hb1⟩
          generalize hds : decS (-(v : Int)) = ds at *
          replace hds := Lib.hid hds
          by_cases heq : (ds.toList == s.toList) = true
          · have h1 := bytes_eq heq
            replace h1 := Lib.hid h1
            go_wp2_with fail
            go_ret2
            exact .inl ⟨_, hsound.out (by first | exact h1.out | (rw [hds.out]; exact h1.out)), rfl, hb1⟩
          · have heq' : (ds.toList == s.toList) = false := by simpa using heq
            have h1 := bytes_ne heq'
            replace h1 := Lib.hid h1
            clear heq
            go_wp2_with fail
            go_ret2
            exact .inr ⟨fun n hn => h1.out (by have := hcomp.out n hn; subst this; rw [← hds.out]; exact hn.1.symm), rfl, hb1⟩
  · have hbody : Body s s false := .inr ⟨rfl, rfl, sign_none h1s hm⟩
    have t0 : ((s[0].toNat : Int) == 45) = false := by
      rw [beq_eq_false_iff_ne]
      intro h
      exact hm (UInt8.toNat_inj.1 (by show s[0].toNat = 45; omega))
    replace hbody := Lib.hid hbody
    go_enter Tryd.func60, Tryd.ntmps60
    go_upto_region 4 with fail
    clear hm hne
    by_cases hl : s.size < 1 ∨ 18 < s.size
    · have hno : ∀ n, ¬ IsDec s n := fun n hn => by
        have h1 := (hbody.out.dec hn).1
        have h2 := congrArg List.length h1
        have h3 := dec1_len18 hn.2
        have h4 := List.length_pos_iff.2 (dec1_ne n.natAbs)
        simp at h2
        omega
      replace hno := Lib.hid hno
      rcases hl with hl | hl
      · first
          | (exfalso; omega)
          | (go_wp2_with fail
             go_ret2
             exact .inr ⟨hno.out, rfl, Below.refl _ _⟩)
      · by_cases hl' : s.size < 1
        · omega
        · go_wp2_with fail
          go_ret2
          exact .inr ⟨hno.out, rfl, Below.refl _ _⟩
    · have hl1 : 1 ≤ s.size := by omega
      have hl2 : s.size ≤ 18 := by omega
      clear hl
      go_wp2_with fail
      go_loop [5, 6] (fun nv i => ∃ k v : Nat, i = .int .i64 k ∧ nv = .int .i64 v ∧ k ≤ s.size ∧ ReadTo s k v) (fun nv i => s.size - (intOf i).toNat)
      case atStart => exact ⟨0, 0, rfl, rfl, Nat.zero_le _, ReadTo.start s⟩
      case round =>
        obtain ⟨k, v, rfl, rfl, hk, hrd⟩ := hrel
        have hv := hrd.lt hk
        by_cases hlt : k < s.size
        · have hv17 : v < 100000000000000000 := by
            have : (10 : Nat) ^ k ≤ 10 ^ 17 := Nat.pow_le_pow_right (by omega) (by omega)
            omega
          clear hv
          obtain ⟨c, hc⟩ : ∃ c, s[k] = c := ⟨_, rfl⟩
          have hc256 := c.toNat_lt
          have hstep := Lib.hid (fun h => hrd.step hlt h)
          replace hrd := Lib.hid hrd
          by_cases hd : isDig c = true
          · have hd2 : 48 ≤ c.toNat ∧ c.toNat ≤ 57 := by simpa [isDig] using hd
            go_wp2_with (go_at_call 70; refine (l01Digit_any _ _).mono ?_; rintro e w' ⟨rfl, rfl⟩)
            go_round
            case rel => exact ⟨k + 1, 10 * v + (c.toNat - 48), by go_num, by congr 1; omega, by omega, by have := hstep.out (by rw [hc]; exact hd); rw [hc] at this; exact this⟩
            case measure => simp [intOf]; omega
          · have hd' : isDig c = false := by simpa using hd
            have hno : ∀ n, ¬ IsDec s n := fun n hn => by
              have h1 := (hbody.out.dec hn).1
              have h2 := dec1_digits n.natAbs
              rw [← h1, List.all_eq_true] at h2
              have h3 : s[k] ∈ s.data.toList := by
                have e : s[k] = s.data.toList[k]'(by simpa using hlt) := rfl
                rw [e]; exact List.getElem_mem _
              have := h2 _ h3
              rw [hc] at this
              exact absurd this (by rw [hd']; simp)
            replace hno := Lib.hid hno
            clear hd
            go_wp2_with (go_at_call 70; refine (l01Digit_any _ _).mono ?_; rintro e w' ⟨rfl, rfl⟩)
            go_ret2
            exact .inr ⟨hno.out, rfl, Below.refl _ _⟩
        · have hkr : k = s.size := by omega
          have hv18 : v < 1000000000000000000 := by
            have : (10 : Nat) ^ k ≤ 10 ^ 18 := Nat.pow_le_pow_right (by omega) (by omega)
            omega
          have hfin : v = val s.data.toList := by subst hkr; exact hrd.all.2
          clear hv
          have hsound : decS ((v : Int)) = s → IsDec s ((v : Int)) := fun h => ⟨h.symm, by omega⟩
          have hcomp : ∀ n, IsDec s n → n = (v : Int) := fun n hn => by rw [(hbody.out.dec hn).2, ← hfin]; simp
          replace hsound := Lib.hid hsound
          replace hcomp := Lib.hid hcomp
          replace hfin := Lib.hid hfin
          replace hkr := Lib.hid hkr
          replace hrd := Lib.hid hrd
          have hdec := fun W => l01Dec_any ((v : Int)) W (by omega) (by omega)
          replace hdec := Lib.hid hdec
          go_wp2_with fail
          refine (hdec.out _).mono ?_
          rintro e w1 ⟨rfl, hb1⟩
          generalize hds : decS ((v : Int)) = ds at *
          replace hds := Lib.hid hds
          by_cases heq : (ds.toList == s.toList) = true
          · have h1 := bytes_eq heq
            replace h1 := Lib.hid h1
            go_wp2_with fail
            go_ret2
            exact .inl ⟨_, hsound.out (by first | exact h1.out | (rw [hds.out]; exact h1.out)), rfl, hb1⟩
          · have heq' : (ds.toList == s.toList) = false := by simpa using heq
            have h1 := bytes_ne heq'
            replace h1 := Lib.hid h1
            clear heq
            go_wp2_with fail
            go_ret2
            exact .inr ⟨fun n hn => h1.out (by have := hcomp.out n hn; subst this; rw [← hds.out]; exact hn.1.symm), rfl, hb1⟩
end Go.Proofs.YtjmogpolipinlaaDoor
