/- The walks of the functions that read a decimal number. Conditions: as each states. -/
import Derived.Deep.DeepCutAuto
import Derived.Test.YtgdkabljgabjoaaGreatDoorGw22
namespace Go.Proofs.YtgdkabljgabjoaaGreatDoor
open Go.RowKit
set_option linter.unusedVariables false
set_option maxRecDepth 100000

theorem extract_list (s : ByteArray) (a b : Nat) : (s.extract a b).data.toList = (s.data.toList.take b).drop a := by
  simp [ByteArray.data_extract, List.drop_take]
theorem minus_yes {s : ByteArray} (h : ((s.extract 0 1).toList == [45]) = true) : s.data.toList = 45 :: (s.extract 1 s.size).data.toList := by
  have h := eq_of_beq h
  rw [ByteArray.toList_eq, extract_list] at h
  rw [extract_list]
  cases hs : s.data.toList with
  | nil => rw [hs] at h; simp at h
  | cons c l =>
    rw [hs] at h
    simp at h
    subst h
    have : s.size = l.length + 1 := by have := congrArg List.length hs; simpa using this
    simp [this]
theorem minus_no {s : ByteArray} (h : ((s.extract 0 1).toList == [45]) = false) : ∀ l, s.data.toList ≠ 45 :: l := by
  intro l hs
  rw [ByteArray.toList_eq, extract_list, hs] at h
  simp at h

/-- a minus sign is cut off: what is left, and whether there was one -/
theorem cutMinus_any (s : ByteArray) (w : World) (hs : s.size ≤ 1048576) :
    Calls Tryz.prog 45 #[.string s, .string ⟨#[45]⟩] w fun e w' =>
      (∃ r : ByteArray, e = .returned (.tuple #[.string r, .bool true]) ∧ s.data.toList = 45 :: r.data.toList ∧ w = w') ∨ (e = .returned (.tuple #[.string s, .bool false]) ∧ (∀ l, s.data.toList ≠ 45 :: l) ∧ w = w') := by
  cases hm : ((s.extract 0 1).toList == [45])
  · have h0 := minus_no hm
    replace h0 := Lib.hid h0
    by_cases h1 : 1 ≤ s.size
    · go_enter Tryz.func45, Tryz.ntmps45
      go_wp2
      go_ret2
      exact .inr ⟨rfl, h0.out, rfl⟩
    · go_enter Tryz.func45, Tryz.ntmps45
      go_wp2
      go_ret2
      exact .inr ⟨rfl, h0.out, rfl⟩
  · have h0 := minus_yes hm
    have h1 : 1 ≤ s.size := by have := congrArg List.length h0; simp at this; omega
    replace h0 := Lib.hid h0
    go_enter Tryz.func45, Tryz.ntmps45
    go_wp2
    go_ret2
    exact .inl ⟨_, rfl, h0.out, rfl⟩


theorem isDigit_any (c : UInt8) (w : World) : Calls Tryz.prog 94 #[.int .u8 c.toNat] w fun e w' => e = .returned (.bool (isDig c)) ∧ w = w' := by
  by_cases h : (48 : Int) ≤ (c.toNat : Int) <;> by_cases h2 : (c.toNat : Int) ≤ 57
  all_goals try (exfalso; omega)
  all_goals
    go_enter Tryz.func94, Tryz.ntmps94
    go_wp2
    go_ret
    exact ⟨ret_bool (by first | (simp [isDig]; omega) | (simp only [isDig]; rw [Bool.eq_iff_iff]; simp; omega)), rfl⟩

/-- the first k bytes of r are digits, of value v -/
def ReadTo (r : ByteArray) (k v : Nat) : Prop := (r.data.toList.take k).all isDig = true ∧ v = val (r.data.toList.take k)
theorem ReadTo.start (r : ByteArray) : ReadTo r 0 0 := ⟨by simp, by simp [val, valF]⟩
theorem take_snocB (r : ByteArray) (k : Nat) (h : k < r.size) : r.data.toList.take (k + 1) = r.data.toList.take k ++ [r[k]] := by
  rw [List.take_succ_eq_append_getElem (by simpa using h)]; rfl
theorem ReadTo.step {r : ByteArray} {k v : Nat} (h : ReadTo r k v) (hk : k < r.size) (hd : isDig r[k] = true) : ReadTo r (k + 1) (10 * v + (r[k].toNat - 48)) := by
  obtain ⟨h1, h2⟩ := h
  refine ⟨?_, ?_⟩
  · rw [take_snocB r k hk, List.all_append, h1]; simp [hd]
  · rw [take_snocB r k hk, val_snoc, ← h2]
theorem ReadTo.lt {r : ByteArray} {k v : Nat} (h : ReadTo r k v) (hk : k ≤ r.size) : v < 10 ^ k := by
  obtain ⟨h1, h2⟩ := h
  have := val_lt _ h1
  rw [List.length_take, Nat.min_eq_left (by simpa using hk)] at this
  omega
theorem ReadTo.all {r : ByteArray} {v : Nat} (h : ReadTo r r.size v) : r.data.toList.all isDig = true ∧ v = val r.data.toList := by
  obtain ⟨h1, h2⟩ := h
  rw [List.take_of_length_le (by simp)] at h1 h2
  exact ⟨h1, h2⟩

/-- what reading a decimal number comes to -/
def RDPost (s : ByteArray) (w : World) (e : Ending) (w' : World) : Prop :=
  (∃ n, IsDec s n ∧ e = .returned (.tuple #[.int .i64 n, .bool true]) ∧ Below w.heap.size w w') ∨ ((∀ n, ¬ IsDec s n) ∧ e = .returned (.tuple #[.int .i64 0, .bool false]) ∧ Below w.heap.size w w')

/-- the digits behind the sign -/
def Body (s r : ByteArray) (neg : Bool) : Prop := (neg = true ∧ s.data.toList = 45 :: r.data.toList) ∨ (neg = false ∧ s = r ∧ ∀ l, s.data.toList ≠ 45 :: l)
theorem Body.dec {s r : ByteArray} {neg : Bool} (h : Body s r neg) {n : Int} (hn : IsDec s n) : r.data.toList = dec1 n.natAbs ∧ (n = if neg then -((val r.data.toList : Nat) : Int) else ((val r.data.toList : Nat) : Int)) := by
  have hs : s.data.toList = decL n := by rw [hn.1]; simp [decS]
  rcases h with ⟨rfl, h⟩ | ⟨rfl, rfl, h⟩
  · rcases Int.lt_or_le n 0 with h0 | h0
    · rw [decL_neg h0, h] at hs
      injection hs with _ hs
      refine ⟨hs, ?_⟩
      rw [hs, dec1_val]; simp; omega
    · rw [decL_pos h0, h] at hs
      exact absurd (by rw [← hs]; rfl) (dec1_head n.natAbs)
  · rcases Int.lt_or_le n 0 with h0 | h0
    · exact absurd (by rw [hs, decL_neg h0]) (h (dec1 n.natAbs))
    · rw [decL_pos h0] at hs
      refine ⟨hs, ?_⟩
      rw [hs, dec1_val]; simp; omega

set_option maxRecDepth 100000 in
set_option maxHeartbeats 1000000 in
theorem ReadDecimal_any (s : ByteArray) (w : World) (hs : s.size ≤ 1048576) :
    Calls Tryz.prog 46 #[.string s] w fun e w' => RDPost s w e w' := by
  go_enter Tryz.func46, Tryz.ntmps46
  go_wp2_with fail
  refine (cutMinus_any s _ hs).mono ?_
  intro e w0 hcut
  obtain ⟨r, neg, rfl, hbody, rfl⟩ : ∃ r neg, e = .returned (.tuple #[.string r, .bool neg]) ∧ Body s r neg ∧ w = w0 := by
    rcases hcut with ⟨r, rfl, h, rfl⟩ | ⟨rfl, h, rfl⟩
    · exact ⟨r, true, rfl, .inl ⟨rfl, h⟩, rfl⟩
    · exact ⟨s, false, rfl, .inr ⟨rfl, rfl, h⟩, rfl⟩
  clear hcut
  replace hbody := Lib.hid hbody
  by_cases hl : r.size < 1 ∨ 18 < r.size
  · have hno : ∀ n, ¬ IsDec s n := fun n hn => by
      have h1 := (hbody.out.dec hn).1
      have h2 := congrArg List.length h1
      have h3 := dec1_len18 hn.2
      have h4 := List.length_pos_iff.2 (dec1_ne n.natAbs)
      simp at h2
      omega
    replace hno := Lib.hid hno
    rcases hl with hl | hl
    · go_wp2_with fail
      go_ret2
      exact .inr ⟨hno.out, rfl, Below.refl _ _⟩
    · by_cases hl' : r.size < 1
      · omega
      · go_wp2_with fail
        go_ret2
        exact .inr ⟨hno.out, rfl, Below.refl _ _⟩
  · have hl1 : 1 ≤ r.size := by omega
    have hl2 : r.size ≤ 18 := by omega
    clear hl
    go_wp2_with fail
    go_loop [6, 7] (fun nv i => ∃ k v : Nat, i = .int .i64 k ∧ nv = .int .i64 v ∧ k ≤ r.size ∧ ReadTo r k v) (fun nv i => r.size - (intOf i).toNat)
    case atStart => exact ⟨0, 0, rfl, rfl, Nat.zero_le _, ReadTo.start r⟩
    case round =>
      obtain ⟨k, v, rfl, rfl, hk, hrd⟩ := hrel
      have hv := hrd.lt hk
      by_cases hlt : k < r.size
      · have hv17 : v < 100000000000000000 := by
          have : (10 : Nat) ^ k ≤ 10 ^ 17 := Nat.pow_le_pow_right (by omega) (by omega)
          omega
        clear hv
        obtain ⟨c, hc⟩ : ∃ c, r[k] = c := ⟨_, rfl⟩
        have hc256 := c.toNat_lt
        have hstep := Lib.hid (fun h => hrd.step hlt h)
        replace hrd := Lib.hid hrd
        by_cases hd : isDig c = true
        · have hd2 : 48 ≤ c.toNat ∧ c.toNat ≤ 57 := by simpa [isDig] using hd
          go_wp2_with (go_at_call 94; refine (isDigit_any _ _).mono ?_; rintro e w' ⟨rfl, rfl⟩)
          go_round
          case rel => exact ⟨k + 1, 10 * v + (c.toNat - 48), by go_num, by congr 1; omega, by omega, by have := hstep.out (by rw [hc]; exact hd); rw [hc] at this; exact this⟩
          case measure => simp [intOf]; omega
        · have hd' : isDig c = false := by simpa using hd
          have hno : ∀ n, ¬ IsDec s n := fun n hn => by
            have h1 := (hbody.out.dec hn).1
            have h2 := dec1_digits n.natAbs
            rw [← h1, List.all_eq_true] at h2
            have h3 : r[k] ∈ r.data.toList := by
              have e : r[k] = r.data.toList[k]'(by simpa using hlt) := rfl
              rw [e]; exact List.getElem_mem _
            have := h2 _ h3
            rw [hc] at this
            exact absurd this (by rw [hd']; simp)
          replace hno := Lib.hid hno
          clear hd
          go_wp2_with (go_at_call 94; refine (isDigit_any _ _).mono ?_; rintro e w' ⟨rfl, rfl⟩)
          go_ret2
          exact .inr ⟨hno.out, rfl, Below.refl _ _⟩
      · have hkr : k = r.size := by omega
        have hv18 : v < 1000000000000000000 := by
          have : (10 : Nat) ^ k ≤ 10 ^ 18 := Nat.pow_le_pow_right (by omega) (by omega)
          omega
        have hfin : v = val r.data.toList := by subst hkr; exact hrd.all.2
        clear hv
        replace hfin := Lib.hid hfin
        replace hkr := Lib.hid hkr
        replace hrd := Lib.hid hrd
        obtain ⟨m, hm⟩ : ∃ m : Int, m = if neg then -(v : Int) else (v : Int) := ⟨_, rfl⟩
        have hmb : -1000000000000000000 < m ∧ m < 1000000000000000000 := by rw [hm]; cases neg <;> simp <;> omega
        have hsound : decS m = s → IsDec s m := fun h => ⟨h.symm, by have := hmb; omega⟩
        have hcomp : ∀ n, IsDec s n → n = m := fun n hn => by rw [(hbody.out.dec hn).2, hm, ← hfin.out]
        have hmbd := hmb
        replace hsound := Lib.hid hsound
        replace hcomp := Lib.hid hcomp
        replace hmb := Lib.hid hmb
        obtain ⟨hm1, hm2⟩ := hmbd
        replace hm := Lib.hid hm
        have hmv : (neg = true ∧ m = -(v : Int)) ∨ (neg = false ∧ m = (v : Int)) := by rw [hm.out]; cases neg <;> simp
        have hdec := fun W => implDec_any m W (by omega) (by omega)
        replace hdec := Lib.hid hdec
        rcases hmv with ⟨rfl, rfl⟩ | ⟨rfl, rfl⟩
        · go_wp2_with fail
          refine (hdec.out _).mono ?_
          rintro e w1 ⟨rfl, hb1⟩
          by_cases heq : ((decS (-(v : Int))).toList == s.toList) = true
          · have h1 := bytes_eq heq
            replace h1 := Lib.hid h1
            go_wp2_with fail
            go_ret2
            exact .inl ⟨_, hsound.out h1.out, rfl, hb1⟩
          · have heq' : ((decS (-(v : Int))).toList == s.toList) = false := by simpa using heq
            have h1 := bytes_ne heq'
            replace h1 := Lib.hid h1
            clear heq
            go_wp2_with fail
            go_ret2
            exact .inr ⟨fun n hn => h1.out (by have := hcomp.out n hn; subst this; exact hn.1.symm), rfl, hb1⟩
        · go_wp2_with fail
          refine (hdec.out _).mono ?_
          rintro e w1 ⟨rfl, hb1⟩
          generalize hds : decS (v : Int) = ds at *
          replace hds := Lib.hid hds
          by_cases heq : (ds.toList == s.toList) = true
          · have h1 := bytes_eq heq
            replace h1 := Lib.hid h1
            go_wp2_with fail
            go_ret2
            exact .inl ⟨_, hsound.out h1.out, rfl, hb1⟩
          · have heq' : (ds.toList == s.toList) = false := by simpa using heq
            have h1 := bytes_ne heq'
            replace h1 := Lib.hid h1
            clear heq
            go_wp2_with fail
            go_ret2
            exact .inr ⟨fun n hn => h1.out (by have := hcomp.out n hn; subst this; rw [← hds.out]; exact hn.1.symm), rfl, hb1⟩
end Go.Proofs.YtgdkabljgabjoaaGreatDoor

/- The reference's reading of a number. Conditions: as each states. -/
namespace Go.Proofs.YtgdkabljgabjoaaGreatDoor
open Go.RowKit
set_option linter.unusedVariables false
set_option maxRecDepth 100000

theorem bytes_length (s : ByteArray) : s.toList.length = s.size := by
  rw [ByteArray.toList_eq]; simp
end Go.Proofs.YtgdkabljgabjoaaGreatDoor

