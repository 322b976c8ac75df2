/- The walks of the two functions that read the text of a number of parts. Conditions: as each states. -/
import Derived.Test.YtgngcllodofimaaPixQ
import Derived.Test.YtgngcllodofimaaCut
import Derived.Test.YtgngcllodofimaaDat
import Derived.BigQuiet
import Derived.IntWalk
import Derived.Deep.QuietTactic
namespace Go.Proofs.Ytgngcllodofimaa
open Go.RowKit
set_option linter.unusedVariables false
set_option maxRecDepth 100000

theorem getD_at {b : List UInt8} {i : Nat} {s : ByteArray} (h : s = ⟨b.toArray⟩) (hi : i < s.size) : b.getD i 0 = s[i] := by
  have hb : s.data.toList = b := by rw [h]
  subst hb
  rw [List.getD_eq_getElem?_getD, List.getElem?_eq_getElem (by simpa using hi)]; rfl
theorem byte_at {b : List UInt8} {i : Nat} {s : ByteArray} (h : s = ⟨b.toArray⟩) (hi : i < s.size) : b[i]? = some s[i] := by
  have hb : s.data.toList = b := by rw [h]
  subst hb
  rw [List.getElem?_eq_getElem (by simpa using hi)]; rfl
theorem head_of {s : ByteArray} (h : 1 ≤ s.size) : s.toList.isEmpty = false := by
  rw [ByteArray.toList_eq]
  cases hl : s.data.toList with
  | nil => have := congrArg List.length hl; rw [blen] at this; simp only [List.length_nil] at this; omega
  | cons => rfl
theorem empty_of {s : ByteArray} (h : s.size = 0) : s.toList.isEmpty = true := by
  rw [ByteArray.toList_eq]
  cases hl : s.data.toList with
  | nil => rfl
  | cons => have := congrArg List.length hl; rw [blen] at this; simp only [List.length_cons] at this; omega
theorem first_byte {s : ByteArray} (h : 0 < s.size) {c : UInt8} {l : List UInt8} (hl : s.data.toList = c :: l) : s[0] = c := by
  have e : s[0] = s.data.toList[0]'(by simpa using h) := rfl
  rw [e]
  simp only [hl, List.getElem_cons_zero]

/-- the sign is struck: how the text begins -/
def SignAt (s r : ByteArray) (neg : Bool) : Prop :=
  (1 ≤ s.size ∧ (∀ h : 0 < s.size, s[0] = 45) ∧ neg = true ∧ r = s.extract 1 s.size) ∨ (1 ≤ s.size ∧ (∀ h : 0 < s.size, s[0] ≠ 45) ∧ neg = false ∧ r = s) ∨ (s.size = 0 ∧ neg = false ∧ r = s)
theorem sign_at (s : ByteArray) : ∃ r neg, Body s r neg ∧ SignAt s r neg := by
  cases hl : s.data.toList with
  | nil =>
    refine ⟨s, false, .inr ⟨rfl, rfl, fun l h => by rw [hl] at h; cases h⟩, .inr (.inr ⟨?_, rfl, rfl⟩)⟩
    have := congrArg List.length hl; rw [blen] at this; exact this
  | cons c l =>
    have hsz : s.size = l.length + 1 := by have := congrArg List.length hl; rw [blen] at this; exact this
    by_cases h : c = 45
    · subst h
      refine ⟨s.extract 1 s.size, true, .inl ⟨rfl, ?_⟩, .inl ⟨by omega, fun h0 => first_byte h0 hl, rfl, rfl⟩⟩
      rw [extract_list, hl]; simp [hsz]
    · refine ⟨s, false, .inr ⟨rfl, rfl, fun l' h' => by rw [hl] at h'; injection h' with h1 _; exact h h1⟩, .inr (.inl ⟨by omega, fun h0 => by rw [first_byte h0 hl]; exact h, rfl, rfl⟩)⟩
theorem SignAt.size {s r : ByteArray} {neg : Bool} (h : SignAt s r neg) : r.size ≤ s.size ∧ ((neg = true ∧ r.size < s.size) ∨ (neg = false ∧ r = s)) := by
  rcases h with ⟨h1, _, rfl, rfl⟩ | ⟨h1, _, rfl, rfl⟩ | ⟨h1, rfl, rfl⟩
  · exact ⟨by simp, .inl ⟨rfl, by simp; omega⟩⟩
  · exact ⟨Nat.le_refl _, .inr ⟨rfl, rfl⟩⟩
  · exact ⟨Nat.le_refl _, .inr ⟨rfl, rfl⟩⟩
theorem ne45 {c : UInt8} (h : c ≠ 45) : ((c.toNat : Int) == 45) = false := by
  rw [beq_eq_false_iff_ne]; intro e; exact h (UInt8.toNat_inj.1 (by have : (45 : UInt8).toNat = 45 := rfl; omega))

set_option maxHeartbeats 8000000 in
theorem implReadPixels_any (s : ByteArray) (w : World) (hs : s.size ≤ 1048576) :
    Calls Try.prog 17 #[.string s] w fun e w' => RPPost s w e w' := by
  go_enter Try.func17, Try.ntmps17
  go_wp2_with fail
  refine (cutMinus_any s _ hs).mono ?_
  intro e w0 hcut
  obtain ⟨r, neg, rfl, hbody, rfl⟩ : ∃ r neg, e = .returned (.tuple #[.string r, .bool neg]) ∧ Body s r neg ∧ w = w0 := by
    rcases hcut with ⟨r, rfl, h, rfl⟩ | ⟨rfl, h, rfl⟩
    · exact ⟨r, true, rfl, .inl ⟨rfl, h⟩, rfl⟩
    · exact ⟨s, false, rfl, .inr ⟨rfl, rfl, h⟩, rfl⟩
  clear hcut
  have hrs : r.size ≤ 1048576 := Nat.le_trans hbody.size hs
  replace hbody := Lib.hid hbody
  go_wp2_with fail
  refine (cutByte_any r 58 _ hrs).mono ?_
  rintro e w1 (⟨i, rfl, hi, hat, hbef, hb1⟩ | ⟨rfl, hnone, hb1⟩)
  rotate_left
  · have hno : ∀ v, ¬ IsPix s v := fun v hv => hnone 58 (by rw [(hbody.out.pix hv).1]; simp) rfl
    replace hno := Lib.hid hno
    replace hnone := Lib.hid hnone
    go_wp2_with fail
    go_ret2
    exact .inr ⟨hno.out, rfl, hb1⟩
  have hla := extract_list r 0 i
  have hlb := extract_list r (i + 1) r.size
  generalize r.extract 0 i = sa at *
  generalize r.extract (i + 1) r.size = sb at *
  rw [List.drop_zero] at hla
  rw [List.take_of_length_le (by rw [blen]; exact Nat.le_refl _)] at hlb
  have hcutl : r.data.toList = sa.data.toList ++ 58 :: sb.data.toList := by
    rw [hla, hlb]
    have hl : i < r.data.toList.length := by rw [blen]; exact hi
    rw [List.getElem?_eq_getElem hl] at hat
    injection hat with hat
    have h := drop_split r.data.toList 0 i (Nat.zero_le _) hl
    rw [List.drop_zero, List.drop_zero, hat] at h
    exact h
  have hall := Lib.hid (fun v (hv : IsPix s v) => pix_cut hbody.out hcutl (by rw [hla]; exact hbef) hv)
  have hsas : sa.size ≤ 1048576 := by
    have := congrArg List.length hcutl
    rw [List.length_append, blen, blen] at this
    omega
  have hse0 : s.toList.isEmpty = true → False := fun h => by
    have h1 : s.size ≠ 0 := by
      have h2 := hbody.out.size
      have h3 := congrArg List.length hcutl
      rw [List.length_append, List.length_cons, blen] at h3
      omega
    rw [head_of (by omega)] at h
    cases h
  replace hse0 := Lib.hid hse0
  clear hat hbef hcutl hla hlb hi
  by_cases hb2 : sb.size = 2
  rotate_left
  · have hno : ∀ v, ¬ IsPix s v := fun v hv => hb2 (by rw [← blen]; exact (hall.out v hv).2.2.1)
    have t1 : ((sb.size : Int) != 2) = true := by simp; omega
    replace hno := Lib.hid hno
    clear hb2
    go_wp2_with fail
    go_ret2
    exact .inr ⟨hno.out, rfl, hb1⟩
  have t1 : ((sb.size : Int) != 2) = false := by simp; omega
  have g0 : 0 < sb.size := by omega
  have g1 : 1 < sb.size := by omega
  have x0 := getD_at (s := sb) (b := sb.data.toList) rfl (i := 0) g0
  have x1 := getD_at (s := sb) (b := sb.data.toList) rfl (i := 1) g1
  obtain ⟨b0, hb0⟩ : ∃ b0, sb[0]'g0 = b0 := ⟨_, rfl⟩
  obtain ⟨b1, hb1'⟩ : ∃ b1, sb[1]'g1 = b1 := ⟨_, rfl⟩
  have l0 : b0.toNat < 256 := b0.toNat_lt
  have l1 : b1.toNat < 256 := b1.toNat_lt
  rw [hb0] at x0
  rw [hb1'] at x1
  have hdall : ∀ v, IsPix s v → isDig b0 = true ∧ isDig b1 = true := fun v hv => by
    obtain ⟨_, _, h2, h3⟩ := hall.out v hv
    match hl : sb.data.toList, h2 with
    | [c, d], _ =>
      rw [hl] at x0 x1 h3
      simp at x0 x1 h3
      rw [← x0, ← x1]; exact h3
  replace hdall := Lib.hid hdall
  replace x0 := Lib.hid x0
  replace x1 := Lib.hid x1
  cases hd0 : isDig b0
  · have hno : ∀ v, ¬ IsPix s v := fun v hv => by have := (hdall.out v hv).1; rw [hd0] at this; cases this
    replace hno := Lib.hid hno
    go_wp2_with (go_at_call 68; refine (isDigit_any _ _).mono ?_; rintro e w' ⟨rfl, rfl⟩)
    go_ret2
    exact .inr ⟨hno.out, rfl, hb1⟩
  cases hd1 : isDig b1
  · have hno : ∀ v, ¬ IsPix s v := fun v hv => by have := (hdall.out v hv).2; rw [hd1] at this; cases this
    replace hno := Lib.hid hno
    go_wp2_with (go_at_call 68; refine (isDigit_any _ _).mono ?_; rintro e w' ⟨rfl, rfl⟩)
    go_ret2
    exact .inr ⟨hno.out, rfl, hb1⟩
  have m0 : 48 ≤ b0.toNat ∧ b0.toNat ≤ 57 := by simpa [isDig] using hd0
  have m1 : 48 ≤ b1.toNat ∧ b1.toNat ≤ 57 := by simpa [isDig] using hd1
  go_wp2_with (go_at_call 68; refine (isDigit_any _ _).mono ?_; rintro e w' ⟨rfl, rfl⟩)
  refine (ReadDecimal_any sa _ hsas).mono ?_
  rintro e w2 (⟨n, hdec, rfl, hb3⟩ | ⟨hnd, rfl, hb3⟩)
  rotate_left
  · have hno : ∀ v, ¬ IsPix s v := fun v hv => by
      obtain ⟨_, h2, _⟩ := hall.out v hv
      have hq := hv.2
      refine hnd ((v.natAbs / 64 : Nat) : Int) ⟨?_, by omega⟩
      unfold decS
      rw [decL_pos (by omega), Int.natAbs_natCast, ← h2]
    replace hno := Lib.hid hno
    clear hnd
    go_wp2_with fail
    go_ret2
    exact .inr ⟨hno.out, rfl, hb1.trans (hb3.mono hb1.size)⟩
  have hB := hb1.trans (hb3.mono hb1.size)
  have hval : ∀ v, IsPix s v → n = ((v.natAbs / 64 : Nat) : Int) ∧ 0 ≤ n ∧ n ≤ 1099511627776 := fun v hv => by
    obtain ⟨_, h2, _⟩ := hall.out v hv
    have hq := hv.2
    have : IsDec sa ((v.natAbs / 64 : Nat) : Int) := ⟨by unfold decS; rw [decL_pos (by omega), Int.natAbs_natCast, ← h2], by omega⟩
    have := hdec.unique this
    omega
  replace hdec := Lib.hid hdec
  by_cases hn0 : n < 0
  · have hno : ∀ v, ¬ IsPix s v := fun v hv => by have := hval v hv; omega
    replace hno := Lib.hid hno
    clear hval
    go_wp2_with fail
    go_ret2
    exact .inr ⟨hno.out, rfl, hB⟩
  by_cases hn1 : 1099511627776 < n
  · have hno : ∀ v, ¬ IsPix s v := fun v hv => by have := hval v hv; omega
    replace hno := Lib.hid hno
    clear hval
    go_wp2_with fail
    go_ret2
    exact .inr ⟨hno.out, rfl, hB⟩
  clear hval
  have hrv : rv sa.data.toList = n := by
    have h1 : sa.data.toList = dec1 n.natAbs := by rw [hdec.out.1]; simp only [decS]; exact decL_pos (by omega)
    rw [h1, rv_val _ (dec1_digits _), dec1_val]; omega
  have k1 : IntKind.i64.wrap (n * 64) = n * 64 := IntWalk.i64_in _ (by omega)
  have k2 : IntKind.u8.wrap ((b0.toNat : Int) - 48) = (b0.toNat : Int) - 48 := by simp only [IntKind.wrap, IntKind.signed, IntKind.bits]; simp; omega
  have k3 : IntKind.i64.wrap ((b0.toNat : Int) - 48) = (b0.toNat : Int) - 48 := IntWalk.i64_in _ (by omega)
  have k4 : IntKind.i64.wrap (((b0.toNat : Int) - 48) * 10) = ((b0.toNat : Int) - 48) * 10 := IntWalk.i64_in _ (by omega)
  have k5 : IntKind.i64.wrap (n * 64 + ((b0.toNat : Int) - 48) * 10) = n * 64 + ((b0.toNat : Int) - 48) * 10 := IntWalk.i64_in _ (by omega)
  have k6 : IntKind.u8.wrap ((b1.toNat : Int) - 48) = (b1.toNat : Int) - 48 := by simp only [IntKind.wrap, IntKind.signed, IntKind.bits]; simp; omega
  have k7 : IntKind.i64.wrap ((b1.toNat : Int) - 48) = (b1.toNat : Int) - 48 := IntWalk.i64_in _ (by omega)
  have k8 : IntKind.i64.wrap (n * 64 + ((b0.toNat : Int) - 48) * 10 + ((b1.toNat : Int) - 48)) = n * 64 + ((b0.toNat : Int) - 48) * 10 + ((b1.toNat : Int) - 48) := IntWalk.i64_in _ (by omega)
  have g0' : (0 : Int) < (sb.size : Int) := by omega
  have g1' : (1 : Int) < (sb.size : Int) := by omega
  replace hrv := Lib.hid hrv
  go_wp2_with fail
  go_quiet (fail)
  clear k1 k2 k3 k4 k5 k6 k7 k8
  replace hrv := hrv.out
  cases neg
  · go_wp2_with fail
    have hm : n * 64 + ((b0.toNat : Int) - 48) * 10 + ((b1.toNat : Int) - 48) = pixOf sa.data.toList sb.data.toList false := by
      have e0 := x0.out
      have e1 := x1.out
      simp only [pixOf, e0, e1, hrv, if_false, Bool.false_eq_true]
      omega
    have hmb : -100000000000000000 ≤ n * 64 + ((b0.toNat : Int) - 48) * 10 + ((b1.toNat : Int) - 48) ∧ n * 64 + ((b0.toNat : Int) - 48) * 10 + ((b1.toNat : Int) - 48) ≤ 100000000000000000 := by omega
    generalize n * 64 + ((b0.toNat : Int) - 48) * 10 + ((b1.toNat : Int) - 48) = m at *
    have hcomp : ∀ v, IsPix s v → v = m := fun v hv => by rw [hm]; exact (hall.out v hv).1
    have hB : Below w.heap.size w (w2.drewN nq) := below_drewN hB _
    replace hcomp := Lib.hid hcomp
    clear hm hrv
    by_cases hin : m < -1099511627776 ∨ 1099511627776 < m
    · have hno : ∀ v, ¬ IsPix s v := fun v hv => by
        have := hcomp.out v hv
        subst this
        have := hv.2
        omega
      replace hno := Lib.hid hno
      refine (implPix_out m _ hin).mono ?_
      rintro e w3 ⟨rfl, rfl⟩
      clear hin
      cases hse : s.toList.isEmpty
      · go_wp2_with fail
        go_ret2
        exact .inr ⟨hno.out, rfl, hB⟩
      · exfalso
        exact hse0.out hse
    · refine (implPix_in m _ (by omega) (by omega)).mono ?_
      rintro e w3 ⟨rfl, hb4⟩
      have hrange : -1099511627776 ≤ m ∧ m ≤ 1099511627776 := by omega
      clear hin
      replace hrange := Lib.hid hrange
      cases heq : ((pixS m).toList == s.toList)
      · have hno : ∀ v, ¬ IsPix s v := fun v hv => by
          have := hcomp.out v hv
          subst this
          exact bytes_ne heq hv.1.symm
        replace hno := Lib.hid hno
        go_wp2_with fail
        go_ret2
        exact .inr ⟨hno.out, rfl, hB.trans (hb4.mono hB.size)⟩
      · have hyes : IsPix s m := ⟨(bytes_eq heq).symm, hrange.out⟩
        replace hyes := Lib.hid hyes
        go_wp2_with fail
        go_ret2
        exact .inl ⟨m, hyes.out, rfl, hB.trans (hb4.mono hB.size)⟩
  · go_wp2_with fail
    have hm : -(n * 64 + ((b0.toNat : Int) - 48) * 10 + ((b1.toNat : Int) - 48)) = pixOf sa.data.toList sb.data.toList true := by
      have e0 := x0.out
      have e1 := x1.out
      simp only [pixOf, e0, e1, hrv, if_true]
      omega
    have hmb : -100000000000000000 ≤ -(n * 64 + ((b0.toNat : Int) - 48) * 10 + ((b1.toNat : Int) - 48)) ∧ -(n * 64 + ((b0.toNat : Int) - 48) * 10 + ((b1.toNat : Int) - 48)) ≤ 100000000000000000 := by omega
    generalize -(n * 64 + ((b0.toNat : Int) - 48) * 10 + ((b1.toNat : Int) - 48)) = m at *
    have hcomp : ∀ v, IsPix s v → v = m := fun v hv => by rw [hm]; exact (hall.out v hv).1
    have hB : Below w.heap.size w (w2.drewN nq) := below_drewN hB _
    replace hcomp := Lib.hid hcomp
    clear hm hrv
    by_cases hin : m < -1099511627776 ∨ 1099511627776 < m
    · have hno : ∀ v, ¬ IsPix s v := fun v hv => by
        have := hcomp.out v hv
        subst this
        have := hv.2
        omega
      replace hno := Lib.hid hno
      refine (implPix_out m _ hin).mono ?_
      rintro e w3 ⟨rfl, rfl⟩
      clear hin
      cases hse : s.toList.isEmpty
      · go_wp2_with fail
        go_ret2
        exact .inr ⟨hno.out, rfl, hB⟩
      · exfalso
        exact hse0.out hse
    · refine (implPix_in m _ (by omega) (by omega)).mono ?_
      rintro e w3 ⟨rfl, hb4⟩
      have hrange : -1099511627776 ≤ m ∧ m ≤ 1099511627776 := by omega
      clear hin
      replace hrange := Lib.hid hrange
      cases heq : ((pixS m).toList == s.toList)
      · have hno : ∀ v, ¬ IsPix s v := fun v hv => by
          have := hcomp.out v hv
          subst this
          exact bytes_ne heq hv.1.symm
        replace hno := Lib.hid hno
        go_wp2_with fail
        go_ret2
        exact .inr ⟨hno.out, rfl, hB.trans (hb4.mono hB.size)⟩
      · have hyes : IsPix s m := ⟨(bytes_eq heq).symm, hrange.out⟩
        replace hyes := Lib.hid hyes
        go_wp2_with fail
        go_ret2
        exact .inl ⟨m, hyes.out, rfl, hB.trans (hb4.mono hB.size)⟩
end Go.Proofs.Ytgngcllodofimaa
