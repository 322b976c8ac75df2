/- The number that digits say: plain facts. No program in sight. Conditions: none. -/
import Derived.Test.YtpmpbfkpiocleaaDoorAs27
import Derived.Test.YtpmpbfkpiocleaaDoorAs33
import Derived.Test.YtpmpbfkpiocleaaDoorAs32
import Derived.Test.YtpmpbfkpiocleaaDoorAs35
namespace Go.Proofs.YtpmpbfkpiocleaaDoor
open Go.RowKit
set_option linter.unusedVariables false
set_option maxRecDepth 100000

def isDig (c : UInt8) : Bool := decide (48 ≤ c.toNat) && decide (c.toNat ≤ 57)
/-- the number of digits, from a on -/
def valF (a : Nat) (l : List UInt8) : Nat := l.foldl (fun a c => 10 * a + (c.toNat - 48)) a
def val (l : List UInt8) : Nat := valF 0 l
theorem val_snoc (l : List UInt8) (c : UInt8) : val (l ++ [c]) = 10 * val l + (c.toNat - 48) := by simp [val, valF, List.foldl_append]
theorem valF_lt : ∀ (l : List UInt8) (a : Nat), l.all isDig = true → valF a l < (a + 1) * 10 ^ l.length := by
  intro l
  induction l with
  | nil => intro a _; simp [valF]
  | cons c l ih =>
    intro a h
    rw [List.all_cons, Bool.and_eq_true] at h
    have h2 : c.toNat ≤ 57 := by have := h.1; simp [isDig] at this; omega
    have h1 := ih (10 * a + (c.toNat - 48)) h.2
    have h3 : (10 * a + (c.toNat - 48) + 1) * 10 ^ l.length ≤ (10 * a + 10) * 10 ^ l.length := Nat.mul_le_mul_right _ (by omega)
    have h4 : (a + 1) * 10 ^ (l.length + 1) = (10 * a + 10) * 10 ^ l.length := by rw [Nat.pow_succ]; grind
    show valF (10 * a + (c.toNat - 48)) l < (a + 1) * 10 ^ (l.length + 1)
    omega
theorem val_lt (l : List UInt8) (h : l.all isDig = true) : val l < 10 ^ l.length := by
  have := valF_lt l 0 h
  simpa [val] using this
theorem digs_digits : ∀ (f n : Nat), n ≤ f → (digs n).all isDig = true := by
  intro f
  induction f with
  | zero => intro n h; obtain rfl : n = 0 := by omega
            rfl
  | succ f ih =>
    intro n h
    by_cases h0 : n = 0
    · subst h0; rfl
    · rw [digs_step h0, List.all_append, ih (n / 10) (by omega)]
      have : (UInt8.ofNat (48 + n % 10)).toNat = 48 + n % 10 := by rw [UInt8.toNat_ofNat']; omega
      simp only [List.all_cons, List.all_nil, isDig, this, Bool.and_true, Bool.true_and, Bool.and_eq_true, decide_eq_true_eq]
      omega
theorem digs_val : ∀ (f n : Nat), n ≤ f → val (digs n) = n := by
  intro f
  induction f with
  | zero => intro n h; obtain rfl : n = 0 := by omega
            rfl
  | succ f ih =>
    intro n h
    by_cases h0 : n = 0
    · subst h0; rfl
    · rw [digs_step h0, val_snoc, ih (n / 10) (by omega)]
      have : (UInt8.ofNat (48 + n % 10)).toNat = 48 + n % 10 := by rw [UInt8.toNat_ofNat']; omega
      rw [this]; omega
theorem dec1_digits (n : Nat) : (dec1 n).all isDig = true := by
  unfold dec1; split
  · rfl
  · exact digs_digits n n (Nat.le_refl _)
theorem dec1_val (n : Nat) : val (dec1 n) = n := by
  unfold dec1; split
  · rename_i h; subst h; rfl
  · exact digs_val n n (Nat.le_refl _)
theorem dec1_ne (n : Nat) : dec1 n ≠ [] := by
  unfold dec1; split
  · simp
  · exact digs_ne ‹_›
theorem dec1_len18 {n : Nat} (h : n < 10 ^ 18) : (dec1 n).length ≤ 18 := by
  unfold dec1; split
  · simp
  · exact digs_len 18 n h
theorem dec1_head (n : Nat) : (dec1 n).head? ≠ some 45 := by
  have h := dec1_digits n
  cases hd : dec1 n with
  | nil => simp
  | cons c l =>
    rw [hd] at h
    simp [isDig] at h
    intro e
    simp at e
    subst e
    have := h.1.1
    simp at this

/-- s is the decimal form of n, of 18 digits at most -/
def IsDec (s : ByteArray) (n : Int) : Prop := s = decS n ∧ n.natAbs < 10 ^ 18
theorem decS_inj_list {a b : Int} (h : decS a = decS b) : decL a = decL b := by
  unfold decS at h
  injection h with h
  simpa using h
theorem decL_neg {n : Int} (h : n < 0) : decL n = 45 :: dec1 n.natAbs := by simp [decL, h]
theorem decL_pos {n : Int} (h : 0 ≤ n) : decL n = dec1 n.natAbs := by unfold decL; rw [if_neg (by omega)]; rfl
theorem IsDec.unique {s : ByteArray} {a b : Int} (ha : IsDec s a) (hb : IsDec s b) : a = b := by
  have h := decS_inj_list (ha.1.symm.trans hb.1)
  rcases Int.lt_or_le a 0 with h1 | h1 <;> rcases Int.lt_or_le b 0 with h2 | h2
  · rw [decL_neg h1, decL_neg h2] at h
    injection h with _ h
    have := congrArg val h
    rw [dec1_val, dec1_val] at this
    omega
  · rw [decL_neg h1, decL_pos h2] at h
    exact absurd (by rw [← h]; rfl) (dec1_head b.natAbs)
  · rw [decL_pos h1, decL_neg h2] at h
    exact absurd (by rw [h]; rfl) (dec1_head a.natAbs)
  · rw [decL_pos h1, decL_pos h2] at h
    have := congrArg val h
    rw [dec1_val, dec1_val] at this
    omega
end Go.Proofs.YtpmpbfkpiocleaaDoor

/- The walks of the functions that read a decimal number. Conditions: as each states. -/
namespace Go.Proofs.YtpmpbfkpiocleaaDoor
open Go.RowKit
set_option linter.unusedVariables false
set_option maxRecDepth 100000

theorem extract_list (s : ByteArray) (a b : Nat) : (s.extract a b).data.toList = (s.data.toList.take b).drop a := by
  simp [ByteArray.data_extract, List.drop_take]
theorem minus_yes {s : ByteArray} (h : ((s.extract 0 1).toList == [45]) = true) : s.data.toList = 45 :: (s.extract 1 s.size).data.toList := by
  have h := eq_of_beq h
  rw [ByteArray.toList_eq, extract_list] at h
  rw [extract_list]
  cases hs : s.data.toList with
  | nil => rw [hs] at h; simp at h
  | cons c l =>
    rw [hs] at h
    simp at h
    subst h
    have : s.size = l.length + 1 := by have := congrArg List.length hs; simpa using this
    simp [this]
theorem minus_no {s : ByteArray} (h : ((s.extract 0 1).toList == [45]) = false) : ∀ l, s.data.toList ≠ 45 :: l := by
  intro l hs
  rw [ByteArray.toList_eq, extract_list, hs] at h
  simp at h

/-- a minus sign is cut off: what is left, and whether there was one -/
theorem cutMinus_any (s : ByteArray) (w : World) (hs : s.size ≤ 1048576) :
    Calls Tryd.prog 45 #[.string s, .string ⟨#[45]⟩] w fun e w' =>
      (∃ r : ByteArray, e = .returned (.tuple #[.string r, .bool true]) ∧ s.data.toList = 45 :: r.data.toList ∧ w = w') ∨ (e = .returned (.tuple #[.string s, .bool false]) ∧ (∀ l, s.data.toList ≠ 45 :: l) ∧ w = w') := by
  cases hm : ((s.extract 0 1).toList == [45])
  · have h0 := minus_no hm
    replace h0 := Lib.hid h0
    by_cases h1 : 1 ≤ s.size
    · go_enter Tryd.func45, Tryd.ntmps45
      go_wp2
      go_ret2
      exact .inr ⟨rfl, h0.out, rfl⟩
    · go_enter Tryd.func45, Tryd.ntmps45
      go_wp2
      go_ret2
      exact .inr ⟨rfl, h0.out, rfl⟩
  · have h0 := minus_yes hm
    have h1 : 1 ≤ s.size := by have := congrArg List.length h0; simp at this; omega
    replace h0 := Lib.hid h0
    go_enter Tryd.func45, Tryd.ntmps45
    go_wp2
    go_ret2
    exact .inl ⟨_, rfl, h0.out, rfl⟩


theorem isDigit_any (c : UInt8) (w : World) : Calls Tryd.prog 46 #[.int .u8 c.toNat] w fun e w' => e = .returned (.bool (isDig c)) ∧ w = w' := by
  by_cases h : (48 : Int) ≤ (c.toNat : Int) <;> by_cases h2 : (c.toNat : Int) ≤ 57
  all_goals try (exfalso; omega)
  all_goals
    go_enter Tryd.func46, Tryd.ntmps46
    go_wp2
    go_ret
    exact ⟨ret_bool (by first | (simp [isDig]; omega) | (simp only [isDig]; rw [Bool.eq_iff_iff]; simp; omega)), rfl⟩

/-- the first k bytes of r are digits, of value v -/
def ReadTo (r : ByteArray) (k v : Nat) : Prop := (r.data.toList.take k).all isDig = true ∧ v = val (r.data.toList.take k)
theorem ReadTo.start (r : ByteArray) : ReadTo r 0 0 := ⟨by simp, by simp [val, valF]⟩
theorem take_snocB (r : ByteArray) (k : Nat) (h : k < r.size) : r.data.toList.take (k + 1) = r.data.toList.take k ++ [r[k]] := by
  rw [List.take_succ_eq_append_getElem (by simpa using h)]; rfl
theorem ReadTo.step {r : ByteArray} {k v : Nat} (h : ReadTo r k v) (hk : k < r.size) (hd : isDig r[k] = true) : ReadTo r (k + 1) (10 * v + (r[k].toNat - 48)) := by
  obtain ⟨h1, h2⟩ := h
  refine ⟨?_, ?_⟩
  · rw [take_snocB r k hk, List.all_append, h1]; simp [hd]
  · rw [take_snocB r k hk, val_snoc, ← h2]
theorem ReadTo.lt {r : ByteArray} {k v : Nat} (h : ReadTo r k v) (hk : k ≤ r.size) : v < 10 ^ k := by
  obtain ⟨h1, h2⟩ := h
  have := val_lt _ h1
  rw [List.length_take, Nat.min_eq_left (by simpa using hk)] at this
  omega
theorem ReadTo.all {r : ByteArray} {v : Nat} (h : ReadTo r r.size v) : r.data.toList.all isDig = true ∧ v = val r.data.toList := by
  obtain ⟨h1, h2⟩ := h
  rw [List.take_of_length_le (by simp)] at h1 h2
  exact ⟨h1, h2⟩

/-- what reading a decimal number comes to -/
def RDPost (s : ByteArray) (w : World) (e : Ending) (w' : World) : Prop :=
  (∃ n, IsDec s n ∧ e = .returned (.tuple #[.int .i64 n, .bool true]) ∧ Below w.heap.size w w') ∨ ((∀ n, ¬ IsDec s n) ∧ e = .returned (.tuple #[.int .i64 0, .bool false]) ∧ Below w.heap.size w w')

/-- the digits behind the sign -/
def Body (s r : ByteArray) (neg : Bool) : Prop := (neg = true ∧ s.data.toList = 45 :: r.data.toList) ∨ (neg = false ∧ s = r ∧ ∀ l, s.data.toList ≠ 45 :: l)
theorem Body.dec {s r : ByteArray} {neg : Bool} (h : Body s r neg) {n : Int} (hn : IsDec s n) : r.data.toList = dec1 n.natAbs ∧ (n = if neg then -((val r.data.toList : Nat) : Int) else ((val r.data.toList : Nat) : Int)) := by
  have hs : s.data.toList = decL n := by rw [hn.1]; simp [decS]
  rcases h with ⟨rfl, h⟩ | ⟨rfl, rfl, h⟩
  · rcases Int.lt_or_le n 0 with h0 | h0
    · rw [decL_neg h0, h] at hs
      injection hs with _ hs
      refine ⟨hs, ?_⟩
      rw [hs, dec1_val]; simp; omega
    · rw [decL_pos h0, h] at hs
      exact absurd (by rw [← hs]; rfl) (dec1_head n.natAbs)
  · rcases Int.lt_or_le n 0 with h0 | h0
    · exact absurd (by rw [hs, decL_neg h0]) (h (dec1 n.natAbs))
    · rw [decL_pos h0] at hs
      refine ⟨hs, ?_⟩
      rw [hs, dec1_val]; simp; omega

set_option maxRecDepth 100000 in
set_option maxHeartbeats 1000000 in
theorem ReadDecimal_any (s : ByteArray) (w : World) (hs : s.size ≤ 1048576) :
    Calls Tryd.prog 38 #[.string s] w fun e w' => RDPost s w e w' := by
  go_enter Tryd.func38, Tryd.ntmps38
  go_wp2_with fail
  refine (cutMinus_any s _ hs).mono ?_
  intro e w0 hcut
  obtain ⟨r, neg, rfl, hbody, rfl⟩ : ∃ r neg, e = .returned (.tuple #[.string r, .bool neg]) ∧ Body s r neg ∧ w = w0 := by
    rcases hcut with ⟨r, rfl, h, rfl⟩ | ⟨rfl, h, rfl⟩
    · exact ⟨r, true, rfl, .inl ⟨rfl, h⟩, rfl⟩
    · exact ⟨s, false, rfl, .inr ⟨rfl, rfl, h⟩, rfl⟩
  clear hcut
  replace hbody := Lib.hid hbody
  by_cases hl : r.size < 1 ∨ 18 < r.size
  · have hno : ∀ n, ¬ IsDec s n := fun n hn => by
      have h1 := (hbody.out.dec hn).1
      have h2 := congrArg List.length h1
      have h3 := dec1_len18 hn.2
      have h4 := List.length_pos_iff.2 (dec1_ne n.natAbs)
      simp at h2
      omega
    replace hno := Lib.hid hno
    rcases hl with hl | hl
    · go_wp2_with fail
      go_ret2
      exact .inr ⟨hno.out, rfl, Below.refl _ _⟩
    · by_cases hl' : r.size < 1
      · omega
      · go_wp2_with fail
        go_ret2
        exact .inr ⟨hno.out, rfl, Below.refl _ _⟩
  · have hl1 : 1 ≤ r.size := by omega
    have hl2 : r.size ≤ 18 := by omega
    clear hl
    go_wp2_with fail
    go_loop [6, 7] (fun nv i => ∃ k v : Nat, i = .int .i64 k ∧ nv = .int .i64 v ∧ k ≤ r.size ∧ ReadTo r k v) (fun nv i => r.size - (intOf i).toNat)
    case atStart => exact ⟨0, 0, rfl, rfl, Nat.zero_le _, ReadTo.start r⟩
    case round =>
      obtain ⟨k, v, rfl, rfl, hk, hrd⟩ := hrel
      have hv := hrd.lt hk
      by_cases hlt : k < r.size
      · have hv17 : v < 100000000000000000 := by
          have : (10 : Nat) ^ k ≤ 10 ^ 17 := Nat.pow_le_pow_right (by omega) (by omega)
          omega
        clear hv
        obtain ⟨c, hc⟩ : ∃ c, r[k] = c := ⟨_, rfl⟩
        have hc256 := c.toNat_lt
        have hstep := Lib.hid (fun h => hrd.step hlt h)
        replace hrd := Lib.hid hrd
        by_cases hd : isDig c = true
        · have hd2 : 48 ≤ c.toNat ∧ c.toNat ≤ 57 := by simpa [isDig] using hd
          go_wp2_with (go_at_call 46; refine (isDigit_any _ _).mono ?_; rintro e w' ⟨rfl, rfl⟩)
          go_round
          case rel => exact ⟨k + 1, 10 * v + (c.toNat - 48), by go_num, by congr 1; omega, by omega, by have := hstep.out (by rw [hc]; exact hd); rw [hc] at this; exact this⟩
          case measure => simp [intOf]; omega
        · have hd' : isDig c = false := by simpa using hd
          have hno : ∀ n, ¬ IsDec s n := fun n hn => by
            have h1 := (hbody.out.dec hn).1
            have h2 := dec1_digits n.natAbs
            rw [← h1, List.all_eq_true] at h2
            have h3 : r[k] ∈ r.data.toList := by
              have e : r[k] = r.data.toList[k]'(by simpa using hlt) := rfl
              rw [e]; exact List.getElem_mem _
            have := h2 _ h3
            rw [hc] at this
            exact absurd this (by rw [hd']; simp)
          replace hno := Lib.hid hno
          clear hd
          go_wp2_with (go_at_call 46; refine (isDigit_any _ _).mono ?_; rintro e w' ⟨rfl, rfl⟩)
          go_ret2
          exact .inr ⟨hno.out, rfl, Below.refl _ _⟩
      · have hkr : k = r.size := by omega
        have hv18 : v < 1000000000000000000 := by
          have : (10 : Nat) ^ k ≤ 10 ^ 18 := Nat.pow_le_pow_right (by omega) (by omega)
          omega
        have hfin : v = val r.data.toList := by subst hkr; exact hrd.all.2
        clear hv
        replace hfin := Lib.hid hfin
        replace hkr := Lib.hid hkr
        replace hrd := Lib.hid hrd
        obtain ⟨m, hm⟩ : ∃ m : Int, m = if neg then -(v : Int) else (v : Int) := ⟨_, rfl⟩
        have hmb : -1000000000000000000 < m ∧ m < 1000000000000000000 := by rw [hm]; cases neg <;> simp <;> omega
        have hsound : decS m = s → IsDec s m := fun h => ⟨h.symm, by have := hmb; omega⟩
        have hcomp : ∀ n, IsDec s n → n = m := fun n hn => by rw [(hbody.out.dec hn).2, hm, ← hfin.out]
        have hmbd := hmb
        replace hsound := Lib.hid hsound
        replace hcomp := Lib.hid hcomp
        replace hmb := Lib.hid hmb
        obtain ⟨hm1, hm2⟩ := hmbd
        replace hm := Lib.hid hm
        have hmv : (neg = true ∧ m = -(v : Int)) ∨ (neg = false ∧ m = (v : Int)) := by rw [hm.out]; cases neg <;> simp
        have hdec := fun W => implDec_any m W (by omega) (by omega)
        replace hdec := Lib.hid hdec
        rcases hmv with ⟨rfl, rfl⟩ | ⟨rfl, rfl⟩
        · go_wp2_with fail
          refine (hdec.out _).mono ?_
          rintro e w1 ⟨rfl, hb1⟩
          by_cases heq : ((decS (-(v : Int))).toList == s.toList) = true
          · have h1 := bytes_eq heq
            replace h1 := Lib.hid h1
            go_wp2_with fail
            go_ret2
            exact .inl ⟨_, hsound.out h1.out, rfl, hb1⟩
          · have heq' : ((decS (-(v : Int))).toList == s.toList) = false := by simpa using heq
            have h1 := bytes_ne heq'
            replace h1 := Lib.hid h1
            clear heq
            go_wp2_with fail
            go_ret2
            exact .inr ⟨fun n hn => h1.out (by have := hcomp.out n hn; subst this; exact hn.1.symm), rfl, hb1⟩
        · go_wp2_with fail
          refine (hdec.out _).mono ?_
          rintro e w1 ⟨rfl, hb1⟩
          generalize hds : decS (v : Int) = ds at *
          replace hds := Lib.hid hds
          by_cases heq : (ds.toList == s.toList) = true
          · have h1 := bytes_eq heq
            replace h1 := Lib.hid h1
            go_wp2_with fail
            go_ret2
            exact .inl ⟨_, hsound.out h1.out, rfl, hb1⟩
          · have heq' : (ds.toList == s.toList) = false := by simpa using heq
            have h1 := bytes_ne heq'
            replace h1 := Lib.hid h1
            clear heq
            go_wp2_with fail
            go_ret2
            exact .inr ⟨fun n hn => h1.out (by have := hcomp.out n hn; subst this; rw [← hds.out]; exact hn.1.symm), rfl, hb1⟩
end Go.Proofs.YtpmpbfkpiocleaaDoor

/- What a text of instructions comes to: plain facts. Conditions: as each states. -/
namespace Go.Proofs.YtpmpbfkpiocleaaDoor
open Go.RowKit
set_option linter.unusedVariables false
set_option maxRecDepth 100000

/-- the line s is the instruction with code c and operand v -/
def LineIs (s : List UInt8) (c v : Int) : Prop := ∃ word : List UInt8, FirstAt htNames (bytesOf word) c ∧ ((opBytes c = 0 ∧ splitF 32 s = [word] ∧ v = 0) ∨ (¬ opBytes c = 0 ∧ ∃ num, splitF 32 s = [word, num] ∧ IsDec (bytesOf num) v)) ∧ validHint c v = true
theorem LineIs.unique {s : List UInt8} {c v c' v' : Int} (h : LineIs s c v) (h' : LineIs s c' v') : c = c' ∧ v = v' := by
  obtain ⟨wd, hf, ho, _⟩ := h
  obtain ⟨wd', hf', ho', _⟩ := h'
  have hw : wd = wd' := by
    rcases ho with ⟨_, h1, _⟩ | ⟨_, n, h1, _⟩ <;> rcases ho' with ⟨_, h2, _⟩ | ⟨_, n', h2, _⟩ <;> rw [h1] at h2 <;> injection h2
  subst hw
  have hc := hf.unique hf'
  subst hc
  refine ⟨rfl, ?_⟩
  rcases ho with ⟨g1, h1, rfl⟩ | ⟨g1, n, h1, d1⟩ <;> rcases ho' with ⟨g2, h2, rfl⟩ | ⟨g2, n', h2, d2⟩
  · rfl
  · exact absurd g1 g2
  · exact absurd g2 g1
  · rw [h1] at h2
    injection h2 with _ h2
    injection h2 with h2 _
    subst h2
    exact d1.unique d2
/-- what a line comes to -/
def LineR (s : List UInt8) : Option (Int × Int) → Prop
  | none => ∀ c v, ¬ LineIs s c v
  | some p => LineIs s p.1 p.2
theorem LineR.unique {s : List UInt8} {a b : Option (Int × Int)} (h : LineR s a) (h' : LineR s b) : a = b := by
  cases a with
  | none =>
    cases b with
    | none => rfl
    | some q => exact absurd h' (h _ _)
  | some p =>
    cases b with
    | none => exact absurd h (h' _ _)
    | some q => obtain ⟨h1, h2⟩ := LineIs.unique h h'; exact congrArg some (Prod.ext h1 h2)
/-- what a list of lines comes to, up to the first that is none -/
def LinesR : List (List UInt8) → Option (List (Int × Int)) → Prop
  | [], o => o = some []
  | s :: r, o => ∃ a, LineR s a ∧ match a with
    | none => o = none
    | some p => ∃ t, LinesR r t ∧ o = t.map (p :: ·)
theorem LinesR.unique : ∀ {Ls : List (List UInt8)} {a b : Option (List (Int × Int))}, LinesR Ls a → LinesR Ls b → a = b := by
  intro Ls
  induction Ls with
  | nil => intro a b h h'; exact h.trans h'.symm
  | cons s r ih =>
    rintro a b ⟨x, h1, h2⟩ ⟨y, h3, h4⟩
    obtain rfl := h1.unique h3
    cases x with
    | none => exact h2.trans h4.symm
    | some p =>
      obtain ⟨t, h5, rfl⟩ := h2
      obtain ⟨u, h6, rfl⟩ := h4
      rw [ih h5 h6]
/-- the lines ahead of the k-th one are the instructions L -/
def LinesTo (Ls : List (List UInt8)) (k : Nat) (L : List (Int × Int)) : Prop := k ≤ Ls.length ∧ L.length = k ∧ ∀ t, LinesR (Ls.drop k) t → LinesR Ls (t.map (L ++ ·))
theorem LinesTo.start (Ls : List (List UInt8)) : LinesTo Ls 0 [] := ⟨Nat.zero_le _, rfl, fun t h => by cases t <;> simpa using h⟩
theorem LinesTo.step {Ls : List (List UInt8)} {k : Nat} {L : List (Int × Int)} (h : LinesTo Ls k L) {s : List UInt8} (hs : Ls[k]? = some s) {p : Int × Int} (hp : LineR s (some p)) : LinesTo Ls (k + 1) (L ++ [p]) := by
  obtain ⟨h1, h2, h3⟩ := h
  have hk := (List.getElem?_eq_some_iff.1 hs).1
  refine ⟨hk, by simp [h2], fun t ht => ?_⟩
  have := h3 (t.map (p :: ·)) (by
    rw [List.drop_eq_getElem_cons hk]
    exact ⟨some p, by rw [(List.getElem?_eq_some_iff.1 hs).2]; exact hp, t, ht, rfl⟩)
  rw [Option.map_map] at this
  have e : (fun x => (L ++ [p]) ++ x) = (fun x => L ++ x) ∘ (fun x => p :: x) := by funext x; simp
  rw [e]; exact this
theorem LinesTo.bad {Ls : List (List UInt8)} {k : Nat} {L : List (Int × Int)} (h : LinesTo Ls k L) {s : List UInt8} (hs : Ls[k]? = some s) (hp : LineR s none) : LinesR Ls none := by
  obtain ⟨h1, h2, h3⟩ := h
  have hk := (List.getElem?_eq_some_iff.1 hs).1
  exact h3 none (by
    rw [List.drop_eq_getElem_cons hk]
    exact ⟨none, by rw [(List.getElem?_eq_some_iff.1 hs).2]; exact hp, rfl⟩)
theorem LinesTo.done {Ls : List (List UInt8)} {L : List (Int × Int)} (h : LinesTo Ls Ls.length L) : LinesR Ls (some L) := by
  obtain ⟨h1, h2, h3⟩ := h
  have := h3 (some []) (by rw [List.drop_length]; rfl)
  simpa using this
/-- what a text comes to: its lines, each ended by a newline -/
def TextR (s : List UInt8) (o : Option (List (Int × Int))) : Prop := (o = none ∧ (splitF 10 s).getLast? ≠ some []) ∨ ∃ Ls, splitF 10 s = Ls ++ [[]] ∧ LinesR Ls o
theorem TextR.unique {s : List UInt8} {a b : Option (List (Int × Int))} (h : TextR s a) (h' : TextR s b) : a = b := by
  rcases h with ⟨rfl, h⟩ | ⟨Ls, h, hl⟩ <;> rcases h' with ⟨rfl, h'⟩ | ⟨Ls', h', hl'⟩
  · rfl
  · exact absurd (by rw [h']; simp) h
  · exact absurd (by rw [h]; simp) h'
  · have e : Ls = Ls' := List.append_cancel_right (h.symm.trans h')
    subst e
    exact hl.unique hl'
/-- the program of a text, and its code -/
def asmR (o : Option (List (Int × Int))) : List UInt8 × Int := match o with
  | none => ([], 7)
  | some L => makeR L
theorem dec_no {s : ByteArray} {n : Int} (h : IsDec s n) {b : UInt8} (h1 : b ≠ 45) (h2 : b.toNat < 48 ∨ 57 < b.toNat) : ∀ c ∈ s.data.toList, c ≠ b := by
  intro c hc
  rw [h.1] at hc
  have hc' : c ∈ decL n := by simpa [decS] using hc
  unfold decL at hc'
  rcases List.mem_append.1 hc' with hc' | hc'
  · split at hc'
    · rw [List.mem_singleton] at hc'; subst hc'; exact fun e => h1 e.symm
    · simp at hc'
  · have := List.all_eq_true.1 (dec1_digits n.natAbs) c hc'
    intro e; subst e
    simp [isDig] at this
    omega
end Go.Proofs.YtpmpbfkpiocleaaDoor

