/- Whether a text is a name: both sides. Conditions: as each states. -/
import Derived.BigQuiet
import Derived.Outline
import Derived.Test.YtgdkabljgabjoaaGreatDoorRb01
import Derived.Test.YtgdkabljgabjoaaGreatDoorProg
namespace Go.Proofs.YtgdkabljgabjoaaGreatDoor
open Go.RowKit
set_option linter.unusedVariables false
set_option maxRecDepth 100000

def smB (c : UInt8) : Bool := decide (97 ≤ c.toNat) && decide (c.toNat ≤ 122)
def dgB (c : UInt8) : Bool := decide (48 ≤ c.toNat) && decide (c.toNat ≤ 57)
def restB (c : UInt8) : Bool := smB c || dgB c || decide (c.toNat = 46)
def headB (l : List UInt8) : Bool := match l with | [] => false | c :: _ => smB c
def nameB (s : ByteArray) : Bool := decide (1 ≤ s.size) && decide (s.size ≤ 12) && headB s.data.toList && s.data.toList.all restB
theorem smB_iff {c : UInt8} : smB c = true ↔ 97 ≤ c.toNat ∧ c.toNat ≤ 122 := by simp [smB]
theorem dgB_iff {c : UInt8} : dgB c = true ↔ 48 ≤ c.toNat ∧ c.toNat ≤ 57 := by simp [dgB]
theorem small_rest {c : UInt8} (h : smB c = true) : restB c = true := by simp [restB, h]
theorem headB_at {s : ByteArray} {c : UInt8} (h : 0 < s.size) (hc : s[0] = c) : headB s.data.toList = smB c := by
  have h1 : s.data.toList[0]'(by simpa using h) = c := hc
  cases hl : s.data.toList with
  | nil => have h2 : s.size = 0 := by have := congrArg List.length hl; simpa using this
           omega
  | cons d l => simp [hl] at h1; simp [headB, h1]
theorem rest_step {s : ByteArray} {k : Nat} (hk : k < s.size) {c : UInt8} (hc : s[k] = c) (h : (s.data.toList.take k).all restB = true) (hr : restB c = true) : (s.data.toList.take (k + 1)).all restB = true := by
  rw [List.take_succ_eq_append_getElem (by simpa using hk), List.all_append, h]
  have e : s.data.toList[k]'(by simpa using hk) = c := hc
  simp [e, hr]
theorem rest_no {s : ByteArray} {k : Nat} (hk : k < s.size) {c : UInt8} (hc : s[k] = c) (hr : restB c = false) : nameB s = false := by
  have e : s.data.toList[k]'(by simpa using hk) = c := hc
  have : s.data.toList.all restB = false := by
    rw [List.all_eq_false]
    exact ⟨c, by rw [← e]; exact List.getElem_mem _, by simp [hr]⟩
  simp [nameB, this]
theorem name_yes {s : ByteArray} (h1 : 1 ≤ s.size) (h2 : s.size ≤ 12) {c : UInt8} (hc : s[0] = c) (hs : smB c = true) (h : (s.data.toList.take s.size).all restB = true) : nameB s = true := by
  rw [List.take_of_length_le (by simp)] at h
  simp only [nameB, h1, h2, decide_true, Bool.true_and, headB_at (by omega) hc, hs, h]

theorem isSmallB_any (c : UInt8) (w : World) : Calls Tryz.prog 140 #[.int .u8 c.toNat] w fun e w' => e = .returned (.bool (smB c)) ∧ w = w' := by
  by_cases h : (97 : Int) ≤ (c.toNat : Int) <;> by_cases h2 : (c.toNat : Int) ≤ 122
  all_goals try (exfalso; omega)
  all_goals
    go_enter Tryz.func140, Tryz.ntmps140
    go_wp2
    go_ret
    exact ⟨ret_bool (by simp only [smB]; rw [Bool.eq_iff_iff]; simp; omega), rfl⟩
theorem isDigitB_any (c : UInt8) (w : World) : Calls Tryz.prog 94 #[.int .u8 c.toNat] w fun e w' => e = .returned (.bool (dgB c)) ∧ w = w' := by
  by_cases h : (48 : Int) ≤ (c.toNat : Int) <;> by_cases h2 : (c.toNat : Int) ≤ 57
  all_goals try (exfalso; omega)
  all_goals
    go_enter Tryz.func94, Tryz.ntmps94
    go_wp2
    go_ret
    exact ⟨ret_bool (by simp only [dgB]; rw [Bool.eq_iff_iff]; simp; omega), rfl⟩
theorem l01Small_any (c : UInt8) (w : World) : Calls Tryz.prog 147 #[.int .u8 c.toNat] w fun e w' => e = .returned (.bool (smB c)) ∧ w = w' := by
  by_cases h : (97 : Int) ≤ (c.toNat : Int) <;> by_cases h2 : (c.toNat : Int) ≤ 122
  all_goals try (exfalso; omega)
  all_goals
    go_enter Tryz.func147, Tryz.ntmps147
    go_wp2
    go_ret
    exact ⟨ret_bool (by simp only [smB]; rw [Bool.eq_iff_iff]; simp; omega), rfl⟩
theorem l01Digit_any (c : UInt8) (w : World) : Calls Tryz.prog 88 #[.int .u8 c.toNat] w fun e w' => e = .returned (.bool (dgB c)) ∧ w = w' := by
  by_cases h : (48 : Int) ≤ (c.toNat : Int) <;> by_cases h2 : (c.toNat : Int) ≤ 57
  all_goals try (exfalso; omega)
  all_goals
    go_enter Tryz.func88, Tryz.ntmps88
    go_wp2
    go_ret
    exact ⟨ret_bool (by simp only [dgB]; rw [Bool.eq_iff_iff]; simp; omega), rfl⟩

set_option maxHeartbeats 1000000 in
theorem implIsName_any (s : ByteArray) (v : Bool) (hv : v = nameB s) (w : World) (hs : s.size ≤ 9223372036854775807) :
    Calls Tryz.prog 108 #[.string s] w fun e w' => e = .returned (.bool v) ∧ w = w' := by
  replace hv := Lib.hid hv
  by_cases h1 : 1 ≤ s.size
  rotate_left
  · have hvf : v = false := by rw [hv.out]; simp [nameB, h1]
    subst hvf
    go_enter Tryz.func108, Tryz.ntmps108
    go_wp2_with fail
    go_ret
    exact ⟨rfl, rfl⟩
  by_cases h2 : s.size ≤ 12
  rotate_left
  · have hvf : v = false := by rw [hv.out]; simp [nameB, h2]
    subst hvf
    go_enter Tryz.func108, Tryz.ntmps108
    go_wp2_with fail
    go_ret
    exact ⟨rfl, rfl⟩
  obtain ⟨c0, hc0⟩ : ∃ c, s[0] = c := ⟨_, rfl⟩
  have hb0 := c0.toNat_lt
  have hH := headB_at (by omega) hc0
  cases t0 : smB c0
  · have hvf : v = false := by rw [hv.out]; simp [nameB, hH, t0]
    subst hvf
    clear hH
    go_enter Tryz.func108, Tryz.ntmps108
    go_wp2_with (go_at_call 140; refine (isSmallB_any _ _).mono ?_; rintro e w' ⟨rfl, rfl⟩)
    go_ret
    exact ⟨rfl, rfl⟩
  clear hH
  have hst := Lib.hid (rest_step (s := s) (k := 0) (by omega) hc0 (by simp) (small_rest t0))
  have hfin := Lib.hid (fun h => name_yes h1 h2 hc0 t0 h)
  go_enter Tryz.func108, Tryz.ntmps108
  go_wp2_with (go_at_call 140; refine (isSmallB_any _ _).mono ?_; rintro e w' ⟨rfl, rfl⟩)
  clear hc0 t0 hb0
  go_loop [3] (fun i => ∃ k : Nat, i = .int .i64 k ∧ 1 ≤ k ∧ k ≤ s.size ∧ (s.data.toList.take k).all restB = true) (fun i => s.size - (intOf i).toNat)
  case atStart => exact ⟨1, rfl, Nat.le_refl _, h1, hst.out⟩
  case round =>
    obtain ⟨k, rfl, hk1, hk, hall⟩ := hrel
    replace hall := Lib.hid hall
    by_cases hlt : k < s.size
    · obtain ⟨c, hc⟩ : ∃ c, s[k] = c := ⟨_, rfl⟩
      have hc256 := c.toNat_lt
      have hno := Lib.hid (rest_no hlt hc)
      have hstep := Lib.hid (fun h => rest_step hlt hc hall.out h)
      have hd : restB c = (smB c || dgB c || decide (c.toNat = 46)) := rfl
      replace hd := Lib.hid hd
      cases t1 : smB c
      · cases t2 : dgB c
        · by_cases t3 : c.toNat = 46
          · have hr : restB c = true := by rw [hd.out]; simp [t3]
            replace hr := Lib.hid hr
            have t4 : ((c.toNat : Int) == 46) = true := by simp; omega
            have t5 : ((c.toNat : Int) != 46) = false := by simp; omega
            replace t3 := Lib.hid t3
            go_wp2_with (first | (go_at_call 140; refine (isSmallB_any _ _).mono ?_; rintro e w' ⟨rfl, rfl⟩) | (go_at_call 94; refine (isDigitB_any _ _).mono ?_; rintro e w' ⟨rfl, rfl⟩))
            go_round
            case rel => exact ⟨k + 1, by go_num, by omega, by omega, hstep.out hr.out⟩
            case measure => simp [intOf]; omega
          · have hr : restB c = false := by rw [hd.out, t1, t2]; simp [t3]
            have hvf : v = false := by rw [hv.out, hno.out hr]
            subst hvf
            have t4 : ((c.toNat : Int) == 46) = false := by simp; omega
            have t5 : ((c.toNat : Int) != 46) = true := by simp; omega
            clear hr
            go_wp2_with (first | (go_at_call 140; refine (isSmallB_any _ _).mono ?_; rintro e w' ⟨rfl, rfl⟩) | (go_at_call 94; refine (isDigitB_any _ _).mono ?_; rintro e w' ⟨rfl, rfl⟩))
            go_ret
            exact ⟨rfl, rfl⟩
        · have hr : restB c = true := by rw [hd.out, t2]; simp
          replace hr := Lib.hid hr
          go_wp2_with (first | (go_at_call 140; refine (isSmallB_any _ _).mono ?_; rintro e w' ⟨rfl, rfl⟩) | (go_at_call 94; refine (isDigitB_any _ _).mono ?_; rintro e w' ⟨rfl, rfl⟩))
          go_round
          case rel => exact ⟨k + 1, by go_num, by omega, by omega, hstep.out hr.out⟩
          case measure => simp [intOf]; omega
      · have hr : restB c = true := by rw [hd.out, t1]; simp
        replace hr := Lib.hid hr
        go_wp2_with (first | (go_at_call 140; refine (isSmallB_any _ _).mono ?_; rintro e w' ⟨rfl, rfl⟩) | (go_at_call 94; refine (isDigitB_any _ _).mono ?_; rintro e w' ⟨rfl, rfl⟩))
        go_round
        case rel => exact ⟨k + 1, by go_num, by omega, by omega, hstep.out hr.out⟩
        case measure => simp [intOf]; omega
    · have hkn : k = s.size := by omega
      have hvt : v = true := by rw [hv.out]; exact hfin.out (by rw [← hkn]; exact hall.out)
      subst hvt
      replace hkn := Lib.hid hkn
      go_wp2_with fail
      go_ret
      exact ⟨rfl, rfl⟩

set_option maxHeartbeats 1000000 in
theorem specIsName_any (s : ByteArray) (v : Bool) (hv : v = nameB s) (w : World) (hs : s.size ≤ 9223372036854775807) :
    Calls Tryz.prog 116 #[.string s] w fun e w' => e = .returned (.bool v) ∧ w = w' := by
  replace hv := Lib.hid hv
  by_cases h1 : 1 ≤ s.size
  rotate_left
  · have hvf : v = false := by rw [hv.out]; simp [nameB, h1]
    subst hvf
    have e0 : s.toList = [] := by rw [ByteArray.toList_eq]; exact List.eq_nil_of_length_eq_zero (by simpa using (show s.size = 0 by omega))
    go_enter Tryz.func116, Tryz.ntmps116
    go_wp2_with fail
    go_ret
    exact ⟨rfl, rfl⟩
  have e0 : s.toList.isEmpty = false := by rw [ByteArray.toList_eq]; cases hl : s.data.toList with
    | nil =>
      have h2 : s.size = 0 := by have := congrArg List.length hl; simpa using this
      omega
    | cons a l => rfl
  by_cases h2 : s.size ≤ 12
  rotate_left
  · have hvf : v = false := by rw [hv.out]; simp [nameB, h2]
    subst hvf
    go_enter Tryz.func116, Tryz.ntmps116
    go_wp2_with fail
    go_ret
    exact ⟨rfl, rfl⟩
  obtain ⟨c0, hc0⟩ : ∃ c, s[0] = c := ⟨_, rfl⟩
  have hb0 := c0.toNat_lt
  have hH := headB_at (by omega) hc0
  cases t0 : smB c0
  · have hvf : v = false := by rw [hv.out]; simp [nameB, hH, t0]
    subst hvf
    clear hH
    go_enter Tryz.func116, Tryz.ntmps116
    go_wp2_with (go_at_call 147; refine (l01Small_any _ _).mono ?_; rintro e w' ⟨rfl, rfl⟩)
    go_ret
    exact ⟨rfl, rfl⟩
  clear hH
  have hfin := Lib.hid (fun h => name_yes h1 h2 hc0 t0 h)
  go_enter Tryz.func116, Tryz.ntmps116
  go_wp2_with (go_at_call 147; refine (l01Small_any _ _).mono ?_; rintro e w' ⟨rfl, rfl⟩)
  clear hc0 t0 hb0
  go_loop [3] (fun i => ∃ k : Nat, i = .int .i64 k ∧ k ≤ s.size ∧ (s.data.toList.take k).all restB = true) (fun i => s.size - (intOf i).toNat)
  case atStart => exact ⟨0, rfl, Nat.zero_le _, by simp⟩
  case round =>
    obtain ⟨k, rfl, hk, hall⟩ := hrel
    replace hall := Lib.hid hall
    by_cases hlt : k < s.size
    · obtain ⟨c, hc⟩ : ∃ c, s[k] = c := ⟨_, rfl⟩
      have hc256 := c.toNat_lt
      have hno := Lib.hid (rest_no hlt hc)
      have hstep := Lib.hid (fun h => rest_step hlt hc hall.out h)
      have hd : restB c = (smB c || dgB c || decide (c.toNat = 46)) := rfl
      replace hd := Lib.hid hd
      cases t1 : smB c
      · cases t2 : dgB c
        · by_cases t3 : c.toNat = 46
          · have hr : restB c = true := by rw [hd.out]; simp [t3]
            replace hr := Lib.hid hr
            have t4 : ((c.toNat : Int) == 46) = true := by simp; omega
            have t5 : ((c.toNat : Int) != 46) = false := by simp; omega
            replace t3 := Lib.hid t3
            go_wp2_with (first | (go_at_call 147; refine (l01Small_any _ _).mono ?_; rintro e w' ⟨rfl, rfl⟩) | (go_at_call 88; refine (l01Digit_any _ _).mono ?_; rintro e w' ⟨rfl, rfl⟩))
            go_round
            case rel => exact ⟨k + 1, by go_num, by omega, hstep.out hr.out⟩
            case measure => simp [intOf]; omega
          · have hr : restB c = false := by rw [hd.out, t1, t2]; simp [t3]
            have hvf : v = false := by rw [hv.out, hno.out hr]
            subst hvf
            have t4 : ((c.toNat : Int) == 46) = false := by simp; omega
            have t5 : ((c.toNat : Int) != 46) = true := by simp; omega
            clear hr
            go_wp2_with (first | (go_at_call 147; refine (l01Small_any _ _).mono ?_; rintro e w' ⟨rfl, rfl⟩) | (go_at_call 88; refine (l01Digit_any _ _).mono ?_; rintro e w' ⟨rfl, rfl⟩))
            go_ret
            exact ⟨rfl, rfl⟩
        · have hr : restB c = true := by rw [hd.out, t2]; simp
          replace hr := Lib.hid hr
          go_wp2_with (first | (go_at_call 147; refine (l01Small_any _ _).mono ?_; rintro e w' ⟨rfl, rfl⟩) | (go_at_call 88; refine (l01Digit_any _ _).mono ?_; rintro e w' ⟨rfl, rfl⟩))
          go_round
          case rel => exact ⟨k + 1, by go_num, by omega, hstep.out hr.out⟩
          case measure => simp [intOf]; omega
      · have hr : restB c = true := by rw [hd.out, t1]; simp
        replace hr := Lib.hid hr
        go_wp2_with (first | (go_at_call 147; refine (l01Small_any _ _).mono ?_; rintro e w' ⟨rfl, rfl⟩) | (go_at_call 88; refine (l01Digit_any _ _).mono ?_; rintro e w' ⟨rfl, rfl⟩))
        go_round
        case rel => exact ⟨k + 1, by go_num, by omega, hstep.out hr.out⟩
        case measure => simp [intOf]; omega
    · have hkn : k = s.size := by omega
      have hvt : v = true := by rw [hv.out]; exact hfin.out (by rw [← hkn]; exact hall.out)
      subst hvt
      replace hkn := Lib.hid hkn
      go_wp2_with fail
      go_ret
      exact ⟨rfl, rfl⟩
end Go.Proofs.YtgdkabljgabjoaaGreatDoor

/- Parts before what they are parts of: the order and the depths, in numbers alone. No program in sight. Conditions: as each states. -/
namespace Go.Proofs.YtgdkabljgabjoaaGreatDoor
set_option linter.unusedVariables false
set_option maxRecDepth 100000

def stepO (T : List (List Int)) (out : List Int) (i : Nat) : List Int := match T[i]? with
  | none => out
  | some ps => if (i : Int) ∈ out then out else if ∀ p ∈ ps, p ∈ out then out ++ [(i : Int)] else out
def passK (T : List (List Int)) (out : List Int) : Nat → List Int
  | 0 => out
  | k + 1 => stepO T (passK T out k) k
def orderF (T : List (List Int)) : Nat → List Int → List Int
  | 0, out => out
  | f + 1, out => if (passK T out T.length).length = out.length then out else orderF T f (passK T out T.length)
def order (T : List (List Int)) : List Int := orderF T (T.length + 1) []

structure Ord (T : List (List Int)) (out : List Int) : Prop where
  nodup : out.Nodup
  rng : ∀ x ∈ out, 0 ≤ x ∧ x.toNat < T.length
  ready : ∀ (t : Nat) (x : Int), out[t]? = some x → ∀ ps, T[x.toNat]? = some ps → ∀ p ∈ ps, p ∈ out.take t
theorem Ord.nil (T : List (List Int)) : Ord T [] := ⟨List.nodup_nil, fun x h => by simp at h, fun t x h => by simp at h⟩
theorem stepO_in {T : List (List Int)} {out : List Int} {i : Nat} (h : (i : Int) ∈ out) : stepO T out i = out := by
  unfold stepO; split <;> simp [h]
theorem stepO_wait {T : List (List Int)} {out : List Int} {i : Nat} {ps : List Int} (hi : T[i]? = some ps) (h : ¬ ∀ p ∈ ps, p ∈ out) : stepO T out i = out := by
  unfold stepO; rw [hi]; simp only; rw [if_neg h]; split <;> rfl
theorem stepO_add {T : List (List Int)} {out : List Int} {i : Nat} {ps : List Int} (hi : T[i]? = some ps) (h0 : (i : Int) ∉ out) (h : ∀ p ∈ ps, p ∈ out) : stepO T out i = out ++ [(i : Int)] := by
  unfold stepO; rw [hi]; simp only; rw [if_neg h0, if_pos h]
theorem stepO_cases (T : List (List Int)) (out : List Int) (i : Nat) : stepO T out i = out ∨ ∃ ps, T[i]? = some ps ∧ (i : Int) ∉ out ∧ (∀ p ∈ ps, p ∈ out) ∧ stepO T out i = out ++ [(i : Int)] := by
  cases hi : T[i]? with
  | none => left; unfold stepO; rw [hi]
  | some ps =>
    by_cases h0 : (i : Int) ∈ out
    · exact .inl (stepO_in h0)
    · by_cases h : ∀ p ∈ ps, p ∈ out
      · exact .inr ⟨ps, rfl, h0, h, stepO_add hi h0 h⟩
      · exact .inl (stepO_wait hi h)
theorem Ord.step {T : List (List Int)} {out : List Int} (h : Ord T out) (i : Nat) : Ord T (stepO T out i) := by
  rcases stepO_cases T out i with e | ⟨ps, hi, h0, hp, e⟩
  · rw [e]; exact h
  · rw [e]
    have hil := (List.getElem?_eq_some_iff.1 hi).1
    refine ⟨?_, ?_, ?_⟩
    · rw [List.nodup_append]
      refine ⟨h.nodup, by simp, fun a ha b hb => ?_⟩
      simp at hb; subst hb; rintro rfl; exact h0 ha
    · intro x hx
      rcases List.mem_append.1 hx with hx | hx
      · exact h.rng x hx
      · simp at hx; subst hx; exact ⟨by omega, by simpa using hil⟩
    · intro t x ht ps' hps p hpp
      rcases Nat.lt_or_ge t out.length with hlt | hge
      · rw [List.getElem?_append_left hlt] at ht
        rw [List.take_append_of_le_length (by omega)]
        exact h.ready t x ht ps' hps p hpp
      · rw [List.getElem?_append_right hge] at ht
        have h1 : t - out.length = 0 := by
          rcases Nat.eq_zero_or_pos (t - out.length) with h | h
          · exact h
          · rw [List.getElem?_eq_none (by simp; omega)] at ht; cases ht
        rw [h1] at ht
        simp at ht
        subst ht
        rw [Int.toNat_natCast, hi] at hps
        injection hps with hps
        subst hps
        have : t = out.length := by omega
        subst this
        rw [List.take_left]
        exact hp p hpp
theorem Ord.passK {T : List (List Int)} {out : List Int} (h : Ord T out) (k : Nat) : Ord T (passK T out k) := by
  induction k with
  | zero => exact h
  | succ k ih => exact ih.step k
theorem stepO_pre (T : List (List Int)) (out : List Int) (i : Nat) : ∃ s, stepO T out i = out ++ s := by
  rcases stepO_cases T out i with e | ⟨ps, hi, h0, hp, e⟩
  · exact ⟨[], by rw [e]; simp⟩
  · exact ⟨_, e⟩
theorem passK_pre (T : List (List Int)) (out : List Int) (k : Nat) : ∃ s, passK T out k = out ++ s := by
  induction k with
  | zero => exact ⟨[], by simp [passK]⟩
  | succ k ih =>
    obtain ⟨s, h⟩ := ih
    obtain ⟨s', h'⟩ := stepO_pre T (passK T out k) k
    exact ⟨s ++ s', by rw [passK, h', h, List.append_assoc]⟩
theorem passK_le (T : List (List Int)) (out : List Int) (k : Nat) : out.length ≤ (passK T out k).length := by
  obtain ⟨s, h⟩ := passK_pre T out k
  rw [h, List.length_append]; omega
theorem passK_eq {T : List (List Int)} {out : List Int} {k : Nat} (h : (passK T out k).length = out.length) : passK T out k = out := by
  obtain ⟨s, e⟩ := passK_pre T out k
  rw [e, List.length_append] at h
  have : s = [] := List.eq_nil_of_length_eq_zero (by omega)
  rw [e, this, List.append_nil]
theorem nodup_le {l : List Nat} {n : Nat} (hd : l.Nodup) (h : ∀ x ∈ l, x < n) : l.length ≤ n := by
  induction n generalizing l with
  | zero =>
    cases l with
    | nil => simp
    | cons a l => exact absurd (h a (by simp)) (by omega)
  | succ n ih =>
    have h1 : (l.erase n).length ≤ n := by
      refine ih (hd.erase n) fun x hx => ?_
      have hx' := (hd.mem_erase_iff).1 hx
      have := h x hx'.2
      omega
    by_cases hm : n ∈ l
    · rw [List.length_erase_of_mem hm] at h1; omega
    · rw [List.erase_of_not_mem hm] at h1; omega
theorem Ord.le {T : List (List Int)} {out : List Int} (h : Ord T out) : out.length ≤ T.length := by
  have h1 : (out.map Int.toNat).Nodup := by
    unfold List.Nodup
    rw [List.pairwise_map]
    refine List.Pairwise.imp_of_mem (fun {a b} ha hb hne => ?_) h.nodup
    have := h.rng a ha
    have := h.rng b hb
    omega
  have h2 := nodup_le h1 (n := T.length) fun x hx => by
    obtain ⟨a, ha, rfl⟩ := List.mem_map.1 hx
    exact (h.rng a ha).2
  simpa using h2
/-- what is still to come leads to the order -/
structure OrdTo (T : List (List Int)) (out : List Int) (f : Nat) : Prop where
  ord : Ord T out
  to : order T = orderF T f out
  fuel : T.length + 1 ≤ out.length + f
theorem OrdTo.start (T : List (List Int)) : OrdTo T [] (T.length + 1) := ⟨Ord.nil T, rfl, by simp⟩
theorem OrdTo.done {T : List (List Int)} {out : List Int} {f : Nat} (h : OrdTo T out f) (he : (passK T out T.length).length = out.length) : order T = out := by
  have := h.ord.le
  have := h.fuel
  obtain ⟨g, rfl⟩ : ∃ g, f = g + 1 := ⟨f - 1, by omega⟩
  rw [h.to, orderF, if_pos he]
theorem OrdTo.next {T : List (List Int)} {out : List Int} {f : Nat} (h : OrdTo T out f) (he : (passK T out T.length).length ≠ out.length) : ∃ g, f = g + 1 ∧ OrdTo T (passK T out T.length) g := by
  have := h.ord.le
  have := h.fuel
  have hp := passK_le T out T.length
  obtain ⟨g, rfl⟩ : ∃ g, f = g + 1 := ⟨f - 1, by omega⟩
  exact ⟨g, rfl, h.ord.passK _, by rw [h.to, orderF, if_neg he], by omega⟩
theorem OrdTo.full {T : List (List Int)} {out : List Int} {f : Nat} (h : OrdTo T out f) (hl : out.length = T.length) : order T = out := by
  refine h.done ?_
  have := (h.ord.passK T.length).le
  have := passK_le T out T.length
  omega
theorem orderF_ord {T : List (List Int)} : ∀ (f : Nat) {out : List Int}, Ord T out → Ord T (orderF T f out) := by
  intro f
  induction f with
  | zero => intro out h; exact h
  | succ f ih =>
    intro out h
    unfold orderF
    split
    · exact h
    · exact ih (h.passK _)
theorem order_ord (T : List (List Int)) : Ord T (order T) := orderF_ord _ (Ord.nil T)
/-- each number stands in a full list -/
theorem Ord.mem_of_full {T : List (List Int)} {out : List Int} (h : Ord T out) (hl : out.length = T.length) {i : Nat} (hi : i < T.length) : (i : Int) ∈ out := by
  by_cases hm : (i : Int) ∈ out
  · exact hm
  · have h1 : ((i : Int) :: out).map Int.toNat |>.Nodup := by
      unfold List.Nodup
      rw [List.pairwise_map]
      refine List.Pairwise.imp_of_mem (R := fun a b => a ≠ b) (fun {a b} ha hb hne => ?_) (List.nodup_cons.2 ⟨hm, h.nodup⟩)
      have ha' : 0 ≤ a := by
        rcases List.mem_cons.1 ha with rfl | ha
        · omega
        · exact (h.rng a ha).1
      have hb' : 0 ≤ b := by
        rcases List.mem_cons.1 hb with rfl | hb
        · omega
        · exact (h.rng b hb).1
      omega
    have h2 := nodup_le h1 (n := T.length) fun x hx => by
      obtain ⟨a, ha, rfl⟩ := List.mem_map.1 hx
      rcases List.mem_cons.1 ha with rfl | ha
      · simpa using hi
      · exact (h.rng a ha).2
    simp at h2
    omega
theorem Ord.parts_lt {T : List (List Int)} {out : List Int} (h : Ord T out) (hl : out.length = T.length) {i : Nat} {ps : List Int} (hi : T[i]? = some ps) {p : Int} (hp : p ∈ ps) : 0 ≤ p ∧ p.toNat < T.length := by
  have hil := (List.getElem?_eq_some_iff.1 hi).1
  obtain ⟨t, ht⟩ := List.getElem?_of_mem (h.mem_of_full hl hil)
  exact h.rng p (List.mem_of_mem_take (h.ready t _ ht ps (by rw [Int.toNat_natCast]; exact hi) p hp))

/-! ### depths -/
def dOf (D : Int → Int) (ps : List Int) : Int := ps.foldl (fun m p => max m (D p + 1)) 0
def depF (T : List (List Int)) (out : List Int) : Int → Int := out.foldl (fun D x => fun j => if j = x then dOf D ((T[x.toNat]?).getD []) else D j) (fun _ => -1)
theorem depF_nil (T : List (List Int)) (j : Int) : depF T [] j = -1 := rfl
theorem depF_snoc (T : List (List Int)) (out : List Int) (x j : Int) : depF T (out ++ [x]) j = if j = x then dOf (depF T out) ((T[x.toNat]?).getD []) else depF T out j := by
  unfold depF; rw [List.foldl_append]; rfl
theorem dOf_snoc (D : Int → Int) (ps : List Int) (p : Int) : dOf D (ps ++ [p]) = max (dOf D ps) (D p + 1) := by
  unfold dOf; rw [List.foldl_append]; rfl
theorem list_snoc_ind {α : Type} {motive : List α → Prop} (l : List α) (h0 : motive []) (h1 : ∀ l a, motive l → motive (l ++ [a])) : motive l := by
  have : ∀ n (l : List α), l.length = n → motive l := by
    intro n
    induction n with
    | zero => intro l hl; rw [List.eq_nil_of_length_eq_zero hl]; exact h0
    | succ n ih =>
      intro l hl
      have hne : l ≠ [] := by rintro rfl; simp at hl
      rw [← List.dropLast_concat_getLast hne]
      exact h1 _ _ (ih _ (by rw [List.length_dropLast]; omega))
  exact this _ l rfl
theorem dOf_bd (D : Int → Int) (ps : List Int) (B : Int) (h0 : 0 ≤ B) (h : ∀ p ∈ ps, D p + 1 ≤ B) : 0 ≤ dOf D ps ∧ dOf D ps ≤ B := by
  induction ps using list_snoc_ind with
  | h0 => exact ⟨Int.le_refl _, h0⟩
  | h1 l a ih =>
    rw [dOf_snoc]
    have := ih fun p hp => h p (by simp [hp])
    have := h a (by simp)
    omega
theorem dOf_congr {D E : Int → Int} {ps : List Int} (h : ∀ p ∈ ps, D p = E p) : dOf D ps = dOf E ps := by
  induction ps using list_snoc_ind with
  | h0 => rfl
  | h1 l a ih => rw [dOf_snoc, dOf_snoc, ih fun p hp => h p (by simp [hp]), h a (by simp)]
theorem depF_bd (T : List (List Int)) (out : List Int) (j : Int) : -1 ≤ depF T out j ∧ depF T out j + 1 ≤ out.length := by
  induction out using list_snoc_ind generalizing j with
  | h0 => rw [depF_nil]; simp
  | h1 l a ih =>
    rw [depF_snoc]
    split
    · have := dOf_bd (depF T l) ((T[a.toNat]?).getD []) l.length (by omega) fun p _ => (ih p).2
      simp; omega
    · have := ih j
      simp; omega
theorem depF_out {T : List (List Int)} {out : List Int} {j : Int} (h : j ∉ out) : depF T out j = -1 := by
  induction out using list_snoc_ind with
  | h0 => rfl
  | h1 l a ih =>
    rw [depF_snoc, if_neg (by rintro rfl; exact h (by simp))]
    exact ih fun hm => h (by simp [hm])
theorem depF_in {T : List (List Int)} {out : List Int} {j : Int} (h : j ∈ out) : 0 ≤ depF T out j := by
  induction out using list_snoc_ind with
  | h0 => simp at h
  | h1 l a ih =>
    rw [depF_snoc]
    split
    · exact (dOf_bd (depF T l) _ l.length (by omega) fun p _ => (depF_bd T l p).2).1
    · rename_i hne
      rcases List.mem_append.1 h with h | h
      · exact ih h
      · simp at h; exact absurd h hne
theorem depF_iff {T : List (List Int)} {out : List Int} {j : Int} : 0 ≤ depF T out j ↔ j ∈ out := by
  constructor
  · intro h
    by_cases hm : j ∈ out
    · exact hm
    · rw [depF_out hm] at h; omega
  · exact depF_in
theorem depF_stay {T : List (List Int)} {out s : List Int} {j : Int} (h : j ∉ s) : depF T (out ++ s) j = depF T out j := by
  induction s using list_snoc_ind with
  | h0 => simp
  | h1 l a ih => rw [← List.append_assoc, depF_snoc, if_neg (by rintro rfl; exact h (by simp)), ih fun hm => h (by simp [hm])]
theorem depF_take {T : List (List Int)} {out : List Int} (ho : Ord T out) {t : Nat} {j : Int} (h : j ∈ out.take t) : depF T out j = depF T (out.take t) j := by
  have e := List.take_append_drop t out
  have hd := ho.nodup
  rw [← e, List.nodup_append] at hd
  conv => lhs; rw [← e]
  exact depF_stay fun hm => hd.2.2 j h j hm rfl
/-- the depth at its place in the order -/
theorem depF_at {T : List (List Int)} {out : List Int} (ho : Ord T out) {t : Nat} {x : Int} (h : out[t]? = some x) {ps : List Int} (hps : T[x.toNat]? = some ps) : depF T out x = dOf (depF T out) ps := by
  have hl := (List.getElem?_eq_some_iff.1 h).1
  have e : out.take (t + 1) = out.take t ++ [x] := by
    rw [List.take_succ_eq_append_getElem hl]
    rw [List.getElem?_eq_getElem hl] at h
    injection h with h; rw [h]
  rw [depF_take ho (t := t + 1) (by rw [e]; simp), e, depF_snoc, if_pos rfl, hps, Option.getD_some]
  exact dOf_congr fun p hp => (depF_take ho (ho.ready t x h ps hps p hp)).symm
end Go.Proofs.YtgdkabljgabjoaaGreatDoor

