/- Whether a text is a name: both sides. Conditions: as each states. -/
import Derived.Test.YtgnjohkfgllhmaaBase
import Derived.Test.YtgnjohkfgllhmaaProg
import Derived.BigQuiet
import Derived.Outline
namespace Go.Proofs.Ytgnjohkfgllhmaa
open Go.RowKit
set_option linter.unusedVariables false
set_option maxRecDepth 100000

def smB (c : UInt8) : Bool := decide (97 ≤ c.toNat) && decide (c.toNat ≤ 122)
def dgB (c : UInt8) : Bool := decide (48 ≤ c.toNat) && decide (c.toNat ≤ 57)
def restB (c : UInt8) : Bool := smB c || dgB c || decide (c.toNat = 46)
def headB (l : List UInt8) : Bool := match l with | [] => false | c :: _ => smB c
def nameB (s : ByteArray) : Bool := decide (1 ≤ s.size) && decide (s.size ≤ 12) && headB s.data.toList && s.data.toList.all restB
theorem smB_iff {c : UInt8} : smB c = true ↔ 97 ≤ c.toNat ∧ c.toNat ≤ 122 := by simp [smB]
theorem dgB_iff {c : UInt8} : dgB c = true ↔ 48 ≤ c.toNat ∧ c.toNat ≤ 57 := by simp [dgB]
theorem small_rest {c : UInt8} (h : smB c = true) : restB c = true := by simp [restB, h]
theorem headB_at {s : ByteArray} {c : UInt8} (h : 0 < s.size) (hc : s[0] = c) : headB s.data.toList = smB c := by
  have h1 : s.data.toList[0]'(by simpa using h) = c := hc
  cases hl : s.data.toList with
  | nil => have h2 : s.size = 0 := by have := congrArg List.length hl; simpa using this
           omega
  | cons d l => simp [hl] at h1; simp [headB, h1]
theorem rest_step {s : ByteArray} {k : Nat} (hk : k < s.size) {c : UInt8} (hc : s[k] = c) (h : (s.data.toList.take k).all restB = true) (hr : restB c = true) : (s.data.toList.take (k + 1)).all restB = true := by
  rw [List.take_succ_eq_append_getElem (by simpa using hk), List.all_append, h]
  have e : s.data.toList[k]'(by simpa using hk) = c := hc
  simp [e, hr]
theorem rest_no {s : ByteArray} {k : Nat} (hk : k < s.size) {c : UInt8} (hc : s[k] = c) (hr : restB c = false) : nameB s = false := by
  have e : s.data.toList[k]'(by simpa using hk) = c := hc
  have : s.data.toList.all restB = false := by
    rw [List.all_eq_false]
    exact ⟨c, by rw [← e]; exact List.getElem_mem _, by simp [hr]⟩
  simp [nameB, this]
theorem name_yes {s : ByteArray} (h1 : 1 ≤ s.size) (h2 : s.size ≤ 12) {c : UInt8} (hc : s[0] = c) (hs : smB c = true) (h : (s.data.toList.take s.size).all restB = true) : nameB s = true := by
  rw [List.take_of_length_le (by simp)] at h
  simp only [nameB, h1, h2, decide_true, Bool.true_and, headB_at (by omega) hc, hs, h]

theorem isSmallB_any (c : UInt8) (w : World) : Calls Try.prog 113 #[.int .u8 c.toNat] w fun e w' => e = .returned (.bool (smB c)) ∧ w = w' := by
  by_cases h : (97 : Int) ≤ (c.toNat : Int) <;> by_cases h2 : (c.toNat : Int) ≤ 122
  all_goals try (exfalso; omega)
  all_goals
    go_enter Try.func113, Try.ntmps113
    go_wp2
    go_ret
    exact ⟨ret_bool (by simp only [smB]; rw [Bool.eq_iff_iff]; simp; omega), rfl⟩
theorem isDigitB_any (c : UInt8) (w : World) : Calls Try.prog 114 #[.int .u8 c.toNat] w fun e w' => e = .returned (.bool (dgB c)) ∧ w = w' := by
  by_cases h : (48 : Int) ≤ (c.toNat : Int) <;> by_cases h2 : (c.toNat : Int) ≤ 57
  all_goals try (exfalso; omega)
  all_goals
    go_enter Try.func114, Try.ntmps114
    go_wp2
    go_ret
    exact ⟨ret_bool (by simp only [dgB]; rw [Bool.eq_iff_iff]; simp; omega), rfl⟩
theorem l01Small_any (c : UInt8) (w : World) : Calls Try.prog 123 #[.int .u8 c.toNat] w fun e w' => e = .returned (.bool (smB c)) ∧ w = w' := by
  by_cases h : (97 : Int) ≤ (c.toNat : Int) <;> by_cases h2 : (c.toNat : Int) ≤ 122
  all_goals try (exfalso; omega)
  all_goals
    go_enter Try.func123, Try.ntmps123
    go_wp2
    go_ret
    exact ⟨ret_bool (by simp only [smB]; rw [Bool.eq_iff_iff]; simp; omega), rfl⟩
theorem l01Digit_any (c : UInt8) (w : World) : Calls Try.prog 124 #[.int .u8 c.toNat] w fun e w' => e = .returned (.bool (dgB c)) ∧ w = w' := by
  by_cases h : (48 : Int) ≤ (c.toNat : Int) <;> by_cases h2 : (c.toNat : Int) ≤ 57
  all_goals try (exfalso; omega)
  all_goals
    go_enter Try.func124, Try.ntmps124
    go_wp2
    go_ret
    exact ⟨ret_bool (by simp only [dgB]; rw [Bool.eq_iff_iff]; simp; omega), rfl⟩

set_option maxHeartbeats 1000000 in
theorem implIsName_any (s : ByteArray) (v : Bool) (hv : v = nameB s) (w : World) (hs : s.size ≤ 9223372036854775807) :
    Calls Try.prog 74 #[.string s] w fun e w' => e = .returned (.bool v) ∧ w = w' := by
  replace hv := Lib.hid hv
  by_cases h1 : 1 ≤ s.size
  rotate_left
  · have hvf : v = false := by rw [hv.out]; simp [nameB, h1]
    subst hvf
    go_enter Try.func74, Try.ntmps74
    go_wp2_with fail
    go_ret
    exact ⟨rfl, rfl⟩
  by_cases h2 : s.size ≤ 12
  rotate_left
  · have hvf : v = false := by rw [hv.out]; simp [nameB, h2]
    subst hvf
    go_enter Try.func74, Try.ntmps74
    go_wp2_with fail
    go_ret
    exact ⟨rfl, rfl⟩
  obtain ⟨c0, hc0⟩ : ∃ c, s[0] = c := ⟨_, rfl⟩
  have hb0 := c0.toNat_lt
  have hH := headB_at (by omega) hc0
  cases t0 : smB c0
  · have hvf : v = false := by rw [hv.out]; simp [nameB, hH, t0]
    subst hvf
    clear hH
    go_enter Try.func74, Try.ntmps74
    go_wp2_with (go_at_call 113; refine (isSmallB_any _ _).mono ?_; rintro e w' ⟨rfl, rfl⟩)
    go_ret
    exact ⟨rfl, rfl⟩
  clear hH
  have hst := Lib.hid (rest_step (s := s) (k := 0) (by omega) hc0 (by simp) (small_rest t0))
  have hfin := Lib.hid (fun h => name_yes h1 h2 hc0 t0 h)
  go_enter Try.func74, Try.ntmps74
  go_wp2_with (go_at_call 113; refine (isSmallB_any _ _).mono ?_; rintro e w' ⟨rfl, rfl⟩)
  clear hc0 t0 hb0
  go_loop [3] (fun i => ∃ k : Nat, i = .int .i64 k ∧ 1 ≤ k ∧ k ≤ s.size ∧ (s.data.toList.take k).all restB = true) (fun i => s.size - (intOf i).toNat)
  case atStart => exact ⟨1, rfl, Nat.le_refl _, h1, hst.out⟩
  case round =>
    obtain ⟨k, rfl, hk1, hk, hall⟩ := hrel
    replace hall := Lib.hid hall
    by_cases hlt : k < s.size
    · obtain ⟨c, hc⟩ : ∃ c, s[k] = c := ⟨_, rfl⟩
      have hc256 := c.toNat_lt
      have hno := Lib.hid (rest_no hlt hc)
      have hstep := Lib.hid (fun h => rest_step hlt hc hall.out h)
      have hd : restB c = (smB c || dgB c || decide (c.toNat = 46)) := rfl
      replace hd := Lib.hid hd
      cases t1 : smB c
      · cases t2 : dgB c
        · by_cases t3 : c.toNat = 46
          · have hr : restB c = true := by rw [hd.out]; simp [t3]
            replace hr := Lib.hid hr
            have t4 : ((c.toNat : Int) == 46) = true := by simp; omega
            have t5 : ((c.toNat : Int) != 46) = false := by simp; omega
            replace t3 := Lib.hid t3
            go_wp2_with (first | (go_at_call 113; refine (isSmallB_any _ _).mono ?_; rintro e w' ⟨rfl, rfl⟩) | (go_at_call 114; refine (isDigitB_any _ _).mono ?_; rintro e w' ⟨rfl, rfl⟩))
            go_round
            case rel => exact ⟨k + 1, by go_num, by omega, by omega, hstep.out hr.out⟩
            case measure => simp [intOf]; omega
          · have hr : restB c = false := by rw [hd.out, t1, t2]; simp [t3]
            have hvf : v = false := by rw [hv.out, hno.out hr]
            subst hvf
            have t4 : ((c.toNat : Int) == 46) = false := by simp; omega
            have t5 : ((c.toNat : Int) != 46) = true := by simp; omega
            clear hr
            go_wp2_with (first | (go_at_call 113; refine (isSmallB_any _ _).mono ?_; rintro e w' ⟨rfl, rfl⟩) | (go_at_call 114; refine (isDigitB_any _ _).mono ?_; rintro e w' ⟨rfl, rfl⟩))
            go_ret
            exact ⟨rfl, rfl⟩
        · have hr : restB c = true := by rw [hd.out, t2]; simp
          replace hr := Lib.hid hr
          go_wp2_with (first | (go_at_call 113; refine (isSmallB_any _ _).mono ?_; rintro e w' ⟨rfl, rfl⟩) | (go_at_call 114; refine (isDigitB_any _ _).mono ?_; rintro e w' ⟨rfl, rfl⟩))
          go_round
          case rel => exact ⟨k + 1, by go_num, by omega, by omega, hstep.out hr.out⟩
          case measure => simp [intOf]; omega
      · have hr : restB c = true := by rw [hd.out, t1]; simp
        replace hr := Lib.hid hr
        go_wp2_with (first | (go_at_call 113; refine (isSmallB_any _ _).mono ?_; rintro e w' ⟨rfl, rfl⟩) | (go_at_call 114; refine (isDigitB_any _ _).mono ?_; rintro e w' ⟨rfl, rfl⟩))
        go_round
        case rel => exact ⟨k + 1, by go_num, by omega, by omega, hstep.out hr.out⟩
        case measure => simp [intOf]; omega
    · have hkn : k = s.size := by omega
      have hvt : v = true := by rw [hv.out]; exact hfin.out (by rw [← hkn]; exact hall.out)
      subst hvt
      replace hkn := Lib.hid hkn
      go_wp2_with fail
      go_ret
      exact ⟨rfl, rfl⟩

set_option maxHeartbeats 1000000 in
theorem specIsName_any (s : ByteArray) (v : Bool) (hv : v = nameB s) (w : World) (hs : s.size ≤ 9223372036854775807) :
    Calls Try.prog 87 #[.string s] w fun e w' => e = .returned (.bool v) ∧ w = w' := by
  replace hv := Lib.hid hv
  by_cases h1 : 1 ≤ s.size
  rotate_left
  · have hvf : v = false := by rw [hv.out]; simp [nameB, h1]
    subst hvf
    have e0 : s.toList = [] := by rw [ByteArray.toList_eq]; exact List.eq_nil_of_length_eq_zero (by simpa using (show s.size = 0 by omega))
    go_enter Try.func87, Try.ntmps87
    go_wp2_with fail
    go_ret
    exact ⟨rfl, rfl⟩
  have e0 : s.toList.isEmpty = false := by rw [ByteArray.toList_eq]; cases hl : s.data.toList with
    | nil =>
      have h2 : s.size = 0 := by have := congrArg List.length hl; simpa using this
      omega
    | cons a l => rfl
  by_cases h2 : s.size ≤ 12
  rotate_left
  · have hvf : v = false := by rw [hv.out]; simp [nameB, h2]
    subst hvf
    go_enter Try.func87, Try.ntmps87
    go_wp2_with fail
    go_ret
    exact ⟨rfl, rfl⟩
  obtain ⟨c0, hc0⟩ : ∃ c, s[0] = c := ⟨_, rfl⟩
  have hb0 := c0.toNat_lt
  have hH := headB_at (by omega) hc0
  cases t0 : smB c0
  · have hvf : v = false := by rw [hv.out]; simp [nameB, hH, t0]
    subst hvf
    clear hH
    go_enter Try.func87, Try.ntmps87
    go_wp2_with (go_at_call 123; refine (l01Small_any _ _).mono ?_; rintro e w' ⟨rfl, rfl⟩)
    go_ret
    exact ⟨rfl, rfl⟩
  clear hH
  have hfin := Lib.hid (fun h => name_yes h1 h2 hc0 t0 h)
  go_enter Try.func87, Try.ntmps87
  go_wp2_with (go_at_call 123; refine (l01Small_any _ _).mono ?_; rintro e w' ⟨rfl, rfl⟩)
  clear hc0 t0 hb0
  go_loop [3] (fun i => ∃ k : Nat, i = .int .i64 k ∧ k ≤ s.size ∧ (s.data.toList.take k).all restB = true) (fun i => s.size - (intOf i).toNat)
  case atStart => exact ⟨0, rfl, Nat.zero_le _, by simp⟩
  case round =>
    obtain ⟨k, rfl, hk, hall⟩ := hrel
    replace hall := Lib.hid hall
    by_cases hlt : k < s.size
    · obtain ⟨c, hc⟩ : ∃ c, s[k] = c := ⟨_, rfl⟩
      have hc256 := c.toNat_lt
      have hno := Lib.hid (rest_no hlt hc)
      have hstep := Lib.hid (fun h => rest_step hlt hc hall.out h)
      have hd : restB c = (smB c || dgB c || decide (c.toNat = 46)) := rfl
      replace hd := Lib.hid hd
      cases t1 : smB c
      · cases t2 : dgB c
        · by_cases t3 : c.toNat = 46
          · have hr : restB c = true := by rw [hd.out]; simp [t3]
            replace hr := Lib.hid hr
            have t4 : ((c.toNat : Int) == 46) = true := by simp; omega
            have t5 : ((c.toNat : Int) != 46) = false := by simp; omega
            replace t3 := Lib.hid t3
            go_wp2_with (first | (go_at_call 123; refine (l01Small_any _ _).mono ?_; rintro e w' ⟨rfl, rfl⟩) | (go_at_call 124; refine (l01Digit_any _ _).mono ?_; rintro e w' ⟨rfl, rfl⟩))
            go_round
            case rel => exact ⟨k + 1, by go_num, by omega, hstep.out hr.out⟩
            case measure => simp [intOf]; omega
          · have hr : restB c = false := by rw [hd.out, t1, t2]; simp [t3]
            have hvf : v = false := by rw [hv.out, hno.out hr]
            subst hvf
            have t4 : ((c.toNat : Int) == 46) = false := by simp; omega
            have t5 : ((c.toNat : Int) != 46) = true := by simp; omega
            clear hr
            go_wp2_with (first | (go_at_call 123; refine (l01Small_any _ _).mono ?_; rintro e w' ⟨rfl, rfl⟩) | (go_at_call 124; refine (l01Digit_any _ _).mono ?_; rintro e w' ⟨rfl, rfl⟩))
            go_ret
            exact ⟨rfl, rfl⟩
        · have hr : restB c = true := by rw [hd.out, t2]; simp
          replace hr := Lib.hid hr
          go_wp2_with (first | (go_at_call 123; refine (l01Small_any _ _).mono ?_; rintro e w' ⟨rfl, rfl⟩) | (go_at_call 124; refine (l01Digit_any _ _).mono ?_; rintro e w' ⟨rfl, rfl⟩))
          go_round
          case rel => exact ⟨k + 1, by go_num, by omega, hstep.out hr.out⟩
          case measure => simp [intOf]; omega
      · have hr : restB c = true := by rw [hd.out, t1]; simp
        replace hr := Lib.hid hr
        go_wp2_with (first | (go_at_call 123; refine (l01Small_any _ _).mono ?_; rintro e w' ⟨rfl, rfl⟩) | (go_at_call 124; refine (l01Digit_any _ _).mono ?_; rintro e w' ⟨rfl, rfl⟩))
        go_round
        case rel => exact ⟨k + 1, by go_num, by omega, hstep.out hr.out⟩
        case measure => simp [intOf]; omega
    · have hkn : k = s.size := by omega
      have hvt : v = true := by rw [hv.out]; exact hfin.out (by rw [← hkn]; exact hall.out)
      subst hvt
      replace hkn := Lib.hid hkn
      go_wp2_with fail
      go_ret
      exact ⟨rfl, rfl⟩
end Go.Proofs.Ytgnjohkfgllhmaa
