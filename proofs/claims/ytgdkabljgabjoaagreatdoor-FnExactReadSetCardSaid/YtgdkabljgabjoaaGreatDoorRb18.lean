/- The law's text for a number. Conditions: as each states. -/
import Derived.Test.YtgdkabljgabjoaaGreatDoorRb14
import Derived.Test.YtgdkabljgabjoaaGreatDoorRb07
import Derived.Test.YtgdkabljgabjoaaGreatDoorRb02
import Derived.Test.YtgdkabljgabjoaaGreatDoorRb05
import Derived.Test.YtgdkabljgabjoaaGreatDoorRb08
import Derived.Test.YtgdkabljgabjoaaGreatDoorRb17
namespace Go.Proofs.YtgdkabljgabjoaaGreatDoor
open Go.RowKit
set_option linter.unusedVariables false
set_option maxRecDepth 100000

def mText (k : Int) : ByteArray := if k ≤ 0 then ⟨#[109, 48]⟩ else ⟨(109 :: digs k.toNat).toArray⟩
theorem mText_small {k : Int} (h : k ≤ 0) : mText k = ⟨#[109, 48]⟩ := if_pos h
theorem mText_big {k : Int} (h : 0 < k) : mText k = ⟨(109 :: digs k.toNat).toArray⟩ := if_neg (by omega)
theorem one_digit (x : Nat) : byteV [UInt8.ofNat (48 + x % 10)] = [.int .u8 (48 + ((x : Int) % 10))] := by
  have := byteV_digit x [] (48 + ((x : Int) % 10)) (by omega)
  simpa [byteV] using this

theorem markText_any (k : Int) (w : World) (h2 : k ≤ 9223372036854775807) (h1 : -9223372036854775808 ≤ k) :
    Calls Tryz.prog 86 #[.int .i64 k] w fun e w' => e = .returned (.string (mText k)) ∧ Below w.heap.size w w' := by
  by_cases hk : k ≤ 0
  · rw [mText_small hk]
    go_enter Tryz.func86, Tryz.ntmps86
    go_wp2
    go_ret
    exact ⟨rfl, Below.refl _ _⟩
  · rw [mText_big (by omega)]
    obtain ⟨n, rfl⟩ : ∃ n : Nat, k = n := ⟨k.toNat, by omega⟩
    rw [Int.toNat_natCast]
    have hk0 : ¬ (n : Int) ≤ 0 := by omega
    go_enter Tryz.func86, Tryz.ntmps86
    go_wp2
    go_loopw [0, 3] (fun kk out wr => ∃ (x : Nat) (ds : List UInt8), kk = .int .i64 x ∧ x ≤ n ∧ digs x ++ ds = digs n ∧ out = .string ⟨ds.toArray⟩ ∧ Below w.heap.size w wr) (fun kk out wr => (intOf kk).toNat)
    case atStart => exact ⟨n, [], rfl, Nat.le_refl _, by simp, rfl, Below.refl _ _⟩
    case round =>
      obtain ⟨x, ds, rfl, hxn, hds, rfl, hbel⟩ := hrel
      replace hds := Lib.hid hds
      have hsz := hbel.size
      have hlen : ds.length ≤ 19 := by
        have := digs_len19 (n := n) (by omega)
        rw [← hds.out, List.length_append] at this; omega
      by_cases hx0 : 0 < x
      · have hst := Lib.hid (digs_step (n := x) (by omega))
        have hstr := run_bytes_str (P := Tryz.prog) (src := 41) (dst := 9) (w := wr.alloc (.cells #[.int .u8 (48 + (x : Int) % 10)] 5)) (c := 1) (A := some ⟨wr.heap.size, 0, none⟩) Tryz.underlying41 Tryz.underlying5 Tryz.underlying9 (ds := [UInt8.ofNat (48 + x % 10)]) (by rw [one_digit]; exact src_at (cs := [.int .u8 (48 + (x : Int) % 10)]) rfl (by simp [Value.oneCell']) rfl) (by intro h; cases h)
        go_wp2
        go_roundw
        case rel =>
          refine ⟨x / 10, UInt8.ofNat (48 + x % 10) :: ds, by go_num, by omega, by rw [← hds.out, hst.out]; simp, ?_, hbel.alloc hsz _⟩
          rw [UInt8.ofNat_add]; rfl
        case measure => simp [intOf]; omega
      · have hx : x = 0 := by omega
        replace hx := Lib.hid hx
        go_wp2
        go_ret
        refine ⟨ret_string ?_, hbel⟩
        have h1 := hds.out
        rw [hx.out, digs_zero, List.nil_append] at h1
        rw [h1]; rfl
end Go.Proofs.YtgdkabljgabjoaaGreatDoor

/- Marks in slices of Part, and whether they are held. Conditions: as each states. -/
namespace Go.Proofs.YtgdkabljgabjoaaGreatDoor
open Go.RowKit
set_option linter.unusedVariables false
set_option maxRecDepth 100000

/-- the marks from m on, of n elements -/
def mkPart (m : Int) : Nat → List (Int × Int × Int)
  | 0 => []
  | n + 1 => mkPart m n ++ [((m + 3 * (n : Int)), (m + 3 * (n : Int)) + 1, (m + 3 * (n : Int)) + 1 + 1)]
theorem mkPart_length (m : Int) (n : Nat) : (mkPart m n).length = n := by induction n with
  | zero => rfl
  | succ n ih => simp [mkPart, ih]
theorem mkPart_at (m : Int) {n j : Nat} (h : j < n) : (mkPart m n)[j]? = some ((m + 3 * (j : Int)), (m + 3 * (j : Int)) + 1, (m + 3 * (j : Int)) + 1 + 1) := by
  induction n with
  | zero => omega
  | succ n ih =>
    rw [mkPart]
    by_cases hj : j < n
    · rw [List.getElem?_append_left (by rw [mkPart_length]; exact hj), ih hj]
    · obtain rfl : j = n := by omega
      rw [List.getElem?_append_right (by rw [mkPart_length]; omega), mkPart_length]; simp

theorem grown_mkPart {a b c : World} {row : Option Nat} (h : a.grownBy b row) (k : b.grownBy c row) : a.grownBy c row :=
  ⟨k.os.trans h.os, k.tape.trans h.tape, k.output.trans h.output, Nat.le_trans h.size k.size, fun i hi hn => (k.block i (Nat.lt_of_lt_of_le hi h.size) hn).trans (h.block i hi hn)⟩

set_option maxHeartbeats 1000000 in
theorem markPartS_any (A : Option Addr) (n c B : Nat) (xs : List Value) (m : Int) (w : World) (hown : w.ownsRow B 106 3 (.slice A n c) n xs) (hm0 : 0 ≤ m) (hm : m ≤ 4000000000000000000) (hn : n ≤ 1000000000) :
    Calls Tryz.prog 36 #[.slice A n c, .int .i64 m] w fun e w' => e = .returned (.int .i64 (m + 3 * (n : Int))) ∧ w.grownBy w' (Value.slice A n c).ownBlock ∧ w'.ownsRow B 106 3 (.slice A n c) n ((mkPart m n).flatMap partC) ∧ w'.heap.size = w.heap.size := by
  go_enter Tryz.func36, Tryz.ntmps36
  go_wp2_with fail
  go_loopw [1, 5] (fun k i wr => ∃ (q : Nat) (ys : List Value), i = .int .i64 q ∧ k = .int .i64 (m + 3 * q) ∧ q ≤ n ∧ wr.ownsRow B 106 3 (.slice A n c) n ys ∧ w.grownBy wr (Value.slice A n c).ownBlock ∧ wr.heap.size = w.heap.size ∧ (∀ j, j < q → ys[j * 3]? = some (.int .i64 ((m + 3 * (j : Int)))) ∧ ys[j * 3 + 1]? = some (.int .i64 ((m + 3 * (j : Int)) + 1)) ∧ ys[j * 3 + 2]? = some (.int .i64 ((m + 3 * (j : Int)) + 1 + 1)))) (fun k i wr => n - (intOf i).toNat)
  case atStart => exact ⟨0, xs, rfl, by go_num, Nat.zero_le _, hown, World.grownBy.refl _ _, rfl, fun j hj => absurd hj (Nat.not_lt_zero j)⟩
  case round =>
    obtain ⟨q, ys, rfl, rfl, hq, ho, hg, hz, hall⟩ := hrel
    by_cases hlt : q < n
    · obtain ⟨g, rfl, hB, hgl, hnc, hcell, hfr⟩ := own_at ho (by omega)
      have hl := ho.1
      have c0 := hcell (q * 3) (by omega)
      have c1 := hcell (q * 3 + 1) (by omega)
      have c2 := hcell (q * 3 + 2) (by omega)
      rw [List.getElem?_eq_getElem (by omega)] at c0 c1 c2
      have f0 := hfr (q * 3)
      have f1 := hfr (q * 3 + 1)
      have f2 := hfr (q * 3 + 2)
      have s0 := ho.stored (q * 3) (.int .i64 ((m + 3 * q)))
      have s1 := s0.1.stored (q * 3 + 1) (.int .i64 ((m + 3 * q) + 1))
      have s2 := s1.1.stored (q * 3 + 2) (.int .i64 ((m + 3 * q) + 1 + 1))
      generalize ys[q * 3] = v0 at c0
      generalize ys[q * 3 + 1] = v1 at c1
      generalize ys[q * 3 + 2] = v2 at c2
      replace s0 := Lib.hid s0
      replace s1 := Lib.hid s1
      replace s2 := Lib.hid s2
      replace hall := Lib.hid hall
      replace hl := Lib.hid hl
      replace hz := Lib.hid hz
      clear hcell hfr
      go_wp2_with fail
      go_roundw
      case rel =>
        refine ⟨q + 1, _, by go_num, by go_num, by omega, s2.out.1, ?_, by simpa using hz.out, fun j hj => ?_⟩
        · have e : (Value.slice (some ⟨g, 0, none⟩) n c).ownBlock = some g := rfl
          rw [e] at hg ⊢
          exact grown_mkPart hg (grown_mkPart s0.out.2 (grown_mkPart s1.out.2 (s2.out.2)))
        · have := hl.out
          rcases Nat.lt_or_ge j q with h | h
          · have hh := hall.out j h
            simp only [List.getElem?_set_ne (show q * 3 ≠ j * 3 by omega), List.getElem?_set_ne (show q * 3 ≠ j * 3 + 1 by omega), List.getElem?_set_ne (show q * 3 ≠ j * 3 + 2 by omega), List.getElem?_set_ne (show q * 3 + 1 ≠ j * 3 by omega), List.getElem?_set_ne (show q * 3 + 1 ≠ j * 3 + 1 by omega), List.getElem?_set_ne (show q * 3 + 1 ≠ j * 3 + 2 by omega), List.getElem?_set_ne (show q * 3 + 2 ≠ j * 3 by omega), List.getElem?_set_ne (show q * 3 + 2 ≠ j * 3 + 1 by omega), List.getElem?_set_ne (show q * 3 + 2 ≠ j * 3 + 2 by omega)]
            exact hh
          · obtain rfl : j = q := by omega
            refine ⟨?_, ?_, ?_⟩ <;> simp [List.getElem?_set] <;> omega
      case measure => simp [intOf]; omega
    · have hqn : q = n := by omega
      replace hqn := Lib.hid hqn
      replace hall := Lib.hid hall
      replace hz := Lib.hid hz
      go_wp2_with fail
      go_ret
      have hq' := hqn.out
      subst hq'
      refine ⟨ret_int (by omega), hg, ?_, hz.out⟩
      have e : ys = (mkPart m q).flatMap partC := flat_ext partC_len (mkPart_length m q) ho.1 fun j a hj i hi => by
        have hjl := (List.getElem?_eq_some_iff.1 hj).1
        rw [mkPart_length] at hjl
        rw [mkPart_at m hjl] at hj
        injection hj with hj
        subst hj
        have hh := hall.out j hjl
        match i, hi with
        | 0, _ => exact hh.1
        | 1, _ => exact hh.2.1
        | 2, _ => exact hh.2.2
      rw [← e]
      exact ho

set_option maxHeartbeats 1000000 in
theorem heldPartS_any (A : Option Addr) (n c lo hi : Nat) (m : Int) (w : World) (hr : RdS 3 (FlatR partC) w lo hi A n (mkPart m n)) (hm0 : 0 ≤ m) (hm : m ≤ 4000000000000000000) (hn : n ≤ 1000000000) :
    Calls Tryz.prog 39 #[.slice A n c, .int .i64 m] w fun e w' => e = .returned (.int .i64 (m + 3 * (n : Int))) ∧ w = w' := by
  go_enter Tryz.func39, Tryz.ntmps39
  go_wp2_with fail
  go_loop [1, 5] (fun k i => ∃ (q : Nat), i = .int .i64 q ∧ k = .int .i64 (m + 3 * q) ∧ q ≤ n) (fun k i => n - (intOf i).toNat)
  case atStart => exact ⟨0, rfl, by go_num, Nat.zero_le _⟩
  case round =>
    obtain ⟨q, rfl, rfl, hq⟩ := hrel
    by_cases hlt : q < n
    · obtain ⟨b, off, a, rfl, _, _, ha, hc⟩ := hr.at hlt
      rw [mkPart_at m hlt] at ha
      injection ha with ha
      subst ha
      have c0 : w.cell? ⟨b, off + q * 3, none⟩ = some (.int .i64 ((m + 3 * q))) := hc 0 _ rfl
      have c1 : w.cell? ⟨b, off + q * 3 + 1, none⟩ = some (.int .i64 ((m + 3 * q) + 1)) := hc 1 _ rfl
      have c2 : w.cell? ⟨b, off + q * 3 + 2, none⟩ = some (.int .i64 ((m + 3 * q) + 1 + 1)) := hc 2 _ rfl
      clear hc hr
      go_wp2_with fail
      go_round
      case rel => exact ⟨q + 1, by go_num, by go_num, by omega⟩
      case measure => simp [intOf]; omega
    · have hqn : q = n := by omega
      replace hqn := Lib.hid hqn
      clear hr
      go_wp2_with fail
      go_ret
      exact ⟨ret_int (by have := hqn.out; omega), rfl⟩
end Go.Proofs.YtgdkabljgabjoaaGreatDoor

/- Marks in slices of Anchor, and whether they are held. Conditions: as each states. -/
namespace Go.Proofs.YtgdkabljgabjoaaGreatDoor
open Go.RowKit
set_option linter.unusedVariables false
set_option maxRecDepth 100000

/-- the marks from m on, of n elements -/
def mkAnchor (m : Int) : Nat → List (ByteArray × Int × Int)
  | 0 => []
  | n + 1 => mkAnchor m n ++ [(mText ((m + 3 * (n : Int))), (m + 3 * (n : Int)) + 1, (m + 3 * (n : Int)) + 1 + 1)]
theorem mkAnchor_length (m : Int) (n : Nat) : (mkAnchor m n).length = n := by induction n with
  | zero => rfl
  | succ n ih => simp [mkAnchor, ih]
theorem mkAnchor_at (m : Int) {n j : Nat} (h : j < n) : (mkAnchor m n)[j]? = some (mText ((m + 3 * (j : Int))), (m + 3 * (j : Int)) + 1, (m + 3 * (j : Int)) + 1 + 1) := by
  induction n with
  | zero => omega
  | succ n ih =>
    rw [mkAnchor]
    by_cases hj : j < n
    · rw [List.getElem?_append_left (by rw [mkAnchor_length]; exact hj), ih hj]
    · obtain rfl : j = n := by omega
      rw [List.getElem?_append_right (by rw [mkAnchor_length]; omega), mkAnchor_length]; simp

theorem grown_mkAnchor {a b c : World} {row : Option Nat} (h : a.grownBy b row) (k : b.grownBy c row) : a.grownBy c row :=
  ⟨k.os.trans h.os, k.tape.trans h.tape, k.output.trans h.output, Nat.le_trans h.size k.size, fun i hi hn => (k.block i (Nat.lt_of_lt_of_le hi h.size) hn).trans (h.block i hi hn)⟩

theorem below_grownM {w w' : World} (h : Below w.heap.size w w') {row : Option Nat} : w.grownBy w' row := ⟨h.os, h.tape, h.output, h.size, fun i hi _ => h.block i hi⟩
set_option maxHeartbeats 1000000 in
theorem markAnchorS_any (A : Option Addr) (n c B : Nat) (xs : List Value) (m : Int) (w : World) (hown : w.ownsRow B 117 3 (.slice A n c) n xs) (hm0 : 0 ≤ m) (hm : m ≤ 4000000000000000000) (hn : n ≤ 1000000000) :
    Calls Tryz.prog 37 #[.slice A n c, .int .i64 m] w fun e w' => e = .returned (.int .i64 (m + 3 * (n : Int))) ∧ w.grownBy w' (Value.slice A n c).ownBlock ∧ w'.ownsRow B 117 3 (.slice A n c) n ((mkAnchor m n).flatMap anchC) ∧ w.heap.size ≤ w'.heap.size := by
  go_enter Tryz.func37, Tryz.ntmps37
  go_wp2_with fail
  go_loopw [1, 5] (fun k i wr => ∃ (q : Nat) (ys : List Value), i = .int .i64 q ∧ k = .int .i64 (m + 3 * q) ∧ q ≤ n ∧ wr.ownsRow B 117 3 (.slice A n c) n ys ∧ w.grownBy wr (Value.slice A n c).ownBlock ∧ w.heap.size ≤ wr.heap.size ∧ (∀ j, j < q → ys[j * 3]? = some (.string (mText ((m + 3 * (j : Int))))) ∧ ys[j * 3 + 1]? = some (.int .i64 ((m + 3 * (j : Int)) + 1)) ∧ ys[j * 3 + 2]? = some (.int .i64 ((m + 3 * (j : Int)) + 1 + 1)))) (fun k i wr => n - (intOf i).toNat)
  case atStart => exact ⟨0, xs, rfl, by go_num, Nat.zero_le _, hown, World.grownBy.refl _ _, Nat.le_refl _, fun j hj => absurd hj (Nat.not_lt_zero j)⟩
  case round =>
    obtain ⟨q, ys, rfl, rfl, hq, ho, hg, hz, hall⟩ := hrel
    by_cases hlt : q < n
    · obtain ⟨g, rfl, hB, hgl, hnc, hcell, hfr⟩ := own_at ho (by omega)
      replace hall := Lib.hid hall
      replace ho := Lib.hid ho
      replace hg := Lib.hid hg
      clear hcell hfr
      go_wp2_with (go_at_call 86; refine (markText_any _ _ (by omega) (by omega)).mono ?_; rintro e w1 ⟨rfl, hb1⟩; have ho1 := own_below ho.out hb1; obtain ⟨g', hg', _, hgl1, hnc1, hcell, hfr⟩ := own_at ho1 (by omega); injection hg' with hg'; injection hg' with hg'; subst hg'; have hl := ho1.1; have c0 := hcell (q * 3) (by omega); have c1 := hcell (q * 3 + 1) (by omega); have c2 := hcell (q * 3 + 2) (by omega); rw [List.getElem?_eq_getElem (by omega)] at c0 c1 c2; have f0 := hfr (q * 3); have f1 := hfr (q * 3 + 1); have f2 := hfr (q * 3 + 2); have s0 := ho1.stored (q * 3) (.string (mText ((m + 3 * q)))); have s1 := s0.1.stored (q * 3 + 1) (.int .i64 ((m + 3 * q) + 1)); have s2 := s1.1.stored (q * 3 + 2) (.int .i64 ((m + 3 * q) + 1 + 1)); generalize ys[q * 3]'(by omega) = v0 at c0; generalize ys[q * 3 + 1]'(by omega) = v1 at c1; generalize ys[q * 3 + 2]'(by omega) = v2 at c2; replace s0 := Lib.hid s0; replace s1 := Lib.hid s1; replace s2 := Lib.hid s2; replace hl := Lib.hid hl; clear hcell hfr; replace ho1 := Lib.hid ho1)
      go_roundw
      case rel =>
        refine ⟨q + 1, _, by go_num, by go_num, by omega, s2.out.1, ?_, by have := hb1.size; simp; omega, fun j hj => ?_⟩
        · have e : (Value.slice (some ⟨g, 0, none⟩) n c).ownBlock = some g := rfl
          have hg := hg.out
          rw [e] at hg ⊢
          exact grown_mkAnchor (grown_mkAnchor hg (below_grownM hb1)) (grown_mkAnchor s0.out.2 (grown_mkAnchor s1.out.2 (s2.out.2)))
        · have := hl.out
          rcases Nat.lt_or_ge j q with h | h
          · have hh := hall.out j h
            simp only [List.getElem?_set_ne (show q * 3 ≠ j * 3 by omega), List.getElem?_set_ne (show q * 3 ≠ j * 3 + 1 by omega), List.getElem?_set_ne (show q * 3 ≠ j * 3 + 2 by omega), List.getElem?_set_ne (show q * 3 + 1 ≠ j * 3 by omega), List.getElem?_set_ne (show q * 3 + 1 ≠ j * 3 + 1 by omega), List.getElem?_set_ne (show q * 3 + 1 ≠ j * 3 + 2 by omega), List.getElem?_set_ne (show q * 3 + 2 ≠ j * 3 by omega), List.getElem?_set_ne (show q * 3 + 2 ≠ j * 3 + 1 by omega), List.getElem?_set_ne (show q * 3 + 2 ≠ j * 3 + 2 by omega)]
            exact hh
          · obtain rfl : j = q := by omega
            refine ⟨?_, ?_, ?_⟩ <;> simp [List.getElem?_set] <;> omega
      case measure => simp [intOf]; omega
    · have hqn : q = n := by omega
      replace hqn := Lib.hid hqn
      replace hall := Lib.hid hall
      replace hz := Lib.hid hz
      go_wp2_with fail
      go_ret
      have hq' := hqn.out
      subst hq'
      refine ⟨ret_int (by omega), hg, ?_, hz.out⟩
      have e : ys = (mkAnchor m q).flatMap anchC := flat_ext anchC_len (mkAnchor_length m q) ho.1 fun j a hj i hi => by
        have hjl := (List.getElem?_eq_some_iff.1 hj).1
        rw [mkAnchor_length] at hjl
        rw [mkAnchor_at m hjl] at hj
        injection hj with hj
        subst hj
        have hh := hall.out j hjl
        match i, hi with
        | 0, _ => exact hh.1
        | 1, _ => exact hh.2.1
        | 2, _ => exact hh.2.2
      rw [← e]
      exact ho

end Go.Proofs.YtgdkabljgabjoaaGreatDoor

/- Marks in slices of Int64, and whether they are held. Conditions: as each states. -/
namespace Go.Proofs.YtgdkabljgabjoaaGreatDoor
open Go.RowKit
set_option linter.unusedVariables false
set_option maxRecDepth 100000

/-- the marks from m on, of n elements -/
def mkInt64 (m : Int) : Nat → List (Int)
  | 0 => []
  | n + 1 => mkInt64 m n ++ [((m + (n : Int)))]
theorem mkInt64_length (m : Int) (n : Nat) : (mkInt64 m n).length = n := by induction n with
  | zero => rfl
  | succ n ih => simp [mkInt64, ih]
theorem mkInt64_at (m : Int) {n j : Nat} (h : j < n) : (mkInt64 m n)[j]? = some ((m + (j : Int))) := by
  induction n with
  | zero => omega
  | succ n ih =>
    rw [mkInt64]
    by_cases hj : j < n
    · rw [List.getElem?_append_left (by rw [mkInt64_length]; exact hj), ih hj]
    · obtain rfl : j = n := by omega
      rw [List.getElem?_append_right (by rw [mkInt64_length]; omega), mkInt64_length]; simp

theorem grown_mkInt64 {a b c : World} {row : Option Nat} (h : a.grownBy b row) (k : b.grownBy c row) : a.grownBy c row :=
  ⟨k.os.trans h.os, k.tape.trans h.tape, k.output.trans h.output, Nat.le_trans h.size k.size, fun i hi hn => (k.block i (Nat.lt_of_lt_of_le hi h.size) hn).trans (h.block i hi hn)⟩

end Go.Proofs.YtgdkabljgabjoaaGreatDoor

/- Marks in a structure whose blocks lie from lo to hi: what they leave as it was. Conditions: as each states. -/
namespace Go.Proofs.YtgdkabljgabjoaaGreatDoor
open Go.RowKit
set_option linter.unusedVariables false
set_option maxRecDepth 100000

/-- only blocks from lo to hi have changed, rows of the kinds P alone, each of its old kind and size -/
structure MarkW (P : TypeId → Prop) (lo hi : Nat) (w w' : World) : Prop where
  os : w'.os = w.os
  tape : w'.tape = w.tape
  output : w'.output = w.output
  size : w.heap.size ≤ w'.heap.size
  block : ∀ b, b < w.heap.size → w'.heap[b]? = w.heap[b]? ∨ (lo ≤ b ∧ b < hi ∧ ∃ c c' e, P e ∧ w.heap[b]? = some (.cells c e (0, 0)) ∧ w'.heap[b]? = some (.cells c' e (0, 0)) ∧ c'.size = c.size)
theorem MarkW.refl (P : TypeId → Prop) (lo hi : Nat) (w : World) : MarkW P lo hi w w := ⟨rfl, rfl, rfl, Nat.le_refl _, fun _ _ => .inl rfl⟩
theorem MarkW.trans {P : TypeId → Prop} {lo hi : Nat} {a b c : World} (h : MarkW P lo hi a b) (k : MarkW P lo hi b c) : MarkW P lo hi a c := by
  refine ⟨k.os.trans h.os, k.tape.trans h.tape, k.output.trans h.output, Nat.le_trans h.size k.size, fun i hi => ?_⟩
  rcases k.block i (Nat.lt_of_lt_of_le hi h.size) with k1 | ⟨k1, k2, c1, c2, e, k3, k4, k5, k6⟩
  · rw [k1]; exact h.block i hi
  · rcases h.block i hi with h1 | ⟨h1, h2, d1, d2, e', h3, h4, h5, h6⟩
    · exact .inr ⟨k1, k2, c1, c2, e, k3, h1 ▸ k4, k5, k6⟩
    · rw [h5] at k4
      injection k4 with k4
      injection k4 with k7 k8 k9
      subst k7 k8
      exact .inr ⟨k1, k2, d1, c2, e', k3, h4, k5, k6.trans h6⟩
theorem MarkW.ofBelow {P : TypeId → Prop} {lo hi : Nat} {w w' : World} (h : Below w.heap.size w w') : MarkW P lo hi w w' := ⟨h.os, h.tape, h.output, h.size, fun b hb => .inl (h.block b hb)⟩
theorem MarkW.mono {P Q : TypeId → Prop} {lo hi lo' hi' : Nat} {w w' : World} (h : MarkW P lo hi w w') (h1 : lo' ≤ lo) (h2 : hi ≤ hi') (h3 : ∀ e, P e → Q e) : MarkW Q lo' hi' w w' := ⟨h.os, h.tape, h.output, h.size, fun b hb => by
  rcases h.block b hb with k | ⟨k1, k2, c, c', e, k3, k4⟩
  · exact .inl k
  · exact .inr ⟨by omega, by omega, c, c', e, h3 e k3, k4⟩⟩
theorem MarkW.below {P : TypeId → Prop} {lo hi : Nat} {w w' : World} (h : MarkW P lo hi w w') (hlo : lo ≤ w.heap.size) : Below lo w w' := ⟨h.os, h.tape, h.output, h.size, fun b hb => by
  rcases h.block b (by omega) with k | ⟨k1, k2, k3⟩
  · exact k
  · omega⟩
theorem MarkW.sameB {P : TypeId → Prop} {lo hi lo' hi' : Nat} {w w' : World} (h : MarkW P lo hi w w') (h1 : hi' ≤ lo ∨ hi ≤ lo') (h2 : hi' ≤ w.heap.size) : SameB lo' hi' w w' := fun b hb1 hb2 => by
  rcases h.block b (by omega) with k | ⟨k1, k2, k3⟩
  · exact k
  · omega
/-- a row of the call's own in lo to hi -/
def MkRow (w : World) (lo hi : Nat) (e : TypeId) (size : Nat) (A : Option Addr) (n c : Nat) : Prop := (∃ xs, w.ownsRow lo e size (.slice A n c) n xs) ∧ ∀ g, (Value.slice A n c).ownBlock = some g → g < hi
theorem own_cur {w : World} {lo e size n c : Nat} {A : Option Addr} {xs : List Value} (h : w.ownsRow lo e size (.slice A n c) n xs) {g : Nat} (hg : (Value.slice A n c).ownBlock = some g) : ∃ cur, w.heap[g]? = some (.cells cur e (0, 0)) ∧ cur.size = c * size := by
  rcases h.2 with ⟨h', _⟩ | ⟨g', cap, cur, hv, h1, h2, h3, h4, h5, h6⟩
  · injection h' with h'; subst h'; simp [Value.ownBlock] at hg
  · injection hv with hv1 hv2 hv3
    subst hv1 hv3
    simp [Value.ownBlock] at hg
    subst hg
    exact ⟨cur, h2, h5⟩
/-- a row of its own has been marked -/
theorem MarkW.ofOwn {P : TypeId → Prop} {lo hi e size n c : Nat} {A : Option Addr} {w w' : World} {xs ys : List Value} (h : w.ownsRow lo e size (.slice A n c) n xs) (hg : w.grownBy w' (Value.slice A n c).ownBlock) (h' : w'.ownsRow lo e size (.slice A n c) n ys) (he : P e) (hhi : ∀ g, (Value.slice A n c).ownBlock = some g → g < hi) : MarkW P lo hi w w' := by
  refine ⟨hg.os, hg.tape, hg.output, hg.size, fun b hb => ?_⟩
  by_cases hbo : (Value.slice A n c).ownBlock = some b
  · obtain ⟨c1, h1, h2⟩ := own_cur h hbo
    obtain ⟨c2, h3, h4⟩ := own_cur h' hbo
    exact .inr ⟨(h.lt b hbo).1, hhi b hbo, c1, c2, e, he, h1, h3, by rw [h2, h4]⟩
  · exact .inl (hg.block b hb (fun e => hbo e.symm))
theorem MkRow.marks {P : TypeId → Prop} {w w' : World} {lo hi : Nat} {e : TypeId} {size n c lo' hi' : Nat} {A : Option Addr} (h : MkRow w lo hi e size A n c) (hm : MarkW P lo' hi' w w') : MkRow w' lo hi e size A n c := by
  obtain ⟨⟨xs, h0⟩, hhi⟩ := h
  refine ⟨?_, hhi⟩
  obtain ⟨hl, h1⟩ := h0
  rcases h1 with h1 | ⟨g, cap, cur, hv, h1, h2, h3, h4, h5, h6⟩
  · exact ⟨xs, hl, .inl h1⟩
  · have hgl : g < w.heap.size := (Array.getElem?_eq_some_iff.1 h2).1
    rcases hm.block g hgl with k | ⟨k1, k2, c1, c2, e', k3, k4, k5, k6⟩
    · exact ⟨xs, hl, .inr ⟨g, cap, cur, hv, h1, k.trans h2, h3, h4, h5, h6⟩⟩
    · rw [h2] at k4
      injection k4 with k4
      injection k4 with k7 k8 k9
      subst k7 k8
      refine ⟨c2.toList.take (n * size), ?_, .inr ⟨g, cap, c2, hv, h1, k5, h3, h4, k6.trans h5, rfl⟩⟩
      rw [List.length_take, Array.length_toList, k6, h5]
      exact Nat.min_eq_left (Nat.mul_le_mul_right _ h3)
theorem MkRow.frame {w w' : World} {lo hi : Nat} {e : TypeId} {size n c : Nat} {A : Option Addr} (h : MkRow w lo hi e size A n c) (hs : SameB lo hi w w') : MkRow w' lo hi e size A n c := by
  obtain ⟨⟨xs, h0⟩, hhi⟩ := h
  exact ⟨⟨xs, own_same h0 fun g hg => hs g (h0.lt g hg).1 (hhi g hg)⟩, hhi⟩
theorem MkRow.wide {w : World} {lo hi lo' hi' : Nat} {e : TypeId} {size n c : Nat} {A : Option Addr} (h : MkRow w lo hi e size A n c) (h1 : lo' ≤ lo) (h2 : hi ≤ hi') : MkRow w lo' hi' e size A n c :=
  ⟨h.1.imp fun xs hx => own_lower hx h1, fun g hg => Nat.lt_of_lt_of_le (h.2 g hg) h2⟩
theorem own_cell {w : World} {lo e size n c g : Nat} {ys : List Value} (h : w.ownsRow lo e size (.slice (some ⟨g, 0, none⟩) n c) n ys) (j : Nat) (hj : j < n * size) : w.cell? ⟨g, j, none⟩ = ys[j]? := h.cellAt j hj
/-- loops of the call's own in lo to hi -/
def MkL (w : World) (lo hi : Nat) (A : Option Addr) (n c : Nat) : Prop := ∃ ys : List Value, w.ownsRow lo 113 1 (.slice A n c) n ys ∧ (∀ g, (Value.slice A n c).ownBlock = some g → g < hi) ∧
  ∀ (j : Nat) (v : Value), ys[j]? = some v → ∃ (Aj : Option Addr) (nj cj : Nat), v = .slice Aj nj cj ∧ nj ≤ 1048576 ∧ MkRow w lo hi 152 3 Aj nj cj
theorem own_marks {P : TypeId → Prop} {w w' : World} {lo hi lo' e size n c : Nat} {A : Option Addr} {ys : List Value} (h : w.ownsRow lo' e size (.slice A n c) n ys) (he : ¬ P e) (hm : MarkW P lo hi w w') : w'.ownsRow lo' e size (.slice A n c) n ys := by
  refine own_same h fun g hg => ?_
  obtain ⟨cur, h1, _⟩ := own_cur h hg
  rcases hm.block g (h.lt g hg).2 with k | ⟨k1, k2, c1, c2, e', k3, k4, k5, k6⟩
  · exact k
  · rw [h1] at k4
    injection k4 with k4
    injection k4 with k7 k8 k9
    exact absurd (k8 ▸ k3) he
theorem MkL.marks {P : TypeId → Prop} {w w' : World} {lo hi lo' hi' n c : Nat} {A : Option Addr} (h : MkL w lo hi A n c) (he : ¬ P 113) (hm : MarkW P lo' hi' w w') : MkL w' lo hi A n c := by
  obtain ⟨ys, h1, h2, h3⟩ := h
  refine ⟨ys, own_marks h1 he hm, h2, fun j v hj => ?_⟩
  obtain ⟨Aj, nj, cj, h4, h5, h6⟩ := h3 j v hj
  exact ⟨Aj, nj, cj, h4, h5, h6.marks hm⟩
theorem MkL.frame {w w' : World} {lo hi n c : Nat} {A : Option Addr} (h : MkL w lo hi A n c) (hs : SameB lo hi w w') : MkL w' lo hi A n c := by
  obtain ⟨ys, h1, h2, h3⟩ := h
  refine ⟨ys, own_same h1 fun g hg => hs g (h1.lt g hg).1 (h2 g hg), h2, fun j v hj => ?_⟩
  obtain ⟨Aj, nj, cj, h4, h5, h6⟩ := h3 j v hj
  exact ⟨Aj, nj, cj, h4, h5, h6.frame hs⟩
theorem MkL.wide {w : World} {lo hi lo' hi' n c : Nat} {A : Option Addr} (h : MkL w lo hi A n c) (k1 : lo' ≤ lo) (k2 : hi ≤ hi') : MkL w lo' hi' A n c := by
  obtain ⟨ys, h1, h2, h3⟩ := h
  refine ⟨ys, own_lower h1 k1, fun g hg => Nat.lt_of_lt_of_le (h2 g hg) k2, fun j v hj => ?_⟩
  obtain ⟨Aj, nj, cj, h4, h5, h6⟩ := h3 j v hj
  exact ⟨Aj, nj, cj, h4, h5, h6.wide k1 k2⟩
theorem OutIn.mk {w : World} {lo hi n c : Nat} {A : Option Addr} {ys : List Value} {Ls : List (List Knot)} (h : OutIn w lo hi A n c ys Ls) (hK : ∀ K ∈ Ls, K.length ≤ 1048576) : MkL w lo hi A n c := by
  obtain ⟨h1, h2, h3, h4, h5, h6⟩ := h
  refine ⟨ys, h2, h5, fun j v hj => ?_⟩
  have hjl := (List.getElem?_eq_some_iff.1 hj).1
  have hl := h2.1
  obtain ⟨Aj, cj, h7, h8⟩ := h3 j _ (List.getElem?_eq_getElem (by omega))
  rw [hj] at h7
  injection h7 with h7
  subst h7
  exact ⟨Aj, _, cj, rfl, hK _ (List.getElem_mem _), ⟨_, h8⟩, fun g hg => h6 j _ g hj hg⟩
/-- a glyph's rows -/
structure GlMk (w : World) (lo hi : Nat) (h : GlH) : Prop where
  o : MkL w lo hi h.out.A h.out.n h.out.c
  p : MkRow w lo hi 106 3 h.parts.A h.parts.n h.parts.c
  a : MkRow w lo hi 117 3 h.anchors.A h.anchors.n h.anchors.c
  on : h.out.n ≤ 1048576
  pn : h.parts.n ≤ 1048576
  an : h.anchors.n ≤ 1048576
theorem GlMk.marks {P : TypeId → Prop} {w w' : World} {lo hi lo' hi' : Nat} {h : GlH} (k : GlMk w lo hi h) (he : ¬ P 113) (hm : MarkW P lo' hi' w w') : GlMk w' lo hi h := ⟨k.o.marks he hm, k.p.marks hm, k.a.marks hm, k.on, k.pn, k.an⟩
theorem GlMk.frame {w w' : World} {lo hi : Nat} {h : GlH} (k : GlMk w lo hi h) (hs : SameB lo hi w w') : GlMk w' lo hi h := ⟨k.o.frame hs, k.p.frame hs, k.a.frame hs, k.on, k.pn, k.an⟩
theorem GlMk.wide {w : World} {lo hi lo' hi' : Nat} {h : GlH} (k : GlMk w lo hi h) (h1 : lo' ≤ lo) (h2 : hi ≤ hi') : GlMk w lo' hi' h := ⟨k.o.wide h1 h2, k.p.wide h1 h2, k.a.wide h1 h2, k.on, k.pn, k.an⟩
/-- the rows of a set's glyphs -/
def GsMk (w : World) (lo hi : Nat) (A : Option Addr) (n c : Nat) : Prop := ∃ ys : List Value, w.ownsRow lo 28 7 (.slice A n c) n ys ∧ (∀ g, (Value.slice A n c).ownBlock = some g → g < hi) ∧
  ∀ j, j < n → ∃ hh : GlH, ys[j * 7 + 3]? = some (.slice hh.out.A hh.out.n hh.out.c) ∧ ys[j * 7 + 4]? = some (.slice hh.parts.A hh.parts.n hh.parts.c) ∧ ys[j * 7 + 5]? = some (.slice hh.anchors.A hh.anchors.n hh.anchors.c) ∧ GlMk w lo hi hh
theorem GsMk.frame {w w' : World} {lo hi n c : Nat} {A : Option Addr} (h : GsMk w lo hi A n c) (hs : SameB lo hi w w') : GsMk w' lo hi A n c := by
  obtain ⟨ys, h1, h2, h3⟩ := h
  refine ⟨ys, own_same h1 fun g hg => hs g (h1.lt g hg).1 (h2 g hg), h2, fun j hj => ?_⟩
  obtain ⟨hh, h4, h5, h6, h7⟩ := h3 j hj
  exact ⟨hh, h4, h5, h6, h7.frame hs⟩
theorem GsMk.wide {w : World} {lo hi lo' hi' n c : Nat} {A : Option Addr} (h : GsMk w lo hi A n c) (k1 : lo' ≤ lo) (k2 : hi ≤ hi') : GsMk w lo' hi' A n c := by
  obtain ⟨ys, h1, h2, h3⟩ := h
  refine ⟨ys, own_lower h1 k1, fun g hg => Nat.lt_of_lt_of_le (h2 g hg) k2, fun j hj => ?_⟩
  obtain ⟨hh, h4, h5, h6, h7⟩ := h3 j hj
  exact ⟨hh, h4, h5, h6, h7.wide k1 k2⟩
/-- a reading of loops of the call's own -/
def OutRm (w : World) (lo hi : Nat) (A : Option Addr) (n c : Nat) (L : List (List Knot)) : Prop := OutRd w lo hi A n L ∧ MkL w lo hi A n c ∧ n ≤ 1048576
theorem OutRm.frame (g : Good loopR) {w w' : World} {lo hi n c : Nat} {A : Option Addr} {L : List (List Knot)} (h : OutRm w lo hi A n c L) (hs : SameB lo hi w w') : OutRm w' lo hi A n c L := ⟨h.1.frame g hs, h.2.1.frame hs, h.2.2⟩
theorem OutRm.wide (g : Good loopR) {w : World} {lo hi lo' hi' n c : Nat} {A : Option Addr} {L : List (List Knot)} (h : OutRm w lo hi A n c L) (h1 : lo' ≤ lo) (h2 : hi ≤ hi') : OutRm w lo' hi' A n c L := ⟨h.1.wide g h1 h2, h.2.1.wide h1 h2, h.2.2⟩
/-- a reading of a row of the call's own -/
def RowRm {α : Type} (f : α → List Value) (e : TypeId) (w : World) (lo hi : Nat) (A : Option Addr) (n c : Nat) (L : List α) : Prop := RdS 3 (FlatR f) w lo hi A n L ∧ MkRow w lo hi e 3 A n c ∧ n ≤ 1048576 ∧ n ≤ c
theorem RowRm.frame {α : Type} {f : α → List Value} {e : TypeId} (g : Good (FlatR f)) {w w' : World} {lo hi n c : Nat} {A : Option Addr} {L : List α} (h : RowRm f e w lo hi A n c L) (hs : SameB lo hi w w') : RowRm f e w' lo hi A n c L := ⟨h.1.frame g hs, h.2.1.frame hs, h.2.2⟩
theorem RowRm.wide {α : Type} {f : α → List Value} {e : TypeId} (g : Good (FlatR f)) {w : World} {lo hi lo' hi' n c : Nat} {A : Option Addr} {L : List α} (h : RowRm f e w lo hi A n c L) (h1 : lo' ≤ lo) (h2 : hi ≤ hi') : RowRm f e w lo' hi' A n c L := ⟨h.1.wide g h1 h2, h.2.1.wide h1 h2, h.2.2⟩
/-- a reading of a glyph of the call's own -/
def GlRm (w : World) (lo hi : Nat) (d : Gl) (h : GlH) : Prop := GlRd w lo hi d h ∧ h.anchors.n ≤ h.anchors.c ∧ GlMk w lo hi h
theorem GlRm.of {w : World} {lo hi : Nat} {d : Gl} {h : GlH} (a : OutRm w lo hi h.out.A h.out.n h.out.c d.out) (b : RowRm partC 106 w lo hi h.parts.A h.parts.n h.parts.c d.parts) (c : RowRm anchC 117 w lo hi h.anchors.A h.anchors.n h.anchors.c d.anchors) : GlRm w lo hi d h := ⟨⟨a.1, b.1, c.1⟩, c.2.2.2, ⟨a.2.1, b.2.1, c.2.1, a.2.2, b.2.2.1, c.2.2.1⟩⟩
theorem GlRm.frame {w w' : World} {lo hi : Nat} {d : Gl} {h : GlH} (r : GlRm w lo hi d h) (s : SameB lo hi w w') : GlRm w' lo hi d h := ⟨r.1.frame s, r.2.1, r.2.2.frame s⟩
theorem GlRm.wide {w : World} {lo hi lo' hi' : Nat} {d : Gl} {h : GlH} (r : GlRm w lo hi d h) (h1 : lo' ≤ lo) (h2 : hi ≤ hi') : GlRm w lo' hi' d h := ⟨r.1.wide h1 h2, r.2.1, r.2.2.wide h1 h2⟩
end Go.Proofs.YtgdkabljgabjoaaGreatDoor

/- The laws' own functions on glyphs: the copy, with what its marks need. Conditions: as each states. -/
namespace Go.Proofs.YtgdkabljgabjoaaGreatDoor
open Go.RowKit
set_option linter.unusedVariables false
set_option maxRecDepth 100000

def GsRm (w : World) (lo hi : Nat) (A : Option Addr) (n c : Nat) (L : List Gl) : Prop := GsRc w lo hi A n L ∧ GsMk w lo hi A n c
theorem GsRm.frame (g : Good glyphRc) {w w' : World} {lo hi n c : Nat} {A : Option Addr} {L : List Gl} (h : GsRm w lo hi A n c L) (hs : SameB lo hi w w') : GsRm w' lo hi A n c L := ⟨h.1.frame g hs, h.2.frame hs⟩
theorem GsRm.wide (g : Good glyphRc) {w : World} {lo hi lo' hi' n c : Nat} {A : Option Addr} {L : List Gl} (h : GsRm w lo hi A n c L) (h1 : lo' ≤ lo) (h2 : hi ≤ hi') : GsRm w lo' hi' A n c L := ⟨h.1.wide g h1 h2, h.2.wide h1 h2⟩
theorem GsRm.c {w : World} {lo hi n c : Nat} {A : Option Addr} {L : List Gl} (h : GsRm w lo hi A n c L) : GsRc w lo hi A n L := h.1
abbrev GSetRm (w : World) (lo hi : Nat) (d : GSet) (h : GSetH) : Prop := GsRm w lo hi h.gl.A h.gl.n h.gl.c d.gl

def GlToM (w : World) (lo : Nat) (L : List Gl) (k : Nat) (ys : List Value) : Prop := ∀ (j : Nat) (g : Gl), j < k → L[j]? = some g → ∃ hh : GlH, (∀ i u, (glC g hh)[i]? = some u → ys[j * 7 + i]? = some u) ∧ GlRm w lo w.heap.size g hh ∧ hh.anchors.n ≤ hh.anchors.c
theorem GlToM.kept {w w' : World} {lo k : Nat} {L : List Gl} {ys : List Value} (h : GlToM w lo L k ys) (hs : SameB lo w.heap.size w w') (hz : w.heap.size ≤ w'.heap.size) : GlToM w' lo L k ys := fun j g hj hg => by
  obtain ⟨hh, h1, h2, h3⟩ := h j g hj hg
  exact ⟨hh, h1, (h2.frame hs).wide (Nat.le_refl _) hz, h3⟩
theorem glToM_next {w w1 w2 : World} {X k : Nat} {L : List Gl} {ys : List Value} {d : Gl} {h' : GlH} (h : GlToM w (X + 1) L k ys) (hd : L[k]? = some d) (hX : X < w.heap.size) (hb : Below w.heap.size w w1) (hr : GlRm w1 w.heap.size w1.heap.size d h') (hcp : h'.anchors.n ≤ h'.anchors.c) (hs : SameB (X + 1) w1.heap.size w1 w2) (hz : w1.heap.size ≤ w2.heap.size) (hl : k * 7 + 7 ≤ ys.length) :
    GlToM w2 (X + 1) L (k + 1) (set7 ys (k * 7) (.string d.name) (.int .i64 d.code) (.int .i64 d.adv) (.slice h'.out.A h'.out.n h'.out.c) (.slice h'.parts.A h'.parts.n h'.parts.c) (.slice h'.anchors.A h'.anchors.n h'.anchors.c) (.string d.hints)) := by
  have hz1 := hb.size
  intro j g hj hg
  by_cases hjk : j = k
  · subst hjk
    have e := Option.some.inj (hd.symm.trans hg)
    subst e
    exact ⟨h', fun i u hu => set7_at hl hu, (hr.wide (by omega) (Nat.le_refl _) |>.frame hs).wide (Nat.le_refl _) hz, hcp⟩
  · obtain ⟨hh, h1, h2, h3⟩ := h j g (by omega) hg
    refine ⟨hh, fun i u hu => ?_, (((h2.frame (Below.sameB hb (Nat.le_refl _))).wide (Nat.le_refl _) hz1).frame hs).wide (Nat.le_refl _) hz, h3⟩
    rw [set7_ne]
    · exact h1 i u hu
    · have hi : i < 7 := by
        rcases Nat.lt_or_ge i 7 with h | h
        · exact h
        · rw [List.getElem?_eq_none (by simp [glC]; omega)] at hu; cases hu
      left
      have : j * 7 + 7 ≤ k * 7 := by omega
      omega

end Go.Proofs.YtgdkabljgabjoaaGreatDoor

/- Marks in loops, glyphs and sets of glyphs: what they leave as it was. Conditions: as each states. -/
namespace Go.Proofs.YtgdkabljgabjoaaGreatDoor
open Go.RowKit
set_option linter.unusedVariables false
set_option maxRecDepth 100000

def knotK : TypeId → Prop := (· = 152)
def partK : TypeId → Prop := (· = 106)
def anchK : TypeId → Prop := (· = 117)
def notL : TypeId → Prop := (· ≠ 113)
theorem knot_notL : ∀ e, knotK e → notL e := fun e h => by unfold knotK at h; subst h; unfold notL; decide
theorem part_notL : ∀ e, partK e → notL e := fun e h => by unfold partK at h; subst h; unfold notL; decide
theorem anch_notL : ∀ e, anchK e → notL e := fun e h => by unfold anchK at h; subst h; unfold notL; decide
theorem notL_loop : ¬ notL 113 := fun h => h rfl
theorem notL_glyph : notL 28 := by unfold notL; decide

set_option maxHeartbeats 2000000 in
theorem markLoopS_w (A : Option Addr) (n c lo hi : Nat) (m : Int) (w : World) (hr : MkL w lo hi A n c) (hm0 : 0 ≤ m) (hm : m ≤ 3900000000000000000) (hn : n ≤ 1048576) :
    Calls Tryz.prog 85 #[.slice A n c, .int .i64 m] w fun e w' => ∃ r : Int, e = .returned (.int .i64 r) ∧ m ≤ r ∧ r ≤ m + 3145728 * (n : Int) ∧ MarkW knotK lo hi w w' := by
  obtain ⟨ys, h1, h2, h3⟩ := hr
  have hyl := h1.1
  replace h3 := Lib.hid h3
  replace h2 := Lib.hid h2
  replace hyl := Lib.hid hyl
  go_enter Tryz.func85, Tryz.ntmps85
  go_wp2_with fail
  go_loopw [1, 5] (fun l i wr => ∃ (k : Nat) (r : Int), i = .int .i64 k ∧ l = .int .i64 r ∧ k ≤ n ∧ m ≤ r ∧ r ≤ m + 3145728 * (k : Int) ∧ MarkW knotK lo hi w wr) (fun l i wr => n - (intOf i).toNat)
  case atStart => exact ⟨0, m, rfl, rfl, Nat.zero_le _, Int.le_refl _, by omega, MarkW.refl _ _ _ _⟩
  case round =>
    obtain ⟨k, r, rfl, rfl, hk, hr1, hr2, hM⟩ := hrel
    have ho := own_marks h1 (show ¬ knotK 113 by unfold knotK; decide) hM
    by_cases hlt : k < n
    · obtain ⟨v, hv⟩ : ∃ v, ys[k]? = some v := ⟨_, List.getElem?_eq_getElem (by have := hyl.out; omega)⟩
      obtain ⟨Ak, nk, ck, rfl, hnk, hmk⟩ := h3.out k v hv
      obtain ⟨g, rfl, hB, hgl, hnc, hcell, hfr⟩ := own_at ho (by omega)
      have q0 := hcell k (by omega)
      rw [hv] at q0
      obtain ⟨⟨xs, hx⟩, hxh⟩ := hmk.marks hM
      have hcall := Lib.hid (markKnotS_any Ak nk ck lo xs r wr hx (by omega) (by omega) (by omega))
      have hx' := Lib.hid hx
      replace hxh := Lib.hid hxh
      replace hv := Lib.hid hv
      clear hcell hfr hmk hx
      replace ho := Lib.hid ho
      have hM' := Lib.hid hM
      go_wp2_with fail
      refine hcall.out.mono ?_
      rintro e w1 ⟨rfl, hg1, ho1, hz1⟩
      have hM1 := Lib.hid (hM'.out.trans (MarkW.ofOwn hx'.out hg1 ho1 (show knotK 152 from rfl) hxh.out))
      clear hg1 ho1 hz1
      go_wp2_with fail
      go_roundw
      case rel => exact ⟨k + 1, _, by go_num, rfl, by omega, by omega, by omega, hM1.out⟩
      case measure => simp [intOf]; omega
    · have hkn : k = n := by omega
      replace hkn := Lib.hid hkn
      clear ho
      go_wp2_with fail
      go_ret
      exact ⟨r, rfl, hr1, by have := hkn.out; omega, hM⟩

theorem heads_kept {ys : List Value} {k j : Nat} {v0 v1 v2 v6 : Value} (i : Nat) (hi : 3 ≤ i) (hi' : i ≤ 5) : ((((ys.set (k * 7) v0).set (k * 7 + 1) v1).set (k * 7 + 2) v2).set (k * 7 + 6) v6)[j * 7 + i]? = ys[j * 7 + i]? := by
  rw [List.getElem?_set_ne (by omega), List.getElem?_set_ne (by omega), List.getElem?_set_ne (by omega), List.getElem?_set_ne (by omega)]

set_option maxHeartbeats 4000000 in
theorem markGlyphS_wb (A : Option Addr) (n c lo hi : Nat) (m : Int) (w : World) (hr : GsMk w lo hi A n c) (hm0 : 0 ≤ m) (hm : m ≤ 100) (hn : n ≤ 1048576) :
    Calls Tryz.prog 50 #[.slice A n c, .int .i64 m] w fun e w' => ∃ r : Int, e = .returned (.int .i64 r) ∧ m ≤ r ∧ r ≤ m + 3300000000000 * (n : Int) ∧ MarkW notL lo hi w w' := by
  obtain ⟨ys0, h1, h2, h3⟩ := hr
  have hyl := h1.1
  replace h3 := Lib.hid h3
  replace h2 := Lib.hid h2
  replace hyl := Lib.hid hyl
  go_enter Tryz.func50, Tryz.ntmps50
  go_wp2_with fail
  go_loopw [1, 5] (fun l i wr => ∃ (k : Nat) (r : Int) (ys : List Value), i = .int .i64 k ∧ l = .int .i64 r ∧ k ≤ n ∧ m ≤ r ∧ r ≤ m + 3300000000000 * (k : Int) ∧ MarkW notL lo hi w wr ∧ wr.ownsRow lo 28 7 (.slice A n c) n ys ∧ (∀ j i, 3 ≤ i → i ≤ 5 → ys[j * 7 + i]? = ys0[j * 7 + i]?)) (fun l i wr => n - (intOf i).toNat)
  case atStart => exact ⟨0, m, ys0, rfl, rfl, Nat.zero_le _, Int.le_refl _, by omega, MarkW.refl _ _ _ _, h1, fun _ _ _ _ => rfl⟩
  case round =>
    obtain ⟨k, r, ys, rfl, rfl, hk, hr1, hr2, hM, ho, hys⟩ := hrel
    replace hys := Lib.hid hys
    by_cases hlt : k < n
    · obtain ⟨hh, e3, e4, e5, hmk⟩ := h3.out k hlt
      rw [← hys.out k _ (by omega) (by omega)] at e3 e4 e5
      have hmk := Lib.hid hmk
      obtain ⟨g, rfl, hB, hgl, hnc, _, _⟩ := own_at ho (by omega)
      have hon := hmk.out.on
      have hpn := hmk.out.pn
      have han := hmk.out.an
      have hgh : Hid (g < hi) := h2.out g rfl
      replace e3 := Lib.hid e3
      replace e4 := Lib.hid e4
      replace e5 := Lib.hid e5
      replace ho := Lib.hid ho
      have hM' := Lib.hid hM
      clear hM h1
      have hkk : (k : Int) < n := by omega
      go_wp2_with fail
      refine (markText_any _ _ (by omega) (by omega)).mono ?_
      rintro e w1 ⟨rfl, hb1⟩
      have ho1 := own_below ho.out hb1
      obtain ⟨g', hg', _, hgl1, _, hcell, hfr⟩ := own_at ho1 (by omega)
      injection hg' with hg'
      injection hg' with hg'
      subst hg'
      have hl := ho1.1
      have c0 := hcell (k * 7) (by omega)
      have c1 := hcell (k * 7 + 1) (by omega)
      have c2 := hcell (k * 7 + 2) (by omega)
      have c3 := hcell (k * 7 + 3) (by omega)
      rw [e3.out] at c3
      rw [List.getElem?_eq_getElem (by omega)] at c0 c1 c2
      have f0 := hfr (k * 7)
      have f1 := hfr (k * 7 + 1)
      have f2 := hfr (k * 7 + 2)
      have s0 := ho1.stored (k * 7) (.string (mText r))
      have s1 := s0.1.stored (k * 7 + 1) (.int .i64 (r + 1))
      have s2 := s1.1.stored (k * 7 + 2) (.int .i64 (r + 1 + 1))
      have hM2 := Lib.hid ((((hM'.out.trans (MarkW.ofBelow hb1)).trans (MarkW.ofOwn ho1 s0.2 s0.1 notL_glyph h2.out)).trans (MarkW.ofOwn s0.1 s1.2 s1.1 notL_glyph h2.out)).trans (MarkW.ofOwn s1.1 s2.2 s2.1 notL_glyph h2.out))
      generalize ys[k * 7]'(by omega) = v0 at c0
      generalize ys[k * 7 + 1]'(by omega) = v1 at c1
      generalize ys[k * 7 + 2]'(by omega) = v2 at c2
      have ho2 := Lib.hid s2.1
      have hcall := Lib.hid (markLoopS_w hh.out.A hh.out.n hh.out.c lo hi (r + 1 + 1 + 1) _ (hmk.out.marks notL_loop hM2.out).o (by omega) (by omega) hon)
      clear hcell hfr hb1 ho hM' s0 s1 s2 ho1
      replace hl := Lib.hid hl
      go_wp2_with fail
      refine hcall.out.mono ?_
      clear hcall
      rintro e w3 ⟨r3, rfl, hr31, hr32, hm3⟩
      have ho3 := own_marks ho2.out (show ¬ knotK 28 by unfold knotK; decide) hm3
      have hM3 := Lib.hid (hM2.out.trans (hm3.mono (Nat.le_refl _) (Nat.le_refl _) knot_notL))
      have hl3 := ho3.1
      have c4 : w3.cell? ⟨g, k * 7 + 4, none⟩ = some (.slice hh.parts.A hh.parts.n hh.parts.c) := (own_cell ho3 (k * 7 + 4) (by omega)).trans (by rw [List.getElem?_set_ne (by omega), List.getElem?_set_ne (by omega), List.getElem?_set_ne (by omega)]; exact e4.out)
      obtain ⟨⟨xp, hxp⟩, hxph⟩ := (hmk.out.marks notL_loop hM3.out).p
      have hcall := Lib.hid (markPartS_any hh.parts.A hh.parts.n hh.parts.c lo xp r3 w3 hxp (by omega) (by omega) (by omega))
      replace hxp := Lib.hid hxp
      replace hxph := Lib.hid hxph
      replace ho3 := Lib.hid ho3
      clear hm3 ho2 hM2 c0 c1 c2 c3 f0 f1 f2
      go_wp2_with fail
      refine hcall.out.mono ?_
      clear hcall
      rintro e w4 ⟨rfl, hg4, hp4, hz4⟩
      have hm4 := MarkW.ofOwn hxp.out hg4 hp4 (show partK 106 from rfl) hxph.out
      have ho4 := own_marks ho3.out (show ¬ partK 28 by unfold partK; decide) hm4
      have hM4 := Lib.hid (hM3.out.trans (hm4.mono (Nat.le_refl _) (Nat.le_refl _) part_notL))
      have c5 : w4.cell? ⟨g, k * 7 + 5, none⟩ = some (.slice hh.anchors.A hh.anchors.n hh.anchors.c) := (own_cell ho4 (k * 7 + 5) (by omega)).trans (by rw [List.getElem?_set_ne (by omega), List.getElem?_set_ne (by omega), List.getElem?_set_ne (by omega)]; exact e5.out)
      obtain ⟨⟨xa, hxa⟩, hxah⟩ := (hmk.out.marks notL_loop hM4.out).a
      have hcall := Lib.hid (markAnchorS_any hh.anchors.A hh.anchors.n hh.anchors.c lo xa (r3 + 3 * (hh.parts.n : Int)) w4 hxa (by omega) (by omega) (by omega))
      replace hxa := Lib.hid hxa
      replace hxah := Lib.hid hxah
      replace ho4 := Lib.hid ho4
      clear hm4 ho3 hM3 c4 hg4 hp4 hz4 hxp hxph
      go_wp2_with fail
      refine hcall.out.mono ?_
      clear hcall
      rintro e w5 ⟨rfl, hg5, hp5, hz5⟩
      have hm5 := MarkW.ofOwn hxa.out hg5 hp5 (show anchK 117 from rfl) hxah.out
      have ho5 := own_marks ho4.out (show ¬ anchK 28 by unfold anchK; decide) hm5
      have hM5 := Lib.hid (hM4.out.trans (hm5.mono (Nat.le_refl _) (Nat.le_refl _) anch_notL))
      replace ho5 := Lib.hid ho5
      clear hm5 ho4 hM4 c5 hg5 hp5 hz5 hxa hxah
      go_wp2_with fail
      refine (markText_any _ _ (by omega) (by omega)).mono ?_
      rintro e w6 ⟨rfl, hb6⟩
      have ho6 := own_below ho5.out hb6
      obtain ⟨g', hg', _, hgl6, _, hcell, hfr⟩ := own_at ho6 (by omega)
      injection hg' with hg'
      injection hg' with hg'
      subst hg'
      have hl6 := ho6.1
      have c6 := hcell (k * 7 + 6) (by omega)
      rw [List.getElem?_eq_getElem (by omega)] at c6
      have f6 := hfr (k * 7 + 6)
      have s6 := ho6.stored (k * 7 + 6) (.string (mText (r3 + 3 * (hh.parts.n : Int) + 3 * (hh.anchors.n : Int))))
      have hM6 := Lib.hid ((hM5.out.trans (MarkW.ofBelow hb6)).trans (MarkW.ofOwn ho6 s6.2 s6.1 notL_glyph h2.out))
      replace s6 := Lib.hid s6
      generalize ((((ys.set (k * 7) (Value.string (mText r))).set (k * 7 + 1) (.int .i64 (r + 1))).set (k * 7 + 2) (.int .i64 (r + 1 + 1))))[k * 7 + 6]'(by omega) = v6 at c6
      replace hl6 := Lib.hid hl6
      clear hcell hfr hb6 ho5 hM5 ho6
      go_wp2_with fail
      go_roundw
      case rel => exact ⟨k + 1, _, _, by go_num, rfl, by omega, by omega, by omega, hM6.out, s6.out.1, fun j i hi hi' => (heads_kept i hi hi').trans (hys.out j i hi hi')⟩
      case measure => simp [intOf]; omega
    · clear h1
      have hM' := Lib.hid hM
      replace ho := Lib.hid ho
      go_wp2_with fail
      go_ret
      exact ⟨r, rfl, hr1, by omega, hM'.out⟩
theorem markGlyphS_w (A : Option Addr) (n c lo hi : Nat) (m : Int) (w : World) (hr : GsMk w lo hi A n c) (hm0 : 0 ≤ m) (hm : m ≤ 100) (hn : n ≤ 1048576) :
    Calls Tryz.prog 50 #[.slice A n c, .int .i64 m] w fun e w' => ∃ r : Int, e = .returned (.int .i64 r) ∧ m ≤ r ∧ MarkW notL lo hi w w' :=
  (markGlyphS_wb A n c lo hi m w hr hm0 hm hn).mono fun e w' ⟨r, h1, h2, _, h3⟩ => ⟨r, h1, h2, h3⟩
theorem markGlyphSet_w (d : GSet) (h : GSetH) (lo hi : Nat) (m : Int) (w : World) (hr : GsMk w lo hi h.gl.A h.gl.n h.gl.c) (hlo : lo ≤ w.heap.size) (hhi : hi ≤ w.heap.size) (hm0 : 0 ≤ m) (hm : m ≤ 100) (hn : h.gl.n ≤ 1048576) :
    Calls Tryz.prog 14 #[gsV d h, .int .i64 m] w fun e w' => ∃ r : Int, e = .returned (.int .i64 r) ∧ m ≤ r ∧ MarkW notL lo hi w w' := by
  have hc := Lib.hid (fun a => markGlyphS_w h.gl.A h.gl.n h.gl.c lo hi m (w.alloc a) (hr.frame ((SameB.refl _ _ w).alloc hhi _)) hm0 hm hn)
  clear hr
  go_enter Tryz.func14, Tryz.ntmps14
  go_wp2_with fail
  refine (hc.out _).mono ?_
  rintro e w1 ⟨r, rfl, hr, hM⟩
  replace hM := Lib.hid hM
  go_wp2_with fail
  go_ret
  exact ⟨r, rfl, hr, (MarkW.ofBelow (Go.Joins.below_alloc1 _ _)).trans hM.out⟩
end Go.Proofs.YtgdkabljgabjoaaGreatDoor


