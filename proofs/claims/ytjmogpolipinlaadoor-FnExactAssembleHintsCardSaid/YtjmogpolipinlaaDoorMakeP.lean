/- Making a program: whether all instructions are valid, the program's bytes. Conditions: as each states. -/
import Derived.Test.YtjmogpolipinlaaDoorPart
import Derived.Test.YtjmogpolipinlaaDoorBld
namespace Go.Proofs.YtjmogpolipinlaaDoor
open Go.RowKit
set_option linter.unusedVariables false
set_option maxRecDepth 100000

theorem notValidG_any (c o : Int) (w : World) :
    Calls Tryd.prog 34 #[hintV c o] w fun e w' => e = .returned (.bool (!validHint c o)) ∧ Below w.heap.size w w' := by
  go_enter Tryd.func34, Tryd.ntmps34
  go_wp2_with (go_at_call 35; refine (implValidHint_any _ _ _).mono ?_; rintro e w1 ⟨rfl, hb1⟩)
  go_ret
  exact ⟨rfl, ((Below.refl _ _).alloc (Nat.le_refl _) _).trans (hb1.mono (by simp))⟩

theorem indexFuncG_any (A : Option Addr) (n c : Nat) (L : List (Int × Int)) (w : World) (hr : RdH w A n L) (hn : n ≤ 1000000000) :
    Calls Tryd.prog 57 #[.slice A n c, .func (.func 34) #[] #[]] w fun e w' => ∃ r : Int, e = .returned (.int .i64 r) ∧ decide (0 ≤ r) = !allValid L ∧ Below w.heap.size w w' := by
  go_enter Tryd.func57, Tryd.ntmps57
  go_wp2_with fail
  go_loopw [8] (fun i wr => ∃ k : Nat, i = .int .i64 k ∧ k ≤ n ∧ allValid (L.take k) = true ∧ Below w.heap.size w wr) (fun i wr => n - (intOf i).toNat)
  case atStart => exact ⟨0, rfl, Nat.zero_le _, rfl, Below.refl _ _⟩
  case round =>
    obtain ⟨k, rfl, hk, hall, hbel⟩ := hrel
    replace hall := Lib.hid hall
    by_cases hlt : k < n
    · obtain ⟨hl, hcs⟩ := hr
      obtain ⟨b, off, rfl, hb, hcs⟩ := hcs (by omega)
      obtain ⟨h1, h2⟩ := hcs k hlt
      rw [← hbel.cell (p := ⟨b, off + k * 2, none⟩) hb] at h1
      rw [← hbel.cell (p := ⟨b, off + k * 2 + 1, none⟩) hb] at h2
      have hsp : ∀ p, L.getD k (0, 0) = p → L.take (k + 1) = L.take k ++ [p] := by
        rintro p rfl
        rw [List.take_succ_eq_append_getElem (by omega)]
        simp [hl, hlt]
      have hmem : L.getD k (0, 0) ∈ L := by
        rw [List.getD_eq_getElem?_getD, List.getElem?_eq_getElem (by omega)]; simp
      generalize L.getD k (0, 0) = p at h1 h2 hsp hmem
      replace hsp := Lib.hid (hsp p rfl)
      replace hl := Lib.hid hl
      clear hcs
      by_cases hv : validHint p.1 p.2 = true
      · go_wp2_with (go_at_call 34; refine (notValidG_any _ _ _).mono ?_; rintro e w1 ⟨rfl, hb1⟩)
        go_roundw
        case rel => exact ⟨k + 1, by go_num, by omega, by rw [hsp.out]; unfold allValid; rw [List.all_append]; have := hall.out; unfold allValid at this; rw [this]; simp [hv], hbel.trans (hb1.mono hbel.size)⟩
        case measure => simp [intOf]; omega
      · have hv' : validHint p.1 p.2 = false := by simpa using hv
        clear hv
        go_wp2_with (go_at_call 34; refine (notValidG_any _ _ _).mono ?_; rintro e w1 ⟨rfl, hb1⟩)
        go_ret
        refine ⟨k, rfl, ?_, hbel.trans (hb1.mono hbel.size)⟩
        have : allValid L = false := by unfold allValid; rw [List.all_eq_false]; exact ⟨p, hmem, by simp [hv']⟩
        rw [this]; simp
    · have hl := hr.1
      replace hl := Lib.hid hl
      clear hr
      go_wp2_with fail
      go_ret
      refine ⟨-1, rfl, ?_, hbel⟩
      have := hall.out
      rw [List.take_of_length_le (by rw [hl.out]; omega)] at this
      rw [this]; simp

theorem containsFuncG_any (A : Option Addr) (n c : Nat) (L : List (Int × Int)) (w : World) (hr : RdH w A n L) (hn : n ≤ 1000000000) :
    Calls Tryd.prog 33 #[.slice A n c, .func (.func 34) #[] #[]] w fun e w' => e = .returned (.bool (!allValid L)) ∧ Below w.heap.size w w' := by
  have hi := Lib.hid (indexFuncG_any A n c L w hr hn)
  go_enter Tryd.func33, Tryd.ntmps33
  go_wp2_with fail
  refine hi.out.mono ?_
  rintro e w1 ⟨r, rfl, hd, hb1⟩
  replace hd := Lib.hid hd
  go_wp2_with fail
  go_ret
  exact ⟨ret_bool hd.out, hb1⟩


/-- the low byte -/
def b8 (n : Int) : UInt8 := UInt8.ofNat (n % 256).toNat
theorem b8_nat (n : Int) : ((b8 n).toNat : Int) = n % 256 := by
  unfold b8
  rw [UInt8.toNat_ofNat']
  omega
theorem wrap_u8 (n : Int) : IntKind.u8.wrap n = ((b8 n).toNat : Int) := by
  rw [b8_nat]; simp [IntKind.wrap, IntKind.signed, IntKind.bits]
def opL (c o : Int) : List UInt8 := if opBytes c = 0 then [] else if opBytes c = 1 then [b8 o] else [b8 (o / 256), b8 o]
def hintL (p : Int × Int) : List UInt8 := b8 p.1 :: opL p.1 p.2
def progL (L : List (Int × Int)) : List UInt8 := L.flatMap hintL
theorem progL_snoc (L : List (Int × Int)) (p : Int × Int) : progL (L ++ [p]) = progL L ++ hintL p := by simp [progL]
theorem hintL_len (p : Int × Int) : (hintL p).length ≤ 3 := by unfold hintL opL; split <;> (try split) <;> simp
theorem progL_len (L : List (Int × Int)) : (progL L).length ≤ 3 * L.length := by
  induction L with
  | nil => simp [progL]
  | cons p L ih =>
    have : progL (p :: L) = hintL p ++ progL L := by simp [progL]
    rw [this, List.length_append, List.length_cons]
    have := hintL_len p
    omega
/-- what a program's making comes to -/
def makeR (L : List (Int × Int)) : List UInt8 × Int :=
  if allValid L = false then ([], 1) else if nestB (codesOf L) = false then ([], 6) else if 400 < (progL L).length then ([], 5) else (progL L, 0)
theorem valid_at {L : List (Int × Int)} (h : allValid L = true) {k : Nat} {p : Int × Int} (hk : L[k]? = some p) : validHint p.1 p.2 = true := by
  unfold allValid at h
  rw [List.all_eq_true] at h
  exact h p (List.mem_of_getElem? hk)
end Go.Proofs.YtjmogpolipinlaaDoor
