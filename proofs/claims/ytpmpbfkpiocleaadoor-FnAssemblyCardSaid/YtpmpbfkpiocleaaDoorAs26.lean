/- The walks of the functions that tell the partner of an instruction. Conditions: as each states. -/
import Derived.Test.YtpmpbfkpiocleaaDoorAs25
import Derived.Test.YtpmpbfkpiocleaaDoorAs19
namespace Go.Proofs.YtpmpbfkpiocleaaDoor
open Go.RowKit
set_option linter.unusedVariables false
set_option maxRecDepth 100000

/-- where the scan stands -/
def ScanAt (codes : List Int) (t k : Nat) (d : Int) : Prop := ∃ f, codes.length < k + f ∧ scan codes t = scanF codes t f k d
theorem ScanAt.done {codes : List Int} {t k : Nat} {d : Int} (h : ScanAt codes t k d) (hk : codes.length ≤ k) : scan codes t = -1 := by
  obtain ⟨f, _, h⟩ := h
  rw [h]; cases f with
  | zero => rfl
  | succ f => rw [scanF, if_pos hk]
theorem ScanAt.next {codes : List Int} {t k : Nat} {d : Int} (h : ScanAt codes t k d) (hk : k < codes.length) : ∃ f, codes.length < k + 1 + f ∧ scan codes t =
    (if codes.getD k 0 = 35 ∨ codes.getD k 0 = 44 then scanF codes t f (k + 1) (d + 1)
    else if codes.getD k 0 = 36 then (if d = 0 ∧ codes.getD t 0 = 35 then (k : Int) else scanF codes t f (k + 1) d)
    else if codes.getD k 0 = 37 ∨ codes.getD k 0 = 38 then
      (if d = 0 then (if (codes.getD k 0 = 38 ↔ codes.getD t 0 = 44) then (k : Int) else -1) else scanF codes t f (k + 1) (d - 1))
    else scanF codes t f (k + 1) d) := by
  obtain ⟨f, hf, h⟩ := h
  cases f with
  | zero => omega
  | succ f => exact ⟨f, by omega, by rw [h, scanF, if_neg (by omega)]⟩

def allValid (L : List (Int × Int)) : Bool := L.all fun p => validHint p.1 p.2

theorem notValid_any (c o : Int) (w : World) :
    Calls Tryd.prog 27 #[hintV c o] w fun e w' => e = .returned (.bool (!validHint c o)) ∧ Below w.heap.size w w' := by
  go_enter Tryd.func27, Tryd.ntmps27
  go_wp2_with (go_at_call 15; refine (implValidHint_any _ _ _).mono ?_; rintro e w1 ⟨rfl, hb1⟩)
  go_ret
  exact ⟨rfl, ((Below.refl _ _).alloc (Nat.le_refl _) _).trans (hb1.mono (by simp))⟩

theorem indexFunc_any (A : Option Addr) (n c : Nat) (L : List (Int × Int)) (w : World) (hr : RdH w A n L) (hn : n ≤ 1000000000) :
    Calls Tryd.prog 31 #[.slice A n c, .func (.func 27) #[] #[]] w fun e w' => ∃ r : Int, e = .returned (.int .i64 r) ∧ decide (0 ≤ r) = !allValid L ∧ Below w.heap.size w w' := by
  go_enter Tryd.func31, Tryd.ntmps31
  go_wp2_with fail
  go_loopw [8] (fun i wr => ∃ k : Nat, i = .int .i64 k ∧ k ≤ n ∧ allValid (L.take k) = true ∧ Below w.heap.size w wr) (fun i wr => n - (intOf i).toNat)
  case atStart => exact ⟨0, rfl, Nat.zero_le _, rfl, Below.refl _ _⟩
  case round =>
    obtain ⟨k, rfl, hk, hall, hbel⟩ := hrel
    replace hall := Lib.hid hall
    by_cases hlt : k < n
    · obtain ⟨hl, hcs⟩ := hr
      obtain ⟨b, off, rfl, hb, hcs⟩ := hcs (by omega)
      obtain ⟨h1, h2⟩ := hcs k hlt
      rw [← hbel.cell (p := ⟨b, off + k * 2, none⟩) hb] at h1
      rw [← hbel.cell (p := ⟨b, off + k * 2 + 1, none⟩) hb] at h2
      have hsp : ∀ p, L.getD k (0, 0) = p → L.take (k + 1) = L.take k ++ [p] := by
        rintro p rfl
        rw [List.take_succ_eq_append_getElem (by omega)]
        simp [hl, hlt]
      have hmem : L.getD k (0, 0) ∈ L := by
        rw [List.getD_eq_getElem?_getD, List.getElem?_eq_getElem (by omega)]; simp
      generalize L.getD k (0, 0) = p at h1 h2 hsp hmem
      replace hsp := Lib.hid (hsp p rfl)
      replace hl := Lib.hid hl
      clear hcs
      by_cases hv : validHint p.1 p.2 = true
      · go_wp2_with (go_at_call 27; refine (notValid_any _ _ _).mono ?_; rintro e w1 ⟨rfl, hb1⟩)
        go_roundw
        case rel => exact ⟨k + 1, by go_num, by omega, by rw [hsp.out]; unfold allValid; rw [List.all_append]; have := hall.out; unfold allValid at this; rw [this]; simp [hv], hbel.trans (hb1.mono hbel.size)⟩
        case measure => simp [intOf]; omega
      · have hv' : validHint p.1 p.2 = false := by simpa using hv
        clear hv
        go_wp2_with (go_at_call 27; refine (notValid_any _ _ _).mono ?_; rintro e w1 ⟨rfl, hb1⟩)
        go_ret
        refine ⟨k, rfl, ?_, hbel.trans (hb1.mono hbel.size)⟩
        have : allValid L = false := by unfold allValid; rw [List.all_eq_false]; exact ⟨p, hmem, by simp [hv']⟩
        rw [this]; simp
    · have hl := hr.1
      replace hl := Lib.hid hl
      clear hr
      go_wp2_with fail
      go_ret
      refine ⟨-1, rfl, ?_, hbel⟩
      have := hall.out
      rw [List.take_of_length_le (by rw [hl.out]; omega)] at this
      rw [this]; simp

theorem containsFunc_any (A : Option Addr) (n c : Nat) (L : List (Int × Int)) (w : World) (hr : RdH w A n L) (hn : n ≤ 1000000000) :
    Calls Tryd.prog 13 #[.slice A n c, .func (.func 27) #[] #[]] w fun e w' => e = .returned (.bool (!allValid L)) ∧ Below w.heap.size w w' := by
  have hi := Lib.hid (indexFunc_any A n c L w hr hn)
  go_enter Tryd.func13, Tryd.ntmps13
  go_wp2_with fail
  refine hi.out.mono ?_
  rintro e w1 ⟨r, rfl, hd, hb1⟩
  replace hd := Lib.hid hd
  go_wp2_with fail
  go_ret
  exact ⟨ret_bool hd.out, hb1⟩

/-- what is told of the partner: a number and a code -/
def partR (L : List (Int × Int)) (t : Int) : Int × Int :=
  if (allValid L && nestB (codesOf L)) = false then (0, 1)
  else if t < 0 ∨ (L.length : Int) ≤ t then (0, 2)
  else if (codesOf L).getD t.toNat 0 = 35 ∨ (codesOf L).getD t.toNat 0 = 36 ∨ (codesOf L).getD t.toNat 0 = 44 then (scan (codesOf L) t.toNat, 0)
  else (0, 6)

end Go.Proofs.YtpmpbfkpiocleaaDoor

