/- The walks of the functions that tell the partner of an instruction. Conditions: as each states. -/
import Derived.Test.YtjlkdmnellbaeaaHintS
import Derived.Test.YtjlkdmnellbaeaaPartP
namespace Go.Proofs.Ytjlkdmnellbaeaa
open Go.RowKit
set_option linter.unusedVariables false

/-- where the scan stands -/
def ScanAt (codes : List Int) (t k : Nat) (d : Int) : Prop := ∃ f, codes.length < k + f ∧ scan codes t = scanF codes t f k d
theorem ScanAt.done {codes : List Int} {t k : Nat} {d : Int} (h : ScanAt codes t k d) (hk : codes.length ≤ k) : scan codes t = -1 := by
  obtain ⟨f, _, h⟩ := h
  rw [h]; cases f with
  | zero => rfl
  | succ f => rw [scanF, if_pos hk]
theorem ScanAt.next {codes : List Int} {t k : Nat} {d : Int} (h : ScanAt codes t k d) (hk : k < codes.length) : ∃ f, codes.length < k + 1 + f ∧ scan codes t =
    (if codes.getD k 0 = 35 ∨ codes.getD k 0 = 44 then scanF codes t f (k + 1) (d + 1)
    else if codes.getD k 0 = 36 then (if d = 0 ∧ codes.getD t 0 = 35 then (k : Int) else scanF codes t f (k + 1) d)
    else if codes.getD k 0 = 37 ∨ codes.getD k 0 = 38 then
      (if d = 0 then (if (codes.getD k 0 = 38 ↔ codes.getD t 0 = 44) then (k : Int) else -1) else scanF codes t f (k + 1) (d - 1))
    else scanF codes t f (k + 1) d) := by
  obtain ⟨f, hf, h⟩ := h
  cases f with
  | zero => omega
  | succ f => exact ⟨f, by omega, by rw [h, scanF, if_neg (by omega)]⟩

set_option maxHeartbeats 4000000 in
theorem l19Partner_any (A : Option Addr) (n c t : Nat) (L : List (Int × Int)) (codes : List Int) (w : World) (hr : RdH w A n L) (hn : n ≤ 1000000000) (hcodes : codes = L.map (·.1)) (ht : t < n) :
    Calls Try.prog 65 #[.slice A n c, .int .i64 t] w fun e w' => e = .returned (.int .i64 (scan codes t)) ∧ Below w.heap.size w w' := by
  have hlen : codes.length = n := by rw [hcodes, List.length_map, hr.1]
  obtain ⟨hl, hcs⟩ := hr
  obtain ⟨b, off, rfl, hb, hcs⟩ := hcs (by omega)
  have hcs' : ∀ j, j < n → w.cell? ⟨b, off + j * 2, none⟩ = some (.int .i64 (codes.getD j 0)) := by
    intro j hj
    rw [(hcs j hj).1, hcodes]
    simp [List.getD_eq_getElem?_getD, hl, hj]
  clear hcs hcodes hl
  replace hlen := Lib.hid hlen
  replace hcs' := Lib.hid hcs'
  go_enter Try.func65, Try.ntmps65
  go_wp2_with fail
  go_loopw [5, 6] (fun dv i wr => ∃ (k : Nat) (d : Int), i = .int .i64 k ∧ dv = .int .i64 d ∧ 0 ≤ d ∧ d ≤ k ∧ k ≤ n ∧ ScanAt codes t k d ∧ Below w.heap.size w wr) (fun dv i wr => n - (intOf i).toNat)
  case atStart => exact ⟨t + 1, 0, by go_num, rfl, by omega, by omega, by omega, ⟨codes.length + 1, by omega, rfl⟩, Below.refl _ _⟩
  case round =>
    obtain ⟨k, d, rfl, rfl, hd0, hdk, hk, hsc, hbel⟩ := hrel
    by_cases hlt : k < n
    · obtain ⟨f, hf, hs⟩ := hsc.next (by rw [hlen.out]; exact hlt)
      replace hs := Lib.hid hs
      clear hsc
      have h1 := (hbel.cell (p := ⟨b, off + k * 2, none⟩) hb).trans (hcs'.out k hlt)
      have h2 := (hbel.cell (p := ⟨b, off + t * 2, none⟩) hb).trans (hcs'.out t ht)
      have hi1 : (0 : Int) ≤ (k : Int) ∧ (k : Int) < (n : Int) := by omega
      have hi2 : (0 : Int) ≤ (t : Int) ∧ (t : Int) < (n : Int) := by omega
      obtain ⟨cd, hcd⟩ : ∃ cd, cd = codes.getD k 0 := ⟨_, rfl⟩
      obtain ⟨ct, hct⟩ : ∃ ct, ct = codes.getD t 0 := ⟨_, rfl⟩
      rw [← hcd] at h1 hs
      rw [← hct] at h2 hs
      replace hcd := Lib.hid hcd
      replace hct := Lib.hid hct
      by_cases c1 : cd = 35 ∨ cd = 44
      · have hs' := Lib.hid (hs.out.trans (if_pos c1))
        rcases c1 with rfl | rfl
        all_goals
          go_wp2_with fail
          go_roundw
          case rel => exact ⟨k + 1, d + 1, by go_num, by go_num, by omega, by omega, by omega, ⟨f, by omega, hs'.out⟩, hbel⟩
          case measure => simp [intOf]; omega
      replace hs := Lib.hid (hs.out.trans (if_neg c1))
      have e1 : (cd == 35) = false := by simp; omega
      have e2 : (cd == 44) = false := by simp; omega
      clear c1
      by_cases c2 : cd = 36
      · replace hs := Lib.hid (hs.out.trans (if_pos c2))
        subst c2
        by_cases c3 : d = 0
        · subst c3
          by_cases c4 : ct = 35
          · replace hs := Lib.hid (hs.out.trans (if_pos ⟨rfl, c4⟩))
            subst c4
            go_wp2_with fail
            go_ret
            exact ⟨ret_int hs.out.symm, hbel⟩
          · replace hs := Lib.hid (hs.out.trans (if_neg (fun h => c4 h.2)))
            have e3 : (ct == 35) = false := by simpa using c4
            clear c4
            go_wp2_with fail
            go_roundw
            case rel => exact ⟨k + 1, 0, by go_num, by go_num, by omega, by omega, by omega, ⟨f, by omega, hs.out⟩, hbel⟩
            case measure => simp [intOf]; omega
        · replace hs := Lib.hid (hs.out.trans (if_neg (fun h => c3 h.1)))
          have e3 : (d == 0) = false := by simpa using c3
          clear c3
          go_wp2_with fail
          go_roundw
          case rel => exact ⟨k + 1, d, by go_num, by go_num, by omega, by omega, by omega, ⟨f, by omega, hs.out⟩, hbel⟩
          case measure => simp [intOf]; omega
      replace hs := Lib.hid (hs.out.trans (if_neg c2))
      have e4 : (cd == 36) = false := by simpa using c2
      clear c2
      by_cases c5 : cd = 37 ∨ cd = 38
      · replace hs := Lib.hid (hs.out.trans (if_pos c5))
        by_cases c3 : d = 0
        · subst c3
          replace hs := Lib.hid (hs.out.trans (if_pos rfl))
          by_cases c6 : ct = 44
          · subst c6
            rcases c5 with rfl | rfl
            · replace hs := Lib.hid (hs.out.trans (if_neg (by simp)))
              go_wp2_with fail
              go_quiet (fail)
              go_wp2_with fail
              go_ret
              exact ⟨ret_int hs.out.symm, below_drewN hbel _⟩
            · replace hs := Lib.hid (hs.out.trans (if_pos (by simp)))
              go_wp2_with fail
              go_quiet (fail)
              go_wp2_with fail
              go_ret
              exact ⟨ret_int hs.out.symm, below_drewN hbel _⟩
          · have e5 : (ct == 44) = false := by simpa using c6
            rcases c5 with rfl | rfl
            · replace hs := Lib.hid (hs.out.trans (if_pos (by simp [c6])))
              clear c6
              go_wp2_with fail
              go_quiet (fail)
              go_wp2_with fail
              go_ret
              exact ⟨ret_int hs.out.symm, below_drewN hbel _⟩
            · replace hs := Lib.hid (hs.out.trans (if_neg (by simp [c6])))
              clear c6
              go_wp2_with fail
              go_quiet (fail)
              go_wp2_with fail
              go_ret
              exact ⟨ret_int hs.out.symm, below_drewN hbel _⟩
        · replace hs := Lib.hid (hs.out.trans (if_neg c3))
          have e3 : (d == 0) = false := by simpa using c3
          have e6 : 1 ≤ d := by omega
          clear c3
          rcases c5 with rfl | rfl
          all_goals
            go_wp2_with fail
            go_roundw
            case rel => exact ⟨k + 1, d - 1, by go_num, by go_num, by omega, by omega, by omega, ⟨f, by omega, hs.out⟩, hbel⟩
            case measure => simp [intOf]; omega
      · replace hs := Lib.hid (hs.out.trans (if_neg c5))
        have e7 : (cd == 37) = false := by simp; omega
        have e8 : (cd == 38) = false := by simp; omega
        clear c5
        go_wp2_with fail
        go_roundw
        case rel => exact ⟨k + 1, d, by go_num, by go_num, by omega, by omega, by omega, ⟨f, by omega, hs.out⟩, hbel⟩
        case measure => simp [intOf]; omega
    · have hd := Lib.hid (hsc.done (by rw [hlen.out]; omega))
      clear hsc
      go_wp2_with fail
      go_ret
      exact ⟨ret_int hd.out.symm, hbel⟩

def allValid (L : List (Int × Int)) : Bool := L.all fun p => validHint p.1 p.2

theorem notValid_any (c o : Int) (w : World) :
    Calls Try.prog 67 #[hintV c o] w fun e w' => e = .returned (.bool (!validHint c o)) ∧ Below w.heap.size w w' := by
  go_enter Try.func67, Try.ntmps67
  go_wp2_with (go_at_call 21; refine (implValidHint_any _ _ _).mono ?_; rintro e w1 ⟨rfl, hb1⟩)
  go_ret
  exact ⟨rfl, ((Below.refl _ _).alloc (Nat.le_refl _) _).trans (hb1.mono (by simp))⟩

theorem indexFunc_any (A : Option Addr) (n c : Nat) (L : List (Int × Int)) (w : World) (hr : RdH w A n L) (hn : n ≤ 1000000000) :
    Calls Try.prog 79 #[.slice A n c, .func (.func 67) #[] #[]] w fun e w' => ∃ r : Int, e = .returned (.int .i64 r) ∧ decide (0 ≤ r) = !allValid L ∧ Below w.heap.size w w' := by
  go_enter Try.func79, Try.ntmps79
  go_wp2_with fail
  go_loopw [8] (fun i wr => ∃ k : Nat, i = .int .i64 k ∧ k ≤ n ∧ allValid (L.take k) = true ∧ Below w.heap.size w wr) (fun i wr => n - (intOf i).toNat)
  case atStart => exact ⟨0, rfl, Nat.zero_le _, rfl, Below.refl _ _⟩
  case round =>
    obtain ⟨k, rfl, hk, hall, hbel⟩ := hrel
    replace hall := Lib.hid hall
    by_cases hlt : k < n
    · obtain ⟨hl, hcs⟩ := hr
      obtain ⟨b, off, rfl, hb, hcs⟩ := hcs (by omega)
      obtain ⟨h1, h2⟩ := hcs k hlt
      rw [← hbel.cell (p := ⟨b, off + k * 2, none⟩) hb] at h1
      rw [← hbel.cell (p := ⟨b, off + k * 2 + 1, none⟩) hb] at h2
      have hsp : ∀ p, L.getD k (0, 0) = p → L.take (k + 1) = L.take k ++ [p] := by
        rintro p rfl
        rw [List.take_succ_eq_append_getElem (by omega)]
        simp [hl, hlt]
      have hmem : L.getD k (0, 0) ∈ L := by
        rw [List.getD_eq_getElem?_getD, List.getElem?_eq_getElem (by omega)]; simp
      generalize L.getD k (0, 0) = p at h1 h2 hsp hmem
      replace hsp := Lib.hid (hsp p rfl)
      replace hl := Lib.hid hl
      clear hcs
      by_cases hv : validHint p.1 p.2 = true
      · go_wp2_with (go_at_call 67; refine (notValid_any _ _ _).mono ?_; rintro e w1 ⟨rfl, hb1⟩)
        go_roundw
        case rel => exact ⟨k + 1, by go_num, by omega, by rw [hsp.out]; unfold allValid; rw [List.all_append]; have := hall.out; unfold allValid at this; rw [this]; simp [hv], hbel.trans (hb1.mono hbel.size)⟩
        case measure => simp [intOf]; omega
      · have hv' : validHint p.1 p.2 = false := by simpa using hv
        clear hv
        go_wp2_with (go_at_call 67; refine (notValid_any _ _ _).mono ?_; rintro e w1 ⟨rfl, hb1⟩)
        go_ret
        refine ⟨k, rfl, ?_, hbel.trans (hb1.mono hbel.size)⟩
        have : allValid L = false := by unfold allValid; rw [List.all_eq_false]; exact ⟨p, hmem, by simp [hv']⟩
        rw [this]; simp
    · have hl := hr.1
      replace hl := Lib.hid hl
      clear hr
      go_wp2_with fail
      go_ret
      refine ⟨-1, rfl, ?_, hbel⟩
      have := hall.out
      rw [List.take_of_length_le (by rw [hl.out]; omega)] at this
      rw [this]; simp

theorem containsFunc_any (A : Option Addr) (n c : Nat) (L : List (Int × Int)) (w : World) (hr : RdH w A n L) (hn : n ≤ 1000000000) :
    Calls Try.prog 66 #[.slice A n c, .func (.func 67) #[] #[]] w fun e w' => e = .returned (.bool (!allValid L)) ∧ Below w.heap.size w w' := by
  have hi := Lib.hid (indexFunc_any A n c L w hr hn)
  go_enter Try.func66, Try.ntmps66
  go_wp2_with fail
  refine hi.out.mono ?_
  rintro e w1 ⟨r, rfl, hd, hb1⟩
  replace hd := Lib.hid hd
  go_wp2_with fail
  go_ret
  exact ⟨ret_bool hd.out, hb1⟩

/-- what is told of the partner: a number and a code -/
def partR (L : List (Int × Int)) (t : Int) : Int × Int :=
  if (allValid L && nestB (codesOf L)) = false then (0, 1)
  else if t < 0 ∨ (L.length : Int) ≤ t then (0, 2)
  else if (codesOf L).getD t.toNat 0 = 35 ∨ (codesOf L).getD t.toNat 0 = 36 ∨ (codesOf L).getD t.toNat 0 = 44 then (scan (codesOf L) t.toNat, 0)
  else (0, 6)

set_option maxHeartbeats 2000000 in
theorem specPartnerOf_any (A : Option Addr) (n c : Nat) (t : Int) (L : List (Int × Int)) (w : World) (hr : RdH w A n L) (hn : n ≤ 1000000000) (x y : Int) (hxy : partR L t = (x, y)) :
    Calls Try.prog 35 #[.slice A n c, .int .i64 t] w fun e w' => e = .returned (.tuple #[.int .i64 x, .int .i64 y]) ∧ Below w.heap.size w w' := by
  have hll := hr.1
  have ha := Lib.hid (l19All_any A n c L w hr hn)
  have hnst : Hid (∀ w', Below w.heap.size w w' → Calls Try.prog 64 #[.slice A n c] w' fun e w'' => e = .returned (.bool (nestB (codesOf L))) ∧ Below w'.heap.size w' w'') :=
    fun w' hb => l19Nested_any A n c L (codesOf L) w' (hr.below hb) hn rfl
  replace hll := Lib.hid hll
  replace hxy := Lib.hid hxy
  have hR := Lib.hid hr
  clear hr
  cases hav : allValid L
  · have hxy2 : partR L t = (0, 1) := by unfold partR; rw [if_pos (by rw [hav]; rfl)]
    obtain ⟨rfl, rfl⟩ : x = 0 ∧ y = 1 := by rw [hxy.out] at hxy2; injection hxy2 with a b; exact ⟨a, b⟩
    clear hxy2
    have hav' : (L.all fun p => validHint p.1 p.2) = false := hav
    go_enter Try.func35, Try.ntmps35
    go_wp2_with (go_at_call 63; refine ha.out.mono ?_; rintro e w1 ⟨rfl, hb1⟩)
    go_ret2
    exact ⟨rfl, hb1⟩
  · have hav' : (L.all fun p => validHint p.1 p.2) = true := hav
    cases hne : nestB (codesOf L)
    · have hxy2 : partR L t = (0, 1) := by unfold partR; rw [if_pos (by rw [hav, hne]; rfl)]
      obtain ⟨rfl, rfl⟩ : x = 0 ∧ y = 1 := by rw [hxy.out] at hxy2; injection hxy2 with a b; exact ⟨a, b⟩
      clear hxy2
      go_enter Try.func35, Try.ntmps35
      go_wp2_with (first | (go_at_call 63; refine ha.out.mono ?_; rintro e w1 ⟨rfl, hb1⟩) | (go_at_call 64; refine (hnst.out _ hb1).mono ?_; rintro e w2 ⟨rfl, hb2⟩))
      go_ret2
      exact ⟨rfl, hb1.trans (hb2.mono hb1.size)⟩
    · cases hib : inB t 0 ((n : Int) - 1)
      · have hxy2 : partR L t = (0, 2) := by
          unfold partR; rw [if_neg (by rw [hav, hne]; simp), if_pos (by have := inB_false.1 hib; have := hll.out; omega)]
        obtain ⟨rfl, rfl⟩ : x = 0 ∧ y = 2 := by rw [hxy.out] at hxy2; injection hxy2 with a b; exact ⟨a, b⟩
        clear hxy2
        go_enter Try.func35, Try.ntmps35
        go_wp2_with (first | (go_at_call 63; refine ha.out.mono ?_; rintro e w1 ⟨rfl, hb1⟩) | (go_at_call 64; refine (hnst.out _ hb1).mono ?_; rintro e w2 ⟨rfl, hb2⟩) | (go_at_call 45; refine (l00In_any _ _ _ _).mono ?_; rintro e w' ⟨rfl, rfl⟩))
        go_ret2
        exact ⟨rfl, hb1.trans (hb2.mono hb1.size)⟩
      · obtain ⟨ht0, htn⟩ := inB_iff.1 hib
        obtain ⟨q, rfl⟩ : ∃ q : Nat, t = q := ⟨t.toNat, by omega⟩
        have hqn : q < n := by omega
        have hpart := Lib.hid (fun w' (hb : Below w.heap.size w w') => l19Partner_any A n c q L (codesOf L) w' (hR.out.below hb) hn rfl hqn)
        obtain ⟨b, off, rfl, hb, hcs⟩ := hR.out.2 (by omega)
        have h1 := (hcs q hqn).1
        clear hcs
        have e0 : (L.getD q (0, 0)).1 = (codesOf L).getD q 0 := by
          have := hll.out
          simp [codesOf, List.getD_eq_getElem?_getD, this, hqn]
        rw [e0] at h1
        replace h1 := Lib.hid h1
        clear e0
        obtain ⟨cd, hcd⟩ : ∃ cd, cd = (codesOf L).getD q 0 := ⟨_, rfl⟩
        rw [← hcd] at h1
        have hxy2 : partR L q = if cd = 35 ∨ cd = 36 ∨ cd = 44 then (scan (codesOf L) q, 0) else (0, 6) := by
          unfold partR; rw [if_neg (by rw [hav, hne]; simp), if_neg (by have := hll.out; omega), hcd]; rfl
        replace hcd := Lib.hid hcd
        by_cases c1 : cd = 35 ∨ cd = 36 ∨ cd = 44
        · rw [if_pos c1] at hxy2
          obtain ⟨rfl, rfl⟩ : x = scan (codesOf L) q ∧ y = 0 := by rw [hxy.out] at hxy2; injection hxy2 with a b; exact ⟨a, b⟩
          clear hxy2
          rcases c1 with rfl | rfl | rfl
          all_goals
            go_enter Try.func35, Try.ntmps35
            go_wp2_with (first | (go_at_call 63; refine ha.out.mono ?_; rintro e w1 ⟨rfl, hb1⟩) | (go_at_call 64; refine (hnst.out _ hb1).mono ?_; rintro e w2 ⟨rfl, hb2⟩; have hb3 := hb1.trans (hb2.mono hb1.size); have h2 := (hb3.cell (p := ⟨b, off + q * 2, none⟩) hb).trans h1.out) | (go_at_call 45; refine (l00In_any _ _ _ _).mono ?_; rintro e w' ⟨rfl, rfl⟩) | (go_at_call 65; refine (hpart.out _ hb3).mono ?_; rintro e w4 ⟨rfl, hb4⟩))
            go_ret2
            exact ⟨rfl, hb3.trans (hb4.mono hb3.size)⟩
        · rw [if_neg c1] at hxy2
          obtain ⟨rfl, rfl⟩ : x = 0 ∧ y = 6 := by rw [hxy.out] at hxy2; injection hxy2 with a b; exact ⟨a, b⟩
          clear hxy2
          have e1 : (cd == 35) = false := by simp; omega
          have e2 : (cd == 36) = false := by simp; omega
          have e3 : (cd == 44) = false := by simp; omega
          clear c1
          go_enter Try.func35, Try.ntmps35
          go_wp2_with (first | (go_at_call 63; refine ha.out.mono ?_; rintro e w1 ⟨rfl, hb1⟩) | (go_at_call 64; refine (hnst.out _ hb1).mono ?_; rintro e w2 ⟨rfl, hb2⟩; have hb3 := hb1.trans (hb2.mono hb1.size); have h2 := (hb3.cell (p := ⟨b, off + q * 2, none⟩) hb).trans h1.out) | (go_at_call 45; refine (l00In_any _ _ _ _).mono ?_; rintro e w' ⟨rfl, rfl⟩))
          go_ret2
          exact ⟨rfl, hb3⟩
end Go.Proofs.Ytjlkdmnellbaeaa
