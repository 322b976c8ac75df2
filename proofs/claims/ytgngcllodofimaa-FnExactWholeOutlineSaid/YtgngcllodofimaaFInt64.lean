/- The laws' own functions on slices of Int64. Conditions: as each states. -/
import Derived.Test.YtgngcllodofimaaDat
import Derived.Test.YtgngcllodofimaaProg
import Derived.RegionTactic
import Derived.ChangeAlike
import Derived.Outline
import Derived.Deep.RegionWith
import Derived.StillTailTactics
import Derived.BigQuiet
import Derived.Deep.QuietTactic
import Derived.WalkSmall
namespace Go.Proofs.Ytgngcllodofimaa
open Go.RowKit
set_option linter.unusedVariables false
set_option maxRecDepth 100000

theorem elemInt64 : Elem Try.prog 60 2 1 8 := elem_mk (z := .int .i64 0) Try.underlying60 (by kernel_rfl) rfl (by omega)
theorem infoInt64 : (Try.prog.info? 2).map (fun i => (i.zero, i.size, i.bytes)) = some (some (.int .i64 0), 1, 8) := by kernel_rfl

theorem szInt64S_any (A : Option Addr) (n c : Nat) (left : Int) (w : World) (hn : n ≤ 9223372036854775807) (h0 : 0 ≤ left) (h1 : left ≤ 1048576) (r : Int) (hr : r = if (n : Int) ≤ left then left - n else -1) :
    Calls Try.prog 106 #[.slice A n c, .int .i64 left] w fun e w' => e = .returned (.int .i64 r) ∧ w = w' := by
  by_cases h : (n : Int) ≤ left
  · rw [if_pos h] at hr
    subst hr
    go_enter Try.func106, Try.ntmps106
    go_wp2_with fail
    go_ret
    exact ⟨rfl, rfl⟩
  · rw [if_neg h] at hr
    subst hr
    go_enter Try.func106, Try.ntmps106
    go_wp2_with fail
    go_ret
    exact ⟨rfl, rfl⟩

set_option maxHeartbeats 1000000 in
theorem toInt64S_any (A : Option Addr) (n c lo hi : Nat) (L : List (Int)) (w : World) (hr : RdS 1 (FlatR intC) w lo hi A n L) (hhi : hi ≤ w.heap.size) (hn : n ≤ 1048576) :
    Calls Try.prog 31 #[.slice A n c] w fun e w' => ∃ g, e = .returned (.slice (some ⟨g, 0, none⟩) n n) ∧ g = w.heap.size ∧ w'.ownsRow w.heap.size 2 1 (.slice (some ⟨g, 0, none⟩) n n) n (L.flatMap intC) ∧ Below w.heap.size w w' := by
  obtain ⟨i0, hi0, hz0, hs0, hby0⟩ := info_parts infoInt64
  replace hr := Lib.hid hr
  go_enter Try.func31, Try.ntmps31
  go_wp2_with (at_make; refine wpList_make_full _ rfl _ _ 60 rfl w.heap.size 2 i0 (.int .i64 0) 1 Try.underlying60 hi0 hz0 hs0 .i64 .i64 _ _ n rfl rfl rfl rfl (by rw [hby0]; omega) (by unfold maxLen; omega) (Nat.le_refl _) ?_; intro w0 hown0 hg0)
  have hb0 : Below w.heap.size w w0 := (Below.refl _ _).grown hg0 (Nat.le_refl _) (by simp)
  clear hg0
  go_loopw [4] (fun i wr => ∃ (k : Nat) (ys : List Value), i = .int .i64 k ∧ k ≤ n ∧ wr.ownsRow w.heap.size 2 1 (.slice (some ⟨w.heap.size, 0, none⟩) n n) n ys ∧ (∀ j a, j < k → L[j]? = some a → ∀ i, i < 1 → ys[j + i]? = (intC a)[i]?) ∧ Below w.heap.size w wr) (fun i wr => n - (intOf i).toNat)
  case atStart => exact ⟨0, _, rfl, Nat.zero_le _, hown0, fun j a hj => absurd hj (Nat.not_lt_zero j), hb0⟩
  case round =>
    clear hown0 hb0
    obtain ⟨k, ys, rfl, hk, ho, hall, hbel⟩ := hrel
    replace hall := Lib.hid hall
    by_cases hlt : k < n
    · obtain ⟨b, off, x0, rfl, hb0, hb, hja, hcs⟩ := (hr.out.frame (good_flat _) (Below.sameB hbel hhi)).at hlt
      have q0 := hcs 0 _ rfl
      simp only [Nat.add_zero, Nat.mul_one] at q0
      clear hcs
      replace hja := Lib.hid hja
      have ho1 := ho
      obtain ⟨g, hg, _, hglt, _, hcell, hfr⟩ := own_at ho1 (by omega)
      injection hg with hg
      injection hg with hg
      subst hg
      have hyl := ho1.1
      have c0 := hcell (k) (by omega)
      rw [List.getElem?_eq_getElem (by omega)] at c0
      have f0 := hfr (k)
      clear hcell hfr
      replace ho1 := Lib.hid ho1
      replace hyl := Lib.hid hyl
      generalize ys[k]'(by have := hyl.out; omega) = v0 at c0
      go_wp2_with fail
      go_roundw
      case rel =>
        have hyl := ho1.out.1
        refine ⟨k + 1, _, by go_num, by omega, (ho1.out.stored (k) (.int .i64 x0)).1, fun j a hj ha i hi => ?_, (hbel).setCell (Nat.le_refl _) _⟩
        rcases Nat.lt_or_ge j k with h | h
        · rw [List.getElem?_set_ne (by omega)]
          exact hall.out j a h ha i hi
        · obtain rfl : j = k := by omega
          have ha := Option.some.inj (hja.out.symm.trans ha)
          subst ha
          obtain rfl | hi' : i = 0 ∨ 0 < i := by omega
          · simp only [Nat.add_zero]
            rw [List.getElem?_set_self (by first | omega | (simp only [List.length_set]; omega))]
            rfl
          omega
      case measure => simp [intOf]; omega
    · have hkn : k = n := by omega
      replace hkn := Lib.hid hkn
      replace ho := Lib.hid ho
      go_wp2_with fail
      go_ret
      refine ⟨w.heap.size, rfl, rfl, ?_, hbel⟩
      have : ys = L.flatMap intC := flat_ext (k := 1) (n := n) intC_len hr.out.1 ho.out.1 fun j a ha i hi => by
        have h1 := hall.out j a (by rw [hkn.out]; have := (List.getElem?_eq_some_iff.1 ha).1; rw [hr.out.1] at this; exact this) ha i hi
        simpa using h1
      rw [← this]; exact ho.out

set_option maxRecDepth 100000 in
set_option maxHeartbeats 1000000 in
theorem eqInt64S_any (A A' : Option Addr) (n c n' c' lo hi lo' hi' : Nat) (L : List (Int)) (w : World) (h1 : RdS 1 (FlatR intC) w lo hi A n L) (h2 : RdS 1 (FlatR intC) w lo' hi' A' n' L) (hh1 : hi ≤ w.heap.size) (hh2 : hi' ≤ w.heap.size) (hn : n ≤ 1000000000) :
    Calls Try.prog 35 #[.slice A n c, .slice A' n' c'] w fun e w' => e = .returned (.bool true) ∧ Below w.heap.size w w' := by
  obtain rfl : n = n' := h1.1.symm.trans h2.1
  replace h1 := Lib.hid h1
  replace h2 := Lib.hid h2
  go_enter Try.func35, Try.ntmps35
  go_wp2_with fail
  go_loopw [5] (fun i wr => ∃ k : Nat, i = .int .i64 k ∧ k ≤ n ∧ Below w.heap.size w wr) (fun i wr => n - (intOf i).toNat)
  case atStart => exact ⟨0, rfl, Nat.zero_le _, Below.refl _ _⟩
  case round =>
    obtain ⟨k, rfl, hk, hbel⟩ := hrel
    have hsz := hbel.size
    by_cases hlt : k < n
    · obtain ⟨b, off, x0, rfl, hb0, hb, hja, hcs⟩ := (h1.out.frame (good_flat _) (Below.sameB hbel hh1)).at hlt
      obtain ⟨b', off', a', rfl, hb0', hb', hja', hcs'⟩ := (h2.out.frame (good_flat _) (Below.sameB hbel hh2)).at hlt
      have hja' := Option.some.inj (hja.symm.trans hja')
      subst hja' 
      have q0 := hcs 0 _ rfl
      have p0 := hcs' 0 _ rfl
      simp only [Nat.add_zero, Nat.mul_one] at q0 p0
      clear hcs hcs' hja
      have hbw : b < wr.heap.size := by omega
      have hbw' : b' < wr.heap.size := by omega
      clear hb0 hb0' hb hb' hsz hh1 hh2 h1 h2
      have hi : (0 : Int) ≤ (k : Int) ∧ (k : Int) < (n : Int) := by omega
      go_wp2_with fail
      go_quiet (fail)
      go_wp2_with fail
      go_roundw
      case rel => exact ⟨k + 1, by go_num, by omega, Go.Joins.below_le (hbel.trans (below_drewN (Below.refl _ _) _)) (Nat.le_refl _)⟩
      case measure => simp [intOf]; omega
    · go_wp2_with fail
      go_ret
      exact ⟨rfl, hbel⟩

end Go.Proofs.Ytgngcllodofimaa
