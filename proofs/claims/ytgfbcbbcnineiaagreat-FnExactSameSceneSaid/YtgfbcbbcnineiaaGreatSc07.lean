/- The laws' own functions on slices of Knot. Conditions: as each states. -/
import Derived.RegionTactic
import Derived.ChangeAlike
import Derived.Outline
import Derived.Deep.RegionWith
import Derived.StillTailTactics
import Derived.Test.YtgfbcbbcnineiaaGreatSc03
import Derived.Test.YtgfbcbbcnineiaaGreatProg
import Derived.Test.YtgfbcbbcnineiaaGreatSc06
namespace Go.Proofs.YtgfbcbbcnineiaaGreat
open Go.RowKit
set_option linter.unusedVariables false
set_option maxRecDepth 100000

theorem toKnot_any (x0 : Int) (x1 : Int) (x2 : Bool) (w : World) :
    Calls Tryz.prog 117 #[.agg #[.int .i64 x0, .int .i64 x1, .bool x2]] w fun e w' => e = .returned (.agg #[.int .i64 x0, .int .i64 x1, .bool x2]) ∧ Below w.heap.size w w' := by
  go_enter Tryz.func117, Tryz.ntmps117
  go_wp2_with fail
  refine (toPt_any _ _ _).mono ?_
  rintro e w1 ⟨rfl, hb1⟩
  obtain ⟨hc, hf⟩ := bcell hb1
  have hz1 := hb1.size
  simp at hz1
  have c2 : w1.cell? ⟨w.heap.size, 2, none⟩ = some (.bool x2) := by rw [hc _ _ (by simp <;> omega)]; go_simp
  have d0 : w1.cell? ⟨w.heap.size + 2, 0, none⟩ = some (.int .i64 0) := by rw [hc _ _ (by simp <;> omega)]; go_simp
  have d1 : w1.cell? ⟨w.heap.size + 2, 1, none⟩ = some (.int .i64 0) := by rw [hc _ _ (by simp <;> omega)]; go_simp
  have d2 : w1.cell? ⟨w.heap.size + 2, 2, none⟩ = some (.bool false) := by rw [hc _ _ (by simp <;> omega)]; go_simp
  have e0 : w1.cell? ⟨w.heap.size + 1, 0, none⟩ = some (.int .i64 0) := by rw [hc _ _ (by simp <;> omega)]; go_simp
  have e1 : w1.cell? ⟨w.heap.size + 1, 1, none⟩ = some (.int .i64 0) := by rw [hc _ _ (by simp <;> omega)]; go_simp
  have e2 : w1.cell? ⟨w.heap.size + 1, 2, none⟩ = some (.bool false) := by rw [hc _ _ (by simp <;> omega)]; go_simp
  have g1 : ∀ o, w1.frozen? ⟨w.heap.size + 1, o, none⟩ = false := by intro o; rw [hf _ _ (by simp <;> omega)]; go_simp
  have g2 : ∀ o, w1.frozen? ⟨w.heap.size + 2, o, none⟩ = false := by intro o; rw [hf _ _ (by simp <;> omega)]; go_simp
  clear hc hf
  go_wp2_with fail
  refine bodyPost_ret (v := .agg #[.int .i64 x0, .int .i64 x1, .bool x2]) (by simp [results, Tryz.results117, go_sem, e0, e1, e2]) rfl ⟨rfl, ?_⟩
  have hB : Below w.heap.size w w1 := ((((Below.refl _ _).alloc (Nat.le_refl _) _).alloc (by simp) _).alloc (by simp <;> omega) _).trans (hb1.mono (by simp <;> omega))
  exact (((((hB.setCell (by simp <;> omega) _).setCell (by simp <;> omega) _).setCell (by simp <;> omega) _).setCell (by simp <;> omega) _).setCell (by simp <;> omega) _).setCell (by simp <;> omega) _

theorem eqKnot_any (x0 : Int) (x1 : Int) (x2 : Bool) (w : World) :
    Calls Tryz.prog 119 #[.agg #[.int .i64 x0, .int .i64 x1, .bool x2], .agg #[.int .i64 x0, .int .i64 x1, .bool x2]] w fun e w' => e = .returned (.bool true) ∧ Below w.heap.size w w' := by
  go_enter Tryz.func119, Tryz.ntmps119
  go_wp2_with fail
  refine (eqPt_any _ _ _).mono ?_
  rintro e w1 ⟨rfl, hb1⟩
  obtain ⟨hc, hf⟩ := bcell hb1
  have hz1 := hb1.size
  simp at hz1
  have c02 : w1.cell? ⟨w.heap.size, 2, none⟩ = some (.bool x2) := by rw [hc _ _ (by simp <;> omega)]; go_simp
  have c12 : w1.cell? ⟨w.heap.size + 1, 2, none⟩ = some (.bool x2) := by rw [hc _ _ (by simp <;> omega)]; go_simp
  clear hc hf
  go_wp2_with fail
  go_ret
  exact ⟨rfl, (((Below.refl _ _).alloc (Nat.le_refl _) _).alloc (by simp) _).trans (hb1.mono (by simp <;> omega))⟩

theorem infoKnot : (Tryz.prog.info? 179).map (fun i => (i.zero, i.size, i.bytes)) = some (some (.agg #[.int .i64 0, .int .i64 0, .bool false]), 3, 24) := by kernel_rfl

theorem szKnotS_any (A : Option Addr) (n c : Nat) (left : Int) (w : World) (hn : n ≤ 9223372036854775807) (h0 : 0 ≤ left) (h1 : left ≤ 1048576) (r : Int) (hr : r = if (n : Int) ≤ left then left - n else -1) :
    Calls Tryz.prog 108 #[.slice A n c, .int .i64 left] w fun e w' => e = .returned (.int .i64 r) ∧ w = w' := by
  by_cases h : (n : Int) ≤ left
  · rw [if_pos h] at hr
    subst hr
    go_enter Tryz.func108, Tryz.ntmps108
    go_wp2_with fail
    go_ret
    exact ⟨rfl, rfl⟩
  · rw [if_neg h] at hr
    subst hr
    go_enter Tryz.func108, Tryz.ntmps108
    go_wp2_with fail
    go_ret
    exact ⟨rfl, rfl⟩

set_option maxHeartbeats 1000000 in
theorem toKnotS_any (A : Option Addr) (n c lo hi : Nat) (L : List (Int × Int × Bool)) (w : World) (hr : RdS 3 (FlatR knotC) w lo hi A n L) (hhi : hi ≤ w.heap.size) (hn : n ≤ 1048576) :
    Calls Tryz.prog 111 #[.slice A n c] w fun e w' => ∃ g, e = .returned (.slice (some ⟨g, 0, none⟩) n n) ∧ g = w.heap.size ∧ w'.ownsRow w.heap.size 179 3 (.slice (some ⟨g, 0, none⟩) n n) n (L.flatMap knotC) ∧ Below w.heap.size w w' := by
  obtain ⟨i0, hi0, hz0, hs0, hby0⟩ := info_parts infoKnot
  replace hr := Lib.hid hr
  go_enter Tryz.func111, Tryz.ntmps111
  go_wp2_with (at_make; refine wpList_make_full _ rfl _ _ 164 rfl w.heap.size 179 i0 (.agg #[.int .i64 0, .int .i64 0, .bool false]) 3 Tryz.underlying164 hi0 hz0 hs0 .i64 .i64 _ _ n rfl rfl rfl rfl (by rw [hby0]; omega) (by unfold maxLen; omega) (Nat.le_refl _) ?_; intro w0 hown0 hg0)
  have hb0 : Below w.heap.size w w0 := (Below.refl _ _).grown hg0 (Nat.le_refl _) (by simp)
  clear hg0
  go_loopw [4] (fun i wr => ∃ (k : Nat) (ys : List Value), i = .int .i64 k ∧ k ≤ n ∧ wr.ownsRow w.heap.size 179 3 (.slice (some ⟨w.heap.size, 0, none⟩) n n) n ys ∧ (∀ j a, j < k → L[j]? = some a → ∀ i, i < 3 → ys[j * 3 + i]? = (knotC a)[i]?) ∧ Below w.heap.size w wr) (fun i wr => n - (intOf i).toNat)
  case atStart => exact ⟨0, _, rfl, Nat.zero_le _, hown0, fun j a hj => absurd hj (Nat.not_lt_zero j), hb0⟩
  case round =>
    clear hown0 hb0
    obtain ⟨k, ys, rfl, hk, ho, hall, hbel⟩ := hrel
    replace hall := Lib.hid hall
    by_cases hlt : k < n
    · obtain ⟨b, off, ⟨x0, x1, x2⟩, rfl, hb0, hb, hja, hcs⟩ := (hr.out.frame (good_flat _) (Below.sameB hbel hhi)).at hlt
      have q0 := hcs 0 _ rfl
      have q1 := hcs 1 _ rfl
      have q2 := hcs 2 _ rfl
      simp only [Nat.add_zero] at q0 q1 q2
      clear hcs
      replace hja := Lib.hid hja
      replace ho := Lib.hid ho
      go_wp2_with (go_at_call 117; refine (toKnot_any _ _ _ _).mono ?_; rintro e w1 ⟨rfl, hb1⟩; have ho1 := own_below ho.out hb1; obtain ⟨g, hg, _, hglt, _, hcell, hfr⟩ := own_at ho1 (by omega); injection hg with hg; injection hg with hg; subst hg; have hyl := ho1.1; have c0 := hcell (k * 3) (by omega); have c1 := hcell (k * 3 + 1) (by omega); have c2 := hcell (k * 3 + 2) (by omega); rw [List.getElem?_eq_getElem (by omega)] at c0 c1 c2; have f0 := hfr (k * 3); have f1 := hfr (k * 3 + 1); have f2 := hfr (k * 3 + 2); clear hcell hfr; replace ho1 := Lib.hid ho1; replace hyl := Lib.hid hyl; generalize ys[k * 3]'(by have := hyl.out; omega) = v0 at c0; generalize ys[k * 3 + 1]'(by have := hyl.out; omega) = v1 at c1; generalize ys[k * 3 + 2]'(by have := hyl.out; omega) = v2 at c2)
      go_roundw
      case rel =>
        have hyl := ho1.out.1
        refine ⟨k + 1, _, by go_num, by omega, (((ho1.out.stored (k * 3) (.int .i64 x0)).1.stored (k * 3 + 1) (.int .i64 x1)).1.stored (k * 3 + 2) (.bool x2)).1, fun j a hj ha i hi => ?_, (((hbel.trans (hb1.mono hbel.size)).setCell (Nat.le_refl _) _).setCell (Nat.le_refl _) _).setCell (Nat.le_refl _) _⟩
        rcases Nat.lt_or_ge j k with h | h
        · rw [List.getElem?_set_ne (by omega), List.getElem?_set_ne (by omega), List.getElem?_set_ne (by omega)]
          exact hall.out j a h ha i hi
        · obtain rfl : j = k := by omega
          have ha := Option.some.inj (hja.out.symm.trans ha)
          subst ha
          obtain rfl | hi' : i = 0 ∨ 0 < i := by omega
          · simp only [Nat.add_zero]
            rw [List.getElem?_set_ne (by omega), List.getElem?_set_ne (by omega), List.getElem?_set_self (by first | omega | (simp only [List.length_set]; omega))]
            rfl
          obtain rfl | hi' : i = 1 ∨ 1 < i := by omega
          · skip
            rw [List.getElem?_set_ne (by omega), List.getElem?_set_self (by first | omega | (simp only [List.length_set]; omega))]
            rfl
          obtain rfl | hi' : i = 2 ∨ 2 < i := by omega
          · skip
            rw [List.getElem?_set_self (by first | omega | (simp only [List.length_set]; omega))]
            rfl
          omega
      case measure => simp [intOf]; omega
    · have hkn : k = n := by omega
      replace hkn := Lib.hid hkn
      replace ho := Lib.hid ho
      go_wp2_with fail
      go_ret
      refine ⟨w.heap.size, rfl, rfl, ?_, hbel⟩
      have : ys = L.flatMap knotC := flat_ext (k := 3) (n := n) knotC_len hr.out.1 ho.out.1 fun j a ha i hi => by
        have h1 := hall.out j a (by rw [hkn.out]; have := (List.getElem?_eq_some_iff.1 ha).1; rw [hr.out.1] at this; exact this) ha i hi
        simpa using h1
      rw [← this]; exact ho.out

set_option maxRecDepth 100000 in
set_option maxHeartbeats 1000000 in
theorem eqKnotS_any (A A' : Option Addr) (n c n' c' lo hi lo' hi' : Nat) (L : List (Int × Int × Bool)) (w : World) (h1 : RdS 3 (FlatR knotC) w lo hi A n L) (h2 : RdS 3 (FlatR knotC) w lo' hi' A' n' L) (hh1 : hi ≤ w.heap.size) (hh2 : hi' ≤ w.heap.size) (hn : n ≤ 1000000000) :
    Calls Tryz.prog 114 #[.slice A n c, .slice A' n' c'] w fun e w' => e = .returned (.bool true) ∧ Below w.heap.size w w' := by
  obtain rfl : n = n' := h1.1.symm.trans h2.1
  replace h1 := Lib.hid h1
  replace h2 := Lib.hid h2
  go_enter Tryz.func114, Tryz.ntmps114
  go_wp2_with fail
  go_loopw [5] (fun i wr => ∃ k : Nat, i = .int .i64 k ∧ k ≤ n ∧ Below w.heap.size w wr) (fun i wr => n - (intOf i).toNat)
  case atStart => exact ⟨0, rfl, Nat.zero_le _, Below.refl _ _⟩
  case round =>
    obtain ⟨k, rfl, hk, hbel⟩ := hrel
    have hsz := hbel.size
    by_cases hlt : k < n
    · obtain ⟨b, off, ⟨x0, x1, x2⟩, rfl, hb0, hb, hja, hcs⟩ := (h1.out.frame (good_flat _) (Below.sameB hbel hh1)).at hlt
      obtain ⟨b', off', a', rfl, hb0', hb', hja', hcs'⟩ := (h2.out.frame (good_flat _) (Below.sameB hbel hh2)).at hlt
      have hja' := Option.some.inj (hja.symm.trans hja')
      subst hja' 
      have q0 := hcs 0 _ rfl
      have p0 := hcs' 0 _ rfl
      have q1 := hcs 1 _ rfl
      have p1 := hcs' 1 _ rfl
      have q2 := hcs 2 _ rfl
      have p2 := hcs' 2 _ rfl
      simp only [Nat.add_zero] at q0 p0 q1 p1 q2 p2
      clear hcs hcs' hja
      have hbw : b < wr.heap.size := by omega
      have hbw' : b' < wr.heap.size := by omega
      clear hb0 hb0' hb hb' hsz hh1 hh2 h1 h2
      have hi : (0 : Int) ≤ (k : Int) ∧ (k : Int) < (n : Int) := by omega
      go_wp2_with fail
      go_still_tail 8, (by kernel_rfl)
      go_wp2_with (go_at_call 119; refine (eqKnot_any _ _ _ _).mono ?_; rintro e w1 ⟨rfl, hb1⟩)
      go_roundw
      case rel => exact ⟨k + 1, by go_num, by omega, hbel.drew.trans (hb1.mono (by simp; exact hbel.size))⟩
      case measure => simp [intOf]; omega
    · go_wp2_with fail
      go_ret
      exact ⟨rfl, hbel⟩

end Go.Proofs.YtgfbcbbcnineiaaGreat

