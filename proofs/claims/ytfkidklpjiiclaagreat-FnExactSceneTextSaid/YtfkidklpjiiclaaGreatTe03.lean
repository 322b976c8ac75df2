/- A state of the hint machine that came in, opened. No walk in sight. Conditions: none. -/
import Derived.RegionTactic
import Derived.ChangeAlike
import Derived.Outline
import Derived.Deep.RegionWith
import Derived.StillTailTactics
import Derived.WalkSmall
import Derived.OneCell
import Derived.Test.YtfkidklpjiiclaaGreatTe02
import Derived.Test.YtfkidklpjiiclaaGreatTe01
import Derived.Test.YtfkidklpjiiclaaGreatProg
namespace Go.Proofs.YtfkidklpjiiclaaGreat
open Go.RowKit Go.ChangeShapes Go.WideShapes Go.Deep
set_option linter.unusedVariables false
set_option maxRecDepth 100000

theorem opens_lPt : Opens Tryz.prog 191 (FlatR ptC) := by
  intro H enc w fuel cs x h
  obtain ⟨hl, hf⟩ := struct_fields Tryz.underlying191 h
  have hc : Tryz.prog.cellsOf 191 = 2 := by kernel_rfl
  have hi : Tryz.prog.cellsOf 2 = 1 := by kernel_rfl
  rw [hc] at hl
  match cs, hl with
  | [c0, c1], _ =>
    obtain ⟨n0, y0, h0⟩ := struct_field hf 0 2 0 1 rfl rfl rfl hi
    obtain ⟨n1, y1, h1⟩ := struct_field hf 1 2 1 1 rfl rfl rfl hi
    obtain ⟨x0, e0⟩ := opens_int Tryz.underlying2 h0
    obtain ⟨x1, e1⟩ := opens_int Tryz.underlying2 h1
    simp [FlatR] at e0 e1
    subst e0 e1
    exact ⟨(x0, x1), rfl⟩

end Go.Proofs.YtfkidklpjiiclaaGreat

/- The laws' own functions on slices of Knot. Conditions: as each states. -/
namespace Go.Proofs.YtfkidklpjiiclaaGreat
open Go.RowKit
set_option linter.unusedVariables false
set_option maxRecDepth 100000

theorem toKnot_any (x0 : Int) (x1 : Int) (x2 : Bool) (w : World) :
    Calls Tryz.prog 199 #[.agg #[.int .i64 x0, .int .i64 x1, .bool x2]] w fun e w' => e = .returned (.agg #[.int .i64 x0, .int .i64 x1, .bool x2]) ∧ Below w.heap.size w w' := by
  go_enter Tryz.func199, Tryz.ntmps199
  go_wp2_with fail
  refine (toPt_any _ _ _).mono ?_
  rintro e w1 ⟨rfl, hb1⟩
  obtain ⟨hc, hf⟩ := bcell hb1
  have hz1 := hb1.size
  simp at hz1
  have c2 : w1.cell? ⟨w.heap.size, 2, none⟩ = some (.bool x2) := by rw [hc _ _ (by simp <;> omega)]; go_simp
  have d0 : w1.cell? ⟨w.heap.size + 2, 0, none⟩ = some (.int .i64 0) := by rw [hc _ _ (by simp <;> omega)]; go_simp
  have d1 : w1.cell? ⟨w.heap.size + 2, 1, none⟩ = some (.int .i64 0) := by rw [hc _ _ (by simp <;> omega)]; go_simp
  have d2 : w1.cell? ⟨w.heap.size + 2, 2, none⟩ = some (.bool false) := by rw [hc _ _ (by simp <;> omega)]; go_simp
  have e0 : w1.cell? ⟨w.heap.size + 1, 0, none⟩ = some (.int .i64 0) := by rw [hc _ _ (by simp <;> omega)]; go_simp
  have e1 : w1.cell? ⟨w.heap.size + 1, 1, none⟩ = some (.int .i64 0) := by rw [hc _ _ (by simp <;> omega)]; go_simp
  have e2 : w1.cell? ⟨w.heap.size + 1, 2, none⟩ = some (.bool false) := by rw [hc _ _ (by simp <;> omega)]; go_simp
  have g1 : ∀ o, w1.frozen? ⟨w.heap.size + 1, o, none⟩ = false := by intro o; rw [hf _ _ (by simp <;> omega)]; go_simp
  have g2 : ∀ o, w1.frozen? ⟨w.heap.size + 2, o, none⟩ = false := by intro o; rw [hf _ _ (by simp <;> omega)]; go_simp
  clear hc hf
  go_wp2_with fail
  refine bodyPost_ret (v := .agg #[.int .i64 x0, .int .i64 x1, .bool x2]) (by simp [results, Tryz.results199, go_sem, e0, e1, e2]) rfl ⟨rfl, ?_⟩
  have hB : Below w.heap.size w w1 := ((((Below.refl _ _).alloc (Nat.le_refl _) _).alloc (by simp) _).alloc (by simp <;> omega) _).trans (hb1.mono (by simp <;> omega))
  exact (((((hB.setCell (by simp <;> omega) _).setCell (by simp <;> omega) _).setCell (by simp <;> omega) _).setCell (by simp <;> omega) _).setCell (by simp <;> omega) _).setCell (by simp <;> omega) _

theorem eqKnot_any (x0 : Int) (x1 : Int) (x2 : Bool) (w : World) :
    Calls Tryz.prog 206 #[.agg #[.int .i64 x0, .int .i64 x1, .bool x2], .agg #[.int .i64 x0, .int .i64 x1, .bool x2]] w fun e w' => e = .returned (.bool true) ∧ Below w.heap.size w w' := by
  go_enter Tryz.func206, Tryz.ntmps206
  go_wp2_with fail
  refine (eqPt_any _ _ _).mono ?_
  rintro e w1 ⟨rfl, hb1⟩
  obtain ⟨hc, hf⟩ := bcell hb1
  have hz1 := hb1.size
  simp at hz1
  have c02 : w1.cell? ⟨w.heap.size, 2, none⟩ = some (.bool x2) := by rw [hc _ _ (by simp <;> omega)]; go_simp
  have c12 : w1.cell? ⟨w.heap.size + 1, 2, none⟩ = some (.bool x2) := by rw [hc _ _ (by simp <;> omega)]; go_simp
  clear hc hf
  go_wp2_with fail
  go_ret
  exact ⟨rfl, (((Below.refl _ _).alloc (Nat.le_refl _) _).alloc (by simp) _).trans (hb1.mono (by simp <;> omega))⟩

theorem infoKnot : (Tryz.prog.info? 238).map (fun i => (i.zero, i.size, i.bytes)) = some (some (.agg #[.int .i64 0, .int .i64 0, .bool false]), 3, 24) := by kernel_rfl

theorem szKnotS_any (A : Option Addr) (n c : Nat) (left : Int) (w : World) (hn : n ≤ 9223372036854775807) (h0 : 0 ≤ left) (h1 : left ≤ 1048576) (r : Int) (hr : r = if (n : Int) ≤ left then left - n else -1) :
    Calls Tryz.prog 172 #[.slice A n c, .int .i64 left] w fun e w' => e = .returned (.int .i64 r) ∧ w = w' := by
  by_cases h : (n : Int) ≤ left
  · rw [if_pos h] at hr
    subst hr
    go_enter Tryz.func172, Tryz.ntmps172
    go_wp2_with fail
    go_ret
    exact ⟨rfl, rfl⟩
  · rw [if_neg h] at hr
    subst hr
    go_enter Tryz.func172, Tryz.ntmps172
    go_wp2_with fail
    go_ret
    exact ⟨rfl, rfl⟩

set_option maxHeartbeats 1000000 in
theorem toKnotS_any (A : Option Addr) (n c lo hi : Nat) (L : List (Int × Int × Bool)) (w : World) (hr : RdS 3 (FlatR knotC) w lo hi A n L) (hhi : hi ≤ w.heap.size) (hn : n ≤ 1048576) :
    Calls Tryz.prog 179 #[.slice A n c] w fun e w' => ∃ g, e = .returned (.slice (some ⟨g, 0, none⟩) n n) ∧ g = w.heap.size ∧ w'.ownsRow w.heap.size 238 3 (.slice (some ⟨g, 0, none⟩) n n) n (L.flatMap knotC) ∧ Below w.heap.size w w' := by
  obtain ⟨i0, hi0, hz0, hs0, hby0⟩ := info_parts infoKnot
  replace hr := Lib.hid hr
  go_enter Tryz.func179, Tryz.ntmps179
  go_wp2_with (at_make; refine wpList_make_full _ rfl _ _ 229 rfl w.heap.size 238 i0 (.agg #[.int .i64 0, .int .i64 0, .bool false]) 3 Tryz.underlying229 hi0 hz0 hs0 .i64 .i64 _ _ n rfl rfl rfl rfl (by rw [hby0]; omega) (by unfold maxLen; omega) (Nat.le_refl _) ?_; intro w0 hown0 hg0)
  have hb0 : Below w.heap.size w w0 := (Below.refl _ _).grown hg0 (Nat.le_refl _) (by simp)
  clear hg0
  go_loopw [4] (fun i wr => ∃ (k : Nat) (ys : List Value), i = .int .i64 k ∧ k ≤ n ∧ wr.ownsRow w.heap.size 238 3 (.slice (some ⟨w.heap.size, 0, none⟩) n n) n ys ∧ (∀ j a, j < k → L[j]? = some a → ∀ i, i < 3 → ys[j * 3 + i]? = (knotC a)[i]?) ∧ Below w.heap.size w wr) (fun i wr => n - (intOf i).toNat)
  case atStart => exact ⟨0, _, rfl, Nat.zero_le _, hown0, fun j a hj => absurd hj (Nat.not_lt_zero j), hb0⟩
  case round =>
    clear hown0 hb0
    obtain ⟨k, ys, rfl, hk, ho, hall, hbel⟩ := hrel
    replace hall := Lib.hid hall
    by_cases hlt : k < n
    · obtain ⟨b, off, ⟨x0, x1, x2⟩, rfl, hb0, hb, hja, hcs⟩ := (hr.out.frame (good_flat _) (Below.sameB hbel hhi)).at hlt
      have q0 := hcs 0 _ rfl
      have q1 := hcs 1 _ rfl
      have q2 := hcs 2 _ rfl
      simp only [Nat.add_zero] at q0 q1 q2
      clear hcs
      replace hja := Lib.hid hja
      replace ho := Lib.hid ho
      go_wp2_with (go_at_call 199; refine (toKnot_any _ _ _ _).mono ?_; rintro e w1 ⟨rfl, hb1⟩; have ho1 := own_below ho.out hb1; obtain ⟨g, hg, _, hglt, _, hcell, hfr⟩ := own_at ho1 (by omega); injection hg with hg; injection hg with hg; subst hg; have hyl := ho1.1; have c0 := hcell (k * 3) (by omega); have c1 := hcell (k * 3 + 1) (by omega); have c2 := hcell (k * 3 + 2) (by omega); rw [List.getElem?_eq_getElem (by omega)] at c0 c1 c2; have f0 := hfr (k * 3); have f1 := hfr (k * 3 + 1); have f2 := hfr (k * 3 + 2); clear hcell hfr; replace ho1 := Lib.hid ho1; replace hyl := Lib.hid hyl; generalize ys[k * 3]'(by have := hyl.out; omega) = v0 at c0; generalize ys[k * 3 + 1]'(by have := hyl.out; omega) = v1 at c1; generalize ys[k * 3 + 2]'(by have := hyl.out; omega) = v2 at c2)
      go_roundw
      case rel =>
        have hyl := ho1.out.1
        refine ⟨k + 1, _, by go_num, by omega, (((ho1.out.stored (k * 3) (.int .i64 x0)).1.stored (k * 3 + 1) (.int .i64 x1)).1.stored (k * 3 + 2) (.bool x2)).1, fun j a hj ha i hi => ?_, (((hbel.trans (hb1.mono hbel.size)).setCell (Nat.le_refl _) _).setCell (Nat.le_refl _) _).setCell (Nat.le_refl _) _⟩
        rcases Nat.lt_or_ge j k with h | h
        · rw [List.getElem?_set_ne (by omega), List.getElem?_set_ne (by omega), List.getElem?_set_ne (by omega)]
          exact hall.out j a h ha i hi
        · obtain rfl : j = k := by omega
          have ha := Option.some.inj (hja.out.symm.trans ha)
          subst ha
          obtain rfl | hi' : i = 0 ∨ 0 < i := by omega
          · simp only [Nat.add_zero]
            rw [List.getElem?_set_ne (by omega), List.getElem?_set_ne (by omega), List.getElem?_set_self (by first | omega | (simp only [List.length_set]; omega))]
            rfl
          obtain rfl | hi' : i = 1 ∨ 1 < i := by omega
          · skip
            rw [List.getElem?_set_ne (by omega), List.getElem?_set_self (by first | omega | (simp only [List.length_set]; omega))]
            rfl
          obtain rfl | hi' : i = 2 ∨ 2 < i := by omega
          · skip
            rw [List.getElem?_set_self (by first | omega | (simp only [List.length_set]; omega))]
            rfl
          omega
      case measure => simp [intOf]; omega
    · have hkn : k = n := by omega
      replace hkn := Lib.hid hkn
      replace ho := Lib.hid ho
      go_wp2_with fail
      go_ret
      refine ⟨w.heap.size, rfl, rfl, ?_, hbel⟩
      have : ys = L.flatMap knotC := flat_ext (k := 3) (n := n) knotC_len hr.out.1 ho.out.1 fun j a ha i hi => by
        have h1 := hall.out j a (by rw [hkn.out]; have := (List.getElem?_eq_some_iff.1 ha).1; rw [hr.out.1] at this; exact this) ha i hi
        simpa using h1
      rw [← this]; exact ho.out

set_option maxRecDepth 100000 in
set_option maxHeartbeats 1000000 in
theorem eqKnotS_any (A A' : Option Addr) (n c n' c' lo hi lo' hi' : Nat) (L : List (Int × Int × Bool)) (w : World) (h1 : RdS 3 (FlatR knotC) w lo hi A n L) (h2 : RdS 3 (FlatR knotC) w lo' hi' A' n' L) (hh1 : hi ≤ w.heap.size) (hh2 : hi' ≤ w.heap.size) (hn : n ≤ 1000000000) :
    Calls Tryz.prog 194 #[.slice A n c, .slice A' n' c'] w fun e w' => e = .returned (.bool true) ∧ Below w.heap.size w w' := by
  obtain rfl : n = n' := h1.1.symm.trans h2.1
  replace h1 := Lib.hid h1
  replace h2 := Lib.hid h2
  go_enter Tryz.func194, Tryz.ntmps194
  go_wp2_with fail
  go_loopw [5] (fun i wr => ∃ k : Nat, i = .int .i64 k ∧ k ≤ n ∧ Below w.heap.size w wr) (fun i wr => n - (intOf i).toNat)
  case atStart => exact ⟨0, rfl, Nat.zero_le _, Below.refl _ _⟩
  case round =>
    obtain ⟨k, rfl, hk, hbel⟩ := hrel
    have hsz := hbel.size
    by_cases hlt : k < n
    · obtain ⟨b, off, ⟨x0, x1, x2⟩, rfl, hb0, hb, hja, hcs⟩ := (h1.out.frame (good_flat _) (Below.sameB hbel hh1)).at hlt
      obtain ⟨b', off', a', rfl, hb0', hb', hja', hcs'⟩ := (h2.out.frame (good_flat _) (Below.sameB hbel hh2)).at hlt
      have hja' := Option.some.inj (hja.symm.trans hja')
      subst hja' 
      have q0 := hcs 0 _ rfl
      have p0 := hcs' 0 _ rfl
      have q1 := hcs 1 _ rfl
      have p1 := hcs' 1 _ rfl
      have q2 := hcs 2 _ rfl
      have p2 := hcs' 2 _ rfl
      simp only [Nat.add_zero] at q0 p0 q1 p1 q2 p2
      clear hcs hcs' hja
      have hbw : b < wr.heap.size := by omega
      have hbw' : b' < wr.heap.size := by omega
      clear hb0 hb0' hb hb' hsz hh1 hh2 h1 h2
      have hi : (0 : Int) ≤ (k : Int) ∧ (k : Int) < (n : Int) := by omega
      go_wp2_with fail
      go_still_tail 8, (by kernel_rfl)
      go_wp2_with (go_at_call 206; refine (eqKnot_any _ _ _ _).mono ?_; rintro e w1 ⟨rfl, hb1⟩)
      go_roundw
      case rel => exact ⟨k + 1, by go_num, by omega, hbel.drew.trans (hb1.mono (by simp; exact hbel.size))⟩
      case measure => simp [intOf]; omega
    · go_wp2_with fail
      go_ret
      exact ⟨rfl, hbel⟩

end Go.Proofs.YtfkidklpjiiclaaGreat

/- Outlines in memory: slices of loops, each a slice of knots; the laws' own functions on them. Conditions: as each states. -/
namespace Go.Proofs.YtfkidklpjiiclaaGreat
open Go.RowKit
set_option linter.unusedVariables false
set_option maxRecDepth 100000

abbrev Knot := Int × Int × Bool
/-- a loop is a slice of knots -/
abbrev loopR : Rel (List Knot) := SliceR 3 (FlatR knotC)
theorem good_loop : Good loopR := good_slice 3 (good_flat _)
/-- the loops of an outline -/
abbrev OutRd (w : World) (lo hi : Nat) (A : Option Addr) (n : Nat) (Ls : List (List Knot)) : Prop := RdS 1 loopR w lo hi A n Ls
theorem out_at {w : World} {lo hi : Nat} {A : Option Addr} {n : Nat} {Ls : List (List Knot)} (h : OutRd w lo hi A n Ls) {j : Nat} (hj : j < n) :
    ∃ b off K A' n' c', A = some ⟨b, off, none⟩ ∧ lo ≤ b ∧ b < hi ∧ Ls[j]? = some K ∧ w.cell? ⟨b, off + j, none⟩ = some (.slice A' n' c') ∧ n' ≤ maxLen ∧ RdS 3 (FlatR knotC) w lo hi A' n' K := by
  obtain ⟨hl, h⟩ := h
  obtain ⟨b, off, rfl, h1, h2, h3⟩ := h (by omega)
  have hja : Ls[j]? = some (Ls[j]'(by omega)) := List.getElem?_eq_getElem (by omega)
  obtain ⟨es, e1, e2, A', n', c', rfl, hm, hr⟩ := h3 j _ hja
  have := e2 0 _ rfl
  simp only [Nat.mul_one, Nat.add_zero] at this
  exact ⟨b, off, _, A', n', c', rfl, h1, h2, hja, this, hm, hr⟩

/-- how many loops and knots there are -/
def outSize (Ls : List (List Knot)) : Nat := Ls.length + (Ls.map List.length).sum
theorem sum_take_succ {L : List Nat} {k x : Nat} (h : L[k]? = some x) : (L.take (k + 1)).sum = (L.take k).sum + x := by
  have hl := (List.getElem?_eq_some_iff.1 h).1
  rw [List.take_succ_eq_append_getElem hl, List.sum_append]
  rw [List.getElem?_eq_getElem hl] at h
  injection h with h
  simp [h]
theorem map_at {α β : Type} {f : α → β} {L : List α} {k : Nat} {a : α} (h : L[k]? = some a) : (L.map f)[k]? = some (f a) := by rw [List.getElem?_map, h]; rfl

theorem szLoop_any (A : Option Addr) (n c : Nat) (left : Int) (w : World) (hn : n ≤ 9223372036854775807) (h0 : 0 ≤ left) (h1 : left ≤ 1048576) (r : Int) (hr : r = if (n : Int) ≤ left then left - n else -1) :
    Calls Tryz.prog 146 #[.agg #[.slice A n c], .int .i64 left] w fun e w' => e = .returned (.int .i64 r) ∧ Below w.heap.size w w' := by
  have hsz := Lib.hid (fun W => szKnotS_any A n c left W hn h0 h1 r hr)
  by_cases h : (n : Int) ≤ left
  · rw [if_pos h] at hr
    have hr0 : 0 ≤ r := by omega
    replace hr := Lib.hid hr
    go_enter Tryz.func146, Tryz.ntmps146
    go_wp2_with fail
    refine (hsz.out _).mono ?_
    rintro e w' ⟨rfl, rfl⟩
    go_wp2_with fail
    go_ret
    exact ⟨rfl, Go.Joins.below_alloc1 _ _⟩
  · rw [if_neg h] at hr
    subst hr
    go_enter Tryz.func146, Tryz.ntmps146
    go_wp2_with fail
    refine (hsz.out _).mono ?_
    rintro e w' ⟨rfl, rfl⟩
    go_wp2_with fail
    go_ret
    exact ⟨rfl, Go.Joins.below_alloc1 _ _⟩

/-- what is left of a count: none, or the number -/
def LeftR (left r : Int) (size : Nat) : Prop := r < 0 ∨ (0 ≤ r ∧ r = left - size)

set_option maxHeartbeats 2000000 in
theorem szLoopS_any (A : Option Addr) (n c lo hi : Nat) (Ls : List (List Knot)) (left : Int) (w : World) (hr : OutRd w lo hi A n Ls) (hhi : hi ≤ w.heap.size) (hn : n ≤ 9223372036854775807) (h0 : 0 ≤ left) (h1 : left ≤ 1048576) :
    Calls Tryz.prog 96 #[.slice A n c, .int .i64 left] w fun e w' => ∃ r : Int, e = .returned (.int .i64 r) ∧ LeftR left r (outSize Ls) ∧ Below w.heap.size w w' := by
  have hll := Lib.hid hr.1
  replace hr := Lib.hid hr
  by_cases hnl : (n : Int) ≤ left
  rotate_left
  · go_enter Tryz.func96, Tryz.ntmps96
    go_wp2_with fail
    go_ret
    exact ⟨_, rfl, .inl (by omega), Below.refl _ _⟩
  go_enter Tryz.func96, Tryz.ntmps96
  go_wp2_with fail
  go_loopw [1, 5] (fun lv i wr => ∃ (k : Nat) (l : Int), i = .int .i64 k ∧ lv = .int .i64 l ∧ k ≤ n ∧ 0 ≤ l ∧ l = left - n - ((Ls.map List.length).take k).sum ∧ Below w.heap.size w wr) (fun lv i wr => n - (intOf i).toNat)
  case atStart => exact ⟨0, left - n, rfl, rfl, Nat.zero_le _, by omega, by simp, Below.refl _ _⟩
  case round =>
    obtain ⟨k, l, rfl, rfl, hk, hl0, hl, hbel⟩ := hrel
    have hl1 : l ≤ 1048576 := by omega
    replace hl := Lib.hid hl
    by_cases hlt : k < n
    · obtain ⟨b, off, K, A', n', c', rfl, hb0, hb, hja, q0, hm, hrk⟩ := out_at (hr.out.frame good_loop (Below.sameB hbel hhi)) hlt
      have hbw : b < wr.heap.size := by have := hbel.size; omega
      have hlen : n' = K.length := hrk.1.symm
      have hst := Lib.hid (sum_take_succ (map_at (f := List.length) hja))
      replace hlen := Lib.hid hlen
      replace hja := Lib.hid hja
      unfold maxLen at hm
      obtain ⟨r, hr'⟩ : ∃ r : Int, r = if (n' : Int) ≤ l then l - n' else -1 := ⟨_, rfl⟩
      go_wp2_with fail
      refine (szLoop_any A' n' c' l _ (by omega) hl0 hl1 r hr').mono ?_
      rintro e w1 ⟨rfl, hb1⟩
      have hbel1 := hbel.trans (hb1.mono hbel.size)
      by_cases hnl' : (n' : Int) ≤ l
      · rw [if_pos hnl'] at hr'
        have hr0 : 0 ≤ r := by omega
        replace hr' := Lib.hid hr'
        go_wp2_with fail
        go_roundw
        case rel => exact ⟨k + 1, r, by go_num, rfl, by omega, hr0, by rw [hr'.out, hl.out, hst.out, hlen.out]; omega, hbel1⟩
        case measure => simp [intOf]; omega
      · rw [if_neg hnl'] at hr'
        subst hr'
        go_wp2_with fail
        go_ret
        exact ⟨_, rfl, .inl (by omega), hbel1⟩
    · have hkn : k = n := by omega
      have hfin : l = left - outSize Ls := by
        rw [hl.out, List.take_of_length_le (by rw [List.length_map, hll.out]; omega), outSize, hll.out]; omega
      replace hkn := Lib.hid hkn
      replace hfin := Lib.hid hfin
      go_wp2_with fail
      go_ret
      exact ⟨_, rfl, .inr ⟨hl0, hfin.out⟩, hbel⟩

theorem szOutline_any (A : Option Addr) (n c lo hi : Nat) (Ls : List (List Knot)) (left : Int) (w : World) (hr : OutRd w lo hi A n Ls) (hhi : hi ≤ w.heap.size) (hn : n ≤ 9223372036854775807) (h0 : 0 ≤ left) (h1 : left ≤ 1048576) :
    Calls Tryz.prog 47 #[.agg #[.slice A n c], .int .i64 left] w fun e w' => ∃ r : Int, e = .returned (.int .i64 r) ∧ LeftR left r (outSize Ls) ∧ Below w.heap.size w w' := by
  have hc := Lib.hid (fun o => szLoopS_any A n c lo hi Ls left (w.alloc o) (hr.frame good_loop (SameB.alloc (SameB.refl _ _ _) hhi _)) (by simp; omega) hn h0 h1)
  clear hr
  go_enter Tryz.func47, Tryz.ntmps47
  go_wp2_with fail
  refine (hc.out _).mono ?_
  rintro e w1 ⟨r, rfl, hl, hb1⟩
  have hB := (Go.Joins.below_alloc1 _ _).trans (hb1.mono (by simp))
  rcases hl with hl | ⟨hl0, hl⟩
  · go_wp2_with fail
    go_ret
    exact ⟨_, rfl, .inl (by omega), hB⟩
  · replace hl := Lib.hid hl
    go_wp2_with fail
    go_ret
    exact ⟨_, rfl, .inr ⟨hl0, hl.out⟩, hB⟩
end Go.Proofs.YtfkidklpjiiclaaGreat

/- An outline's copy: the laws' functions that turn an outline of theirs into one of the program's. Conditions: as each states. -/
namespace Go.Proofs.YtfkidklpjiiclaaGreat
open Go.RowKit
set_option linter.unusedVariables false
set_option maxRecDepth 100000

/-- no block of one is a block of the other -/
def ApartV (u v : Value) : Prop := ∀ g, u.ownBlock = some g → v.ownBlock ≠ some g
/-- an outline of the call's own: its row, its loops' rows, each in a block of its own -/
def OutOwn (w : World) (lo : Nat) (A : Option Addr) (n c : Nat) (Ls : List (List Knot)) : Prop := ∃ ys : List Value, Ls.length = n ∧ w.ownsRow lo 231 1 (.slice A n c) n ys ∧
  (∀ (j : Nat) (K : List Knot), Ls[j]? = some K → ∃ (Aj : Option Addr) (cj : Nat), ys[j]? = some (.slice Aj K.length cj) ∧ w.ownsRow lo 238 3 (.slice Aj K.length cj) K.length (K.flatMap knotC)) ∧
  (∀ (i j : Nat) (u v : Value), i ≠ j → ys[i]? = some u → ys[j]? = some v → ApartV u v)
theorem OutOwn.kept {w w' : World} {lo n c : Nat} {A : Option Addr} {Ls : List (List Knot)} (h : OutOwn w lo A n c Ls) (hb : Below w.heap.size w w') : OutOwn w' lo A n c Ls := by
  obtain ⟨ys, h1, h2, h3, h4⟩ := h
  refine ⟨ys, h1, own_below h2 hb, fun j K hj => ?_, h4⟩
  obtain ⟨Aj, cj, h5, h6⟩ := h3 j K hj
  exact ⟨Aj, cj, h5, own_below h6 hb⟩
theorem OutOwn.rd {w : World} {lo n c : Nat} {A : Option Addr} {Ls : List (List Knot)} (h : OutOwn w lo A n c Ls) (hm : ∀ K ∈ Ls, K.length ≤ maxLen) : OutRd w lo w.heap.size A n Ls := by
  obtain ⟨ys, h1, h2, h3, h4⟩ := h
  refine ⟨h1, fun hn => ?_⟩
  obtain ⟨g, rfl, hg1, hg2, _, hc, _⟩ := own_at h2 hn
  refine ⟨g, 0, rfl, hg1, hg2, fun j K hj => ?_⟩
  obtain ⟨Aj, cj, h5, h6⟩ := h3 j K hj
  refine ⟨[.slice Aj K.length cj], rfl, fun i u hu => ?_, Aj, K.length, cj, rfl, hm K (List.mem_of_getElem? hj), rdS_own knotC_len (by omega) h6 rfl⟩
  match i, hu with
  | 0, hu =>
    injection hu with hu
    subst hu
    have hjl := (List.getElem?_eq_some_iff.1 hj).1
    simp only [Nat.mul_one, Nat.add_zero, Nat.zero_add]
    rw [hc j (by omega), h5]
theorem OutOwn.stored_below {w : World} {lo n c : Nat} {A : Option Addr} {Ls : List (List Knot)} (h : OutOwn w lo A n c Ls) {a : Addr} (ha : a.block < lo) (u : Value) : OutOwn (w.setCell a u) lo A n c Ls := by
  obtain ⟨ys, h1, h2, h3, h4⟩ := h
  refine ⟨ys, h1, ownsRow_setCell_below h2 ha u, fun j K hj => ?_, h4⟩
  obtain ⟨Aj, cj, h5, h6⟩ := h3 j K hj
  exact ⟨Aj, cj, h5, ownsRow_setCell_below h6 ha u⟩
theorem own_lower {w : World} {lo lo' e size n : Nat} {v : Value} {xs : List Value} (h : w.ownsRow lo e size v n xs) (hl : lo' ≤ lo) : w.ownsRow lo' e size v n xs := by
  refine ⟨h.1, ?_⟩
  rcases h.2 with h2 | ⟨g, cap, cur, hv, hg, r⟩
  · exact .inl h2
  · exact .inr ⟨g, cap, cur, hv, Nat.le_trans hl hg, r⟩
theorem OutOwn.base {w : World} {lo lo' n c : Nat} {A : Option Addr} {Ls : List (List Knot)} (h : OutOwn w lo A n c Ls) (hl : lo' ≤ lo) : OutOwn w lo' A n c Ls := by
  obtain ⟨ys, h1, h2, h3, h4⟩ := h
  refine ⟨ys, h1, own_lower h2 hl, fun j K hj => ?_, h4⟩
  obtain ⟨Aj, cj, h5, h6⟩ := h3 j K hj
  exact ⟨Aj, cj, h5, own_lower h6 hl⟩

set_option maxHeartbeats 1000000 in
theorem toLoop_any (A : Option Addr) (n c lo hi : Nat) (K : List Knot) (w : World) (hr : RdS 3 (FlatR knotC) w lo hi A n K) (hhi : hi ≤ w.heap.size) (hn : n ≤ 1048576) :
    Calls Tryz.prog 158 #[.agg #[.slice A n c]] w fun e w' => ∃ g, e = .returned (.agg #[.slice (some ⟨g, 0, none⟩) n n]) ∧ g = w.heap.size + 3 ∧ w'.ownsRow (w.heap.size + 3) 238 3 (.slice (some ⟨g, 0, none⟩) n n) n (K.flatMap knotC) ∧ Below w.heap.size w w' := by
  have hc := Lib.hid (fun a b d => toKnotS_any A n c lo hi K (((w.alloc a).alloc b).alloc d) (hr.frame (good_flat _) (((SameB.refl _ _ w).alloc hhi _).alloc (by simp; omega) _ |>.alloc (by simp; omega) _)) (by simp; omega) hn)
  clear hr
  go_enter Tryz.func158, Tryz.ntmps158
  go_wp2_with fail
  refine (hc.out _ _ _).mono ?_
  rintro e w1 ⟨g, rfl, hg, ho, hb1⟩
  have hnew := heap_new0 w (.cells #[.slice A n c] 251 (0, 0)) (.cells #[.slice none 0 0] 231 (0, 0)) (.cells #[.slice none 0 0] 231 (0, 0))
  have hR := (hb1.block _ (by simp <;> omega)).trans hnew.2.1
  have hO := (hb1.block _ (by simp <;> omega)).trans hnew.2.2
  clear hnew
  have hB1 : Below w.heap.size w w1 := ((((Below.refl _ _).alloc (Nat.le_refl _) _).alloc (by simp) _).alloc (by simp <;> omega) _).trans (hb1.mono (by simp <;> omega))
  have hz := hb1.size
  simp at hz hg
  have r0 : w1.cell? ⟨w.heap.size + 1, 0, none⟩ = some (.slice none 0 0) := by rw [Go.Joins.cell_of_block hR]; rfl
  have o0 : w1.cell? ⟨w.heap.size + 2, 0, none⟩ = some (.slice none 0 0) := by rw [Go.Joins.cell_of_block hO]; rfl
  have fr : ∀ o, w1.frozen? ⟨w.heap.size + 1, o, none⟩ = false := Go.Joins.unfrozen_of_block hR
  have fo : ∀ o, w1.frozen? ⟨w.heap.size + 2, o, none⟩ = false := Go.Joins.unfrozen_of_block hO
  replace ho := Lib.hid ho
  replace hg := Lib.hid hg
  clear hR hO hb1
  go_wp2_with fail
  refine bodyPost_ret (v := .agg #[.slice (some ⟨g, 0, none⟩) n n]) (by simp [results, Tryz.results158, go_sem, r0]) rfl ⟨g, rfl, by rw [hg.out], ?_, ?_⟩
  · refine ownsRow_setCell_other (ownsRow_setCell_other ?_ ?_ _) ?_ _
    · exact own_lower ho.out (by simp)
    · simp [Value.ownBlock]; have := hg.out; omega
    · simp [Value.ownBlock]; have := hg.out; omega
  · exact (hB1.setCell (by simp <;> omega) _).setCell (by simp <;> omega) _

theorem infoLoop : (Tryz.prog.info? 231).map (fun i => (i.zero, i.size, i.bytes)) = some (some (.agg #[.slice none 0 0]), 1, 24) := by kernel_rfl

def updN (gs : Nat → Nat) (k g j : Nat) : Nat := if j = k then g else gs j
theorem updN_same (gs : Nat → Nat) (k g : Nat) : updN gs k g k = g := if_pos rfl
theorem updN_ne (gs : Nat → Nat) {k g j : Nat} (h : j ≠ k) : updN gs k g j = gs j := if_neg h
/-- the loops up to k stand in the row ys, each in a block of its own, in rising order -/
def LoopsTo (w : World) (X : Nat) (Ls : List (List Knot)) (k : Nat) (ys : List Value) (gs : Nat → Nat) : Prop :=
  (∀ (j : Nat) (K : List Knot), j < k → Ls[j]? = some K → ys[j]? = some (.slice (some ⟨gs j, 0, none⟩) K.length K.length) ∧ w.ownsRow (X + 1) 238 3 (.slice (some ⟨gs j, 0, none⟩) K.length K.length) K.length (K.flatMap knotC)) ∧
  (∀ i j : Nat, i < j → j < k → gs i < gs j) ∧ (∀ j : Nat, j < k → gs j < w.heap.size)

set_option maxHeartbeats 2000000 in
theorem toLoopS_any (A : Option Addr) (n c lo hi : Nat) (Ls : List (List Knot)) (w : World) (hr : OutRd w lo hi A n Ls) (hhi : hi ≤ w.heap.size) (hn : n ≤ 1048576) (hK : ∀ K ∈ Ls, K.length ≤ 1048576) :
    Calls Tryz.prog 116 #[.slice A n c] w fun e w' => ∃ A', e = .returned (.slice A' n n) ∧ OutOwn w' w.heap.size A' n n Ls ∧ Below w.heap.size w w' := by
  obtain ⟨i0, hi0, hz0, hs0, hby0⟩ := info_parts infoLoop
  have hll := Lib.hid hr.1
  replace hr := Lib.hid hr
  replace hK := Lib.hid hK
  go_enter Tryz.func116, Tryz.ntmps116
  go_wp2_with (at_make; refine wpList_make_full _ rfl _ _ 52 rfl w.heap.size 231 i0 (.agg #[.slice none 0 0]) 1 Tryz.underlying52 hi0 hz0 hs0 .i64 .i64 _ _ n rfl rfl rfl rfl (by rw [hby0]; omega) (by unfold maxLen; omega) (Nat.le_refl _) ?_; intro w0 hown0 hg0)
  have hb0 : Below w.heap.size w w0 := (Below.refl _ _).grown hg0 (Nat.le_refl _) (by simp)
  have hlt0 := hown0.lt
  clear hg0
  go_loopw [4] (fun i wr => ∃ (k : Nat) (ys : List Value) (gs : Nat → Nat), i = .int .i64 k ∧ k ≤ n ∧ wr.ownsRow w.heap.size 231 1 (.slice (some ⟨w.heap.size, 0, none⟩) n n) n ys ∧ LoopsTo wr w.heap.size Ls k ys gs ∧ Below w.heap.size w wr) (fun i wr => n - (intOf i).toNat)
  case atStart => exact ⟨0, _, fun _ => 0, rfl, Nat.zero_le _, hown0, ⟨fun j K hj => absurd hj (Nat.not_lt_zero j), fun i j _ hj => absurd hj (Nat.not_lt_zero j), fun j hj => absurd hj (Nat.not_lt_zero j)⟩, hb0⟩
  case round =>
    clear hown0 hb0 hlt0
    obtain ⟨k, ys, gs, rfl, hk, ho, hto, hbel⟩ := hrel
    replace hto := Lib.hid hto
    have hX : w.heap.size < wr.heap.size := (ho.lt _ rfl).2
    by_cases hlt : k < n
    · obtain ⟨b, off, K, A2, n2, c2, rfl, hb0, hb, hja, q0, hm, hrk⟩ := out_at (hr.out.frame good_loop (Below.sameB hbel hhi)) hlt
      have hbw : b < wr.heap.size := by omega
      have hlen : n2 ≤ 1048576 := by rw [← hrk.1]; exact hK.out K (List.mem_of_getElem? hja)
      have hn2 := Lib.hid hrk.1
      have hcall := Lib.hid (toLoop_any A2 n2 c2 lo hi K wr hrk (by omega) hlen)
      clear hrk hm hb0 hb
      replace hja := Lib.hid hja
      replace ho := Lib.hid ho
      go_wp2_with (go_at_call 158; refine hcall.out.mono ?_; rintro e w1 ⟨g, rfl, hg, hog, hb1⟩; have ho1 := own_below ho.out hb1; obtain ⟨g0, hg0, _, hglt, _, hcell, hfr⟩ := own_at ho1 (by omega); injection hg0 with hg0; injection hg0 with hg0; subst hg0; have c0 := hcell k (by omega); have hyl := ho1.1; rw [List.getElem?_eq_getElem (by omega)] at c0; have f0 := hfr k; clear hcell hfr; replace ho1 := Lib.hid ho1; replace hyl := Lib.hid hyl; generalize ys[k]'(by have := hyl.out; omega) = v0 at c0; replace hog := Lib.hid hog; replace hg := Lib.hid hg)
      go_roundw
      case rel =>
        have hgv := hg.out
        have hbz := hb1.size
        have hogl := hog.out.lt g rfl
        refine ⟨k + 1, _, updN gs k g, by go_num, by omega, (ho1.out.stored k (.slice (some ⟨g, 0, none⟩) n2 n2)).1, ⟨fun j K' hj hjK => ?_, fun i j hij hj => ?_, fun j hj => ?_⟩, (hbel.trans (hb1.mono hbel.size)).setCell (Nat.le_refl _) _⟩
        · by_cases hjk : j = k
          · subst hjk
            have hKK := Option.some.inj (hja.out.symm.trans hjK)
            subst hKK
            have := hyl.out
            rw [List.getElem?_set_self (by omega), updN_same, hn2.out]
            refine ⟨rfl, ownsRow_setCell_other (own_lower (lo := wr.heap.size + 3) (lo' := w.heap.size + 1) ?_ (by omega)) (by simp [Value.ownBlock]; omega) _⟩
            exact hog.out
          · obtain ⟨h1, h2⟩ := hto.out.1 j K' (by omega) hjK
            have hgj := hto.out.2.2 j (by omega)
            rw [List.getElem?_set_ne (fun e => hjk e.symm), updN_ne gs hjk]
            have h3 : w.heap.size + 1 ≤ gs j := (h2.lt _ rfl).1
            exact ⟨h1, ownsRow_setCell_other (own_below h2 hb1) (by simp [Value.ownBlock]; omega) _⟩
        · by_cases hjk : j = k
          · subst hjk
            rw [updN_same, updN_ne gs (by omega)]
            have := hto.out.2.2 i (by omega)
            omega
          · rw [updN_ne gs hjk, updN_ne gs (by omega)]
            exact hto.out.2.1 i j hij (by omega)
        · by_cases hjk : j = k
          · subst hjk; rw [updN_same]; simp; exact hogl.2
          · rw [updN_ne gs hjk]; simp; have := hto.out.2.2 j (by omega); omega
      case measure => simp [intOf]; omega
    · have hkn : k = n := by omega
      replace hkn := Lib.hid hkn
      replace ho := Lib.hid ho
      go_wp2_with fail
      go_ret
      refine ⟨_, rfl, ⟨ys, hll.out, ho.out, fun j K hj => ?_, fun i j u v hij hu hv => ?_⟩, hbel⟩
      · have hjl := (List.getElem?_eq_some_iff.1 hj).1
        obtain ⟨h1, h2⟩ := hto.out.1 j K (by have := hkn.out; have := hll.out; omega) hj
        exact ⟨_, _, h1, own_lower h2 (by omega)⟩
      · have hil := (List.getElem?_eq_some_iff.1 hu).1
        have hjl := (List.getElem?_eq_some_iff.1 hv).1
        have hyl := ho.out.1
        have hn' := hkn.out
        have hl' := hll.out
        obtain ⟨h1, _⟩ := hto.out.1 i _ (by omega) (List.getElem?_eq_getElem (by omega))
        obtain ⟨h2, _⟩ := hto.out.1 j _ (by omega) (List.getElem?_eq_getElem (by omega))
        have hu' := Option.some.inj (hu.symm.trans h1)
        have hv' := Option.some.inj (hv.symm.trans h2)
        subst hu'
        subst hv'
        intro g hg
        simp only [Value.ownBlock, Option.some.injEq, ne_eq] at hg ⊢
        subst hg
        rcases Nat.lt_or_ge i j with h | h
        · have := hto.out.2.1 i j h (by omega); omega
        · have := hto.out.2.1 j i (by omega) (by omega); omega

set_option maxHeartbeats 1000000 in
theorem toOutline_any (A : Option Addr) (n c lo hi : Nat) (Ls : List (List Knot)) (w : World) (hr : OutRd w lo hi A n Ls) (hhi : hi ≤ w.heap.size) (hn : n ≤ 1048576) (hK : ∀ K ∈ Ls, K.length ≤ 1048576) :
    Calls Tryz.prog 61 #[.agg #[.slice A n c]] w fun e w' => ∃ A', e = .returned (.agg #[.slice A' n n]) ∧ OutOwn w' w.heap.size A' n n Ls ∧ Below w.heap.size w w' := by
  have hc := Lib.hid (fun a b d => toLoopS_any A n c lo hi Ls (((w.alloc a).alloc b).alloc d) (hr.frame good_loop (((SameB.refl _ _ w).alloc hhi _).alloc (by simp; omega) _ |>.alloc (by simp; omega) _)) (by simp; omega) hn hK)
  clear hr
  go_enter Tryz.func61, Tryz.ntmps61
  go_wp2_with fail
  refine (hc.out _ _ _).mono ?_
  rintro e w1 ⟨A', rfl, ho, hb1⟩
  have hnew := heap_new0 w (.cells #[.slice A n c] 32 (0, 0)) (.cells #[.slice none 0 0] 54 (0, 0)) (.cells #[.slice none 0 0] 54 (0, 0))
  have hR := (hb1.block _ (by simp <;> omega)).trans hnew.2.1
  have hO := (hb1.block _ (by simp <;> omega)).trans hnew.2.2
  clear hnew
  have hB1 : Below w.heap.size w w1 := ((((Below.refl _ _).alloc (Nat.le_refl _) _).alloc (by simp) _).alloc (by simp <;> omega) _).trans (hb1.mono (by simp <;> omega))
  have hz := hb1.size
  simp at hz
  have r0 : w1.cell? ⟨w.heap.size + 1, 0, none⟩ = some (.slice none 0 0) := by rw [Go.Joins.cell_of_block hR]; rfl
  have o0 : w1.cell? ⟨w.heap.size + 2, 0, none⟩ = some (.slice none 0 0) := by rw [Go.Joins.cell_of_block hO]; rfl
  have fr : ∀ o, w1.frozen? ⟨w.heap.size + 1, o, none⟩ = false := Go.Joins.unfrozen_of_block hR
  have fo : ∀ o, w1.frozen? ⟨w.heap.size + 2, o, none⟩ = false := Go.Joins.unfrozen_of_block hO
  replace ho := Lib.hid ho
  clear hR hO hb1
  go_wp2_with fail
  refine bodyPost_ret (v := .agg #[.slice A' n n]) (by simp [results, Tryz.results61, go_sem, r0]) rfl ⟨A', rfl, ?_, ?_⟩
  · exact ((ho.out.stored_below (by simp <;> omega) _).stored_below (by simp <;> omega) _).base (by simp; omega)
  · exact (hB1.setCell (by simp <;> omega) _).setCell (by simp <;> omega) _
end Go.Proofs.YtfkidklpjiiclaaGreat

