/- Outlines in memory: slices of loops, each a slice of knots; the laws' own functions on them. Conditions: as each states. -/
import Derived.WalkSmall
import Derived.Test.YtgfbcbbcnineiaaGreatSc07
namespace Go.Proofs.YtgfbcbbcnineiaaGreat
open Go.RowKit
set_option linter.unusedVariables false
set_option maxRecDepth 100000

abbrev Knot := Int × Int × Bool
/-- a loop is a slice of knots -/
abbrev loopR : Rel (List Knot) := SliceR 3 (FlatR knotC)
theorem good_loop : Good loopR := good_slice 3 (good_flat _)
/-- the loops of an outline -/
abbrev OutRd (w : World) (lo hi : Nat) (A : Option Addr) (n : Nat) (Ls : List (List Knot)) : Prop := RdS 1 loopR w lo hi A n Ls
theorem out_at {w : World} {lo hi : Nat} {A : Option Addr} {n : Nat} {Ls : List (List Knot)} (h : OutRd w lo hi A n Ls) {j : Nat} (hj : j < n) :
    ∃ b off K A' n' c', A = some ⟨b, off, none⟩ ∧ lo ≤ b ∧ b < hi ∧ Ls[j]? = some K ∧ w.cell? ⟨b, off + j, none⟩ = some (.slice A' n' c') ∧ n' ≤ maxLen ∧ RdS 3 (FlatR knotC) w lo hi A' n' K := by
  obtain ⟨hl, h⟩ := h
  obtain ⟨b, off, rfl, h1, h2, h3⟩ := h (by omega)
  have hja : Ls[j]? = some (Ls[j]'(by omega)) := List.getElem?_eq_getElem (by omega)
  obtain ⟨es, e1, e2, A', n', c', rfl, hm, hr⟩ := h3 j _ hja
  have := e2 0 _ rfl
  simp only [Nat.mul_one, Nat.add_zero] at this
  exact ⟨b, off, _, A', n', c', rfl, h1, h2, hja, this, hm, hr⟩

/-- how many loops and knots there are -/
def outSize (Ls : List (List Knot)) : Nat := Ls.length + (Ls.map List.length).sum
theorem sum_take_succ {L : List Nat} {k x : Nat} (h : L[k]? = some x) : (L.take (k + 1)).sum = (L.take k).sum + x := by
  have hl := (List.getElem?_eq_some_iff.1 h).1
  rw [List.take_succ_eq_append_getElem hl, List.sum_append]
  rw [List.getElem?_eq_getElem hl] at h
  injection h with h
  simp [h]
theorem map_at {α β : Type} {f : α → β} {L : List α} {k : Nat} {a : α} (h : L[k]? = some a) : (L.map f)[k]? = some (f a) := by rw [List.getElem?_map, h]; rfl

theorem szLoop_any (A : Option Addr) (n c : Nat) (left : Int) (w : World) (hn : n ≤ 9223372036854775807) (h0 : 0 ≤ left) (h1 : left ≤ 1048576) (r : Int) (hr : r = if (n : Int) ≤ left then left - n else -1) :
    Calls Tryz.prog 100 #[.agg #[.slice A n c], .int .i64 left] w fun e w' => e = .returned (.int .i64 r) ∧ Below w.heap.size w w' := by
  have hsz := Lib.hid (fun W => szKnotS_any A n c left W hn h0 h1 r hr)
  by_cases h : (n : Int) ≤ left
  · rw [if_pos h] at hr
    have hr0 : 0 ≤ r := by omega
    replace hr := Lib.hid hr
    go_enter Tryz.func100, Tryz.ntmps100
    go_wp2_with fail
    refine (hsz.out _).mono ?_
    rintro e w' ⟨rfl, rfl⟩
    go_wp2_with fail
    go_ret
    exact ⟨rfl, Go.Joins.below_alloc1 _ _⟩
  · rw [if_neg h] at hr
    subst hr
    go_enter Tryz.func100, Tryz.ntmps100
    go_wp2_with fail
    refine (hsz.out _).mono ?_
    rintro e w' ⟨rfl, rfl⟩
    go_wp2_with fail
    go_ret
    exact ⟨rfl, Go.Joins.below_alloc1 _ _⟩

/-- what is left of a count: none, or the number -/
def LeftR (left r : Int) (size : Nat) : Prop := r < 0 ∨ (0 ≤ r ∧ r = left - size)

set_option maxHeartbeats 2000000 in
theorem szLoopS_any (A : Option Addr) (n c lo hi : Nat) (Ls : List (List Knot)) (left : Int) (w : World) (hr : OutRd w lo hi A n Ls) (hhi : hi ≤ w.heap.size) (hn : n ≤ 9223372036854775807) (h0 : 0 ≤ left) (h1 : left ≤ 1048576) :
    Calls Tryz.prog 79 #[.slice A n c, .int .i64 left] w fun e w' => ∃ r : Int, e = .returned (.int .i64 r) ∧ LeftR left r (outSize Ls) ∧ Below w.heap.size w w' := by
  have hll := Lib.hid hr.1
  replace hr := Lib.hid hr
  by_cases hnl : (n : Int) ≤ left
  rotate_left
  · go_enter Tryz.func79, Tryz.ntmps79
    go_wp2_with fail
    go_ret
    exact ⟨_, rfl, .inl (by omega), Below.refl _ _⟩
  go_enter Tryz.func79, Tryz.ntmps79
  go_wp2_with fail
  go_loopw [1, 5] (fun lv i wr => ∃ (k : Nat) (l : Int), i = .int .i64 k ∧ lv = .int .i64 l ∧ k ≤ n ∧ 0 ≤ l ∧ l = left - n - ((Ls.map List.length).take k).sum ∧ Below w.heap.size w wr) (fun lv i wr => n - (intOf i).toNat)
  case atStart => exact ⟨0, left - n, rfl, rfl, Nat.zero_le _, by omega, by simp, Below.refl _ _⟩
  case round =>
    obtain ⟨k, l, rfl, rfl, hk, hl0, hl, hbel⟩ := hrel
    have hl1 : l ≤ 1048576 := by omega
    replace hl := Lib.hid hl
    by_cases hlt : k < n
    · obtain ⟨b, off, K, A', n', c', rfl, hb0, hb, hja, q0, hm, hrk⟩ := out_at (hr.out.frame good_loop (Below.sameB hbel hhi)) hlt
      have hbw : b < wr.heap.size := by have := hbel.size; omega
      have hlen : n' = K.length := hrk.1.symm
      have hst := Lib.hid (sum_take_succ (map_at (f := List.length) hja))
      replace hlen := Lib.hid hlen
      replace hja := Lib.hid hja
      unfold maxLen at hm
      obtain ⟨r, hr'⟩ : ∃ r : Int, r = if (n' : Int) ≤ l then l - n' else -1 := ⟨_, rfl⟩
      go_wp2_with fail
      refine (szLoop_any A' n' c' l _ (by omega) hl0 hl1 r hr').mono ?_
      rintro e w1 ⟨rfl, hb1⟩
      have hbel1 := hbel.trans (hb1.mono hbel.size)
      by_cases hnl' : (n' : Int) ≤ l
      · rw [if_pos hnl'] at hr'
        have hr0 : 0 ≤ r := by omega
        replace hr' := Lib.hid hr'
        go_wp2_with fail
        go_roundw
        case rel => exact ⟨k + 1, r, by go_num, rfl, by omega, hr0, by rw [hr'.out, hl.out, hst.out, hlen.out]; omega, hbel1⟩
        case measure => simp [intOf]; omega
      · rw [if_neg hnl'] at hr'
        subst hr'
        go_wp2_with fail
        go_ret
        exact ⟨_, rfl, .inl (by omega), hbel1⟩
    · have hkn : k = n := by omega
      have hfin : l = left - outSize Ls := by
        rw [hl.out, List.take_of_length_le (by rw [List.length_map, hll.out]; omega), outSize, hll.out]; omega
      replace hkn := Lib.hid hkn
      replace hfin := Lib.hid hfin
      go_wp2_with fail
      go_ret
      exact ⟨_, rfl, .inr ⟨hl0, hfin.out⟩, hbel⟩

theorem szOutline_any (A : Option Addr) (n c lo hi : Nat) (Ls : List (List Knot)) (left : Int) (w : World) (hr : OutRd w lo hi A n Ls) (hhi : hi ≤ w.heap.size) (hn : n ≤ 9223372036854775807) (h0 : 0 ≤ left) (h1 : left ≤ 1048576) :
    Calls Tryz.prog 45 #[.agg #[.slice A n c], .int .i64 left] w fun e w' => ∃ r : Int, e = .returned (.int .i64 r) ∧ LeftR left r (outSize Ls) ∧ Below w.heap.size w w' := by
  have hc := Lib.hid (fun o => szLoopS_any A n c lo hi Ls left (w.alloc o) (hr.frame good_loop (SameB.alloc (SameB.refl _ _ _) hhi _)) (by simp; omega) hn h0 h1)
  clear hr
  go_enter Tryz.func45, Tryz.ntmps45
  go_wp2_with fail
  refine (hc.out _).mono ?_
  rintro e w1 ⟨r, rfl, hl, hb1⟩
  have hB := (Go.Joins.below_alloc1 _ _).trans (hb1.mono (by simp))
  rcases hl with hl | ⟨hl0, hl⟩
  · go_wp2_with fail
    go_ret
    exact ⟨_, rfl, .inl (by omega), hB⟩
  · replace hl := Lib.hid hl
    go_wp2_with fail
    go_ret
    exact ⟨_, rfl, .inr ⟨hl0, hl.out⟩, hB⟩
end Go.Proofs.YtgfbcbbcnineiaaGreat

