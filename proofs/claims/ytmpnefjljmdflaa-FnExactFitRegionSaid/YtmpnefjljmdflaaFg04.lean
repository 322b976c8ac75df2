/- The laws' own functions on slices of Knot. Conditions: as each states. -/
import Derived.RegionTactic
import Derived.ChangeAlike
import Derived.Outline
import Derived.Deep.RegionWith
import Derived.StillTailTactics
import Derived.WalkSmall
import Derived.Test.YtmpnefjljmdflaaFg02
import Derived.Test.YtmpnefjljmdflaaProg
import Derived.Test.YtmpnefjljmdflaaFg03
namespace Go.Proofs.Ytmpnefjljmdflaa
open Go.RowKit
set_option linter.unusedVariables false
set_option maxRecDepth 100000

theorem eqKnot_any (x0 : Int) (x1 : Int) (x2 : Bool) (w : World) :
    Calls Try.prog 126 #[.agg #[.int .i64 x0, .int .i64 x1, .bool x2], .agg #[.int .i64 x0, .int .i64 x1, .bool x2]] w fun e w' => e = .returned (.bool true) ∧ Below w.heap.size w w' := by
  go_enter Try.func126, Try.ntmps126
  go_wp2_with fail
  refine (eqPt_any _ _ _).mono ?_
  rintro e w1 ⟨rfl, hb1⟩
  obtain ⟨hc, hf⟩ := bcell hb1
  have hz1 := hb1.size
  simp at hz1
  have c02 : w1.cell? ⟨w.heap.size, 2, none⟩ = some (.bool x2) := by rw [hc _ _ (by simp <;> omega)]; go_simp
  have c12 : w1.cell? ⟨w.heap.size + 1, 2, none⟩ = some (.bool x2) := by rw [hc _ _ (by simp <;> omega)]; go_simp
  clear hc hf
  go_wp2_with fail
  go_ret
  exact ⟨rfl, (((Below.refl _ _).alloc (Nat.le_refl _) _).alloc (by simp) _).trans (hb1.mono (by simp <;> omega))⟩

theorem elemKnot : Elem Try.prog 55 127 3 24 := elem_mk (z := .agg #[.int .i64 0, .int .i64 0, .bool false]) Try.underlying55 (by kernel_rfl) rfl (by omega)
set_option maxRecDepth 100000 in
set_option maxHeartbeats 1000000 in
theorem eqKnotS_any (A A' : Option Addr) (n c n' c' lo hi lo' hi' : Nat) (L : List (Int × Int × Bool)) (w : World) (h1 : RdS 3 (FlatR knotC) w lo hi A n L) (h2 : RdS 3 (FlatR knotC) w lo' hi' A' n' L) (hh1 : hi ≤ w.heap.size) (hh2 : hi' ≤ w.heap.size) (hn : n ≤ 1000000000) :
    Calls Try.prog 76 #[.slice A n c, .slice A' n' c'] w fun e w' => e = .returned (.bool true) ∧ Below w.heap.size w w' := by
  obtain rfl : n = n' := h1.1.symm.trans h2.1
  replace h1 := Lib.hid h1
  replace h2 := Lib.hid h2
  go_enter Try.func76, Try.ntmps76
  go_wp2_with fail
  go_loopw [5] (fun i wr => ∃ k : Nat, i = .int .i64 k ∧ k ≤ n ∧ Below w.heap.size w wr) (fun i wr => n - (intOf i).toNat)
  case atStart => exact ⟨0, rfl, Nat.zero_le _, Below.refl _ _⟩
  case round =>
    obtain ⟨k, rfl, hk, hbel⟩ := hrel
    have hsz := hbel.size
    by_cases hlt : k < n
    · obtain ⟨b, off, ⟨x0, x1, x2⟩, rfl, hb0, hb, hja, hcs⟩ := (h1.out.frame (good_flat _) (Below.sameB hbel hh1)).at hlt
      obtain ⟨b', off', a', rfl, hb0', hb', hja', hcs'⟩ := (h2.out.frame (good_flat _) (Below.sameB hbel hh2)).at hlt
      have hja' := Option.some.inj (hja.symm.trans hja')
      subst hja' 
      have q0 := hcs 0 _ rfl
      have p0 := hcs' 0 _ rfl
      have q1 := hcs 1 _ rfl
      have p1 := hcs' 1 _ rfl
      have q2 := hcs 2 _ rfl
      have p2 := hcs' 2 _ rfl
      simp only [Nat.add_zero] at q0 p0 q1 p1 q2 p2
      clear hcs hcs' hja
      have hbw : b < wr.heap.size := by omega
      have hbw' : b' < wr.heap.size := by omega
      clear hb0 hb0' hb hb' hsz hh1 hh2 h1 h2
      have hi : (0 : Int) ≤ (k : Int) ∧ (k : Int) < (n : Int) := by omega
      go_wp2_with fail
      go_still_tail 8, (by kernel_rfl)
      go_wp2_with (go_at_call 126; refine (eqKnot_any _ _ _ _).mono ?_; rintro e w1 ⟨rfl, hb1⟩)
      go_roundw
      case rel => exact ⟨k + 1, by go_num, by omega, hbel.drew.trans (hb1.mono (by simp; exact hbel.size))⟩
      case measure => simp [intOf]; omega
    · go_wp2_with fail
      go_ret
      exact ⟨rfl, hbel⟩

end Go.Proofs.Ytmpnefjljmdflaa

/- Outlines in memory: slices of loops, each a slice of knots; the laws' own functions on them. Conditions: as each states. -/
namespace Go.Proofs.Ytmpnefjljmdflaa
open Go.RowKit
set_option linter.unusedVariables false
set_option maxRecDepth 100000

abbrev Knot := Int × Int × Bool
/-- a loop is a slice of knots -/
abbrev loopR : Rel (List Knot) := SliceR 3 (FlatR knotC)
theorem good_loop : Good loopR := good_slice 3 (good_flat _)
/-- the loops of an outline -/
abbrev OutRd (w : World) (lo hi : Nat) (A : Option Addr) (n : Nat) (Ls : List (List Knot)) : Prop := RdS 1 loopR w lo hi A n Ls
theorem out_at {w : World} {lo hi : Nat} {A : Option Addr} {n : Nat} {Ls : List (List Knot)} (h : OutRd w lo hi A n Ls) {j : Nat} (hj : j < n) :
    ∃ b off K A' n' c', A = some ⟨b, off, none⟩ ∧ lo ≤ b ∧ b < hi ∧ Ls[j]? = some K ∧ w.cell? ⟨b, off + j, none⟩ = some (.slice A' n' c') ∧ n' ≤ maxLen ∧ RdS 3 (FlatR knotC) w lo hi A' n' K := by
  obtain ⟨hl, h⟩ := h
  obtain ⟨b, off, rfl, h1, h2, h3⟩ := h (by omega)
  have hja : Ls[j]? = some (Ls[j]'(by omega)) := List.getElem?_eq_getElem (by omega)
  obtain ⟨es, e1, e2, A', n', c', rfl, hm, hr⟩ := h3 j _ hja
  have := e2 0 _ rfl
  simp only [Nat.mul_one, Nat.add_zero] at this
  exact ⟨b, off, _, A', n', c', rfl, h1, h2, hja, this, hm, hr⟩

theorem sum_take_le (L : List Nat) (k : Nat) : (L.take k).sum ≤ L.sum := by
  have := List.take_append_drop k L
  have h2 := congrArg List.sum this
  rw [List.sum_append] at h2
  omega
theorem sum_take_succ {L : List Nat} {k x : Nat} (h : L[k]? = some x) : (L.take (k + 1)).sum = (L.take k).sum + x := by
  have hl := (List.getElem?_eq_some_iff.1 h).1
  rw [List.take_succ_eq_append_getElem hl, List.sum_append]
  rw [List.getElem?_eq_getElem hl] at h
  injection h with h
  simp [h]
theorem map_at {α β : Type} {f : α → β} {L : List α} {k : Nat} {a : α} (h : L[k]? = some a) : (L.map f)[k]? = some (f a) := by rw [List.getElem?_map, h]; rfl

/-- what is left of a count: none, or the number -/
def LeftR (left r : Int) (size : Nat) : Prop := r < 0 ∨ (0 ≤ r ∧ r = left - size)

end Go.Proofs.Ytmpnefjljmdflaa

