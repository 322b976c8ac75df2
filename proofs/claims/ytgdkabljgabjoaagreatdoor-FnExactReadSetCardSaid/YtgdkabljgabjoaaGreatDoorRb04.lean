/- A state of the hint machine that came in, opened. No walk in sight. Conditions: none. -/
import Derived.RegionTactic
import Derived.ChangeAlike
import Derived.Outline
import Derived.Deep.RegionWith
import Derived.StillTailTactics
import Derived.WalkSmall
import Derived.OneCell
import Derived.Test.YtgdkabljgabjoaaGreatDoorRb03
import Derived.Test.YtgdkabljgabjoaaGreatDoorRb01
import Derived.Test.YtgdkabljgabjoaaGreatDoorProg
import Derived.Test.YtgdkabljgabjoaaGreatDoorRb02
namespace Go.Proofs.YtgdkabljgabjoaaGreatDoor
open Go.RowKit Go.ChangeShapes Go.WideShapes Go.Deep
set_option linter.unusedVariables false
set_option maxRecDepth 100000

def hinC (d : HinterD) (h : HinterH) : List Value := [.int .i64 d.size, .slice h.orig.A h.orig.n h.orig.c, .slice h.now.A h.now.n h.now.c, .slice h.tx.A h.tx.n h.tx.c, .slice h.ty.A h.ty.n h.ty.c, .slice h.ends.A h.ends.n h.ends.c, .slice h.values.A h.values.n h.values.c, .slice h.stack.A h.stack.n h.stack.c, .bool d.axisY, .int .i64 d.ref, .int .i64 d.state, .int .i64 d.cut, .int .i64 d.least]

end Go.Proofs.YtgdkabljgabjoaaGreatDoor

/- The laws' own functions on slices of Knot. Conditions: as each states. -/
namespace Go.Proofs.YtgdkabljgabjoaaGreatDoor
open Go.RowKit
set_option linter.unusedVariables false
set_option maxRecDepth 100000

theorem eqKnot_any (x0 : Int) (x1 : Int) (x2 : Bool) (w : World) :
    Calls Tryz.prog 159 #[.agg #[.int .i64 x0, .int .i64 x1, .bool x2], .agg #[.int .i64 x0, .int .i64 x1, .bool x2]] w fun e w' => e = .returned (.bool true) ∧ Below w.heap.size w w' := by
  go_enter Tryz.func159, Tryz.ntmps159
  go_wp2_with fail
  refine (eqPt_any _ _ _).mono ?_
  rintro e w1 ⟨rfl, hb1⟩
  obtain ⟨hc, hf⟩ := bcell hb1
  have hz1 := hb1.size
  simp at hz1
  have c02 : w1.cell? ⟨w.heap.size, 2, none⟩ = some (.bool x2) := by rw [hc _ _ (by simp <;> omega)]; go_simp
  have c12 : w1.cell? ⟨w.heap.size + 1, 2, none⟩ = some (.bool x2) := by rw [hc _ _ (by simp <;> omega)]; go_simp
  clear hc hf
  go_wp2_with fail
  go_ret
  exact ⟨rfl, (((Below.refl _ _).alloc (Nat.le_refl _) _).alloc (by simp) _).trans (hb1.mono (by simp <;> omega))⟩

theorem elemKnot : Elem Tryz.prog 111 152 3 24 := elem_mk (z := .agg #[.int .i64 0, .int .i64 0, .bool false]) Tryz.underlying111 (by kernel_rfl) rfl (by omega)
theorem infoKnot : (Tryz.prog.info? 152).map (fun i => (i.zero, i.size, i.bytes)) = some (some (.agg #[.int .i64 0, .int .i64 0, .bool false]), 3, 24) := by kernel_rfl

set_option maxRecDepth 100000 in
set_option maxHeartbeats 1000000 in
theorem eqKnotS_any (A A' : Option Addr) (n c n' c' lo hi lo' hi' : Nat) (L : List (Int × Int × Bool)) (w : World) (h1 : RdS 3 (FlatR knotC) w lo hi A n L) (h2 : RdS 3 (FlatR knotC) w lo' hi' A' n' L) (hh1 : hi ≤ w.heap.size) (hh2 : hi' ≤ w.heap.size) (hn : n ≤ 1000000000) :
    Calls Tryz.prog 150 #[.slice A n c, .slice A' n' c'] w fun e w' => e = .returned (.bool true) ∧ Below w.heap.size w w' := by
  obtain rfl : n = n' := h1.1.symm.trans h2.1
  replace h1 := Lib.hid h1
  replace h2 := Lib.hid h2
  go_enter Tryz.func150, Tryz.ntmps150
  go_wp2_with fail
  go_loopw [5] (fun i wr => ∃ k : Nat, i = .int .i64 k ∧ k ≤ n ∧ Below w.heap.size w wr) (fun i wr => n - (intOf i).toNat)
  case atStart => exact ⟨0, rfl, Nat.zero_le _, Below.refl _ _⟩
  case round =>
    obtain ⟨k, rfl, hk, hbel⟩ := hrel
    have hsz := hbel.size
    by_cases hlt : k < n
    · obtain ⟨b, off, ⟨x0, x1, x2⟩, rfl, hb0, hb, hja, hcs⟩ := (h1.out.frame (good_flat _) (Below.sameB hbel hh1)).at hlt
      obtain ⟨b', off', a', rfl, hb0', hb', hja', hcs'⟩ := (h2.out.frame (good_flat _) (Below.sameB hbel hh2)).at hlt
      have hja' := Option.some.inj (hja.symm.trans hja')
      subst hja' 
      have q0 := hcs 0 _ rfl
      have p0 := hcs' 0 _ rfl
      have q1 := hcs 1 _ rfl
      have p1 := hcs' 1 _ rfl
      have q2 := hcs 2 _ rfl
      have p2 := hcs' 2 _ rfl
      simp only [Nat.add_zero] at q0 p0 q1 p1 q2 p2
      clear hcs hcs' hja
      have hbw : b < wr.heap.size := by omega
      have hbw' : b' < wr.heap.size := by omega
      clear hb0 hb0' hb hb' hsz hh1 hh2 h1 h2
      have hi : (0 : Int) ≤ (k : Int) ∧ (k : Int) < (n : Int) := by omega
      go_wp2_with fail
      go_still_tail 8, (by kernel_rfl)
      go_wp2_with (go_at_call 159; refine (eqKnot_any _ _ _ _).mono ?_; rintro e w1 ⟨rfl, hb1⟩)
      go_roundw
      case rel => exact ⟨k + 1, by go_num, by omega, hbel.drew.trans (hb1.mono (by simp; exact hbel.size))⟩
      case measure => simp [intOf]; omega
    · go_wp2_with fail
      go_ret
      exact ⟨rfl, hbel⟩

end Go.Proofs.YtgdkabljgabjoaaGreatDoor

/- Outlines in memory: slices of loops, each a slice of knots; the laws' own functions on them. Conditions: as each states. -/
namespace Go.Proofs.YtgdkabljgabjoaaGreatDoor
open Go.RowKit
set_option linter.unusedVariables false
set_option maxRecDepth 100000

abbrev Knot := Int × Int × Bool
/-- a loop is a slice of knots -/
abbrev loopR : Rel (List Knot) := SliceR 3 (FlatR knotC)
theorem good_loop : Good loopR := good_slice 3 (good_flat _)
/-- the loops of an outline -/
abbrev OutRd (w : World) (lo hi : Nat) (A : Option Addr) (n : Nat) (Ls : List (List Knot)) : Prop := RdS 1 loopR w lo hi A n Ls
theorem out_at {w : World} {lo hi : Nat} {A : Option Addr} {n : Nat} {Ls : List (List Knot)} (h : OutRd w lo hi A n Ls) {j : Nat} (hj : j < n) :
    ∃ b off K A' n' c', A = some ⟨b, off, none⟩ ∧ lo ≤ b ∧ b < hi ∧ Ls[j]? = some K ∧ w.cell? ⟨b, off + j, none⟩ = some (.slice A' n' c') ∧ n' ≤ maxLen ∧ RdS 3 (FlatR knotC) w lo hi A' n' K := by
  obtain ⟨hl, h⟩ := h
  obtain ⟨b, off, rfl, h1, h2, h3⟩ := h (by omega)
  have hja : Ls[j]? = some (Ls[j]'(by omega)) := List.getElem?_eq_getElem (by omega)
  obtain ⟨es, e1, e2, A', n', c', rfl, hm, hr⟩ := h3 j _ hja
  have := e2 0 _ rfl
  simp only [Nat.mul_one, Nat.add_zero] at this
  exact ⟨b, off, _, A', n', c', rfl, h1, h2, hja, this, hm, hr⟩

/-- how many loops and knots there are -/
def outSize (Ls : List (List Knot)) : Nat := Ls.length + (Ls.map List.length).sum
theorem sum_take_le (L : List Nat) (k : Nat) : (L.take k).sum ≤ L.sum := by
  have := List.take_append_drop k L
  have h2 := congrArg List.sum this
  rw [List.sum_append] at h2
  omega
theorem sum_take_succ {L : List Nat} {k x : Nat} (h : L[k]? = some x) : (L.take (k + 1)).sum = (L.take k).sum + x := by
  have hl := (List.getElem?_eq_some_iff.1 h).1
  rw [List.take_succ_eq_append_getElem hl, List.sum_append]
  rw [List.getElem?_eq_getElem hl] at h
  injection h with h
  simp [h]
theorem map_at {α β : Type} {f : α → β} {L : List α} {k : Nat} {a : α} (h : L[k]? = some a) : (L.map f)[k]? = some (f a) := by rw [List.getElem?_map, h]; rfl

/-- what is left of a count: none, or the number -/
def LeftR (left r : Int) (size : Nat) : Prop := r < 0 ∨ (0 ≤ r ∧ r = left - size)

end Go.Proofs.YtgdkabljgabjoaaGreatDoor

/- An outline's copy: the laws' functions that turn an outline of theirs into one of the program's. Conditions: as each states. -/
namespace Go.Proofs.YtgdkabljgabjoaaGreatDoor
open Go.RowKit
set_option linter.unusedVariables false
set_option maxRecDepth 100000

/-- no block of one is a block of the other -/
def ApartV (u v : Value) : Prop := ∀ g, u.ownBlock = some g → v.ownBlock ≠ some g
/-- an outline of the call's own: its row, its loops' rows, each in a block of its own -/
def OutOwn (w : World) (lo : Nat) (A : Option Addr) (n c : Nat) (Ls : List (List Knot)) : Prop := ∃ ys : List Value, Ls.length = n ∧ w.ownsRow lo 113 1 (.slice A n c) n ys ∧
  (∀ (j : Nat) (K : List Knot), Ls[j]? = some K → ∃ (Aj : Option Addr) (cj : Nat), ys[j]? = some (.slice Aj K.length cj) ∧ w.ownsRow lo 152 3 (.slice Aj K.length cj) K.length (K.flatMap knotC)) ∧
  (∀ (i j : Nat) (u v : Value), i ≠ j → ys[i]? = some u → ys[j]? = some v → ApartV u v)
theorem OutOwn.kept {w w' : World} {lo n c : Nat} {A : Option Addr} {Ls : List (List Knot)} (h : OutOwn w lo A n c Ls) (hb : Below w.heap.size w w') : OutOwn w' lo A n c Ls := by
  obtain ⟨ys, h1, h2, h3, h4⟩ := h
  refine ⟨ys, h1, own_below h2 hb, fun j K hj => ?_, h4⟩
  obtain ⟨Aj, cj, h5, h6⟩ := h3 j K hj
  exact ⟨Aj, cj, h5, own_below h6 hb⟩
theorem own_row_at {w : World} {lo e n c : Nat} {A : Option Addr} {ys : List Value} (h : w.ownsRow lo e 1 (.slice A n c) n ys) {j : Nat} {v : Value} (hj : ys[j]? = some v) : ∃ g, A = some ⟨g, 0, none⟩ ∧ lo ≤ g ∧ g < w.heap.size ∧ w.cell? ⟨g, j, none⟩ = some v := by
  have hl := h.1
  have hjl := (List.getElem?_eq_some_iff.1 hj).1
  obtain ⟨g, rfl, h1, h2, _, hc, _⟩ := own_at h (by omega)
  exact ⟨g, rfl, h1, h2, by rw [hc j (by omega), hj]⟩
theorem OutOwn.rd {w : World} {lo n c : Nat} {A : Option Addr} {Ls : List (List Knot)} (h : OutOwn w lo A n c Ls) (hm : ∀ K ∈ Ls, K.length ≤ maxLen) : OutRd w lo w.heap.size A n Ls := by
  obtain ⟨ys, h1, h2, h3, h4⟩ := h
  refine ⟨h1, fun hn => ?_⟩
  obtain ⟨g, rfl, hg1, hg2, _, hc, _⟩ := own_at h2 hn
  refine ⟨g, 0, rfl, hg1, hg2, fun j K hj => ?_⟩
  obtain ⟨Aj, cj, h5, h6⟩ := h3 j K hj
  refine ⟨[.slice Aj K.length cj], rfl, fun i u hu => ?_, Aj, K.length, cj, rfl, hm K (List.mem_of_getElem? hj), rdS_own knotC_len (by omega) h6 rfl⟩
  match i, hu with
  | 0, hu =>
    injection hu with hu
    subst hu
    have hjl := (List.getElem?_eq_some_iff.1 hj).1
    simp only [Nat.mul_one, Nat.add_zero, Nat.zero_add]
    rw [hc j (by omega), h5]
theorem OutOwn.stored_below {w : World} {lo n c : Nat} {A : Option Addr} {Ls : List (List Knot)} (h : OutOwn w lo A n c Ls) {a : Addr} (ha : a.block < lo) (u : Value) : OutOwn (w.setCell a u) lo A n c Ls := by
  obtain ⟨ys, h1, h2, h3, h4⟩ := h
  refine ⟨ys, h1, ownsRow_setCell_below h2 ha u, fun j K hj => ?_, h4⟩
  obtain ⟨Aj, cj, h5, h6⟩ := h3 j K hj
  exact ⟨Aj, cj, h5, ownsRow_setCell_below h6 ha u⟩
theorem own_lower {w : World} {lo lo' e size n : Nat} {v : Value} {xs : List Value} (h : w.ownsRow lo e size v n xs) (hl : lo' ≤ lo) : w.ownsRow lo' e size v n xs := by
  refine ⟨h.1, ?_⟩
  rcases h.2 with h2 | ⟨g, cap, cur, hv, hg, r⟩
  · exact .inl h2
  · exact .inr ⟨g, cap, cur, hv, Nat.le_trans hl hg, r⟩
theorem OutOwn.base {w : World} {lo lo' n c : Nat} {A : Option Addr} {Ls : List (List Knot)} (h : OutOwn w lo A n c Ls) (hl : lo' ≤ lo) : OutOwn w lo' A n c Ls := by
  obtain ⟨ys, h1, h2, h3, h4⟩ := h
  refine ⟨ys, h1, own_lower h2 hl, fun j K hj => ?_, h4⟩
  obtain ⟨Aj, cj, h5, h6⟩ := h3 j K hj
  exact ⟨Aj, cj, h5, own_lower h6 hl⟩

theorem elemLoop : Elem Tryz.prog 22 113 1 24 := elem_mk (z := .agg #[.slice none 0 0]) Tryz.underlying22 (by kernel_rfl) rfl (by omega)
theorem infoLoop : (Tryz.prog.info? 113).map (fun i => (i.zero, i.size, i.bytes)) = some (some (.agg #[.slice none 0 0]), 1, 24) := by kernel_rfl

def updN (gs : Nat → Nat) (k g j : Nat) : Nat := if j = k then g else gs j
theorem updN_same (gs : Nat → Nat) (k g : Nat) : updN gs k g k = g := if_pos rfl
theorem updN_ne (gs : Nat → Nat) {k g j : Nat} (h : j ≠ k) : updN gs k g j = gs j := if_neg h
/-- the loops up to k stand in the row ys, each in a block of its own, in rising order -/
def LoopsTo (w : World) (X : Nat) (Ls : List (List Knot)) (k : Nat) (ys : List Value) (gs : Nat → Nat) : Prop :=
  (∀ (j : Nat) (K : List Knot), j < k → Ls[j]? = some K → ys[j]? = some (.slice (some ⟨gs j, 0, none⟩) K.length K.length) ∧ w.ownsRow (X + 1) 152 3 (.slice (some ⟨gs j, 0, none⟩) K.length K.length) K.length (K.flatMap knotC)) ∧
  (∀ i j : Nat, i < j → j < k → gs i < gs j) ∧ (∀ j : Nat, j < k → gs j < w.heap.size)

end Go.Proofs.YtgdkabljgabjoaaGreatDoor

