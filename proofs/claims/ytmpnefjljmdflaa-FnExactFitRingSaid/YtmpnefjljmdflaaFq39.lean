/- Regions, as outlines are: XOut turned. Conditions: as each states. -/
import Derived.WalkSmall
import Derived.OneCell
import Derived.Test.YtmpnefjljmdflaaFq05
import Derived.Test.YtmpnefjljmdflaaFq04
import Derived.Test.YtmpnefjljmdflaaFq06
namespace Go.Proofs.Ytmpnefjljmdflaa
open Go.RowKit
set_option linter.unusedVariables false
set_option maxRecDepth 100000

/-- a loop is a slice of knots -/
abbrev ringR : Rel (List (Int × Int)) := SliceR 2 (FlatR ptC)
/-- the loops of an outline -/
abbrev RegRd (w : World) (lo hi : Nat) (A : Option Addr) (n : Nat) (Ls : List (List (Int × Int))) : Prop := RdS 1 ringR w lo hi A n Ls
theorem szRing_any (A : Option Addr) (n c : Nat) (left : Int) (w : World) (hn : n ≤ 9223372036854775807) (h0 : 0 ≤ left) (h1 : left ≤ 1048576) (r : Int) (hr : r = if (n : Int) ≤ left then left - n else -1) :
    Calls Try.prog 21 #[.agg #[.slice A n c], .int .i64 left] w fun e w' => e = .returned (.int .i64 r) ∧ Below w.heap.size w w' := by
  have hsz := Lib.hid (fun W => szPtS_any A n c left W hn h0 h1 r hr)
  by_cases h : (n : Int) ≤ left
  · rw [if_pos h] at hr
    have hr0 : 0 ≤ r := by omega
    replace hr := Lib.hid hr
    go_enter Try.func21, Try.ntmps21
    go_wp2_with fail
    refine (hsz.out _).mono ?_
    rintro e w' ⟨rfl, rfl⟩
    go_wp2_with fail
    go_ret
    exact ⟨rfl, Go.Joins.below_alloc1 _ _⟩
  · rw [if_neg h] at hr
    subst hr
    go_enter Try.func21, Try.ntmps21
    go_wp2_with fail
    refine (hsz.out _).mono ?_
    rintro e w' ⟨rfl, rfl⟩
    go_wp2_with fail
    go_ret
    exact ⟨rfl, Go.Joins.below_alloc1 _ _⟩

end Go.Proofs.Ytmpnefjljmdflaa

/- Regions, as outlines are: XOutT turned. Conditions: as each states. -/
namespace Go.Proofs.Ytmpnefjljmdflaa
open Go.RowKit
set_option linter.unusedVariables false
set_option maxRecDepth 100000

/-- an outline of the call's own: its row, its loops' rows, each in a block of its own -/
def RegOwn (w : World) (lo : Nat) (A : Option Addr) (n c : Nat) (Ls : List (List (Int × Int))) : Prop := ∃ ys : List Value, Ls.length = n ∧ w.ownsRow lo 61 1 (.slice A n c) n ys ∧
  (∀ (j : Nat) (K : List (Int × Int)), Ls[j]? = some K → ∃ (Aj : Option Addr) (cj : Nat), ys[j]? = some (.slice Aj K.length cj) ∧ w.ownsRow lo 24 2 (.slice Aj K.length cj) K.length (K.flatMap ptC)) ∧
  (∀ (i j : Nat) (u v : Value), i ≠ j → ys[i]? = some u → ys[j]? = some v → ApartV u v)
theorem RegOwn.kept {w w' : World} {lo n c : Nat} {A : Option Addr} {Ls : List (List (Int × Int))} (h : RegOwn w lo A n c Ls) (hb : Below w.heap.size w w') : RegOwn w' lo A n c Ls := by
  obtain ⟨ys, h1, h2, h3, h4⟩ := h
  refine ⟨ys, h1, own_below h2 hb, fun j K hj => ?_, h4⟩
  obtain ⟨Aj, cj, h5, h6⟩ := h3 j K hj
  exact ⟨Aj, cj, h5, own_below h6 hb⟩
theorem RegOwn.rd {w : World} {lo n c : Nat} {A : Option Addr} {Ls : List (List (Int × Int))} (h : RegOwn w lo A n c Ls) (hm : ∀ K ∈ Ls, K.length ≤ maxLen) : RegRd w lo w.heap.size A n Ls := by
  obtain ⟨ys, h1, h2, h3, h4⟩ := h
  refine ⟨h1, fun hn => ?_⟩
  obtain ⟨g, rfl, hg1, hg2, _, hc, _⟩ := own_at h2 hn
  refine ⟨g, 0, rfl, hg1, hg2, fun j K hj => ?_⟩
  obtain ⟨Aj, cj, h5, h6⟩ := h3 j K hj
  refine ⟨[.slice Aj K.length cj], rfl, fun i u hu => ?_, Aj, K.length, cj, rfl, hm K (List.mem_of_getElem? hj), rdS_own ptC_len (by omega) h6 rfl⟩
  match i, hu with
  | 0, hu =>
    injection hu with hu
    subst hu
    have hjl := (List.getElem?_eq_some_iff.1 hj).1
    simp only [Nat.mul_one, Nat.add_zero, Nat.zero_add]
    rw [hc j (by omega), h5]
theorem RegOwn.base {w : World} {lo lo' n c : Nat} {A : Option Addr} {Ls : List (List (Int × Int))} (h : RegOwn w lo A n c Ls) (hl : lo' ≤ lo) : RegOwn w lo' A n c Ls := by
  obtain ⟨ys, h1, h2, h3, h4⟩ := h
  refine ⟨ys, h1, own_lower h2 hl, fun j K hj => ?_, h4⟩
  obtain ⟨Aj, cj, h5, h6⟩ := h3 j K hj
  exact ⟨Aj, cj, h5, own_lower h6 hl⟩

set_option maxHeartbeats 1000000 in
theorem toRing_any (A : Option Addr) (n c lo hi : Nat) (K : List (Int × Int)) (w : World) (hr : RdS 2 (FlatR ptC) w lo hi A n K) (hhi : hi ≤ w.heap.size) (hn : n ≤ 1048576) :
    Calls Try.prog 23 #[.agg #[.slice A n c]] w fun e w' => ∃ g, e = .returned (.agg #[.slice (some ⟨g, 0, none⟩) n n]) ∧ g = w.heap.size + 3 ∧ w'.ownsRow (w.heap.size + 3) 24 2 (.slice (some ⟨g, 0, none⟩) n n) n (K.flatMap ptC) ∧ Below w.heap.size w w' := by
  have hc := Lib.hid (fun a b d => toPtS_any A n c lo hi K (((w.alloc a).alloc b).alloc d) (hr.frame (good_flat _) (((SameB.refl _ _ w).alloc hhi _).alloc (by simp; omega) _ |>.alloc (by simp; omega) _)) (by simp; omega) hn)
  clear hr
  go_enter Try.func23, Try.ntmps23
  go_wp2_with fail
  refine (hc.out _ _ _).mono ?_
  rintro e w1 ⟨g, rfl, hg, ho, hb1⟩
  have hnew := heap_new0 w (.cells #[.slice A n c] 53 (0, 0)) (.cells #[.slice none 0 0] 61 (0, 0)) (.cells #[.slice none 0 0] 61 (0, 0))
  have hR := (hb1.block _ (by simp <;> omega)).trans hnew.2.1
  have hO := (hb1.block _ (by simp <;> omega)).trans hnew.2.2
  clear hnew
  have hB1 : Below w.heap.size w w1 := ((((Below.refl _ _).alloc (Nat.le_refl _) _).alloc (by simp) _).alloc (by simp <;> omega) _).trans (hb1.mono (by simp <;> omega))
  have hz := hb1.size
  simp at hz hg
  have r0 : w1.cell? ⟨w.heap.size + 1, 0, none⟩ = some (.slice none 0 0) := by rw [Go.Joins.cell_of_block hR]; rfl
  have o0 : w1.cell? ⟨w.heap.size + 2, 0, none⟩ = some (.slice none 0 0) := by rw [Go.Joins.cell_of_block hO]; rfl
  have fr : ∀ o, w1.frozen? ⟨w.heap.size + 1, o, none⟩ = false := Go.Joins.unfrozen_of_block hR
  have fo : ∀ o, w1.frozen? ⟨w.heap.size + 2, o, none⟩ = false := Go.Joins.unfrozen_of_block hO
  replace ho := Lib.hid ho
  replace hg := Lib.hid hg
  clear hR hO hb1
  go_wp2_with fail
  refine bodyPost_ret (v := .agg #[.slice (some ⟨g, 0, none⟩) n n]) (by simp [results, Try.results23, go_sem, r0]) rfl ⟨g, rfl, by rw [hg.out], ?_, ?_⟩
  · refine ownsRow_setCell_other (ownsRow_setCell_other ?_ ?_ _) ?_ _
    · exact own_lower ho.out (by simp)
    · simp [Value.ownBlock]; have := hg.out; omega
    · simp [Value.ownBlock]; have := hg.out; omega
  · exact (hB1.setCell (by simp <;> omega) _).setCell (by simp <;> omega) _

end Go.Proofs.Ytmpnefjljmdflaa

