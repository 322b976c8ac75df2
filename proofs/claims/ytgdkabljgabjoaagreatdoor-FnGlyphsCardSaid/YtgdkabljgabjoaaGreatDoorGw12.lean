/- Functions that compare two slices: the result says whether the lists are one. Conditions: as each states. -/
import Derived.RegionTactic
import Derived.ChangeAlike
import Derived.Outline
import Derived.BigQuiet
import Derived.Deep.QuietTactic
import Derived.WalkSmall
import Derived.Test.YtgdkabljgabjoaaGreatDoorGw01
import Derived.Test.YtgdkabljgabjoaaGreatDoorProg
import Derived.Test.YtgdkabljgabjoaaGreatDoorGw09
import Derived.Test.YtgdkabljgabjoaaGreatDoorGw10
namespace Go.Proofs.YtgdkabljgabjoaaGreatDoor
open Go.RowKit
set_option linter.unusedVariables false
set_option maxRecDepth 100000

end Go.Proofs.YtgdkabljgabjoaaGreatDoor

/- slices.Equal at anchors. Conditions: as it states. -/
namespace Go.Proofs.YtgdkabljgabjoaaGreatDoor
open Go.RowKit
set_option linter.unusedVariables false
set_option maxRecDepth 100000
theorem bytes_neq {a b : ByteArray} (h : a ≠ b) : (a.toList == b.toList) = false := by
  cases h1 : (a.toList == b.toList)
  · rfl
  · exact absurd (bytes_eq h1) h

end Go.Proofs.YtgdkabljgabjoaaGreatDoor

/- The index of an anchor with a name: the program's side. Conditions: as each states. -/
namespace Go.Proofs.YtgdkabljgabjoaaGreatDoor
open Go.RowKit
set_option linter.unusedVariables false
set_option maxRecDepth 100000

/-- the first place of an anchor with a name, or -1 -/
def AnchAt (K : List Anch) (nm : ByteArray) (r : Int) : Prop := (r = -1 ∧ ∀ b ∈ K, b.1 ≠ nm) ∨ ∃ (k : Nat) (a : Anch), r = (k : Int) ∧ K[k]? = some a ∧ a.1 = nm ∧ ∀ b ∈ K.take k, b.1 ≠ nm
theorem AnchAt.free {K : List Anch} {a : Anch} {r : Int} (h : AnchAt K a.1 r) : decide (0 ≤ r) = !anchFree K a := by
  rcases h with ⟨rfl, h⟩ | ⟨k, b, rfl, hb, hn, h⟩
  · have : anchFree K a = true := by unfold anchFree; rw [List.all_eq_true]; intro b hb; simpa using h b hb
    rw [this]; rfl
  · have : anchFree K a = false := by unfold anchFree; rw [List.all_eq_false]; exact ⟨b, List.mem_of_getElem? hb, by simp [hn]⟩
    rw [this]; simp
theorem free_step {K : List Anch} {nm : ByteArray} {k : Nat} {a : Anch} (h : ∀ b ∈ K.take k, b.1 ≠ nm) (hk : K[k]? = some a) (ha : a.1 ≠ nm) : ∀ b ∈ K.take (k + 1), b.1 ≠ nm := by
  have hl := (List.getElem?_eq_some_iff.1 hk).1
  rw [List.getElem?_eq_getElem hl] at hk; injection hk with hk
  intro b hb
  rw [List.take_succ_eq_append_getElem hl, List.mem_append] at hb
  rcases hb with hb | hb
  · exact h b hb
  · simp [hk] at hb; rw [hb]; exact ha

theorem anchName_any (bb : Nat) (s nm : ByteArray) (x y : Int) (t : Bool) (ht : t = decide (s = nm)) (w : World) (hc : w.cell? ⟨bb, 0, none⟩ = some (.string nm)) (hb : bb < w.heap.size) :
    Calls Tryz.prog 142 #[.agg #[.string s, .int .i64 x, .int .i64 y], .pointer (some ⟨bb, 0, none⟩)] w fun e w' => e = .returned (.bool t) ∧ Below w.heap.size w w' := by
  cases t
  · have u : (s.toList == nm.toList) = false := bytes_neq (of_decide_eq_false ht.symm)
    clear ht
    go_enter Tryz.func142, Tryz.ntmps142
    go_wp2_with fail
    go_ret
    exact ⟨rfl, Go.Joins.below_alloc1 _ _⟩
  · obtain rfl := of_decide_eq_true ht.symm
    clear ht
    go_enter Tryz.func142, Tryz.ntmps142
    go_wp2_with fail
    go_ret
    exact ⟨rfl, Go.Joins.below_alloc1 _ _⟩

set_option maxHeartbeats 2000000 in
theorem anchIndex_any (A : Option Addr) (n c lo hi : Nat) (K : List Anch) (bb : Nat) (nm : ByteArray) (w : World) (hr : RdS 3 (FlatR anchC) w lo hi A n K) (hhi : hi ≤ w.heap.size) (hn : n ≤ 1000000000) (hc : w.cell? ⟨bb, 0, none⟩ = some (.string nm)) (hb : bb < w.heap.size) :
    Calls Tryz.prog 141 #[.slice A n c, .func (.func 142) #[] #[.pointer (some ⟨bb, 0, none⟩)]] w fun e w' => ∃ r : Int, e = .returned (.int .i64 r) ∧ AnchAt K nm r ∧ Below w.heap.size w w' := by
  replace hr := Lib.hid hr
  replace hc := Lib.hid hc
  go_enter Tryz.func141, Tryz.ntmps141
  go_wp2_with fail
  go_loopw [8] (fun i wr => ∃ k : Nat, i = .int .i64 k ∧ k ≤ n ∧ (∀ b ∈ K.take k, b.1 ≠ nm) ∧ Below w.heap.size w wr) (fun i wr => n - (intOf i).toNat)
  case atStart => exact ⟨0, rfl, Nat.zero_le _, by simp, Below.refl _ _⟩
  case round =>
    obtain ⟨k, rfl, hk, hall, hbel⟩ := hrel
    replace hall := Lib.hid hall
    have hsz := hbel.size
    by_cases hlt : k < n
    · obtain ⟨b1, o1, ⟨x0, x1, x2⟩, rfl, _, hbw, hja, hcs⟩ := (hr.out.frame (good_flat _) (Below.sameB hbel hhi)).at hlt
      have q0 := hcs 0 _ rfl
      have q1 := hcs 1 _ rfl
      have q2 := hcs 2 _ rfl
      simp only [Nat.add_zero] at q0 q1 q2
      clear hcs
      replace hja := Lib.hid hja
      obtain ⟨t, ht⟩ : ∃ t, t = decide (x0 = nm) := ⟨_, rfl⟩
      have hcall := Lib.hid (anchName_any bb x0 nm x1 x2 t ht wr ((hbel.cell hb).trans hc.out) (by omega))
      replace ht := Lib.hid ht
      have hbw' : b1 < wr.heap.size := by omega
      go_wp2_with fail
      refine hcall.out.mono ?_
      rintro e w1 ⟨rfl, hb1⟩
      cases t
      · go_wp2_with fail
        go_roundw
        case rel => exact ⟨k + 1, by go_num, by omega, free_step hall.out hja.out (of_decide_eq_false ht.out.symm), hbel.trans (hb1.mono hbel.size)⟩
        case measure => simp [intOf]; omega
      · go_wp2_with fail
        go_ret
        exact ⟨k, rfl, .inr ⟨k, _, rfl, hja.out, of_decide_eq_true ht.out.symm, hall.out⟩, hbel.trans (hb1.mono hbel.size)⟩
    · have hkn : k = n := by omega
      have hfin := Lib.hid (show ∀ b ∈ K, b.1 ≠ nm from by have := hall.out; rwa [hkn, List.take_of_length_le (Nat.le_of_eq hr.out.1)] at this)
      replace hkn := Lib.hid hkn
      go_wp2_with fail
      go_ret
      exact ⟨-1, rfl, .inl ⟨rfl, hfin.out⟩, hbel⟩

theorem anchorAt_any (A : Option Addr) (n c lo hi : Nat) (K : List Anch) (nm : ByteArray) (w : World) (hr : RdS 3 (FlatR anchC) w lo hi A n K) (hhi : hi ≤ w.heap.size) (hn : n ≤ 1000000000) :
    Calls Tryz.prog 110 #[.slice A n c, .string nm] w fun e w' => ∃ r : Int, e = .returned (.int .i64 r) ∧ AnchAt K nm r ∧ Below w.heap.size w w' := by
  have hc := Lib.hid (anchIndex_any A n c lo hi K w.heap.size nm (w.alloc (.cells #[.string nm] 9 (0, 0))) (hr.frame (good_flat _) ((SameB.refl _ _ w).alloc hhi _)) (by simp; omega) hn (by rw [Go.Joins.cell_of_block (heap_alloc_new w _)]; rfl) (by simp))
  clear hr
  go_enter Tryz.func110, Tryz.ntmps110
  go_wp2_with fail
  refine hc.out.mono ?_
  rintro e w1 ⟨r, rfl, hr, hb1⟩
  go_wp2_with fail
  go_ret
  exact ⟨r, rfl, hr, (Go.Joins.below_alloc1 _ _).trans (hb1.mono (by simp))⟩
end Go.Proofs.YtgdkabljgabjoaaGreatDoor

