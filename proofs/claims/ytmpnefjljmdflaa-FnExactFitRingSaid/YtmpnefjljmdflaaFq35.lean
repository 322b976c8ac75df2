/- FitRing: the reference's side. Conditions: as each states. -/
import Derived.Test.YtmpnefjljmdflaaFq33
import Derived.Test.YtmpnefjljmdflaaFq34
namespace Go.Proofs.Ytmpnefjljmdflaa
open Go.RowKit
set_option linter.unusedVariables false
set_option maxRecDepth 100000

theorem l13Ring_any (p off : Nat) (A : Option Addr) (n c lo hi : Nat) (L : List (Int × Int)) (v : Bool) (hv : v = pathOk L) (w : World) (hp : w.cell? ⟨p, off, none⟩ = some (.slice A n c)) (hr : RdS 2 (FlatR ptC) w lo hi A n L) (hhi : hi ≤ w.heap.size) (hn : n ≤ 1048576) :
    Calls Try.prog 67 #[.pointer (some ⟨p, off, none⟩)] w fun e w' => e = .returned (.bool v) ∧ Below w.heap.size w w' := by
  have hl := hr.1
  have hpl : p < w.heap.size := cell_lt hp
  unfold pathOk at hv
  rw [hl] at hv
  clear hl
  cases t0 : inB (n : Int) 1 400
  · have hvf : v = false := by rw [hv, t0]; rfl
    subst hvf
    clear hv hr
    go_enter Try.func67, Try.ntmps67
    go_wp2_with (go_at_call 64; refine (l00In_any _ _ _ _).mono ?_; rintro e w' ⟨rfl, rfl⟩)
    go_ret
    exact ⟨rfl, Below.refl _ _⟩
  · have hv' : v = L.all pt2Ok := by rw [hv, t0]; simp
    have hc := Lib.hid (l13Points_any A n c lo hi L v hv' w hr hhi hn)
    clear hv hv' hr
    go_enter Try.func67, Try.ntmps67
    go_wp2_with (first | (go_at_call 64; refine (l00In_any _ _ _ _).mono ?_; rintro e w' ⟨rfl, rfl⟩) | (go_at_call 106; refine hc.out.mono ?_; rintro e w1 ⟨rfl, hb1⟩))
    all_goals
      go_ret
      exact ⟨rfl, hb1⟩

set_option maxHeartbeats 4000000 in
theorem specFitRing_any (A : Option Addr) (n c lo hi : Nat) (L : List (Int × Int)) (t : Int) (K : List Knot) (cd : Int) (hv : frR L t = (K, cd)) (w : World) (hr : RdS 2 (FlatR ptC) w lo hi A n L) (hhi : hi ≤ w.heap.size) (hn : n ≤ 1048576) :
    Calls Try.prog 22 #[.agg #[.slice A n c], .int .i64 t] w fun e w' => ∃ (A' : Option Addr) (c' : Nat), e = .returned (.tuple #[.agg #[.slice A' K.length c'], .int .i64 cd]) ∧ w'.ownsRow w.heap.size 127 3 (.slice A' K.length c') K.length (K.flatMap knotC) ∧ Below w.heap.size w w' := by
  have hl := hr.1
  have hnew := heap_new2 w (.cells #[.slice A n c] 61 (0, 0)) (.cells #[.slice none 0 0] 57 (0, 0))
  have hB0 : Below w.heap.size w ((w.alloc (.cells #[.slice A n c] 61 (0, 0))).alloc (.cells #[.slice none 0 0] 57 (0, 0))) := Go.Joins.below_alloc2 _ _ _
  have hz0 : ((w.alloc (.cells #[.slice A n c] 61 (0, 0))).alloc (.cells #[.slice none 0 0] 57 (0, 0))).heap.size = w.heap.size + 2 := by simp
  have hr0 := Lib.hid (hr.frame (good_flat _) (Below.sameB hB0 hhi))
  obtain ⟨v, hvv⟩ : ∃ v, v = pathOk L := ⟨_, rfl⟩
  unfold frR at hv
  rw [← hvv] at hv
  have hrg := Lib.hid (fun W hp hr hh => l13Ring_any w.heap.size 0 A n c lo hi L v hvv W hp hr hh hn)
  replace hvv := Lib.hid hvv
  clear hr
  go_enter Try.func22, Try.ntmps22
  go_upto_region 1 with fail
  generalize (w.alloc (.cells #[.slice A n c] 61 (0, 0))).alloc (.cells #[.slice none 0 0] 57 (0, 0)) = w0 at *
  have p0 : w0.cell? ⟨w.heap.size, 0, none⟩ = some (.slice A n c) := by rw [Go.Joins.cell_of_block hnew.1]; rfl
  go_wp2_with fail
  refine (hrg.out w0 p0 hr0.out (by omega)).mono ?_
  rintro e w1 ⟨rfl, hb1⟩
  have hz1 := hb1.size
  have hB1 := Lib.hid (hB0.trans (hb1.mono hB0.size))
  have p1 := (hb1.cell (p := ⟨w.heap.size, 0, none⟩) (by show w.heap.size < _; omega)).trans p0
  have hR1 := Lib.hid ((hb1.block (w.heap.size + 1) (by omega)).trans hnew.2)
  have hr1 := Lib.hid (hr0.out.frame (good_flat _) (Below.sameB hb1 (by omega)))
  have pl1 : w.heap.size < w1.heap.size := by omega
  have r0 : w1.cell? ⟨w.heap.size + 1, 0, none⟩ = some (.slice none 0 0) := by rw [Go.Joins.cell_of_block hR1.out]; rfl
  have rf := Go.Joins.unfrozen_of_block hR1.out
  have rl : w.heap.size + 1 < w1.heap.size := by omega
  clear hrg hr0 p0 hb1 hnew hB0
  cases v with
  | false =>
    rw [if_pos rfl] at hv
    injection hv with e1 e2
    subst e1 e2
    go_wp2_with fail
    refine bodyPost_ret (v := .tuple #[.agg #[.slice none 0 0], .int .i64 1]) (by simp [results, Try.results22, go_sem, r0]) rfl ⟨none, 0, rfl, World.ownsRow_nil _ _ _ _, ?_⟩
    exact hB1.out.setCell (by show w.heap.size ≤ w.heap.size + 1; omega) _
  | true =>
    rw [if_neg (by simp)] at hv
    obtain ⟨hn1, hn4, hLok⟩ := pathOk_is hvv.out.symm
    rw [hl] at hn1 hn4
    have htl := Lib.hid (l09Tolerance_any t w1)
    go_wp2_with fail
    refine htl.out.mono ?_
    rintro e w' ⟨rfl, rfl⟩
    cases ht : inB t 1 262144 with
    | false =>
      rw [ht, if_pos rfl] at hv
      injection hv with e1 e2
      subst e1 e2
      go_wp2_with fail
      refine bodyPost_ret (v := .tuple #[.agg #[.slice none 0 0], .int .i64 2]) (by simp [results, Try.results22, go_sem, r0]) rfl ⟨none, 0, rfl, World.ownsRow_nil _ _ _ _, ?_⟩
      exact hB1.out.setCell (by show w.heap.size ≤ w.heap.size + 1; omega) _
    | true =>
      rw [ht, if_neg (by simp)] at hv
      rw [inB_iff] at ht
      have hcall := Lib.hid (l16Ring_any A n c lo hi L t (ringK L t) rfl w1 hr1.out (by omega) hn1 hn4 hLok ht.1 ht.2)
      generalize ringK L t = KK at *
      go_wp2_with fail
      refine hcall.out.mono ?_
      rintro e w2 ⟨A', c', rfl, ho, hb2⟩
      have hz2 := hb2.size
      have hb3 := hb2.trans ((Go.Joins.below_alloc1 w2 (.cells #[.slice A' KK.length c'] 57 (0, 0))).mono hz2)
      have ho3 := Lib.hid (own_below ho (Go.Joins.below_alloc1 w2 (.cells #[.slice A' KK.length c'] 57 (0, 0))))
      have hX3 := Lib.hid (heap_alloc_new w2 (.cells #[.slice A' KK.length c'] 57 (0, 0)))
      have hz3 : w2.heap.size + 1 = (w2.alloc (.cells #[.slice A' KK.length c'] 57 (0, 0))).heap.size := by simp
      clear hcall hb2 ho
      go_upto_region 6 with fail
      generalize w2.alloc (.cells #[.slice A' KK.length c'] 57 (0, 0)) = w3 at *
      obtain ⟨X, hXe⟩ : ∃ X, X = w2.heap.size := ⟨_, rfl⟩
      rw [← hXe] at hX3 hz2 hz3 ⊢
      clear hXe
      have hB2 := Lib.hid (hB1.out.trans (hb3.mono (by omega)))
      have hR2 := Lib.hid ((hb3.block (w.heap.size + 1) rl).trans hR1.out)
      have r2 : w3.cell? ⟨w.heap.size + 1, 0, none⟩ = some (.slice none 0 0) := by rw [Go.Joins.cell_of_block hR2.out]; rfl
      have rf2 := Go.Joins.unfrozen_of_block hR2.out
      have rl2 : w.heap.size + 1 < w3.heap.size := by omega
      have x0 : w3.cell? ⟨X, 0, none⟩ = some (.slice A' KK.length c') := by rw [Go.Joins.cell_of_block hX3.out]; rfl
      have xl : X < w3.heap.size := by omega
      have hzz : w.heap.size + 1 < w1.heap.size := rl
      clear r0 rf rl p1 pl1 hR1 hr1 hB1 hb3 hX3
      by_cases h60 : 60 < KK.length
      · have h60i : (60 : Int) < (KK.length : Int) := by omega
        rw [if_pos h60] at hv
        injection hv with e1 e2
        subst e1 e2
        go_wp2_with fail
        refine bodyPost_ret (v := .tuple #[.agg #[.slice none 0 0], .int .i64 5]) (by simp [results, Try.results22, go_sem, r2]) rfl ⟨none, 0, rfl, World.ownsRow_nil _ _ _ _, ?_⟩
        exact hB2.out.setCell (by show w.heap.size ≤ w.heap.size + 1; omega) _
      · have h60i : ¬ (60 : Int) < (KK.length : Int) := by omega
        rw [if_neg h60] at hv
        injection hv with e1 e2
        subst e1 e2
        go_wp2_with fail
        refine bodyPost_ret (v := .tuple #[.agg #[.slice A' KK.length c'], .int .i64 0]) (by simp [results, Try.results22, go_sem, r2]) rfl ⟨A', c', rfl, ?_, ?_⟩
        · exact own_lower (ownsRow_setCell_below ho3.out (by show w.heap.size + 1 < w1.heap.size; omega) _) (by omega)
        · exact hB2.out.setCell (by show w.heap.size ≤ w.heap.size + 1; omega) _
end Go.Proofs.Ytmpnefjljmdflaa

