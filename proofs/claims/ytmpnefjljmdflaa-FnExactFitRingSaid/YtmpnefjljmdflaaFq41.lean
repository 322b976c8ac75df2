/- The law on FitRing. Printed by lawfr.py. Conditions: as it states. -/
import Derived.Deep.RegionHeld3
import Derived.Test.YtmpnefjljmdflaaFq38
import Derived.Test.YtmpnefjljmdflaaFq40
import Derived.Test.YtmpnefjljmdflaaFq39
import Derived.Test.YtmpnefjljmdflaaFq30
namespace Go.Proofs.Ytmpnefjljmdflaa
open Go.RowKit
set_option linter.unusedVariables false
set_option maxRecDepth 100000

/-- outside lo..hi the world is as it was -/
structure Keep (lo hi : Nat) (w w' : World) : Prop where
  bel : Below lo w w'
  sam : SameB hi w.heap.size w w'
  size : w.heap.size ≤ w'.heap.size
theorem Keep.of_below {w w' : World} (h : Below w.heap.size w w') : Keep w.heap.size w.heap.size w w' := ⟨h, fun b h1 h2 => absurd h1 (by omega), h.size⟩
theorem Keep.block {lo hi : Nat} {w w' : World} (h : Keep lo hi w w') (b : Nat) (hb : b < lo ∨ hi ≤ b) (hlt : b < w.heap.size) : w'.heap[b]? = w.heap[b]? := by
  rcases hb with hb | hb
  · exact h.bel.block b hb
  · exact h.sam b hb hlt
theorem Keep.sameB {lo hi lo' hi' : Nat} {w w' : World} (h : Keep lo hi w w') (hh : hi' ≤ lo ∨ hi ≤ lo') (h2 : hi' ≤ w.heap.size) : SameB lo' hi' w w' := fun b h3 h4 => h.block b (by omega) (by omega)
theorem Keep.row {w w' : World} {n c g : Nat} (hg : w.grownBy w' (Value.slice (some ⟨g, 0, none⟩) n c).ownBlock) (hz : w'.heap.size = w.heap.size) : Keep g (g + 1) w w' := by
  refine ⟨⟨hg.os, hg.tape, hg.output, hg.size, fun b hb => ?_⟩, fun b h1 h2 => hg.block b h2 fun e => ?_, hg.size⟩
  · rcases Nat.lt_or_ge b w.heap.size with h | h
    · exact hg.block b h fun e => by simp [Value.ownBlock] at e; omega
    · rw [Array.getElem?_eq_none (by omega), Array.getElem?_eq_none (by omega)]
  · simp [Value.ownBlock] at e; omega
/-- a row of the call's own, in a block from lo to hi -/
def PtIn (w : World) (lo hi : Nat) (A : Option Addr) (n c : Nat) (L : List (Int × Int)) : Prop := L.length = n ∧ w.ownsRow lo 24 2 (.slice A n c) n (L.flatMap ptC) ∧ ∀ g, (Value.slice A n c).ownBlock = some g → g < hi
theorem PtIn.same {w w' : World} {lo hi n c : Nat} {A : Option Addr} {L : List (Int × Int)} (h : PtIn w lo hi A n c L) (hs : SameB lo hi w w') : PtIn w' lo hi A n c L :=
  ⟨h.1, own_same h.2.1 fun g hg => hs g (h.2.1.lt g hg).1 (h.2.2 g hg), h.2.2⟩
theorem PtIn.rd {w : World} {lo hi n c : Nat} {A : Option Addr} {L : List (Int × Int)} (h : PtIn w lo hi A n c L) : RdS 2 (FlatR ptC) w lo hi A n L := by
  have hr := rdS_own ptC_len (by omega) h.2.1 h.1
  refine ⟨h.1, fun hn => ?_⟩
  obtain ⟨b, off, hA, h1, h2, h3⟩ := hr.2 hn
  exact ⟨b, off, hA, h1, h.2.2 b (by rw [hA]; rfl), h3⟩
def KnIn (w : World) (lo hi : Nat) (A : Option Addr) (n c : Nat) (K : List Knot) : Prop := K.length = n ∧ w.ownsRow lo 127 3 (.slice A n c) n (K.flatMap knotC) ∧ ∀ g, (Value.slice A n c).ownBlock = some g → g < hi
theorem KnIn.same {w w' : World} {lo hi n c : Nat} {A : Option Addr} {K : List Knot} (h : KnIn w lo hi A n c K) (hs : SameB lo hi w w') : KnIn w' lo hi A n c K :=
  ⟨h.1, own_same h.2.1 fun g hg => hs g (h.2.1.lt g hg).1 (h.2.2 g hg), h.2.2⟩
theorem KnIn.rd {w : World} {lo hi n c : Nat} {A : Option Addr} {K : List Knot} (h : KnIn w lo hi A n c K) : RdS 3 (FlatR knotC) w lo hi A n K := by
  have hr := rdS_own knotC_len (by omega) h.2.1 h.1
  refine ⟨h.1, fun hn => ?_⟩
  obtain ⟨b, off, hA, h1, h2, h3⟩ := hr.2 hn
  exact ⟨b, off, hA, h1, h.2.2 b (by rw [hA]; rfl), h3⟩
theorem keep_row {w w' : World} {lo hi n c : Nat} {A : Option Addr} (hg : w.grownBy w' (Value.slice A n c).ownBlock) (hz : w'.heap.size = w.heap.size) (hh : ∀ g, (Value.slice A n c).ownBlock = some g → lo ≤ g ∧ g < hi) : Keep lo hi w w' := by
  refine ⟨⟨hg.os, hg.tape, hg.output, hg.size, fun b hb => ?_⟩, fun b h1 h2 => hg.block b h2 fun e => ?_, hg.size⟩
  · rcases Nat.lt_or_ge b w.heap.size with h | h
    · exact hg.block b h fun e => by have := hh b e.symm; omega
    · rw [Array.getElem?_eq_none (by omega), Array.getElem?_eq_none (by omega)]
  · have := hh b e.symm; omega
theorem Keep.alloc_front {w w' : World} {lo hi : Nat} {o : Obj} (h : Keep lo hi (w.alloc o) w') (hl : lo ≤ w.heap.size) (hh : hi ≤ w.heap.size) : Keep lo hi w w' := by
  have hz : (w.alloc o).heap.size = w.heap.size + 1 := by simp
  refine ⟨⟨h.bel.os, h.bel.tape, h.bel.output, by have := h.size; omega, fun b hb => ?_⟩, fun b h1 h2 => ?_, by have := h.size; omega⟩
  · rcases Nat.lt_or_ge b w.heap.size with h3 | h3
    · exact (h.block b (.inl hb) (by omega)).trans (Below.heap_alloc _ _ _ h3)
    · exact absurd hb (by omega)
  · exact (h.block b (.inr h1) (by omega)).trans (Below.heap_alloc _ _ _ h2)
theorem markLoop_any (A : Option Addr) (n c lo hi : Nat) (K : List Knot) (m : Int) (w : World) (h : KnIn w lo hi A n c K) (hlo : lo ≤ hi) (hhi : hi ≤ w.heap.size) (hm0 : 0 ≤ m) (hm : m ≤ 4000000000000000000) (hn : n ≤ 1000000000) :
    Calls Try.prog 28 #[.agg #[.slice A n c], .int .i64 m] w fun e w' => e = .returned (.int .i64 (m + 3 * (n : Int))) ∧ Keep lo hi w w' ∧ KnIn w' lo hi A n c (mkKnot m n) := by
  have hal := Go.Joins.below_alloc1 w (.cells #[.slice A n c] 57 (0, 0))
  have h1 := h.same (Below.sameB hal hhi)
  have hc := Lib.hid (markKnotS_any A n c lo (K.flatMap knotC) m (w.alloc (.cells #[.slice A n c] 57 (0, 0))) h1.2.1 hm0 hm hn)
  have hh := Lib.hid (fun g hg => (⟨(h1.2.1.lt g hg).1, h1.2.2 g hg⟩ : lo ≤ g ∧ g < hi))
  have hgh := Lib.hid h.2.2
  have hzz := Lib.hid hlo
  clear h h1 hal
  go_enter Try.func28, Try.ntmps28
  go_wp2_with fail
  refine hc.out.mono ?_
  rintro e w1 ⟨rfl, hg, ho, hz⟩
  have hk := Keep.alloc_front (keep_row hg hz hh.out) (by have := hzz.out; omega) hhi
  replace ho := Lib.hid ho
  clear hg hz hc
  go_wp2_with fail
  go_ret
  exact ⟨rfl, hk, mkKnot_length _ _, ho.out, hgh.out⟩
theorem heldLoop_any (A : Option Addr) (n c lo hi : Nat) (m : Int) (w : World) (h : RdS 3 (FlatR knotC) w lo hi A n (mkKnot m n)) (hhi : hi ≤ w.heap.size) (hm0 : 0 ≤ m) (hm : m ≤ 4000000000000000000) (hn : n ≤ 1000000000) :
    Calls Try.prog 29 #[.agg #[.slice A n c], .int .i64 m] w fun e w' => e = .returned (.int .i64 (m + 3 * (n : Int))) ∧ Below w.heap.size w w' := by
  have hc := Lib.hid (fun o => heldKnotS_any A n c lo hi m (w.alloc o) (h.frame (good_flat _) (Below.sameB (Go.Joins.below_alloc1 w o) hhi)) hm0 hm hn)
  have hneg : ¬ (m + 3 * (n : Int) < 0) := by omega
  clear h
  go_enter Try.func29, Try.ntmps29
  go_wp2_with fail
  refine (hc.out _).mono ?_
  rintro e w1 ⟨rfl, rfl⟩
  clear hc
  go_wp2_with fail
  go_ret
  exact ⟨rfl, Go.Joins.below_alloc1 _ _⟩
theorem markRing_any (A : Option Addr) (n c lo hi : Nat) (L : List (Int × Int)) (m : Int) (w : World) (h : PtIn w lo hi A n c L) (hlo : lo ≤ hi) (hhi : hi ≤ w.heap.size) (hm0 : 0 ≤ m) (hm : m ≤ 4000000000000000000) (hn : n ≤ 1000000000) :
    Calls Try.prog 27 #[.agg #[.slice A n c], .int .i64 m] w fun e w' => e = .returned (.int .i64 (m + 2 * (n : Int))) ∧ Keep lo hi w w' := by
  have hal := Go.Joins.below_alloc1 w (.cells #[.slice A n c] 61 (0, 0))
  have h1 := h.same (Below.sameB hal hhi)
  have hc := Lib.hid (markPtS_any A n c lo (L.flatMap ptC) m (w.alloc (.cells #[.slice A n c] 61 (0, 0))) h1.2.1 hm0 hm hn)
  have hh := Lib.hid (fun g hg => (⟨(h1.2.1.lt g hg).1, h1.2.2 g hg⟩ : lo ≤ g ∧ g < hi))
  have hzz := Lib.hid hlo
  clear h h1 hal
  go_enter Try.func27, Try.ntmps27
  go_wp2_with fail
  refine hc.out.mono ?_
  rintro e w1 ⟨rfl, hg, ho, hz⟩
  have hk := Keep.alloc_front (keep_row hg hz hh.out) (by have := hzz.out; omega) hhi
  clear hg hz hc ho
  go_wp2_with fail
  go_ret
  exact ⟨rfl, hk⟩
theorem frR_len (L : List (Int × Int)) (t : Int) : (frR L t).1.length ≤ 60 := by
  unfold frR
  split
  · simp
  · split
    · simp
    · split
      · simp
      · show (ringK L t).length ≤ 60; omega

set_option maxHeartbeats 16000000 in
theorem lawFitRing_walk (A : Option Addr) (n c : Nat) (L : List (Int × Int)) (t : Int) {w : World} (hr : RdS 2 (FlatR ptC) w 0 w.heap.size A n L) (hn : n ≤ maxLen) (wx0 : (Lit.int .i64 t).wf = true) :
    Calls Try.prog 5 #[.agg #[.slice A n c], .int .i64 t] w fun e w' => e = .returned (.bool true) ∧ Below w.heap.size w w' := by
  unfold maxLen at hn
  obtain ⟨K, hK⟩ : ∃ K, K = (frR L t).1 := ⟨_, rfl⟩
  obtain ⟨code, hcode⟩ : ∃ x, x = (frR L t).2 := ⟨_, rfl⟩
  have hv : frR L t = (K, code) := by rw [hK, hcode]
  have hKn : K.length ≤ 60 := by rw [hK]; exact frR_len L t
  obtain ⟨q, hq⟩ : ∃ q, q = K.length := ⟨_, rfl⟩
  have hspec := Lib.hid (fun A n c lo hi w hr hh hn => specFitRing_any A n c lo hi L t K code hv w hr hh hn)
  have himpl := Lib.hid (fun A n c lo hi w hr hh hn hc => implFitRing_any A n c lo hi L t K code hv w hr hh hn hc)
  rw [← hq] at hspec himpl hKn
  replace hq := Lib.hid hq
  clear hv hK hcode
  replace hr := Lib.hid hr
  have hll := Lib.hid hr.out.1
  have hB : Below w.heap.size w w := Below.refl _ _
  have hk := Keep.of_below (Go.Joins.below_alloc1 w (.cells #[.slice A n c] 53 (0, 0)))
  have hzz : (w.alloc (.cells #[.slice A n c] 53 (0, 0))).heap.size = w.heap.size + 1 := by simp
  have bS : Hid ((w.alloc (.cells #[.slice A n c] 53 (0, 0))).heap[w.heap.size]? = some (.cells #[.slice A n c] 53 (0, 0))) := heap_alloc_new w _
  go_enter Try.func5, Try.ntmps5
  go_wp2_with fail
  generalize w.alloc (.cells #[.slice A n c] 53 (0, 0)) = w0 at *
  have hzl0 : w0.heap.size ≤ w.heap.size + 1 := by omega
  have hzg0 : w.heap.size + 1 ≤ w0.heap.size := by omega
  clear hzz
  have hz0 := hk.size
  have hB0 : Below w.heap.size w w0 := hB.trans (hk.bel.mono (by omega))
  clear hk
  have qbS0 : w0.cell? ⟨w.heap.size, 0, none⟩ = some (.slice A n c) := by rw [Go.Joins.cell_of_block bS.out]; rfl
  have qbSl : w.heap.size < w0.heap.size := by omega
  obtain ⟨rz, hrz⟩ : ∃ rz : Int, rz = if (n : Int) ≤ 1048576 then (1048576 : Int) - (n : Int) else -1 := ⟨_, rfl⟩
  have hrzH := Lib.hid hrz
  clear hrz
  go_wp2_with fail
  clear qbS0 qbSl
  refine (szRing_any A n c 1048576 _ (by omega) (by omega) (by omega) rz hrzH.out).mono ?_
  rintro e w1 ⟨rfl, hc⟩
  have hk := Keep.of_below hc
  clear hc
  have hz1 := hk.size
  have hB1 : Below w.heap.size w w1 := hB0.trans (hk.bel.mono (by omega))
  replace bS := Lib.hid ((hk.block w.heap.size (by omega) (by omega)).trans bS.out)
  clear hk
  by_cases hn1 : (n : Int) ≤ 1048576
  rotate_left
  · have hrz := hrzH.out
    rw [if_neg hn1] at hrz
    subst hrz
    clear hrzH
    go_wp2_with fail
    go_ret
    exact ⟨rfl, hB1⟩
  have hrz0 : ¬ rz < 0 := by have hrz := hrzH.out; rw [if_pos hn1] at hrz; omega
  have hgn : n ≤ 1048576 := by omega
  clear hrzH
  have qbS0 : w1.cell? ⟨w.heap.size, 0, none⟩ = some (.slice A n c) := by rw [Go.Joins.cell_of_block bS.out]; rfl
  have qbSl : w.heap.size < w1.heap.size := by omega
  go_wp2_with fail
  clear qbS0 qbSl
  refine (toRing_any A n c 0 w.heap.size L _ (hr.out.frame (good_flat _) (Below.sameB hB1 (Nat.le_refl _))) hB1.size hgn).mono ?_
  rintro e w2 ⟨g2, rfl, -, ho2, hc⟩
  have rd2 := Lib.hid ((rdS_own ptC_len (by omega) ho2 hll.out).wide (good_flat _) (show w1.heap.size ≤ w1.heap.size + 3 by omega) (Nat.le_refl _))
  clear ho2
  have hk := Keep.of_below hc
  clear hc
  have hz2 := hk.size
  have hB2 : Below w.heap.size w w2 := hB1.trans (hk.bel.mono (by omega))
  replace bS := Lib.hid ((hk.block w.heap.size (by omega) (by omega)).trans bS.out)
  clear hk
  go_wp2_with fail
  refine (hspec.out (some ⟨g2, 0, none⟩) n n _ _ _ rd2.out (Nat.le_refl _) hgn).mono ?_
  rintro e w3 ⟨A5, c5, rfl, ho5, hc⟩
  have rdw := Lib.hid (rdS_own knotC_len (by omega) ho5 hq.out.symm)
  clear ho5 rd2
  have hk := Keep.of_below hc
  clear hc
  have hz3 := hk.size
  have hB3 : Below w.heap.size w w3 := hB2.trans (hk.bel.mono (by omega))
  replace bS := Lib.hid ((hk.block w.heap.size (by omega) (by omega)).trans bS.out)
  clear hk
  have hk := Keep.of_below (Go.Joins.below_alloc1 w3 (.cells #[.slice A5 q c5] 57 (0, 0)))
  have hzz : (w3.alloc (.cells #[.slice A5 q c5] 57 (0, 0))).heap.size = w3.heap.size + 1 := by simp
  have bW : Hid ((w3.alloc (.cells #[.slice A5 q c5] 57 (0, 0))).heap[w3.heap.size]? = some (.cells #[.slice A5 q c5] 57 (0, 0))) := heap_alloc_new w3 _
  have qbS0 : w3.cell? ⟨w.heap.size, 0, none⟩ = some (.slice A n c) := by rw [Go.Joins.cell_of_block bS.out]; rfl
  have qbSl : w.heap.size < w3.heap.size := by omega
  go_wp2_with fail
  clear qbS0 qbSl
  generalize w3.alloc (.cells #[.slice A5 q c5] 57 (0, 0)) = w4 at *
  have hzl4 : w4.heap.size ≤ w3.heap.size + 1 := by omega
  have hzg4 : w3.heap.size + 1 ≤ w4.heap.size := by omega
  clear hzz
  have hz4 := hk.size
  have hB4 : Below w.heap.size w w4 := hB3.trans (hk.bel.mono (by omega))
  replace bS := Lib.hid ((hk.block w.heap.size (by omega) (by omega)).trans bS.out)
  replace rdw := Lib.hid (rdw.out.frame (good_flat _) (hk.sameB (by omega) (by omega)))
  clear hk
  refine (toRing_any A n c 0 w.heap.size L _ (hr.out.frame (good_flat _) (Below.sameB hB4 (Nat.le_refl _))) hB4.size hgn).mono ?_
  rintro e w5 ⟨g6, rfl, -, ho6, hc⟩
  have in6 : Hid (PtIn w5 w4.heap.size w5.heap.size (some ⟨g6, 0, none⟩) n n L) := ⟨hll.out, own_lower ho6 (by omega), fun g hg => (ho6.lt g hg).2⟩
  clear ho6
  have hk := Keep.of_below hc
  clear hc
  have hz5 := hk.size
  have hB5 : Below w.heap.size w w5 := hB4.trans (hk.bel.mono (by omega))
  replace bS := Lib.hid ((hk.block w.heap.size (by omega) (by omega)).trans bS.out)
  replace bW := Lib.hid ((hk.block w3.heap.size (by omega) (by omega)).trans bW.out)
  replace rdw := Lib.hid (rdw.out.frame (good_flat _) (hk.sameB (by omega) (by omega)))
  clear hk
  have hk := Keep.of_below (Go.Joins.below_alloc1 w5 (.cells #[.slice (some ⟨g6, 0, none⟩) n n] 61 (0, 0)))
  have hzz : (w5.alloc (.cells #[.slice (some ⟨g6, 0, none⟩) n n] 61 (0, 0))).heap.size = w5.heap.size + 1 := by simp
  have b8 : Hid ((w5.alloc (.cells #[.slice (some ⟨g6, 0, none⟩) n n] 61 (0, 0))).heap[w5.heap.size]? = some (.cells #[.slice (some ⟨g6, 0, none⟩) n n] 61 (0, 0))) := heap_alloc_new w5 _
  go_wp2_with fail
  generalize w5.alloc (.cells #[.slice (some ⟨g6, 0, none⟩) n n] 61 (0, 0)) = w6 at *
  have hzl6 : w6.heap.size ≤ w5.heap.size + 1 := by omega
  have hzg6 : w5.heap.size + 1 ≤ w6.heap.size := by omega
  clear hzz
  have hz6 := hk.size
  have hB6 : Below w.heap.size w w6 := hB5.trans (hk.bel.mono (by omega))
  replace bS := Lib.hid ((hk.block w.heap.size (by omega) (by omega)).trans bS.out)
  replace bW := Lib.hid ((hk.block w3.heap.size (by omega) (by omega)).trans bW.out)
  replace rdw := Lib.hid (rdw.out.frame (good_flat _) (hk.sameB (by omega) (by omega)))
  replace in6 := Lib.hid (in6.out.same (hk.sameB (by omega) (by omega)))
  clear hk
  have qb80 : w6.cell? ⟨w5.heap.size, 0, none⟩ = some (.slice (some ⟨g6, 0, none⟩) n n) := by rw [Go.Joins.cell_of_block b8.out]; rfl
  have qb8l : w5.heap.size < w6.heap.size := by omega
  go_wp2_with fail
  clear qb80 qb8l
  refine (himpl.out (some ⟨g6, 0, none⟩) n n w4.heap.size w5.heap.size _ in6.out.rd (by omega) hgn (Nat.le_refl _)).mono ?_
  rintro e w7 ⟨A8, c8, rfl, ho8, hc⟩
  have ing : Hid (KnIn w7 w6.heap.size w7.heap.size A8 q c8 K) := ⟨hq.out.symm, ho8, fun g hg => (ho8.lt g hg).2⟩
  clear ho8
  have hk := Keep.of_below hc
  clear hc
  have hz7 := hk.size
  have hB7 : Below w.heap.size w w7 := hB6.trans (hk.bel.mono (by omega))
  replace bS := Lib.hid ((hk.block w.heap.size (by omega) (by omega)).trans bS.out)
  replace bW := Lib.hid ((hk.block w3.heap.size (by omega) (by omega)).trans bW.out)
  replace b8 := Lib.hid ((hk.block w5.heap.size (by omega) (by omega)).trans b8.out)
  replace rdw := Lib.hid (rdw.out.frame (good_flat _) (hk.sameB (by omega) (by omega)))
  replace in6 := Lib.hid (in6.out.same (hk.sameB (by omega) (by omega)))
  clear hk
  have hk := Keep.of_below (Go.Joins.below_alloc1 w7 (.cells #[.slice A8 q c8] 57 (0, 0)))
  have hzz : (w7.alloc (.cells #[.slice A8 q c8] 57 (0, 0))).heap.size = w7.heap.size + 1 := by simp
  have b9 : Hid ((w7.alloc (.cells #[.slice A8 q c8] 57 (0, 0))).heap[w7.heap.size]? = some (.cells #[.slice A8 q c8] 57 (0, 0))) := heap_alloc_new w7 _
  have qbW0 : w7.cell? ⟨w3.heap.size, 0, none⟩ = some (.slice A5 q c5) := by rw [Go.Joins.cell_of_block bW.out]; rfl
  have qbWl : w3.heap.size < w7.heap.size := by omega
  go_wp2_with fail
  clear qbW0 qbWl
  generalize w7.alloc (.cells #[.slice A8 q c8] 57 (0, 0)) = w8 at *
  have hzl8 : w8.heap.size ≤ w7.heap.size + 1 := by omega
  have hzg8 : w7.heap.size + 1 ≤ w8.heap.size := by omega
  clear hzz
  have hz8 := hk.size
  have hB8 : Below w.heap.size w w8 := hB7.trans (hk.bel.mono (by omega))
  replace bS := Lib.hid ((hk.block w.heap.size (by omega) (by omega)).trans bS.out)
  replace bW := Lib.hid ((hk.block w3.heap.size (by omega) (by omega)).trans bW.out)
  replace b8 := Lib.hid ((hk.block w5.heap.size (by omega) (by omega)).trans b8.out)
  replace rdw := Lib.hid (rdw.out.frame (good_flat _) (hk.sameB (by omega) (by omega)))
  replace in6 := Lib.hid (in6.out.same (hk.sameB (by omega) (by omega)))
  replace ing := Lib.hid (ing.out.same (hk.sameB (by omega) (by omega)))
  clear hk
  have qb90 : w8.cell? ⟨w7.heap.size, 0, none⟩ = some (.slice A8 q c8) := by rw [Go.Joins.cell_of_block b9.out]; rfl
  have qb9l : w7.heap.size < w8.heap.size := by omega
  have qbW0 : w8.cell? ⟨w3.heap.size, 0, none⟩ = some (.slice A5 q c5) := by rw [Go.Joins.cell_of_block bW.out]; rfl
  have qbWl : w3.heap.size < w8.heap.size := by omega
  go_wp2_with fail
  clear qb90 qb9l qbW0 qbWl
  refine (eqLoop_any A8 A5 q c8 q c5 w6.heap.size w7.heap.size w2.heap.size w3.heap.size K _ ing.out.rd rdw.out (by omega) (by omega) (by omega)).mono ?_
  rintro e w9 ⟨rfl, hc⟩
  have hk := Keep.of_below hc
  clear hc
  have hz9 := hk.size
  have hB9 : Below w.heap.size w w9 := hB8.trans (hk.bel.mono (by omega))
  replace bS := Lib.hid ((hk.block w.heap.size (by omega) (by omega)).trans bS.out)
  replace bW := Lib.hid ((hk.block w3.heap.size (by omega) (by omega)).trans bW.out)
  replace b8 := Lib.hid ((hk.block w5.heap.size (by omega) (by omega)).trans b8.out)
  replace b9 := Lib.hid ((hk.block w7.heap.size (by omega) (by omega)).trans b9.out)
  replace rdw := Lib.hid (rdw.out.frame (good_flat _) (hk.sameB (by omega) (by omega)))
  replace in6 := Lib.hid (in6.out.same (hk.sameB (by omega) (by omega)))
  replace ing := Lib.hid (ing.out.same (hk.sameB (by omega) (by omega)))
  clear hk
  have qb80 : w9.cell? ⟨w5.heap.size, 0, none⟩ = some (.slice (some ⟨g6, 0, none⟩) n n) := by rw [Go.Joins.cell_of_block b8.out]; rfl
  have qb8l : w5.heap.size < w9.heap.size := by omega
  have qbS0 : w9.cell? ⟨w.heap.size, 0, none⟩ = some (.slice A n c) := by rw [Go.Joins.cell_of_block bS.out]; rfl
  have qbSl : w.heap.size < w9.heap.size := by omega
  go_wp2_with fail
  go_region_held3 (fun w' => w'.cell? ⟨w5.heap.size, 0, none⟩ = some (.slice (some ⟨g6, 0, none⟩) n n) ∧ w'.cell? ⟨w.heap.size, 0, none⟩ = some (.slice A n c)) (first | exact ⟨qb80, qbS0⟩ | exact s10 | exact s11)
    (first
      | (go_at_call 23; (with_reducible refine (toRing_any A n c 0 w.heap.size L _ ?_ ?_ hgn).mono ?_); exact (hr.out.frame (good_flat _) (Below.sameB hB9.drew (Nat.le_refl _))); exact hB9.size; rintro e w10 ⟨g10, rfl, -, ho10, hc10⟩; have hb10 : Below w9.heap.size w9 w10 := (Below.refl _ _).drew.trans hc10; have hz10 : w9.heap.size ≤ w10.heap.size := hb10.size; have s10 : w10.cell? ⟨w5.heap.size, 0, none⟩ = some (.slice (some ⟨g6, 0, none⟩) n n) ∧ w10.cell? ⟨w.heap.size, 0, none⟩ = some (.slice A n c) := ⟨(hb10.cell (by simp; omega)).trans qb80, (hb10.cell (by simp; omega)).trans qbS0⟩; have in6x := Lib.hid (in6.out.rd.frame (good_flat _) (Below.sameB hb10 (by omega))); have rd10 := Lib.hid (rdS_own ptC_len (by omega) ho10 hll.out); clear hc10 ho10)
      | (go_at_call 26; (with_reducible refine (eqRing_any _ _ _ _ _ _ _ _ _ _ L _ in6x.out rd10.out ?_ ?_ ?_).mono ?_); (omega); (exact Nat.le_refl _); (omega); rintro e w11 ⟨rfl, hc11⟩; have s11 : w11.cell? ⟨w5.heap.size, 0, none⟩ = some (.slice (some ⟨g6, 0, none⟩) n n) ∧ w11.cell? ⟨w.heap.size, 0, none⟩ = some (.slice A n c) := ⟨(hc11.cell (by simp; omega)).trans s10.1, (hc11.cell (by simp; omega)).trans s10.2⟩; have hk := Keep.of_below (hb10.trans (hc11.mono hz10)); clear hc11))
  clear qb80 qb8l qbS0 qbSl
  clear s10 s11 rd10 in6x hz10
  have hz11 := hk.size
  have hB11 : Below w.heap.size w w11 := hB9.trans (hk.bel.mono (by omega))
  replace bS := Lib.hid ((hk.block w.heap.size (by omega) (by omega)).trans bS.out)
  replace bW := Lib.hid ((hk.block w3.heap.size (by omega) (by omega)).trans bW.out)
  replace b8 := Lib.hid ((hk.block w5.heap.size (by omega) (by omega)).trans b8.out)
  replace b9 := Lib.hid ((hk.block w7.heap.size (by omega) (by omega)).trans b9.out)
  replace rdw := Lib.hid (rdw.out.frame (good_flat _) (hk.sameB (by omega) (by omega)))
  replace in6 := Lib.hid (in6.out.same (hk.sameB (by omega) (by omega)))
  replace ing := Lib.hid (ing.out.same (hk.sameB (by omega) (by omega)))
  clear hk
  have qb80 : w11.cell? ⟨w5.heap.size, 0, none⟩ = some (.slice (some ⟨g6, 0, none⟩) n n) := by rw [Go.Joins.cell_of_block b8.out]; rfl
  have qb8l : w5.heap.size < w11.heap.size := by omega
  go_wp2_with fail
  clear qb80 qb8l
  refine (markRing_any (some ⟨g6, 0, none⟩) n n w4.heap.size w5.heap.size L 1 _ in6.out (by omega) (by omega) (by omega) (by omega) (by omega)).mono ?_
  rintro e w12 ⟨rfl, hk⟩
  have hm12' : ¬ ((1 : Int) + 2 * (n : Int) < 0) := by omega
  clear in6
  have hz12 := hk.size
  have hB12 : Below w.heap.size w w12 := hB11.trans (hk.bel.mono (by omega))
  replace bS := Lib.hid ((hk.block w.heap.size (by omega) (by omega)).trans bS.out)
  replace bW := Lib.hid ((hk.block w3.heap.size (by omega) (by omega)).trans bW.out)
  replace b8 := Lib.hid ((hk.block w5.heap.size (by omega) (by omega)).trans b8.out)
  replace b9 := Lib.hid ((hk.block w7.heap.size (by omega) (by omega)).trans b9.out)
  replace rdw := Lib.hid (rdw.out.frame (good_flat _) (hk.sameB (by omega) (by omega)))
  replace ing := Lib.hid (ing.out.same (hk.sameB (by omega) (by omega)))
  clear hk
  have qb90 : w12.cell? ⟨w7.heap.size, 0, none⟩ = some (.slice A8 q c8) := by rw [Go.Joins.cell_of_block b9.out]; rfl
  have qb9l : w7.heap.size < w12.heap.size := by omega
  have qbW0 : w12.cell? ⟨w3.heap.size, 0, none⟩ = some (.slice A5 q c5) := by rw [Go.Joins.cell_of_block bW.out]; rfl
  have qbWl : w3.heap.size < w12.heap.size := by omega
  go_wp2_with fail
  clear qb90 qb9l qbW0 qbWl
  refine (eqLoop_any A8 A5 q c8 q c5 w6.heap.size w7.heap.size w2.heap.size w3.heap.size K _ ing.out.rd rdw.out (by omega) (by omega) (by omega)).mono ?_
  rintro e w13 ⟨rfl, hc⟩
  have hk := Keep.of_below hc
  clear hc
  have hz13 := hk.size
  have hB13 : Below w.heap.size w w13 := hB12.trans (hk.bel.mono (by omega))
  replace bS := Lib.hid ((hk.block w.heap.size (by omega) (by omega)).trans bS.out)
  replace bW := Lib.hid ((hk.block w3.heap.size (by omega) (by omega)).trans bW.out)
  replace b8 := Lib.hid ((hk.block w5.heap.size (by omega) (by omega)).trans b8.out)
  replace b9 := Lib.hid ((hk.block w7.heap.size (by omega) (by omega)).trans b9.out)
  replace rdw := Lib.hid (rdw.out.frame (good_flat _) (hk.sameB (by omega) (by omega)))
  replace ing := Lib.hid (ing.out.same (hk.sameB (by omega) (by omega)))
  clear hk
  have qb90 : w13.cell? ⟨w7.heap.size, 0, none⟩ = some (.slice A8 q c8) := by rw [Go.Joins.cell_of_block b9.out]; rfl
  have qb9l : w7.heap.size < w13.heap.size := by omega
  go_wp2_with fail
  clear qb90 qb9l
  refine (markLoop_any A8 q c8 w6.heap.size w7.heap.size K 1 _ ing.out (by omega) (by omega) (by omega) (by omega) (by omega)).mono ?_
  rintro e w14 ⟨rfl, hk, ing'⟩
  replace ing := Lib.hid ing'
  clear ing'
  have hz14 := hk.size
  have hB14 : Below w.heap.size w w14 := hB13.trans (hk.bel.mono (by omega))
  replace bS := Lib.hid ((hk.block w.heap.size (by omega) (by omega)).trans bS.out)
  replace bW := Lib.hid ((hk.block w3.heap.size (by omega) (by omega)).trans bW.out)
  replace b8 := Lib.hid ((hk.block w5.heap.size (by omega) (by omega)).trans b8.out)
  replace b9 := Lib.hid ((hk.block w7.heap.size (by omega) (by omega)).trans b9.out)
  replace rdw := Lib.hid (rdw.out.frame (good_flat _) (hk.sameB (by omega) (by omega)))
  clear hk
  have hm1b : ¬ ((1 : Int) + 3 * (q : Int) < 0) := by omega
  have qb90 : w14.cell? ⟨w7.heap.size, 0, none⟩ = some (.slice A8 q c8) := by rw [Go.Joins.cell_of_block b9.out]; rfl
  have qb9l : w7.heap.size < w14.heap.size := by omega
  go_wp2_with fail
  clear qb90 qb9l
  refine (heldLoop_any A8 q c8 w6.heap.size w7.heap.size 1 _ ing.out.rd (by omega) (by omega) (by omega) (by omega)).mono ?_
  rintro e w15 ⟨rfl, hc⟩
  have hk := Keep.of_below hc
  clear hc
  have hz15 := hk.size
  have hB15 : Below w.heap.size w w15 := hB14.trans (hk.bel.mono (by omega))
  replace bS := Lib.hid ((hk.block w.heap.size (by omega) (by omega)).trans bS.out)
  replace bW := Lib.hid ((hk.block w3.heap.size (by omega) (by omega)).trans bW.out)
  replace b8 := Lib.hid ((hk.block w5.heap.size (by omega) (by omega)).trans b8.out)
  replace b9 := Lib.hid ((hk.block w7.heap.size (by omega) (by omega)).trans b9.out)
  replace rdw := Lib.hid (rdw.out.frame (good_flat _) (hk.sameB (by omega) (by omega)))
  replace ing := Lib.hid (ing.out.same (hk.sameB (by omega) (by omega)))
  clear hk
  have qbS0 : w15.cell? ⟨w.heap.size, 0, none⟩ = some (.slice A n c) := by rw [Go.Joins.cell_of_block bS.out]; rfl
  have qbSl : w.heap.size < w15.heap.size := by omega
  go_wp2_with fail
  clear qbS0 qbSl
  refine (toRing_any A n c 0 w.heap.size L _ (hr.out.frame (good_flat _) (Below.sameB hB15 (Nat.le_refl _))) hB15.size hgn).mono ?_
  rintro e w16 ⟨g16, rfl, -, ho16, hc⟩
  have rd16 := Lib.hid ((rdS_own ptC_len (by omega) ho16 hll.out).wide (good_flat _) (show w15.heap.size ≤ w15.heap.size + 3 by omega) (Nat.le_refl _))
  clear ho16
  have hk := Keep.of_below hc
  clear hc
  have hz16 := hk.size
  have hB16 : Below w.heap.size w w16 := hB15.trans (hk.bel.mono (by omega))
  replace bS := Lib.hid ((hk.block w.heap.size (by omega) (by omega)).trans bS.out)
  replace bW := Lib.hid ((hk.block w3.heap.size (by omega) (by omega)).trans bW.out)
  replace b8 := Lib.hid ((hk.block w5.heap.size (by omega) (by omega)).trans b8.out)
  replace b9 := Lib.hid ((hk.block w7.heap.size (by omega) (by omega)).trans b9.out)
  replace rdw := Lib.hid (rdw.out.frame (good_flat _) (hk.sameB (by omega) (by omega)))
  replace ing := Lib.hid (ing.out.same (hk.sameB (by omega) (by omega)))
  clear hk
  go_wp2_with fail
  refine (himpl.out (some ⟨g16, 0, none⟩) n n _ _ _ rd16.out (Nat.le_refl _) hgn (Nat.le_refl _)).mono ?_
  rintro e w17 ⟨A17, c17, rfl, ho17, hc⟩
  have rdh := Lib.hid (rdS_own knotC_len (by omega) ho17 hq.out.symm)
  clear ho17 rd16
  have hk := Keep.of_below hc
  clear hc
  have hz17 := hk.size
  have hB17 : Below w.heap.size w w17 := hB16.trans (hk.bel.mono (by omega))
  replace bS := Lib.hid ((hk.block w.heap.size (by omega) (by omega)).trans bS.out)
  replace bW := Lib.hid ((hk.block w3.heap.size (by omega) (by omega)).trans bW.out)
  replace b8 := Lib.hid ((hk.block w5.heap.size (by omega) (by omega)).trans b8.out)
  replace b9 := Lib.hid ((hk.block w7.heap.size (by omega) (by omega)).trans b9.out)
  replace rdw := Lib.hid (rdw.out.frame (good_flat _) (hk.sameB (by omega) (by omega)))
  replace ing := Lib.hid (ing.out.same (hk.sameB (by omega) (by omega)))
  clear hk
  have hk := Keep.of_below (Go.Joins.below_alloc1 w17 (.cells #[.slice A17 q c17] 57 (0, 0)))
  have hzz : (w17.alloc (.cells #[.slice A17 q c17] 57 (0, 0))).heap.size = w17.heap.size + 1 := by simp
  have bG : Hid ((w17.alloc (.cells #[.slice A17 q c17] 57 (0, 0))).heap[w17.heap.size]? = some (.cells #[.slice A17 q c17] 57 (0, 0))) := heap_alloc_new w17 _
  have qbW0 : w17.cell? ⟨w3.heap.size, 0, none⟩ = some (.slice A5 q c5) := by rw [Go.Joins.cell_of_block bW.out]; rfl
  have qbWl : w3.heap.size < w17.heap.size := by omega
  go_wp2_with fail
  clear qbW0 qbWl
  generalize w17.alloc (.cells #[.slice A17 q c17] 57 (0, 0)) = w18 at *
  have hzl18 : w18.heap.size ≤ w17.heap.size + 1 := by omega
  have hzg18 : w17.heap.size + 1 ≤ w18.heap.size := by omega
  clear hzz
  have hz18 := hk.size
  have hB18 : Below w.heap.size w w18 := hB17.trans (hk.bel.mono (by omega))
  replace bS := Lib.hid ((hk.block w.heap.size (by omega) (by omega)).trans bS.out)
  replace bW := Lib.hid ((hk.block w3.heap.size (by omega) (by omega)).trans bW.out)
  replace b8 := Lib.hid ((hk.block w5.heap.size (by omega) (by omega)).trans b8.out)
  replace b9 := Lib.hid ((hk.block w7.heap.size (by omega) (by omega)).trans b9.out)
  replace rdw := Lib.hid (rdw.out.frame (good_flat _) (hk.sameB (by omega) (by omega)))
  replace ing := Lib.hid (ing.out.same (hk.sameB (by omega) (by omega)))
  replace rdh := Lib.hid (rdh.out.frame (good_flat _) (hk.sameB (by omega) (by omega)))
  clear hk
  have qbG0 : w18.cell? ⟨w17.heap.size, 0, none⟩ = some (.slice A17 q c17) := by rw [Go.Joins.cell_of_block bG.out]; rfl
  have qbGl : w17.heap.size < w18.heap.size := by omega
  have qbW0 : w18.cell? ⟨w3.heap.size, 0, none⟩ = some (.slice A5 q c5) := by rw [Go.Joins.cell_of_block bW.out]; rfl
  have qbWl : w3.heap.size < w18.heap.size := by omega
  go_wp2_with fail
  clear qbG0 qbGl qbW0 qbWl
  refine (eqLoop_any A17 A5 q c17 q c5 w16.heap.size w17.heap.size w2.heap.size w3.heap.size K _ rdh.out rdw.out (by omega) (by omega) (by omega)).mono ?_
  rintro e w19 ⟨rfl, hc⟩
  have hk := Keep.of_below hc
  clear hc
  have hz19 := hk.size
  have hB19 : Below w.heap.size w w19 := hB18.trans (hk.bel.mono (by omega))
  replace bS := Lib.hid ((hk.block w.heap.size (by omega) (by omega)).trans bS.out)
  replace bW := Lib.hid ((hk.block w3.heap.size (by omega) (by omega)).trans bW.out)
  replace b8 := Lib.hid ((hk.block w5.heap.size (by omega) (by omega)).trans b8.out)
  replace b9 := Lib.hid ((hk.block w7.heap.size (by omega) (by omega)).trans b9.out)
  replace bG := Lib.hid ((hk.block w17.heap.size (by omega) (by omega)).trans bG.out)
  replace rdw := Lib.hid (rdw.out.frame (good_flat _) (hk.sameB (by omega) (by omega)))
  replace ing := Lib.hid (ing.out.same (hk.sameB (by omega) (by omega)))
  replace rdh := Lib.hid (rdh.out.frame (good_flat _) (hk.sameB (by omega) (by omega)))
  clear hk
  have qb90 : w19.cell? ⟨w7.heap.size, 0, none⟩ = some (.slice A8 q c8) := by rw [Go.Joins.cell_of_block b9.out]; rfl
  have qb9l : w7.heap.size < w19.heap.size := by omega
  go_wp2_with fail
  clear qb90 qb9l
  refine (heldLoop_any A8 q c8 w6.heap.size w7.heap.size 1 _ ing.out.rd (by omega) (by omega) (by omega) (by omega)).mono ?_
  rintro e w20 ⟨rfl, hc⟩
  have hk := Keep.of_below hc
  clear hc
  have hz20 := hk.size
  have hB20 : Below w.heap.size w w20 := hB19.trans (hk.bel.mono (by omega))
  replace bS := Lib.hid ((hk.block w.heap.size (by omega) (by omega)).trans bS.out)
  replace bW := Lib.hid ((hk.block w3.heap.size (by omega) (by omega)).trans bW.out)
  replace b8 := Lib.hid ((hk.block w5.heap.size (by omega) (by omega)).trans b8.out)
  replace b9 := Lib.hid ((hk.block w7.heap.size (by omega) (by omega)).trans b9.out)
  replace bG := Lib.hid ((hk.block w17.heap.size (by omega) (by omega)).trans bG.out)
  replace rdw := Lib.hid (rdw.out.frame (good_flat _) (hk.sameB (by omega) (by omega)))
  replace ing := Lib.hid (ing.out.same (hk.sameB (by omega) (by omega)))
  replace rdh := Lib.hid (rdh.out.frame (good_flat _) (hk.sameB (by omega) (by omega)))
  clear hk
  go_wp2_with fail
  go_ret
  exact ⟨rfl, hB20⟩
end Go.Proofs.Ytmpnefjljmdflaa

