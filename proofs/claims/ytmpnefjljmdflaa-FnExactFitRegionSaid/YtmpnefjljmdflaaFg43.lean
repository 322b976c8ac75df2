/- The law on FitRegion. Printed by lawrg.py. Conditions: as it states. -/
import Derived.Deep.RegionHeld3
import Derived.Test.YtmpnefjljmdflaaFg40
import Derived.Test.YtmpnefjljmdflaaFg41
import Derived.Test.YtmpnefjljmdflaaFg37
import Derived.Test.YtmpnefjljmdflaaFg42
import Derived.Test.YtmpnefjljmdflaaFg29
namespace Go.Proofs.Ytmpnefjljmdflaa
open Go.RowKit
set_option linter.unusedVariables false
set_option maxRecDepth 100000

/-- outside lo..hi the world is as it was -/
structure Keep (lo hi : Nat) (w w' : World) : Prop where
  bel : Below lo w w'
  sam : SameB hi w.heap.size w w'
  size : w.heap.size ≤ w'.heap.size
theorem Keep.of_below {w w' : World} (h : Below w.heap.size w w') : Keep w.heap.size w.heap.size w w' := ⟨h, fun b h1 h2 => absurd h1 (by omega), h.size⟩
theorem Keep.block {lo hi : Nat} {w w' : World} (h : Keep lo hi w w') (b : Nat) (hb : b < lo ∨ hi ≤ b) (hlt : b < w.heap.size) : w'.heap[b]? = w.heap[b]? := by
  rcases hb with hb | hb
  · exact h.bel.block b hb
  · exact h.sam b hb hlt
theorem Keep.sameB {lo hi lo' hi' : Nat} {w w' : World} (h : Keep lo hi w w') (hh : hi' ≤ lo ∨ hi ≤ lo') (h2 : hi' ≤ w.heap.size) : SameB lo' hi' w w' := fun b h3 h4 => h.block b (by omega) (by omega)
theorem Keep.row {w w' : World} {n c g : Nat} (hg : w.grownBy w' (Value.slice (some ⟨g, 0, none⟩) n c).ownBlock) (hz : w'.heap.size = w.heap.size) : Keep g (g + 1) w w' := by
  refine ⟨⟨hg.os, hg.tape, hg.output, hg.size, fun b hb => ?_⟩, fun b h1 h2 => hg.block b h2 fun e => ?_, hg.size⟩
  · rcases Nat.lt_or_ge b w.heap.size with h | h
    · exact hg.block b h fun e => by simp [Value.ownBlock] at e; omega
    · rw [Array.getElem?_eq_none (by omega), Array.getElem?_eq_none (by omega)]
  · simp [Value.ownBlock] at e; omega
theorem RegIn.cap {w : World} {lo hi n c : Nat} {A : Option Addr} {ys : List Value} {Rs : List (List Pnt)} (h : RegIn w lo hi A n c ys Rs) : RegCap w A n := by
  obtain ⟨h1, h2, h3, h4, _, _⟩ := h
  exact RegOwn.cap (c := c) ⟨ys, h1, h2, h3, h4⟩
def RegSm (R : List (List Pnt)) : Prop := R.length ≤ 1048576 ∧ rN R ≤ 1048576
theorem RegSm.k {R : List (List Pnt)} (h : RegSm R) : ∀ K ∈ R, K.length ≤ 1048576 := fun K hK => Nat.le_trans (sumMem (List.mem_map_of_mem (f := List.length) hK)) h.2
theorem RegIn.rdIn {w : World} {lo hi n c : Nat} {A : Option Addr} {ys : List Value} {Ls : List (List Pnt)} (h : RegIn w lo hi A n c ys Ls) (hm : RegSm Ls) : RegRd w lo hi A n Ls := by
  obtain ⟨h1, h2, h3, h4, h5, h6⟩ := h
  refine ⟨h1, fun hn => ?_⟩
  obtain ⟨g, rfl, hg1, hg2, _, hc, _⟩ := own_at h2 hn
  refine ⟨g, 0, rfl, hg1, h5 g rfl, fun j K hj => ?_⟩
  obtain ⟨Aj, cj, h7, h8⟩ := h3 j K hj
  refine ⟨[.slice Aj K.length cj], rfl, fun i u hu => ?_, Aj, K.length, cj, rfl, by have := hm.k K (List.mem_of_getElem? hj); unfold maxLen; omega, (rdS_own ptC_len (by omega) h8 rfl).capped fun b off e => h6 j _ b h7 (by subst e; rfl)⟩
  match i, hu with
  | 0, hu =>
    injection hu with hu
    subst hu
    have hjl := (List.getElem?_eq_some_iff.1 hj).1
    simp only [Nat.mul_one, Nat.add_zero, Nat.zero_add]
    rw [hc j (by omega), h7]
theorem fgR_sm (Rs : List (List Pnt)) (t : Int) : OutSm (fgR Rs t).1 := by
  unfold fgR
  split
  · exact OutSm.nil
  · split
    · exact OutSm.nil
    · split
      · exact OutSm.nil
      · rename_i h
        have h12 : Rs.length ≤ 12 := Nat.le_of_not_lt fun h' => h (.inr h')
        have h60 : ∀ L ∈ Rs, (ringK L t).length ≤ 60 := fun L hL => Nat.le_of_not_lt fun h' => h (.inl (List.any_eq_true.2 ⟨L, hL, decide_eq_true h'⟩))
        refine ⟨by show (Rs.map _).length ≤ _; rw [List.length_map]; omega, ?_⟩
        show kN (Rs.map _) ≤ _
        unfold kN
        rw [List.map_map]
        have := sum_bound (f := List.length ∘ fun L => ringK L t) (B := 60) (l := Rs) h60
        have h3 : Rs.length * 60 ≤ 12 * 60 := Nat.mul_le_mul_right _ h12
        omega

set_option maxHeartbeats 16000000 in
theorem lawFitRegion_walk (A : Option Addr) (n c : Nat) (Rs : List (List Pnt)) (t : Int) {w : World} (hr : RegRd w 0 w.heap.size A n Rs) (hn : n ≤ maxLen) (wx0 : (Lit.int .i64 t).wf = true) :
    Calls Try.prog 7 #[.agg #[.slice A n c], .int .i64 t] w fun e w' => e = .returned (.bool true) ∧ Below w.heap.size w w' := by
  unfold maxLen at hn
  obtain ⟨R, hR⟩ : ∃ R, R = (fgR Rs t).1 := ⟨_, rfl⟩
  obtain ⟨code, hcode⟩ : ∃ x, x = (fgR Rs t).2 := ⟨_, rfl⟩
  have hv : fgR Rs t = (R, code) := by rw [hR, hcode]
  have sR : OutSm R := by rw [hR]; exact fgR_sm Rs t
  obtain ⟨q, hq⟩ : ∃ q, q = R.length := ⟨_, rfl⟩
  have hqn : q ≤ 1048576 := by rw [hq]; exact sR.1
  have hspec := Lib.hid (fun A n c lo hi w hr hh hn hs => specFitRegion_any A n c lo hi Rs t R code hv w hr hh hn hs)
  have himpl := Lib.hid (fun A n c lo hi w hr hcap hh hn hs => implFitRegion_any A n c lo hi Rs t R code hv w hr hcap hh hn hs)
  rw [← hq] at hspec himpl
  replace hq := Lib.hid hq
  have hRk := sR.2
  replace sR := Lib.hid sR
  clear hv hR hcode
  replace hr := Lib.hid hr
  have hll := Lib.hid hr.out.1
  have hB : Below w.heap.size w w := Below.refl _ _
  have hk := Keep.of_below (Go.Joins.below_alloc1 w (.cells #[.slice A n c] 70 (0, 0)))
  have hzz : (w.alloc (.cells #[.slice A n c] 70 (0, 0))).heap.size = w.heap.size + 1 := by simp
  have bS : Hid ((w.alloc (.cells #[.slice A n c] 70 (0, 0))).heap[w.heap.size]? = some (.cells #[.slice A n c] 70 (0, 0))) := heap_alloc_new w _
  go_enter Try.func7, Try.ntmps7
  go_wp2_with fail
  generalize w.alloc (.cells #[.slice A n c] 70 (0, 0)) = w0 at *
  have hzl0 : w0.heap.size ≤ w.heap.size + 1 := by omega
  have hzg0 : w.heap.size + 1 ≤ w0.heap.size := by omega
  clear hzz
  have hz0 := hk.size
  have hB0 : Below w.heap.size w w0 := hB.trans (hk.bel.mono (by omega))
  clear hk
  have qbS0 : w0.cell? ⟨w.heap.size, 0, none⟩ = some (.slice A n c) := by rw [Go.Joins.cell_of_block bS.out]; rfl
  have qbSl : w.heap.size < w0.heap.size := by omega
  go_wp2_with fail
  clear qbS0 qbSl
  refine (szRegion_any A n c 0 w.heap.size Rs 1048576 _ (hr.out.frame good_ring (Below.sameB hB0 (Nat.le_refl _))) hB0.size (by omega) (by omega) (by omega)).mono ?_
  rintro e w1 ⟨rz, rfl, hrz, hc⟩
  have hk := Keep.of_below hc
  clear hc
  have hz1 := hk.size
  have hB1 : Below w.heap.size w w1 := hB0.trans (hk.bel.mono (by omega))
  replace bS := Lib.hid ((hk.block w.heap.size (by omega) (by omega)).trans bS.out)
  clear hk
  rcases hrz with hn1 | ⟨hn1, hl1⟩
  · go_wp2_with fail
    go_ret
    exact ⟨rfl, hB1⟩
  have hsm : RegSm Rs := by unfold regSize at hl1; exact ⟨by omega, by unfold rN; omega⟩
  have hgn : n ≤ 1048576 := by rw [← hll.out]; exact hsm.1
  have hsN := hsm.2
  have hss := Lib.hid hsm.k
  replace hsm := Lib.hid hsm
  clear hl1
  have qbS0 : w1.cell? ⟨w.heap.size, 0, none⟩ = some (.slice A n c) := by rw [Go.Joins.cell_of_block bS.out]; rfl
  have qbSl : w.heap.size < w1.heap.size := by omega
  go_wp2_with fail
  clear qbS0 qbSl
  refine (toRegion_any A n c 0 w.heap.size Rs _ (hr.out.frame good_ring (Below.sameB hB1 (Nat.le_refl _))) hB1.size hgn hss.out).mono ?_
  rintro e w2 ⟨A2, rfl, ho2, hc⟩
  have rd2 := Lib.hid (ho2.rd (fun K h => by have := hss.out K h; unfold maxLen; omega))
  clear ho2
  have hk := Keep.of_below hc
  clear hc
  have hz2 := hk.size
  have hB2 : Below w.heap.size w w2 := hB1.trans (hk.bel.mono (by omega))
  replace bS := Lib.hid ((hk.block w.heap.size (by omega) (by omega)).trans bS.out)
  clear hk
  go_wp2_with fail
  refine (hspec.out A2 n n _ _ _ rd2.out (Nat.le_refl _) hgn hss.out).mono ?_
  rintro e w3 ⟨A5, c5, rfl, ho5, hc⟩
  have rdw := Lib.hid (ho5.rd (fun K h => by have := sR.out.k K h; unfold maxLen; omega))
  clear ho5 rd2
  have hk := Keep.of_below hc
  clear hc
  have hz3 := hk.size
  have hB3 : Below w.heap.size w w3 := hB2.trans (hk.bel.mono (by omega))
  replace bS := Lib.hid ((hk.block w.heap.size (by omega) (by omega)).trans bS.out)
  clear hk
  have hk := Keep.of_below (Go.Joins.below_alloc1 w3 (.cells #[.slice A5 q c5] 84 (0, 0)))
  have hzz : (w3.alloc (.cells #[.slice A5 q c5] 84 (0, 0))).heap.size = w3.heap.size + 1 := by simp
  have bW : Hid ((w3.alloc (.cells #[.slice A5 q c5] 84 (0, 0))).heap[w3.heap.size]? = some (.cells #[.slice A5 q c5] 84 (0, 0))) := heap_alloc_new w3 _
  have qbS0 : w3.cell? ⟨w.heap.size, 0, none⟩ = some (.slice A n c) := by rw [Go.Joins.cell_of_block bS.out]; rfl
  have qbSl : w.heap.size < w3.heap.size := by omega
  go_wp2_with fail
  clear qbS0 qbSl
  generalize w3.alloc (.cells #[.slice A5 q c5] 84 (0, 0)) = w4 at *
  have hzl4 : w4.heap.size ≤ w3.heap.size + 1 := by omega
  have hzg4 : w3.heap.size + 1 ≤ w4.heap.size := by omega
  clear hzz
  have hz4 := hk.size
  have hB4 : Below w.heap.size w w4 := hB3.trans (hk.bel.mono (by omega))
  replace bS := Lib.hid ((hk.block w.heap.size (by omega) (by omega)).trans bS.out)
  replace rdw := Lib.hid (rdw.out.frame good_loop (hk.sameB (by omega) (by omega)))
  clear hk
  refine (toRegion_any A n c 0 w.heap.size Rs _ (hr.out.frame good_ring (Below.sameB hB4 (Nat.le_refl _))) hB4.size hgn hss.out).mono ?_
  rintro e w5 ⟨A6, rfl, ho6, hc⟩
  obtain ⟨ys6, in6⟩ := ho6.in
  replace in6 := Lib.hid in6
  clear ho6
  have hk := Keep.of_below hc
  clear hc
  have hz5 := hk.size
  have hB5 : Below w.heap.size w w5 := hB4.trans (hk.bel.mono (by omega))
  replace bS := Lib.hid ((hk.block w.heap.size (by omega) (by omega)).trans bS.out)
  replace bW := Lib.hid ((hk.block w3.heap.size (by omega) (by omega)).trans bW.out)
  replace rdw := Lib.hid (rdw.out.frame good_loop (hk.sameB (by omega) (by omega)))
  clear hk
  have hk := Keep.of_below (Go.Joins.below_alloc1 w5 (.cells #[.slice A6 n n] 80 (0, 0)))
  have hzz : (w5.alloc (.cells #[.slice A6 n n] 80 (0, 0))).heap.size = w5.heap.size + 1 := by simp
  have b8 : Hid ((w5.alloc (.cells #[.slice A6 n n] 80 (0, 0))).heap[w5.heap.size]? = some (.cells #[.slice A6 n n] 80 (0, 0))) := heap_alloc_new w5 _
  go_wp2_with fail
  generalize w5.alloc (.cells #[.slice A6 n n] 80 (0, 0)) = w6 at *
  have hzl6 : w6.heap.size ≤ w5.heap.size + 1 := by omega
  have hzg6 : w5.heap.size + 1 ≤ w6.heap.size := by omega
  clear hzz
  have hz6 := hk.size
  have hB6 : Below w.heap.size w w6 := hB5.trans (hk.bel.mono (by omega))
  replace bS := Lib.hid ((hk.block w.heap.size (by omega) (by omega)).trans bS.out)
  replace bW := Lib.hid ((hk.block w3.heap.size (by omega) (by omega)).trans bW.out)
  replace rdw := Lib.hid (rdw.out.frame good_loop (hk.sameB (by omega) (by omega)))
  replace in6 := Lib.hid (in6.out.same (hk.sameB (by omega) (by omega)))
  clear hk
  have qb80 : w6.cell? ⟨w5.heap.size, 0, none⟩ = some (.slice A6 n n) := by rw [Go.Joins.cell_of_block b8.out]; rfl
  have qb8l : w5.heap.size < w6.heap.size := by omega
  go_wp2_with fail
  clear qb80 qb8l
  refine (himpl.out A6 n n w4.heap.size w5.heap.size _ (in6.out.rdIn hsm.out) in6.out.cap (by omega) hgn hss.out).mono ?_
  rintro e w7 ⟨A8, c8, rfl, ho8, hc⟩
  obtain ⟨ys8, ing⟩ := ho8.in
  replace ing := Lib.hid ing
  clear ho8
  have hk := Keep.of_below hc
  clear hc
  have hz7 := hk.size
  have hB7 : Below w.heap.size w w7 := hB6.trans (hk.bel.mono (by omega))
  replace bS := Lib.hid ((hk.block w.heap.size (by omega) (by omega)).trans bS.out)
  replace bW := Lib.hid ((hk.block w3.heap.size (by omega) (by omega)).trans bW.out)
  replace b8 := Lib.hid ((hk.block w5.heap.size (by omega) (by omega)).trans b8.out)
  replace rdw := Lib.hid (rdw.out.frame good_loop (hk.sameB (by omega) (by omega)))
  replace in6 := Lib.hid (in6.out.same (hk.sameB (by omega) (by omega)))
  clear hk
  have hk := Keep.of_below (Go.Joins.below_alloc1 w7 (.cells #[.slice A8 q c8] 84 (0, 0)))
  have hzz : (w7.alloc (.cells #[.slice A8 q c8] 84 (0, 0))).heap.size = w7.heap.size + 1 := by simp
  have b9 : Hid ((w7.alloc (.cells #[.slice A8 q c8] 84 (0, 0))).heap[w7.heap.size]? = some (.cells #[.slice A8 q c8] 84 (0, 0))) := heap_alloc_new w7 _
  have qbW0 : w7.cell? ⟨w3.heap.size, 0, none⟩ = some (.slice A5 q c5) := by rw [Go.Joins.cell_of_block bW.out]; rfl
  have qbWl : w3.heap.size < w7.heap.size := by omega
  go_wp2_with fail
  clear qbW0 qbWl
  generalize w7.alloc (.cells #[.slice A8 q c8] 84 (0, 0)) = w8 at *
  have hzl8 : w8.heap.size ≤ w7.heap.size + 1 := by omega
  have hzg8 : w7.heap.size + 1 ≤ w8.heap.size := by omega
  clear hzz
  have hz8 := hk.size
  have hB8 : Below w.heap.size w w8 := hB7.trans (hk.bel.mono (by omega))
  replace bS := Lib.hid ((hk.block w.heap.size (by omega) (by omega)).trans bS.out)
  replace bW := Lib.hid ((hk.block w3.heap.size (by omega) (by omega)).trans bW.out)
  replace b8 := Lib.hid ((hk.block w5.heap.size (by omega) (by omega)).trans b8.out)
  replace rdw := Lib.hid (rdw.out.frame good_loop (hk.sameB (by omega) (by omega)))
  replace in6 := Lib.hid (in6.out.same (hk.sameB (by omega) (by omega)))
  replace ing := Lib.hid (ing.out.same (hk.sameB (by omega) (by omega)))
  clear hk
  have qb90 : w8.cell? ⟨w7.heap.size, 0, none⟩ = some (.slice A8 q c8) := by rw [Go.Joins.cell_of_block b9.out]; rfl
  have qb9l : w7.heap.size < w8.heap.size := by omega
  have qbW0 : w8.cell? ⟨w3.heap.size, 0, none⟩ = some (.slice A5 q c5) := by rw [Go.Joins.cell_of_block bW.out]; rfl
  have qbWl : w3.heap.size < w8.heap.size := by omega
  go_wp2_with fail
  clear qb90 qb9l qbW0 qbWl
  refine (eqOutline_any A8 A5 q c8 q c5 w6.heap.size w7.heap.size w2.heap.size w3.heap.size R _ (ing.out.rdIn sR.out) rdw.out (by omega) (by omega) (by omega) (fun K h => by have := sR.out.k K h; omega)).mono ?_
  rintro e w9 ⟨rfl, hc⟩
  have hk := Keep.of_below hc
  clear hc
  have hz9 := hk.size
  have hB9 : Below w.heap.size w w9 := hB8.trans (hk.bel.mono (by omega))
  replace bS := Lib.hid ((hk.block w.heap.size (by omega) (by omega)).trans bS.out)
  replace bW := Lib.hid ((hk.block w3.heap.size (by omega) (by omega)).trans bW.out)
  replace b8 := Lib.hid ((hk.block w5.heap.size (by omega) (by omega)).trans b8.out)
  replace b9 := Lib.hid ((hk.block w7.heap.size (by omega) (by omega)).trans b9.out)
  replace rdw := Lib.hid (rdw.out.frame good_loop (hk.sameB (by omega) (by omega)))
  replace in6 := Lib.hid (in6.out.same (hk.sameB (by omega) (by omega)))
  replace ing := Lib.hid (ing.out.same (hk.sameB (by omega) (by omega)))
  clear hk
  have qb80 : w9.cell? ⟨w5.heap.size, 0, none⟩ = some (.slice A6 n n) := by rw [Go.Joins.cell_of_block b8.out]; rfl
  have qb8l : w5.heap.size < w9.heap.size := by omega
  have qbS0 : w9.cell? ⟨w.heap.size, 0, none⟩ = some (.slice A n c) := by rw [Go.Joins.cell_of_block bS.out]; rfl
  have qbSl : w.heap.size < w9.heap.size := by omega
  go_wp2_with fail
  go_region_held3 (fun w' => w'.cell? ⟨w5.heap.size, 0, none⟩ = some (.slice A6 n n) ∧ w'.cell? ⟨w.heap.size, 0, none⟩ = some (.slice A n c)) (first | exact ⟨qb80, qbS0⟩ | exact s10 | exact s11)
    (first
      | (go_at_call 33; (with_reducible refine (toRegion_any A n c 0 w.heap.size Rs _ ?_ ?_ hgn hss.out).mono ?_); exact (hr.out.frame good_ring (Below.sameB hB9.drew (Nat.le_refl _))); exact hB9.size; rintro e w10 ⟨A10, rfl, ho10, hc10⟩; have hb10 : Below w9.heap.size w9 w10 := (Below.refl _ _).drew.trans hc10; have hz10 : w9.heap.size ≤ w10.heap.size := hb10.size; have s10 : w10.cell? ⟨w5.heap.size, 0, none⟩ = some (.slice A6 n n) ∧ w10.cell? ⟨w.heap.size, 0, none⟩ = some (.slice A n c) := ⟨(hb10.cell (by simp; omega)).trans qb80, (hb10.cell (by simp; omega)).trans qbS0⟩; have in6x := Lib.hid ((in6.out.rdIn hsm.out).frame good_ring (Below.sameB hb10 (by omega))); have rd10 := Lib.hid (ho10.rd (fun K h => by have := hss.out K h; unfold maxLen; omega)); clear hc10 ho10)
      | (go_at_call 36; (with_reducible refine (eqRegion_any _ _ _ _ _ _ _ _ _ _ Rs _ in6x.out rd10.out ?_ ?_ ?_ ?_).mono ?_); (omega); (exact Nat.le_refl _); (omega); (exact fun K h => Nat.le_trans (hss.out K h) (by omega)); rintro e w11 ⟨rfl, hc11⟩; have s11 : w11.cell? ⟨w5.heap.size, 0, none⟩ = some (.slice A6 n n) ∧ w11.cell? ⟨w.heap.size, 0, none⟩ = some (.slice A n c) := ⟨(hc11.cell (by simp; omega)).trans s10.1, (hc11.cell (by simp; omega)).trans s10.2⟩; have hk := Keep.of_below (hb10.trans (hc11.mono hz10)); clear hc11))
  clear qb80 qb8l qbS0 qbSl
  clear s10 s11 rd10 in6x hz10
  have hz11 := hk.size
  have hB11 : Below w.heap.size w w11 := hB9.trans (hk.bel.mono (by omega))
  replace bS := Lib.hid ((hk.block w.heap.size (by omega) (by omega)).trans bS.out)
  replace bW := Lib.hid ((hk.block w3.heap.size (by omega) (by omega)).trans bW.out)
  replace b8 := Lib.hid ((hk.block w5.heap.size (by omega) (by omega)).trans b8.out)
  replace b9 := Lib.hid ((hk.block w7.heap.size (by omega) (by omega)).trans b9.out)
  replace rdw := Lib.hid (rdw.out.frame good_loop (hk.sameB (by omega) (by omega)))
  replace in6 := Lib.hid (in6.out.same (hk.sameB (by omega) (by omega)))
  replace ing := Lib.hid (ing.out.same (hk.sameB (by omega) (by omega)))
  clear hk
  have qb80 : w11.cell? ⟨w5.heap.size, 0, none⟩ = some (.slice A6 n n) := by rw [Go.Joins.cell_of_block b8.out]; rfl
  have qb8l : w5.heap.size < w11.heap.size := by omega
  go_wp2_with fail
  clear qb80 qb8l
  refine (markRegion_any A6 n n w4.heap.size w5.heap.size ys6 Rs 1 _ in6.out (by omega) (by omega) (by omega) (by omega) hgn hsN).mono ?_
  rintro e w12 ⟨rfl, hbm, hsm2, _⟩
  have hk : Keep w4.heap.size w5.heap.size w11 w12 := ⟨hbm, hsm2, hbm.size⟩
  have hm12' : ¬ ((1 : Int) + 2 * (rN Rs : Int) < 0) := by omega
  clear in6 hbm hsm2
  have hz12 := hk.size
  have hB12 : Below w.heap.size w w12 := hB11.trans (hk.bel.mono (by omega))
  replace bS := Lib.hid ((hk.block w.heap.size (by omega) (by omega)).trans bS.out)
  replace bW := Lib.hid ((hk.block w3.heap.size (by omega) (by omega)).trans bW.out)
  replace b8 := Lib.hid ((hk.block w5.heap.size (by omega) (by omega)).trans b8.out)
  replace b9 := Lib.hid ((hk.block w7.heap.size (by omega) (by omega)).trans b9.out)
  replace rdw := Lib.hid (rdw.out.frame good_loop (hk.sameB (by omega) (by omega)))
  replace ing := Lib.hid (ing.out.same (hk.sameB (by omega) (by omega)))
  clear hk
  have qb90 : w12.cell? ⟨w7.heap.size, 0, none⟩ = some (.slice A8 q c8) := by rw [Go.Joins.cell_of_block b9.out]; rfl
  have qb9l : w7.heap.size < w12.heap.size := by omega
  have qbW0 : w12.cell? ⟨w3.heap.size, 0, none⟩ = some (.slice A5 q c5) := by rw [Go.Joins.cell_of_block bW.out]; rfl
  have qbWl : w3.heap.size < w12.heap.size := by omega
  go_wp2_with fail
  clear qb90 qb9l qbW0 qbWl
  refine (eqOutline_any A8 A5 q c8 q c5 w6.heap.size w7.heap.size w2.heap.size w3.heap.size R _ (ing.out.rdIn sR.out) rdw.out (by omega) (by omega) (by omega) (fun K h => by have := sR.out.k K h; omega)).mono ?_
  rintro e w13 ⟨rfl, hc⟩
  have hk := Keep.of_below hc
  clear hc
  have hz13 := hk.size
  have hB13 : Below w.heap.size w w13 := hB12.trans (hk.bel.mono (by omega))
  replace bS := Lib.hid ((hk.block w.heap.size (by omega) (by omega)).trans bS.out)
  replace bW := Lib.hid ((hk.block w3.heap.size (by omega) (by omega)).trans bW.out)
  replace b8 := Lib.hid ((hk.block w5.heap.size (by omega) (by omega)).trans b8.out)
  replace b9 := Lib.hid ((hk.block w7.heap.size (by omega) (by omega)).trans b9.out)
  replace rdw := Lib.hid (rdw.out.frame good_loop (hk.sameB (by omega) (by omega)))
  replace ing := Lib.hid (ing.out.same (hk.sameB (by omega) (by omega)))
  clear hk
  have qb90 : w13.cell? ⟨w7.heap.size, 0, none⟩ = some (.slice A8 q c8) := by rw [Go.Joins.cell_of_block b9.out]; rfl
  have qb9l : w7.heap.size < w13.heap.size := by omega
  go_wp2_with fail
  clear qb90 qb9l
  refine (markOutline_any A8 q c8 w6.heap.size w7.heap.size ys8 R 1 _ ing.out (by omega) (by omega) (by omega) (by omega) hqn hRk).mono ?_
  rintro e w14 ⟨rfl, hbm, hsm2, ing'⟩
  have hk : Keep w6.heap.size w7.heap.size w13 w14 := ⟨hbm, hsm2, hbm.size⟩
  replace ing := Lib.hid ing'
  clear hbm hsm2 ing'
  have hz14 := hk.size
  have hB14 : Below w.heap.size w w14 := hB13.trans (hk.bel.mono (by omega))
  replace bS := Lib.hid ((hk.block w.heap.size (by omega) (by omega)).trans bS.out)
  replace bW := Lib.hid ((hk.block w3.heap.size (by omega) (by omega)).trans bW.out)
  replace b8 := Lib.hid ((hk.block w5.heap.size (by omega) (by omega)).trans b8.out)
  replace b9 := Lib.hid ((hk.block w7.heap.size (by omega) (by omega)).trans b9.out)
  replace rdw := Lib.hid (rdw.out.frame good_loop (hk.sameB (by omega) (by omega)))
  clear hk
  have hm1b : ¬ ((1 : Int) + 3 * (kN R : Int) < 0) := by omega
  have qb90 : w14.cell? ⟨w7.heap.size, 0, none⟩ = some (.slice A8 q c8) := by rw [Go.Joins.cell_of_block b9.out]; rfl
  have qb9l : w7.heap.size < w14.heap.size := by omega
  go_wp2_with fail
  clear qb90 qb9l
  refine (heldOutline_any A8 q c8 w6.heap.size w7.heap.size R 1 _ (ing.out.rdIn (sR.out.mk 1)) (by omega) (by omega) (by omega) hqn hRk).mono ?_
  rintro e w15 ⟨rfl, hc⟩
  have hk := Keep.of_below hc
  clear hc
  have hz15 := hk.size
  have hB15 : Below w.heap.size w w15 := hB14.trans (hk.bel.mono (by omega))
  replace bS := Lib.hid ((hk.block w.heap.size (by omega) (by omega)).trans bS.out)
  replace bW := Lib.hid ((hk.block w3.heap.size (by omega) (by omega)).trans bW.out)
  replace b8 := Lib.hid ((hk.block w5.heap.size (by omega) (by omega)).trans b8.out)
  replace b9 := Lib.hid ((hk.block w7.heap.size (by omega) (by omega)).trans b9.out)
  replace rdw := Lib.hid (rdw.out.frame good_loop (hk.sameB (by omega) (by omega)))
  replace ing := Lib.hid (ing.out.same (hk.sameB (by omega) (by omega)))
  clear hk
  have qbS0 : w15.cell? ⟨w.heap.size, 0, none⟩ = some (.slice A n c) := by rw [Go.Joins.cell_of_block bS.out]; rfl
  have qbSl : w.heap.size < w15.heap.size := by omega
  go_wp2_with fail
  clear qbS0 qbSl
  refine (toRegion_any A n c 0 w.heap.size Rs _ (hr.out.frame good_ring (Below.sameB hB15 (Nat.le_refl _))) hB15.size hgn hss.out).mono ?_
  rintro e w16 ⟨A16, rfl, ho16, hc⟩
  have rd16 := Lib.hid (ho16.rd (fun K h => by have := hss.out K h; unfold maxLen; omega))
  have cap16 := Lib.hid ho16.cap
  clear ho16
  have hk := Keep.of_below hc
  clear hc
  have hz16 := hk.size
  have hB16 : Below w.heap.size w w16 := hB15.trans (hk.bel.mono (by omega))
  replace bS := Lib.hid ((hk.block w.heap.size (by omega) (by omega)).trans bS.out)
  replace bW := Lib.hid ((hk.block w3.heap.size (by omega) (by omega)).trans bW.out)
  replace b8 := Lib.hid ((hk.block w5.heap.size (by omega) (by omega)).trans b8.out)
  replace b9 := Lib.hid ((hk.block w7.heap.size (by omega) (by omega)).trans b9.out)
  replace rdw := Lib.hid (rdw.out.frame good_loop (hk.sameB (by omega) (by omega)))
  replace ing := Lib.hid (ing.out.same (hk.sameB (by omega) (by omega)))
  clear hk
  go_wp2_with fail
  refine (himpl.out A16 n n _ _ _ rd16.out cap16.out (Nat.le_refl _) hgn hss.out).mono ?_
  rintro e w17 ⟨A17, c17, rfl, ho17, hc⟩
  have rdh := Lib.hid (ho17.rd (fun K h => by have := sR.out.k K h; unfold maxLen; omega))
  clear ho17 rd16 cap16
  have hk := Keep.of_below hc
  clear hc
  have hz17 := hk.size
  have hB17 : Below w.heap.size w w17 := hB16.trans (hk.bel.mono (by omega))
  replace bS := Lib.hid ((hk.block w.heap.size (by omega) (by omega)).trans bS.out)
  replace bW := Lib.hid ((hk.block w3.heap.size (by omega) (by omega)).trans bW.out)
  replace b8 := Lib.hid ((hk.block w5.heap.size (by omega) (by omega)).trans b8.out)
  replace b9 := Lib.hid ((hk.block w7.heap.size (by omega) (by omega)).trans b9.out)
  replace rdw := Lib.hid (rdw.out.frame good_loop (hk.sameB (by omega) (by omega)))
  replace ing := Lib.hid (ing.out.same (hk.sameB (by omega) (by omega)))
  clear hk
  have hk := Keep.of_below (Go.Joins.below_alloc1 w17 (.cells #[.slice A17 q c17] 84 (0, 0)))
  have hzz : (w17.alloc (.cells #[.slice A17 q c17] 84 (0, 0))).heap.size = w17.heap.size + 1 := by simp
  have bG : Hid ((w17.alloc (.cells #[.slice A17 q c17] 84 (0, 0))).heap[w17.heap.size]? = some (.cells #[.slice A17 q c17] 84 (0, 0))) := heap_alloc_new w17 _
  have qbW0 : w17.cell? ⟨w3.heap.size, 0, none⟩ = some (.slice A5 q c5) := by rw [Go.Joins.cell_of_block bW.out]; rfl
  have qbWl : w3.heap.size < w17.heap.size := by omega
  go_wp2_with fail
  clear qbW0 qbWl
  generalize w17.alloc (.cells #[.slice A17 q c17] 84 (0, 0)) = w18 at *
  have hzl18 : w18.heap.size ≤ w17.heap.size + 1 := by omega
  have hzg18 : w17.heap.size + 1 ≤ w18.heap.size := by omega
  clear hzz
  have hz18 := hk.size
  have hB18 : Below w.heap.size w w18 := hB17.trans (hk.bel.mono (by omega))
  replace bS := Lib.hid ((hk.block w.heap.size (by omega) (by omega)).trans bS.out)
  replace bW := Lib.hid ((hk.block w3.heap.size (by omega) (by omega)).trans bW.out)
  replace b8 := Lib.hid ((hk.block w5.heap.size (by omega) (by omega)).trans b8.out)
  replace b9 := Lib.hid ((hk.block w7.heap.size (by omega) (by omega)).trans b9.out)
  replace rdw := Lib.hid (rdw.out.frame good_loop (hk.sameB (by omega) (by omega)))
  replace ing := Lib.hid (ing.out.same (hk.sameB (by omega) (by omega)))
  replace rdh := Lib.hid (rdh.out.frame good_loop (hk.sameB (by omega) (by omega)))
  clear hk
  have qbG0 : w18.cell? ⟨w17.heap.size, 0, none⟩ = some (.slice A17 q c17) := by rw [Go.Joins.cell_of_block bG.out]; rfl
  have qbGl : w17.heap.size < w18.heap.size := by omega
  have qbW0 : w18.cell? ⟨w3.heap.size, 0, none⟩ = some (.slice A5 q c5) := by rw [Go.Joins.cell_of_block bW.out]; rfl
  have qbWl : w3.heap.size < w18.heap.size := by omega
  go_wp2_with fail
  clear qbG0 qbGl qbW0 qbWl
  refine (eqOutline_any A17 A5 q c17 q c5 w16.heap.size w17.heap.size w2.heap.size w3.heap.size R _ rdh.out rdw.out (by omega) (by omega) (by omega) (fun K h => by have := sR.out.k K h; omega)).mono ?_
  rintro e w19 ⟨rfl, hc⟩
  have hk := Keep.of_below hc
  clear hc
  have hz19 := hk.size
  have hB19 : Below w.heap.size w w19 := hB18.trans (hk.bel.mono (by omega))
  replace bS := Lib.hid ((hk.block w.heap.size (by omega) (by omega)).trans bS.out)
  replace bW := Lib.hid ((hk.block w3.heap.size (by omega) (by omega)).trans bW.out)
  replace b8 := Lib.hid ((hk.block w5.heap.size (by omega) (by omega)).trans b8.out)
  replace b9 := Lib.hid ((hk.block w7.heap.size (by omega) (by omega)).trans b9.out)
  replace bG := Lib.hid ((hk.block w17.heap.size (by omega) (by omega)).trans bG.out)
  replace rdw := Lib.hid (rdw.out.frame good_loop (hk.sameB (by omega) (by omega)))
  replace ing := Lib.hid (ing.out.same (hk.sameB (by omega) (by omega)))
  replace rdh := Lib.hid (rdh.out.frame good_loop (hk.sameB (by omega) (by omega)))
  clear hk
  have qb90 : w19.cell? ⟨w7.heap.size, 0, none⟩ = some (.slice A8 q c8) := by rw [Go.Joins.cell_of_block b9.out]; rfl
  have qb9l : w7.heap.size < w19.heap.size := by omega
  go_wp2_with fail
  clear qb90 qb9l
  refine (heldOutline_any A8 q c8 w6.heap.size w7.heap.size R 1 _ (ing.out.rdIn (sR.out.mk 1)) (by omega) (by omega) (by omega) hqn hRk).mono ?_
  rintro e w20 ⟨rfl, hc⟩
  have hk := Keep.of_below hc
  clear hc
  have hz20 := hk.size
  have hB20 : Below w.heap.size w w20 := hB19.trans (hk.bel.mono (by omega))
  replace bS := Lib.hid ((hk.block w.heap.size (by omega) (by omega)).trans bS.out)
  replace bW := Lib.hid ((hk.block w3.heap.size (by omega) (by omega)).trans bW.out)
  replace b8 := Lib.hid ((hk.block w5.heap.size (by omega) (by omega)).trans b8.out)
  replace b9 := Lib.hid ((hk.block w7.heap.size (by omega) (by omega)).trans b9.out)
  replace bG := Lib.hid ((hk.block w17.heap.size (by omega) (by omega)).trans bG.out)
  replace rdw := Lib.hid (rdw.out.frame good_loop (hk.sameB (by omega) (by omega)))
  replace ing := Lib.hid (ing.out.same (hk.sameB (by omega) (by omega)))
  replace rdh := Lib.hid (rdh.out.frame good_loop (hk.sameB (by omega) (by omega)))
  clear hk
  go_wp2_with fail
  go_ret
  exact ⟨rfl, hB20⟩
end Go.Proofs.Ytmpnefjljmdflaa

