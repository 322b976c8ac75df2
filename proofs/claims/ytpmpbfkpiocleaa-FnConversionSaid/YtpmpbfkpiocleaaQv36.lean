/- A drawn cubic, and its tolerance. Conditions: as each states. -/
import Derived.Deep.RegionHeld3
import Derived.Deep.DeepCutAuto
import Derived.Test.YtpmpbfkpiocleaaQv29
import Derived.Test.YtpmpbfkpiocleaaQv35
namespace Go.Proofs.Ytpmpbfkpiocleaa
open Go.RowKit
set_option linter.unusedVariables false
set_option maxRecDepth 100000

theorem cub_in {m : Int} (h : m ∈ [(8 : Int), 60, 60, 1000, 20000, 262144]) : 0 ≤ m ∧ m ≤ 262144 := by
  simp at h; omega
theorem six_row (w : World) : RdS 1 (FlatR intC) (w.alloc (.cells #[.int .i64 8, .int .i64 60, .int .i64 60, .int .i64 1000, .int .i64 20000, .int .i64 262144] 2 (0, 0))) w.heap.size (w.alloc (.cells #[.int .i64 8, .int .i64 60, .int .i64 60, .int .i64 1000, .int .i64 20000, .int .i64 262144] 2 (0, 0))).heap.size (some ⟨w.heap.size, 0, none⟩) 6 [8, 60, 60, 1000, 20000, 262144] := by
  have h : (w.alloc (.cells #[.int .i64 8, .int .i64 60, .int .i64 60, .int .i64 1000, .int .i64 20000, .int .i64 262144] 2 (0, 0))).ownsRow w.heap.size 2 1 (.slice (some ⟨w.heap.size, 0, none⟩) 6 6) 6 [.int .i64 8, .int .i64 60, .int .i64 60, .int .i64 1000, .int .i64 20000, .int .i64 262144] := World.ownsRow_lit w #[.int .i64 8, .int .i64 60, .int .i64 60, .int .i64 1000, .int .i64 20000, .int .i64 262144] 6 (Nat.le_refl _) (by decide) (by simp)
  exact rdS_own intC_len (by omega) h rfl
/-- a cubic's box -/
def CB (w : World) (b : Nat) (a0 a1 b0 b1 c0 c1 d0 d1 : Int) : Prop := w.heap[b]? = some (.cells #[.int .i64 a0, .int .i64 a1, .int .i64 b0, .int .i64 b1, .int .i64 c0, .int .i64 c1, .int .i64 d0, .int .i64 d1] 26 (0, 0))
theorem CB.lt {w : World} {b : Nat} {a0 a1 b0 b1 c0 c1 d0 d1 : Int} (h : CB w b a0 a1 b0 b1 c0 c1 d0 d1) : b < w.heap.size := (Array.getElem?_eq_some_iff.1 h).1
theorem CB.grown {w w' : World} {b g : Nat} {a0 a1 b0 b1 c0 c1 d0 d1 : Int} (h : CB w b a0 a1 b0 b1 c0 c1 d0 d1) (hg : w.grownBy w' (some g)) (hn : b ≠ g) : CB w' b a0 a1 b0 b1 c0 c1 d0 d1 :=
  (hg.block b h.lt (by intro e; injection e with e; exact hn e)).trans h
theorem CB.below {w w' : World} {b : Nat} {a0 a1 b0 b1 c0 c1 d0 d1 : Int} (h : CB w b a0 a1 b0 b1 c0 c1 d0 d1) (hb : Below w.heap.size w w') : CB w' b a0 a1 b0 b1 c0 c1 d0 d1 := (hb.block b h.lt).trans h
theorem CB.cells {w : World} {b : Nat} {a0 a1 b0 b1 c0 c1 d0 d1 : Int} (h : CB w b a0 a1 b0 b1 c0 c1 d0 d1) : (w.cell? ⟨b, 0, none⟩ = some (.int .i64 a0) ∧ w.cell? ⟨b, 1, none⟩ = some (.int .i64 a1) ∧ w.cell? ⟨b, 2, none⟩ = some (.int .i64 b0) ∧ w.cell? ⟨b, 3, none⟩ = some (.int .i64 b1) ∧ w.cell? ⟨b, 4, none⟩ = some (.int .i64 c0) ∧ w.cell? ⟨b, 5, none⟩ = some (.int .i64 c1) ∧ w.cell? ⟨b, 6, none⟩ = some (.int .i64 d0) ∧ w.cell? ⟨b, 7, none⟩ = some (.int .i64 d1)) ∧ (∀ o, w.frozen? ⟨b, o, none⟩ = false) ∧ b < w.heap.size :=
  ⟨⟨by rw [Go.Joins.cell_of_block h]; rfl, by rw [Go.Joins.cell_of_block h]; rfl, by rw [Go.Joins.cell_of_block h]; rfl, by rw [Go.Joins.cell_of_block h]; rfl, by rw [Go.Joins.cell_of_block h]; rfl, by rw [Go.Joins.cell_of_block h]; rfl, by rw [Go.Joins.cell_of_block h]; rfl, by rw [Go.Joins.cell_of_block h]; rfl⟩, Go.Joins.unfrozen_of_block h, h.lt⟩
theorem CB.put {w : World} {b : Nat} {a0 a1 b0 b1 c0 c1 d0 d1 : Int} (h : CB w b a0 a1 b0 b1 c0 c1 d0 d1) :
    (∀ x y, CB ((w.setCell ⟨b, 2, none⟩ (.int .i64 x)).setCell ⟨b, 3, none⟩ (.int .i64 y)) b a0 a1 x y c0 c1 d0 d1) ∧ (∀ x y, CB ((w.setCell ⟨b, 4, none⟩ (.int .i64 x)).setCell ⟨b, 5, none⟩ (.int .i64 y)) b a0 a1 b0 b1 x y d0 d1) ∧ (∀ x y, CB ((w.setCell ⟨b, 6, none⟩ (.int .i64 x)).setCell ⟨b, 7, none⟩ (.int .i64 y)) b a0 a1 b0 b1 c0 c1 x y) :=
  ⟨fun x y => Go.Joins.block_setCell (Go.Joins.block_setCell h (.int .i64 x)) (.int .i64 y), fun x y => Go.Joins.block_setCell (Go.Joins.block_setCell h (.int .i64 x)) (.int .i64 y), fun x y => Go.Joins.block_setCell (Go.Joins.block_setCell h (.int .i64 x)) (.int .i64 y)⟩
theorem CB.off {w : World} {b : Nat} {a0 a1 b0 b1 c0 c1 d0 d1 : Int} (h : CB w b a0 a1 b0 b1 c0 c1 d0 d1) {c o : Nat} {v : Value} (hc : b ≠ c) : CB (w.setCell ⟨c, o, none⟩ v) b a0 a1 b0 b1 c0 c1 d0 d1 := (Below.heap_setCell w ⟨c, o, none⟩ v b hc).trans h
theorem below_grow {B : Nat} {a w w' : World} {b : Nat} (h : Below B a w) (hg : w.grownBy w' (some b)) (hb : B ≤ b) (hB : B ≤ w.heap.size) : Below B a w' := ⟨hg.os.trans h.os, hg.tape.trans h.tape, hg.output.trans h.output, Nat.le_trans h.size hg.size, fun i hi => (hg.block i (by omega) (by intro e; injection e with e; omega)).trans (h.block i hi)⟩
theorem drew_blk9 (w : World) (b : Nat) : w.drew.heap[b]? = w.heap[b]? := rfl
theorem ptOk_in {m : Int} {p : Int × Int} (h : InSq m p) (hm : m ≤ 262144) : ptOk p.1 p.2 = true := ptOk_iff.2 ⟨⟨by have := h.1.1; omega, by have := h.1.2; omega⟩, by have := h.2.1; omega, by have := h.2.2; omega⟩

set_option maxHeartbeats 4000000 in
theorem l09Draw_any (b k : Nat) (w : World) (hs : Src0 w b k) (hk : k ≤ 999999000) :
    Calls Try.prog 19 #[.pointer (some ⟨b, 0, none⟩)] w fun e w' => ∃ (q : Cb) (k' : Nat), e = .returned (cbV q) ∧ q.ok ∧ Src0 w' b k' ∧ k' ≤ k + 60 ∧ w.grownBy w' (some b) := by
  have hbl := hs.lt
  have hg0 := grown_of (Go.Joins.below_alloc1 w (.cells #[.int .i64 0, .int .i64 0, .int .i64 0, .int .i64 0, .int .i64 0, .int .i64 0, .int .i64 0, .int .i64 0] 26 (0, 0))) (some b)
  have hs0 := hs.kept (Go.Joins.below_alloc1 w (.cells #[.int .i64 0, .int .i64 0, .int .i64 0, .int .i64 0, .int .i64 0, .int .i64 0, .int .i64 0, .int .i64 0] 26 (0, 0))) hbl
  have hr0 := heap_alloc_new w (.cells #[.int .i64 0, .int .i64 0, .int .i64 0, .int .i64 0, .int .i64 0, .int .i64 0, .int .i64 0, .int .i64 0] 26 (0, 0))
  have hz0 : (w.alloc (.cells #[.int .i64 0, .int .i64 0, .int .i64 0, .int .i64 0, .int .i64 0, .int .i64 0, .int .i64 0, .int .i64 0] 26 (0, 0))).heap.size = w.heap.size + 1 := by simp
  clear hs
  go_enter Try.func19, Try.ntmps19
  go_upto_region 1 with fail
  generalize (w.alloc (.cells #[.int .i64 0, .int .i64 0, .int .i64 0, .int .i64 0, .int .i64 0, .int .i64 0, .int .i64 0, .int .i64 0] 26 (0, 0))) = w0 at *
  have hR0 : Hid (CB w0 w.heap.size 0 0 0 0 0 0 0 0) := hr0
  have hl0 : w.heap.size < w0.heap.size := by omega
  clear hr0 hz0
  have hbl0 := hs0.lt
  have hs1 : Src0 (w0.alloc (.cells #[.int .i64 8, .int .i64 60, .int .i64 60, .int .i64 1000, .int .i64 20000, .int .i64 262144] 2 (0, 0))) b k := hs0.kept (Go.Joins.below_alloc1 _ _) hbl0
  have hg1 := grown_tr hg0 (grown_of (Go.Joins.below_alloc1 w0 (.cells #[.int .i64 8, .int .i64 60, .int .i64 60, .int .i64 1000, .int .i64 20000, .int .i64 262144] 2 (0, 0))) (some b))
  have hc1 := Lib.hid (among_any b k _ 6 6 _ _ _ _ hs1 (by omega) (six_row w0) (.inl hbl0) (Nat.le_refl _) (by decide) (by decide))
  have hR1 := Lib.hid (hR0.out.below (Go.Joins.below_alloc1 w0 (.cells #[.int .i64 8, .int .i64 60, .int .i64 60, .int .i64 1000, .int .i64 20000, .int .i64 262144] 2 (0, 0))))
  clear hs0 hs1 hR0 hg0
  go_wp2_with fail
  refine hc1.out.mono ?_
  rintro e w2 ⟨m, k2, rfl, hm, hs2, hk2, hg2⟩
  have hm2 := cub_in hm
  have hG2 := grown_tr hg1 hg2
  have hR2 := Lib.hid (hR1.out.grown hg2 (by omega))
  have hc2 := Lib.hid (l03Draw_any b k2 m w2 hs2 (by omega) hm2.1 (by omega))
  clear hm hc1 hR1 hs2 hg1 hg2
  go_wp2_with fail
  refine hc2.out.mono ?_
  rintro e w3 ⟨ax, ay, k3, rfl, ha, hs3, hk3, hg3⟩
  have hG3 := grown_tr hG2 hg3
  have hR3 := Lib.hid (hR2.out.grown hg3 (by omega))
  have hbl3 := hs3.lt
  have hal := Go.Joins.below_alloc1 w3 (.cells #[.int .i64 ax, .int .i64 ay, .int .i64 0, .int .i64 0, .int .i64 0, .int .i64 0, .int .i64 0, .int .i64 0] 26 (0, 0))
  have hC := heap_alloc_new w3 (.cells #[.int .i64 ax, .int .i64 ay, .int .i64 0, .int .i64 0, .int .i64 0, .int .i64 0, .int .i64 0, .int .i64 0] 26 (0, 0))
  have hs4 := hs3.kept hal hbl3
  have hG4 := grown_tr hG3 (grown_of hal (some b))
  have hR4 := Lib.hid (hR3.out.below hal)
  have hz4 : (w3.alloc (.cells #[.int .i64 ax, .int .i64 ay, .int .i64 0, .int .i64 0, .int .i64 0, .int .i64 0, .int .i64 0, .int .i64 0] 26 (0, 0))).heap.size = w3.heap.size + 1 := by simp
  have hz3 := hG3.size
  have hlw : w.heap.size < w3.heap.size := hR3.out.lt
  clear hc2 hG2 hR2 hs3 hg3 hal hR3 hG3
  go_upto_region 3 with fail
  generalize (w3.alloc (.cells #[.int .i64 ax, .int .i64 ay, .int .i64 0, .int .i64 0, .int .i64 0, .int .i64 0, .int .i64 0, .int .i64 0] 26 (0, 0))) = w4 at *
  obtain ⟨C, hCe⟩ : ∃ C, C = w3.heap.size := ⟨_, rfl⟩
  rw [← hCe] at hC hlw hz4 ⊢
  have hbC : b < C := by omega
  clear hCe hz3
  have hC4 : Hid (CB w4 C ax ay 0 0 0 0 0 0) := hC
  clear hC
  have hc4 := Lib.hid (l03Draw_any b k3 m w4 hs4 (by omega) hm2.1 (by omega))
  go_wp2_with fail
  refine hc4.out.mono ?_
  rintro e v4 ⟨ex, ey, k4, rfl, hb, hs5', hk4', hg4'⟩
  have hR4' := Lib.hid (hR4.out.grown hg4' (by omega))
  have hC4' : Hid (CB v4 C ax ay 0 0 0 0 0 0) := Lib.hid (hC4.out.grown hg4' (by omega))
  have hG4' := grown_tr hG4 hg4'
  obtain ⟨_, cf, cl⟩ := hC4'.out.cells
  have hs5 : Src0 ((v4.setCell ⟨C, 2, none⟩ (.int .i64 ex)).setCell ⟨C, 3, none⟩ (.int .i64 ey)) b k4 := (hs5'.set (by omega)).set (by omega)
  have hC5 : Hid (CB ((v4.setCell ⟨C, 2, none⟩ (.int .i64 ex)).setCell ⟨C, 3, none⟩ (.int .i64 ey)) C ax ay ex ey 0 0 0 0) := Lib.hid (hC4'.out.put.1 ex ey)
  have hR5 : Hid (CB ((v4.setCell ⟨C, 2, none⟩ (.int .i64 ex)).setCell ⟨C, 3, none⟩ (.int .i64 ey)) w.heap.size 0 0 0 0 0 0 0 0) := Lib.hid ((hR4'.out.off (by omega)).off (by omega))
  have hG5 : w.grownBy ((v4.setCell ⟨C, 2, none⟩ (.int .i64 ex)).setCell ⟨C, 3, none⟩ (.int .i64 ey)) (some b) := grown_setO (grown_setO hG4' (by omega) _ _) (by omega) _ _
  clear hc4 hR4 hC4 hG4 hs5' hR4' hC4' hG4' hg4'
  go_upto_region 4 with fail
  clear cf cl
  generalize ((v4.setCell ⟨C, 2, none⟩ (.int .i64 ex)).setCell ⟨C, 3, none⟩ (.int .i64 ey)) = w5 at *
  have hc5 := Lib.hid (l03Draw_any b k4 m w5 hs5 (by omega) hm2.1 (by omega))
  clear hs5
  go_wp2_with fail
  refine hc5.out.mono ?_
  rintro e v5 ⟨cx, cy, k5, rfl, hc, hs6', hk5', hg5'⟩
  have hR5' := Lib.hid (hR5.out.grown hg5' (by omega))
  have hC5' : Hid (CB v5 C ax ay ex ey 0 0 0 0) := Lib.hid (hC5.out.grown hg5' (by omega))
  have hG5' := grown_tr hG5 hg5'
  obtain ⟨_, cf, cl⟩ := hC5'.out.cells
  have hs6 : Src0 ((v5.setCell ⟨C, 4, none⟩ (.int .i64 cx)).setCell ⟨C, 5, none⟩ (.int .i64 cy)) b k5 := (hs6'.set (by omega)).set (by omega)
  have hC6 : Hid (CB ((v5.setCell ⟨C, 4, none⟩ (.int .i64 cx)).setCell ⟨C, 5, none⟩ (.int .i64 cy)) C ax ay ex ey cx cy 0 0) := Lib.hid (hC5'.out.put.2.1 cx cy)
  have hR6 : Hid (CB ((v5.setCell ⟨C, 4, none⟩ (.int .i64 cx)).setCell ⟨C, 5, none⟩ (.int .i64 cy)) w.heap.size 0 0 0 0 0 0 0 0) := Lib.hid ((hR5'.out.off (by omega)).off (by omega))
  have hG6 : w.grownBy ((v5.setCell ⟨C, 4, none⟩ (.int .i64 cx)).setCell ⟨C, 5, none⟩ (.int .i64 cy)) (some b) := grown_setO (grown_setO hG5' (by omega) _ _) (by omega) _ _
  clear hc5 hR5 hC5 hG5 hs6' hR5' hC5' hG5' hg5'
  go_upto_region 5 with fail
  clear cf cl
  generalize ((v5.setCell ⟨C, 4, none⟩ (.int .i64 cx)).setCell ⟨C, 5, none⟩ (.int .i64 cy)) = w6 at *
  have hc6 := Lib.hid (l03Draw_any b k5 m w6 hs6 (by omega) hm2.1 (by omega))
  clear hs6
  go_wp2_with fail
  refine hc6.out.mono ?_
  rintro e v6 ⟨dx, dy, k6, rfl, hd, hs7', hk6', hg6'⟩
  have hR6' := Lib.hid (hR6.out.grown hg6' (by omega))
  have hC6' : Hid (CB v6 C ax ay ex ey cx cy 0 0) := Lib.hid (hC6.out.grown hg6' (by omega))
  have hG6' := grown_tr hG6 hg6'
  obtain ⟨_, cf, cl⟩ := hC6'.out.cells
  have hs7 : Src0 ((v6.setCell ⟨C, 6, none⟩ (.int .i64 dx)).setCell ⟨C, 7, none⟩ (.int .i64 dy)) b k6 := (hs7'.set (by omega)).set (by omega)
  have hC7 : Hid (CB ((v6.setCell ⟨C, 6, none⟩ (.int .i64 dx)).setCell ⟨C, 7, none⟩ (.int .i64 dy)) C ax ay ex ey cx cy dx dy) := Lib.hid (hC6'.out.put.2.2 dx dy)
  have hR7 : Hid (CB ((v6.setCell ⟨C, 6, none⟩ (.int .i64 dx)).setCell ⟨C, 7, none⟩ (.int .i64 dy)) w.heap.size 0 0 0 0 0 0 0 0) := Lib.hid ((hR6'.out.off (by omega)).off (by omega))
  have hG7 : w.grownBy ((v6.setCell ⟨C, 6, none⟩ (.int .i64 dx)).setCell ⟨C, 7, none⟩ (.int .i64 dy)) (some b) := grown_setO (grown_setO hG6' (by omega) _ _) (by omega) _ _
  clear hc6 hR6 hC6 hG6 hs7' hR6' hC6' hG6' hg6'
  go_upto_region 6 with fail
  clear cf cl
  generalize ((v6.setCell ⟨C, 6, none⟩ (.int .i64 dx)).setCell ⟨C, 7, none⟩ (.int .i64 dy)) = w7 at *
  obtain ⟨⟨c0, c1, c2, c3, c4, c5, c6, c7⟩, cf, cl⟩ := hC7.out.cells
  obtain ⟨⟨r0, r1, r2, r3, r4, r5, r6, r7⟩, rf, rl⟩ := hR7.out.cells
  have hk7 : k6 ≤ k + 60 := by omega
  have hok : Hid (Cb.ok ⟨ax, ay, ex, ey, cx, cy, dx, dy⟩) := Lib.hid ⟨ptOk_in ha hm2.2, ptOk_in hb hm2.2, ptOk_in hc hm2.2, ptOk_in hd hm2.2⟩
  replace hs7 := Lib.hid hs7
  replace hG7 := Lib.hid hG7
  clear ha hb hc hd
  go_wp2_with fail
  refine bodyPost_ret (v := .agg #[.int .i64 ax, .int .i64 ay, .int .i64 ex, .int .i64 ey, .int .i64 cx, .int .i64 cy, .int .i64 dx, .int .i64 dy]) (by simp [results, Try.results19, go_sem, r0, r1, r2, r3, r4, r5, r6, r7]) rfl ⟨⟨ax, ay, ex, ey, cx, cy, dx, dy⟩, k6, rfl, hok.out, ?_, hk7, ?_⟩
  · have h := hs7.out
    repeat (first | with_reducible exact h | with_reducible refine Src0.set ?_ hbl)
  · have h := hG7.out
    repeat (first | with_reducible exact h | with_reducible refine grown_setO ?_ (Nat.le_refl _) _ _)

set_option maxHeartbeats 4000000 in
theorem E8Cubic_any (A : Option Addr) (n c lo hi : Nat) (L : List Int) (w : World) (hr : RdS 1 u8R w lo hi A n L) (hhi : hi ≤ w.heap.size) (hn : n ≤ 1000000000) :
    Calls Try.prog 5 #[.slice A n c] w fun e w' => ∃ (q : Cb) (t : Int), e = .returned (.tuple #[cbV q, .int .i64 t]) ∧ q.ok ∧ 1 ≤ t ∧ t ≤ 9 ∧ Below w.heap.size w w' := by
  have hb0 := Go.Joins.below_alloc1 w (.cells #[.int .i64 0, .int .i64 0, .int .i64 0, .int .i64 0, .int .i64 0, .int .i64 0, .int .i64 0, .int .i64 0] 26 (0, 0))
  have hr0 := heap_alloc_new w (.cells #[.int .i64 0, .int .i64 0, .int .i64 0, .int .i64 0, .int .i64 0, .int .i64 0, .int .i64 0, .int .i64 0] 26 (0, 0))
  have hz0 : (w.alloc (.cells #[.int .i64 0, .int .i64 0, .int .i64 0, .int .i64 0, .int .i64 0, .int .i64 0, .int .i64 0, .int .i64 0] 26 (0, 0))).heap.size = w.heap.size + 1 := by simp
  have hrx := Lib.hid (hr.frame good_u8 (Below.sameB hb0 hhi))
  clear hr
  go_enter Try.func5, Try.ntmps5
  go_upto_region 1 with fail
  generalize (w.alloc (.cells #[.int .i64 0, .int .i64 0, .int .i64 0, .int .i64 0, .int .i64 0, .int .i64 0, .int .i64 0, .int .i64 0] 26 (0, 0))) = w0 at *
  have hR0 : Hid (CB w0 w.heap.size 0 0 0 0 0 0 0 0) := hr0
  have hl0 : w.heap.size < w0.heap.size := by omega
  clear hr0 hz0
  go_wp2_with fail
  refine (l00From_any _ _ _ _).mono ?_
  rintro e w1 ⟨rfl, hs1, hb1⟩
  obtain ⟨b, hb⟩ : ∃ b, b = w0.heap.size := ⟨_, rfl⟩
  have hS1 : Src0 w1 b 0 := hb ▸ ⟨A, n, c, lo, hi, 0, L, hs1, hrx.out.frame good_u8 (Below.sameB hb1 (by omega)), by omega, hn⟩
  have hB1 := hb0.trans (hb1.mono (by omega))
  have hR1 := Lib.hid (hR0.out.below hb1)
  have hz1 := hb1.size
  clear hs1 hb0 hb1 hR0
  rw [← hb]
  have hbw : w.heap.size < b := by omega
  have hbl1 := hS1.lt
  clear hb hz1 hl0
  have hc1 := Lib.hid (l09Draw_any b 0 w1 hS1 (by omega))
  clear hS1
  go_wp2_with fail
  refine hc1.out.mono ?_
  rintro e w2 ⟨⟨ax, ay, ex, ey, cx, cy, dx, dy⟩, k2, rfl, hq, hs2, hk2, hg2⟩
  replace hq := Lib.hid hq
  have hz2 := hg2.size
  have hR2 := Lib.hid (hR1.out.grown hg2 (by omega))
  have hG2 : Below w.heap.size w w2 := below_grow hB1 hg2 (by omega) (by omega)
  have hal := Go.Joins.below_alloc1 w2 (.cells #[.int .i64 ax, .int .i64 ay, .int .i64 ex, .int .i64 ey, .int .i64 cx, .int .i64 cy, .int .i64 dx, .int .i64 dy] 26 (0, 0))
  have hC := heap_alloc_new w2 (.cells #[.int .i64 ax, .int .i64 ay, .int .i64 ex, .int .i64 ey, .int .i64 cx, .int .i64 cy, .int .i64 dx, .int .i64 dy] 26 (0, 0))
  have hz3 : (w2.alloc (.cells #[.int .i64 ax, .int .i64 ay, .int .i64 ex, .int .i64 ey, .int .i64 cx, .int .i64 cy, .int .i64 dx, .int .i64 dy] 26 (0, 0))).heap.size = w2.heap.size + 1 := by simp
  have hR3 := Lib.hid (hR2.out.below hal)
  have hs3 := hs2.kept hal hs2.lt
  have hbl2 := hs2.lt
  have hB3 := Lib.hid (hG2.trans (hal.mono (by omega)))
  clear hc1 hB1 hR1 hg2 hR2 hs2 hG2 hal
  simp only [cbV]
  go_upto_region 3 with fail
  generalize (w2.alloc (.cells #[.int .i64 ax, .int .i64 ay, .int .i64 ex, .int .i64 ey, .int .i64 cx, .int .i64 cy, .int .i64 dx, .int .i64 dy] 26 (0, 0))) = w3 at *
  obtain ⟨C, hCe⟩ : ∃ C, C = w2.heap.size := ⟨_, rfl⟩
  rw [← hCe] at hC hz3 ⊢
  have hbC : b < C := by omega
  clear hCe hz2
  have hC3 : CB w3 C ax ay ex ey cx cy dx dy := hC
  clear hC
  have hzl : C < w3.heap.size := by omega
  obtain ⟨_, rf, rl⟩ := hR3.out.cells
  have hS : Hid (∀ W : World, W.heap[C]? = w3.heap[C]? → ((W.cell? ⟨C, 0, none⟩ = some (.int .i64 ax) ∧ W.cell? ⟨C, 1, none⟩ = some (.int .i64 ay) ∧ W.cell? ⟨C, 2, none⟩ = some (.int .i64 ex) ∧ W.cell? ⟨C, 3, none⟩ = some (.int .i64 ey)) ∧ W.cell? ⟨C, 4, none⟩ = some (.int .i64 cx) ∧ W.cell? ⟨C, 5, none⟩ = some (.int .i64 cy) ∧ W.cell? ⟨C, 6, none⟩ = some (.int .i64 dx) ∧ W.cell? ⟨C, 7, none⟩ = some (.int .i64 dy))) := by
    refine Lib.hid (fun W hW => ?_)
    obtain ⟨⟨c0, c1, c2, c3, c4, c5, c6, c7⟩, _, _⟩ := CB.cells (w := W) (hW.trans hC3)
    exact ⟨⟨c0, c1, c2, c3⟩, c4, c5, c6, c7⟩
  have hpk := Lib.hid (pick_any b k2 9 w3.drew hs3.drew (by omega))
  have hRd := Lib.hid (show CB w3.drew w.heap.size 0 0 0 0 0 0 0 0 from hR3.out)
  have hCd := Lib.hid (show CB w3.drew C ax ay ex ey cx cy dx dy from hC3)
  have hBd := Lib.hid hB3.out.drew
  have hwb : w.heap.size ≤ b := by omega
  have hwd : w.heap.size ≤ w3.drew.heap.size := Nat.le_of_lt rl
  have hzd : C < w3.drew.heap.size := hzl
  have hnCb : some C ≠ some b := by intro e; injection e with e; omega
  have hnRb : w.heap.size ≠ b := by omega
  clear hC3 hs3
  go_region_held3 (fun w' => ((w'.cell? ⟨C, 0, none⟩ = some (.int .i64 ax) ∧ w'.cell? ⟨C, 1, none⟩ = some (.int .i64 ay) ∧ w'.cell? ⟨C, 2, none⟩ = some (.int .i64 ex) ∧ w'.cell? ⟨C, 3, none⟩ = some (.int .i64 ey)) ∧ w'.cell? ⟨C, 4, none⟩ = some (.int .i64 cx) ∧ w'.cell? ⟨C, 5, none⟩ = some (.int .i64 cy) ∧ w'.cell? ⟨C, 6, none⟩ = some (.int .i64 dx) ∧ w'.cell? ⟨C, 7, none⟩ = some (.int .i64 dy))) (first | (refine hS.out _ ?_; repeat (first | with_reducible exact rfl | with_reducible exact hT2 | with_reducible refine (drew_blk9 _ _).trans ?_ | with_reducible refine (Below.heap_setCell _ _ _ _ ?_).trans ?_ | (simp only; omega)))) (first | (go_at_call 20; (with_reducible refine hpk.out.mono ?_); rintro e w4 ⟨r, k4, rfl, hr0, hr1, hr2, hs4, hk4, hg4⟩; have hT2 := (hg4.block C hzd hnCb).trans (drew_blk9 w3 C); have hr9 := hr1 (by omega); clear hr1 hr2; have q1 : IntKind.i64.wrap (1 + r) = 1 + r := wi (by omega); have hR4 := Lib.hid (hRd.out.grown hg4 hnRb); have hB4 : Hid (Below w.heap.size w w4) := Lib.hid (below_grow hBd.out hg4 hwb hwd); have hZ := hR4.out.cells; obtain ⟨⟨z0, z1, z2, z3, z4, z5, z6, z7⟩, rf4, rl4⟩ := hZ))
  obtain ⟨s1, s2, s3, s4⟩ := set8 hR4.out (.int .i64 ax) (.int .i64 ay) (.int .i64 ex) (.int .i64 ey) (.int .i64 cx) (.int .i64 cy) (.int .i64 dx) (.int .i64 dy)
  obtain ⟨W9, hW9⟩ : ∃ W, W = W8 w4 w.heap.size (.int .i64 ax) (.int .i64 ay) (.int .i64 ex) (.int .i64 ey) (.int .i64 cx) (.int .i64 cy) (.int .i64 dx) (.int .i64 dy) := ⟨_, rfl⟩
  rw [← hW9] at s1 s2
  unfold W8 at hW9
  rw [← hW9]
  clear hW9
  have f1 : CB W9 w.heap.size ax ay ex ey cx cy dx dy := s1
  have f3 : Hid (Below w.heap.size w W9) := Lib.hid (hB4.out.trans s2)
  obtain ⟨⟨r0, r1, r2, r3, r4, r5, r6, r7⟩, _, _⟩ := f1.cells
  clear s1 s2 s3 s4 z0 z1 z2 z3 z4 z5 z6 z7
  go_wp2_with fail
  refine bodyPost_ret (v := .tuple #[.agg #[.int .i64 ax, .int .i64 ay, .int .i64 ex, .int .i64 ey, .int .i64 cx, .int .i64 cy, .int .i64 dx, .int .i64 dy], .int .i64 (1 + r)]) (by simp [results, Try.results5, go_sem, r0, r1, r2, r3, r4, r5, r6, r7]) rfl ⟨⟨ax, ay, ex, ey, cx, cy, dx, dy⟩, 1 + r, rfl, hq.out, by omega, by omega, f3.out⟩
end Go.Proofs.Ytpmpbfkpiocleaa

