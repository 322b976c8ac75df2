/- The drawn points, and what an input chooses. Conditions: as each states. -/
import Derived.Deep.RegionHeld3
import Derived.Deep.DeepCutAuto
import Derived.Test.YtpmpbfkpiocleaaQv34
namespace Go.Proofs.Ytpmpbfkpiocleaa
open Go.RowKit
set_option linter.unusedVariables false
set_option maxRecDepth 100000

theorem e8At_any (A : Option Addr) (n c lo hi : Nat) (L : List Int) (k : Nat) (m : Int) (w : World) (hr : RdS 1 u8R w lo hi A n L) (hn : n ≤ 1000000000) (hk : k ≤ 1000) (hm0 : 1 < m) (hm1 : m ≤ 1000000) :
    Calls Try.prog 6 #[.slice A n c, .int .i64 (k : Int), .int .i64 m] w fun e w' => ∃ r : Int, e = .returned (.int .i64 r) ∧ 0 ≤ r ∧ r < m ∧ w = w' := by
  by_cases hlt : k < n
  · obtain ⟨b1, o1, v, rfl, _, hbw, hv0, hv1, q0⟩ := u8_at hr hlt
    clear hr
    have hki : (0 : Int) ≤ (k : Int) ∧ (k : Int) < (n : Int) := by omega
    have hv := Int.emod_nonneg v (show m ≠ 0 by omega)
    have hv' := Int.emod_lt_of_pos v (show 0 < m by omega)
    go_enter Try.func6, Try.ntmps6
    go_wp2_with fail
    go_ret
    exact ⟨_, rfl, hv, hv', rfl⟩
  · clear hr
    go_enter Try.func6, Try.ntmps6
    go_wp2_with fail
    go_ret
    exact ⟨0, rfl, by omega, by omega, rfl⟩
theorem Src0.set {w : World} {b k x o : Nat} {v : Value} (h : Src0 w b k) (hx : b < x) : Src0 (w.setCell ⟨x, o, none⟩ v) b k := h.kept (B := b + 1) (Below.setCell (p := ⟨x, o, none⟩) (Below.refl (b + 1) w) hx v) (by omega)
theorem grown_setO {w W : World} {row : Option Nat} (h : w.grownBy W row) {x : Nat} (hx : w.heap.size ≤ x) (o : Nat) (u : Value) : w.grownBy (W.setCell ⟨x, o, none⟩ u) row :=
  ⟨h.os, h.tape, h.output, by simpa using h.size, fun i hi hn => (Below.heap_setCell W ⟨x, o, none⟩ u i (by simp only; omega)).trans (h.block i hi hn)⟩
def InSq (m : Int) (p : Int × Int) : Prop := (-m ≤ p.1 ∧ p.1 ≤ m) ∧ (-m ≤ p.2 ∧ p.2 ≤ m)
set_option maxHeartbeats 1000000 in
theorem l03Draw_any (b k : Nat) (m : Int) (w : World) (hs : Src0 w b k) (hk : k ≤ 999999800) (hm0 : 0 ≤ m) (hm1 : m ≤ 1000000000) :
    Calls Try.prog 42 #[.pointer (some ⟨b, 0, none⟩), .int .i64 m] w fun e w' => ∃ (x y : Int) (k' : Nat), e = .returned (.agg #[.int .i64 x, .int .i64 y]) ∧ InSq m (x, y) ∧ Src0 w' b k' ∧ k' ≤ k + 10 ∧ w.grownBy w' (some b) := by
  have hbl := hs.lt
  have hc := Lib.hid (l03Coord_any b k m (w.alloc (.cells #[.int .i64 0, .int .i64 0] 24 (0, 0))) (hs.kept (Go.Joins.below_alloc1 _ _) hbl) (by omega) hm0 hm1)
  clear hs
  go_enter Try.func42, Try.ntmps42
  go_wp2_with fail
  refine hc.out.mono ?_
  rintro e w1 ⟨x, k1, rfl, hx0, hx1, hs1, hk1, hg1⟩
  have hz1 := hg1.size
  simp at hz1
  have hn1 : Hid (w1.heap[w.heap.size]? = some (.cells #[.int .i64 0, .int .i64 0] 24 (0, 0))) := (hg1.block _ (by simp) (by intro e; injection e with e; omega)).trans (heap_alloc_new w _)
  have hc1 := Lib.hid (l03Coord_any b k1 m w1 hs1 (by omega) hm0 hm1)
  have hG1 := grown_tr (grown_of (Go.Joins.below_alloc1 _ _) (some b)) hg1
  clear hs1 hc hg1
  go_wp2_with fail
  refine hc1.out.mono ?_
  rintro e w2 ⟨y, k2, rfl, hy0, hy1, hs2, hk2, hg2⟩
  have hz2 := hg2.size
  have hn2 : Hid (w2.heap[w.heap.size]? = some (.cells #[.int .i64 0, .int .i64 0] 24 (0, 0))) := (hg2.block _ (by omega) (by intro e; injection e with e; omega)).trans hn1.out
  have hG2 := Lib.hid (grown_tr hG1 hg2)
  have r0 : w2.cell? ⟨w.heap.size, 0, none⟩ = some (.int .i64 0) := by rw [Go.Joins.cell_of_block hn2.out]; rfl
  have r1 : w2.cell? ⟨w.heap.size, 1, none⟩ = some (.int .i64 0) := by rw [Go.Joins.cell_of_block hn2.out]; rfl
  have rf : ∀ o, w2.frozen? ⟨w.heap.size, o, none⟩ = false := Go.Joins.unfrozen_of_block hn2.out
  have hz : w.heap.size < w2.heap.size := by omega
  replace hs2 := Lib.hid hs2
  clear hc1 hn1 hG1 hg2
  go_wp2_with fail
  refine bodyPost_ret (v := .agg #[.int .i64 x, .int .i64 y]) (by simp [results, Try.results42, go_sem, r0, r1]) rfl ⟨x, y, k2, rfl, ⟨⟨by omega, by omega⟩, by omega, by omega⟩, ?_, by omega, ?_⟩
  · exact (hs2.out.set hbl).set hbl
  · exact grown_setO (grown_setO hG2.out (Nat.le_refl _) _ _) (Nat.le_refl _) _ _
theorem l00From_any (A : Option Addr) (n c : Nat) (w : World) :
    Calls Try.prog 18 #[.slice A n c] w fun e w' => e = .returned (.pointer (some ⟨w.heap.size, 0, none⟩)) ∧ SrcR w' w.heap.size A n c 0 0 ∧ Below w.heap.size w w' := by
  go_enter Try.func18, Try.ntmps18
  go_wp2_with fail
  go_ret
  exact ⟨rfl, heap_alloc_new w _, Go.Joins.below_alloc1 _ _⟩
theorem InSq.mono {m k : Int} {p : Int × Int} (h : InSq m p) (hk : m ≤ k) : InSq k p := ⟨⟨by have := h.1.1; omega, by have := h.1.2; omega⟩, by have := h.2.1; omega, by have := h.2.2; omega⟩
theorem cell_setO {w : World} {b o x o' : Nat} {v : Value} (h : b ≠ x) : (w.setCell ⟨x, o', none⟩ v).cell? ⟨b, o, none⟩ = w.cell? ⟨b, o, none⟩ := World.cell?_of_block (Below.heap_setCell w ⟨x, o', none⟩ v b h)
abbrev Six (w : World) (b c d : Nat) (x0 x1 y0 y1 z0 z1 : Int) : Prop := w.cell? ⟨b, 0, none⟩ = some (.int .i64 x0) ∧ w.cell? ⟨b, 1, none⟩ = some (.int .i64 x1) ∧ w.cell? ⟨c, 0, none⟩ = some (.int .i64 y0) ∧ w.cell? ⟨c, 1, none⟩ = some (.int .i64 y1) ∧ w.cell? ⟨d, 0, none⟩ = some (.int .i64 z0) ∧ w.cell? ⟨d, 1, none⟩ = some (.int .i64 z1)
theorem Six.set {w : World} {b c d : Nat} {x0 x1 y0 y1 z0 z1 : Int} {x o : Nat} {v : Value} (h : Six w b c d x0 x1 y0 y1 z0 z1) (hb : x < b) (hc : x < c) (hd : x < d) : Six (w.setCell ⟨x, o, none⟩ v) b c d x0 x1 y0 y1 z0 z1 :=
  ⟨(cell_setO (by omega)).trans h.1, (cell_setO (by omega)).trans h.2.1, (cell_setO (by omega)).trans h.2.2.1, (cell_setO (by omega)).trans h.2.2.2.1, (cell_setO (by omega)).trans h.2.2.2.2.1, (cell_setO (by omega)).trans h.2.2.2.2.2⟩
def PtAt (w : World) (b : Nat) (x y : Int) : Prop := w.heap[b]? = some (.cells #[.int .i64 x, .int .i64 y] 24 (0, 0))
theorem PtAt.grown {w w' : World} {b g : Nat} {x y : Int} (h : PtAt w b x y) (hg : w.grownBy w' (some g)) (hn : b ≠ g) : PtAt w' b x y := by
  have hl : b < w.heap.size := (Array.getElem?_eq_some_iff.1 h).1
  exact (hg.block b hl (by intro e; injection e with e; exact hn e)).trans h
theorem PtAt.below {w w' : World} {b : Nat} {x y : Int} (h : PtAt w b x y) (hb : Below w.heap.size w w') : PtAt w' b x y := by
  have hl : b < w.heap.size := (Array.getElem?_eq_some_iff.1 h).1
  exact (hb.block b hl).trans h
theorem PtAt.cells {w : World} {b : Nat} {x y : Int} (h : PtAt w b x y) : w.cell? ⟨b, 0, none⟩ = some (.int .i64 x) ∧ w.cell? ⟨b, 1, none⟩ = some (.int .i64 y) ∧ (∀ o, w.frozen? ⟨b, o, none⟩ = false) ∧ b < w.heap.size :=
  ⟨by rw [Go.Joins.cell_of_block h]; rfl, by rw [Go.Joins.cell_of_block h]; rfl, Go.Joins.unfrozen_of_block h, (Array.getElem?_eq_some_iff.1 h).1⟩
theorem PtAt.put {w : World} {b : Nat} {x y : Int} (h : PtAt w b x y) (x' y' : Int) : PtAt ((w.setCell ⟨b, 0, none⟩ (.int .i64 x')).setCell ⟨b, 1, none⟩ (.int .i64 y')) b x' y' :=
  Go.Joins.block_setCell (Go.Joins.block_setCell h (.int .i64 x')) (.int .i64 y')
theorem PtAt.off {w : World} {b : Nat} {x y : Int} (h : PtAt w b x y) {c o : Nat} {v : Value} (hc : b ≠ c) : PtAt (w.setCell ⟨c, o, none⟩ v) b x y := (Below.heap_setCell w ⟨c, o, none⟩ v b hc).trans h
end Go.Proofs.Ytpmpbfkpiocleaa

