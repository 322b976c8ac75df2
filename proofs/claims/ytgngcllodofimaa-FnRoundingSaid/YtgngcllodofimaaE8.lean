/- The drawn points, and what an input chooses. Conditions: as each states. -/
import Derived.Deep.RegionHeld3
import Derived.Deep.DeepCutAuto
import Derived.Test.YtgngcllodofimaaSrc
namespace Go.Proofs.Ytgngcllodofimaa
open Go.RowKit
set_option linter.unusedVariables false
set_option maxRecDepth 100000

theorem e8At_any (A : Option Addr) (n c lo hi : Nat) (L : List Int) (k : Nat) (m : Int) (w : World) (hr : RdS 1 u8R w lo hi A n L) (hn : n ≤ 1000000000) (hk : k ≤ 1000) (hm0 : 1 < m) (hm1 : m ≤ 1000000) :
    Calls Try.prog 12 #[.slice A n c, .int .i64 (k : Int), .int .i64 m] w fun e w' => ∃ r : Int, e = .returned (.int .i64 r) ∧ 0 ≤ r ∧ r < m ∧ w = w' := by
  by_cases hlt : k < n
  · obtain ⟨b1, o1, v, rfl, _, hbw, hv0, hv1, q0⟩ := u8_at hr hlt
    clear hr
    have hki : (0 : Int) ≤ (k : Int) ∧ (k : Int) < (n : Int) := by omega
    have hv := Int.emod_nonneg v (show m ≠ 0 by omega)
    have hv' := Int.emod_lt_of_pos v (show 0 < m by omega)
    go_enter Try.func12, Try.ntmps12
    go_wp2_with fail
    go_ret
    exact ⟨_, rfl, hv, hv', rfl⟩
  · clear hr
    go_enter Try.func12, Try.ntmps12
    go_wp2_with fail
    go_ret
    exact ⟨0, rfl, by omega, by omega, rfl⟩
theorem e8Long_any (A0 A1 : Option Addr) (n0 c0 n1 c1 : Nat) (b : Bool) (hb : b = (decide ((1048576 : Int) < (n0 : Int)) || decide ((1048576 : Int) < (n1 : Int)))) (w : World) (h0 : n0 ≤ 9223372036854775807) (h1 : n1 ≤ 9223372036854775807) :
    Calls Try.prog 10 #[.slice A0 n0 c0, .slice A1 n1 c1] w fun e w' => e = .returned (.bool b) ∧ w = w' := by
  replace hb := Lib.hid hb
  by_cases h2 : (1048576 : Int) < (n0 : Int)
  all_goals
    by_cases h3 : (1048576 : Int) < (n1 : Int)
    all_goals
      go_enter Try.func10, Try.ntmps10
      go_wp2_with fail
      go_ret
      exact ⟨ret_bool (by rw [hb.out]; simp [h2, h3]), rfl⟩

theorem Src0.set {w : World} {b k x o : Nat} {v : Value} (h : Src0 w b k) (hx : b < x) : Src0 (w.setCell ⟨x, o, none⟩ v) b k := h.kept (B := b + 1) (Below.setCell (p := ⟨x, o, none⟩) (Below.refl (b + 1) w) hx v) (by omega)
theorem grown_setO {w W : World} {row : Option Nat} (h : w.grownBy W row) {x : Nat} (hx : w.heap.size ≤ x) (o : Nat) (u : Value) : w.grownBy (W.setCell ⟨x, o, none⟩ u) row :=
  ⟨h.os, h.tape, h.output, by simpa using h.size, fun i hi hn => (Below.heap_setCell W ⟨x, o, none⟩ u i (by simp only; omega)).trans (h.block i hi hn)⟩
def InSq (m : Int) (p : Int × Int) : Prop := (-m ≤ p.1 ∧ p.1 ≤ m) ∧ (-m ≤ p.2 ∧ p.2 ≤ m)
set_option maxHeartbeats 1000000 in
theorem l03Draw_any (b k : Nat) (m : Int) (w : World) (hs : Src0 w b k) (hk : k ≤ 999999800) (hm0 : 0 ≤ m) (hm1 : m ≤ 1000000000) :
    Calls Try.prog 62 #[.pointer (some ⟨b, 0, none⟩), .int .i64 m] w fun e w' => ∃ (x y : Int) (k' : Nat), e = .returned (.agg #[.int .i64 x, .int .i64 y]) ∧ InSq m (x, y) ∧ Src0 w' b k' ∧ k' ≤ k + 10 ∧ w.grownBy w' (some b) := by
  have hbl := hs.lt
  have hc := Lib.hid (l03Coord_any b k m (w.alloc (.cells #[.int .i64 0, .int .i64 0] 25 (0, 0))) (hs.kept (Go.Joins.below_alloc1 _ _) hbl) (by omega) hm0 hm1)
  clear hs
  go_enter Try.func62, Try.ntmps62
  go_wp2_with fail
  refine hc.out.mono ?_
  rintro e w1 ⟨x, k1, rfl, hx0, hx1, hs1, hk1, hg1⟩
  have hz1 := hg1.size
  simp at hz1
  have hn1 : Hid (w1.heap[w.heap.size]? = some (.cells #[.int .i64 0, .int .i64 0] 25 (0, 0))) := (hg1.block _ (by simp) (by intro e; injection e with e; omega)).trans (heap_alloc_new w _)
  have hc1 := Lib.hid (l03Coord_any b k1 m w1 hs1 (by omega) hm0 hm1)
  have hG1 := grown_tr (grown_of (Go.Joins.below_alloc1 _ _) (some b)) hg1
  clear hs1 hc hg1
  go_wp2_with fail
  refine hc1.out.mono ?_
  rintro e w2 ⟨y, k2, rfl, hy0, hy1, hs2, hk2, hg2⟩
  have hz2 := hg2.size
  have hn2 : Hid (w2.heap[w.heap.size]? = some (.cells #[.int .i64 0, .int .i64 0] 25 (0, 0))) := (hg2.block _ (by omega) (by intro e; injection e with e; omega)).trans hn1.out
  have hG2 := Lib.hid (grown_tr hG1 hg2)
  have r0 : w2.cell? ⟨w.heap.size, 0, none⟩ = some (.int .i64 0) := by rw [Go.Joins.cell_of_block hn2.out]; rfl
  have r1 : w2.cell? ⟨w.heap.size, 1, none⟩ = some (.int .i64 0) := by rw [Go.Joins.cell_of_block hn2.out]; rfl
  have rf : ∀ o, w2.frozen? ⟨w.heap.size, o, none⟩ = false := Go.Joins.unfrozen_of_block hn2.out
  have hz : w.heap.size < w2.heap.size := by omega
  replace hs2 := Lib.hid hs2
  clear hc1 hn1 hG1 hg2
  go_wp2_with fail
  refine bodyPost_ret (v := .agg #[.int .i64 x, .int .i64 y]) (by simp [results, Try.results62, go_sem, r0, r1]) rfl ⟨x, y, k2, rfl, ⟨⟨by omega, by omega⟩, by omega, by omega⟩, ?_, by omega, ?_⟩
  · exact (hs2.out.set hbl).set hbl
  · exact grown_setO (grown_setO hG2.out (Nat.le_refl _) _ _) (Nat.le_refl _) _ _
theorem l00From_any (A : Option Addr) (n c : Nat) (w : World) :
    Calls Try.prog 60 #[.slice A n c] w fun e w' => e = .returned (.pointer (some ⟨w.heap.size, 0, none⟩)) ∧ SrcR w' w.heap.size A n c 0 0 ∧ Below w.heap.size w w' := by
  go_enter Try.func60, Try.ntmps60
  go_wp2_with fail
  go_ret
  exact ⟨rfl, heap_alloc_new w _, Go.Joins.below_alloc1 _ _⟩
theorem InSq.mono {m k : Int} {p : Int × Int} (h : InSq m p) (hk : m ≤ k) : InSq k p := ⟨⟨by have := h.1.1; omega, by have := h.1.2; omega⟩, by have := h.2.1; omega, by have := h.2.2; omega⟩
theorem five_in {r : Int} (h : r ∈ [(3 : Int), 6, 30, 1000, 262144]) : 0 ≤ r ∧ r ≤ 262144 := by
  simp at h; omega
theorem heap_new4 (w : World) (a b c d : Obj) : ((((w.alloc a).alloc b).alloc c).alloc d).heap[w.heap.size]? = some a ∧ ((((w.alloc a).alloc b).alloc c).alloc d).heap[w.heap.size + 1]? = some b ∧ ((((w.alloc a).alloc b).alloc c).alloc d).heap[w.heap.size + 2]? = some c ∧ ((((w.alloc a).alloc b).alloc c).alloc d).heap[w.heap.size + 3]? = some d := by
  obtain ⟨h1, h2⟩ := heap_new2 w a b
  obtain ⟨h3, h4⟩ := heap_new2 ((w.alloc a).alloc b) c d
  have e := (Below.refl _ ((w.alloc a).alloc b)).alloc (Nat.le_refl _) c
  have e2 := e.alloc (by simp) d
  have h3' : ((((w.alloc a).alloc b).alloc c).alloc d).heap[w.heap.size + 2]? = some c := by simpa using h3
  have h4' : ((((w.alloc a).alloc b).alloc c).alloc d).heap[w.heap.size + 3]? = some d := by simpa using h4
  exact ⟨(e2.block _ (by simp <;> omega)).trans h1, (e2.block _ (by simp <;> omega)).trans h2, h3', h4'⟩
theorem five_row (w : World) : RdS 1 (FlatR intC) (w.alloc (.cells #[.int .i64 3, .int .i64 6, .int .i64 30, .int .i64 1000, .int .i64 262144] 2 (0, 0))) w.heap.size (w.alloc (.cells #[.int .i64 3, .int .i64 6, .int .i64 30, .int .i64 1000, .int .i64 262144] 2 (0, 0))).heap.size (some ⟨w.heap.size, 0, none⟩) 5 [3, 6, 30, 1000, 262144] := by
  have h : (w.alloc (.cells #[.int .i64 3, .int .i64 6, .int .i64 30, .int .i64 1000, .int .i64 262144] 2 (0, 0))).ownsRow w.heap.size 2 1 (.slice (some ⟨w.heap.size, 0, none⟩) 5 5) 5 [.int .i64 3, .int .i64 6, .int .i64 30, .int .i64 1000, .int .i64 262144] := World.ownsRow_lit w #[.int .i64 3, .int .i64 6, .int .i64 30, .int .i64 1000, .int .i64 262144] 5 (Nat.le_refl _) (by decide) (by simp)
  exact rdS_own intC_len (by omega) h rfl
theorem cell_setO {w : World} {b o x o' : Nat} {v : Value} (h : b ≠ x) : (w.setCell ⟨x, o', none⟩ v).cell? ⟨b, o, none⟩ = w.cell? ⟨b, o, none⟩ := World.cell?_of_block (Below.heap_setCell w ⟨x, o', none⟩ v b h)
abbrev Six (w : World) (b c d : Nat) (x0 x1 y0 y1 z0 z1 : Int) : Prop := w.cell? ⟨b, 0, none⟩ = some (.int .i64 x0) ∧ w.cell? ⟨b, 1, none⟩ = some (.int .i64 x1) ∧ w.cell? ⟨c, 0, none⟩ = some (.int .i64 y0) ∧ w.cell? ⟨c, 1, none⟩ = some (.int .i64 y1) ∧ w.cell? ⟨d, 0, none⟩ = some (.int .i64 z0) ∧ w.cell? ⟨d, 1, none⟩ = some (.int .i64 z1)
theorem Six.set {w : World} {b c d : Nat} {x0 x1 y0 y1 z0 z1 : Int} {x o : Nat} {v : Value} (h : Six w b c d x0 x1 y0 y1 z0 z1) (hb : x < b) (hc : x < c) (hd : x < d) : Six (w.setCell ⟨x, o, none⟩ v) b c d x0 x1 y0 y1 z0 z1 :=
  ⟨(cell_setO (by omega)).trans h.1, (cell_setO (by omega)).trans h.2.1, (cell_setO (by omega)).trans h.2.2.1, (cell_setO (by omega)).trans h.2.2.2.1, (cell_setO (by omega)).trans h.2.2.2.2.1, (cell_setO (by omega)).trans h.2.2.2.2.2⟩
/-- a box with a point, stored into -/
theorem box_put (w : World) (t : Nat) (x y : Int) : Below w.heap.size w (((w.alloc (.cells #[.int .i64 0, .int .i64 0] t (0, 0))).setCell ⟨w.heap.size, 0, none⟩ (.int .i64 x)).setCell ⟨w.heap.size, 1, none⟩ (.int .i64 y)) ∧ (((w.alloc (.cells #[.int .i64 0, .int .i64 0] t (0, 0))).setCell ⟨w.heap.size, 0, none⟩ (.int .i64 x)).setCell ⟨w.heap.size, 1, none⟩ (.int .i64 y)).heap[w.heap.size]? = some (.cells #[.int .i64 x, .int .i64 y] t (0, 0)) :=
  ⟨((Go.Joins.below_alloc1 _ _).setCell (p := ⟨w.heap.size, 0, none⟩) (Nat.le_refl _) _).setCell (p := ⟨w.heap.size, 1, none⟩) (Nat.le_refl _) _, Go.Joins.block_setCell (Go.Joins.block_setCell (heap_alloc_new w _) (.int .i64 x)) (.int .i64 y)⟩
def PtAt (w : World) (b : Nat) (x y : Int) : Prop := w.heap[b]? = some (.cells #[.int .i64 x, .int .i64 y] 25 (0, 0))
theorem PtAt.grown {w w' : World} {b g : Nat} {x y : Int} (h : PtAt w b x y) (hg : w.grownBy w' (some g)) (hn : b ≠ g) : PtAt w' b x y := by
  have hl : b < w.heap.size := (Array.getElem?_eq_some_iff.1 h).1
  exact (hg.block b hl (by intro e; injection e with e; exact hn e)).trans h
theorem PtAt.below {w w' : World} {b : Nat} {x y : Int} (h : PtAt w b x y) (hb : Below w.heap.size w w') : PtAt w' b x y := by
  have hl : b < w.heap.size := (Array.getElem?_eq_some_iff.1 h).1
  exact (hb.block b hl).trans h
theorem PtAt.cells {w : World} {b : Nat} {x y : Int} (h : PtAt w b x y) : w.cell? ⟨b, 0, none⟩ = some (.int .i64 x) ∧ w.cell? ⟨b, 1, none⟩ = some (.int .i64 y) ∧ (∀ o, w.frozen? ⟨b, o, none⟩ = false) ∧ b < w.heap.size :=
  ⟨by rw [Go.Joins.cell_of_block h]; rfl, by rw [Go.Joins.cell_of_block h]; rfl, Go.Joins.unfrozen_of_block h, (Array.getElem?_eq_some_iff.1 h).1⟩
theorem PtAt.put {w : World} {b : Nat} {x y : Int} (h : PtAt w b x y) (x' y' : Int) : PtAt ((w.setCell ⟨b, 0, none⟩ (.int .i64 x')).setCell ⟨b, 1, none⟩ (.int .i64 y')) b x' y' :=
  Go.Joins.block_setCell (Go.Joins.block_setCell h (.int .i64 x')) (.int .i64 y')
theorem PtAt.off {w : World} {b : Nat} {x y : Int} (h : PtAt w b x y) {c o : Nat} {v : Value} (hc : b ≠ c) : PtAt (w.setCell ⟨c, o, none⟩ v) b x y := (Below.heap_setCell w ⟨c, o, none⟩ v b hc).trans h
set_option maxHeartbeats 16000000 in
theorem E8Points_any (A : Option Addr) (n c lo hi : Nat) (L : List Int) (w : World) (hr : RdS 1 u8R w lo hi A n L) (hhi : hi ≤ w.heap.size) (hn : n ≤ 1000000000) :
    Calls Try.prog 11 #[.slice A n c] w fun e w' => ∃ a0 a1 b0 b1 p0 p1 q0 q1 : Int, e = .returned (.tuple #[.agg #[.int .i64 a0, .int .i64 a1], .agg #[.int .i64 b0, .int .i64 b1], .agg #[.int .i64 p0, .int .i64 p1], .agg #[.int .i64 q0, .int .i64 q1]]) ∧ InSq 262144 (a0, a1) ∧ InSq 262144 (b0, b1) ∧ Below w.heap.size w w' := by
  replace hr := Lib.hid hr
  go_enter Try.func11, Try.ntmps11
  go_wp2_with fail
  obtain ⟨N0, N1, N2, N3⟩ := heap_new4 w (.cells #[.int .i64 0, .int .i64 0] 25 (0, 0)) (.cells #[.int .i64 0, .int .i64 0] 25 (0, 0)) (.cells #[.int .i64 0, .int .i64 0] 25 (0, 0)) (.cells #[.int .i64 0, .int .i64 0] 25 (0, 0))
  have g0 : Below w.heap.size w ((((w.alloc (.cells #[.int .i64 0, .int .i64 0] 25 (0, 0))).alloc (.cells #[.int .i64 0, .int .i64 0] 25 (0, 0))).alloc (.cells #[.int .i64 0, .int .i64 0] 25 (0, 0))).alloc (.cells #[.int .i64 0, .int .i64 0] 25 (0, 0))) := by
    repeat (first | exact Below.refl _ _ | refine Below.alloc ?_ (by first | omega | (simp <;> omega)) _)
  have z0 : ((((w.alloc (.cells #[.int .i64 0, .int .i64 0] 25 (0, 0))).alloc (.cells #[.int .i64 0, .int .i64 0] 25 (0, 0))).alloc (.cells #[.int .i64 0, .int .i64 0] 25 (0, 0))).alloc (.cells #[.int .i64 0, .int .i64 0] 25 (0, 0))).heap.size = w.heap.size + 4 := by simp
  generalize ((((w.alloc (.cells #[.int .i64 0, .int .i64 0] 25 (0, 0))).alloc (.cells #[.int .i64 0, .int .i64 0] 25 (0, 0))).alloc (.cells #[.int .i64 0, .int .i64 0] 25 (0, 0))).alloc (.cells #[.int .i64 0, .int .i64 0] 25 (0, 0))) = w0 at *
  replace N0 : PtAt w0 w.heap.size 0 0 := N0
  replace N1 : PtAt w0 (w.heap.size + 1) 0 0 := N1
  replace N2 : PtAt w0 (w.heap.size + 2) 0 0 := N2
  replace N3 : PtAt w0 (w.heap.size + 3) 0 0 := N3
  refine (l00From_any _ _ _ _).mono ?_
  rintro e w1 ⟨rfl, hs1, hb1⟩
  obtain ⟨b, hb⟩ : ∃ b, b = w0.heap.size := ⟨_, rfl⟩
  have hS1 : Src0 w1 b 0 := hb ▸ ⟨A, n, c, lo, hi, 0, L, hs1, hr.out.frame good_u8 (Below.sameB (g0.trans (hb1.mono g0.size)) hhi), by omega, hn⟩
  replace N0 := Lib.hid (N0.below hb1)
  replace N1 := Lib.hid (N1.below hb1)
  replace N2 := Lib.hid (N2.below hb1)
  replace N3 := Lib.hid (N3.below hb1)
  have g1 := Lib.hid (g0.trans (hb1.mono g0.size))
  have hz1 := hb1.size
  clear hs1 g0 hb1
  rw [← hb]
  rw [← hb] at hz1 z0
  clear hb
  subst z0
  replace hS1 := Lib.hid hS1
  have hbl := hS1.out.lt
  have hS2 : Src0 (w1.alloc (.cells #[.int .i64 3, .int .i64 6, .int .i64 30, .int .i64 1000, .int .i64 262144] 2 (0, 0))) (w.heap.size + 4) 0 := hS1.out.kept (Go.Joins.below_alloc1 _ _) hbl
  have hc2 := Lib.hid (among_any (w.heap.size + 4) 0 _ 5 5 _ _ _ _ hS2 (by decide) (five_row w1) (.inl hbl) (Nat.le_refl _) (by decide) (by decide))
  clear hS2

  go_wp2_with fail

  refine hc2.out.mono ?_
  rintro e w2 ⟨m, k2, rfl, hm, hs2, hk2, hg2⟩
  have hm2 := five_in hm
  have hg2' : w1.grownBy w2 (some (w.heap.size + 4)) := grown_tr (grown_of (Go.Joins.below_alloc1 _ _) _) hg2
  replace N0 := Lib.hid (N0.out.grown hg2' (by omega))
  replace N1 := Lib.hid (N1.out.grown hg2' (by omega))
  replace N2 := Lib.hid (N2.out.grown hg2' (by omega))
  replace N3 := Lib.hid (N3.out.grown hg2' (by omega))
  have hz2 := hg2'.size
  have hc3 := Lib.hid (l03Draw_any (w.heap.size + 4) k2 m w2 hs2 (by omega) hm2.1 (by omega))
  clear hg2 hS1 hs2 hm
  go_wp2_with fail
  refine hc3.out.mono ?_
  rintro e w3 ⟨a0, a1, k3, rfl, ha, hs3, hk3, hg3⟩
  replace N0 := Lib.hid (N0.out.grown hg3 (by omega))
  replace N1 := Lib.hid (N1.out.grown hg3 (by omega))
  replace N2 := Lib.hid (N2.out.grown hg3 (by omega))
  replace N3 := Lib.hid (N3.out.grown hg3 (by omega))
  have hz3 := hg3.size
  have G3 := Lib.hid (grown_tr hg2' hg3)
  have hl3 := hs3.lt
  have hc4 := Lib.hid (l03Draw_any (w.heap.size + 4) k3 m (w3.alloc (.cells #[.int .i64 a0, .int .i64 a1] 25 (0, 0))) (hs3.kept (Go.Joins.below_alloc1 _ _) hl3) (by omega) hm2.1 (by omega))
  clear hc3 hg3 hg2' hc2 hs3
  go_wp2_with fail
  refine hc4.out.mono ?_
  rintro e w4 ⟨b0, b1, k4, rfl, hb, hs4, hk4, hg4⟩
  have hg4' : w3.grownBy w4 (some (w.heap.size + 4)) := grown_tr (grown_of (Go.Joins.below_alloc1 _ _) _) hg4
  have P3 : PtAt w4 w3.heap.size a0 a1 := PtAt.grown (w := w3.alloc (.cells #[.int .i64 a0, .int .i64 a1] 25 (0, 0))) (heap_alloc_new w3 _) hg4 (by omega)
  replace P3 := Lib.hid P3
  replace N0 := Lib.hid (N0.out.grown hg4' (by omega))
  replace N1 := Lib.hid (N1.out.grown hg4' (by omega))
  replace N2 := Lib.hid (N2.out.grown hg4' (by omega))
  replace N3 := Lib.hid (N3.out.grown hg4' (by omega))
  have hz4 : w3.heap.size + 1 ≤ w4.heap.size := by have := hg4.size; simp at this; omega
  replace G3 := Lib.hid (grown_tr G3.out hg4')
  have hl4 := hs4.lt
  have hc5 := Lib.hid (l03Draw_any (w.heap.size + 4) k4 m (w4.alloc (.cells #[.int .i64 b0, .int .i64 b1] 25 (0, 0))) (hs4.kept (Go.Joins.below_alloc1 _ _) hl4) (by omega) hm2.1 (by omega))
  clear hc4 hg4 hg4' hs4
  go_wp2_with fail
  refine hc5.out.mono ?_
  rintro e w5 ⟨p0, p1, k5, rfl, hp, hs5, hk5, hg5⟩
  have hg5' : w4.grownBy w5 (some (w.heap.size + 4)) := grown_tr (grown_of (Go.Joins.below_alloc1 _ _) _) hg5
  have P4 : PtAt w5 w4.heap.size b0 b1 := PtAt.grown (w := w4.alloc (.cells #[.int .i64 b0, .int .i64 b1] 25 (0, 0))) (heap_alloc_new w4 _) hg5 (by omega)
  replace P4 := Lib.hid P4
  replace P3 := Lib.hid (P3.out.grown hg5' (by omega))
  replace N0 := Lib.hid (N0.out.grown hg5' (by omega))
  replace N1 := Lib.hid (N1.out.grown hg5' (by omega))
  replace N2 := Lib.hid (N2.out.grown hg5' (by omega))
  replace N3 := Lib.hid (N3.out.grown hg5' (by omega))
  have hz5 : w4.heap.size + 1 ≤ w5.heap.size := by have := hg5.size; simp at this; omega
  replace G3 := Lib.hid (grown_tr G3.out hg5')
  have hl5 := hs5.lt
  obtain ⟨W, hW⟩ : ∃ W, W = w5.alloc (.cells #[.int .i64 p0, .int .i64 p1] 25 (0, 0)) := ⟨_, rfl⟩
  have hbW : Below w5.heap.size w5 W := hW ▸ Go.Joins.below_alloc1 _ _
  have hzW : w5.heap.size + 1 = W.heap.size := by rw [hW]; simp
  have P5 : PtAt W w5.heap.size p0 p1 := hW ▸ heap_alloc_new w5 _
  replace P4 := Lib.hid (P4.out.below hbW)
  replace P3 := Lib.hid (P3.out.below hbW)
  replace N0 := Lib.hid (N0.out.below hbW)
  replace N1 := Lib.hid (N1.out.below hbW)
  replace N2 := Lib.hid (N2.out.below hbW)
  replace N3 := Lib.hid (N3.out.below hbW)
  have hsW := Lib.hid (hs5.kept hbW hl5)
  replace G3 := Lib.hid (grown_tr G3.out (grown_of hbW _))
  clear hc5 hg5 hg5' hs5
  go_upto_region 6 with fail
  rw [← hW]
  clear hW hbW
  obtain ⟨r30, r31, rf3, rl3⟩ := P3.out.cells
  obtain ⟨r40, r41, rf4, rl4⟩ := P4.out.cells
  obtain ⟨r50, r51, rf5, rl5⟩ := P5.cells
  obtain ⟨n00, n01, nf0, nl0⟩ := N0.out.cells
  obtain ⟨n10, n11, nf1, nl1⟩ := N1.out.cells
  obtain ⟨n20, n21, nf2, nl2⟩ := N2.out.cells
  obtain ⟨n30, n31, nf3, nl3⟩ := N3.out.cells
  have rD : Hid (Six W.drew w3.heap.size w4.heap.size w5.heap.size a0 a1 b0 b1 p0 p1) := ⟨r30, r31, r40, r41, r50, r51⟩
  have hcl := Lib.hid (l03Draw_any (w.heap.size + 4) k5 m)
  go_region_held3 (fun w' => w'.cell? ⟨w3.heap.size, 0, none⟩ = some (.int .i64 a0) ∧ w'.cell? ⟨w3.heap.size, 1, none⟩ = some (.int .i64 a1) ∧ w'.cell? ⟨w4.heap.size, 0, none⟩ = some (.int .i64 b0) ∧ w'.cell? ⟨w4.heap.size, 1, none⟩ = some (.int .i64 b1) ∧ w'.cell? ⟨w5.heap.size, 0, none⟩ = some (.int .i64 p0) ∧ w'.cell? ⟨w5.heap.size, 1, none⟩ = some (.int .i64 p1)) (first | (with_reducible exact rD.out) | (repeat (first | (with_reducible exact hS6.out) | (with_reducible refine Six.set ?_ (by omega) (by omega) (by omega))))) (first | (go_at_call 62; (with_reducible refine (hcl.out _ ?_ (by omega) hm2.1 (by omega)).mono ?_); (repeat (first | exact hsW.out | refine Src0.set ?_ (by omega))); rintro e w6 ⟨q0, q1, k6, rfl, hq, hs6, hk6, hg6o⟩; have hg6 : W.grownBy w6 (some (w.heap.size + 4)) := grown_tr (grown_of (Below.drew (Below.refl _ _)) _) hg6o;  have hS6 : Hid (w6.cell? ⟨w3.heap.size, 0, none⟩ = some (.int .i64 a0) ∧ w6.cell? ⟨w3.heap.size, 1, none⟩ = some (.int .i64 a1) ∧ w6.cell? ⟨w4.heap.size, 0, none⟩ = some (.int .i64 b0) ∧ w6.cell? ⟨w4.heap.size, 1, none⟩ = some (.int .i64 b1) ∧ w6.cell? ⟨w5.heap.size, 0, none⟩ = some (.int .i64 p0) ∧ w6.cell? ⟨w5.heap.size, 1, none⟩ = some (.int .i64 p1)) := ⟨(P3.out.grown hg6 (by omega)).cells.1, (P3.out.grown hg6 (by omega)).cells.2.1, (P4.out.grown hg6 (by omega)).cells.1, (P4.out.grown hg6 (by omega)).cells.2.1, (P5.grown hg6 (by omega)).cells.1, (P5.grown hg6 (by omega)).cells.2.1⟩; obtain ⟨u00, u01, uf0, ul0⟩ := (N0.out.grown hg6 (by omega)).cells; obtain ⟨u10, u11, uf1, ul1⟩ := (N1.out.grown hg6 (by omega)).cells; obtain ⟨u20, u21, uf2, ul2⟩ := (N2.out.grown hg6 (by omega)).cells; obtain ⟨u30, u31, uf3, ul3⟩ := (N3.out.grown hg6 (by omega)).cells; replace hs6 := Lib.hid hs6))
  have V0 : PtAt ((((((((w6.setCell ⟨w.heap.size, 0, none⟩ (.int .i64 a0)).setCell ⟨w.heap.size, 1, none⟩ (.int .i64 a1)).setCell ⟨w.heap.size + 1, 0, none⟩ (.int .i64 b0)).setCell ⟨w.heap.size + 1, 1, none⟩ (.int .i64 b1)).setCell ⟨w.heap.size + 1 + 1, 0, none⟩ (.int .i64 p0)).setCell ⟨w.heap.size + 1 + 1, 1, none⟩ (.int .i64 p1)).setCell ⟨w.heap.size + 1 + 1 + 1, 0, none⟩ (.int .i64 q0)).setCell ⟨w.heap.size + 1 + 1 + 1, 1, none⟩ (.int .i64 q1)) w.heap.size a0 a1 := by
    exact ((((((PtAt.put (N0.out.grown hg6 (by omega)) a0 a1).off (by omega)).off (by omega)).off (by omega)).off (by omega)).off (by omega)).off (by omega)
  have V1 : PtAt ((((((((w6.setCell ⟨w.heap.size, 0, none⟩ (.int .i64 a0)).setCell ⟨w.heap.size, 1, none⟩ (.int .i64 a1)).setCell ⟨w.heap.size + 1, 0, none⟩ (.int .i64 b0)).setCell ⟨w.heap.size + 1, 1, none⟩ (.int .i64 b1)).setCell ⟨w.heap.size + 1 + 1, 0, none⟩ (.int .i64 p0)).setCell ⟨w.heap.size + 1 + 1, 1, none⟩ (.int .i64 p1)).setCell ⟨w.heap.size + 1 + 1 + 1, 0, none⟩ (.int .i64 q0)).setCell ⟨w.heap.size + 1 + 1 + 1, 1, none⟩ (.int .i64 q1)) (w.heap.size + 1) b0 b1 := by
    exact ((((PtAt.put (((N1.out.grown hg6 (by omega)).off (by omega)).off (by omega)) b0 b1).off (by omega)).off (by omega)).off (by omega)).off (by omega)
  have V2 : PtAt ((((((((w6.setCell ⟨w.heap.size, 0, none⟩ (.int .i64 a0)).setCell ⟨w.heap.size, 1, none⟩ (.int .i64 a1)).setCell ⟨w.heap.size + 1, 0, none⟩ (.int .i64 b0)).setCell ⟨w.heap.size + 1, 1, none⟩ (.int .i64 b1)).setCell ⟨w.heap.size + 1 + 1, 0, none⟩ (.int .i64 p0)).setCell ⟨w.heap.size + 1 + 1, 1, none⟩ (.int .i64 p1)).setCell ⟨w.heap.size + 1 + 1 + 1, 0, none⟩ (.int .i64 q0)).setCell ⟨w.heap.size + 1 + 1 + 1, 1, none⟩ (.int .i64 q1)) (w.heap.size + 1 + 1) p0 p1 := by
    exact ((PtAt.put (((((N2.out.grown hg6 (by omega)).off (by omega)).off (by omega)).off (by omega)).off (by omega)) p0 p1).off (by omega)).off (by omega)
  have V3 : PtAt ((((((((w6.setCell ⟨w.heap.size, 0, none⟩ (.int .i64 a0)).setCell ⟨w.heap.size, 1, none⟩ (.int .i64 a1)).setCell ⟨w.heap.size + 1, 0, none⟩ (.int .i64 b0)).setCell ⟨w.heap.size + 1, 1, none⟩ (.int .i64 b1)).setCell ⟨w.heap.size + 1 + 1, 0, none⟩ (.int .i64 p0)).setCell ⟨w.heap.size + 1 + 1, 1, none⟩ (.int .i64 p1)).setCell ⟨w.heap.size + 1 + 1 + 1, 0, none⟩ (.int .i64 q0)).setCell ⟨w.heap.size + 1 + 1 + 1, 1, none⟩ (.int .i64 q1)) (w.heap.size + 1 + 1 + 1) q0 q1 :=
    PtAt.put (((((((N3.out.grown hg6 (by omega)).off (by omega)).off (by omega)).off (by omega)).off (by omega)).off (by omega)).off (by omega)) q0 q1
  have B9 : Below w.heap.size w ((((((((w6.setCell ⟨w.heap.size, 0, none⟩ (.int .i64 a0)).setCell ⟨w.heap.size, 1, none⟩ (.int .i64 a1)).setCell ⟨w.heap.size + 1, 0, none⟩ (.int .i64 b0)).setCell ⟨w.heap.size + 1, 1, none⟩ (.int .i64 b1)).setCell ⟨w.heap.size + 1 + 1, 0, none⟩ (.int .i64 p0)).setCell ⟨w.heap.size + 1 + 1, 1, none⟩ (.int .i64 p1)).setCell ⟨w.heap.size + 1 + 1 + 1, 0, none⟩ (.int .i64 q0)).setCell ⟨w.heap.size + 1 + 1 + 1, 1, none⟩ (.int .i64 q1)) := by
    have h1 := g1.out
    have h2 : w1.grownBy w6 (some (w.heap.size + 4)) := grown_tr G3.out hg6
    have h3 : Below w.heap.size w1 w6 := ⟨h2.os, h2.tape, h2.output, h2.size, fun k hk => h2.block k (by omega) (by intro e; injection e with e; omega)⟩
    iterate 8 (refine Below.setCell (p := ⟨_, _, none⟩) ?_ (by simp only; omega) _)
    exact h1.trans h3
  generalize ((((((((w6.setCell ⟨w.heap.size, 0, none⟩ (.int .i64 a0)).setCell ⟨w.heap.size, 1, none⟩ (.int .i64 a1)).setCell ⟨w.heap.size + 1, 0, none⟩ (.int .i64 b0)).setCell ⟨w.heap.size + 1, 1, none⟩ (.int .i64 b1)).setCell ⟨w.heap.size + 1 + 1, 0, none⟩ (.int .i64 p0)).setCell ⟨w.heap.size + 1 + 1, 1, none⟩ (.int .i64 p1)).setCell ⟨w.heap.size + 1 + 1 + 1, 0, none⟩ (.int .i64 q0)).setCell ⟨w.heap.size + 1 + 1 + 1, 1, none⟩ (.int .i64 q1)) = W9 at *
  replace B9 := Lib.hid B9
  obtain ⟨v00, v01, _, _⟩ := V0.cells
  obtain ⟨v10, v11, _, _⟩ := V1.cells
  obtain ⟨v20, v21, _, _⟩ := V2.cells
  obtain ⟨v30, v31, _, _⟩ := V3.cells
  go_wp2_with fail
  refine bodyPost_ret (v := .tuple #[.agg #[.int .i64 a0, .int .i64 a1], .agg #[.int .i64 b0, .int .i64 b1], .agg #[.int .i64 p0, .int .i64 p1], .agg #[.int .i64 q0, .int .i64 q1]]) (by simp [results, Try.results11, go_sem, v00, v01, v10, v11, v20, v21, v30, v31]) rfl ⟨a0, a1, b0, b1, p0, p1, q0, q1, rfl, ha.mono (by omega), hb.mono (by omega), B9.out⟩
end Go.Proofs.Ytgngcllodofimaa
