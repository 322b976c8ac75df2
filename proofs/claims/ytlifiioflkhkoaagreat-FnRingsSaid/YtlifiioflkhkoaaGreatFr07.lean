/- The small functions of curves, both sides. Conditions: as each states. -/
import Derived.StillTailTactics
import Derived.Deep.RegionHeld3
import Derived.Deep.DeepCutAuto
import Derived.Deep.RegionLaw
import Derived.Test.YtlifiioflkhkoaaGreatFr06
import Derived.Test.YtlifiioflkhkoaaGreatFr04
namespace Go.Proofs.YtlifiioflkhkoaaGreat
open Go.RowKit
set_option linter.unusedVariables false
set_option maxRecDepth 100000

/-- a box with a point -/
def PB (w : World) (b : Nat) (x y : Int) : Prop := w.heap[b]? = some (.cells #[.int .i64 x, .int .i64 y] 28 (0, 0))
theorem PB.below {w w' : World} {b : Nat} {x y : Int} (h : PB w b x y) (hb : Below w.heap.size w w') : PB w' b x y := by
  have hl : b < w.heap.size := (Array.getElem?_eq_some_iff.1 h).1
  exact (hb.block b hl).trans h
theorem PB.cells {w : World} {b : Nat} {x y : Int} (h : PB w b x y) : w.cell? ⟨b, 0, none⟩ = some (.int .i64 x) ∧ w.cell? ⟨b, 1, none⟩ = some (.int .i64 y) ∧ (∀ o, w.frozen? ⟨b, o, none⟩ = false) ∧ b < w.heap.size :=
  ⟨by rw [Go.Joins.cell_of_block h]; rfl, by rw [Go.Joins.cell_of_block h]; rfl, Go.Joins.unfrozen_of_block h, (Array.getElem?_eq_some_iff.1 h).1⟩
theorem PB.put {w : World} {b : Nat} {x y : Int} (h : PB w b x y) (x' y' : Int) : PB ((w.setCell ⟨b, 0, none⟩ (.int .i64 x')).setCell ⟨b, 1, none⟩ (.int .i64 y')) b x' y' :=
  Go.Joins.block_setCell (Go.Joins.block_setCell h (.int .i64 x')) (.int .i64 y')
theorem PB.off {w : World} {b : Nat} {x y : Int} (h : PB w b x y) {c o : Nat} {v : Value} (hc : b ≠ c) : PB (w.setCell ⟨c, o, none⟩ v) b x y := (Below.heap_setCell w ⟨c, o, none⟩ v b hc).trans h
theorem PB.drew {w : World} {b : Nat} {x y : Int} (h : PB w b x y) : PB w.drew b x y := h
theorem PB.alloc {w : World} {b : Nat} {x y : Int} (h : PB w b x y) (o : Obj) : PB (w.alloc o) b x y := h.below (Go.Joins.below_alloc1 _ _)
theorem calls_turn {P : Program} {f : FuncId} {args : Array Value} {W : World} {v : Value} (h : Calls P f args W fun e w' => e = .returned v ∧ W = w') : Calls P f args W fun e w' => e = .returned v ∧ w' = W := h.mono fun e w' ⟨h1, h2⟩ => ⟨h1, h2.symm⟩
theorem wi {n : Int} (h : -9223372036854775808 ≤ n ∧ n ≤ 9223372036854775807) : IntKind.i64.wrap n = n := IntWalk.i64_in _ (by omega)

end Go.Proofs.YtlifiioflkhkoaaGreat

/- The common point of two lines, both sides. Conditions: as each states. -/
namespace Go.Proofs.YtlifiioflkhkoaaGreat
open Go.RowKit
set_option linter.unusedVariables false
set_option maxRecDepth 100000

theorem heap_new5 (w : World) (a b c d e : Obj) : (((((w.alloc a).alloc b).alloc c).alloc d).alloc e).heap[w.heap.size]? = some a ∧ (((((w.alloc a).alloc b).alloc c).alloc d).alloc e).heap[w.heap.size + 1]? = some b ∧ (((((w.alloc a).alloc b).alloc c).alloc d).alloc e).heap[w.heap.size + 2]? = some c ∧ (((((w.alloc a).alloc b).alloc c).alloc d).alloc e).heap[w.heap.size + 3]? = some d ∧ (((((w.alloc a).alloc b).alloc c).alloc d).alloc e).heap[w.heap.size + 4]? = some e := by
  have h1 := heap_alloc_new w a
  have h2 := heap_alloc_new (w.alloc a) b
  have h3 := heap_alloc_new ((w.alloc a).alloc b) c
  have h4 := heap_alloc_new (((w.alloc a).alloc b).alloc c) d
  have h5 := heap_alloc_new ((((w.alloc a).alloc b).alloc c).alloc d) e
  have s : ∀ (W : World) (o : Obj) (k : Nat) (v : Obj), W.heap[k]? = some v → (W.alloc o).heap[k]? = some v := fun W o k v h => ((Go.Joins.below_alloc1 W o).block k (Array.getElem?_eq_some_iff.1 h).1).trans h
  have e1 : (w.alloc a).heap.size = w.heap.size + 1 := by simp
  have e2 : ((w.alloc a).alloc b).heap.size = w.heap.size + 2 := by simp
  have e3 : (((w.alloc a).alloc b).alloc c).heap.size = w.heap.size + 3 := by simp
  have e4 : ((((w.alloc a).alloc b).alloc c).alloc d).heap.size = w.heap.size + 4 := by simp
  rw [e1] at h2
  rw [e2] at h3
  rw [e3] at h4
  rw [e4] at h5
  exact ⟨s _ _ _ _ (s _ _ _ _ (s _ _ _ _ (s _ _ _ _ h1))), s _ _ _ _ (s _ _ _ _ (s _ _ _ _ h2)), s _ _ _ _ (s _ _ _ _ h3), s _ _ _ _ h4, h5⟩

def lnP (ax ay bx b cx cy dx dy : Int) : Int × Int := if lnM ax ay bx b cx cy dx dy < 0 then lnPt ax ay bx b (-lnN ax ay cx cy dx dy) (-lnM ax ay bx b cx cy dx dy) else lnPt ax ay bx b (lnN ax ay cx cy dx dy) (lnM ax ay bx b cx cy dx dy)
theorem df2 {x y : Int} (hx : -524288 ≤ x ∧ x ≤ 524288) (hy : -524288 ≤ y ∧ y ≤ 524288) : -274877906944 ≤ x * y ∧ x * y ≤ 274877906944 := by
  have h := prod_bd (x := x) (y := y) (A := 524288) (B := 524288) hx.1 hx.2 hy.1 hy.2
  omega
theorem big_bd {x y : Int} (hx : -524288 ≤ x ∧ x ≤ 524288) (hy : -549755813888 ≤ y ∧ y ≤ 549755813888) : -288230376151711744 ≤ x * y ∧ x * y ≤ 288230376151711744 := by
  have h := prod_bd (x := x) (y := y) (A := 524288) (B := 549755813888) hx.1 hx.2 hy.1 hy.2
  omega

set_option maxHeartbeats 8000000 in
theorem crossing_any (ax ay bx b cx cy dx dy : Int) (w : World) (ha : ptOk ax ay = true) (hb : ptOk bx b = true) (hc : ptOk cx cy = true) (hd : ptOk dx dy = true) (hne : lnM ax ay bx b cx cy dx dy ≠ 0) (px py : Int) (hp : lnP ax ay bx b cx cy dx dy = (px, py)) :
    Calls Tryz.prog 92 #[.agg #[.int .i64 ax, .int .i64 ay], .agg #[.int .i64 bx, .int .i64 b], .agg #[.int .i64 cx, .int .i64 cy], .agg #[.int .i64 dx, .int .i64 dy]] w fun e w' => e = .returned (.agg #[.int .i64 px, .int .i64 py]) ∧ Below w.heap.size w w' := by
  obtain ⟨a1, a2, a3, a4⟩ := pt_bd ha
  obtain ⟨b1, b2, b3, b4⟩ := pt_bd hb
  obtain ⟨c1, c2, c3, c4⟩ := pt_bd hc
  obtain ⟨d1, d2, d3, d4⟩ := pt_bd hd
  have t1 := turn_bd hc hd ha
  have t2 := turn_bd hc hd hb
  have m1 := df2 (x := bx - ax) (y := dy - cy) (by omega) (by omega)
  have m2 := df2 (x := b - ay) (y := dx - cx) (by omega) (by omega)
  have m3 := df2 (x := cx - ax) (y := dy - cy) (by omega) (by omega)
  have m4 := df2 (x := cy - ay) (y := dx - cx) (by omega) (by omega)
  have e1 := den_eq ax ay bx b cx cy dx dy
  have e2 := num_eq ax ay cx cy dx dy
  unfold lnP at hp
  obtain ⟨M, hM⟩ : ∃ M, M = lnM ax ay bx b cx cy dx dy := ⟨_, rfl⟩
  obtain ⟨N, hN⟩ : ∃ N, N = lnN ax ay cx cy dx dy := ⟨_, rfl⟩
  have hNb : -549755813888 ≤ N ∧ N ≤ 549755813888 := by rw [hN]; exact t1
  rw [← hM] at hp e1 hne
  rw [← hN] at hp e2
  clear hM hN t1 t2
  have hMb : -549755813888 ≤ M ∧ M ≤ 549755813888 := by omega
  have q1 : IntKind.i64.wrap (bx - ax) = bx - ax := wi (by omega)
  have q2 : IntKind.i64.wrap (dy - cy) = dy - cy := wi (by omega)
  have q3 : IntKind.i64.wrap (b - ay) = b - ay := wi (by omega)
  have q4 : IntKind.i64.wrap (dx - cx) = dx - cx := wi (by omega)
  have q5 : IntKind.i64.wrap (cx - ax) = cx - ax := wi (by omega)
  have q6 : IntKind.i64.wrap (cy - ay) = cy - ay := wi (by omega)
  have q7 : IntKind.i64.wrap ((bx - ax) * (dy - cy)) = (bx - ax) * (dy - cy) := wi (by omega)
  have q8 : IntKind.i64.wrap ((b - ay) * (dx - cx)) = (b - ay) * (dx - cx) := wi (by omega)
  have q9 : IntKind.i64.wrap ((cx - ax) * (dy - cy)) = (cx - ax) * (dy - cy) := wi (by omega)
  have q10 : IntKind.i64.wrap ((cy - ay) * (dx - cx)) = (cy - ay) * (dx - cx) := wi (by omega)
  have q11 : IntKind.i64.wrap ((bx - ax) * (dy - cy) - (b - ay) * (dx - cx)) = M := by rw [e1]; exact wi (by omega)
  have q12 : IntKind.i64.wrap ((cx - ax) * (dy - cy) - (cy - ay) * (dx - cx)) = N := by rw [e2]; exact wi (by omega)
  have q13 : IntKind.i64.wrap (-M) = -M := wi (by omega)
  have q14 : IntKind.i64.wrap (-N) = -N := wi (by omega)
  replace e1 := Lib.hid e1
  replace e2 := Lib.hid e2
  clear m1 m2 m3 m4
  obtain ⟨n0, n1, n2, n3, n4⟩ := heap_new5 w (.cells #[.int .i64 ax, .int .i64 ay] 28 (0, 0)) (.cells #[.int .i64 bx, .int .i64 b] 28 (0, 0)) (.cells #[.int .i64 cx, .int .i64 cy] 28 (0, 0)) (.cells #[.int .i64 dx, .int .i64 dy] 28 (0, 0)) (.cells #[.int .i64 0, .int .i64 0] 28 (0, 0))
  have hB0 : Below w.heap.size w (((((w.alloc (.cells #[.int .i64 ax, .int .i64 ay] 28 (0, 0))).alloc (.cells #[.int .i64 bx, .int .i64 b] 28 (0, 0))).alloc (.cells #[.int .i64 cx, .int .i64 cy] 28 (0, 0))).alloc (.cells #[.int .i64 dx, .int .i64 dy] 28 (0, 0))).alloc (.cells #[.int .i64 0, .int .i64 0] 28 (0, 0))) := by
    iterate 5 (refine Below.alloc ?_ (by first | exact Nat.le_refl _ | (simp <;> omega)) _)
    exact Below.refl _ _
  have s5 : (((((w.alloc (.cells #[.int .i64 ax, .int .i64 ay] 28 (0, 0))).alloc (.cells #[.int .i64 bx, .int .i64 b] 28 (0, 0))).alloc (.cells #[.int .i64 cx, .int .i64 cy] 28 (0, 0))).alloc (.cells #[.int .i64 dx, .int .i64 dy] 28 (0, 0))).alloc (.cells #[.int .i64 0, .int .i64 0] 28 (0, 0))).heap.size = w.heap.size + 5 := by simp
  obtain ⟨m, n, hmn, hm1, hm2, hn1, hn2, hsg⟩ : ∃ m n : Int, (px = ax + rnd ((bx - ax) * n) m ∧ py = ay + rnd ((b - ay) * n) m) ∧ 0 < m ∧ m ≤ 549755813888 ∧ -549755813888 ≤ n ∧ n ≤ 549755813888 ∧ ((M < 0 ∧ m = -M ∧ n = -N) ∨ (¬ M < 0 ∧ m = M ∧ n = N)) := by
    by_cases h : M < 0
    · rw [if_pos h] at hp
      injection hp with h1 h2
      exact ⟨-M, -N, ⟨h1.symm, h2.symm⟩, by omega, by omega, by omega, by omega, .inl ⟨h, rfl, rfl⟩⟩
    · rw [if_neg h] at hp
      injection hp with h1 h2
      exact ⟨M, N, ⟨h1.symm, h2.symm⟩, by omega, by omega, by omega, by omega, .inr ⟨h, rfl, rfl⟩⟩
  have z1 := big_bd (x := ax) (y := m) (by omega) (by omega)
  have z2 := big_bd (x := bx - ax) (y := n) (by omega) (by omega)
  have z3 := big_bd (x := ay) (y := m) (by omega) (by omega)
  have z4 := big_bd (x := b - ay) (y := n) (by omega) (by omega)
  have u1 : IntKind.i64.wrap (ax * m) = ax * m := wi (by omega)
  have u2 : IntKind.i64.wrap ((bx - ax) * n) = (bx - ax) * n := wi (by omega)
  have u3 : IntKind.i64.wrap (ay * m) = ay * m := wi (by omega)
  have u4 : IntKind.i64.wrap ((b - ay) * n) = (b - ay) * n := wi (by omega)
  have u5 : IntKind.i64.wrap (ax * m + (bx - ax) * n) = ax * m + (bx - ax) * n := wi (by omega)
  have u6 : IntKind.i64.wrap (ay * m + (b - ay) * n) = ay * m + (b - ay) * n := wi (by omega)
  have k1 := Lib.hid (fun W => calls_turn (DivRound_pos (ax * m + (bx - ax) * n) m W hm1 (by omega) (by omega) (by omega)))
  have k2 := Lib.hid (fun W => calls_turn (DivRound_pos (ay * m + (b - ay) * n) m W hm1 (by omega) (by omega) (by omega)))
  rw [rnd_shift hm1] at k1 k2
  rw [← hmn.1] at k1
  rw [← hmn.2] at k2
  clear hmn hp z1 z2 z3 z4 hne
  rcases hsg with ⟨hs, hm, hn⟩ | ⟨hs, hm, hn⟩
  all_goals
    go_enter Tryz.func92, Tryz.ntmps92
    go_upto_region 5 with fail
    rw [← hm, ← hn]
    clear hm hn
    generalize hW : (((((w.alloc (.cells #[.int .i64 ax, .int .i64 ay] 28 (0, 0))).alloc (.cells #[.int .i64 bx, .int .i64 b] 28 (0, 0))).alloc (.cells #[.int .i64 cx, .int .i64 cy] 28 (0, 0))).alloc (.cells #[.int .i64 dx, .int .i64 dy] 28 (0, 0))).alloc (.cells #[.int .i64 0, .int .i64 0] 28 (0, 0))) = W at *
    clear hW
    have p0 : PB W w.heap.size ax ay := n0
    have p1 : PB W (w.heap.size + 1) bx b := n1
    have p4 : PB W (w.heap.size + 4) 0 0 := n4
    clear n0 n1 n2 n3 n4
    obtain ⟨x0, x1, xf, xl⟩ := p0.cells
    obtain ⟨y0, y1, yf, yl⟩ := p1.cells
    obtain ⟨r0, r1, rf, rl⟩ := p4.cells
    clear q7 q8 q9 q10 q11 q12 q13 q14 q2 q4 q5 q6
    go_still_tail 29, (by kernel_rfl)
    still_call (k1.out _)
    repeat still_step
    still_call (k2.out _)
    repeat still_step
    refine wpStill_nil ?_
    replace p4 := Lib.hid p4.drew
    replace hB0 := Lib.hid hB0.drew
    clear p0 p1 x0 x1 xf xl y0 y1 yf yl r0 r1 rf rl
    change wpList _ _ _ _ _ W.drew
    generalize W.drew = W4 at *
    obtain ⟨b0', b1', bf, bl⟩ := p4.out.cells
    go_wp2_with fail
    refine bodyPost_ret (v := .agg #[.int .i64 px, .int .i64 py]) (by simp [results, Tryz.results92, go_sem, b0', b1']) rfl ⟨rfl, ?_⟩
    exact (hB0.out.setCell (p := ⟨w.heap.size + 4, 0, none⟩) (by show w.heap.size ≤ w.heap.size + 4; omega) _).setCell (p := ⟨w.heap.size + 4, 1, none⟩) (by show w.heap.size ≤ w.heap.size + 4; omega) _
end Go.Proofs.YtlifiioflkhkoaaGreat

/- The common point of two lines, both sides: the callers. Conditions: as each states. -/
namespace Go.Proofs.YtlifiioflkhkoaaGreat
open Go.RowKit
set_option linter.unusedVariables false
set_option maxRecDepth 100000

abbrev Four (w : World) (a b : Nat) (x0 x1 y0 y1 : Int) : Prop := w.cell? ⟨a, 0, none⟩ = some (.int .i64 x0) ∧ w.cell? ⟨a, 1, none⟩ = some (.int .i64 x1) ∧ w.cell? ⟨b, 0, none⟩ = some (.int .i64 y0) ∧ w.cell? ⟨b, 1, none⟩ = some (.int .i64 y1)
theorem Four.alloc {w : World} {a b : Nat} {x0 x1 y0 y1 : Int} (h : Four w a b x0 x1 y0 y1) (ha : a < w.heap.size) (hb : b < w.heap.size) {o : Obj} : Four (w.alloc o) a b x0 x1 y0 y1 :=
  ⟨(World.cell?_alloc_lt _ _ _ ha).trans h.1, (World.cell?_alloc_lt _ _ _ ha).trans h.2.1, (World.cell?_alloc_lt _ _ _ hb).trans h.2.2.1, (World.cell?_alloc_lt _ _ _ hb).trans h.2.2.2⟩
end Go.Proofs.YtlifiioflkhkoaaGreat

