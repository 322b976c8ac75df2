/- The small functions of curves, both sides. Conditions: as each states. -/
import Derived.StillTailTactics
import Derived.Deep.RegionHeld3
import Derived.Deep.DeepCutAuto
import Derived.Test.YtpmpbfkpiocleaaQc13
import Derived.Test.YtpmpbfkpiocleaaQc07
namespace Go.Proofs.Ytpmpbfkpiocleaa
open Go.RowKit
set_option linter.unusedVariables false
set_option maxRecDepth 100000

/-- a box with a point -/
def PB (w : World) (b : Nat) (x y : Int) : Prop := w.heap[b]? = some (.cells #[.int .i64 x, .int .i64 y] 24 (0, 0))
theorem PB.below {w w' : World} {b : Nat} {x y : Int} (h : PB w b x y) (hb : Below w.heap.size w w') : PB w' b x y := by
  have hl : b < w.heap.size := (Array.getElem?_eq_some_iff.1 h).1
  exact (hb.block b hl).trans h
theorem PB.cells {w : World} {b : Nat} {x y : Int} (h : PB w b x y) : w.cell? ⟨b, 0, none⟩ = some (.int .i64 x) ∧ w.cell? ⟨b, 1, none⟩ = some (.int .i64 y) ∧ (∀ o, w.frozen? ⟨b, o, none⟩ = false) ∧ b < w.heap.size :=
  ⟨by rw [Go.Joins.cell_of_block h]; rfl, by rw [Go.Joins.cell_of_block h]; rfl, Go.Joins.unfrozen_of_block h, (Array.getElem?_eq_some_iff.1 h).1⟩
theorem PB.put {w : World} {b : Nat} {x y : Int} (h : PB w b x y) (x' y' : Int) : PB ((w.setCell ⟨b, 0, none⟩ (.int .i64 x')).setCell ⟨b, 1, none⟩ (.int .i64 y')) b x' y' :=
  Go.Joins.block_setCell (Go.Joins.block_setCell h (.int .i64 x')) (.int .i64 y')
theorem PB.put0 {w : World} {b : Nat} {x y : Int} (h : PB w b x y) (x' : Int) : PB (w.setCell ⟨b, 0, none⟩ (.int .i64 x')) b x' y := Go.Joins.block_setCell h (.int .i64 x')
theorem PB.put1 {w : World} {b : Nat} {x y : Int} (h : PB w b x y) (y' : Int) : PB (w.setCell ⟨b, 1, none⟩ (.int .i64 y')) b x y' := Go.Joins.block_setCell h (.int .i64 y')
theorem PB.off {w : World} {b : Nat} {x y : Int} (h : PB w b x y) {c o : Nat} {v : Value} (hc : b ≠ c) : PB (w.setCell ⟨c, o, none⟩ v) b x y := (Below.heap_setCell w ⟨c, o, none⟩ v b hc).trans h
theorem PB.drew {w : World} {b : Nat} {x y : Int} (h : PB w b x y) : PB w.drew b x y := h
theorem PB.alloc {w : World} {b : Nat} {x y : Int} (h : PB w b x y) (o : Obj) : PB (w.alloc o) b x y := h.below (Go.Joins.below_alloc1 _ _)
theorem calls_turn {P : Program} {f : FuncId} {args : Array Value} {W : World} {v : Value} (h : Calls P f args W fun e w' => e = .returned v ∧ W = w') : Calls P f args W fun e w' => e = .returned v ∧ w' = W := h.mono fun e w' ⟨h1, h2⟩ => ⟨h1, h2.symm⟩
theorem wi {n : Int} (h : -9223372036854775808 ≤ n ∧ n ≤ 9223372036854775807) : IntKind.i64.wrap n = n := IntWalk.i64_in _ (by omega)

theorem df64 {x y : Int} (hx : 0 ≤ x) (hy : 0 ≤ y) (hx2 : x ≤ 64) (hy2 : y ≤ 64) : 0 ≤ x * y ∧ x * y ≤ 4096 :=
  ⟨Int.mul_nonneg hx hy, by have := Int.mul_le_mul hx2 hy2 hy (by omega); omega⟩
theorem divPt_any (x y d : Int) (w : World) (hx1 : -4611686018427387904 ≤ x) (hx2 : x ≤ 4611686018427387904) (hy1 : -4611686018427387904 ≤ y) (hy2 : y ≤ 4611686018427387904) (hd : 0 < d) (hd2 : d ≤ 4611686018427387904) :
    Calls Try.prog 45 #[.agg #[.int .i64 x, .int .i64 y], .int .i64 d] w fun e w' => e = .returned (.agg #[.int .i64 (rnd x d), .int .i64 (rnd y d)]) ∧ Below w.heap.size w w' := by
  have c1 := Lib.hid (fun W => calls_turn (DivRound_pos x d W hd hd2 hx1 hx2))
  have c2 := Lib.hid (fun W => calls_turn (DivRound_pos y d W hd hd2 hy1 hy2))
  have hnew := heap_new2 w (.cells #[.int .i64 x, .int .i64 y] 24 (0, 0)) (.cells #[.int .i64 0, .int .i64 0] 24 (0, 0))
  have hB0 : Below w.heap.size w ((w.alloc (.cells #[.int .i64 x, .int .i64 y] 24 (0, 0))).alloc (.cells #[.int .i64 0, .int .i64 0] 24 (0, 0))) := Go.Joins.below_alloc2 _ _ _
  have p0 : PB _ w.heap.size x y := hnew.1
  have p1 : PB _ (w.heap.size + 1) 0 0 := hnew.2
  clear hnew
  go_enter Try.func45, Try.ntmps45
  go_wp2_with fail
  generalize ((w.alloc (.cells #[.int .i64 x, .int .i64 y] 24 (0, 0))).alloc (.cells #[.int .i64 0, .int .i64 0] 24 (0, 0))) = W at *
  obtain ⟨a0, a1, af, al⟩ := p0.cells
  obtain ⟨b0, b1, bf, bl⟩ := p1.cells
  go_still_tail 9, (by kernel_rfl)
  still_call (c1.out _)
  repeat still_step
  still_call (c2.out _)
  repeat still_step
  refine wpStill_nil ?_
  replace p1 := Lib.hid p1.drew
  replace hB0 := Lib.hid hB0.drew
  clear p0 a0 a1 af al b0 b1 bf bl
  change wpList _ _ _ _ _ W.drew
  generalize W.drew = W4 at *
  obtain ⟨b0, b1, bf, bl⟩ := p1.out.cells
  go_wp2_with fail
  refine bodyPost_ret (v := .agg #[.int .i64 (rnd x d), .int .i64 (rnd y d)]) (by simp [results, Try.results45, go_sem, b0, b1]) rfl ⟨rfl, ?_⟩
  exact (hB0.out.setCell (p := ⟨w.heap.size + 1, 0, none⟩) (by show w.heap.size ≤ w.heap.size + 1; omega) _).setCell (p := ⟨w.heap.size + 1, 1, none⟩) (by show w.heap.size ≤ w.heap.size + 1; omega) _

end Go.Proofs.Ytpmpbfkpiocleaa

/- The common point of two lines, both sides. Conditions: as each states. -/
namespace Go.Proofs.Ytpmpbfkpiocleaa
open Go.RowKit
set_option linter.unusedVariables false
set_option maxRecDepth 100000

end Go.Proofs.Ytpmpbfkpiocleaa

