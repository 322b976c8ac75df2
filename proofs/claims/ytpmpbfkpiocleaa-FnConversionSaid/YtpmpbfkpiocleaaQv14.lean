/- The small functions of curves, both sides. Conditions: as each states. -/
import Derived.StillTailTactics
import Derived.Deep.RegionHeld3
import Derived.Deep.DeepCutAuto
import Derived.Test.YtpmpbfkpiocleaaQv12
import Derived.Test.YtpmpbfkpiocleaaQv06
namespace Go.Proofs.Ytpmpbfkpiocleaa
open Go.RowKit
set_option linter.unusedVariables false
set_option maxRecDepth 100000

/-- a box with a point -/
def PB (w : World) (b : Nat) (x y : Int) : Prop := w.heap[b]? = some (.cells #[.int .i64 x, .int .i64 y] 24 (0, 0))
theorem PB.below {w w' : World} {b : Nat} {x y : Int} (h : PB w b x y) (hb : Below w.heap.size w w') : PB w' b x y := by
  have hl : b < w.heap.size := (Array.getElem?_eq_some_iff.1 h).1
  exact (hb.block b hl).trans h
theorem PB.cells {w : World} {b : Nat} {x y : Int} (h : PB w b x y) : w.cell? ⟨b, 0, none⟩ = some (.int .i64 x) ∧ w.cell? ⟨b, 1, none⟩ = some (.int .i64 y) ∧ (∀ o, w.frozen? ⟨b, o, none⟩ = false) ∧ b < w.heap.size :=
  ⟨by rw [Go.Joins.cell_of_block h]; rfl, by rw [Go.Joins.cell_of_block h]; rfl, Go.Joins.unfrozen_of_block h, (Array.getElem?_eq_some_iff.1 h).1⟩
theorem PB.put {w : World} {b : Nat} {x y : Int} (h : PB w b x y) (x' y' : Int) : PB ((w.setCell ⟨b, 0, none⟩ (.int .i64 x')).setCell ⟨b, 1, none⟩ (.int .i64 y')) b x' y' :=
  Go.Joins.block_setCell (Go.Joins.block_setCell h (.int .i64 x')) (.int .i64 y')
theorem PB.put0 {w : World} {b : Nat} {x y : Int} (h : PB w b x y) (x' : Int) : PB (w.setCell ⟨b, 0, none⟩ (.int .i64 x')) b x' y := Go.Joins.block_setCell h (.int .i64 x')
theorem PB.put1 {w : World} {b : Nat} {x y : Int} (h : PB w b x y) (y' : Int) : PB (w.setCell ⟨b, 1, none⟩ (.int .i64 y')) b x y' := Go.Joins.block_setCell h (.int .i64 y')
theorem PB.off {w : World} {b : Nat} {x y : Int} (h : PB w b x y) {c o : Nat} {v : Value} (hc : b ≠ c) : PB (w.setCell ⟨c, o, none⟩ v) b x y := (Below.heap_setCell w ⟨c, o, none⟩ v b hc).trans h
theorem PB.drew {w : World} {b : Nat} {x y : Int} (h : PB w b x y) : PB w.drew b x y := h
theorem PB.alloc {w : World} {b : Nat} {x y : Int} (h : PB w b x y) (o : Obj) : PB (w.alloc o) b x y := h.below (Go.Joins.below_alloc1 _ _)
theorem calls_turn {P : Program} {f : FuncId} {args : Array Value} {W : World} {v : Value} (h : Calls P f args W fun e w' => e = .returned v ∧ W = w') : Calls P f args W fun e w' => e = .returned v ∧ w' = W := h.mono fun e w' ⟨h1, h2⟩ => ⟨h1, h2.symm⟩
theorem wi {n : Int} (h : -9223372036854775808 ≤ n ∧ n ≤ 9223372036854775807) : IntKind.i64.wrap n = n := IntWalk.i64_in _ (by omega)

theorem df64 {x y : Int} (hx : 0 ≤ x) (hy : 0 ≤ y) (hx2 : x ≤ 64) (hy2 : y ≤ 64) : 0 ≤ x * y ∧ x * y ≤ 4096 :=
  ⟨Int.mul_nonneg hx hy, by have := Int.mul_le_mul hx2 hy2 hy (by omega); omega⟩
theorem df4k {x y : Int} (hx : 0 ≤ x ∧ x ≤ 8192) (hy : -262144 ≤ y ∧ y ≤ 262144) : -2147483648 ≤ x * y ∧ x * y ≤ 2147483648 := by
  have h := prod_bd (x := x) (y := y) (A := 8192) (B := 262144) (by omega) (by omega) hy.1 hy.2
  omega
theorem divPt_any (x y d : Int) (w : World) (hx1 : -4611686018427387904 ≤ x) (hx2 : x ≤ 4611686018427387904) (hy1 : -4611686018427387904 ≤ y) (hy2 : y ≤ 4611686018427387904) (hd : 0 < d) (hd2 : d ≤ 4611686018427387904) :
    Calls Try.prog 45 #[.agg #[.int .i64 x, .int .i64 y], .int .i64 d] w fun e w' => e = .returned (.agg #[.int .i64 (rnd x d), .int .i64 (rnd y d)]) ∧ Below w.heap.size w w' := by
  have c1 := Lib.hid (fun W => calls_turn (DivRound_pos x d W hd hd2 hx1 hx2))
  have c2 := Lib.hid (fun W => calls_turn (DivRound_pos y d W hd hd2 hy1 hy2))
  have hnew := heap_new2 w (.cells #[.int .i64 x, .int .i64 y] 24 (0, 0)) (.cells #[.int .i64 0, .int .i64 0] 24 (0, 0))
  have hB0 : Below w.heap.size w ((w.alloc (.cells #[.int .i64 x, .int .i64 y] 24 (0, 0))).alloc (.cells #[.int .i64 0, .int .i64 0] 24 (0, 0))) := Go.Joins.below_alloc2 _ _ _
  have p0 : PB _ w.heap.size x y := hnew.1
  have p1 : PB _ (w.heap.size + 1) 0 0 := hnew.2
  clear hnew
  go_enter Try.func45, Try.ntmps45
  go_wp2_with fail
  generalize ((w.alloc (.cells #[.int .i64 x, .int .i64 y] 24 (0, 0))).alloc (.cells #[.int .i64 0, .int .i64 0] 24 (0, 0))) = W at *
  obtain ⟨a0, a1, af, al⟩ := p0.cells
  obtain ⟨b0, b1, bf, bl⟩ := p1.cells
  go_still_tail 9, (by kernel_rfl)
  still_call (c1.out _)
  repeat still_step
  still_call (c2.out _)
  repeat still_step
  refine wpStill_nil ?_
  replace p1 := Lib.hid p1.drew
  replace hB0 := Lib.hid hB0.drew
  clear p0 a0 a1 af al b0 b1 bf bl
  change wpList _ _ _ _ _ W.drew
  generalize W.drew = W4 at *
  obtain ⟨b0, b1, bf, bl⟩ := p1.out.cells
  go_wp2_with fail
  refine bodyPost_ret (v := .agg #[.int .i64 (rnd x d), .int .i64 (rnd y d)]) (by simp [results, Try.results45, go_sem, b0, b1]) rfl ⟨rfl, ?_⟩
  exact (hB0.out.setCell (p := ⟨w.heap.size + 1, 0, none⟩) (by show w.heap.size ≤ w.heap.size + 1; omega) _).setCell (p := ⟨w.heap.size + 1, 1, none⟩) (by show w.heap.size ≤ w.heap.size + 1; omega) _

theorem l10Mix_any (a b c k n : Int) (w : World) (ha : -262144 ≤ a ∧ a ≤ 262144) (hb : -262144 ≤ b ∧ b ≤ 262144) (hc : -262144 ≤ c ∧ c ≤ 262144) (h0 : 0 ≤ k) (hn : k ≤ n) (h1 : 0 < n) (h2 : n ≤ 64) :
    Calls Try.prog 72 #[.int .i64 a, .int .i64 b, .int .i64 c, .int .i64 k, .int .i64 n] w fun e w' => e = .returned (.int .i64 (mixI a b c k n)) ∧ w = w' := by
  obtain ⟨x1, x2⟩ := num_bd ha hb hc h0 hn
  have hnn := df64 (x := n) (y := n) (by omega) (by omega) h2 h2
  have hnn1 : 0 < n * n := Int.mul_pos h1 h1
  have c1 := Lib.hid (l03Round_any (numI a b c k n) (n * n) w hnn1 (by omega) (by omega) (by omega))
  obtain ⟨u, hu⟩ : ∃ u, u = n - k := ⟨_, rfl⟩
  have huu := df64 (x := u) (y := u) (by omega) (by omega) (by omega) (by omega)
  have hkk := df64 (x := k) (y := k) (by omega) (by omega) (by omega) (by omega)
  have huk := df64 (x := u) (y := k) (by omega) (by omega) (by omega) (by omega)
  have e1 : 2 * u * k = 2 * (u * k) := by rw [Int.mul_assoc]
  have b1 := df4k (x := u * u) (y := a) (by omega) (by omega)
  have b2 := df4k (x := 2 * u * k) (y := b) (by omega) (by omega)
  have b3 := df4k (x := k * k) (y := c) (by omega) (by omega)
  have q0 : IntKind.i64.wrap (n - k) = u := by rw [wi (by omega), hu]
  have q1 : IntKind.i64.wrap (u * u) = u * u := wi (by omega)
  have q2 : IntKind.i64.wrap (u * u * a) = u * u * a := wi (by omega)
  have q3 : IntKind.i64.wrap (2 * u) = 2 * u := wi (by omega)
  have q4 : IntKind.i64.wrap (2 * u * k) = 2 * u * k := wi (by omega)
  have q5 : IntKind.i64.wrap (2 * u * k * b) = 2 * u * k * b := wi (by omega)
  have q6 : IntKind.i64.wrap (u * u * a + 2 * u * k * b) = u * u * a + 2 * u * k * b := wi (by omega)
  have q7 : IntKind.i64.wrap (k * k) = k * k := wi (by omega)
  have q8 : IntKind.i64.wrap (k * k * c) = k * k * c := wi (by omega)
  have q9 : IntKind.i64.wrap (u * u * a + 2 * u * k * b + k * k * c) = u * u * a + 2 * u * k * b + k * k * c := wi (by omega)
  have q10 : IntKind.i64.wrap (n * n) = n * n := wi (by omega)
  have hN : numI a b c k n = u * u * a + 2 * u * k * b + k * k * c := by unfold numI; rw [hu]
  rw [hN] at c1
  have hM : mixI a b c k n = rnd (u * u * a + 2 * u * k * b + k * k * c) (n * n) := by unfold mixI; rw [hN]
  rw [hM]
  replace hu := Lib.hid hu
  clear x1 x2 hnn hnn1 huu hkk huk e1 b1 b2 b3 hN hM
  go_enter Try.func72, Try.ntmps72
  go_wp2_with fail
  refine c1.out.mono ?_
  rintro e w' ⟨rfl, rfl⟩
  go_wp2_with fail
  go_ret
  exact ⟨rfl, rfl⟩
end Go.Proofs.Ytpmpbfkpiocleaa

/- The common point of two lines, both sides. Conditions: as each states. -/
namespace Go.Proofs.Ytpmpbfkpiocleaa
open Go.RowKit
set_option linter.unusedVariables false
set_option maxRecDepth 100000

end Go.Proofs.Ytpmpbfkpiocleaa

