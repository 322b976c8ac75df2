/- Levels, points and paths of cubics: the program's side. Conditions: as each states. -/
import Derived.Test.YtpmpbfkpiocleaaQc27
import Derived.Test.YtpmpbfkpiocleaaQc28
import Derived.Test.YtpmpbfkpiocleaaQc30
import Derived.Test.YtpmpbfkpiocleaaQc31
namespace Go.Proofs.Ytpmpbfkpiocleaa
open Go.RowKit
set_option linter.unusedVariables false
set_option maxRecDepth 100000

theorem levelForC_any (q : Cb) (hq : q.ok) (T : Int) (hT0 : 1 ≤ T) (hT1 : T ≤ 262144) (w : World) :
    Calls Try.prog 27 #[cbV q, .int .i64 T] w fun e w' => ((∃ l : Nat, lvt (3 * bendC q) T = some l ∧ e = .returned (.tuple #[.int .i64 l, .int .i64 0])) ∨ (lvt (3 * bendC q) T = none ∧ e = .returned (.tuple #[.int .i64 0, .int .i64 5]))) ∧ Below w.heap.size w w' := by
  have hbd := bendC_bd hq
  have hv := Lib.hid (fun W => validCubic_yes q hq W)
  have hbn := Lib.hid (fun W => bendOf_any q hq W)
  have ht : inB T 1 262144 = true := inB_iff.2 ⟨hT0, hT1⟩
  obtain ⟨B, hB⟩ : ∃ B, B = bendC q := ⟨_, rfl⟩
  rw [← hB] at hbd hbn ⊢
  have q1 : IntKind.i64.wrap (3 * B) = 3 * B := wi (by omega)
  have hlv := Lib.hid (fun W => levelForT_any (3 * B) T W (by omega) (by omega) hT0 hT1)
  clear hbd hB
  obtain ⟨ax, ay, bx, b, cx, cy, dx, dy⟩ := q
  simp only [cbV] at hv hbn
  simp only [cbV]
  have hb0 := Go.Joins.below_alloc1 w (.cells #[.int .i64 ax, .int .i64 ay, .int .i64 bx, .int .i64 b, .int .i64 cx, .int .i64 cy, .int .i64 dx, .int .i64 dy] 26 (0, 0))
  have hP0 := heap_alloc_new w (.cells #[.int .i64 ax, .int .i64 ay, .int .i64 bx, .int .i64 b, .int .i64 cx, .int .i64 cy, .int .i64 dx, .int .i64 dy] 26 (0, 0))
  go_enter Try.func27, Try.ntmps27
  go_wp2_with fail
  refine (hv.out _).mono ?_
  rintro e w1 ⟨rfl, hb1⟩
  have hP1 := Lib.hid ((hb1.block w.heap.size (by simp)).trans hP0)
  have hB1 := hb0.trans (hb1.mono hb0.size)
  clear hb0 hb1 hP0
  go_wp2_with fail
  refine (isTolerance_any T w1).mono ?_
  rintro e w2 ⟨rfl, rfl⟩
  rw [ht]
  have hl1 : w.heap.size < w1.heap.size := (Array.getElem?_eq_some_iff.1 hP1.out).1
  have c0 : w1.cell? ⟨w.heap.size, 0, none⟩ = some (.int .i64 ax) := by rw [Go.Joins.cell_of_block hP1.out]; rfl
  have c1 : w1.cell? ⟨w.heap.size, 1, none⟩ = some (.int .i64 ay) := by rw [Go.Joins.cell_of_block hP1.out]; rfl
  have c2 : w1.cell? ⟨w.heap.size, 2, none⟩ = some (.int .i64 bx) := by rw [Go.Joins.cell_of_block hP1.out]; rfl
  have c3 : w1.cell? ⟨w.heap.size, 3, none⟩ = some (.int .i64 b) := by rw [Go.Joins.cell_of_block hP1.out]; rfl
  have c4 : w1.cell? ⟨w.heap.size, 4, none⟩ = some (.int .i64 cx) := by rw [Go.Joins.cell_of_block hP1.out]; rfl
  have c5 : w1.cell? ⟨w.heap.size, 5, none⟩ = some (.int .i64 cy) := by rw [Go.Joins.cell_of_block hP1.out]; rfl
  have c6 : w1.cell? ⟨w.heap.size, 6, none⟩ = some (.int .i64 dx) := by rw [Go.Joins.cell_of_block hP1.out]; rfl
  have c7 : w1.cell? ⟨w.heap.size, 7, none⟩ = some (.int .i64 dy) := by rw [Go.Joins.cell_of_block hP1.out]; rfl
  go_wp2_with fail
  refine (hbn.out w1).mono ?_
  rintro e w3 ⟨rfl, hb3⟩
  have hB3 := hB1.trans (hb3.mono hB1.size)
  clear c0 c1 c2 c3 c4 c5 c6 c7 hb3
  go_wp2_with fail
  refine (hlv.out w3).mono ?_
  rintro e w4 ⟨⟨l, hl, rfl⟩ | ⟨hl, rfl⟩, rfl⟩
  · replace hl := Lib.hid hl
    go_wp2_with fail
    go_ret2
    exact ⟨.inl ⟨l, hl.out, rfl⟩, hB3⟩
  · replace hl := Lib.hid hl
    go_wp2_with fail
    go_ret2
    exact ⟨.inr ⟨hl.out, rfl⟩, hB3⟩

theorem revCubic_any (q : Cb) (w : World) : Calls Try.prog 8 #[cbV q] w fun e w' => e = .returned (cbV ⟨q.dx, q.dy, q.cx, q.cy, q.bx, q.b, q.ax, q.ay⟩) ∧ Below w.heap.size w w' := by
  obtain ⟨ax, ay, bx, b, cx, cy, dx, dy⟩ := q
  simp only [cbV]
  go_enter Try.func8, Try.ntmps8
  go_wp2_with fail
  refine bodyPost_ret (v := .agg #[.int .i64 dx, .int .i64 dy, .int .i64 cx, .int .i64 cy, .int .i64 bx, .int .i64 b, .int .i64 ax, .int .i64 ay]) (by simp [results, Try.results8, go_sem]) rfl ⟨rfl, ?_⟩
  repeat (first | exact Below.refl _ _ | refine Below.setCell ?_ (by simp <;> omega) _ | refine Below.alloc ?_ (by simp <;> omega) _)

/-- 1 << l -/
theorem shl_lvl {l n : Nat} (hl : l < 7) (hn : n = 2 ^ l) : wrap64 ((2 : Int) ^ l) = (n : Int) := by
  rw [hn]
  rcases (show l = 0 ∨ l = 1 ∨ l = 2 ∨ l = 3 ∨ l = 4 ∨ l = 5 ∨ l = 6 by omega) with rfl | rfl | rfl | rfl | rfl | rfl | rfl <;> decide +kernel
theorem pow_lvl {l n : Nat} (hl : l < 7) (hn : n = 2 ^ l) : 1 ≤ n ∧ n ≤ 64 := by
  rw [hn]
  exact ⟨Nat.one_le_two_pow, Nat.le_trans (Nat.pow_le_pow_right (by omega) (show l ≤ 6 by omega)) (by decide)⟩

set_option maxHeartbeats 4000000 in
theorem CubicAt_any (q : Cb) (hq : q.ok) (k : Int) (l n : Nat) (hl : l < 7) (hn : n = 2 ^ l) (h0 : 0 ≤ k) (hk : k ≤ n) (w : World) :
    Calls Try.prog 7 #[cbV q, .int .i64 k, .int .i64 l] w fun e w' => e = .returned (.tuple #[.agg #[.int .i64 (cAt q k n).1, .int .i64 (cAt q k n).2], .int .i64 0]) ∧ Below w.heap.size w w' := by
  obtain ⟨hn1, hn64⟩ := pow_lvl hl hn
  have hsh := shl_lvl hl hn
  have hv := Lib.hid (fun W => validCubic_yes q hq W)
  have hat := Lib.hid (fun W => cubicAt_any q k n W hq h0 hk (by omega) (by omega))
  obtain ⟨X, hX⟩ : ∃ X, X = (cAt q k n).1 := ⟨_, rfl⟩
  obtain ⟨Y, hY⟩ : ∃ Y, Y = (cAt q k n).2 := ⟨_, rfl⟩
  rw [← hX, ← hY] at hat ⊢
  have l0 : ¬ (l : Int) < 0 := by omega
  have l6 : ¬ (6 : Int) < (l : Int) := by omega
  have k0 : ¬ k < 0 := by omega
  have kn : ¬ (n : Int) < k := by omega
  replace hn := Lib.hid hn
  clear hX hY
  obtain ⟨ax, ay, bx, b, cx, cy, dx, dy⟩ := q
  simp only [cbV] at hv hat
  simp only [cbV]
  have hb0 := Go.Joins.below_alloc2 w (.cells #[.int .i64 ax, .int .i64 ay, .int .i64 bx, .int .i64 b, .int .i64 cx, .int .i64 cy, .int .i64 dx, .int .i64 dy] 26 (0, 0)) (.cells #[.int .i64 0, .int .i64 0] 24 (0, 0))
  have hP0 := heap_new2 w (.cells #[.int .i64 ax, .int .i64 ay, .int .i64 bx, .int .i64 b, .int .i64 cx, .int .i64 cy, .int .i64 dx, .int .i64 dy] 26 (0, 0)) (.cells #[.int .i64 0, .int .i64 0] 24 (0, 0))
  go_enter Try.func7, Try.ntmps7
  go_wp2_with fail
  refine (hv.out _).mono ?_
  rintro e w1 ⟨rfl, hb1⟩
  have hP1 := Lib.hid ((hb1.block w.heap.size (by simp; omega)).trans hP0.1)
  have r1 : PB w1 (w.heap.size + 1) 0 0 := (hb1.block (w.heap.size + 1) (by simp)).trans hP0.2
  have hB1 := hb0.trans (hb1.mono hb0.size)
  clear hb0 hb1 hP0
  have hl1 : w.heap.size < w1.heap.size := (Array.getElem?_eq_some_iff.1 hP1.out).1
  have c0 : w1.cell? ⟨w.heap.size, 0, none⟩ = some (.int .i64 ax) := by rw [Go.Joins.cell_of_block hP1.out]; rfl
  have c1 : w1.cell? ⟨w.heap.size, 1, none⟩ = some (.int .i64 ay) := by rw [Go.Joins.cell_of_block hP1.out]; rfl
  have c2 : w1.cell? ⟨w.heap.size, 2, none⟩ = some (.int .i64 bx) := by rw [Go.Joins.cell_of_block hP1.out]; rfl
  have c3 : w1.cell? ⟨w.heap.size, 3, none⟩ = some (.int .i64 b) := by rw [Go.Joins.cell_of_block hP1.out]; rfl
  have c4 : w1.cell? ⟨w.heap.size, 4, none⟩ = some (.int .i64 cx) := by rw [Go.Joins.cell_of_block hP1.out]; rfl
  have c5 : w1.cell? ⟨w.heap.size, 5, none⟩ = some (.int .i64 cy) := by rw [Go.Joins.cell_of_block hP1.out]; rfl
  have c6 : w1.cell? ⟨w.heap.size, 6, none⟩ = some (.int .i64 dx) := by rw [Go.Joins.cell_of_block hP1.out]; rfl
  have c7 : w1.cell? ⟨w.heap.size, 7, none⟩ = some (.int .i64 dy) := by rw [Go.Joins.cell_of_block hP1.out]; rfl
  go_wp2_with fail
  try rw [hsh]
  have hat1 := Lib.hid (fun dr os => Calls.regrown_of (hat.out (Go.Sort.grow (redrawn w1 dr) os)))
  have g0 : ∀ dr os, (Go.Sort.grow (redrawn w1 dr) os).cell? ⟨w.heap.size, 0, none⟩ = some (.int .i64 ax) := cell_regrown c0
  have g1 : ∀ dr os, (Go.Sort.grow (redrawn w1 dr) os).cell? ⟨w.heap.size, 1, none⟩ = some (.int .i64 ay) := cell_regrown c1
  have g2 : ∀ dr os, (Go.Sort.grow (redrawn w1 dr) os).cell? ⟨w.heap.size, 2, none⟩ = some (.int .i64 bx) := cell_regrown c2
  have g3 : ∀ dr os, (Go.Sort.grow (redrawn w1 dr) os).cell? ⟨w.heap.size, 3, none⟩ = some (.int .i64 b) := cell_regrown c3
  have g4 : ∀ dr os, (Go.Sort.grow (redrawn w1 dr) os).cell? ⟨w.heap.size, 4, none⟩ = some (.int .i64 cx) := cell_regrown c4
  have g5 : ∀ dr os, (Go.Sort.grow (redrawn w1 dr) os).cell? ⟨w.heap.size, 5, none⟩ = some (.int .i64 cy) := cell_regrown c5
  have g6 : ∀ dr os, (Go.Sort.grow (redrawn w1 dr) os).cell? ⟨w.heap.size, 6, none⟩ = some (.int .i64 dx) := cell_regrown c6
  have g7 : ∀ dr os, (Go.Sort.grow (redrawn w1 dr) os).cell? ⟨w.heap.size, 7, none⟩ = some (.int .i64 dy) := cell_regrown c7
  clear c0 c1 c2 c3 c4 c5 c6 c7
  refine wp_region_headq 5 (by kernel_rfl) (by kernel_rfl) (by kernel_rfl) ?_
  simp only [List.take_succ_cons, List.take_zero, List.drop_succ_cons, List.drop_zero]
  repeat (go_big_quiet_step (with_reducible exact hat1.out _ _))
  refine wpQuiet_nil ?_
  intro _ hw'
  obtain ⟨⟨dq, osq⟩, hw''⟩ := hw'
  subst hw''
  have hg7 := below_regrown w1 dq osq
  clear g0 g1 g2 g3 g4 g5 g6 g7 hat1
  generalize Go.Sort.grow (redrawn w1 dq) osq = w7 at hg7 ⊢
  obtain ⟨v0, v1, vf, vl⟩ := (r1.below hg7).cells
  have hB7 := hB1.trans (hg7.mono hB1.size)
  go_wp2_with fail
  refine bodyPost_ret (v := .tuple #[.agg #[.int .i64 X, .int .i64 Y], .int .i64 0]) (by simp [results, Try.results7, go_sem, v0, v1]) rfl ⟨rfl, ?_⟩
  exact (hB7.setCell (p := ⟨w.heap.size + 1, 0, none⟩) (by show w.heap.size ≤ w.heap.size + 1; omega) _).setCell (p := ⟨w.heap.size + 1, 1, none⟩) (by show w.heap.size ≤ w.heap.size + 1; omega) _

/-- the path along a cubic -/
def flatC (q : Cb) (n : Nat) : List Pnt := (List.range (n + 1)).map fun k : Nat => cAt q (k : Int) (n : Int)
theorem flatC_len (q : Cb) (n : Nat) : (flatC q n).length = n + 1 := by simp [flatC]
theorem flatC_take (q : Cb) (n k : Nat) (hk : k ≤ n) : (flatC q n).take (k + 1) = (flatC q n).take k ++ [cAt q (k : Int) (n : Int)] := by
  unfold flatC
  rw [← List.map_take, ← List.map_take, List.take_range, List.take_range, Nat.min_eq_left (by omega), Nat.min_eq_left (by omega), List.range_succ, List.map_append]; rfl
/-- the path along a cubic, made by the call -/
def FlatCT (q : Cb) (T : Int) (w : World) (e : Ending) (w' : World) : Prop :=
  (lvt (3 * bendC q) T = none ∧ e = .returned (.tuple #[.slice none 0 0, .int .i64 5])) ∨
  ∃ (l : Nat) (A : Option Addr) (c : Nat), lvt (3 * bendC q) T = some l ∧ e = .returned (.tuple #[.slice A (2 ^ l + 1) c, .int .i64 0]) ∧ RdS 2 (FlatR ptC) w' w.heap.size w'.heap.size A (2 ^ l + 1) (flatC q (2 ^ l))

set_option maxHeartbeats 4000000 in
theorem FlattenCubic_any (q : Cb) (hq : q.ok) (T : Int) (hT0 : 1 ≤ T) (hT1 : T ≤ 262144) (w : World) :
    Calls Try.prog 11 #[cbV q, .int .i64 T] w fun e w' => FlatCT q T w e w' ∧ Below w.heap.size w w' := by
  obtain ⟨i0, hi0, hz0, hs0, hby0⟩ := info_parts infoPt
  have hlv := Lib.hid (fun W => levelForC_any q hq T hT0 hT1 W)
  have hat := Lib.hid (fun (k n : Int) W h0 h1 h2 h3 => cubicAt_any q k n W hq h0 h1 h2 h3)
  have hst := Lib.hid (fun n k hk => flatC_take q n k hk)
  have hlen := Lib.hid (fun n => flatC_len q n)
  have hfin : Hid (∀ (e : Ending) (w' : World), ((lvt (3 * bendC q) T = none ∧ e = .returned (.tuple #[.slice none 0 0, .int .i64 5])) ∨ ∃ (l : Nat) (A : Option Addr) (c : Nat), lvt (3 * bendC q) T = some l ∧ e = .returned (.tuple #[.slice A (2 ^ l + 1) c, .int .i64 0]) ∧ RdS 2 (FlatR ptC) w' w.heap.size w'.heap.size A (2 ^ l + 1) (flatC q (2 ^ l))) → FlatCT q T w e w') := Lib.hid fun _ _ h => h
  obtain ⟨Bd, hBd⟩ : ∃ x, x = lvt (3 * bendC q) T := ⟨_, rfl⟩
  rw [← hBd] at hlv hfin
  have hlt7 : Hid (∀ l, Bd = some l → l < 7) := Lib.hid fun l h => (lvt_lt (hBd ▸ h)).1
  obtain ⟨C, hC⟩ : ∃ f, f = fun (k n : Int) => cAt q k n := ⟨_, rfl⟩
  have hC2 : ∀ k n, cAt q k n = C k n := fun k n => by rw [hC]
  simp only [hC2] at hat hst
  obtain ⟨L, hL⟩ : ∃ f, f = fun n => flatC q n := ⟨_, rfl⟩
  have hL2 : ∀ n, flatC q n = L n := fun n => by rw [hL]
  simp only [hL2] at hst hlen hfin
  clear hBd hC hC2 hL hL2
  obtain ⟨P, hP⟩ : ∃ P, P = FlatCT q T w := ⟨_, rfl⟩
  rw [← hP] at hfin ⊢
  clear hP hq
  obtain ⟨ax, ay, bx, b, cx, cy, dx, dy⟩ := q
  simp only [cbV] at hlv hat
  simp only [cbV]
  have hb0 := Go.Joins.below_alloc1 w (.cells #[.int .i64 ax, .int .i64 ay, .int .i64 bx, .int .i64 b, .int .i64 cx, .int .i64 cy, .int .i64 dx, .int .i64 dy] 26 (0, 0))
  have hP0 := heap_alloc_new w (.cells #[.int .i64 ax, .int .i64 ay, .int .i64 bx, .int .i64 b, .int .i64 cx, .int .i64 cy, .int .i64 dx, .int .i64 dy] 26 (0, 0))
  go_enter Try.func11, Try.ntmps11
  go_wp2_with fail
  refine (hlv.out _).mono ?_
  rintro e w3 ⟨hcase, hb1⟩
  have hP1 := Lib.hid ((hb1.block w.heap.size (by simp)).trans hP0)
  have hB3 := hb0.trans (hb1.mono hb0.size)
  have hl0 : w.heap.size < w3.heap.size := (Array.getElem?_eq_some_iff.1 hP1.out).1
  have hz3 := hB3.size
  clear hb0 hb1 hP0
  rcases hcase with ⟨l, hl, rfl⟩ | ⟨hl, rfl⟩
  rotate_left
  · replace hl := Lib.hid hl
    go_wp2_with fail
    go_ret2
    exact ⟨hfin.out _ _ (.inl ⟨hl.out, rfl⟩), hB3⟩
  have hl7 : l < 7 := hlt7.out l hl
  obtain ⟨n, hn⟩ : ∃ n, n = 2 ^ l := ⟨_, rfl⟩
  obtain ⟨hn1, hn64⟩ := pow_lvl hl7 hn
  have hsh := shl_lvl hl7 hn
  have q1 : IntKind.i64.wrap ((n : Int) + 1) = ((n + 1 : Nat) : Int) := by rw [wi (by omega)]; omega
  replace hl := Lib.hid hl
  replace hn := Lib.hid hn
  have hcs := Lib.hid (show ∀ j u, (#[Value.int .i64 ax, .int .i64 ay, .int .i64 bx, .int .i64 b, .int .i64 cx, .int .i64 cy, .int .i64 dx, .int .i64 dy] : Array Value)[j]? = some u → w3.cell? ⟨w.heap.size, j, none⟩ = some u from fun j u h => by rw [Go.Joins.cell_of_block hP1.out]; exact h)
  have hgr : Hid (∀ W, w3.grownBy W none → Below w3.heap.size w3 W) := Lib.hid fun W hg => (Below.refl w3.heap.size w3).grown hg (Nat.le_refl _) (fun g hg' => by cases hg')
  go_wp2_with (at_make; refine wpList_make_own _ rfl _ _ 37 rfl w3.heap.size 24 i0 (.agg #[.int .i64 0, .int .i64 0]) 2 Try.underlying37 hi0 hz0 hs0 .i64 .i64 _ (n + 1) rfl rfl rfl (by rw [hby0]; omega) (by unfold maxLen; omega) (Nat.le_refl _) ?_; intro w4 hown4 hg4; have hb4 := hgr.out w4 hg4; replace hown4 := Lib.hid hown4; clear hg4 hi0 hz0 hs0 hby0)
  go_loopw [9, 10] (fun out kv wr => ∃ (k : Nat) (A : Option Addr) (c : Nat), kv = .int .i64 k ∧ k ≤ n + 1 ∧ out = .slice A k c ∧ wr.ownsRow w3.heap.size 24 2 (.slice A k c) k (((L n).take k).flatMap ptC) ∧ Below w3.heap.size w3 wr) (fun out kv wr => n + 1 - (intOf kv).toNat)
  case atStart => exact ⟨0, _, _, rfl, Nat.zero_le _, rfl, by simpa using hown4.out, hb4⟩
  case round =>
    clear hown4 hb4
    obtain ⟨k, A, c, rfl, hk, rfl, hown, hbel⟩ := hrel
    have hz := hbel.size
    replace hown := Lib.hid hown
    by_cases hlt : k ≤ n
    · have hki : (k : Int) ≤ (n : Int) := by omega
      have k0 := (hbel.cell (p := ⟨w.heap.size, 0, none⟩) hl0).trans (hcs.out 0 _ rfl)
      have k1 := (hbel.cell (p := ⟨w.heap.size, 1, none⟩) hl0).trans (hcs.out 1 _ rfl)
      have k2 := (hbel.cell (p := ⟨w.heap.size, 2, none⟩) hl0).trans (hcs.out 2 _ rfl)
      have k3 := (hbel.cell (p := ⟨w.heap.size, 3, none⟩) hl0).trans (hcs.out 3 _ rfl)
      have k4 := (hbel.cell (p := ⟨w.heap.size, 4, none⟩) hl0).trans (hcs.out 4 _ rfl)
      have k5 := (hbel.cell (p := ⟨w.heap.size, 5, none⟩) hl0).trans (hcs.out 5 _ rfl)
      have k6 := (hbel.cell (p := ⟨w.heap.size, 6, none⟩) hl0).trans (hcs.out 6 _ rfl)
      have k7 := (hbel.cell (p := ⟨w.heap.size, 7, none⟩) hl0).trans (hcs.out 7 _ rfl)
      have hcl := Lib.hid (hat.out (k : Int) (n : Int) wr (by omega) (by omega) (by omega) (by omega))
      have hstk := Lib.hid (hst.out n k hlt)
      have hwr : w.heap.size < wr.heap.size := by omega
      go_wp2_with fail
      refine hcl.out.mono ?_
      rintro e w4 ⟨rfl, hb4⟩
      obtain ⟨P1, hP1⟩ : ∃ P, P = (C k n).1 := ⟨_, rfl⟩
      obtain ⟨P2, hP2⟩ : ∃ P, P = (C k n).2 := ⟨_, rfl⟩
      rw [← hP1, ← hP2]
      replace hP1 := Lib.hid hP1
      replace hP2 := Lib.hid hP2
      have hown4 := Lib.hid (own_below hown.out hb4)
      have hbel4 := hbel.trans (hb4.mono hz)
      have hz4 := hbel4.size
      clear hb4 hcl k0 k1 k2 k3 k4 k5 k6 k7
      go_wp2_with (at_builtin; refine wpApp rfl (.tmp 30) (.tmp 35) elemPt rfl (v := .slice A k c) (n := k) (xs := ((L n).take k).flatMap ptC) rfl (hown4.out.alloc _) rfl (src_at (cs := [.int .i64 P1, .int .i64 P2]) rfl (by simp [Value.oneCell']) rfl) (by omega) (by omega) (by simp; omega) (k + 1) rfl ?_; intro A' c' w5 hown5 hb5; replace hown5 := Lib.hid hown5)
      have hbel5 := (hbel4.alloc hz4 _).trans hb5
      clear hb5
      go_roundw
      case rel => exact ⟨k + 1, A', c', by go_num, by omega, rfl, by rw [hstk.out, ptC_flat_snoc]; have h := hown5.out; rw [hP1.out, hP2.out] at h; exact h, hbel5⟩
      case measure => simp [intOf]; omega
    · have hkn : k = n + 1 := by omega
      subst hkn
      have hki : ¬ (((n + 1 : Nat) : Int) ≤ (n : Int)) := by omega
      have hrd : RdS 2 (FlatR ptC) wr w3.heap.size wr.heap.size A (n + 1) (L n) := by
        have h := hown.out
        rw [List.take_of_length_le (by rw [hlen.out]; omega)] at h
        exact rdS_own ptC_len (by omega) h (hlen.out n)
      have hrd' : RdS 2 (FlatR ptC) wr w.heap.size wr.heap.size A (n + 1) (L n) := hrd.wide (good_flat _) (by omega) (Nat.le_refl _)
      replace hrd' := Lib.hid hrd'
      clear hrd
      go_wp2_with fail
      go_ret2
      refine ⟨hfin.out _ _ (.inr ⟨l, A, c, hl.out, ?_, ?_⟩), hB3.trans (hbel.mono hB3.size)⟩
      · rw [← hn.out]; rfl
      · rw [← hn.out]; exact hrd'.out
end Go.Proofs.Ytpmpbfkpiocleaa

