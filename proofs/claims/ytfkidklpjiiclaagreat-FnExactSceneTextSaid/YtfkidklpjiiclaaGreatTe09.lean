/- Fractions: whether they are valid, both sides. Conditions: as each states. -/
import Derived.BigQuiet
import Derived.Lib.QuietBelow
import Derived.Outline
import Derived.Lib.Bytealg
import Derived.Test.YtfkidklpjiiclaaGreatTe08
import Derived.Test.YtfkidklpjiiclaaGreatTe06
import Derived.Test.YtfkidklpjiiclaaGreatTe01
import Derived.Test.YtfkidklpjiiclaaGreatProg
namespace Go.Proofs.YtfkidklpjiiclaaGreat
open Go.RowKit
set_option linter.unusedVariables false
set_option maxRecDepth 100000

def fracB (n d : Int) : Bool := decide (1 ≤ d ∧ d ≤ 1000000) && (decide (-1000000000 ≤ n ∧ n ≤ 1000000000) && (Nat.gcd n.natAbs d.natAbs == 1))

theorem specGcd_any (a b : Nat) (ha : a ≤ 4000000000) (hb : b ≤ 4000000000) (w : World) :
    Calls Tryz.prog 173 #[.int .u64 a, .int .u64 b] w fun e w' => e = .returned (.int .u64 (Nat.gcd a b)) ∧ w' = w := by
  go_enter Tryz.func173, Tryz.ntmps173
  go_wp2_with fail
  go_loopw [0, 1] (fun av bv wr => ∃ x y : Nat, av = .int .u64 x ∧ bv = .int .u64 y ∧ x ≤ 4000000000 ∧ y ≤ 4000000000 ∧ Nat.gcd x y = Nat.gcd a b ∧ wr = w) (fun av bv wr => (intOf bv).toNat)
  case atStart => exact ⟨a, b, rfl, rfl, ha, hb, rfl, rfl⟩
  case round =>
    obtain ⟨x, y, rfl, rfl, hx, hy, hg, rfl⟩ := hrel
    replace hg := Lib.hid hg
    by_cases h0 : 0 < y
    · have h1 : (0 : Int) < (y : Int) := by omega
      have h2 : ¬ (y : Int) = 0 := by omega
      have h4 := Nat.mod_lt x h0
      go_wp2_with fail
      go_roundw
      case rel => exact ⟨y, x % y, rfl, by rw [Int.natCast_emod], hy, by omega, by rw [Nat.gcd_comm, ← Nat.gcd_rec, Nat.gcd_comm]; exact hg.out, trivial⟩
      case measure => simp [intOf]; omega
    · obtain rfl : y = 0 := by omega
      have he : x = Nat.gcd a b := by have := hg.out; rw [Nat.gcd_zero_right] at this; exact this
      subst he
      go_wp2_with fail
      go_ret
      exact ⟨rfl, rfl⟩
theorem implGcd_any (a b : Nat) (ha : a ≤ 4000000000) (hb : b ≤ 4000000000) (w : World) :
    Calls Tryz.prog 159 #[.int .u64 a, .int .u64 b] w fun e w' => e = .returned (.int .u64 (Nat.gcd a b)) ∧ ∃ q, w' = w.drewN q := by
  go_enter Tryz.func159, Tryz.ntmps159
  go_wp2_with fail
  go_loopw [0, 1] (fun av bv wr => ∃ x y q : Nat, av = .int .u64 x ∧ bv = .int .u64 y ∧ x ≤ 4000000000 ∧ y ≤ 4000000000 ∧ Nat.gcd x y = Nat.gcd a b ∧ wr = w.drewN q) (fun av bv wr => (intOf bv).toNat)
  case atStart => exact ⟨a, b, 0, rfl, rfl, ha, hb, rfl, rfl⟩
  case round =>
    obtain ⟨x, y, q, rfl, rfl, hx, hy, hg, rfl⟩ := hrel
    replace hg := Lib.hid hg
    by_cases h0 : 0 < y
    · have h1 : (0 : Int) < (y : Int) := by omega
      have h2 : ¬ (y : Int) = 0 := by omega
      have h4 := Nat.mod_lt x h0
      have h3 : ((y : Int) != 0) = true := by simp; omega
      go_wp2_with fail
      go_quiet (fail)
      go_wp2_with fail
      go_roundw
      case rel => exact ⟨y, x % y, _, rfl, by rw [Int.natCast_emod], hy, by omega, by rw [Nat.gcd_comm, ← Nat.gcd_rec, Nat.gcd_comm]; exact hg.out, by rw [World.drewN_drewN]⟩
      case measure => simp [intOf]; omega
    · obtain rfl : y = 0 := by omega
      have he : x = Nat.gcd a b := by have := hg.out; rw [Nat.gcd_zero_right] at this; exact this
      subst he
      go_wp2_with fail
      go_ret
      exact ⟨rfl, q, rfl⟩
theorem specSize_any (n : Int) (hn : -1000000000 ≤ n ∧ n ≤ 1000000000) (w : World) :
    Calls Tryz.prog 174 #[.int .i64 n] w fun e w' => e = .returned (.int .u64 n.natAbs) ∧ w' = w := by
  obtain ⟨h0, h1⟩ := hn
  by_cases h : n < 0
  · have q1 : IntKind.i64.wrap (n + 1) = n + 1 := IntWalk.i64_in _ (by omega)
    have q2 : IntKind.i64.wrap (-(n + 1)) = -(n + 1) := IntWalk.i64_in _ (by omega)
    have q3 : (-(n + 1) + 1 : Int) = n.natAbs := by omega
    go_enter Tryz.func174, Tryz.ntmps174
    go_wp2_with fail
    go_ret
    exact ⟨rfl, rfl⟩
  · have q3 := Lib.hid (show (n : Int) = n.natAbs by omega)
    go_enter Tryz.func174, Tryz.ntmps174
    go_wp2_with fail
    go_ret
    exact ⟨congrArg (fun x => Ending.returned (Value.int .u64 x)) q3.out, rfl⟩
theorem absU_any (n : Int) (hn : -1000000000 ≤ n ∧ n ≤ 1000000000) (w : World) :
    Calls Tryz.prog 160 #[.int .i64 n] w fun e w' => e = .returned (.int .u64 n.natAbs) ∧ w' = w := by
  obtain ⟨h0, h1⟩ := hn
  by_cases h : n < 0
  · have q3 : IntKind.u64.wrap (-(IntKind.u64.wrap n)) = n.natAbs := by
      show IntKind.wrap .u64 (-(IntKind.wrap .u64 n)) = _
      unfold IntKind.wrap
      simp [IntKind.bits, IntKind.signed]
      omega
    go_enter Tryz.func160, Tryz.ntmps160
    go_wp2_with fail
    go_ret
    exact ⟨rfl, rfl⟩
  · have q3 := Lib.hid (show (n : Int) = n.natAbs by omega)
    go_enter Tryz.func160, Tryz.ntmps160
    go_wp2_with fail
    go_ret
    exact ⟨congrArg (fun x => Ending.returned (Value.int .u64 x)) q3.out, rfl⟩
/-- a callee that leaves the world, in a world of the quiet class -/
theorem calls_kept {P : Program} {f : FuncId} {args : Array Value} {v : Value} (h : ∀ w, Calls P f args w fun e w' => e = .returned v ∧ w' = w) (w : World) (dr : Nat) (os : Array Obj) :
    Calls P f args (Go.Sort.grow (redrawn w dr) os) fun e w' => e = .returned v ∧ ∃ p : Regrown, w' = Go.Sort.grow (redrawn w p.d) p.os :=
  Calls.regrown_of ((h _).mono fun e w' ⟨he, hw⟩ => ⟨he, hw ▸ Below.refl _ _⟩)
theorem calls_drew {P : Program} {f : FuncId} {args : Array Value} {v : Value} (h : ∀ w, Calls P f args w fun e w' => e = .returned v ∧ ∃ q, w' = w.drewN q) (w : World) (dr : Nat) (os : Array Obj) :
    Calls P f args (Go.Sort.grow (redrawn w dr) os) fun e w' => e = .returned v ∧ ∃ p : Regrown, w' = Go.Sort.grow (redrawn w p.d) p.os :=
  Calls.regrown_of ((h _).mono fun e w' ⟨he, q, hw⟩ => ⟨he, hw ▸ below_drewN (Below.refl _ _) q⟩)
theorem calls_below {P : Program} {f : FuncId} {args : Array Value} {v : Value} (h : ∀ w, Calls P f args w fun e w' => e = .returned v ∧ Below w.heap.size w w') (w : World) (dr : Nat) (os : Array Obj) :
    Calls P f args (Go.Sort.grow (redrawn w dr) os) fun e w' => e = .returned v ∧ ∃ p : Regrown, w' = Go.Sort.grow (redrawn w p.d) p.os :=
  Calls.regrown_of (h _)
end Go.Proofs.YtfkidklpjiiclaaGreat

/- Fractions: whether they are valid, both sides. Conditions: as each states. -/
namespace Go.Proofs.YtfkidklpjiiclaaGreat
open Go.RowKit
set_option linter.unusedVariables false
set_option maxRecDepth 100000

theorem l00In_k (n a b : Int) (u : Bool) (hu : u = inB n a b) (w : World) :
    Calls Tryz.prog 105 #[.int .i64 n, .int .i64 a, .int .i64 b] w fun e w' => e = .returned (.bool u) ∧ w' = w :=
  (l00In_any n a b w).mono fun e w' ⟨h1, h2⟩ => ⟨by rw [hu]; exact h1, h2.symm⟩
theorem fracB_no1 {n d : Int} (h : inB d 1 1000000 = false) : fracB n d = false := by
  have : ¬ (1 ≤ d ∧ d ≤ 1000000) := fun h' => by rw [inB_iff.2 h'] at h; cases h
  unfold fracB; rw [decide_eq_false this]; rfl
theorem fracB_no2 {n d : Int} (h : inB n (-1000000000) 1000000000 = false) : fracB n d = false := by
  have : ¬ (-1000000000 ≤ n ∧ n ≤ 1000000000) := fun h' => by rw [inB_iff.2 h'] at h; cases h
  unfold fracB; rw [decide_eq_false this]; simp
theorem fracB_yes {n d : Int} (h1 : 1 ≤ d ∧ d ≤ 1000000) (h2 : -1000000000 ≤ n ∧ n ≤ 1000000000) : fracB n d = (Nat.gcd n.natAbs d.natAbs == 1) := by
  unfold fracB; rw [decide_eq_true h1, decide_eq_true h2]; rfl
theorem gcd_one (g : Nat) : ((g : Int) == 1) = (g == 1) := by
  rw [Bool.eq_iff_iff]; simp; omega

set_option maxHeartbeats 2000000 in
theorem specFrac_any (n d : Int) (w : World) :
    Calls Tryz.prog 149 #[.agg #[.int .i64 n, .int .i64 d]] w fun e w' => e = .returned (.bool (fracB n d)) ∧ Below w.heap.size w w' := by
  have hB0 := Go.Joins.below_alloc1 w (.cells #[.int .i64 n, .int .i64 d] 102 (0, 0))
  have hX := heap_alloc_new w (.cells #[.int .i64 n, .int .i64 d] 102 (0, 0))
  have k0 : (w.alloc (.cells #[.int .i64 n, .int .i64 d] 102 (0, 0))).cell? ⟨w.heap.size, 0, none⟩ = some (.int .i64 n) := by rw [Go.Joins.cell_of_block hX]; rfl
  have k1 : (w.alloc (.cells #[.int .i64 n, .int .i64 d] 102 (0, 0))).cell? ⟨w.heap.size, 1, none⟩ = some (.int .i64 d) := by rw [Go.Joins.cell_of_block hX]; rfl
  obtain ⟨b, hb⟩ : ∃ b, b = fracB n d := ⟨_, rfl⟩
  rw [← hb]
  obtain ⟨u1, hu1⟩ : ∃ u, u = inB d 1 1000000 := ⟨_, rfl⟩
  obtain ⟨u2, hu2⟩ : ∃ u, u = inB n (-1000000000) 1000000000 := ⟨_, rfl⟩
  have hc1 := Lib.hid (fun W dr os => calls_kept (l00In_k d 1 1000000 u1 hu1) W dr os)
  have hc2 := Lib.hid (fun W dr os => calls_kept (l00In_k n (-1000000000) 1000000000 u2 hu2) W dr os)
  replace hb := Lib.hid hb
  clear hX
  cases u1 with
  | false =>
    have hbf : b = false := by rw [hb.out]; exact fracB_no1 hu1.symm
    subst hbf
    clear hu1 hu2 hc2
    go_enter Tryz.func149, Tryz.ntmps149
    go_wp2_with fail
    generalize w.alloc (.cells #[.int .i64 n, .int .i64 d] 102 (0, 0)) = W at *
    have kg := fun dr os => cell_regrown k0 dr os
    have kh := fun dr os => cell_regrown k1 dr os
    refine wp_region_quiet_below (by kernel_rfl) (by kernel_rfl) ?_
    repeat (go_big_quiet_step (exact hc1.out _ _ _))
    refine wpQuiet_nil ?_
    intro _ hw'
    obtain ⟨⟨dq, osq⟩, hw''⟩ := hw'
    subst hw''
    go_wp2_with fail
    go_ret
    exact ⟨rfl, hB0.trans ((below_regrown W dq osq).mono hB0.size)⟩
  | true =>
  cases u2 with
  | false =>
    have hbf : b = false := by rw [hb.out]; exact fracB_no2 hu2.symm
    subst hbf
    clear hu1 hu2
    go_enter Tryz.func149, Tryz.ntmps149
    go_wp2_with fail
    generalize w.alloc (.cells #[.int .i64 n, .int .i64 d] 102 (0, 0)) = W at *
    have kg := fun dr os => cell_regrown k0 dr os
    have kh := fun dr os => cell_regrown k1 dr os
    refine wp_region_quiet_below (by kernel_rfl) (by kernel_rfl) ?_
    repeat (go_big_quiet_step (first | (with_reducible exact hc1.out _ _ _) | (with_reducible exact hc2.out _ _ _)))
    refine wpQuiet_nil ?_
    intro _ hw'
    obtain ⟨⟨dq, osq⟩, hw''⟩ := hw'
    subst hw''
    go_wp2_with fail
    go_ret
    exact ⟨rfl, hB0.trans ((below_regrown W dq osq).mono hB0.size)⟩
  | true =>
    have b1 := inB_iff.1 hu1.symm
    have b2 := inB_iff.1 hu2.symm
    obtain ⟨dn, hdn⟩ : ∃ m : Nat, m = d.natAbs := ⟨_, rfl⟩
    obtain ⟨nn, hnn⟩ : ∃ m : Nat, m = n.natAbs := ⟨_, rfl⟩
    obtain ⟨g, hg⟩ : ∃ m : Nat, m = Nat.gcd nn dn := ⟨_, rfl⟩
    have e1 := fracB_yes b1 b2
    rw [← hdn, ← hnn, ← hg] at e1
    have hbe : b = ((g : Int) == 1) := (hb.out.trans e1).trans (gcd_one g).symm
    have q1 : IntKind.u64.wrap d = (dn : Int) := by
      have e : IntKind.u64.wrap d = d := by unfold IntKind.wrap; simp [IntKind.bits, IntKind.signed]; omega
      rw [e]; omega
    have hs := specSize_any n b2
    have hgc := specGcd_any nn dn (by omega) (by omega)
    rw [← hnn] at hs
    rw [← hg] at hgc
    have hc3 := Lib.hid (fun W dr os => calls_kept hs W dr os)
    have hc4 := Lib.hid (fun W dr os => calls_kept hgc W dr os)
    clear e1 hs hgc hdn hnn hg
    replace hbe := Lib.hid hbe
    clear hu1 hu2 hb b1 b2
    go_enter Tryz.func149, Tryz.ntmps149
    go_wp2_with fail
    generalize w.alloc (.cells #[.int .i64 n, .int .i64 d] 102 (0, 0)) = W at *
    have kg := fun dr os => cell_regrown k0 dr os
    have kh := fun dr os => cell_regrown k1 dr os
    refine wp_region_quiet_below (by kernel_rfl) (by kernel_rfl) ?_
    repeat (go_big_quiet_step (first | (with_reducible exact hc1.out _ _ _) | (with_reducible exact hc2.out _ _ _) | (with_reducible exact hc3.out _ _ _) | (with_reducible exact hc4.out _ _ _)))
    refine wpQuiet_nil ?_
    intro _ hw'
    obtain ⟨⟨dq, osq⟩, hw''⟩ := hw'
    subst hw''
    go_wp2_with fail
    go_ret
    exact ⟨by rw [hbe.out]; rfl, hB0.trans ((below_regrown W dq osq).mono hB0.size)⟩

set_option maxHeartbeats 2000000 in
theorem implFrac_any (n d : Int) (w : World) :
    Calls Tryz.prog 120 #[.agg #[.int .i64 n, .int .i64 d]] w fun e w' => e = .returned (.bool (fracB n d)) ∧ Below w.heap.size w w' := by
  have hB0 := Go.Joins.below_alloc1 w (.cells #[.int .i64 n, .int .i64 d] 102 (0, 0))
  have hX := heap_alloc_new w (.cells #[.int .i64 n, .int .i64 d] 102 (0, 0))
  have k0 : (w.alloc (.cells #[.int .i64 n, .int .i64 d] 102 (0, 0))).cell? ⟨w.heap.size, 0, none⟩ = some (.int .i64 n) := by rw [Go.Joins.cell_of_block hX]; rfl
  have k1 : (w.alloc (.cells #[.int .i64 n, .int .i64 d] 102 (0, 0))).cell? ⟨w.heap.size, 1, none⟩ = some (.int .i64 d) := by rw [Go.Joins.cell_of_block hX]; rfl
  obtain ⟨b, hb⟩ : ∃ b, b = fracB n d := ⟨_, rfl⟩
  rw [← hb]
  replace hb := Lib.hid hb
  clear hX
  by_cases b1 : 1 ≤ d ∧ d ≤ 1000000
  rotate_left
  · have hbf : b = false := by rw [hb.out]; unfold fracB; rw [decide_eq_false b1]; rfl
    subst hbf
    have hor : decide (1 ≤ d) = false ∨ (decide (1 ≤ d) = true ∧ decide (d ≤ 1000000) = false) := by simp only [decide_eq_false_iff_not, decide_eq_true_iff]; omega
    clear b1 hb
    rcases hor with h1 | ⟨h1, h2⟩
    all_goals
      go_enter Tryz.func120, Tryz.ntmps120
      go_wp2_with fail
      generalize w.alloc (.cells #[.int .i64 n, .int .i64 d] 102 (0, 0)) = W at *
      have kg := fun dr os => cell_regrown k0 dr os
      have kh := fun dr os => cell_regrown k1 dr os
      refine wp_region_quiet_below (by kernel_rfl) (by kernel_rfl) ?_
      repeat (go_big_quiet_step (fail))
      refine wpQuiet_nil ?_
      intro _ hw'
      obtain ⟨⟨dq, osq⟩, hw''⟩ := hw'
      subst hw''
      go_wp2_with fail
      go_ret
      exact ⟨rfl, hB0.trans ((below_regrown W dq osq).mono hB0.size)⟩
  by_cases b2 : -1000000000 ≤ n ∧ n ≤ 1000000000
  rotate_left
  · have hbf : b = false := by rw [hb.out]; unfold fracB; rw [decide_eq_false b2]; simp
    subst hbf
    have hor : decide (-1000000000 ≤ n) = false ∨ (decide (-1000000000 ≤ n) = true ∧ decide (n ≤ 1000000000) = false) := by simp only [decide_eq_false_iff_not, decide_eq_true_iff]; omega
    have b3 : decide (1 ≤ d) = true := decide_eq_true b1.1
    have b4 : decide (d ≤ 1000000) = true := decide_eq_true b1.2
    clear b1 b2 hb
    rcases hor with h1 | ⟨h1, h2⟩
    all_goals
      go_enter Tryz.func120, Tryz.ntmps120
      go_wp2_with fail
      generalize w.alloc (.cells #[.int .i64 n, .int .i64 d] 102 (0, 0)) = W at *
      have kg := fun dr os => cell_regrown k0 dr os
      have kh := fun dr os => cell_regrown k1 dr os
      refine wp_region_quiet_below (by kernel_rfl) (by kernel_rfl) ?_
      repeat (go_big_quiet_step (fail))
      refine wpQuiet_nil ?_
      intro _ hw'
      obtain ⟨⟨dq, osq⟩, hw''⟩ := hw'
      subst hw''
      go_wp2_with fail
      go_ret
      exact ⟨rfl, hB0.trans ((below_regrown W dq osq).mono hB0.size)⟩
  obtain ⟨dn, hdn⟩ : ∃ m : Nat, m = d.natAbs := ⟨_, rfl⟩
  obtain ⟨nn, hnn⟩ : ∃ m : Nat, m = n.natAbs := ⟨_, rfl⟩
  obtain ⟨g, hg⟩ : ∃ m : Nat, m = Nat.gcd nn dn := ⟨_, rfl⟩
  have e1 := fracB_yes b1 b2
  rw [← hdn, ← hnn, ← hg] at e1
  have hbe : b = ((g : Int) == 1) := (hb.out.trans e1).trans (gcd_one g).symm
  have q1 : IntKind.u64.wrap d = (dn : Int) := by
    have e : IntKind.u64.wrap d = d := by unfold IntKind.wrap; simp [IntKind.bits, IntKind.signed]; omega
    rw [e]; omega
  have hs := absU_any n b2
  have hgc := implGcd_any nn dn (by omega) (by omega)
  rw [← hnn] at hs
  rw [← hg] at hgc
  have hc3 := Lib.hid (fun W dr os => calls_kept hs W dr os)
  have hc4 := Lib.hid (fun W dr os => calls_drew hgc W dr os)
  clear e1 hs hgc hdn hnn hg
  replace hbe := Lib.hid hbe
  have b3 : decide (1 ≤ d) = true := decide_eq_true b1.1
  have b4 : decide (d ≤ 1000000) = true := decide_eq_true b1.2
  have b5 : decide (-1000000000 ≤ n) = true := decide_eq_true b2.1
  have b6 : decide (n ≤ 1000000000) = true := decide_eq_true b2.2
  clear hb b1 b2
  go_enter Tryz.func120, Tryz.ntmps120
  go_wp2_with fail
  generalize w.alloc (.cells #[.int .i64 n, .int .i64 d] 102 (0, 0)) = W at *
  have kg := fun dr os => cell_regrown k0 dr os
  have kh := fun dr os => cell_regrown k1 dr os
  refine wp_region_quiet_below (by kernel_rfl) (by kernel_rfl) ?_
  repeat (go_big_quiet_step (first | (with_reducible exact hc3.out _ _ _) | (with_reducible exact hc4.out _ _ _)))
  refine wpQuiet_nil ?_
  intro _ hw'
  obtain ⟨⟨dq, osq⟩, hw''⟩ := hw'
  subst hw''
  go_wp2_with fail
  go_ret
  exact ⟨by rw [hbe.out]; rfl, hB0.trans ((below_regrown W dq osq).mono hB0.size)⟩
end Go.Proofs.YtfkidklpjiiclaaGreat

/- Whether a text is a name: both sides. Conditions: as each states. -/
namespace Go.Proofs.YtfkidklpjiiclaaGreat
open Go.RowKit
set_option linter.unusedVariables false
set_option maxRecDepth 100000

def smB (c : UInt8) : Bool := decide (97 ≤ c.toNat) && decide (c.toNat ≤ 122)
def dgB (c : UInt8) : Bool := decide (48 ≤ c.toNat) && decide (c.toNat ≤ 57)
def restB (c : UInt8) : Bool := smB c || dgB c || decide (c.toNat = 46)
def headB (l : List UInt8) : Bool := match l with | [] => false | c :: _ => smB c
def nameB (s : ByteArray) : Bool := decide (1 ≤ s.size) && decide (s.size ≤ 12) && headB s.data.toList && s.data.toList.all restB
theorem small_rest {c : UInt8} (h : smB c = true) : restB c = true := by simp [restB, h]
theorem headB_at {s : ByteArray} {c : UInt8} (h : 0 < s.size) (hc : s[0] = c) : headB s.data.toList = smB c := by
  have h1 : s.data.toList[0]'(by simpa using h) = c := hc
  cases hl : s.data.toList with
  | nil => have h2 : s.size = 0 := by have := congrArg List.length hl; simpa using this
           omega
  | cons d l => simp [hl] at h1; simp [headB, h1]
theorem rest_step {s : ByteArray} {k : Nat} (hk : k < s.size) {c : UInt8} (hc : s[k] = c) (h : (s.data.toList.take k).all restB = true) (hr : restB c = true) : (s.data.toList.take (k + 1)).all restB = true := by
  rw [List.take_succ_eq_append_getElem (by simpa using hk), List.all_append, h]
  have e : s.data.toList[k]'(by simpa using hk) = c := hc
  simp [e, hr]
theorem rest_no {s : ByteArray} {k : Nat} (hk : k < s.size) {c : UInt8} (hc : s[k] = c) (hr : restB c = false) : nameB s = false := by
  have e : s.data.toList[k]'(by simpa using hk) = c := hc
  have : s.data.toList.all restB = false := by
    rw [List.all_eq_false]
    exact ⟨c, by rw [← e]; exact List.getElem_mem _, by simp [hr]⟩
  simp [nameB, this]
theorem name_yes {s : ByteArray} (h1 : 1 ≤ s.size) (h2 : s.size ≤ 12) {c : UInt8} (hc : s[0] = c) (hs : smB c = true) (h : (s.data.toList.take s.size).all restB = true) : nameB s = true := by
  rw [List.take_of_length_le (by simp)] at h
  simp only [nameB, h1, h2, decide_true, Bool.true_and, headB_at (by omega) hc, hs, h]

theorem isSmallB_any (c : UInt8) (w : World) : Calls Tryz.prog 70 #[.int .u8 c.toNat] w fun e w' => e = .returned (.bool (smB c)) ∧ w = w' := by
  by_cases h : (97 : Int) ≤ (c.toNat : Int) <;> by_cases h2 : (c.toNat : Int) ≤ 122
  all_goals try (exfalso; omega)
  all_goals
    go_enter Tryz.func70, Tryz.ntmps70
    go_wp2
    go_ret
    exact ⟨ret_bool (by simp only [smB]; rw [Bool.eq_iff_iff]; simp; omega), rfl⟩
theorem isDigitB_any (c : UInt8) (w : World) : Calls Tryz.prog 71 #[.int .u8 c.toNat] w fun e w' => e = .returned (.bool (dgB c)) ∧ w = w' := by
  by_cases h : (48 : Int) ≤ (c.toNat : Int) <;> by_cases h2 : (c.toNat : Int) ≤ 57
  all_goals try (exfalso; omega)
  all_goals
    go_enter Tryz.func71, Tryz.ntmps71
    go_wp2
    go_ret
    exact ⟨ret_bool (by simp only [dgB]; rw [Bool.eq_iff_iff]; simp; omega), rfl⟩
theorem l01Small_any (c : UInt8) (w : World) : Calls Tryz.prog 147 #[.int .u8 c.toNat] w fun e w' => e = .returned (.bool (smB c)) ∧ w = w' := by
  by_cases h : (97 : Int) ≤ (c.toNat : Int) <;> by_cases h2 : (c.toNat : Int) ≤ 122
  all_goals try (exfalso; omega)
  all_goals
    go_enter Tryz.func147, Tryz.ntmps147
    go_wp2
    go_ret
    exact ⟨ret_bool (by simp only [smB]; rw [Bool.eq_iff_iff]; simp; omega), rfl⟩
theorem l01Digit_any (c : UInt8) (w : World) : Calls Tryz.prog 148 #[.int .u8 c.toNat] w fun e w' => e = .returned (.bool (dgB c)) ∧ w = w' := by
  by_cases h : (48 : Int) ≤ (c.toNat : Int) <;> by_cases h2 : (c.toNat : Int) ≤ 57
  all_goals try (exfalso; omega)
  all_goals
    go_enter Tryz.func148, Tryz.ntmps148
    go_wp2
    go_ret
    exact ⟨ret_bool (by simp only [dgB]; rw [Bool.eq_iff_iff]; simp; omega), rfl⟩

set_option maxHeartbeats 1000000 in
theorem implIsName_any (s : ByteArray) (v : Bool) (hv : v = nameB s) (w : World) (hs : s.size ≤ 9223372036854775807) :
    Calls Tryz.prog 28 #[.string s] w fun e w' => e = .returned (.bool v) ∧ w = w' := by
  replace hv := Lib.hid hv
  by_cases h1 : 1 ≤ s.size
  rotate_left
  · have hvf : v = false := by rw [hv.out]; simp [nameB, h1]
    subst hvf
    go_enter Tryz.func28, Tryz.ntmps28
    go_wp2_with fail
    go_ret
    exact ⟨rfl, rfl⟩
  by_cases h2 : s.size ≤ 12
  rotate_left
  · have hvf : v = false := by rw [hv.out]; simp [nameB, h2]
    subst hvf
    go_enter Tryz.func28, Tryz.ntmps28
    go_wp2_with fail
    go_ret
    exact ⟨rfl, rfl⟩
  obtain ⟨c0, hc0⟩ : ∃ c, s[0] = c := ⟨_, rfl⟩
  have hb0 := c0.toNat_lt
  have hH := headB_at (by omega) hc0
  cases t0 : smB c0
  · have hvf : v = false := by rw [hv.out]; simp [nameB, hH, t0]
    subst hvf
    clear hH
    go_enter Tryz.func28, Tryz.ntmps28
    go_wp2_with (go_at_call 70; refine (isSmallB_any _ _).mono ?_; rintro e w' ⟨rfl, rfl⟩)
    go_ret
    exact ⟨rfl, rfl⟩
  clear hH
  have hst := Lib.hid (rest_step (s := s) (k := 0) (by omega) hc0 (by simp) (small_rest t0))
  have hfin := Lib.hid (fun h => name_yes h1 h2 hc0 t0 h)
  go_enter Tryz.func28, Tryz.ntmps28
  go_wp2_with (go_at_call 70; refine (isSmallB_any _ _).mono ?_; rintro e w' ⟨rfl, rfl⟩)
  clear hc0 t0 hb0
  go_loop [3] (fun i => ∃ k : Nat, i = .int .i64 k ∧ 1 ≤ k ∧ k ≤ s.size ∧ (s.data.toList.take k).all restB = true) (fun i => s.size - (intOf i).toNat)
  case atStart => exact ⟨1, rfl, Nat.le_refl _, h1, hst.out⟩
  case round =>
    obtain ⟨k, rfl, hk1, hk, hall⟩ := hrel
    replace hall := Lib.hid hall
    by_cases hlt : k < s.size
    · obtain ⟨c, hc⟩ : ∃ c, s[k] = c := ⟨_, rfl⟩
      have hc256 := c.toNat_lt
      have hno := Lib.hid (rest_no hlt hc)
      have hstep := Lib.hid (fun h => rest_step hlt hc hall.out h)
      have hd : restB c = (smB c || dgB c || decide (c.toNat = 46)) := rfl
      replace hd := Lib.hid hd
      cases t1 : smB c
      · cases t2 : dgB c
        · by_cases t3 : c.toNat = 46
          · have hr : restB c = true := by rw [hd.out]; simp [t3]
            replace hr := Lib.hid hr
            have t4 : ((c.toNat : Int) == 46) = true := by simp; omega
            have t5 : ((c.toNat : Int) != 46) = false := by simp; omega
            replace t3 := Lib.hid t3
            go_wp2_with (first | (go_at_call 70; refine (isSmallB_any _ _).mono ?_; rintro e w' ⟨rfl, rfl⟩) | (go_at_call 71; refine (isDigitB_any _ _).mono ?_; rintro e w' ⟨rfl, rfl⟩))
            go_round
            case rel => exact ⟨k + 1, by go_num, by omega, by omega, hstep.out hr.out⟩
            case measure => simp [intOf]; omega
          · have hr : restB c = false := by rw [hd.out, t1, t2]; simp [t3]
            have hvf : v = false := by rw [hv.out, hno.out hr]
            subst hvf
            have t4 : ((c.toNat : Int) == 46) = false := by simp; omega
            have t5 : ((c.toNat : Int) != 46) = true := by simp; omega
            clear hr
            go_wp2_with (first | (go_at_call 70; refine (isSmallB_any _ _).mono ?_; rintro e w' ⟨rfl, rfl⟩) | (go_at_call 71; refine (isDigitB_any _ _).mono ?_; rintro e w' ⟨rfl, rfl⟩))
            go_ret
            exact ⟨rfl, rfl⟩
        · have hr : restB c = true := by rw [hd.out, t2]; simp
          replace hr := Lib.hid hr
          go_wp2_with (first | (go_at_call 70; refine (isSmallB_any _ _).mono ?_; rintro e w' ⟨rfl, rfl⟩) | (go_at_call 71; refine (isDigitB_any _ _).mono ?_; rintro e w' ⟨rfl, rfl⟩))
          go_round
          case rel => exact ⟨k + 1, by go_num, by omega, by omega, hstep.out hr.out⟩
          case measure => simp [intOf]; omega
      · have hr : restB c = true := by rw [hd.out, t1]; simp
        replace hr := Lib.hid hr
        go_wp2_with (first | (go_at_call 70; refine (isSmallB_any _ _).mono ?_; rintro e w' ⟨rfl, rfl⟩) | (go_at_call 71; refine (isDigitB_any _ _).mono ?_; rintro e w' ⟨rfl, rfl⟩))
        go_round
        case rel => exact ⟨k + 1, by go_num, by omega, by omega, hstep.out hr.out⟩
        case measure => simp [intOf]; omega
    · have hkn : k = s.size := by omega
      have hvt : v = true := by rw [hv.out]; exact hfin.out (by rw [← hkn]; exact hall.out)
      subst hvt
      replace hkn := Lib.hid hkn
      go_wp2_with fail
      go_ret
      exact ⟨rfl, rfl⟩

set_option maxHeartbeats 1000000 in
theorem specIsName_any (s : ByteArray) (v : Bool) (hv : v = nameB s) (w : World) (hs : s.size ≤ 9223372036854775807) :
    Calls Tryz.prog 99 #[.string s] w fun e w' => e = .returned (.bool v) ∧ w = w' := by
  replace hv := Lib.hid hv
  by_cases h1 : 1 ≤ s.size
  rotate_left
  · have hvf : v = false := by rw [hv.out]; simp [nameB, h1]
    subst hvf
    have e0 : s.toList = [] := by rw [ByteArray.toList_eq]; exact List.eq_nil_of_length_eq_zero (by simpa using (show s.size = 0 by omega))
    go_enter Tryz.func99, Tryz.ntmps99
    go_wp2_with fail
    go_ret
    exact ⟨rfl, rfl⟩
  have e0 : s.toList.isEmpty = false := by rw [ByteArray.toList_eq]; cases hl : s.data.toList with
    | nil =>
      have h2 : s.size = 0 := by have := congrArg List.length hl; simpa using this
      omega
    | cons a l => rfl
  by_cases h2 : s.size ≤ 12
  rotate_left
  · have hvf : v = false := by rw [hv.out]; simp [nameB, h2]
    subst hvf
    go_enter Tryz.func99, Tryz.ntmps99
    go_wp2_with fail
    go_ret
    exact ⟨rfl, rfl⟩
  obtain ⟨c0, hc0⟩ : ∃ c, s[0] = c := ⟨_, rfl⟩
  have hb0 := c0.toNat_lt
  have hH := headB_at (by omega) hc0
  cases t0 : smB c0
  · have hvf : v = false := by rw [hv.out]; simp [nameB, hH, t0]
    subst hvf
    clear hH
    go_enter Tryz.func99, Tryz.ntmps99
    go_wp2_with (go_at_call 147; refine (l01Small_any _ _).mono ?_; rintro e w' ⟨rfl, rfl⟩)
    go_ret
    exact ⟨rfl, rfl⟩
  clear hH
  have hfin := Lib.hid (fun h => name_yes h1 h2 hc0 t0 h)
  go_enter Tryz.func99, Tryz.ntmps99
  go_wp2_with (go_at_call 147; refine (l01Small_any _ _).mono ?_; rintro e w' ⟨rfl, rfl⟩)
  clear hc0 t0 hb0
  go_loop [3] (fun i => ∃ k : Nat, i = .int .i64 k ∧ k ≤ s.size ∧ (s.data.toList.take k).all restB = true) (fun i => s.size - (intOf i).toNat)
  case atStart => exact ⟨0, rfl, Nat.zero_le _, by simp⟩
  case round =>
    obtain ⟨k, rfl, hk, hall⟩ := hrel
    replace hall := Lib.hid hall
    by_cases hlt : k < s.size
    · obtain ⟨c, hc⟩ : ∃ c, s[k] = c := ⟨_, rfl⟩
      have hc256 := c.toNat_lt
      have hno := Lib.hid (rest_no hlt hc)
      have hstep := Lib.hid (fun h => rest_step hlt hc hall.out h)
      have hd : restB c = (smB c || dgB c || decide (c.toNat = 46)) := rfl
      replace hd := Lib.hid hd
      cases t1 : smB c
      · cases t2 : dgB c
        · by_cases t3 : c.toNat = 46
          · have hr : restB c = true := by rw [hd.out]; simp [t3]
            replace hr := Lib.hid hr
            have t4 : ((c.toNat : Int) == 46) = true := by simp; omega
            have t5 : ((c.toNat : Int) != 46) = false := by simp; omega
            replace t3 := Lib.hid t3
            go_wp2_with (first | (go_at_call 147; refine (l01Small_any _ _).mono ?_; rintro e w' ⟨rfl, rfl⟩) | (go_at_call 148; refine (l01Digit_any _ _).mono ?_; rintro e w' ⟨rfl, rfl⟩))
            go_round
            case rel => exact ⟨k + 1, by go_num, by omega, hstep.out hr.out⟩
            case measure => simp [intOf]; omega
          · have hr : restB c = false := by rw [hd.out, t1, t2]; simp [t3]
            have hvf : v = false := by rw [hv.out, hno.out hr]
            subst hvf
            have t4 : ((c.toNat : Int) == 46) = false := by simp; omega
            have t5 : ((c.toNat : Int) != 46) = true := by simp; omega
            clear hr
            go_wp2_with (first | (go_at_call 147; refine (l01Small_any _ _).mono ?_; rintro e w' ⟨rfl, rfl⟩) | (go_at_call 148; refine (l01Digit_any _ _).mono ?_; rintro e w' ⟨rfl, rfl⟩))
            go_ret
            exact ⟨rfl, rfl⟩
        · have hr : restB c = true := by rw [hd.out, t2]; simp
          replace hr := Lib.hid hr
          go_wp2_with (first | (go_at_call 147; refine (l01Small_any _ _).mono ?_; rintro e w' ⟨rfl, rfl⟩) | (go_at_call 148; refine (l01Digit_any _ _).mono ?_; rintro e w' ⟨rfl, rfl⟩))
          go_round
          case rel => exact ⟨k + 1, by go_num, by omega, hstep.out hr.out⟩
          case measure => simp [intOf]; omega
      · have hr : restB c = true := by rw [hd.out, t1]; simp
        replace hr := Lib.hid hr
        go_wp2_with (first | (go_at_call 147; refine (l01Small_any _ _).mono ?_; rintro e w' ⟨rfl, rfl⟩) | (go_at_call 148; refine (l01Digit_any _ _).mono ?_; rintro e w' ⟨rfl, rfl⟩))
        go_round
        case rel => exact ⟨k + 1, by go_num, by omega, hstep.out hr.out⟩
        case measure => simp [intOf]; omega
    · have hkn : k = s.size := by omega
      have hvt : v = true := by rw [hv.out]; exact hfin.out (by rw [← hkn]; exact hall.out)
      subst hvt
      replace hkn := Lib.hid hkn
      go_wp2_with fail
      go_ret
      exact ⟨rfl, rfl⟩
end Go.Proofs.YtfkidklpjiiclaaGreat

/- The order of texts: bytesLess, compareBytes. No program in sight. Conditions: none. -/
namespace Go.Proofs.YtfkidklpjiiclaaGreat
open Go.RowKit
set_option linter.unusedVariables false
set_option maxRecDepth 100000
set_option linter.unusedSimpArgs false

theorem u8_cmp (a b : UInt8) : (a < b ∧ ¬ b < a ∧ a ≠ b) ∨ (b < a ∧ ¬ a < b ∧ a ≠ b) ∨ (a = b ∧ ¬ a < b ∧ ¬ b < a) := by
  rcases Nat.lt_trichotomy a.toNat b.toNat with h | h | h
  · exact .inl ⟨h, Nat.lt_asymm h, fun e => by rw [e] at h; exact Nat.lt_irrefl _ h⟩
  · exact .inr (.inr ⟨UInt8.toNat_inj.1 h, fun h' => by rw [UInt8.lt_iff_toNat_lt] at h'; omega, fun h' => by rw [UInt8.lt_iff_toNat_lt] at h'; omega⟩)
  · exact .inr (.inl ⟨h, Nat.lt_asymm h, fun e => by rw [e] at h; exact Nat.lt_irrefl _ h⟩)
theorem less_cmp : ∀ (x y : List UInt8), Op.bytesLess x y = decide (Lib.compareBytes x y < 0)
  | [], [] => by simp [Op.bytesLess, Lib.compareBytes]
  | [], _ :: _ => by simp [Op.bytesLess, Lib.compareBytes]
  | _ :: _, [] => by simp [Op.bytesLess, Lib.compareBytes]
  | a :: x, b :: y => by
    have ih := less_cmp x y
    rcases u8_cmp a b with ⟨h1, h2, h3⟩ | ⟨h1, h2, h3⟩ | ⟨h1, h2, h3⟩
    · simp [Op.bytesLess, Lib.compareBytes, h1, h2, h3]
    · simp [Op.bytesLess, Lib.compareBytes, h1, h2, h3]
    · simp [Op.bytesLess, Lib.compareBytes, h1, h2, h3, ih]
theorem cmp_zero : ∀ (x y : List UInt8), Lib.compareBytes x y = 0 ↔ x = y
  | [], [] => by simp [Lib.compareBytes]
  | [], _ :: _ => by simp [Lib.compareBytes]
  | _ :: _, [] => by simp [Lib.compareBytes]
  | a :: x, b :: y => by
    have ih := cmp_zero x y
    rcases u8_cmp a b with ⟨h1, h2, h3⟩ | ⟨h1, h2, h3⟩ | ⟨h1, h2, h3⟩
    · simp [Lib.compareBytes, h1, h2, h3]
    · simp [Lib.compareBytes, h1, h2, h3]
    · simp [Lib.compareBytes, h1, h2, h3, ih]
theorem cmp_neg : ∀ (x y : List UInt8), Lib.compareBytes y x = - Lib.compareBytes x y
  | [], [] => by simp [Lib.compareBytes]
  | [], _ :: _ => by simp [Lib.compareBytes]
  | _ :: _, [] => by simp [Lib.compareBytes]
  | a :: x, b :: y => by
    have ih := cmp_neg x y
    rcases u8_cmp a b with ⟨h1, h2, h3⟩ | ⟨h1, h2, h3⟩ | ⟨h1, h2, h3⟩
    · simp [Lib.compareBytes, h1, h2]
    · simp [Lib.compareBytes, h1, h2]
    · simp [Lib.compareBytes, h2, h3, ih]
theorem cmp_trans : ∀ (x y z : List UInt8), Lib.compareBytes x y < 0 → Lib.compareBytes y z < 0 → Lib.compareBytes x z < 0
  | [], [], _ => by simp [Lib.compareBytes]
  | [], _ :: _, [] => by simp [Lib.compareBytes]
  | [], _ :: _, _ :: _ => by simp [Lib.compareBytes]
  | _ :: _, [], _ => by simp [Lib.compareBytes]
  | _ :: _, _ :: _, [] => by simp [Lib.compareBytes]
  | a :: x, b :: y, c :: z => by
    have ih := cmp_trans x y z
    intro h1 h2
    unfold Lib.compareBytes at h1 h2 ⊢
    have q1 := u8_cmp a b
    have q2 := u8_cmp b c
    have q3 := u8_cmp a c
    simp only [UInt8.lt_iff_toNat_lt, ← UInt8.toNat_inj, ne_eq] at *
    split at h1
    · rw [if_pos (by split at h2 <;> first | omega | (split at h2 <;> omega))]; omega
    · split at h1
      · omega
      · split at h2
        · rw [if_pos (by omega)]; omega
        · split at h2
          · omega
          · rw [if_neg (by omega), if_neg (by omega)]; exact ih h1 h2
/-- not less: the other is less, or they are one -/
theorem not_less (x y : List UInt8) : (!Op.bytesLess y x) = (Op.bytesLess x y || x == y) := by
  rw [less_cmp, less_cmp]
  have h1 := cmp_neg x y
  have h2 := cmp_zero x y
  rw [Bool.eq_iff_iff]
  simp only [Bool.not_eq_true', decide_eq_false_iff_not, Bool.or_eq_true, decide_eq_true_iff, beq_iff_eq, ← h2]
  omega
end Go.Proofs.YtfkidklpjiiclaaGreat

