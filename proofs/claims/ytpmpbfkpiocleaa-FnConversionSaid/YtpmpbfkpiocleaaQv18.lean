/- Sizes, levels, points of curves: the reference's side. Conditions: as each states. -/
import Derived.Lib.QuietBelow
import Derived.Test.YtpmpbfkpiocleaaQv17
namespace Go.Proofs.Ytpmpbfkpiocleaa
open Go.RowKit
set_option linter.unusedVariables false
set_option maxRecDepth 100000

theorem l09Second_any (ax ay bx b cx cy : Int) (w : World) (ha : -262144 ≤ ax ∧ ax ≤ 262144) (ha' : -262144 ≤ ay ∧ ay ≤ 262144) (hb : -262144 ≤ bx ∧ bx ≤ 262144) (hb' : -262144 ≤ b ∧ b ≤ 262144) (hc : -262144 ≤ cx ∧ cx ≤ 262144) (hc' : -262144 ≤ cy ∧ cy ≤ 262144) :
    Calls Try.prog 71 #[.agg #[.int .i64 ax, .int .i64 ay], .agg #[.int .i64 bx, .int .i64 b], .agg #[.int .i64 cx, .int .i64 cy]] w fun e w' => e = .returned (.agg #[.int .i64 (ax - 2 * bx + cx), .int .i64 (ay - 2 * b + cy)]) ∧ Below w.heap.size w w' := by
  have q1 : IntKind.i64.wrap (2 * bx) = 2 * bx := wi (by omega)
  have q2 : IntKind.i64.wrap (2 * b) = 2 * b := wi (by omega)
  have q3 : IntKind.i64.wrap (ax - 2 * bx) = ax - 2 * bx := wi (by omega)
  have q4 : IntKind.i64.wrap (ay - 2 * b) = ay - 2 * b := wi (by omega)
  have q5 : IntKind.i64.wrap (ax - 2 * bx + cx) = ax - 2 * bx + cx := wi (by omega)
  have q6 : IntKind.i64.wrap (ay - 2 * b + cy) = ay - 2 * b + cy := wi (by omega)
  go_enter Try.func71, Try.ntmps71
  go_wp2_with fail
  refine bodyPost_ret (v := .agg #[.int .i64 (ax - 2 * bx + cx), .int .i64 (ay - 2 * b + cy)]) (by simp [results, Try.results71, go_sem]) rfl ⟨rfl, ?_⟩
  repeat (first | exact Below.refl _ _ | refine Below.alloc ?_ (by simp <;> omega) _ | refine Below.setCell ?_ (by simp <;> omega) _)

set_option maxHeartbeats 1000000 in
theorem l09Size_any (x y : Int) (w : World) (hx : -1099511627776 ≤ x ∧ x ≤ 1099511627776) (hy : -1099511627776 ≤ y ∧ y ≤ 1099511627776) :
    Calls Try.prog 53 #[.agg #[.int .i64 x, .int .i64 y]] w fun e w' => e = .returned (.int .i64 (szI x y)) ∧ Below w.heap.size w w' := by
  have q1 : IntKind.i64.wrap (-x) = -x := wi (by omega)
  have q2 : IntKind.i64.wrap (-y) = -y := wi (by omega)
  have b1 : -1099511627776 ≤ imax x (-x) ∧ imax x (-x) ≤ 1099511627776 := by unfold imax; split <;> omega
  have b2 : -1099511627776 ≤ imax y (-y) ∧ imax y (-y) ≤ 1099511627776 := by unfold imax; split <;> omega
  have q3 : IntKind.i64.wrap (imax x (-x) + imax y (-y)) = szI x y := by rw [wi (by omega)]; rfl
  have c1 := fun W => l00Max_any x (-x) W
  have c2 := fun W => l00Max_any y (-y) W
  generalize imax x (-x) = m1 at *
  generalize imax y (-y) = m2 at *
  generalize szI x y = s at *
  replace c1 := Lib.hid c1
  replace c2 := Lib.hid c2
  have hnew := heap_alloc_new w (.cells #[.int .i64 x, .int .i64 y] 24 (0, 0))
  have hB0 : Below w.heap.size w (w.alloc (.cells #[.int .i64 x, .int .i64 y] 24 (0, 0))) := Go.Joins.below_alloc1 _ _
  go_enter Try.func53, Try.ntmps53
  go_wp2_with fail
  generalize w.alloc (.cells #[.int .i64 x, .int .i64 y] 24 (0, 0)) = V at *
  have hpb : PB V w.heap.size x y := hnew
  obtain ⟨k0, k1, kf, kl⟩ := hpb.cells
  have cA := Lib.hid (fun dr os => Calls.regrown_of ((c1.out (Go.Sort.grow (redrawn V dr) os)).mono fun e w' ⟨h1, h2⟩ => ⟨h1, h2 ▸ Below.refl _ _⟩))
  have cB := Lib.hid (fun dr os => Calls.regrown_of ((c2.out (Go.Sort.grow (redrawn V dr) os)).mono fun e w' ⟨h1, h2⟩ => ⟨h1, h2 ▸ Below.refl _ _⟩))
  have g0 : ∀ dr os, (Go.Sort.grow (redrawn V dr) os).cell? ⟨w.heap.size, 0, none⟩ = some (.int .i64 x) := cell_regrown k0
  have g1 : ∀ dr os, (Go.Sort.grow (redrawn V dr) os).cell? ⟨w.heap.size, 1, none⟩ = some (.int .i64 y) := cell_regrown k1
  clear hnew hpb k0 k1 kf b1 b2 c1 c2
  refine wp_region_quiet_below (by kernel_rfl) (by kernel_rfl) ?_
  repeat (go_big_quiet_step (first | exact cA.out _ _ | exact cB.out _ _))
  refine wpQuiet_nil ?_
  intro _ hw'
  obtain ⟨⟨dq, osq⟩, hw''⟩ := hw'
  subst hw''
  have hB1 := hB0.trans ((below_regrown V dq osq).mono hB0.size)
  generalize Go.Sort.grow (redrawn V dq) osq = w1 at hB1 ⊢
  clear g0 g1 cA cB
  go_wp2_with fail
  go_ret
  exact ⟨rfl, hB1⟩

/-- a box with a curve -/
def QB (w : World) (p : Nat) (q : Qd) : Prop := w.heap[p]? = some (.cells #[.int .i64 q.ax, .int .i64 q.ay, .int .i64 q.bx, .int .i64 q.b, .int .i64 q.cx, .int .i64 q.cy] 48 (0, 0))
theorem QB.lt {w : World} {p : Nat} {q : Qd} (h : QB w p q) : p < w.heap.size := (Array.getElem?_eq_some_iff.1 h).1
theorem QB.below {w w' : World} {p : Nat} {q : Qd} (h : QB w p q) (hb : Below w.heap.size w w') : QB w' p q := (hb.block p h.lt).trans h
theorem QB.cells {w : World} {p : Nat} {q : Qd} (h : QB w p q) : w.cell? ⟨p, 0, none⟩ = some (.int .i64 q.ax) ∧ w.cell? ⟨p, 1, none⟩ = some (.int .i64 q.ay) ∧ w.cell? ⟨p, 2, none⟩ = some (.int .i64 q.bx) ∧ w.cell? ⟨p, 3, none⟩ = some (.int .i64 q.b) ∧ w.cell? ⟨p, 4, none⟩ = some (.int .i64 q.cx) ∧ w.cell? ⟨p, 5, none⟩ = some (.int .i64 q.cy) := by
  refine ⟨?_, ?_, ?_, ?_, ?_, ?_⟩ <;> (rw [Go.Joins.cell_of_block h]; rfl)

theorem l10Level_any (p : Nat) (q : Qd) (hq : q.ok) (w : World) (hp : QB w p q) :
    Calls Try.prog 66 #[.pointer (some ⟨p, 0, none⟩), .int .i64 1] w fun e w' => ((∃ l : Nat, lvl (bendQ q) = some l ∧ e = .returned (.tuple #[.int .i64 l, .bool true])) ∨ (lvl (bendQ q) = none ∧ e = .returned (.tuple #[.int .i64 0, .bool false]))) ∧ Below w.heap.size w w' := by
  obtain ⟨s1, s2, s3, s4⟩ := bendQ_bd hq
  obtain ⟨ax, ay, bx, b, cx, cy⟩ := q
  obtain ⟨ha, hb, hc⟩ := hq
  obtain ⟨k0, k1, k2, k3, k4, k5⟩ := hp.cells
  have hl := hp.lt
  simp only at ha hb hc s3 s4 k0 k1 k2 k3 k4 k5
  obtain ⟨a1, a2⟩ := ptOk_iff.1 ha
  obtain ⟨b1, b2⟩ := ptOk_iff.1 hb
  obtain ⟨c1, c2⟩ := ptOk_iff.1 hc
  have hbq : bendQ ⟨ax, ay, bx, b, cx, cy⟩ = szI (ax - 2 * bx + cx) (ay - 2 * b + cy) := rfl
  rw [hbq] at s1 s2 ⊢
  have cA := Lib.hid (fun dr os => Calls.regrown_of (l09Second_any ax ay bx b cx cy (Go.Sort.grow (redrawn w dr) os) a1 a2 b1 b2 c1 c2))
  have cB := Lib.hid (fun dr os => Calls.regrown_of (l09Size_any (ax - 2 * bx + cx) (ay - 2 * b + cy) (Go.Sort.grow (redrawn w dr) os) (by omega) (by omega)))
  generalize szI (ax - 2 * bx + cx) (ay - 2 * b + cy) = B at *
  generalize ax - 2 * bx + cx = X at *
  generalize ay - 2 * b + cy = Y at *
  have g0 : ∀ dr os, (Go.Sort.grow (redrawn w dr) os).cell? ⟨p, 0, none⟩ = some (.int .i64 ax) := cell_regrown k0
  have g1 : ∀ dr os, (Go.Sort.grow (redrawn w dr) os).cell? ⟨p, 1, none⟩ = some (.int .i64 ay) := cell_regrown k1
  have g2 : ∀ dr os, (Go.Sort.grow (redrawn w dr) os).cell? ⟨p, 2, none⟩ = some (.int .i64 bx) := cell_regrown k2
  have g3 : ∀ dr os, (Go.Sort.grow (redrawn w dr) os).cell? ⟨p, 3, none⟩ = some (.int .i64 b) := cell_regrown k3
  have g4 : ∀ dr os, (Go.Sort.grow (redrawn w dr) os).cell? ⟨p, 4, none⟩ = some (.int .i64 cx) := cell_regrown k4
  have g5 : ∀ dr os, (Go.Sort.grow (redrawn w dr) os).cell? ⟨p, 5, none⟩ = some (.int .i64 cy) := cell_regrown k5
  clear ha hb hc a1 a2 b1 b2 c1 c2 hbq s3 s4 hp k0 k1 k2 k3 k4 k5
  go_enter Try.func66, Try.ntmps66
  go_wp2_with fail
  refine wp_region_quiet_below (by kernel_rfl) (by kernel_rfl) ?_
  repeat (go_big_quiet_step (first | exact cA.out _ _ | exact cB.out _ _))
  refine wpQuiet_nil ?_
  intro _ hw'
  obtain ⟨⟨dq, osq⟩, hw''⟩ := hw'
  subst hw''
  have hB1 := below_regrown w dq osq
  generalize Go.Sort.grow (redrawn w dq) osq = w1 at hB1 ⊢
  clear g0 g1 g2 g3 g4 g5 cA cB
  go_wp2_with fail
  go_loop [7] (fun i => ∃ k : Nat, i = .int .i64 k ∧ k ≤ 7 ∧ ∀ j, j < k → lvlOk B j = false) (fun i => 7 - (intOf i).toNat)
  case atStart => exact ⟨0, rfl, by omega, fun j hj => by omega⟩
  case round =>
    obtain ⟨k, rfl, hk, hall⟩ := hrel
    replace hall := Lib.hid hall
    rcases (show k = 0 ∨ k = 1 ∨ k = 2 ∨ k = 3 ∨ k = 4 ∨ k = 5 ∨ k = 6 ∨ k = 7 by omega) with rfl | rfl | rfl | rfl | rfl | rfl | rfl | rfl
    · by_cases hle : B ≤ 4
      · go_wp2_with fail
        go_ret2
        exact ⟨.inl ⟨0, lvl_some (by omega) hall.out (by simp [lvlOk]; omega), rfl⟩, hB1⟩
      · go_wp2_with fail
        go_round
        case rel => exact ⟨1, rfl, by omega, fun j hj => by
          rcases Nat.lt_or_ge j 0 with h | h
          · exact hall.out j h
          · obtain rfl : j = 0 := by omega
            simp [lvlOk]; omega⟩
        case measure => simp [intOf]
    · by_cases hle : B ≤ 16
      · go_wp2_with fail
        go_ret2
        exact ⟨.inl ⟨1, lvl_some (by omega) hall.out (by simp [lvlOk]; omega), rfl⟩, hB1⟩
      · go_wp2_with fail
        go_round
        case rel => exact ⟨2, rfl, by omega, fun j hj => by
          rcases Nat.lt_or_ge j 1 with h | h
          · exact hall.out j h
          · obtain rfl : j = 1 := by omega
            simp [lvlOk]; omega⟩
        case measure => simp [intOf]
    · by_cases hle : B ≤ 64
      · go_wp2_with fail
        go_ret2
        exact ⟨.inl ⟨2, lvl_some (by omega) hall.out (by simp [lvlOk]; omega), rfl⟩, hB1⟩
      · go_wp2_with fail
        go_round
        case rel => exact ⟨3, rfl, by omega, fun j hj => by
          rcases Nat.lt_or_ge j 2 with h | h
          · exact hall.out j h
          · obtain rfl : j = 2 := by omega
            simp [lvlOk]; omega⟩
        case measure => simp [intOf]
    · by_cases hle : B ≤ 256
      · go_wp2_with fail
        go_ret2
        exact ⟨.inl ⟨3, lvl_some (by omega) hall.out (by simp [lvlOk]; omega), rfl⟩, hB1⟩
      · go_wp2_with fail
        go_round
        case rel => exact ⟨4, rfl, by omega, fun j hj => by
          rcases Nat.lt_or_ge j 3 with h | h
          · exact hall.out j h
          · obtain rfl : j = 3 := by omega
            simp [lvlOk]; omega⟩
        case measure => simp [intOf]
    · by_cases hle : B ≤ 1024
      · go_wp2_with fail
        go_ret2
        exact ⟨.inl ⟨4, lvl_some (by omega) hall.out (by simp [lvlOk]; omega), rfl⟩, hB1⟩
      · go_wp2_with fail
        go_round
        case rel => exact ⟨5, rfl, by omega, fun j hj => by
          rcases Nat.lt_or_ge j 4 with h | h
          · exact hall.out j h
          · obtain rfl : j = 4 := by omega
            simp [lvlOk]; omega⟩
        case measure => simp [intOf]
    · by_cases hle : B ≤ 4096
      · go_wp2_with fail
        go_ret2
        exact ⟨.inl ⟨5, lvl_some (by omega) hall.out (by simp [lvlOk]; omega), rfl⟩, hB1⟩
      · go_wp2_with fail
        go_round
        case rel => exact ⟨6, rfl, by omega, fun j hj => by
          rcases Nat.lt_or_ge j 5 with h | h
          · exact hall.out j h
          · obtain rfl : j = 5 := by omega
            simp [lvlOk]; omega⟩
        case measure => simp [intOf]
    · by_cases hle : B ≤ 16384
      · go_wp2_with fail
        go_ret2
        exact ⟨.inl ⟨6, lvl_some (by omega) hall.out (by simp [lvlOk]; omega), rfl⟩, hB1⟩
      · go_wp2_with fail
        go_round
        case rel => exact ⟨7, rfl, by omega, fun j hj => by
          rcases Nat.lt_or_ge j 6 with h | h
          · exact hall.out j h
          · obtain rfl : j = 6 := by omega
            simp [lvlOk]; omega⟩
        case measure => simp [intOf]
    · go_wp2_with fail
      go_ret2
      exact ⟨.inr ⟨lvl_none hall.out, rfl⟩, hB1⟩

theorem l10At_any (p : Nat) (ax ay bx b cx cy k n : Int) (w : World) (hp : QB w p ⟨ax, ay, bx, b, cx, cy⟩) (ha : ptOk ax ay = true) (hb : ptOk bx b = true) (hc : ptOk cx cy = true) (h0 : 0 ≤ k) (hkn : k ≤ n) (hn1 : 0 < n) (hn2 : n ≤ 64) :
    Calls Try.prog 67 #[.pointer (some ⟨p, 0, none⟩), .int .i64 k, .int .i64 n] w fun e w' => e = .returned (.agg #[.int .i64 (mixI ax bx cx k n), .int .i64 (mixI ay b cy k n)]) ∧ Below w.heap.size w w' := by
  obtain ⟨a1, a2⟩ := ptOk_iff.1 ha
  obtain ⟨b1, b2⟩ := ptOk_iff.1 hb
  obtain ⟨c1, c2⟩ := ptOk_iff.1 hc
  have j1 := Lib.hid (fun W => calls_turn (l10Mix_any ax bx cx k n W a1 b1 c1 h0 hkn hn1 hn2))
  have j2 := Lib.hid (fun W => calls_turn (l10Mix_any ay b cy k n W a2 b2 c2 h0 hkn hn1 hn2))
  have hl := hp.lt
  have hpV : QB (w.alloc (.cells #[.int .i64 0, .int .i64 0] 24 (0, 0))) p ⟨ax, ay, bx, b, cx, cy⟩ := hp.below (Go.Joins.below_alloc1 _ _)
  have hrV : PB (w.alloc (.cells #[.int .i64 0, .int .i64 0] 24 (0, 0))) w.heap.size 0 0 := heap_alloc_new w _
  have hB0 : Below w.heap.size w (w.alloc (.cells #[.int .i64 0, .int .i64 0] 24 (0, 0))) := Go.Joins.below_alloc1 _ _
  generalize mixI ax bx cx k n = X at *
  generalize mixI ay b cy k n = Y at *
  clear a1 a2 b1 b2 c1 c2 ha hb hc hp
  go_enter Try.func67, Try.ntmps67
  go_wp2_with fail
  generalize w.alloc (.cells #[.int .i64 0, .int .i64 0] 24 (0, 0)) = V at *
  obtain ⟨k0, k1, k2, k3, k4, k5⟩ := hpV.cells
  have hlV := hpV.lt
  simp only at k0 k1 k2 k3 k4 k5
  go_still_tail 37, (by kernel_rfl)
  still_call (j1.out _)
  repeat still_step
  still_call (j2.out _)
  repeat still_step
  refine wpStill_nil ?_
  replace hrV := hrV.drew
  replace hB0 := hB0.drew
  clear k0 k1 k2 k3 k4 k5 hlV hpV
  change wpList _ _ _ _ _ V.drew
  generalize V.drew = V4 at *
  obtain ⟨r0, r1, rf, rl⟩ := hrV.cells
  go_wp2_with fail
  refine bodyPost_ret (v := .agg #[.int .i64 X, .int .i64 Y]) (by simp [results, Try.results67, go_sem, r0, r1]) rfl ⟨rfl, ?_⟩
  exact (hB0.setCell (p := ⟨w.heap.size, 0, none⟩) (Nat.le_refl _) _).setCell (p := ⟨w.heap.size, 1, none⟩) (Nat.le_refl _) _

set_option maxHeartbeats 4000000 in
theorem l10Flat_any (p : Nat) (q : Qd) (hq : q.ok) (w : World) (hp : QB w p q) :
    Calls Try.prog 57 #[.pointer (some ⟨p, 0, none⟩), .int .i64 1] w fun e w' => FlatTo q w e w' (.bool false) (.bool true) := by
  have hlv := Lib.hid (l10Level_any p q hq w hp)
  obtain ⟨ax, ay, bx, b, cx, cy⟩ := q
  obtain ⟨ha, hb, hc⟩ := hq
  simp only at ha hb hc
  have hla := Lib.hid (fun (k n : Int) W hp h0 hk h1 h2 => l10At_any p ax ay bx b cx cy k n W hp ha hb hc h0 hk h1 h2)
  have hpl := hp.lt
  replace hp := Lib.hid hp
  clear ha hb hc
  go_enter Try.func57, Try.ntmps57
  go_wp2_with fail
  refine hlv.out.mono ?_
  rintro e w3 ⟨⟨l, hl, rfl⟩ | ⟨hl, rfl⟩, hB3⟩
  rotate_left
  · replace hl := Lib.hid hl
    go_wp2_with fail
    go_ret2
    exact .inl ⟨hl.out, rfl, hB3⟩
  have hl7 := lvl_lt hl
  replace hl := Lib.hid hl
  have hp3 := Lib.hid (hp.out.below hB3)
  have hpl3 := hp3.out.lt
  have hz3 := hB3.size
  obtain ⟨n, hn⟩ : ∃ n, n = 2 ^ l := ⟨_, rfl⟩
  have hn1 : 1 ≤ n := by rw [hn]; exact Nat.one_le_two_pow
  have hn64 : n ≤ 64 := by
    rw [hn]
    exact Nat.le_trans (Nat.pow_le_pow_right (by omega) (show l ≤ 6 by omega)) (by decide)
  have hsh : wrap64 ((2 : Int) ^ l) = (n : Int) := by
    rw [hn]
    rcases (show l = 0 ∨ l = 1 ∨ l = 2 ∨ l = 3 ∨ l = 4 ∨ l = 5 ∨ l = 6 by omega) with rfl | rfl | rfl | rfl | rfl | rfl | rfl <;> decide +kernel
  replace hn := Lib.hid hn
  go_wp2_with fail
  try rw [hsh]
  go_loopw [8, 10] (fun out kv wr => ∃ (k : Nat) (A : Option Addr) (c : Nat), kv = .int .i64 k ∧ k ≤ n + 1 ∧ out = .slice A k c ∧ wr.ownsRow w3.heap.size 24 2 (.slice A k c) k (((flatL ⟨ax, ay, bx, b, cx, cy⟩ n).take k).flatMap ptC) ∧ Below w3.heap.size w3 wr) (fun out kv wr => n + 1 - (intOf kv).toNat)
  case atStart => exact ⟨0, _, _, rfl, Nat.zero_le _, rfl, World.ownsRow_lit w3 _ _ (Nat.le_refl _) (by decide) (by simp), (Below.refl _ _).alloc (Nat.le_refl _) _⟩
  case round =>
    obtain ⟨k, A, c, rfl, hk, rfl, hown, hbel⟩ := hrel
    have hz := hbel.size
    replace hown := Lib.hid hown
    by_cases hlt : k ≤ n
    · have hki : (k : Int) ≤ (n : Int) := by omega
      have hcl := Lib.hid (hla.out (k : Int) (n : Int) wr (hp3.out.below hbel) (by omega) (by omega) (by omega) (by omega))
      have hst := Lib.hid (flatL_take ⟨ax, ay, bx, b, cx, cy⟩ n k hlt)
      go_wp2_with fail
      refine hcl.out.mono ?_
      rintro e w4 ⟨rfl, hb4⟩
      obtain ⟨P, hP⟩ : ∃ P, P = mixI ax bx cx k n := ⟨_, rfl⟩
      obtain ⟨Q, hQ⟩ : ∃ Q, Q = mixI ay b cy k n := ⟨_, rfl⟩
      rw [← hP, ← hQ]
      replace hP := Lib.hid hP
      replace hQ := Lib.hid hQ
      have hown4 := Lib.hid (own_below hown.out hb4)
      have hbel4 := hbel.trans (hb4.mono hz)
      have hz4 := hbel4.size
      clear hb4 hcl
      go_wp2_with (at_builtin; refine wpApp rfl (.tmp 28) (.tmp 33) elemPt rfl (v := .slice A k c) (n := k) (xs := ((flatL ⟨ax, ay, bx, b, cx, cy⟩ n).take k).flatMap ptC) rfl (hown4.out.alloc _) rfl (src_at (cs := [.int .i64 P, .int .i64 Q]) rfl (by simp [Value.oneCell']) rfl) (by omega) (by omega) (by simp; omega) (k + 1) rfl ?_; intro A' c' w5 hown5 hb5; replace hown5 := Lib.hid hown5)
      have hbel5 := (hbel4.alloc hz4 _).trans hb5
      clear hb5
      go_roundw
      case rel => exact ⟨k + 1, A', c', by go_num, by omega, rfl, by rw [hst.out, ptC_flat_snoc]; have h := hown5.out; rw [hP.out, hQ.out] at h; exact h, hbel5⟩
      case measure => simp [intOf]; omega
    · have hkn : k = n + 1 := by omega
      subst hkn
      have hki : ¬ (((n + 1 : Nat) : Int) ≤ (n : Int)) := by omega
      have hrd : RdS 2 (FlatR ptC) wr w3.heap.size wr.heap.size A (n + 1) (flatL ⟨ax, ay, bx, b, cx, cy⟩ n) := by
        have h := hown.out
        rw [List.take_of_length_le (by rw [flatL_len]; omega)] at h
        exact rdS_own ptC_len (by omega) h (by rw [flatL_len])
      have hrd' : RdS 2 (FlatR ptC) wr w.heap.size wr.heap.size A (n + 1) (flatL ⟨ax, ay, bx, b, cx, cy⟩ n) := hrd.wide (good_flat _) (by omega) (Nat.le_refl _)
      replace hrd' := Lib.hid hrd'
      clear hrd
      go_wp2_with fail
      go_ret2
      refine .inr ⟨l, A, c, hl.out, ?_, ?_, hB3.trans (hbel.mono hB3.size)⟩
      · rw [← hn.out]; rfl
      · rw [← hn.out]; exact hrd'.out
end Go.Proofs.Ytpmpbfkpiocleaa

