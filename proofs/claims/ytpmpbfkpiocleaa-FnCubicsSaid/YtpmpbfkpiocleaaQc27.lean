/- Levels of cubics, their paths, ends and bounds: the program's side. Printed by mk_cu2.py. Conditions: as each states. -/
import Derived.Test.YtpmpbfkpiocleaaQc26
namespace Go.Proofs.Ytpmpbfkpiocleaa
open Go.RowKit
set_option linter.unusedVariables false
set_option maxRecDepth 100000

/-- the least level at which a size is at most 4 T 4^level -/
def lvtOk (b T : Int) (l : Nat) : Bool := decide (b ≤ 4 * T * 4 ^ l)
def lvt (b T : Int) : Option Nat := (List.range 7).find? (lvtOk b T)
theorem lvt_some {b T : Int} {k : Nat} (hk : k < 7) (h0 : ∀ j, j < k → lvtOk b T j = false) (h1 : lvtOk b T k = true) : lvt b T = some k := by
  unfold lvt
  rw [List.find?_eq_some_iff_append]
  refine ⟨h1, List.range k, List.range' (k + 1) (6 - k), ?_, fun a ha => by simp [h0 a (List.mem_range.1 ha)]⟩
  rw [List.range_eq_range', List.range_eq_range', show 7 = k + (1 + (6 - k)) by omega, ← List.range'_append_1, Nat.zero_add, ← List.range'_append_1]; rfl
theorem lvt_none {b T : Int} (h0 : ∀ j, j < 7 → lvtOk b T j = false) : lvt b T = none := by
  unfold lvt
  rw [List.find?_eq_none]
  intro x hx
  simp [h0 x (List.mem_range.1 hx)]
theorem lvt_lt {b T : Int} {l : Nat} (h : lvt b T = some l) : l < 7 ∧ lvtOk b T l = true := by
  unfold lvt at h
  exact ⟨List.mem_range.1 (List.mem_of_find?_eq_some h), List.find?_some h⟩

set_option maxHeartbeats 4000000 in
theorem levelForT_any (b T : Int) (w : World) (h0 : 0 ≤ b) (h1 : b ≤ 1099511627776) (hT0 : 1 ≤ T) (hT1 : T ≤ 262144) :
    Calls Try.prog 46 #[.int .i64 b, .int .i64 T] w fun e w' => ((∃ l : Nat, lvt b T = some l ∧ e = .returned (.tuple #[.int .i64 l, .int .i64 0])) ∨ (lvt b T = none ∧ e = .returned (.tuple #[.int .i64 0, .int .i64 5]))) ∧ w = w' := by
  have q0 : IntKind.i64.wrap (4 * T) = 4 * T := wi (by omega)
  have s0 : wrap64 (4 * T * 2 ^ 0) = 4 * T := by rw [show (4 : Int) * T * 2 ^ 0 = 4 * T by omega]; exact IntWalk.wrap64_in _ (by omega)
  have s1 : wrap64 (4 * T * 2 ^ 2) = 16 * T := by rw [show (4 : Int) * T * 2 ^ 2 = 16 * T by omega]; exact IntWalk.wrap64_in _ (by omega)
  have s2 : wrap64 (4 * T * 2 ^ 4) = 64 * T := by rw [show (4 : Int) * T * 2 ^ 4 = 64 * T by omega]; exact IntWalk.wrap64_in _ (by omega)
  have s3 : wrap64 (4 * T * 2 ^ 6) = 256 * T := by rw [show (4 : Int) * T * 2 ^ 6 = 256 * T by omega]; exact IntWalk.wrap64_in _ (by omega)
  have s4 : wrap64 (4 * T * 2 ^ 8) = 1024 * T := by rw [show (4 : Int) * T * 2 ^ 8 = 1024 * T by omega]; exact IntWalk.wrap64_in _ (by omega)
  have s5 : wrap64 (4 * T * 2 ^ 10) = 4096 * T := by rw [show (4 : Int) * T * 2 ^ 10 = 4096 * T by omega]; exact IntWalk.wrap64_in _ (by omega)
  have s6 : wrap64 (4 * T * 2 ^ 12) = 16384 * T := by rw [show (4 : Int) * T * 2 ^ 12 = 16384 * T by omega]; exact IntWalk.wrap64_in _ (by omega)
  go_enter Try.func46, Try.ntmps46
  go_wp2_with fail
  go_loop [6] (fun i => ∃ k : Nat, i = .int .i64 k ∧ k ≤ 7 ∧ ∀ j, j < k → lvtOk b T j = false) (fun i => 7 - (intOf i).toNat)
  case atStart => exact ⟨0, rfl, by omega, fun j hj => by omega⟩
  case round =>
    obtain ⟨k, rfl, hk, hall⟩ := hrel
    replace hall := Lib.hid hall
    rcases (show k = 0 ∨ k = 1 ∨ k = 2 ∨ k = 3 ∨ k = 4 ∨ k = 5 ∨ k = 6 ∨ k = 7 by omega) with rfl | rfl | rfl | rfl | rfl | rfl | rfl | rfl
    · by_cases hle : b ≤ 4 * T
      · go_wp2_with fail
        go_ret2
        exact ⟨.inl ⟨0, lvt_some (by omega) hall.out (by simp [lvtOk]; omega), rfl⟩, rfl⟩
      · go_wp2_with fail
        go_round
        case rel => exact ⟨1, rfl, by omega, fun j hj => by
          rcases Nat.lt_or_ge j 0 with h | h
          · exact hall.out j h
          · obtain rfl : j = 0 := by omega
            simp [lvtOk]; omega⟩
        case measure => simp [intOf]
    · by_cases hle : b ≤ 16 * T
      · go_wp2_with fail
        go_ret2
        exact ⟨.inl ⟨1, lvt_some (by omega) hall.out (by simp [lvtOk]; omega), rfl⟩, rfl⟩
      · go_wp2_with fail
        go_round
        case rel => exact ⟨2, rfl, by omega, fun j hj => by
          rcases Nat.lt_or_ge j 1 with h | h
          · exact hall.out j h
          · obtain rfl : j = 1 := by omega
            simp [lvtOk]; omega⟩
        case measure => simp [intOf]
    · by_cases hle : b ≤ 64 * T
      · go_wp2_with fail
        go_ret2
        exact ⟨.inl ⟨2, lvt_some (by omega) hall.out (by simp [lvtOk]; omega), rfl⟩, rfl⟩
      · go_wp2_with fail
        go_round
        case rel => exact ⟨3, rfl, by omega, fun j hj => by
          rcases Nat.lt_or_ge j 2 with h | h
          · exact hall.out j h
          · obtain rfl : j = 2 := by omega
            simp [lvtOk]; omega⟩
        case measure => simp [intOf]
    · by_cases hle : b ≤ 256 * T
      · go_wp2_with fail
        go_ret2
        exact ⟨.inl ⟨3, lvt_some (by omega) hall.out (by simp [lvtOk]; omega), rfl⟩, rfl⟩
      · go_wp2_with fail
        go_round
        case rel => exact ⟨4, rfl, by omega, fun j hj => by
          rcases Nat.lt_or_ge j 3 with h | h
          · exact hall.out j h
          · obtain rfl : j = 3 := by omega
            simp [lvtOk]; omega⟩
        case measure => simp [intOf]
    · by_cases hle : b ≤ 1024 * T
      · go_wp2_with fail
        go_ret2
        exact ⟨.inl ⟨4, lvt_some (by omega) hall.out (by simp [lvtOk]; omega), rfl⟩, rfl⟩
      · go_wp2_with fail
        go_round
        case rel => exact ⟨5, rfl, by omega, fun j hj => by
          rcases Nat.lt_or_ge j 4 with h | h
          · exact hall.out j h
          · obtain rfl : j = 4 := by omega
            simp [lvtOk]; omega⟩
        case measure => simp [intOf]
    · by_cases hle : b ≤ 4096 * T
      · go_wp2_with fail
        go_ret2
        exact ⟨.inl ⟨5, lvt_some (by omega) hall.out (by simp [lvtOk]; omega), rfl⟩, rfl⟩
      · go_wp2_with fail
        go_round
        case rel => exact ⟨6, rfl, by omega, fun j hj => by
          rcases Nat.lt_or_ge j 5 with h | h
          · exact hall.out j h
          · obtain rfl : j = 5 := by omega
            simp [lvtOk]; omega⟩
        case measure => simp [intOf]
    · by_cases hle : b ≤ 16384 * T
      · go_wp2_with fail
        go_ret2
        exact ⟨.inl ⟨6, lvt_some (by omega) hall.out (by simp [lvtOk]; omega), rfl⟩, rfl⟩
      · go_wp2_with fail
        go_round
        case rel => exact ⟨7, rfl, by omega, fun j hj => by
          rcases Nat.lt_or_ge j 6 with h | h
          · exact hall.out j h
          · obtain rfl : j = 6 := by omega
            simp [lvtOk]; omega⟩
        case measure => simp [intOf]
    · go_wp2_with fail
      go_ret2
      exact ⟨.inr ⟨lvt_none hall.out, rfl⟩, rfl⟩
end Go.Proofs.Ytpmpbfkpiocleaa

/- Validity, bends, levels, single points of cubics: the program's side. Conditions: as each states. -/
namespace Go.Proofs.Ytpmpbfkpiocleaa
open Go.RowKit
set_option linter.unusedVariables false
set_option maxRecDepth 100000

theorem Cb.all {q : Cb} (h : q.ok) : true = q.pts.all pt2Ok := by
  obtain ⟨h1, h2, h3, h4⟩ := h
  simp [Cb.pts, pt2Ok, h1, h2, h3, h4]
theorem validCubic_yes (q : Cb) (hq : q.ok) (w : World) : Calls Try.prog 21 #[cbV q] w fun e w' => e = .returned (.bool true) ∧ Below w.heap.size w w' := by
  have hc := Lib.hid (fun A n c lo hi W hr h1 h2 => validPts_any A n c lo hi q.pts true (Cb.all hq) W hr h1 h2)
  have hz : (w.alloc (.cells #[.int .i64 q.ax, .int .i64 q.ay, .int .i64 q.bx, .int .i64 q.b, .int .i64 q.cx, .int .i64 q.cy, .int .i64 q.dx, .int .i64 q.dy] 26 (0, 0))).heap.size = w.heap.size + 1 := by simp
  have hf := four_pts (w.alloc (.cells #[.int .i64 q.ax, .int .i64 q.ay, .int .i64 q.bx, .int .i64 q.b, .int .i64 q.cx, .int .i64 q.cy, .int .i64 q.dx, .int .i64 q.dy] 26 (0, 0))) q
  rw [hz] at hf
  replace hf := Lib.hid hf
  clear hz hq
  obtain ⟨L, hL⟩ : ∃ L, L = q.pts := ⟨_, rfl⟩
  rw [← hL] at hc hf
  clear hL
  obtain ⟨ax, ay, bx, b, cx, cy, dx, dy⟩ := q
  simp only at hf
  simp only [cbV]
  go_enter Try.func21, Try.ntmps21
  go_wp2_with fail
  refine (hc.out _ 4 4 _ _ _ hf.out (Nat.le_refl _) (by omega)).mono ?_
  rintro e w1 ⟨rfl, hb1⟩
  have hB1 := (Go.Joins.below_alloc2 w (.cells #[.int .i64 ax, .int .i64 ay, .int .i64 bx, .int .i64 b, .int .i64 cx, .int .i64 cy, .int .i64 dx, .int .i64 dy] 26 (0, 0)) (.cells #[.int .i64 ax, .int .i64 ay, .int .i64 bx, .int .i64 b, .int .i64 cx, .int .i64 cy, .int .i64 dx, .int .i64 dy] 24 (0, 0))).trans (hb1.mono (Go.Joins.below_alloc2 w _ _).size)
  clear hb1
  go_wp2_with fail
  go_ret
  exact ⟨rfl, hB1⟩

theorem bendC_bd {q : Cb} (h : q.ok) : 0 ≤ bendC q ∧ bendC q ≤ 2097152 ∧ (-1048576 ≤ q.ax - 2 * q.bx + q.cx ∧ q.ax - 2 * q.bx + q.cx ≤ 1048576) ∧ (-1048576 ≤ q.ay - 2 * q.b + q.cy ∧ q.ay - 2 * q.b + q.cy ≤ 1048576) ∧ (-1048576 ≤ q.bx - 2 * q.cx + q.dx ∧ q.bx - 2 * q.cx + q.dx ≤ 1048576) ∧ (-1048576 ≤ q.b - 2 * q.cy + q.dy ∧ q.b - 2 * q.cy + q.dy ≤ 1048576) := by
  obtain ⟨h1, h2, h3, h4⟩ := h
  obtain ⟨a1, a2⟩ := ptOk_iff.1 h1
  obtain ⟨b1, b2⟩ := ptOk_iff.1 h2
  obtain ⟨c1, c2⟩ := ptOk_iff.1 h3
  obtain ⟨d1, d2⟩ := ptOk_iff.1 h4
  have e1 := szI_cases (q.ax - 2 * q.bx + q.cx) (q.ay - 2 * q.b + q.cy)
  have e2 := szI_cases (q.bx - 2 * q.cx + q.dx) (q.b - 2 * q.cy + q.dy)
  have e3 : szI (q.ax - 2 * q.bx + q.cx) (q.ay - 2 * q.b + q.cy) ≤ 2097152 := szI_le (by omega) (by omega) (by omega) (by omega)
  have e4 : szI (q.bx - 2 * q.cx + q.dx) (q.b - 2 * q.cy + q.dy) ≤ 2097152 := szI_le (by omega) (by omega) (by omega) (by omega)
  have e5 : bendC q = imax (szI (q.ax - 2 * q.bx + q.cx) (q.ay - 2 * q.b + q.cy)) (szI (q.bx - 2 * q.cx + q.dx) (q.b - 2 * q.cy + q.dy)) := rfl
  refine ⟨?_, ?_, by omega, by omega, by omega, by omega⟩
  · rw [e5]; unfold imax; split <;> omega
  · rw [e5]; unfold imax; split <;> omega

set_option maxHeartbeats 4000000 in
theorem bendOf_any (q : Cb) (hq : q.ok) (w : World) : Calls Try.prog 47 #[cbV q] w fun e w' => e = .returned (.int .i64 (bendC q)) ∧ Below w.heap.size w w' := by
  obtain ⟨s1, s2, s3, s4, s5, s6⟩ := bendC_bd hq
  obtain ⟨ha, hb, hc, hd⟩ := hq
  obtain ⟨a1, a2⟩ := ptOk_iff.1 ha
  obtain ⟨b1, b2⟩ := ptOk_iff.1 hb
  obtain ⟨c1, c2⟩ := ptOk_iff.1 hc
  obtain ⟨d1, d2⟩ := ptOk_iff.1 hd
  have k1 := Lib.hid (fun A c lo hi p c' lo' hi' W hP h1 hN h2 => combine4_any A c lo hi q p c' lo' hi' 1 (-2) 1 0 W hP h1 hN h2 ⟨s4_small a1 (by omega), s4_small a2 (by omega)⟩ ⟨s4_small b1 (by omega), s4_small b2 (by omega)⟩ ⟨s4_small c1 (by omega), s4_small c2 (by omega)⟩ ⟨s4_small d1 (by omega), s4_small d2 (by omega)⟩)
  have k2 := Lib.hid (fun A c lo hi p c' lo' hi' W hP h1 hN h2 => combine4_any A c lo hi q p c' lo' hi' 0 1 (-2) 1 W hP h1 hN h2 ⟨s4_small a1 (by omega), s4_small a2 (by omega)⟩ ⟨s4_small b1 (by omega), s4_small b2 (by omega)⟩ ⟨s4_small c1 (by omega), s4_small c2 (by omega)⟩ ⟨s4_small d1 (by omega), s4_small d2 (by omega)⟩)
  rw [show dot4 q.ax q.bx q.cx q.dx 1 (-2) 1 0 = q.ax - 2 * q.bx + q.cx by unfold dot4; omega, show dot4 q.ay q.b q.cy q.dy 1 (-2) 1 0 = q.ay - 2 * q.b + q.cy by unfold dot4; omega] at k1
  rw [show dot4 q.ax q.bx q.cx q.dx 0 1 (-2) 1 = q.bx - 2 * q.cx + q.dx by unfold dot4; omega, show dot4 q.ay q.b q.cy q.dy 0 1 (-2) 1 = q.b - 2 * q.cy + q.dy by unfold dot4; omega] at k2
  have z1 := Lib.hid (fun W => sizeOf_any (q.ax - 2 * q.bx + q.cx) (q.ay - 2 * q.b + q.cy) W (by omega) (by omega))
  have z2 := Lib.hid (fun W => sizeOf_any (q.bx - 2 * q.cx + q.dx) (q.b - 2 * q.cy + q.dy) W (by omega) (by omega))
  have hpt := Lib.hid (fun W => cpoints_any q W)
  have e5 : bendC q = imax (szI (q.ax - 2 * q.bx + q.cx) (q.ay - 2 * q.b + q.cy)) (szI (q.bx - 2 * q.cx + q.dx) (q.b - 2 * q.cy + q.dy)) := rfl
  rw [e5]
  generalize q.ax - 2 * q.bx + q.cx = X at *
  generalize q.ay - 2 * q.b + q.cy = Y at *
  generalize q.bx - 2 * q.cx + q.dx = U at *
  generalize q.b - 2 * q.cy + q.dy = V at *
  generalize szI X Y = P at *
  generalize szI U V = Q at *
  obtain ⟨L, hL⟩ : ∃ L, L = q.pts := ⟨_, rfl⟩
  rw [← hL] at k1 k2 hpt
  have hLl : Hid (L.length = 4) := Lib.hid (by rw [hL]; rfl)
  clear s1 s2 s3 s4 s5 s6 ha hb hc hd a1 a2 b1 b2 c1 c2 d1 d2 e5 hL
  obtain ⟨ax, ay, bx, b, cx, cy, dx, dy⟩ := q
  simp only [cbV] at hpt
  simp only [cbV]
  go_enter Try.func47, Try.ntmps47
  go_wp2_with fail
  refine (hpt.out _).mono ?_
  rintro e w1 ⟨g, rfl, hP1, hb1⟩
  have hB1 := (Go.Joins.below_alloc1 w _).trans (hb1.mono (Go.Joins.below_alloc1 w _).size)
  have hz1 := hB1.size
  have hrd1 := Lib.hid (rdS_own ptC_len (by omega) hP1 hLl.out)
  clear hb1 hP1
  go_wp2_with fail
  refine (k1.out _ _ _ _ w1.heap.size 4 _ _ _ (hrd1.out.frame (good_flat _) (Below.sameB (Go.Joins.below_alloc1 _ _) (Nat.le_refl _))) (by simp) (four_ints _ _ _ _ _) (Nat.le_refl _)).mono ?_
  rintro e w2 ⟨rfl, hb2⟩
  have hba := (Go.Joins.below_alloc1 w1 _).trans (hb2.mono (Go.Joins.below_alloc1 w1 _).size)
  have hrd2 := Lib.hid (hrd1.out.frame (good_flat _) (Below.sameB hba (Nat.le_refl _)))
  have hB2 := hB1.trans (hba.mono hz1)
  have hzb := hba.size
  clear hb2 hB1 hrd1 hba k1
  go_wp2_with fail
  refine (z1.out _).mono ?_
  rintro e w3 ⟨rfl, hb3⟩
  have hrd3 := Lib.hid (hrd2.out.frame (good_flat _) (Below.sameB hb3 hzb))
  have hB3 := hB2.trans (hb3.mono hB2.size)
  have hz3 := hb3.size
  clear hb3 hB2 hrd2
  go_wp2_with fail
  refine (k2.out _ _ _ _ w3.heap.size 4 _ _ _ (hrd3.out.frame (good_flat _) (Below.sameB (Go.Joins.below_alloc1 _ _) (by omega))) (by simp; omega) (four_ints _ _ _ _ _) (Nat.le_refl _)).mono ?_
  rintro e w4 ⟨rfl, hb4⟩
  have hB4 := (hB3.alloc hB3.size _).trans (hb4.mono (hB3.alloc hB3.size _).size)
  clear hb4 hB3 hrd3
  go_wp2_with fail
  refine (z2.out _).mono ?_
  rintro e w5 ⟨rfl, hb5⟩
  have hB5 := hB4.trans (hb5.mono hB4.size)
  clear hb5 hB4
  go_wp2_with fail
  all_goals
    go_ret
    exact ⟨ret_int (by unfold imax; repeat' split <;> try omega), hB5⟩
end Go.Proofs.Ytpmpbfkpiocleaa

