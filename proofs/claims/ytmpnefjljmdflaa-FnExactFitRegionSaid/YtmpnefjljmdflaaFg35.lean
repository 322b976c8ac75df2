/- slices.Index at bool; slices.Grow and slices.Concat at points. Conditions: as each states. -/
import Derived.Lib.AppendZerosOnto
import Derived.Lib.SliceRun
import Derived.Lib.Walk
import Derived.Test.YtmpnefjljmdflaaFg34
import Derived.Test.YtmpnefjljmdflaaFg30
namespace Go.Proofs.Ytmpnefjljmdflaa
open Go.RowKit
set_option linter.unusedVariables false
set_option maxRecDepth 100000

theorem indexBool_any (A : Option Addr) (n c lo hi : Nat) (Cs : List Bool) (w : World) (hr : RdS 1 (FlatR boolC) w lo hi A n Cs) (hhi : hi ≤ w.heap.size) (hn : n ≤ 1000000) :
    Calls Try.prog 73 #[.slice A n c, .bool true] w fun e w' => ∃ r : Int, e = .returned (.int .i64 r) ∧ ((∃ k : Nat, r = k ∧ Cs[k]? = some true ∧ ∀ j, j < k → Cs[j]? = some false) ∨ (r = -1 ∧ ∀ j, j < n → Cs[j]? = some false)) ∧ w = w' := by
  replace hr := Lib.hid hr
  go_enter Try.func73, Try.ntmps73
  go_wp2
  go_loop [8] (fun i => ∃ k : Nat, k ≤ n ∧ i = .int .i64 k ∧ ∀ j, j < k → Cs[j]? = some false) (fun i => n - (intOf i).toNat)
  case atStart => exact ⟨0, Nat.zero_le _, rfl, fun j hj => absurd hj (Nat.not_lt_zero j)⟩
  case round =>
    obtain ⟨k, hk, rfl, hall⟩ := hrel
    replace hall := Lib.hid hall
    by_cases hlt : k < n
    · obtain ⟨b, off, v, rfl, hb0, hb, hja, hcs⟩ := hr.out.at hlt
      have q0 := hcs 0 _ rfl
      simp only [Nat.mul_one, Nat.add_zero] at q0
      have hbw : b < w.heap.size := by omega
      replace hja := Lib.hid hja
      have hi1 : (0 : Int) ≤ (k : Int) ∧ (k : Int) < (n : Int) := by omega
      clear hcs hb0 hb
      cases v with
      | true =>
        go_wp2
        go_ret
        exact ⟨k, rfl, .inl ⟨k, rfl, hja.out, hall.out⟩, rfl⟩
      | false =>
        go_wp2
        go_round
        case rel => exact ⟨k + 1, by omega, by go_num, fun j hj => by
          rcases Nat.lt_or_ge j k with h | h
          · exact hall.out j h
          · obtain rfl : j = k := by omega
            exact hja.out⟩
        case measure => simp [intOf]; omega
    · go_wp2
      go_ret
      exact ⟨-1, rfl, .inr ⟨rfl, fun j hj => hall.out j (by omega)⟩, rfl⟩

set_option maxHeartbeats 1000000 in
theorem growPt_any (n : Nat) (w : World) (h0 : 1 ≤ n) (hn : n ≤ 1000000) :
    Calls Try.prog 123 #[.slice none 0 0, .int .i64 n] w fun e w' => ∃ (A' : Option Addr) (c' : Nat), e = .returned (.slice A' 0 c') ∧ w'.ownsRow w.heap.size 24 2 (.slice A' 0 c') 0 [] ∧ Below w.heap.size w w' := by
  obtain ⟨i0, hi0, hz0, hs0, hby0⟩ := info_parts infoPt
  have hrz : ∀ ty, (Builtin.append_ #[37, 3] ty #[.slice none 0 0, .int .i64 n]).run Try.prog w = .ok (.slice (some ⟨w.heap.size, 0, none⟩) n (grownCap w n 0 24)) (w.drew.alloc (.cells (#[] ++ Builtin.zeroCells #[.int .i64 0, .int .i64 0] n ++ Builtin.zeroCells #[.int .i64 0, .int .i64 0] (grownCap w n 0 24 - n)) 24)) := fun ty => by
    have h := Lib.run_append_grow_zeros w 37 3 ty 24 i0 (.agg #[.int .i64 0, .int .i64 0]) .i64 .i64 Try.underlying37 Try.underlying3 hi0 hz0 none 0 0 [] (by exact run_firstCells_none w.drew i0.size 0 0 0) n (by omega) (by rw [hs0]; omega) (by omega) (by omega) (by rw [hby0]; omega) (growslice_fits (by omega) (by rw [hby0]; omega))
    rw [Nat.zero_add] at h
    exact h
  have hGn : n ≤ grownCap w n 0 24 := grownCap_ge w _ _ _
  have hG63 : grownCap w n 0 24 ≤ maxLen := grownCap_le_maxLen w n 0 24 (by unfold maxLen; omega)
  generalize grownCap w n 0 24 = G at *
  have hsz : (#[] ++ Builtin.zeroCells #[Value.int .i64 0, Value.int .i64 0] n ++ Builtin.zeroCells #[Value.int .i64 0, Value.int .i64 0] (G - n)).size = G * 2 := by
    rw [Array.size_append, Array.size_append, size_zeroCells, size_zeroCells]
    show 0 + n * 2 + (G - n) * 2 = G * 2
    omega
  generalize (#[] ++ Builtin.zeroCells #[Value.int .i64 0, Value.int .i64 0] n ++ Builtin.zeroCells #[Value.int .i64 0, Value.int .i64 0] (G - n)) = cur at *
  have hni : ¬ ((n : Int) < 0) := by omega
  have hnp : (0 : Int) < (n : Int) := by omega
  have q1 : IntKind.i64.wrap ((n : Int) - 0) = (n : Int) := by rw [wi (by omega)]; omega
  have hG2 : (G : Int) ≤ 9223372036854775807 := by unfold maxLen at hG63; omega
  have hown : (w.drew.alloc (.cells cur 24 (0, 0))).ownsRow w.heap.size 24 2 (.slice (some ⟨w.heap.size, 0, none⟩) 0 G) 0 [] := World.ownsRow_made w.drew cur G (Nat.le_refl _) hG63 hsz
  have hbw : Below w.heap.size w (w.drew.alloc (.cells cur 24 (0, 0))) := (Below.drew (Below.refl _ w)).alloc (Nat.le_refl _) _
  replace hown := Lib.hid hown
  replace hbw := Lib.hid hbw
  clear hsz hG63
  go_enter Try.func123, Try.ntmps123
  go_wp2_with (at_builtin; refine Lib.wpList_append_run _ rfl _ _ _ _ rfl _ _ rfl rfl _ _ (hrz _) ?_)
  all_goals
    go_ret
    exact ⟨_, _, rfl, hown.out, hbw.out⟩

theorem ptC_one (a : Int × Int) : ∀ u ∈ ptC a, u.oneCell' = true := by
  intro u hu
  simp only [ptC, List.mem_cons, List.not_mem_nil, or_false] at hu
  rcases hu with rfl | rfl <;> rfl

set_option maxHeartbeats 4000000 in
theorem concatPt_any (g : Nat) (A1 A2 : Option Addr) (n1 c1 n2 c2 lo hi : Nat) (L1 L2 : List (Int × Int)) (w : World) (h1 : w.cell? ⟨g, 0, none⟩ = some (.slice A1 n1 c1)) (h2 : w.cell? ⟨g, 1, none⟩ = some (.slice A2 n2 c2)) (hr1 : RdS 2 (FlatR ptC) w lo hi A1 n1 L1) (hr2 : RdS 2 (FlatR ptC) w lo hi A2 n2 L2) (hhi : hi ≤ w.heap.size) (h0 : 1 ≤ n1 + n2) (hn : n1 + n2 ≤ 100000) :
    Calls Try.prog 74 #[.slice (some ⟨g, 0, none⟩) 2 2] w fun e w' => ∃ (A' : Option Addr) (c' : Nat), e = .returned (.slice A' (n1 + n2) c') ∧ w'.ownsRow w.heap.size 24 2 (.slice A' (n1 + n2) c') (n1 + n2) ((L1 ++ L2).flatMap ptC) ∧ Below w.heap.size w w' := by
  have hgl : g < w.heap.size := cell_lt h1
  have hgr := Lib.hid (growPt_any (n1 + n2) w h0 (by omega))
  obtain ⟨N, hN⟩ : ∃ N, N = n1 + n2 := ⟨_, rfl⟩
  rw [← hN] at hgr ⊢
  have hs := Lib.hid (fun W (h : Below w.heap.size w W) => src_rd ptC_len ptC_one (hr1.frame (good_flat _) (Below.sameB h hhi)))
  have hs2 := Lib.hid (fun W (h : Below w.heap.size w W) => src_rd ptC_len ptC_one (hr2.frame (good_flat _) (Below.sameB h hhi)))
  have q1 : IntKind.i64.wrap ((n1 : Int) + (n2 : Int)) = (N : Int) := by rw [wi (by omega)]; omega
  have q0 : IntKind.i64.wrap (0 + (n1 : Int)) = (n1 : Int) := by rw [wi (by omega)]; omega
  have hn1 : ¬ ((n1 : Int) < 0) := by omega
  have hnN : ¬ ((N : Int) < 0) := by omega
  replace hN := Lib.hid hN
  clear hr1 hr2 h0
  go_enter Try.func74, Try.ntmps74
  go_wp2_with fail
  go_loop [3, 11] (fun sv kv => ∃ k : Nat, k ≤ 2 ∧ kv = .int .i64 k ∧ ((k = 0 ∧ sv = .int .i64 0) ∨ (k = 1 ∧ sv = .int .i64 n1) ∨ (k = 2 ∧ sv = .int .i64 N))) (fun sv kv => 2 - (intOf kv).toNat)
  case atStart => exact ⟨0, by omega, rfl, .inl ⟨rfl, rfl⟩⟩
  case round =>
    obtain ⟨k, hk, rfl, hcase⟩ := hrel
    rcases hcase with ⟨rfl, rfl⟩ | ⟨rfl, rfl⟩ | ⟨rfl, rfl⟩
    · go_wp2_with fail
      go_round
      case rel => exact ⟨1, by omega, rfl, .inr (.inl ⟨rfl, by first | rfl | simp⟩)⟩
      case measure => simp [intOf]
    · go_wp2_with fail
      go_round
      case rel => exact ⟨2, by omega, rfl, .inr (.inr ⟨rfl, rfl⟩)⟩
      case measure => simp [intOf]
    · go_wp2_with fail
      refine hgr.out.mono ?_
      rintro e w1 ⟨A', c', rfl, ho, hb1⟩
      replace ho := Lib.hid ho
      have hz1 := hb1.size
      go_wp2_with fail
      go_loopw [6, 27] (fun rv kv wr => ∃ (k : Nat) (A3 : Option Addr) (c3 : Nat), k ≤ 2 ∧ kv = .int .i64 k ∧ Below w.heap.size w wr ∧ ((k = 0 ∧ rv = .slice A3 0 c3 ∧ wr.ownsRow w.heap.size 24 2 (.slice A3 0 c3) 0 []) ∨ (k = 1 ∧ rv = .slice A3 n1 c3 ∧ wr.ownsRow w.heap.size 24 2 (.slice A3 n1 c3) n1 (L1.flatMap ptC)) ∨ (k = 2 ∧ rv = .slice A3 N c3 ∧ wr.ownsRow w.heap.size 24 2 (.slice A3 N c3) N ((L1 ++ L2).flatMap ptC)))) (fun rv kv wr => 2 - (intOf kv).toNat)
      case atStart => exact ⟨0, A', c', by omega, rfl, hb1, .inl ⟨rfl, rfl, ho.out⟩⟩
      case round =>
        clear ho hb1 hz1
        obtain ⟨k, A3, c3, hk, rfl, hbr, hcase⟩ := hrel
        have hzr := hbr.size
        have g0 := (hbr.cell (p := ⟨g, 0, none⟩) hgl).trans h1
        have g1 := (hbr.cell (p := ⟨g, 1, none⟩) hgl).trans h2
        have hgr' : g < wr.heap.size := by omega
        have hsr := Lib.hid (hs.out wr hbr)
        have hsr2 := Lib.hid (hs2.out wr hbr)
        rcases hcase with ⟨rfl, rfl, ho⟩ | ⟨rfl, rfl, ho⟩ | ⟨rfl, rfl, ho⟩
        · replace ho := Lib.hid ho
          go_wp2_with (at_builtin; refine wpApp rfl (.tmp 31) (.tmp 32) elemPt rfl (v := .slice A3 0 c3) (n := 0) (xs := []) rfl ho.out rfl hsr.out (by omega) (by omega) (by omega) n1 (by omega) ?_; intro A4 c4 w4 ho4 hb4; replace ho4 := Lib.hid ho4)
          go_roundw
          case rel => exact ⟨1, A4, c4, by omega, rfl, hbr.trans hb4, .inr (.inl ⟨rfl, rfl, by have := ho4.out; simpa using this⟩)⟩
          case measure => simp [intOf]
        · replace ho := Lib.hid ho
          go_wp2_with (at_builtin; refine wpApp rfl (.tmp 31) (.tmp 32) elemPt rfl (v := .slice A3 n1 c3) (n := n1) (xs := L1.flatMap ptC) rfl ho.out rfl hsr2.out (by omega) (by omega) (by omega) N (by have := hN.out; omega) ?_; intro A4 c4 w4 ho4 hb4; replace ho4 := Lib.hid ho4)
          go_roundw
          case rel => exact ⟨2, A4, c4, by omega, rfl, hbr.trans hb4, .inr (.inr ⟨rfl, rfl, by rw [List.flatMap_append]; exact ho4.out⟩)⟩
          case measure => simp [intOf]
        · replace ho := Lib.hid ho
          replace hbr := Lib.hid hbr
          go_wp2_with fail
          go_ret
          exact ⟨_, _, rfl, ho.out, hbr.out⟩
end Go.Proofs.Ytmpnefjljmdflaa

