/- Sizes, levels, points of curves: the program's side. Conditions: as each states. -/
import Derived.Test.YtgelkdcggnffeaaFer17
namespace Go.Proofs.Ytgelkdcggnffeaa
open Go.RowKit
set_option linter.unusedVariables false
set_option maxRecDepth 100000

theorem sizeOf_any (x y : Int) (w : World) (hx : -1099511627776 ≤ x ∧ x ≤ 1099511627776) (hy : -1099511627776 ≤ y ∧ y ≤ 1099511627776) :
    Calls Try.prog 74 #[.agg #[.int .i64 x, .int .i64 y]] w fun e w' => e = .returned (.int .i64 (szI x y)) ∧ Below w.heap.size w w' := by
  go_enter Try.func74, Try.ntmps74
  go_wp2_with fail
  all_goals
    go_ret
    exact ⟨ret_int (by unfold szI imax; repeat' split <;> try omega), Go.Joins.below_alloc1 _ _⟩

theorem levelFor_any (b : Int) (w : World) (h0 : 0 ≤ b) (h1 : b ≤ 1099511627776) :
    Calls Try.prog 70 #[.int .i64 b, .int .i64 1] w fun e w' => ((∃ l : Nat, lvl b = some l ∧ e = .returned (.tuple #[.int .i64 l, .int .i64 0])) ∨ (lvl b = none ∧ e = .returned (.tuple #[.int .i64 0, .int .i64 5]))) ∧ w = w' := by
  go_enter Try.func70, Try.ntmps70
  go_wp2_with fail
  go_loop [6] (fun i => ∃ k : Nat, i = .int .i64 k ∧ k ≤ 7 ∧ ∀ j, j < k → lvlOk b j = false) (fun i => 7 - (intOf i).toNat)
  case atStart => exact ⟨0, rfl, by omega, fun j hj => by omega⟩
  case round =>
    obtain ⟨k, rfl, hk, hall⟩ := hrel
    replace hall := Lib.hid hall
    rcases (show k = 0 ∨ k = 1 ∨ k = 2 ∨ k = 3 ∨ k = 4 ∨ k = 5 ∨ k = 6 ∨ k = 7 by omega) with rfl | rfl | rfl | rfl | rfl | rfl | rfl | rfl
    · by_cases hle : b ≤ 4
      · go_wp2_with fail
        go_ret2
        exact ⟨.inl ⟨0, lvl_some (by omega) hall.out (by simp [lvlOk]; omega), rfl⟩, rfl⟩
      · go_wp2_with fail
        go_round
        case rel => exact ⟨1, rfl, by omega, fun j hj => by
          rcases Nat.lt_or_ge j 0 with h | h
          · exact hall.out j h
          · obtain rfl : j = 0 := by omega
            simp [lvlOk]; omega⟩
        case measure => simp [intOf]
    · by_cases hle : b ≤ 16
      · go_wp2_with fail
        go_ret2
        exact ⟨.inl ⟨1, lvl_some (by omega) hall.out (by simp [lvlOk]; omega), rfl⟩, rfl⟩
      · go_wp2_with fail
        go_round
        case rel => exact ⟨2, rfl, by omega, fun j hj => by
          rcases Nat.lt_or_ge j 1 with h | h
          · exact hall.out j h
          · obtain rfl : j = 1 := by omega
            simp [lvlOk]; omega⟩
        case measure => simp [intOf]
    · by_cases hle : b ≤ 64
      · go_wp2_with fail
        go_ret2
        exact ⟨.inl ⟨2, lvl_some (by omega) hall.out (by simp [lvlOk]; omega), rfl⟩, rfl⟩
      · go_wp2_with fail
        go_round
        case rel => exact ⟨3, rfl, by omega, fun j hj => by
          rcases Nat.lt_or_ge j 2 with h | h
          · exact hall.out j h
          · obtain rfl : j = 2 := by omega
            simp [lvlOk]; omega⟩
        case measure => simp [intOf]
    · by_cases hle : b ≤ 256
      · go_wp2_with fail
        go_ret2
        exact ⟨.inl ⟨3, lvl_some (by omega) hall.out (by simp [lvlOk]; omega), rfl⟩, rfl⟩
      · go_wp2_with fail
        go_round
        case rel => exact ⟨4, rfl, by omega, fun j hj => by
          rcases Nat.lt_or_ge j 3 with h | h
          · exact hall.out j h
          · obtain rfl : j = 3 := by omega
            simp [lvlOk]; omega⟩
        case measure => simp [intOf]
    · by_cases hle : b ≤ 1024
      · go_wp2_with fail
        go_ret2
        exact ⟨.inl ⟨4, lvl_some (by omega) hall.out (by simp [lvlOk]; omega), rfl⟩, rfl⟩
      · go_wp2_with fail
        go_round
        case rel => exact ⟨5, rfl, by omega, fun j hj => by
          rcases Nat.lt_or_ge j 4 with h | h
          · exact hall.out j h
          · obtain rfl : j = 4 := by omega
            simp [lvlOk]; omega⟩
        case measure => simp [intOf]
    · by_cases hle : b ≤ 4096
      · go_wp2_with fail
        go_ret2
        exact ⟨.inl ⟨5, lvl_some (by omega) hall.out (by simp [lvlOk]; omega), rfl⟩, rfl⟩
      · go_wp2_with fail
        go_round
        case rel => exact ⟨6, rfl, by omega, fun j hj => by
          rcases Nat.lt_or_ge j 5 with h | h
          · exact hall.out j h
          · obtain rfl : j = 5 := by omega
            simp [lvlOk]; omega⟩
        case measure => simp [intOf]
    · by_cases hle : b ≤ 16384
      · go_wp2_with fail
        go_ret2
        exact ⟨.inl ⟨6, lvl_some (by omega) hall.out (by simp [lvlOk]; omega), rfl⟩, rfl⟩
      · go_wp2_with fail
        go_round
        case rel => exact ⟨7, rfl, by omega, fun j hj => by
          rcases Nat.lt_or_ge j 6 with h | h
          · exact hall.out j h
          · obtain rfl : j = 6 := by omega
            simp [lvlOk]; omega⟩
        case measure => simp [intOf]
    · go_wp2_with fail
      go_ret2
      exact ⟨.inr ⟨lvl_none hall.out, rfl⟩, rfl⟩

/-- a curve as a value -/
abbrev qV (q : Qd) : Value := .agg #[.int .i64 q.ax, .int .i64 q.ay, .int .i64 q.bx, .int .i64 q.b, .int .i64 q.cx, .int .i64 q.cy]
theorem num_comm (a b c u k n : Int) (hu : u = n - k) : a * (u * u) + b * (2 * u * k) + c * (k * k) = numI a b c k n := by
  unfold numI; rw [← hu]; grind
theorem mul_sm {x y : Int} (hx : -262144 ≤ x ∧ x ≤ 262144) (hy : 0 ≤ y ∧ y ≤ 8192) : Sm (x * y) := by
  have h := prod_bd (x := x) (y := y) (A := 262144) (B := 8192) hx.1 hx.2 (by omega) hy.2
  unfold Sm; omega

set_option maxHeartbeats 4000000 in
theorem quadAt_any (ax ay bx b cx cy k n : Int) (w : World) (ha : ptOk ax ay = true) (hb : ptOk bx b = true) (hc : ptOk cx cy = true) (h0 : 0 ≤ k) (hkn : k ≤ n) (hn1 : 0 < n) (hn2 : n ≤ 64) :
    Calls Try.prog 138 #[qV ⟨ax, ay, bx, b, cx, cy⟩, .int .i64 k, .int .i64 n] w fun e w' => e = .returned (.agg #[.int .i64 (mixI ax bx cx k n), .int .i64 (mixI ay b cy k n)]) ∧ Below w.heap.size w w' := by
  obtain ⟨a1, a2⟩ := ptOk_iff.1 ha
  obtain ⟨b1, b2⟩ := ptOk_iff.1 hb
  obtain ⟨c1, c2⟩ := ptOk_iff.1 hc
  obtain ⟨u, hu⟩ : ∃ u, u = n - k := ⟨_, rfl⟩
  have huu := df64 (x := u) (y := u) (by omega) (by omega) (by omega) (by omega)
  have hkk := df64 (x := k) (y := k) (by omega) (by omega) (by omega) (by omega)
  have huk := df64 (x := u) (y := k) (by omega) (by omega) (by omega) (by omega)
  have hnn := df64 (x := n) (y := n) (by omega) (by omega) (by omega) (by omega)
  have hnn1 : 0 < n * n := Int.mul_pos hn1 hn1
  have e1 : 2 * u * k = 2 * (u * k) := by rw [Int.mul_assoc]
  have q0 : IntKind.i64.wrap (n - k) = u := by rw [wi (by omega), hu]
  have q1 : IntKind.i64.wrap (u * u) = u * u := wi (by omega)
  have q3 : IntKind.i64.wrap (2 * u) = 2 * u := wi (by omega)
  have q4 : IntKind.i64.wrap (2 * u * k) = 2 * u * k := wi (by omega)
  have q7 : IntKind.i64.wrap (k * k) = k * k := wi (by omega)
  have q10 : IntKind.i64.wrap (n * n) = n * n := wi (by omega)
  have x1 := num_bd a1 b1 c1 h0 hkn
  have x2 := num_bd a2 b2 c2 h0 hkn
  have n1 := num_comm ax bx cx u k n hu
  have n2 := num_comm ay b cy u k n hu
  have m0 := mul_sm (x := ax) (y := u * u) a1 (by omega)
  have m1 := mul_sm (x := bx) (y := 2 * u * k) b1 (by omega)
  have m2 := mul_sm (x := cx) (y := k * k) c1 (by omega)
  have m3 := mul_sm (x := ay) (y := u * u) a2 (by omega)
  have m4 := mul_sm (x := b) (y := 2 * u * k) b2 (by omega)
  have m5 := mul_sm (x := cy) (y := k * k) c2 (by omega)
  have hcm := Lib.hid (fun p q c W hP hN => combine_any p q c ax ay bx b cx cy (u * u) (2 * u * k) (k * k) W hP hN m0 m1 m2 m3 m4 m5)
  have hdv := Lib.hid (fun W => divPt_any (numI ax bx cx k n) (numI ay b cy k n) (n * n) W (by omega) (by omega) (by omega) (by omega) hnn1 (by omega))
  rw [n1, n2] at hcm
  have hpt := Lib.hid (fun W => points_any ax ay bx b cx cy W)
  replace hu := Lib.hid hu
  have hM1 : mixI ax bx cx k n = rnd (numI ax bx cx k n) (n * n) := rfl
  have hM2 : mixI ay b cy k n = rnd (numI ay b cy k n) (n * n) := rfl
  rw [hM1, hM2]
  clear x1 x2 n1 n2 m0 m1 m2 m3 m4 m5 huu hkk huk hnn hnn1 e1 hM1 hM2
  generalize numI ax bx cx k n = X at *
  generalize numI ay b cy k n = Y at *
  have hnew := heap_new2 w (.cells #[.int .i64 ax, .int .i64 ay, .int .i64 bx, .int .i64 b, .int .i64 cx, .int .i64 cy] 48 (0, 0)) (.cells #[.int .i64 0, .int .i64 0] 24 (0, 0))
  have hB0 : Below w.heap.size w ((w.alloc (.cells #[.int .i64 ax, .int .i64 ay, .int .i64 bx, .int .i64 b, .int .i64 cx, .int .i64 cy] 48 (0, 0))).alloc (.cells #[.int .i64 0, .int .i64 0] 24 (0, 0))) := Go.Joins.below_alloc2 _ _ _
  have r0 : PB ((w.alloc (.cells #[.int .i64 ax, .int .i64 ay, .int .i64 bx, .int .i64 b, .int .i64 cx, .int .i64 cy] 48 (0, 0))).alloc (.cells #[.int .i64 0, .int .i64 0] 24 (0, 0))) (w.heap.size + 1) 0 0 := hnew.2
  clear hnew
  go_enter Try.func138, Try.ntmps138
  go_wp2_with fail
  refine (hpt.out _).mono ?_
  rintro e w1 ⟨g, rfl, hP1, hg1, hb1⟩
  replace r0 := r0.below hb1
  have hB1 := hB0.trans (hb1.mono hB0.size)
  have hz1 := hB1.size
  clear hb1 hB0
  go_wp2_with fail
  refine (hcm.out g w1.heap.size 3 _ (hP1.below (Go.Joins.below_alloc1 _ _)) ⟨by go_simp, by go_simp, by go_simp, by simp⟩).mono ?_
  rintro e w2 ⟨rfl, hb2⟩
  replace r0 := (r0.alloc _).below hb2
  have hB2 := (hB1.alloc hz1 _).trans (hb2.mono (hB1.alloc hz1 _).size)
  clear hb2 hB1 hP1
  go_wp2_with fail
  refine (hdv.out w2).mono ?_
  rintro e w3 ⟨rfl, hb3⟩
  replace r0 := r0.below hb3
  have hB3 := hB2.trans (hb3.mono hB2.size)
  clear hb3 hB2
  obtain ⟨v0, v1, vf, vl⟩ := r0.cells
  go_wp2_with fail
  refine bodyPost_ret (v := .agg #[.int .i64 (rnd X (n * n)), .int .i64 (rnd Y (n * n))]) (by simp [results, Try.results138, go_sem, v0, v1]) rfl ⟨rfl, ?_⟩
  exact (hB3.setCell (p := ⟨w.heap.size + 1, 0, none⟩) (by show w.heap.size ≤ w.heap.size + 1; omega) _).setCell (p := ⟨w.heap.size + 1, 1, none⟩) (by show w.heap.size ≤ w.heap.size + 1; omega) _

/-- the path along a curve, made by the call -/
def FlatTo (q : Qd) (w : World) (e : Ending) (w' : World) (bad good : Value) : Prop :=
  (lvl (bendQ q) = none ∧ e = .returned (.tuple #[.slice none 0 0, bad]) ∧ Below w.heap.size w w') ∨
  ∃ (l : Nat) (A : Option Addr) (c : Nat), lvl (bendQ q) = some l ∧ e = .returned (.tuple #[.slice A (2 ^ l + 1) c, good]) ∧ RdS 2 (FlatR ptC) w' w.heap.size w'.heap.size A (2 ^ l + 1) (flatL q (2 ^ l)) ∧ Below w.heap.size w w'
theorem bendQ_bd {q : Qd} (h : q.ok) : 0 ≤ bendQ q ∧ bendQ q ≤ 2097152 ∧ (-1048576 ≤ q.ax - 2 * q.bx + q.cx ∧ q.ax - 2 * q.bx + q.cx ≤ 1048576) ∧ (-1048576 ≤ q.ay - 2 * q.b + q.cy ∧ q.ay - 2 * q.b + q.cy ≤ 1048576) := by
  obtain ⟨h1, h2, h3⟩ := h
  obtain ⟨a1, a2⟩ := ptOk_iff.1 h1
  obtain ⟨b1, b2⟩ := ptOk_iff.1 h2
  obtain ⟨c1, c2⟩ := ptOk_iff.1 h3
  unfold bendQ szI imax
  refine ⟨?_, ?_, by omega, by omega⟩
  · repeat' split
    all_goals omega
  · repeat' split
    all_goals omega
theorem ptC_flat_snoc (L : List (Int × Int)) (p : Int × Int) : (L ++ [p]).flatMap ptC = L.flatMap ptC ++ ptC p := by simp

end Go.Proofs.Ytgelkdcggnffeaa

