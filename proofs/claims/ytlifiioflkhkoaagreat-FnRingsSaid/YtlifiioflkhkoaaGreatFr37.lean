/- slices.Compact at legs. Printed by mk_cp1.py. Conditions: as each states. -/
import Derived.Shelf.SlSortCmp.NoneTotal
import Derived.Shelf.SlSortCmp.WholeK
import Derived.Shelf.SlLaysF0
import Derived.Ground.SlsfProg
import Derived.Ground.NamesProg
import Derived.Test.YtlifiioflkhkoaaGreatFr15
import Derived.Test.YtlifiioflkhkoaaGreatFr36
import Derived.Test.YtlifiioflkhkoaaGreatFr27
import Derived.Test.YtlifiioflkhkoaaGreatFr18
namespace Go.Proofs.YtlifiioflkhkoaaGreat
open Go.RowKit
set_option linter.unusedVariables false
set_option maxRecDepth 100000

abbrev Leg := Pnt × Pnt
def keepE (L : List Leg) : Nat → List Leg
  | 0 => []
  | k + 1 => if k = 0 ∨ L.getD k ((0, 0), (0, 0)) ≠ L.getD (k - 1) ((0, 0), (0, 0)) then keepE L k ++ [L.getD k ((0, 0), (0, 0))] else keepE L k
theorem keepE_take : ∀ (M : List Leg) (k : Nat), k ≤ M.length → (∀ j, 1 ≤ j → j < k → M.getD j ((0, 0), (0, 0)) ≠ M.getD (j - 1) ((0, 0), (0, 0))) → keepE M k = M.take k
  | M, 0, _, _ => by simp [keepE]
  | M, k + 1, hk, h => by
    have ih := keepE_take M k (by omega) fun j h1 h2 => h j h1 (by omega)
    unfold keepE
    have hc : k = 0 ∨ M.getD k ((0, 0), (0, 0)) ≠ M.getD (k - 1) ((0, 0), (0, 0)) := by
      rcases Nat.eq_zero_or_pos k with h0 | h0
      · exact .inl h0
      · exact .inr (h k h0 (by omega))
    rw [if_pos hc, ih, List.take_succ_eq_append_getElem (by omega), List.getD_eq_getElem?_getD, List.getElem?_eq_getElem (by omega)]
    rfl
theorem keepE_eq {M : List Leg} {k : Nat} (hk : 1 ≤ k) (h : M.getD k ((0, 0), (0, 0)) = M.getD (k - 1) ((0, 0), (0, 0))) : keepE M (k + 1) = keepE M k := by
  show (if k = 0 ∨ M.getD k ((0, 0), (0, 0)) ≠ M.getD (k - 1) ((0, 0), (0, 0)) then keepE M k ++ [M.getD k ((0, 0), (0, 0))] else keepE M k) = _
  rw [if_neg (fun h' => by rcases h' with h' | h'; omega; exact h' h)]
theorem keepE_ne {M : List Leg} {k : Nat} (h : M.getD k ((0, 0), (0, 0)) ≠ M.getD (k - 1) ((0, 0), (0, 0))) : keepE M (k + 1) = keepE M k ++ [M.getD k ((0, 0), (0, 0))] := by
  show (if k = 0 ∨ M.getD k ((0, 0), (0, 0)) ≠ M.getD (k - 1) ((0, 0), (0, 0)) then keepE M k ++ [M.getD k ((0, 0), (0, 0))] else keepE M k) = _
  rw [if_pos (.inr h)]
theorem keepE_le (M : List Leg) : ∀ k, (keepE M k).length ≤ k
  | 0 => by simp [keepE]
  | k + 1 => by
    have := keepE_le M k
    unfold keepE
    split
    · simp; omega
    · omega
theorem keepE_mem {M : List Leg} : ∀ {k : Nat} {x : Leg}, k ≤ M.length → x ∈ keepE M k → x ∈ M
  | 0, x, _, h => by simp [keepE] at h
  | k + 1, x, hk, h => by
    unfold keepE at h
    split at h
    · rcases List.mem_append.1 h with h | h
      · exact keepE_mem (by omega) h
      · rw [List.mem_singleton.1 h, List.getD_eq_getElem?_getD, List.getElem?_eq_getElem (by omega)]
        exact List.getElem_mem _
    · exact keepE_mem (by omega) h
theorem own_pastG {size : Nat} {w : World} {B : Nat} {e : TypeId} {g k cap o : Nat} {ys : List Value} (h : w.ownsRow B e size (.slice (some ⟨g, 0, none⟩) k cap) k ys) (ho : k * size ≤ o) (u : Value) : (w.setCell ⟨g, o, none⟩ u).ownsRow B e size (.slice (some ⟨g, 0, none⟩) k cap) k ys := by
  obtain ⟨hl, h2⟩ := h
  rcases h2 with ⟨h0, _⟩ | ⟨g', cap', cur, hv, hg, hh, hn, hcap, hsz, htake⟩
  · cases h0
  · injection hv with e1 _ e3
    injection e1 with e1
    injection e1 with e1
    subst e1; subst e3
    refine ⟨hl, .inr ⟨g, cap, cur.setIfInBounds o u, rfl, hg, Go.Joins.block_setCell hh u, hn, hcap, by simpa using hsz, ?_⟩⟩
    rw [← htake]
    apply List.ext_getElem?
    intro j
    rw [List.getElem?_take, List.getElem?_take]
    split
    · rw [Array.getElem?_toList, Array.getElem?_toList, Array.getElem?_setIfInBounds_ne (by omega)]
    · rfl
theorem own_pastsG {size : Nat} {B : Nat} {e : TypeId} {g k cap : Nat} {ys : List Value} : ∀ (vs : List Value) (o : Nat) (w : World), w.ownsRow B e size (.slice (some ⟨g, 0, none⟩) k cap) k ys → k * size ≤ o → (w.setCells g o vs).ownsRow B e size (.slice (some ⟨g, 0, none⟩) k cap) k ys
  | [], o, w, h, _ => h
  | v :: vs, o, w, h, ho => by
    rw [World.setCells]
    exact own_pastsG vs (o + 1) _ (own_pastG h ho v) (by omega)
theorem run_clear4 (w : World) (ty : TypeId) (g o n c : Nat) (hn : 0 < n) (hc : ∀ j, j < n * 4 → (w.cell? ⟨g, o + j, none⟩).isSome = true) (hf : ∀ j, j < n * 4 → w.frozen? ⟨g, o + j, none⟩ = false) :
    ∃ vs : List Value, ∀ ty, (Builtin.clear_ #[56] ty #[.slice (some ⟨g, o, none⟩) n c]).run Tryz.prog w = .ok (.tuple #[]) (w.setCells g o vs) := by
  have ht : Tryz.prog.underlying 56 = some (.slice 78) := Tryz.underlying56
  have hv : ∀ w, (zeroValue 78).run Tryz.prog w = .ok (.agg #[.int .i64 0, .int .i64 0, .int .i64 0, .int .i64 0]) w := fun w => by simp [go_sem]
  obtain ⟨vs, hvs⟩ : ∃ vs, vs = (Builtin.zeroCells (Value.agg #[.int .i64 0, .int .i64 0, .int .i64 0, .int .i64 0]).cells n).toList := ⟨_, rfl⟩
  have hlen : vs.length = n * 4 := by rw [hvs]; simp [Builtin.zeroCells, Value.cells]
  have hone : ∀ v ∈ vs, v.oneCell' = true := by
    intro v hv'
    rw [hvs] at hv'
    simp [Builtin.zeroCells, Value.cells] at hv'
    obtain ⟨a, _, rfl⟩ := hv'
    rcases (by omega : a % 4 = 0 ∨ a % 4 = 1 ∨ a % 4 = 2 ∨ a % 4 = 3) with h | h | h | h <;> rw [h] <;> rfl
  have hst := run_storeCells_cells (P := Tryz.prog) g o vs 0 w (by rw [hlen]; exact fun j hj => by have := hc j hj; simp only [Nat.add_zero]; exact this) (by rw [hlen]; exact fun j hj => by have := hf j hj; simp only [Nat.add_zero]; exact this) hone
  simp only [Nat.add_zero] at hst
  obtain ⟨m, rfl⟩ : ∃ m, n = m + 1 := ⟨n - 1, by omega⟩
  refine ⟨vs, fun ty => ?_⟩
  simp [Builtin.clear_, run_underlying ht, hv, ← hvs, hst]
theorem take_set4 {ys : List Value} {a : Nat} {u v x y : Value} (h : a + 4 ≤ ys.length) : ((((ys.set a u).set (a + 1) v).set (a + 2) x).set (a + 3) y).take (a + 4) = ys.take a ++ [u, v, x, y] := by
  apply List.ext_getElem?
  intro j
  by_cases h1 : j < a
  · rw [List.getElem?_take_of_lt (by omega), List.getElem?_set_ne (by omega), List.getElem?_set_ne (by omega), List.getElem?_set_ne (by omega), List.getElem?_set_ne (by omega), List.getElem?_append_left (by rw [List.length_take]; omega), List.getElem?_take_of_lt h1]
  · by_cases h2 : j < a + 4
    · rw [List.getElem?_take_of_lt h2, List.getElem?_append_right (by rw [List.length_take]; omega), List.length_take, Nat.min_eq_left (by omega)]
      rcases (by omega : j = a ∨ j = a + 1 ∨ j = a + 2 ∨ j = a + 3) with h3 | h3 | h3 | h3 <;> subst h3
      · rw [List.getElem?_set_ne (by omega), List.getElem?_set_ne (by omega), List.getElem?_set_ne (by omega), List.getElem?_set_self (by omega)]; simp
      · rw [List.getElem?_set_ne (by omega), List.getElem?_set_ne (by omega), List.getElem?_set_self (by simp; omega), Nat.add_sub_cancel_left]; rfl
      · rw [List.getElem?_set_ne (by omega), List.getElem?_set_self (by simp; omega), Nat.add_sub_cancel_left]; rfl
      · rw [List.getElem?_set_self (by simp; omega), Nat.add_sub_cancel_left]; rfl
    · rw [List.getElem?_eq_none (by simp; omega), List.getElem?_eq_none (by simp; omega)]
theorem flat_at4 {M : List Leg} {j : Nat} (hj : j < M.length) : (M.flatMap edgeC)[j * 4]? = some (.int .i64 (M.getD j ((0, 0), (0, 0))).1.1) ∧ (M.flatMap edgeC)[j * 4 + 1]? = some (.int .i64 (M.getD j ((0, 0), (0, 0))).1.2) ∧ (M.flatMap edgeC)[j * 4 + 2]? = some (.int .i64 (M.getD j ((0, 0), (0, 0))).2.1) ∧ (M.flatMap edgeC)[j * 4 + 3]? = some (.int .i64 (M.getD j ((0, 0), (0, 0))).2.2) := by
  have h : M[j]? = some (M.getD j ((0, 0), (0, 0))) := by rw [List.getD_eq_getElem?_getD, List.getElem?_eq_getElem hj]; rfl
  exact ⟨flat_get edgeC_len M j _ 0 h (by omega), flat_get edgeC_len M j _ 1 h (by omega), flat_get edgeC_len M j _ 2 h (by omega), flat_get edgeC_len M j _ 3 h (by omega)⟩
theorem flat_take4 (M : List Leg) (k : Nat) : (M.flatMap edgeC).take (k * 4) = (M.take k).flatMap edgeC := by
  induction M generalizing k with
  | nil => simp
  | cons a M ih =>
    cases k with
    | zero => simp
    | succ k =>
      rw [List.take_succ_cons, List.flatMap_cons, List.flatMap_cons, ← ih k, show (k + 1) * 4 = k * 4 + 1 + 1 + 1 + 1 by omega]
      rfl

set_option maxHeartbeats 16000000 in
theorem compactLeg_any (g n cap B : Nat) (M : List Leg) (w : World) (ho : w.ownsRow B 78 4 (.slice (some ⟨g, 0, none⟩) n cap) n (M.flatMap edgeC)) (hl : M.length = n) (hn : n ≤ 1000) :
    Calls Tryz.prog 118 #[.slice (some ⟨g, 0, none⟩) n cap] w fun e w' => e = .returned (.slice (some ⟨g, 0, none⟩) (keepE M n).length cap) ∧ w'.ownsRow B 78 4 (.slice (some ⟨g, 0, none⟩) (keepE M n).length cap) (keepE M n).length ((keepE M n).flatMap edgeC) ∧ Below B w w' := by
  obtain ⟨hgB, hgl⟩ := ho.lt g rfl
  have hnc : n ≤ cap := by
    rcases ho.2 with ⟨h1, _⟩ | ⟨g', c', cur, hv, _, _, h5, _⟩
    · cases h1
    · injection hv with _ _ h3; omega
  obtain ⟨KL, hKL⟩ : ∃ K, K = keepE M n := ⟨_, rfl⟩
  have hBr : Below B w w := Below.refl _ _
  rw [← hKL]
  -- the row as it was, kept whole
  have hwhole : Hid (keepE M n = M → ∀ q, (Ending.returned (.slice (some ⟨g, 0, none⟩) n cap) = .returned (.slice (some ⟨g, 0, none⟩) KL.length cap)) ∧ (w.drewN q).ownsRow B 78 4 (.slice (some ⟨g, 0, none⟩) KL.length cap) KL.length (KL.flatMap edgeC) ∧ Below B w (w.drewN q)) :=
    Lib.hid fun h q => by rw [hKL, h, hl]; exact ⟨rfl, ho, below_drewN (Below.refl _ _) q⟩
  by_cases h2 : n < 2
  · have hk : keepE M n = M := by rw [keepE_take M n (by omega) (fun j h1 h3 => by omega), List.take_of_length_le (by omega)]
    have hf := Lib.hid (hwhole.out hk 0)
    have h2i : (n : Int) < 2 := by omega
    clear hwhole hk ho hKL
    go_enter Tryz.func118, Tryz.ntmps118
    go_wp2_with fail
    go_ret
    exact hf.out
  have h2i : ¬ (n : Int) < 2 := by omega
  replace ho := Lib.hid ho
  replace hl := Lib.hid hl
  replace hKL := Lib.hid hKL
  go_enter Tryz.func118, Tryz.ntmps118
  go_wp2_with fail
  go_loopw [3] (fun iv wr => ∃ k q : Nat, iv = .int .i64 k ∧ 1 ≤ k ∧ k ≤ n ∧ (∀ j, 1 ≤ j → j < k → M.getD j ((0, 0), (0, 0)) ≠ M.getD (j - 1) ((0, 0), (0, 0))) ∧ wr = w.drewN q) (fun iv wr => n - (intOf iv).toNat)
  case atStart => exact ⟨1, 0, rfl, Nat.le_refl _, by omega, fun j h1 h3 => by omega, rfl⟩
  case round =>
  obtain ⟨k, q, rfl, hk1, hk, hall, rfl⟩ := hrel
  replace hall := Lib.hid hall
  by_cases hlt : k < n
  rotate_left
  · have hkn : k = n := by omega
    have hf := Lib.hid (hwhole.out (by rw [keepE_take M n (by have := hl.out; omega) (fun j h1 h3 => hall.out j h1 (by omega)), List.take_of_length_le (by have := hl.out; omega)]) q)
    replace hkn := Lib.hid hkn
    go_wp2_with fail
    go_ret
    exact hf.out
  obtain ⟨⟨⟨x0, x1⟩, x2, x3⟩, hx⟩ : ∃ p, p = M.getD k ((0, 0), (0, 0)) := ⟨_, rfl⟩
  obtain ⟨⟨⟨y0, y1⟩, y2, y3⟩, hy⟩ : ∃ p, p = M.getD (k - 1) ((0, 0), (0, 0)) := ⟨_, rfl⟩
  have c0 := (ho.out.cellAt (k * 4) (by omega)).trans (flat_at4 (M := M) (j := k) (by have := hl.out; omega)).1
  have c1 := (ho.out.cellAt (k * 4 + 1) (by omega)).trans (flat_at4 (M := M) (j := k) (by have := hl.out; omega)).2.1
  have c2 := (ho.out.cellAt (k * 4 + 2) (by omega)).trans (flat_at4 (M := M) (j := k) (by have := hl.out; omega)).2.2.1
  have c3 := (ho.out.cellAt (k * 4 + 3) (by omega)).trans (flat_at4 (M := M) (j := k) (by have := hl.out; omega)).2.2.2
  have d0 := (ho.out.cellAt ((k - 1) * 4) (by omega)).trans (flat_at4 (M := M) (j := k - 1) (by have := hl.out; omega)).1
  have d1 := (ho.out.cellAt ((k - 1) * 4 + 1) (by omega)).trans (flat_at4 (M := M) (j := k - 1) (by have := hl.out; omega)).2.1
  have d2 := (ho.out.cellAt ((k - 1) * 4 + 2) (by omega)).trans (flat_at4 (M := M) (j := k - 1) (by have := hl.out; omega)).2.2.1
  have d3 := (ho.out.cellAt ((k - 1) * 4 + 3) (by omega)).trans (flat_at4 (M := M) (j := k - 1) (by have := hl.out; omega)).2.2.2
  rw [← hx] at c0 c1 c2 c3
  rw [← hy] at d0 d1 d2 d3
  have e1 : IntKind.i64.wrap ((k : Int) - 1) = (k : Int) - 1 := wi (by omega)
  have e2 : (0 : Int) ≤ (k : Int) - 1 ∧ (k : Int) - 1 < (n : Int) := by omega
  have e3 : ((k : Int) - 1).toNat = k - 1 := by omega
  have e4 : (0 : Int) ≤ (k : Int) ∧ (k : Int) < (n : Int) := by omega
  replace hx := Lib.hid hx
  replace hy := Lib.hid hy
  by_cases hne : ((x0, x1), (x2, x3)) ≠ ((y0, y1), (y2, y3))
  · have hne2 : M.getD k ((0, 0), (0, 0)) ≠ M.getD (k - 1) ((0, 0), (0, 0)) := by rw [← hx.out, ← hy.out]; exact hne
    replace hne2 := Lib.hid hne2
    replace hne := Lib.hid hne
    by_cases h : x0 = y0
    rotate_left
    · have t1 : (x0 == y0) = false := by simp [h]
      clear h
      go_wp2_with fail
      go_quiet (fail)
      go_wp2_with fail
      go_roundw
      case rel =>
        refine ⟨k + 1, _, by go_num, by omega, by omega, fun j h1 h3 => ?_, rfl⟩
        rcases Nat.lt_or_ge j k with h4 | h4
        · exact hall.out j h1 h4
        · have : j = k := by omega
          rw [this]; exact hne2.out
      case measure => simp [intOf]; omega
    subst h
    by_cases h : x1 = y1
    rotate_left
    · have t1 : (x1 == y1) = false := by simp [h]
      clear h
      go_wp2_with fail
      go_quiet (fail)
      go_wp2_with fail
      go_roundw
      case rel =>
        refine ⟨k + 1, _, by go_num, by omega, by omega, fun j h1 h3 => ?_, rfl⟩
        rcases Nat.lt_or_ge j k with h4 | h4
        · exact hall.out j h1 h4
        · have : j = k := by omega
          rw [this]; exact hne2.out
      case measure => simp [intOf]; omega
    subst h
    by_cases h : x2 = y2
    rotate_left
    · have t1 : (x2 == y2) = false := by simp [h]
      clear h
      go_wp2_with fail
      go_quiet (fail)
      go_wp2_with fail
      go_roundw
      case rel =>
        refine ⟨k + 1, _, by go_num, by omega, by omega, fun j h1 h3 => ?_, rfl⟩
        rcases Nat.lt_or_ge j k with h4 | h4
        · exact hall.out j h1 h4
        · have : j = k := by omega
          rw [this]; exact hne2.out
      case measure => simp [intOf]; omega
    subst h
    have h : x3 ≠ y3 := fun h => hne.out (by rw [h])
    have t1 : (x3 == y3) = false := by simp [h]
    clear h
    go_wp2_with fail
    go_quiet (fail)
    go_wp2_with fail
    go_roundw
    case rel =>
      refine ⟨k + 1, _, by go_num, by omega, by omega, fun j h1 h3 => ?_, rfl⟩
      rcases Nat.lt_or_ge j k with h4 | h4
      · exact hall.out j h1 h4
      · have : j = k := by omega
        rw [this]; exact hne2.out
    case measure => simp [intOf]; omega
  have heq : ((x0, x1), (x2, x3)) = ((y0, y1), (y2, y3)) := Decidable.byContradiction hne
  injection heq with h h'
  injection h with ha hb
  injection h' with hc hd
  subst ha hb hc hd
  have hkeq : M.getD k ((0, 0), (0, 0)) = M.getD (k - 1) ((0, 0), (0, 0)) := by rw [← hx.out, ← hy.out]
  have hK0 : keepE M (k + 1) = M.take k := by rw [keepE_eq hk1 hkeq, keepE_take M k (by have := hl.out; omega) hall.out]
  replace hK0 := Lib.hid hK0
  replace hkeq := Lib.hid hkeq
  have hck : ¬ cap = k := by omega
  have hck2 : ¬ (cap - k = 0) := by omega
  have e5 : (k : Int) ≤ (n : Int) := by omega
  have e6 : (k : Int) ≤ (cap : Int) := by omega
  clear hne
  go_wp2_with fail
  go_quiet (fail)
  go_wp2_with fail
  obtain ⟨r, hr⟩ : ∃ r, r = n - k := ⟨_, rfl⟩
  rw [← hr]
  have hr1 : r ≤ 1000 := by omega
  have hr2 : k + r = n := by omega
  replace hr2 := Lib.hid hr2
  have hw1 : Below B w (w.drewN (q + nq)) := below_drewN (Below.refl _ _) _
  have how : (w.drewN (q + nq)).ownsRow B 78 4 (.slice (some ⟨g, 0, none⟩) n cap) n (M.flatMap edgeC) := ho.out
  generalize w.drewN (q + nq) = x at *
  replace how := Lib.hid how
  go_loopw [3, 5] (fun av bv wr => ∃ (kk y : Nat) (ys : List Value), av = .int .i64 kk ∧ bv = .int .i64 y ∧ 1 ≤ y ∧ y ≤ r ∧ 1 ≤ kk ∧ kk + 1 ≤ k + y ∧ kk = (keepE M (k + y)).length ∧ ys.take (kk * 4) = (keepE M (k + y)).flatMap edgeC ∧ (∀ i, (k + y - 1) * 4 ≤ i → ys[i]? = (M.flatMap edgeC)[i]?) ∧ wr.ownsRow B 78 4 (.slice (some ⟨g, 0, none⟩) n cap) n ys ∧ Below B w wr) (fun av bv wr => r - (intOf bv).toNat)
  case atStart => exact ⟨k, 1, M.flatMap edgeC, rfl, rfl, Nat.le_refl _, by omega, hk1, Nat.le_refl _, by rw [hK0.out, List.length_take]; have := hl.out; omega, by rw [hK0.out, flat_take4], fun i _ => rfl, how.out, hw1⟩
  case round =>
  obtain ⟨kk, y, ys, rfl, rfl, hy1, hyr, hkk1, hkk2, hkk3, htake, hrest, hown, hbel⟩ := hrel
  have hkn : kk < n := by have := hr2.out; omega
  have hylen := hown.1
  replace hkk3 := Lib.hid hkk3
  replace htake := Lib.hid htake
  replace hrest := Lib.hid hrest
  by_cases hyl : y < r
  rotate_left
  · have hyr2 : k + y = n := by omega
    have hfz := fun j => hown.frozenAt j
    obtain ⟨vs, hcl⟩ := run_clear4 wr 0 g (kk * 4) (n - kk) (cap - kk) (by omega) (fun j hj => by rw [hown.cellAt _ (by omega), List.getElem?_eq_getElem (by omega)]; rfl) (fun j hj => hfz _)
    have hfin := own_pastsG vs (kk * 4) wr (own_cutG hown (Nat.le_of_lt hkn)) (Nat.le_refl _)
    have hfb := below_sets hgB vs (kk * 4) wr hbel
    rw [htake.out, hyr2, ← hKL.out] at hfin
    have hkk4 : kk = KL.length := by rw [hKL.out, ← hyr2]; exact hkk3.out
    have e7 : (kk : Int) ≤ (n : Int) := by omega
    have e8 : (kk : Int) ≤ (cap : Int) := by omega
    have hck3 : ¬ cap = kk := by omega
    have hck4 : ¬ (cap - kk = 0) := by omega
    replace hfin := Lib.hid hfin
    replace hkk4 := Lib.hid hkk4
    replace hyr2 := Lib.hid hyr2
    replace hr := Lib.hid hr
    clear hown hfz
    go_wp2_with fail
    go_ret
    refine ⟨by rw [← hkk4.out]; rfl, ?_, hfb⟩
    rw [← hkk4.out]
    exact hfin.out
  obtain ⟨⟨⟨u0, u1⟩, u2, u3⟩, hu⟩ : ∃ p, p = M.getD (k + y) ((0, 0), (0, 0)) := ⟨_, rfl⟩
  obtain ⟨⟨⟨v0, v1⟩, v2, v3⟩, hv⟩ : ∃ p, p = M.getD (k + y - 1) ((0, 0), (0, 0)) := ⟨_, rfl⟩
  have hML : k + y < M.length := by have := hl.out; omega
  have f1 := flat_at4 (M := M) (j := k + y) hML
  have f2 := flat_at4 (M := M) (j := k + y - 1) (by omega)
  have c0 := ((hown.cellAt ((k + y) * 4) (by omega)).trans (hrest.out _ (by omega))).trans f1.1
  have c1 := ((hown.cellAt ((k + y) * 4 + 1) (by omega)).trans (hrest.out _ (by omega))).trans f1.2.1
  have c2 := ((hown.cellAt ((k + y) * 4 + 2) (by omega)).trans (hrest.out _ (by omega))).trans f1.2.2.1
  have c3 := ((hown.cellAt ((k + y) * 4 + 3) (by omega)).trans (hrest.out _ (by omega))).trans f1.2.2.2
  have d0 := ((hown.cellAt ((k + y - 1) * 4) (by omega)).trans (hrest.out _ (by omega))).trans f2.1
  have d1 := ((hown.cellAt ((k + y - 1) * 4 + 1) (by omega)).trans (hrest.out _ (by omega))).trans f2.2.1
  have d2 := ((hown.cellAt ((k + y - 1) * 4 + 2) (by omega)).trans (hrest.out _ (by omega))).trans f2.2.2.1
  have d3 := ((hown.cellAt ((k + y - 1) * 4 + 3) (by omega)).trans (hrest.out _ (by omega))).trans f2.2.2.2
  rw [← hu] at c0 c1 c2 c3
  rw [← hv] at d0 d1 d2 d3
  rw [show (k + y) * 4 = k * 4 + y * 4 by omega] at c0 c1 c2 c3
  rw [show (k + y - 1) * 4 = k * 4 + (y - 1) * 4 by omega] at d0 d1 d2 d3
  obtain ⟨z0, hz0⟩ : ∃ z, ys[kk * 4]? = some z := ⟨_, List.getElem?_eq_getElem (by omega)⟩
  obtain ⟨z1, hz1⟩ : ∃ z, ys[kk * 4 + 1]? = some z := ⟨_, List.getElem?_eq_getElem (by omega)⟩
  obtain ⟨z2, hz2⟩ : ∃ z, ys[kk * 4 + 2]? = some z := ⟨_, List.getElem?_eq_getElem (by omega)⟩
  obtain ⟨z3, hz3⟩ : ∃ z, ys[kk * 4 + 3]? = some z := ⟨_, List.getElem?_eq_getElem (by omega)⟩
  have g0 := (hown.cellAt (kk * 4) (by omega)).trans hz0
  have g1 := (hown.cellAt (kk * 4 + 1) (by omega)).trans hz1
  have g2 := (hown.cellAt (kk * 4 + 2) (by omega)).trans hz2
  have g3 := (hown.cellAt (kk * 4 + 3) (by omega)).trans hz3
  have hfz := fun j => hown.frozenAt j
  have e7 : IntKind.i64.wrap ((y : Int) - 1) = (y : Int) - 1 := wi (by omega)
  have e8 : (0 : Int) ≤ (y : Int) - 1 ∧ (y : Int) - 1 < (r : Int) := by omega
  have e9 : ((y : Int) - 1).toNat = y - 1 := by omega
  have e10 : (0 : Int) ≤ (y : Int) ∧ (y : Int) < (r : Int) := by omega
  have e11 : (0 : Int) ≤ (kk : Int) ∧ (kk : Int) < (n : Int) := by omega
  replace hu := Lib.hid hu
  replace hv := Lib.hid hv
  replace hown := Lib.hid hown
  replace hr := Lib.hid hr
  clear f1 f2 hz0 hz1 hz2 hz3
  by_cases hne2 : ((u0, u1), (u2, u3)) ≠ ((v0, v1), (v2, v3))
  · have hne3 : M.getD (k + y) ((0, 0), (0, 0)) ≠ M.getD (k + y - 1) ((0, 0), (0, 0)) := by rw [← hu.out, ← hv.out]; exact hne2
    have hK1 : keepE M (k + (y + 1)) = keepE M (k + y) ++ [((u0, u1), (u2, u3))] := by rw [← Nat.add_assoc, keepE_ne hne3, ← hu.out]
    have hrel2 : ∀ W : World, W.ownsRow B 78 4 (.slice (some ⟨g, 0, none⟩) n cap) n ((((ys.set (kk * 4) (.int .i64 u0)).set (kk * 4 + 1) (.int .i64 u1)).set (kk * 4 + 2) (.int .i64 u2)).set (kk * 4 + 3) (.int .i64 u3)) → Below B w W →
        ∃ (kk' y' : Nat) (ys' : List Value), Value.int .i64 ((kk : Int) + 1) = .int .i64 kk' ∧ Value.int .i64 ((y : Int) + 1) = .int .i64 y' ∧ 1 ≤ y' ∧ y' ≤ r ∧ 1 ≤ kk' ∧ kk' + 1 ≤ k + y' ∧ kk' = (keepE M (k + y')).length ∧ ys'.take (kk' * 4) = (keepE M (k + y')).flatMap edgeC ∧ (∀ i, (k + y' - 1) * 4 ≤ i → ys'[i]? = (M.flatMap edgeC)[i]?) ∧ W.ownsRow B 78 4 (.slice (some ⟨g, 0, none⟩) n cap) n ys' ∧ Below B w W := by
      intro W hW hWb
      refine ⟨kk + 1, y + 1, _, by simp, by simp, by omega, by omega, by omega, by omega, by rw [hK1, List.length_append, ← hkk3.out]; rfl, ?_, fun i hi => ?_, hW, hWb⟩
      · rw [show (kk + 1) * 4 = kk * 4 + 4 by omega, take_set4 (by omega), htake.out, hK1, List.flatMap_append]; rfl
      · rw [List.getElem?_set_ne (by omega), List.getElem?_set_ne (by omega), List.getElem?_set_ne (by omega), List.getElem?_set_ne (by omega)]
        exact hrest.out i (by omega)
    replace hrel2 := Lib.hid hrel2
    replace hne2 := Lib.hid hne2
    clear hne3 hK1
    by_cases h : u0 = v0
    rotate_left
    · have t1 : (u0 == v0) = false := by simp [h]
      have t2 : (u0 != v0) = true := by simp [h]
      clear h
      go_wp2_with fail
      go_quiet (fail)
      go_wp2_with fail
      go_roundw
      case rel =>
        refine hrel2.out _ ?_ ?_
        · exact ((((World.ownsRow.stored (w := wr.drewN _) hown.out (kk * 4) _).1.stored (kk * 4 + 1) _).1.stored (kk * 4 + 2) _).1.stored (kk * 4 + 3) _).1
        · exact ((((below_drewN hbel _).setCell (by exact hgB) _).setCell (by exact hgB) _).setCell (by exact hgB) _).setCell (by exact hgB) _
      case measure => simp [intOf]; omega
    subst h
    by_cases h : u1 = v1
    rotate_left
    · have t1 : (u1 == v1) = false := by simp [h]
      have t2 : (u1 != v1) = true := by simp [h]
      clear h
      go_wp2_with fail
      go_quiet (fail)
      go_wp2_with fail
      go_roundw
      case rel =>
        refine hrel2.out _ ?_ ?_
        · exact ((((World.ownsRow.stored (w := wr.drewN _) hown.out (kk * 4) _).1.stored (kk * 4 + 1) _).1.stored (kk * 4 + 2) _).1.stored (kk * 4 + 3) _).1
        · exact ((((below_drewN hbel _).setCell (by exact hgB) _).setCell (by exact hgB) _).setCell (by exact hgB) _).setCell (by exact hgB) _
      case measure => simp [intOf]; omega
    subst h
    by_cases h : u2 = v2
    rotate_left
    · have t1 : (u2 == v2) = false := by simp [h]
      have t2 : (u2 != v2) = true := by simp [h]
      clear h
      go_wp2_with fail
      go_quiet (fail)
      go_wp2_with fail
      go_roundw
      case rel =>
        refine hrel2.out _ ?_ ?_
        · exact ((((World.ownsRow.stored (w := wr.drewN _) hown.out (kk * 4) _).1.stored (kk * 4 + 1) _).1.stored (kk * 4 + 2) _).1.stored (kk * 4 + 3) _).1
        · exact ((((below_drewN hbel _).setCell (by exact hgB) _).setCell (by exact hgB) _).setCell (by exact hgB) _).setCell (by exact hgB) _
      case measure => simp [intOf]; omega
    subst h
    have h : u3 ≠ v3 := fun h => hne2.out (by rw [h])
    have t1 : (u3 == v3) = false := by simp [h]
    have t2 : (u3 != v3) = true := by simp [h]
    clear h
    go_wp2_with fail
    go_quiet (fail)
    go_wp2_with fail
    go_roundw
    case rel =>
      refine hrel2.out _ ?_ ?_
      · exact ((((World.ownsRow.stored (w := wr.drewN _) hown.out (kk * 4) _).1.stored (kk * 4 + 1) _).1.stored (kk * 4 + 2) _).1.stored (kk * 4 + 3) _).1
      · exact ((((below_drewN hbel _).setCell (by exact hgB) _).setCell (by exact hgB) _).setCell (by exact hgB) _).setCell (by exact hgB) _
    case measure => simp [intOf]; omega
  have heq2 : ((u0, u1), (u2, u3)) = ((v0, v1), (v2, v3)) := Decidable.byContradiction hne2
  injection heq2 with h h'
  injection h with ha hb
  injection h' with hc hd
  subst ha hb hc hd
  have hK1 : keepE M (k + (y + 1)) = keepE M (k + y) := by rw [← Nat.add_assoc, keepE_eq (by omega) (by rw [← hu.out, ← hv.out])]
  replace hK1 := Lib.hid hK1
  clear hne2
  go_wp2_with fail
  go_quiet (fail)
  go_wp2_with fail
  go_roundw
  case rel => exact ⟨kk, y + 1, ys, rfl, by go_num, by omega, by omega, hkk1, by omega, by rw [hK1.out]; exact hkk3.out, by rw [hK1.out]; exact htake.out, fun i hi => hrest.out i (by omega), hown.out, below_drewN hbel _⟩
  case measure => simp [intOf]; omega
end Go.Proofs.YtlifiioflkhkoaaGreat

/- Pairs of points between which there are edges: the program's side. Conditions: as each states. -/
namespace Go.Proofs.YtlifiioflkhkoaaGreat
open Go.RowKit Go.Shelf Go.Lib Go.Sort Go.Proofs
set_option linter.unusedVariables false
set_option maxRecDepth 100000
set_option linter.unusedSimpArgs false

def Tryz.sortLeg_ren : Go.Shelf.Ren := ⟨fun | 6 => 116 | 15 => 107 | 14 => 134 | 28 => 130 | 29 => 131 | 20 => 143 | 21 => 144 | 22 => 145 | 23 => 146 | 24 => 147 | 25 => 148 | 26 => 149 | 27 => 150 | 46 => 153 | 47 => 137 | 48 => 138 | 49 => 154 | 50 => 155 | 57 => 157 | n => n, fun | 22 => 56 | 24 => 78 | 25 => 159 | 3 => 3 | 39 => 94 | 0 => 0 | 53 => 169 | 55 => 69 | 4 => 4 | 46 => 163 | 45 => 162 | 50 => 142 | 5 => 5 | 9 => 9 | 66 => 174 | 70 => 178 | 76 => 188 | 77 => 189 | n => n, fun | n => n⟩
theorem Tryz.sortLeg : Go.Proofs.SlLaysF0.n6 Tryz.prog Tryz.sortLeg_ren := {
  mixed := by kernel_rfl
  f6 := ⟨Tryz.f116.name, by decide, Tryz.func116.trans (congrArg some (by kernel_rfl))⟩
  f14 := ⟨Tryz.f134.name, by decide, Tryz.func134.trans (congrArg some (by kernel_rfl))⟩
  f15 := Tryz.func107.trans (congrArg some (by kernel_rfl))
  f20 := ⟨Tryz.f143.name, by decide, Tryz.func143.trans (congrArg some (by kernel_rfl))⟩
  f21 := ⟨Tryz.f144.name, by decide, Tryz.func144.trans (congrArg some (by kernel_rfl))⟩
  f22 := ⟨Tryz.f145.name, by decide, Tryz.func145.trans (congrArg some (by kernel_rfl))⟩
  f23 := ⟨Tryz.f146.name, by decide, Tryz.func146.trans (congrArg some (by kernel_rfl))⟩
  f24 := ⟨Tryz.f147.name, by decide, Tryz.func147.trans (congrArg some (by kernel_rfl))⟩
  f25 := ⟨Tryz.f148.name, by decide, Tryz.func148.trans (congrArg some (by kernel_rfl))⟩
  f26 := ⟨Tryz.f149.name, by decide, Tryz.func149.trans (congrArg some (by kernel_rfl))⟩
  f27 := ⟨Tryz.f150.name, by decide, Tryz.func150.trans (congrArg some (by kernel_rfl))⟩
  f28 := Tryz.func130.trans (congrArg some (by kernel_rfl))
  f29 := Tryz.func131.trans (congrArg some (by kernel_rfl))
  f46 := ⟨Tryz.f153.name, by decide, Tryz.func153.trans (congrArg some (by kernel_rfl))⟩
  f47 := Tryz.func137.trans (congrArg some (by kernel_rfl))
  f48 := Tryz.func138.trans (congrArg some (by kernel_rfl))
  f49 := ⟨Tryz.f154.name, by decide, Tryz.func154.trans (congrArg some (by kernel_rfl))⟩
  f50 := ⟨Tryz.f155.name, by decide, Tryz.func155.trans (congrArg some (by kernel_rfl))⟩
  f57 := ⟨Tryz.f157.name, by decide, Tryz.func157.trans (congrArg some (by kernel_rfl))⟩
  t0 := Tryz.underlying0
  a0 := Tryz.isAgg0
  z0 := Tryz.sizeOf0
  v0 := Tryz.zeroValue0
  t3 := Tryz.underlying3
  a3 := Tryz.isAgg3
  z3 := Tryz.sizeOf3
  v3 := Tryz.zeroValue3
  t4 := Tryz.underlying4
  a4 := Tryz.isAgg4
  z4 := Tryz.sizeOf4
  v4 := Tryz.zeroValue4
  t5 := Tryz.underlying5
  a5 := Tryz.isAgg5
  z5 := Tryz.sizeOf5
  v5 := Tryz.zeroValue5
  t9 := Tryz.underlying9
  a9 := Tryz.isAgg9
  z9 := Tryz.sizeOf9
  v9 := Tryz.zeroValue9
  t22 := Tryz.underlying56
  a22 := Tryz.isAgg56
  z22 := Tryz.sizeOf56
  v22 := Tryz.zeroValue56
  t25 := Tryz.underlying159
  a25 := Tryz.isAgg159
  z25 := Tryz.sizeOf159
  v25 := Tryz.zeroValue159
  t39 := Tryz.underlying94
  a39 := Tryz.isAgg94
  z39 := Tryz.sizeOf94
  v39 := Tryz.zeroValue94
  t45 := Tryz.underlying162
  a45 := Tryz.isAgg162
  z45 := Tryz.sizeOf162
  v45 := Tryz.zeroValue162
  t46 := Tryz.underlying163
  a46 := Tryz.isAgg163
  z46 := Tryz.sizeOf163
  v46 := Tryz.zeroValue163
  t50 := Tryz.underlying142
  a50 := Tryz.isAgg142
  z50 := Tryz.sizeOf142
  v50 := Tryz.zeroValue142
  t53 := Tryz.underlying169
  a53 := Tryz.isAgg169
  z53 := Tryz.sizeOf169
  v53 := Tryz.zeroValue169
  t55 := Tryz.underlying69
  a55 := Tryz.isAgg69
  z55 := Tryz.sizeOf69
  v55 := Tryz.zeroValue69
  t66 := Tryz.underlying174
  a66 := Tryz.isAgg174
  z66 := Tryz.sizeOf174
  v66 := Tryz.zeroValue174
  t70 := Tryz.underlying178
  a70 := Tryz.isAgg178
  z70 := Tryz.sizeOf178
  v70 := Tryz.zeroValue178
  t76 := Tryz.underlying188
  a76 := Tryz.isAgg188
  z76 := Tryz.sizeOf188
  v76 := Tryz.zeroValue188
  t77 := Tryz.underlying189
  a77 := Tryz.isAgg189
  z77 := Tryz.sizeOf189
  v77 := Tryz.zeroValue189 }

def cmpE (x y : Leg) : Int := if cmpYX x.1 y.1 ≠ 0 then cmpYX x.1 y.1 else cmpYX x.2 y.2
def normE (e : Leg) : Leg := if 0 < cmpYX e.1 e.2 then (e.2, e.1) else e
def sortE (L : List Leg) : List Leg := L.mergeSort fun x y => !decide (cmpE y x < 0)
def pairsF (E : List Leg) : List Leg := keepE (sortE (E.map normE)) E.length
theorem cmpYX_zero (a b : Pnt) : cmpYX a b = 0 ↔ a.2 = b.2 ∧ a.1 = b.1 := by
  unfold cmpYX sgnI
  split
  · split
    · omega
    · split <;> omega
  · split
    · omega
    · split <;> omega
theorem cmpE_neg (x y : Leg) : cmpE x y < 0 ↔ (x.1.2 < y.1.2 ∨ x.1.2 = y.1.2 ∧ x.1.1 < y.1.1) ∨ (x.1.2 = y.1.2 ∧ x.1.1 = y.1.1) ∧ (x.2.2 < y.2.2 ∨ x.2.2 = y.2.2 ∧ x.2.1 < y.2.1) := by
  have h1 := cmp_neg_iff x.1 y.1
  have h2 := cmp_neg_iff x.2 y.2
  have h3 := cmpYX_zero x.1 y.1
  rw [bef_iff] at h1 h2
  unfold cmpE
  split <;> omega
theorem leg_ext {x y : Leg} (h : ((x.1.1 = y.1.1 ∧ x.1.2 = y.1.2) ∧ x.2.1 = y.2.1 ∧ x.2.2 = y.2.2)) : x = y := by
  obtain ⟨⟨a, b⟩, c, d⟩ := x
  obtain ⟨⟨a', b'⟩, c', d'⟩ := y
  obtain ⟨⟨h1, h2⟩, h3, h4⟩ := h
  dsimp only at h1 h2 h3 h4
  subst h1 h2 h3 h4
  rfl
theorem sortE_is {M L : List Leg} (h1 : M.Perm L) (h2 : M.Pairwise fun x y => ¬ cmpE y x < 0) : M = sortE L := by
  refine List.Perm.eq_of_pairwise (le := fun x y => ¬ cmpE y x < 0) ?_ h2 ?_ (h1.trans (List.mergeSort_perm L _).symm)
  · intro x y _ _ h3 h4
    rw [cmpE_neg] at h3 h4
    exact leg_ext (by omega)
  · refine (List.pairwise_mergeSort (le := fun x y => !decide (cmpE y x < 0)) (fun a b c h1 h2 => ?_) (fun a b => ?_) L).imp fun {a b} h => ?_
    · simp only [Bool.not_eq_true', decide_eq_false_iff_not, cmpE_neg] at *
      omega
    · simp only [Bool.or_eq_true, Bool.not_eq_true', decide_eq_false_iff_not, cmpE_neg]
      omega
    · simpa using h
theorem sortE_mem {L : List Leg} {x : Leg} : x ∈ sortE L ↔ x ∈ L := (List.mergeSort_perm L _).mem_iff
theorem sortE_len (L : List Leg) : (sortE L).length = L.length := (List.mergeSort_perm L _).length_eq
theorem norm_ok {e : Leg} (h : pt2Ok e.1 = true ∧ pt2Ok e.2 = true) : pt2Ok (normE e).1 = true ∧ pt2Ok (normE e).2 = true := by
  unfold normE
  split
  · exact ⟨h.2, h.1⟩
  · exact h
theorem pairs_ok {E : List Leg} (h : EOk E) : EOk (pairsF E) := by
  intro e he
  have h1 := sortE_mem.1 (keepE_mem (by rw [sortE_len, List.length_map]; exact Nat.le_refl _) he)
  obtain ⟨e', he', rfl⟩ := List.mem_map.1 h1
  exact norm_ok (h e' he')
theorem pairs_len (E : List Leg) : (pairsF E).length ≤ E.length := keepE_le _ _

set_option maxHeartbeats 4000000 in
theorem cmpLeg_any (x y : Leg) (w : World) (hx : pt2Ok x.1 = true ∧ pt2Ok x.2 = true) (hy : pt2Ok y.1 = true ∧ pt2Ok y.2 = true) :
    Calls Tryz.prog 117 #[.agg (edgeC x).toArray, .agg (edgeC y).toArray] w fun e w' => e = .returned (.int .i64 (cmpE x y)) ∧ Grew w w' := by
  obtain ⟨v, hv⟩ : ∃ v, v = cmpE x y := ⟨_, rfl⟩
  obtain ⟨c, hcd⟩ : ∃ c, c = cmpYX x.1 y.1 := ⟨_, rfl⟩
  obtain ⟨d, hdd⟩ : ∃ c, c = cmpYX x.2 y.2 := ⟨_, rfl⟩
  have hc := fun W => compareYX_any x.1.1 x.1.2 y.1.1 y.1.2 hx.1 hy.1 W
  have hd := fun W => compareYX_any x.2.1 x.2.2 y.2.1 y.2.2 hx.2 hy.2 W
  rw [← hv]
  unfold cmpE at hv
  rw [show ((x.1.1, x.1.2) : Pnt) = x.1 from rfl, show ((y.1.1, y.1.2) : Pnt) = y.1 from rfl, ← hcd] at hc
  rw [show ((x.2.1, x.2.2) : Pnt) = x.2 from rfl, show ((y.2.1, y.2.2) : Pnt) = y.2 from rfl, ← hdd] at hd
  rw [← hcd, ← hdd] at hv
  clear hcd hdd hx hy
  obtain ⟨⟨x1, x2⟩, x3, x4⟩ := x
  obtain ⟨⟨y1, y2⟩, y3, y4⟩ := y
  simp only [edgeC]
  dsimp only at hc hd
  have hG0 := Lib.hid (((Grew.refl w).alloc (.cells #[.int .i64 x1, .int .i64 x2, .int .i64 x3, .int .i64 x4] 78 (0, 0))).alloc (.cells #[.int .i64 y1, .int .i64 y2, .int .i64 y3, .int .i64 y4] 78 (0, 0)))
  obtain ⟨hX, hY⟩ := heap_new2 w (.cells #[.int .i64 x1, .int .i64 x2, .int .i64 x3, .int .i64 x4] 78 (0, 0)) (.cells #[.int .i64 y1, .int .i64 y2, .int .i64 y3, .int .i64 y4] 78 (0, 0))
  replace hc := Lib.hid hc
  replace hd := Lib.hid hd
  by_cases h0 : c = 0
  · rw [if_neg (by simpa using h0)] at hv
    subst hv
    have e0 : (c == 0) = true := by simpa using h0
    clear h0
    go_enter Tryz.func117, Tryz.ntmps117
    go_upto_region 1 with fail
    generalize (w.alloc (.cells #[.int .i64 x1, .int .i64 x2, .int .i64 x3, .int .i64 x4] 78 (0, 0))).alloc (.cells #[.int .i64 y1, .int .i64 y2, .int .i64 y3, .int .i64 y4] 78 (0, 0)) = v0 at *
    generalize w.heap.size = X at *
    obtain ⟨p0, p1, p2, p3⟩ := leg_cells hX
    obtain ⟨q0, q1, q2, q3⟩ := leg_cells hY
    have hXl := (Array.getElem?_eq_some_iff.1 hX).1
    have hYl := (Array.getElem?_eq_some_iff.1 hY).1
    go_wp2_with (first | (go_at_call 71; refine (hc.out _).mono ?_; rintro e w1 ⟨rfl, hg1⟩; replace hg1 : Grew _ w1 := hg1; obtain ⟨k0, k1, k2, k3⟩ := leg_cells ((hg1.below.block _ hXl).trans hX); obtain ⟨j0, j1, j2, j3⟩ := leg_cells ((hg1.below.block _ hYl).trans hY); clear p0 p1 p2 p3 q0 q1 q2 q3; replace hg1 := Lib.hid hg1; replace hc := hg1) | (go_at_call 71; refine (hd.out _).mono ?_; rintro e w2 ⟨rfl, hg2⟩; replace hg2 : Grew _ w2 := hg2; replace hg2 := Lib.hid hg2))
    go_ret
    exact ⟨rfl, (hG0.out.trans hg1.out).trans hg2.out⟩
  · rw [if_pos h0] at hv
    subst hv
    have e0 : (v == 0) = false := by simpa using h0
    clear h0
    go_enter Tryz.func117, Tryz.ntmps117
    go_upto_region 1 with fail
    generalize (w.alloc (.cells #[.int .i64 x1, .int .i64 x2, .int .i64 x3, .int .i64 x4] 78 (0, 0))).alloc (.cells #[.int .i64 y1, .int .i64 y2, .int .i64 y3, .int .i64 y4] 78 (0, 0)) = v0 at *
    generalize w.heap.size = X at *
    obtain ⟨p0, p1, p2, p3⟩ := leg_cells hX
    obtain ⟨q0, q1, q2, q3⟩ := leg_cells hY
    have hXl := (Array.getElem?_eq_some_iff.1 hX).1
    have hYl := (Array.getElem?_eq_some_iff.1 hY).1
    go_wp2_with (go_at_call 71; refine (hc.out _).mono ?_; rintro e w1 ⟨rfl, hg1⟩; replace hg1 : Grew _ w1 := hg1; replace hg1 := Lib.hid hg1)
    go_ret
    exact ⟨rfl, hG0.out.trans hg1.out⟩

abbrev OkL := {e : Leg // pt2Ok e.1 = true ∧ pt2Ok e.2 = true}
instance : Inhabited OkL := ⟨⟨((0, 0), (0, 0)), by decide⟩⟩
def encL (x : OkL) : List Value := edgeC x.1
def cfL (x y : OkL) : Int := cmpE x.1 y.1
theorem ltL (x y : OkL) : ltOf cfL x y = decide (cmpE x.1 y.1 < 0) := rfl
theorem swoL : SWO (ltOf cfL) where
  irrefl x := by rw [ltL, decide_eq_false_iff_not, cmpE_neg]; omega
  trans x y z h1 h2 := by rw [ltL, decide_eq_true_iff, cmpE_neg] at *; omega
  ntrans x y z h1 h2 := by rw [ltL, decide_eq_false_iff_not, cmpE_neg] at *; omega
theorem cmpLaysL (blk off size : Nat) (w : World) : CmpLays Tryz.prog 117 #[] encL 4 cfL blk off size w := fun m os dk hs x y => cmpLeg_any x.1 y.1 _ x.2 y.2
theorem flat_valL (d : List OkL) : d.flatMap encL = (d.map Subtype.val).flatMap edgeC := by
  rw [List.flatMap_map]; rfl
theorem sortLeg_any (g n cap B : Nat) (L : List Leg) (w : World) (ho : w.ownsRow B 78 4 (.slice (some ⟨g, 0, none⟩) n cap) n (L.flatMap edgeC)) (hl : L.length = n) (hn : n ≤ 1000000) (hok : EOk L) :
    Calls Tryz.prog 116 #[.slice (some ⟨g, 0, none⟩) n cap, .func (.func 117) #[] #[]] w fun e w' => e = .returned (.tuple #[]) ∧ w'.ownsRow B 78 4 (.slice (some ⟨g, 0, none⟩) n cap) n ((sortE L).flatMap edgeC) ∧ Below B w w' := by
  obtain ⟨hgB, hgl⟩ := ho.lt g rfl
  obtain ⟨D, hD⟩ : ∃ D : List OkL, D.map Subtype.val = L := attach_val L hok
  have hDl : D.length = n := by rw [← hl, ← hD, List.length_map]
  have hH : HoldsK encL 4 w g 0 D.toArray := holds_ownK (by omega) encL (fun x => edgeC_len x.1) D.toArray (by simpa using hDl) (by rw [show D.toArray.toList = D by simp, flat_valL, hD]; exact ho)
  have eg : ∀ args w, (callFunc 117 args).run Tryz.prog w = .ok (.enter 117 args) w := enters_of Tryz.func117 (by kernel_rfl) rfl
  have hcon := AnyQ.slices_SortFunc_total Tryz.sortLeg 4 Tryz.isAgg78 Tryz.sizeOf78 encL (fun x => edgeC_len x.1) (fun x => edgeC_one x.1) cfL swoL 117 #[] g 0 cap D.toArray w eg (cmpLaysL g 0 _ w) hH hgl (by simp [hDl]; omega) (fun x y h1 h2 => by
    rw [ltL, decide_eq_false_iff_not, cmpE_neg] at h1 h2
    exact Subtype.ext (leg_ext (by omega)))
  rw [show D.toArray.size = n by simpa using hDl] at hcon
  change Calls Tryz.prog 116 _ _ _ at hcon
  refine hcon.mono ?_
  rintro e w' ⟨rfl, q, os, rfl⟩
  have hM : (D.mergeSort fun x y => !(ltOf cfL) y x).map Subtype.val = sortE L := by
    refine sortE_is ?_ ?_
    · rw [← hD]; exact (List.mergeSort_perm D _).map _
    · have h1 := List.pairwise_mergeSort (le := fun x y : OkL => !(ltOf cfL) y x) (fun a b c h1 h2 => by
        simp only [ltL, Bool.not_eq_true', decide_eq_false_iff_not, cmpE_neg] at *
        omega) (fun a b => by
        simp only [ltL, Bool.or_eq_true, Bool.not_eq_true', decide_eq_false_iff_not, cmpE_neg]
        omega) D
      rw [List.pairwise_map]
      refine h1.imp fun {a b} h => ?_
      simpa [ltL] using h
  refine ⟨rfl, ?_, ?_⟩
  · have h1 := own_putK (q := q) ho (F := flatK encL 4 (D.mergeSort fun x y => !(ltOf cfL) y x).toArray) (by simp [hDl])
    rw [flatK_listK (by omega) encL (fun x => edgeC_len x.1), show (D.mergeSort fun x y => !(ltOf cfL) y x).toArray.toList = (D.mergeSort fun x y => !(ltOf cfL) y x) by simp, flat_valL, hM] at h1
    have h2 := ownsRow_grow h1 0 os
    exact h2
  · exact below_row2 hgB (by omega)
theorem sortLeg0_any (A : Option Addr) (cap : Nat) (w : World) : Calls Tryz.prog 116 #[.slice A 0 cap, .func (.func 117) #[] #[]] w fun e w' => e = .returned (.tuple #[]) ∧ w' = w :=
  AnyF.slices_SortFunc_none { Tryz.sortLeg with } A cap _ w
set_option maxHeartbeats 1000000 in
theorem compactLeg0_any (A : Option Addr) (cap : Nat) (w : World) : Calls Tryz.prog 118 #[.slice A 0 cap] w fun e w' => e = .returned (.slice A 0 cap) ∧ w' = w := by
  go_enter Tryz.func118, Tryz.ntmps118
  go_wp2_with fail
  go_ret
  exact ⟨rfl, rfl⟩

theorem own_setO {w : World} {B : Nat} {e : TypeId} {size n X : Nat} {v : Value} {xs : List Value} (h : w.ownsRow B e size v n xs) (hX : v.ownBlock ≠ some X) (o : Nat) (u : Value) : (w.setCell ⟨X, o, none⟩ u).ownsRow B e size v n xs := ownsRow_setCell_other h hX u
set_option maxHeartbeats 16000000 in
theorem pairsOf_any (A : Option Addr) (n c lo hi : Nat) (E : List Leg) (w : World) (hr : RdS 4 (FlatR edgeC) w lo hi A n E) (hhi : hi ≤ w.heap.size) (hn : n ≤ 1000) (hok : EOk E) :
    Calls Tryz.prog 97 #[.slice A n c] w fun e w' => ∃ (A' : Option Addr) (c' : Nat), e = .returned (.slice A' (pairsF E).length c') ∧ w'.ownsRow w.heap.size 78 4 (.slice A' (pairsF E).length c') (pairsF E).length ((pairsF E).flatMap edgeC) ∧ Below w.heap.size w w' := by
  have hll := Lib.hid hr.1
  obtain ⟨P, hP⟩ : ∃ H, H = pairsF E := ⟨_, rfl⟩
  rw [← hP]
  replace hP := Lib.hid hP
  replace hr := Lib.hid hr
  replace hok := Lib.hid hok
  go_enter Tryz.func97, Tryz.ntmps97
  go_wp2_with fail
  go_loopg [3, 8] n (fun kx s3 s8 wr => ∃ (k : Nat) (A1 : Option Addr) (c1 : Nat), s8 = .int .i64 k ∧ s3 = .slice A1 k c1 ∧ k ≤ n ∧ n - k ≤ kx ∧ Hid (wr.ownsRow w.heap.size 78 4 (.slice A1 k c1) k (((E.take k).map normE).flatMap edgeC)) ∧ Below w.heap.size w wr)
  case atStart => exact ⟨0, none, 0, rfl, rfl, Nat.zero_le _, Nat.le_refl _, Lib.hid (World.ownsRow_nil _ _ _ _), Below.refl _ _⟩
  case round =>
  obtain ⟨k, A1, c1, rfl, rfl, hk, hkx, hown, hbel⟩ := hrel
  generalize wr = xr at *
  have hzx := hbel.size
  by_cases hlt : k < n
  rotate_left
  · have hkn : k = n := by omega
    have hki : ¬ (k : Int) < (n : Int) := by omega
    have hbelH := Lib.hid hbel
    rw [hkn, List.take_of_length_le (by have := hll.out; omega)] at hown
    have hEok : EOk (E.map normE) := by
      intro e he
      obtain ⟨e', he', rfl⟩ := List.mem_map.1 he
      exact norm_ok (hok.out e' he')
    have hEl : (E.map normE).length = n := by rw [List.length_map]; exact hll.out
    by_cases hn0 : n = 0
    · subst hn0
      have hE0 : E = [] := List.eq_nil_of_length_eq_zero hll.out
      have hP0 : P = [] := by rw [hP.out, hE0]; rfl
      subst hP0
      have hs0 := Lib.hid (fun W => sortLeg0_any A1 c1 W)
      have hc0 := Lib.hid (fun W => compactLeg0_any A1 c1 W)
      have hk0 : k = 0 := hkn
      subst hk0
      have hown0 := hown.out
      rw [hE0] at hown0
      replace hown0 := Lib.hid hown0
      clear hEok hEl hki
      go_wp2_with (first | (go_at_call 116; refine (hs0.out _).mono ?_; rintro e w1 ⟨rfl, rfl⟩) | (go_at_call 118; refine (hc0.out _).mono ?_; rintro e w1 ⟨rfl, rfl⟩))
      go_ret
      exact ⟨A1, c1, rfl, hown0.out, hbelH.out⟩
    obtain ⟨g, hg, _⟩ := own_at hown.out (by omega)
    subst hg
    have hs := Lib.hid (sortLeg_any g n c1 w.heap.size _ xr hown.out hEl (by omega) hEok)
    obtain ⟨S, hS⟩ : ∃ S, S = sortE (E.map normE) := ⟨_, rfl⟩
    rw [← hS] at hs
    have hSl : S.length = n := by rw [hS, sortE_len]; exact hEl
    have hPS : keepE S n = P := by rw [hP.out, hS]; unfold pairsF; rw [hll.out]
    have hcm := Lib.hid (fun W hW => compactLeg_any g n c1 w.heap.size S W hW hSl hn)
    rw [hPS] at hcm
    replace hPS := Lib.hid hPS
    replace hS := Lib.hid hS
    clear hEok hEl hown
    subst hkn
    go_wp2_with (first | (go_at_call 116; refine hs.out.mono ?_; rintro e w1 ⟨rfl, ho1, hb1⟩; replace ho1 := Lib.hid ho1; replace hb1 := Lib.hid hb1) | (go_at_call 118; refine (hcm.out _ ho1.out).mono ?_; rintro e w2 ⟨rfl, ho2, hb2⟩; replace ho2 := Lib.hid ho2; replace hb2 := Lib.hid hb2))
    go_ret
    exact ⟨_, _, rfl, ho2.out, (hbelH.out.trans hb1.out).trans hb2.out⟩
  have hki : (k : Int) < (n : Int) := by omega
  have i1 : (0 : Int) ≤ (k : Int) ∧ (k : Int) < (n : Int) := by omega
  obtain ⟨g, og, e, hA, hg1, hg2, hje, hcs⟩ := (hr.out.frame (good_flat _) (Below.sameB hbel hhi)).at hlt
  subst hA
  obtain ⟨m2, m3⟩ := hok.out e (List.mem_of_getElem? hje)
  have hn1 : (E.take (k + 1)).map normE = (E.take k).map normE ++ [normE e] := by rw [List.take_add_one, hje, List.map_append]; rfl
  have hcY := fun W => compareYX_any e.1.1 e.1.2 e.2.1 e.2.2 m2 m3 W
  obtain ⟨v, hv⟩ : ∃ v, v = cmpYX e.1 e.2 := ⟨_, rfl⟩
  rw [show ((e.1.1, e.1.2) : Pnt) = e.1 from rfl, show ((e.2.1, e.2.2) : Pnt) = e.2 from rfl, ← hv] at hcY
  have hnP : Hid (0 < v → (E.take (k + 1)).map normE = (E.take k).map normE ++ [(e.2, e.1)]) := Lib.hid fun h => by rw [hn1]; unfold normE; rw [if_pos (by rw [← hv]; exact h)]
  have hnN : Hid (¬ 0 < v → (E.take (k + 1)).map normE = (E.take k).map normE ++ [e]) := Lib.hid fun h => by rw [hn1]; unfold normE; rw [if_neg (by rw [← hv]; exact h)]
  clear hn1
  obtain ⟨⟨ax, ay⟩, bx, ey⟩ := e
  have d0 := hcs 0 _ rfl
  have d1 := hcs 1 _ rfl
  have d2 := hcs 2 _ rfl
  have d3 := hcs 3 _ rfl
  simp only [Nat.add_zero] at d0
  dsimp only at d0 d1 d2 d3 hcY
  have hgw : g < xr.heap.size := by omega
  have hbx := heap_alloc_new xr (.cells #[.int .i64 ax, .int .i64 ay, .int .i64 bx, .int .i64 ey] 78 (0, 0))
  have hal := Go.Joins.below_alloc1 xr (.cells #[.int .i64 ax, .int .i64 ay, .int .i64 bx, .int .i64 ey] 78 (0, 0))
  have hz7 : (xr.alloc (.cells #[.int .i64 ax, .int .i64 ay, .int .i64 bx, .int .i64 ey] 78 (0, 0))).heap.size = xr.heap.size + 1 := by simp
  have HO7 := Lib.hid (own_below hown.out hal)
  have hb7 := Lib.hid (hbel.trans (hal.mono hzx))
  have hoff : Hid ((Value.slice A1 k c1).ownBlock ≠ some xr.heap.size) := Lib.hid fun h => by have := (hown.out.lt _ h).2; omega
  replace hcY := Lib.hid hcY
  replace hv := Lib.hid hv
  clear hcs hje m2 m3 hal hg1 hg2
  go_upto_region 5 with fail
  clear d0 d1 d2 d3
  generalize xr.alloc (.cells #[.int .i64 ax, .int .i64 ay, .int .i64 bx, .int .i64 ey] 78 (0, 0)) = w7 at *
  obtain ⟨X, hX⟩ : ∃ P, P = xr.heap.size := ⟨_, rfl⟩
  rw [← hX] at hbx hz7 hzx hgw hoff ⊢
  obtain ⟨e0, e1, e2, e3⟩ := leg_cells hbx
  have hbxH := Lib.hid hbx
  have hXl : X < w7.heap.size := by omega
  have hs7 := hb7.out.size
  replace hX := Lib.hid hX
  clear hz7
  by_cases hpos : 0 < v
  · have hn1 := Lib.hid (hnP.out hpos)
    go_wp2_with (first | (go_at_call 71; refine (hcY.out _).mono ?_; rintro e w8 ⟨rfl, hg8⟩; replace hg8 : Grew _ w8 := hg8; have hbx8 := (hg8.below.block _ hXl).trans hbxH.out; obtain ⟨k0, k1, k2, k3⟩ := leg_cells hbx8; have kf := Go.Joins.unfrozen_of_block hbx8; have kl : X < w8.heap.size := (by have := hg8.below.size; omega); have HO8 := Lib.hid (own_below HO7.out hg8.below); have hb8 := Lib.hid (hb7.out.trans (hg8.below.mono hs7)); have hs8 := hg8.below.size; clear e0 e1 e2 e3 hg8; replace hbx8 := Lib.hid hbx8) | (at_builtin; refine wpApp rfl (.tmp 24) (.tmp 26) elemLeg rfl (v := .slice A1 k c1) (n := k) (xs := ((E.take k).map normE).flatMap edgeC) rfl ((own_setO (own_setO (own_setO (own_setO HO8.out hoff.out _ _) hoff.out _ _) hoff.out _ _) hoff.out _ _).alloc _) rfl (src_at (cs := [.int .i64 bx, .int .i64 ey, .int .i64 ax, .int .i64 ay]) rfl (by simp [Value.oneCell']) (by simp)) (by omega) (by omega) (by simp; omega) (k + 1) rfl ?_; intro A9 c9 w9 ho9 hb9; replace ho9 := Lib.hid ho9; replace hb9 := Lib.hid hb9))
    go_roundg (n - (k + 1))
    case measure => omega
    case rel =>
      have hXw : w.heap.size ≤ X := by have := hX.out; omega
      refine ⟨k + 1, A9, c9, by go_num, rfl, by omega, Nat.le_refl _, ?_, (((((hb8.out.setCell hXw _).setCell hXw _).setCell hXw _).setCell hXw _).alloc (by simp; try omega) _).trans (hb9.out.mono (by simp; try omega))⟩
      rw [hn1.out, List.flatMap_append]
      exact ho9
  · have hn1 := Lib.hid (hnN.out hpos)
    go_wp2_with (first | (go_at_call 71; refine (hcY.out _).mono ?_; rintro e w8 ⟨rfl, hg8⟩; replace hg8 : Grew _ w8 := hg8; have hbx8 := (hg8.below.block _ hXl).trans hbxH.out; obtain ⟨k0, k1, k2, k3⟩ := leg_cells hbx8; have HO8 := Lib.hid (own_below HO7.out hg8.below); have hb8 := Lib.hid (hb7.out.trans (hg8.below.mono hs7)); have hs8 := hg8.below.size; clear e0 e1 e2 e3 hg8) | (at_builtin; refine wpApp rfl (.tmp 24) (.tmp 26) elemLeg rfl (v := .slice A1 k c1) (n := k) (xs := ((E.take k).map normE).flatMap edgeC) rfl (HO8.out.alloc _) rfl (src_at (cs := [.int .i64 ax, .int .i64 ay, .int .i64 bx, .int .i64 ey]) rfl (by simp [Value.oneCell']) (by simp)) (by omega) (by omega) (by simp; omega) (k + 1) rfl ?_; intro A9 c9 w9 ho9 hb9; replace ho9 := Lib.hid ho9; replace hb9 := Lib.hid hb9))
    go_roundg (n - (k + 1))
    case measure => omega
    case rel =>
      refine ⟨k + 1, A9, c9, by go_num, rfl, by omega, Nat.le_refl _, ?_, (hb8.out.alloc (by omega) _).trans (hb9.out.mono (by simp; try omega))⟩
      rw [hn1.out, List.flatMap_append]
      exact ho9
end Go.Proofs.YtlifiioflkhkoaaGreat

