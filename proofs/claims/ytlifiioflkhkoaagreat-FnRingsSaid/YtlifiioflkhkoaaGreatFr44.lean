/- A drawn region. Printed by mk_dr2.py. Conditions: as each states. -/
import Derived.Test.YtlifiioflkhkoaaGreatFr43
namespace Go.Proofs.YtlifiioflkhkoaaGreat
open Go.RowKit
set_option linter.unusedVariables false
set_option maxRecDepth 100000

set_option maxHeartbeats 32000000 in
theorem l14Draw_any (b k : Nat) (w : World) (hs : Src0 w b k) (hk : k ≤ 999800000) :
    Calls Tryz.prog 15 #[.pointer (some ⟨b, 0, none⟩)] w fun e w' => ∃ (A' : Option Addr) (c' k' : Nat) (ys : List Value) (Rs : List (List Pnt)), e = .returned (.agg #[.slice A' Rs.length c']) ∧ Rs.length ≤ 3 ∧ RegTo w' w.heap.size A' Rs.length c' ys Rs ∧ (∀ R ∈ Rs, RgIn 6 50 R) ∧ Src0 w' b k' ∧ k' ≤ k + 2000 ∧ w.grownBy w' (some b) := by
  have hbl := hs.lt
  have hB0 := Go.Joins.below_alloc1 w (.cells #[.slice none 0 0] 26 (0, 0))
  have hnew := heap_alloc_new w (.cells #[.slice none 0 0] 26 (0, 0))
  have hz0 : (w.alloc (.cells #[.slice none 0 0] 26 (0, 0))).heap.size = w.heap.size + 1 := by simp
  have hs0 := Lib.hid (hs.kept hB0 hbl)
  clear hs
  go_enter Tryz.func15, Tryz.ntmps15
  go_upto_region 1 with fail
  generalize w.alloc (.cells #[.slice none 0 0] 26 (0, 0)) = w0 at *
  obtain ⟨Y, hY⟩ : ∃ Y, Y = w.heap.size := ⟨_, rfl⟩
  rw [← hY] at hnew hz0 hbl ⊢
  have hsz : Y + 1 ≤ w0.heap.size ∧ w0.heap.size ≤ Y + 1 ∧ b < Y := by omega
  have hR0H := Lib.hid hnew
  have hG0 := Lib.hid (grown_of hB0 (some b))
  have hYH := Lib.hid hY
  have hco := Lib.hid (one_any b k 3 w0 hs0.out (by omega))
  clear hB0 hz0 hY hnew
  go_wp2_with fail
  refine hco.out.mono ?_
  rintro e w1 ⟨r1, k1, rfl, hs1, hk1, hg1⟩
  have hz1 := hg1.size
  have hR1 := Lib.hid ((hg1.block Y (by omega) (by intro e; injection e with e; omega)).trans hR0H.out)
  have hG1 := Lib.hid (grown_tr hG0.out hg1)
  replace hs1 := Lib.hid hs1
  clear hco hg1 hs0
  cases r1 with
  | true =>
    have hcd := Lib.hid (l13Draw_any b k1 w1 hs1.out (by omega))
    go_wp2_with fail
    refine hcd.out.mono ?_
    rintro e w2 ⟨A2, c2, k2, ys, Rs, rfl, hRl, hto, hin, hs2, hk2, hg2⟩
    have hz2 := hg2.size
    have hR2 := Lib.hid ((hg2.block Y (by omega) (by intro e; injection e with e; omega)).trans hR1.out)
    have hG2 := Lib.hid (grown_tr hG1.out hg2)
    have r0 : w2.cell? ⟨Y, 0, none⟩ = some (.slice none 0 0) := by rw [Go.Joins.cell_of_block hR2.out]; rfl
    have rf := Go.Joins.unfrozen_of_block hR2.out
    have rl : Y < w2.heap.size := by omega
    have htoH := Lib.hid hto
    have hs2H := Lib.hid hs2
    clear hcd hto hs2 hg2
    go_wp2_with fail
    refine bodyPost_ret (v := .agg #[.slice A2 Rs.length c2]) ?_ rfl ⟨A2, c2, k2, ys, Rs, rfl, by omega, ?_, hin, hs2H.out.set (by omega), by omega, ?_⟩
    · have r3 : (w2.setCell ⟨Y, 0, none⟩ (.slice A2 Rs.length c2)).cell? ⟨Y, 0, none⟩ = some (.slice A2 Rs.length c2) := by rw [Go.Joins.cell_of_block (Go.Joins.block_setCell hR2.out _)]; rfl
      simp [results, Tryz.results15, go_sem, r3]
    · exact RegTo.lower (htoH.out.set (by show Y < w1.heap.size; omega) _) (by have := hYH.out; omega)
    · exact grown_setO hG2.out (by have := hYH.out; omega) _ _
  | false =>
  have hal := Go.Joins.below_alloc1 w1 (.cells #[.slice none 0 0] 26 (0, 0))
  have hbo := heap_alloc_new w1 (.cells #[.slice none 0 0] 26 (0, 0))
  have hza : (w1.alloc (.cells #[.slice none 0 0] 26 (0, 0))).heap.size = w1.heap.size + 1 := by simp
  have hRa := Lib.hid ((hal.block Y (by omega)).trans hR1.out)
  have hsa := Lib.hid (hs1.out.kept hal (by omega))
  have hGa := Lib.hid (grown_tr hG1.out (grown_of (hal.mono (by omega)) (some b)))
  clear hR1 hG1 hs1 hal
  go_upto_region 4 with fail
  generalize w1.alloc (.cells #[.slice none 0 0] 26 (0, 0)) = w2 at *
  obtain ⟨X, hX⟩ : ∃ X, X = w1.heap.size := ⟨_, rfl⟩
  rw [← hX] at hbo hza ⊢
  have hXs : X + 1 ≤ w2.heap.size ∧ w2.heap.size ≤ X + 1 ∧ Y < X := by omega
  have hX2 := Lib.hid hbo
  have hcp := Lib.hid (pick_any b k1 3 w2 hsa.out (by omega))
  clear hza hX hbo
  go_wp2_with fail
  refine hcp.out.mono ?_
  rintro e w3 ⟨r, k2, rfl, hr0, hr1, _, hs3, hk2, hg3⟩
  have hr2 := hr1 (by omega)
  have hz3 := hg3.size
  have hX3 := Lib.hid ((hg3.block X (by omega) (by intro e; injection e with e; omega)).trans hX2.out)
  have hR3 := Lib.hid ((hg3.block Y (by omega) (by intro e; injection e with e; omega)).trans hRa.out)
  have hG3 := Lib.hid (grown_tr hGa.out hg3)
  replace hs3 := Lib.hid hs3
  obtain ⟨N, hN⟩ : ∃ N : Nat, (N : Int) = 1 + r := ⟨(1 + r).toNat, by omega⟩
  have hN3 : N ≤ 3 := by omega
  clear hcp hr1 hg3 hX2 hRa hGa hsa
  go_wp2_with fail
  go_loopg [4, 5, 6, 7, 8, 9] N (fun kx s4 s5 s6 s7 s8 s9 wr => ∃ (t k3 : Nat) (Ao : Option Addr) (co : Nat) (ys : List Value) (Rs : List (List Pnt)), s4 = .int .i64 t ∧ Rs.length + t = N ∧ t ≤ kx ∧ wr.heap[X]? = some (.cells #[.slice Ao Rs.length co] 26 (0, 0)) ∧ wr.heap[Y]? = some (.cells #[.slice none 0 0] 26 (0, 0)) ∧ Hid (RegTo wr (X + 1) Ao Rs.length co ys Rs ∧ ∀ R ∈ Rs, RgIn 6 50 R) ∧ Hid (Src0 wr b k3) ∧ k3 + 20 * t ≤ k + 10 + 20 * N ∧ X + 1 ≤ wr.heap.size ∧ Hid (w.grownBy wr (some b)))
  case atStart => exact ⟨N, k2, none, 0, [], [], by rw [hN], by simp, Nat.le_refl _, hX3.out, hR3.out, ⟨⟨World.ownsRow_nil _ _ _ _, fun j K hj => absurd hj (Nat.not_lt_zero j), fun i j u v _ hu => by simp at hu⟩, (fun R hR => by cases hR)⟩, hs3.out, by omega, by omega, hG3.out⟩
  case round =>
  clear hX3 hR3 hG3 hs3 hz3 hN
  obtain ⟨t, k3, Ao, co, ys, Rs, rfl, hRt, htx, hXb, hRb, hto, hsr, hk3, hzr, hG⟩ := hrel
  generalize wr = xr at *
  by_cases htpos : 0 < t
  rotate_left
  · have hti : ¬ (0 : Int) < (t : Int) := by omega
    have x0 : xr.cell? ⟨X, 0, none⟩ = some (.slice Ao Rs.length co) := by rw [Go.Joins.cell_of_block hXb]; rfl
    have r0 : xr.cell? ⟨Y, 0, none⟩ = some (.slice none 0 0) := by rw [Go.Joins.cell_of_block hRb]; rfl
    have rf := Go.Joins.unfrozen_of_block hRb
    have rl : Y < xr.heap.size ∧ X < xr.heap.size := by omega
    have hRbH := Lib.hid hRb
    have hR2 : Rs.length ≤ 3 := by omega
    replace hRt := Lib.hid hRt
    clear hXb hRb
    go_wp2_with fail
    refine bodyPost_ret (v := .agg #[.slice Ao Rs.length co]) ?_ rfl ⟨Ao, co, k3, ys, Rs, rfl, hR2, ?_, hto.out.2, hsr.out.set (by omega), by omega, ?_⟩
    · have r3 : (xr.setCell ⟨Y, 0, none⟩ (.slice Ao Rs.length co)).cell? ⟨Y, 0, none⟩ = some (.slice Ao Rs.length co) := by rw [Go.Joins.cell_of_block (Go.Joins.block_setCell hRbH.out _)]; rfl
      simp [results, Tryz.results15, go_sem, r3]
    · exact RegTo.lower (hto.out.1.set (by show Y < X + 1; omega) _) (by have := hYH.out; omega)
    · exact grown_setO hG.out (by have := hYH.out; omega) _ _
  have hti : (0 : Int) < (t : Int) := by omega
  have hXxr := Lib.hid hXb
  have hRxr := Lib.hid hRb
  clear hXb hRb
  have hcp := Lib.hid (pick_any b k3 9 xr hsr.out (by omega))
  go_wp2_with fail
  refine hcp.out.mono ?_
  rintro e w1 ⟨x, kw1, rfl, hx0, hx1, _, hsw1, hkw1, hgw1⟩
  have hx2 := hx1 (by omega)
  have hzw1 := hgw1.size
  have hXw1 := Lib.hid ((hgw1.block X (by omega) (by intro e; injection e with e; omega)).trans hXxr.out)
  have hRw1 := Lib.hid ((hgw1.block Y (by omega) (by intro e; injection e with e; omega)).trans hRxr.out)
  have hGw1 : Hid (xr.grownBy w1 (some b)) := hgw1
  replace hsw1 := Lib.hid hsw1
  clear hcp hx1 hgw1
  have hcp := Lib.hid (pick_any b kw1 9 w1 hsw1.out (by omega))
  go_wp2_with fail
  refine hcp.out.mono ?_
  rintro e w2 ⟨y, kw2, rfl, hy0, hy1, _, hsw2, hkw2, hgw2⟩
  have hy2 := hy1 (by omega)
  have hzw2 := hgw2.size
  have hXw2 := Lib.hid ((hgw2.block X (by omega) (by intro e; injection e with e; omega)).trans hXw1.out)
  have hRw2 := Lib.hid ((hgw2.block Y (by omega) (by intro e; injection e with e; omega)).trans hRw1.out)
  have hGw2 : Hid (xr.grownBy w2 (some b)) := grown_tr hGw1.out hgw2
  replace hsw2 := Lib.hid hsw2
  clear hcp hy1 hgw2 hXw1 hRw1 hGw1
  have hcp := Lib.hid (pick_any b kw2 8 w2 hsw2.out (by omega))
  go_wp2_with fail
  refine hcp.out.mono ?_
  rintro e w3 ⟨wdr, kw3, rfl, hwd0, hwd1, _, hsw3, hkw3, hgw3⟩
  have hwd2 := hwd1 (by omega)
  have hzw3 := hgw3.size
  have hXw3 := Lib.hid ((hgw3.block X (by omega) (by intro e; injection e with e; omega)).trans hXw2.out)
  have hRw3 := Lib.hid ((hgw3.block Y (by omega) (by intro e; injection e with e; omega)).trans hRw2.out)
  have hGw3 : Hid (xr.grownBy w3 (some b)) := grown_tr hGw2.out hgw3
  replace hsw3 := Lib.hid hsw3
  obtain ⟨wd, hwdE⟩ : ∃ z, z = 1 + wdr := ⟨_, rfl⟩
  have hwwd : IntKind.i64.wrap (1 + wdr) = wd := by rw [IntKind.wrap_i64]; omega
  have hbwd : 1 ≤ wd ∧ wd ≤ 8 := by omega
  replace hwdE := Lib.hid hwdE
  clear hcp hwd1 hgw3 hXw2 hRw2 hGw2
  have hcp := Lib.hid (pick_any b kw3 8 w3 hsw3.out (by omega))
  go_wp2_with fail
  refine hcp.out.mono ?_
  rintro e w4 ⟨htr, kw4, rfl, hht0, hht1, _, hsw4, hkw4, hgw4⟩
  have hht2 := hht1 (by omega)
  have hzw4 := hgw4.size
  have hXw4 := Lib.hid ((hgw4.block X (by omega) (by intro e; injection e with e; omega)).trans hXw3.out)
  have hRw4 := Lib.hid ((hgw4.block Y (by omega) (by intro e; injection e with e; omega)).trans hRw3.out)
  have hGw4 : Hid (xr.grownBy w4 (some b)) := grown_tr hGw3.out hgw4
  replace hsw4 := Lib.hid hsw4
  obtain ⟨ht, hhtE⟩ : ∃ z, z = 1 + htr := ⟨_, rfl⟩
  have hwht : IntKind.i64.wrap (1 + htr) = ht := by rw [IntKind.wrap_i64]; omega
  have hbht : 1 ≤ ht ∧ ht ≤ 8 := by omega
  replace hhtE := Lib.hid hhtE
  clear hcp hht1 hgw4 hXw3 hRw3 hGw3
  have e1 : IntKind.i64.wrap (x + wd) = x + wd := by rw [IntKind.wrap_i64]; omega
  have e2 : IntKind.i64.wrap (y + ht) = y + ht := by rw [IntKind.wrap_i64]; omega
  have hzA := heap_new2 w4 (.cells #[.int .i64 x, .int .i64 y, .int .i64 (x + wd), .int .i64 y, .int .i64 (x + wd), .int .i64 (y + ht), .int .i64 x, .int .i64 (y + ht)] 28 (0, 0)) (.cells #[.slice (some ⟨w4.heap.size, 0, none⟩) 4 4] 42 (0, 0))
  have hbA := Go.Joins.below_alloc2 w4 (.cells #[.int .i64 x, .int .i64 y, .int .i64 (x + wd), .int .i64 y, .int .i64 (x + wd), .int .i64 (y + ht), .int .i64 x, .int .i64 (y + ht)] 28 (0, 0)) (.cells #[.slice (some ⟨w4.heap.size, 0, none⟩) 4 4] 42 (0, 0))
  have hsA : ((w4.alloc (.cells #[.int .i64 x, .int .i64 y, .int .i64 (x + wd), .int .i64 y, .int .i64 (x + wd), .int .i64 (y + ht), .int .i64 x, .int .i64 (y + ht)] 28 (0, 0))).alloc (.cells #[.slice (some ⟨w4.heap.size, 0, none⟩) 4 4] 42 (0, 0))).heap.size = w4.heap.size + 2 := by simp
  have hlit : (w4.alloc (.cells #[.int .i64 x, .int .i64 y, .int .i64 (x + wd), .int .i64 y, .int .i64 (x + wd), .int .i64 (y + ht), .int .i64 x, .int .i64 (y + ht)] 28 (0, 0))).ownsRow w4.heap.size 28 2 (.slice (some ⟨w4.heap.size, 0, none⟩) 4 4) 4 (([(x, y), (x + wd, y), (x + wd, y + ht), (x, y + ht)]).flatMap ptC) := World.ownsRow_lit w4 #[.int .i64 x, .int .i64 y, .int .i64 (x + wd), .int .i64 y, .int .i64 (x + wd), .int .i64 (y + ht), .int .i64 x, .int .i64 (y + ht)] 4 (Nat.le_refl _) (by decide) (by simp)
  have hrowA := hlit.alloc (.cells #[.slice (some ⟨w4.heap.size, 0, none⟩) 4 4] 42 (0, 0))
  have hsA4 := hsw4.out.kept hbA (by omega)
  clear hlit
  go_upto_region 12 with fail
  have hXA := Lib.hid ((hbA.block X (by omega)).trans hXw4.out)
  have hRA := Lib.hid ((hbA.block Y (by omega)).trans hRw4.out)
  have hGA := Lib.hid (grown_tr hGw4.out (grown_of hbA (some b)))
  clear hbA hsw4 hXw4 hRw4 hGw4
  generalize (w4.alloc (.cells #[.int .i64 x, .int .i64 y, .int .i64 (x + wd), .int .i64 y, .int .i64 (x + wd), .int .i64 (y + ht), .int .i64 x, .int .i64 (y + ht)] 28 (0, 0))).alloc (.cells #[.slice (some ⟨w4.heap.size, 0, none⟩) 4 4] 42 (0, 0)) = v at *
  obtain ⟨P, hP⟩ : ∃ P, P = w4.heap.size := ⟨_, rfl⟩
  obtain ⟨Z, hZ⟩ : ∃ Z, Z = P + 1 := ⟨_, rfl⟩
  rw [← hP] at hzA hsA hrowA ⊢
  rw [← hZ] at hzA ⊢
  obtain ⟨hPv, hZv⟩ := hzA
  have hPs : xr.heap.size ≤ P ∧ P < Z ∧ Z < v.heap.size ∧ v.heap.size ≤ Z + 1 ∧ X < P := by omega
  have hrowAH := Lib.hid (own_lower hrowA hPs.1)
  have hsAH := Lib.hid hsA4
  have hPvH := Lib.hid hPv
  have hZvH := Lib.hid hZv
  replace hP := Lib.hid hP
  replace hZ := Lib.hid hZ
  have hcp := Lib.hid (pick_any b kw4 4 v hsA4 (by omega))
  clear hrowA hsA4 hPv hZv hsA
  go_wp2_with fail
  refine hcp.out.mono ?_
  rintro e w5 ⟨sw, k5, rfl, hsw0, hsw1, _, hs5, hk5, hg5⟩
  have hz5 := hg5.size
  have hXb9 := (hg5.block X (by omega) (by intro e; injection e with e; omega)).trans hXA.out
  have hRb9 := (hg5.block Y (by omega) (by intro e; injection e with e; omega)).trans hRA.out
  have hP5 := Lib.hid ((hg5.block P (by omega) (by intro e; injection e with e; omega)).trans hPvH.out)
  have hZ5 := Lib.hid ((hg5.block Z (by omega) (by intro e; injection e with e; omega)).trans hZvH.out)
  have hGx := Lib.hid (grown_tr hGA.out hg5)
  have hrow5 := Lib.hid (own_grown hrowAH.out hg5 (by omega))
  have hs5H := Lib.hid hs5
  have z5 : w5.cell? ⟨Z, 0, none⟩ = some (.slice (some ⟨P, 0, none⟩) 4 4) := by rw [Go.Joins.cell_of_block hZ5.out]; rfl
  have zl9 : Z < w5.heap.size ∧ P < w5.heap.size := by omega
  clear hcp hsw1 hg5 hXA hRA hGA hs5 hrowAH hsAH hPvH hZvH
  by_cases hc0 : sw = 0
  · subst hc0
    have hcq := Lib.hid (pick_any b k5 4 w5.drew hs5H.out.drew (by omega))
    go_wp2_with fail
    refine wp_region_head 12 (fun w' => w'.cell? ⟨Z, 0, none⟩ = some (.slice (some ⟨P, 0, none⟩) 4 4)) (by kernel_rfl) (by kernel_rfl) (by exact z5) (fun hHeld => ?_)
    simp only [List.take_succ_cons, List.take_zero, List.drop_succ_cons, List.drop_zero]
    refine wpAnyH_take (i := 0) (v := ?_) ((List.getElem?_toArray).trans rfl) (by kernel_rfl) (by kernel_rfl) (by kernel_rfl) (fun _ _ _ h => h) (Or.inl ⟨by rfl, ?_⟩) (by assumption) ?_
    rotate_left
    · (intro w hSw; (try dsimp only at hSw); go_simp; (try (with_reducible rfl)))
    (try simp only [Act.put, List.setIfInBounds_toArray, List.set_cons_zero, List.set_cons_succ])
    refine wpAnyH_take (i := 1) (v := ?_) ((List.getElem?_toArray).trans rfl) (by kernel_rfl) (by kernel_rfl) (by kernel_rfl) (fun _ _ _ h => h) (Or.inl ⟨by rfl, ?_⟩) (by assumption) ?_
    rotate_left
    · (intro w hSw; (try dsimp only at hSw); go_simp; (try (with_reducible rfl)))
    (try simp only [Act.put, List.setIfInBounds_toArray, List.set_cons_zero, List.set_cons_succ])
    refine wpAnyH_take (i := 2) (v := ?_) ((List.getElem?_toArray).trans rfl) (by kernel_rfl) (by kernel_rfl) (by kernel_rfl) (fun _ _ _ h => h) (Or.inl ⟨by rfl, ?_⟩) (by assumption) ?_
    rotate_left
    · (intro w hSw; (try dsimp only at hSw); go_simp; (try (with_reducible rfl)))
    (try simp only [Act.put, List.setIfInBounds_toArray, List.set_cons_zero, List.set_cons_succ])
    refine wpAnyH_take (i := 3) (v := ?_) ((List.getElem?_toArray).trans rfl) (by kernel_rfl) (by kernel_rfl) (by kernel_rfl) (fun _ _ _ h => h) (Or.inl ⟨by rfl, ?_⟩) (by assumption) ?_
    rotate_left
    · (intro w hSw; (try dsimp only at hSw); go_simp; (try (with_reducible rfl)))
    (try simp only [Act.put, List.setIfInBounds_toArray, List.set_cons_zero, List.set_cons_succ])
    refine wpAnyH_take (i := 4) (v := ?_) ((List.getElem?_toArray).trans rfl) (by kernel_rfl) (by kernel_rfl) (by kernel_rfl) (fun _ _ _ h => h) (Or.inl ⟨by rfl, ?_⟩) (by assumption) ?_
    rotate_left
    · (intro w hSw; (try dsimp only at hSw); go_simp; (try (with_reducible rfl)))
    (try simp only [Act.put, List.setIfInBounds_toArray, List.set_cons_zero, List.set_cons_succ])
    refine wpAnyH_take (i := 5) (v := ?_) ((List.getElem?_toArray).trans rfl) (by kernel_rfl) (by kernel_rfl) (by kernel_rfl) (fun _ _ _ h => h) (Or.inl ⟨by rfl, ?_⟩) (by assumption) ?_
    rotate_left
    · (intro w hSw; (try dsimp only at hSw); go_simp; (try (with_reducible rfl)))
    (try simp only [Act.put, List.setIfInBounds_toArray, List.set_cons_zero, List.set_cons_succ])
    refine wpAnyH_take (i := 8) (v := ?_) ((List.getElem?_toArray).trans rfl) (by kernel_rfl) (by kernel_rfl) (by kernel_rfl) (fun _ _ _ h => h) (Or.inl ⟨by rfl, ?_⟩) (by assumption) ?_
    rotate_left
    · (intro w hSw; (try dsimp only at hSw); go_simp; (try (with_reducible rfl)))
    (try simp only [Act.put, List.setIfInBounds_toArray, List.set_cons_zero, List.set_cons_succ])
    refine wpAnyH_take (i := 9) (v := ?_) ((List.getElem?_toArray).trans rfl) (by kernel_rfl) (by kernel_rfl) (by kernel_rfl) (fun _ _ _ h => h) (Or.inl ⟨by rfl, ?_⟩) (by assumption) ?_
    rotate_left
    · (intro w hSw; (try dsimp only at hSw); go_simp; (try (with_reducible rfl)))
    (try simp only [Act.put, List.setIfInBounds_toArray, List.set_cons_zero, List.set_cons_succ])
    refine wpAnyH_take (i := 10) (v := ?_) ((List.getElem?_toArray).trans rfl) (by kernel_rfl) (by kernel_rfl) (by kernel_rfl) (fun _ _ _ h => h) (Or.inl ⟨by rfl, ?_⟩) (by assumption) ?_
    rotate_left
    · (intro w hSw; (try dsimp only at hSw); go_simp; (try (with_reducible rfl)))
    (try simp only [Act.put, List.setIfInBounds_toArray, List.set_cons_zero, List.set_cons_succ])
    refine wpAnyH_ready (rs := [6]) (by kernel_rfl) (by simp) ?_
    refine AllReadyH.cons ((List.getElem?_toArray).trans rfl) (fun K0 hK0 => ?_) AllReadyH.nil
    (go_simp; go_at_call 16; refine hcq.out.mono ?_; rintro e w6 ⟨q, k6, rfl, hq0, hq1, _, hs6, hk6, hg6⟩; have hq2 := hq1 (by omega); have hz6 : w5.heap.size ≤ w6.heap.size := hg6.size; have hg6' : Hid (w5.grownBy w6 (some b)) := ⟨hg6.os, hg6.tape, hg6.output, hg6.size, hg6.block⟩; have HZ6 := Lib.hid ((hg6'.out.block Z (by omega) (by intro e; injection e with e; omega)).trans hZ5.out); have z6 : w6.cell? ⟨Z, 0, none⟩ = some (.slice (some ⟨P, 0, none⟩) 4 4) := (by rw [Go.Joins.cell_of_block HZ6.out]; rfl); have HP6 := Lib.hid ((hg6'.out.block P (by omega) (by intro e; injection e with e; omega)).trans hP5.out); have zl6 : Z < w6.heap.size ∧ P < w6.heap.size := (by omega); have p64 : w6.cell? ⟨P, 4, none⟩ = some (.int .i64 (x + wd)) := (by rw [Go.Joins.cell_of_block HP6.out]; rfl); have p65 : w6.cell? ⟨P, 5, none⟩ = some (.int .i64 (y + ht)) := (by rw [Go.Joins.cell_of_block HP6.out]; rfl); have pf6 := Go.Joins.unfrozen_of_block HP6.out; replace hs6 := Lib.hid hs6; have e20 : IntKind.i64.wrap (x + wd + q) = x + wd + q := (by rw [IntKind.wrap_i64]; omega); clear hg6 hq1; dsimp only)
    refine hK0.out _ _ ?_ (fun hHeld => ?_)
    · (exact z6)
    clear hK0 K0
    (try simp only [Act.put, List.setIfInBounds_toArray, List.set_cons_zero, List.set_cons_succ])
    refine wpAnyH_take (i := 7) (v := ?_) ((List.getElem?_toArray).trans rfl) (by kernel_rfl) (by kernel_rfl) (by kernel_rfl) (fun _ _ _ h => h) (Or.inl ⟨by rfl, ?_⟩) (by assumption) ?_
    rotate_left
    · (intro w hSw; (try dsimp only at hSw); go_simp; (try (with_reducible rfl)))
    (try simp only [Act.put, List.setIfInBounds_toArray, List.set_cons_zero, List.set_cons_succ])
    refine wpAnyH_take (i := 11) (v := ?_) ((List.getElem?_toArray).trans rfl) (by kernel_rfl) (by kernel_rfl) (by kernel_rfl) (fun _ _ _ h => h) (Or.inl ⟨by rfl, ?_⟩) (by assumption) ?_
    rotate_left
    · (intro w hSw; (try dsimp only at hSw); go_simp; (try (with_reducible rfl)))
    (try simp only [Act.put, List.setIfInBounds_toArray, List.set_cons_zero, List.set_cons_succ])
    refine wpAnyH_done (by kernel_rfl) ?_ _
    show wpList _ _ _ _ _ _
    have hst1 := (own_grown hrow5.out hg6'.out (by omega)).stored 4 (.int .i64 (x + wd + q))
    have hst2 := hst1.1.stored 5 (.int .i64 (y + ht))
    have hrow6 := Lib.hid hst2.1
    have hXb6 := (hg6'.out.block X (by omega) (by intro e; injection e with e; omega)).trans hXb9
    have hRb6 := (hg6'.out.block Y (by omega) (by intro e; injection e with e; omega)).trans hRb9
    have hGx6 := grown_tr hGx.out hg6'.out
    clear hst1 hst2 hXb9 hRb9
    go_upto_region 17 with fail
    have hXb9 := (Below.heap_setCell (w6.setCell ⟨P, 4, none⟩ (.int .i64 (x + wd + q))) ⟨P, 5, none⟩ (.int .i64 (y + ht)) X (by show X ≠ P; omega)).trans ((Below.heap_setCell w6 ⟨P, 4, none⟩ (.int .i64 (x + wd + q)) X (by show X ≠ P; omega)).trans hXb6)
    have hRb9 := (Below.heap_setCell (w6.setCell ⟨P, 4, none⟩ (.int .i64 (x + wd + q))) ⟨P, 5, none⟩ (.int .i64 (y + ht)) Y (by show Y ≠ P; omega)).trans ((Below.heap_setCell w6 ⟨P, 4, none⟩ (.int .i64 (x + wd + q)) Y (by show Y ≠ P; omega)).trans hRb6)
    have hZ9 := (Below.heap_setCell (w6.setCell ⟨P, 4, none⟩ (.int .i64 (x + wd + q))) ⟨P, 5, none⟩ (.int .i64 (y + ht)) Z (by show Z ≠ P; omega)).trans ((Below.heap_setCell w6 ⟨P, 4, none⟩ (.int .i64 (x + wd + q)) Z (by show Z ≠ P; omega)).trans HZ6.out)
    have hGx9 := grown_setO (grown_setO hGx6 hPs.1 4 (.int .i64 (x + wd + q))) hPs.1 5 (.int .i64 (y + ht))
    have hs9 := (hs6.out.set (x := P) (o := 4) (v := .int .i64 (x + wd + q)) (by omega)).set (x := P) (o := 5) (v := .int .i64 (y + ht)) (by omega)
    have hz9 : ((w6.setCell ⟨P, 4, none⟩ (.int .i64 (x + wd + q))).setCell ⟨P, 5, none⟩ (.int .i64 (y + ht))).heap.size = w6.heap.size := by simp
    clear hXb6 hRb6 hGx6 hGx
    generalize (w6.setCell ⟨P, 4, none⟩ (.int .i64 (x + wd + q))).setCell ⟨P, 5, none⟩ (.int .i64 (y + ht)) = u at *
    have zl9 : w6.heap.size ≤ u.heap.size := by omega
    have hGx := Lib.hid hGx9
    have hs9H := Lib.hid hs9
    have hZ9H := Lib.hid hZ9
    have hR9H := Lib.hid hRb9
    clear hz9 hGx9 hs9 hZ9 hRb9
    have hXu := Lib.hid (hXb9)
    have x5 : u.cell? ⟨X, 0, none⟩ = some (.slice Ao Rs.length co) := by rw [Go.Joins.cell_of_block hXb9]; rfl
    have xf5 := Go.Joins.unfrozen_of_block hXb9
    have xl5 : X < u.heap.size := by omega
    have zz5 : u.cell? ⟨Z, 0, none⟩ = some (.slice (some ⟨P, 0, none⟩) 4 4) := by rw [Go.Joins.cell_of_block hZ9H.out]; rfl
    have zl5 : Z < u.heap.size := by omega
    have htoU := Lib.hid (hto.out.1.grownB hGx.out (by omega))
    have hRb2 : Rs.length ≤ 3 := by omega
    replace hRt := Lib.hid hRt
    clear hXb9
    go_wp2_with (at_builtin; refine wpAppAt rfl (.tmp 92) (.tmp 94) elemRing rfl (v := .slice Ao Rs.length co) (n := Rs.length) (xs := ys) rfl (htoU.out.1.alloc _) rfl (src_at (cs := [.slice (some ⟨P, 0, none⟩) 4 4]) rfl (by simp [Value.oneCell']) (by simp)) (by omega) (by omega) (by simp; omega) (Rs.length + 1) rfl ?_; intro A6 c6 w9 ho6 hg6 _; have hk6 : ∀ g, g ≤ X → w9.heap[g]? = u.heap[g]? := (fun g hg => (hg6.block g (by simp; omega) (fun e => by have := (htoU.out.1.lt g e.symm).1; omega)).trans (Below.heap_alloc _ _ _ (by omega))); have x6 : w9.cell? ⟨X, 0, none⟩ = some (.slice Ao Rs.length co) := (World.cell?_of_block (hk6 X (Nat.le_refl _))).trans x5; have xf6 : ∀ o, w9.frozen? ⟨X, o, none⟩ = false := fun o => (World.frozen?_of_block (hk6 X (Nat.le_refl _))).trans (xf5 o); have xl6 : X < w9.heap.size := (by have := hg6.size; simp at this; omega); replace hk6 := Lib.hid hk6; replace ho6 := Lib.hid ho6; replace hg6 := Lib.hid hg6)
    have hnx := RegTo.nextG (w1 := u.alloc (.cells #[.slice (some ⟨P, 0, none⟩) 4 4] 42 (0, 0))) (B := xr.heap.size) (K := [(x, y), (x + wd, y), (x + wd + q, y + ht), (x, y + ht)]) (c2 := 4) (A2 := (some ⟨P, 0, none⟩)) (hto.out.1.snocL [(x, y), (x + wd, y), (x + wd + q, y + ht), (x, y + ht)]) (by rw [List.getElem?_append_right (Nat.le_refl _), Nat.sub_self]; rfl) (grown_tr hGx.out (grown_of (Go.Joins.below_alloc1 u _) (some b))) (by omega) (hrow6.out.alloc _) (Nat.le_refl _) (by omega) ho6.out hg6.out
    have hzx6 : u.heap.size + 1 ≤ w9.heap.size := by have := hg6.out.size; simp at this; exact this
    go_roundg (t - 1)
    case measure => omega
    case rel =>
      refine ⟨t - 1, k6, A6, c6, ys ++ [.slice (some ⟨P, 0, none⟩) 4 4], Rs ++ [[(x, y), (x + wd, y), (x + wd + q, y + ht), (x, y + ht)]], by go_num, by have := hRt.out; simp; omega, by omega, ?_, ?_, ⟨?_, ?_⟩, ?_, by omega, by simp; omega, ?_⟩
      · rw [List.length_append]; exact Go.Joins.block_setCell ((hk6.out X (Nat.le_refl _)).trans hXu.out) _
      · exact (Below.heap_setCell _ _ _ _ (by show Y ≠ X; omega)).trans ((hk6.out Y (by omega)).trans hR9H.out)
      · rw [List.length_append]; exact hnx.set (by show X < X + 1; omega) _
      · intro R hR
        rcases List.mem_append.1 hR with hR | hR
        · exact hto.out.2 R hR
        · rw [List.mem_singleton.1 hR]; exact ⟨by simp, by simp, fun p hp => by simp only [List.mem_cons, List.not_mem_nil, or_false] at hp; rcases hp with rfl | rfl | rfl | rfl <;> (refine ⟨⟨?_, ?_⟩, ?_, ?_⟩ <;> simp only <;> omega)⟩
      · exact (hs9H.out.keepL fun g hg => hk6.out g (by omega)).set (by omega)
      · have hgg := hg6.out
        have hGw := hG.out
        have hx5 := hGx.out
        refine grown_setO (w := w) ⟨hgg.os.trans (hx5.os.trans hGw.os), hgg.tape.trans (hx5.tape.trans hGw.tape), hgg.output.trans (hx5.output.trans hGw.output), by have := hYH.out; omega, fun i hi hn => ?_⟩ (by have := hYH.out; omega) _ _
        have := hYH.out
        exact (hk6.out i (by omega)).trans ((hx5.block i (by omega) hn).trans (hGw.block i hi hn))
  · by_cases hc1 : sw = 1
    · subst hc1
      have hcs : w5.cell? ⟨Z, 0, none⟩ = some (.slice (some ⟨P, 0, none⟩) 4 4) ∧ w5.cell? ⟨P, 0, none⟩ = some (.int .i64 x) ∧ w5.cell? ⟨P, 1, none⟩ = some (.int .i64 y) ∧ w5.cell? ⟨P, 2, none⟩ = some (.int .i64 (x + wd)) ∧ w5.cell? ⟨P, 3, none⟩ = some (.int .i64 y) ∧ w5.cell? ⟨P, 4, none⟩ = some (.int .i64 (x + wd)) ∧ w5.cell? ⟨P, 5, none⟩ = some (.int .i64 (y + ht)) ∧ w5.cell? ⟨P, 6, none⟩ = some (.int .i64 x) ∧ w5.cell? ⟨P, 7, none⟩ = some (.int .i64 (y + ht)) := by
        refine ⟨z5, ?_⟩
        refine ⟨?_, ?_, ?_, ?_, ?_, ?_, ?_, ?_⟩ <;> (rw [Go.Joins.cell_of_block hP5.out]; rfl)
      obtain ⟨_, c0, c1, c2, c3, c4, c5, c6, c7⟩ := hcs
      have zf5 := Go.Joins.unfrozen_of_block hZ5.out
      go_wp2_with fail
      refine wp_region_head 17 (fun w' => w'.cell? ⟨Z, 0, none⟩ = some (.slice (some ⟨P, 0, none⟩) 4 4) ∧ w'.cell? ⟨P, 0, none⟩ = some (.int .i64 x) ∧ w'.cell? ⟨P, 1, none⟩ = some (.int .i64 y) ∧ w'.cell? ⟨P, 2, none⟩ = some (.int .i64 (x + wd)) ∧ w'.cell? ⟨P, 3, none⟩ = some (.int .i64 y) ∧ w'.cell? ⟨P, 4, none⟩ = some (.int .i64 (x + wd)) ∧ w'.cell? ⟨P, 5, none⟩ = some (.int .i64 (y + ht)) ∧ w'.cell? ⟨P, 6, none⟩ = some (.int .i64 x) ∧ w'.cell? ⟨P, 7, none⟩ = some (.int .i64 (y + ht))) (by kernel_rfl) (by kernel_rfl) (by exact ⟨z5, c0, c1, c2, c3, c4, c5, c6, c7⟩) (fun hHeld => ?_)
      simp only [List.take_succ_cons, List.take_zero, List.drop_succ_cons, List.drop_zero]
      refine wpAnyH_take (i := 0) (v := ?_) ((List.getElem?_toArray).trans rfl) (by kernel_rfl) (by kernel_rfl) (by kernel_rfl) (fun _ _ _ h => h) (Or.inl ⟨by rfl, ?_⟩) (by assumption) ?_
      rotate_left
      · (intro w hSw; (try dsimp only at hSw); go_simp; (try (with_reducible rfl)))
      (try simp only [Act.put, List.setIfInBounds_toArray, List.set_cons_zero, List.set_cons_succ])
      refine wpAnyH_take (i := 1) (v := ?_) ((List.getElem?_toArray).trans rfl) (by kernel_rfl) (by kernel_rfl) (by kernel_rfl) (fun _ _ _ h => h) (Or.inl ⟨by rfl, ?_⟩) (by assumption) ?_
      rotate_left
      · (intro w hSw; (try dsimp only at hSw); go_simp; (try (with_reducible rfl)))
      (try simp only [Act.put, List.setIfInBounds_toArray, List.set_cons_zero, List.set_cons_succ])
      refine wpAnyH_take (i := 2) (v := ?_) ((List.getElem?_toArray).trans rfl) (by kernel_rfl) (by kernel_rfl) (by kernel_rfl) (fun _ _ _ h => h) (Or.inl ⟨by rfl, ?_⟩) (by assumption) ?_
      rotate_left
      · (intro w hSw; (try dsimp only at hSw); go_simp; (try (with_reducible rfl)))
      (try simp only [Act.put, List.setIfInBounds_toArray, List.set_cons_zero, List.set_cons_succ])
      refine wpAnyH_take (i := 3) (v := ?_) ((List.getElem?_toArray).trans rfl) (by kernel_rfl) (by kernel_rfl) (by kernel_rfl) (fun _ _ _ h => h) (Or.inl ⟨by rfl, ?_⟩) (by assumption) ?_
      rotate_left
      · (intro w hSw; (try dsimp only at hSw); go_simp; (try (with_reducible rfl)))
      (try simp only [Act.put, List.setIfInBounds_toArray, List.set_cons_zero, List.set_cons_succ])
      refine wpAnyH_take (i := 4) (v := ?_) ((List.getElem?_toArray).trans rfl) (by kernel_rfl) (by kernel_rfl) (by kernel_rfl) (fun _ _ _ h => h) (Or.inl ⟨by rfl, ?_⟩) (by assumption) ?_
      rotate_left
      · (intro w hSw; (try dsimp only at hSw); go_simp; (try (with_reducible rfl)))
      (try simp only [Act.put, List.setIfInBounds_toArray, List.set_cons_zero, List.set_cons_succ])
      refine wpAnyH_take (i := 5) (v := ?_) ((List.getElem?_toArray).trans rfl) (by kernel_rfl) (by kernel_rfl) (by kernel_rfl) (fun _ _ _ h => h) (Or.inl ⟨by rfl, ?_⟩) (by assumption) ?_
      rotate_left
      · (intro w hSw; (try dsimp only at hSw); go_simp; (try (with_reducible rfl)))
      (try simp only [Act.put, List.setIfInBounds_toArray, List.set_cons_zero, List.set_cons_succ])
      refine wpAnyH_take (i := 6) (v := ?_) ((List.getElem?_toArray).trans rfl) (by kernel_rfl) (by kernel_rfl) (by kernel_rfl) (fun _ _ _ h => h) (Or.inl ⟨by rfl, ?_⟩) (by assumption) ?_
      rotate_left
      · (intro w hSw; (try dsimp only at hSw); go_simp; (try (with_reducible rfl)))
      (try simp only [Act.put, List.setIfInBounds_toArray, List.set_cons_zero, List.set_cons_succ])
      refine wpAnyH_take (i := 7) (v := ?_) ((List.getElem?_toArray).trans rfl) (by kernel_rfl) (by kernel_rfl) (by kernel_rfl) (fun _ _ _ h => h) (Or.inl ⟨by rfl, ?_⟩) (by assumption) ?_
      rotate_left
      · (intro w hSw; (try dsimp only at hSw); go_simp; (try (with_reducible rfl)))
      (try simp only [Act.put, List.setIfInBounds_toArray, List.set_cons_zero, List.set_cons_succ])
      refine wpAnyH_take (i := 8) (v := ?_) ((List.getElem?_toArray).trans rfl) (by kernel_rfl) (by kernel_rfl) (by kernel_rfl) (fun _ _ _ h => h) (Or.inl ⟨by rfl, ?_⟩) (by assumption) ?_
      rotate_left
      · (intro w hSw; (try dsimp only at hSw); go_simp; (try (with_reducible rfl)))
      (try simp only [Act.put, List.setIfInBounds_toArray, List.set_cons_zero, List.set_cons_succ])
      refine wpAnyH_take (i := 9) (v := ?_) ((List.getElem?_toArray).trans rfl) (by kernel_rfl) (by kernel_rfl) (by kernel_rfl) (fun _ _ _ h => h) (Or.inl ⟨by rfl, ?_⟩) (by assumption) ?_
      rotate_left
      · (intro w hSw; (try dsimp only at hSw); go_simp; (try (with_reducible rfl)))
      (try simp only [Act.put, List.setIfInBounds_toArray, List.set_cons_zero, List.set_cons_succ])
      refine wpAnyH_take (i := 10) (v := ?_) ((List.getElem?_toArray).trans rfl) (by kernel_rfl) (by kernel_rfl) (by kernel_rfl) (fun _ _ _ h => h) (Or.inl ⟨by rfl, ?_⟩) (by assumption) ?_
      rotate_left
      · (intro w hSw; (try dsimp only at hSw); go_simp; (try (with_reducible rfl)))
      (try simp only [Act.put, List.setIfInBounds_toArray, List.set_cons_zero, List.set_cons_succ])
      refine wpAnyH_take (i := 11) (v := ?_) ((List.getElem?_toArray).trans rfl) (by kernel_rfl) (by kernel_rfl) (by kernel_rfl) (fun _ _ _ h => h) (Or.inl ⟨by rfl, ?_⟩) (by assumption) ?_
      rotate_left
      · (intro w hSw; (try dsimp only at hSw); go_simp; (try (with_reducible rfl)))
      (try simp only [Act.put, List.setIfInBounds_toArray, List.set_cons_zero, List.set_cons_succ])
      refine wpAnyH_take (i := 12) (v := ?_) ((List.getElem?_toArray).trans rfl) (by kernel_rfl) (by kernel_rfl) (by kernel_rfl) (fun _ _ _ h => h) (Or.inl ⟨by rfl, ?_⟩) (by assumption) ?_
      rotate_left
      · (intro w hSw; (try dsimp only at hSw); go_simp; (try (with_reducible rfl)))
      (try simp only [Act.put, List.setIfInBounds_toArray, List.set_cons_zero, List.set_cons_succ])
      refine wpAnyH_take (i := 13) (v := ?_) ((List.getElem?_toArray).trans rfl) (by kernel_rfl) (by kernel_rfl) (by kernel_rfl) (fun _ _ _ h => h) (Or.inl ⟨by rfl, ?_⟩) (by assumption) ?_
      rotate_left
      · (intro w hSw; (try dsimp only at hSw); go_simp; (try (with_reducible rfl)))
      (try simp only [Act.put, List.setIfInBounds_toArray, List.set_cons_zero, List.set_cons_succ])
      refine wpAnyH_take (i := 14) (v := ?_) ((List.getElem?_toArray).trans rfl) (by kernel_rfl) (by kernel_rfl) (by kernel_rfl) (fun _ _ _ h => h) (Or.inl ⟨by rfl, ?_⟩) (by assumption) ?_
      rotate_left
      · (intro w hSw; (try dsimp only at hSw); go_simp; (try (with_reducible rfl)))
      (try simp only [Act.put, List.setIfInBounds_toArray, List.set_cons_zero, List.set_cons_succ])
      refine wpAnyH_take (i := 15) (v := ?_) ((List.getElem?_toArray).trans rfl) (by kernel_rfl) (by kernel_rfl) (by kernel_rfl) (fun _ _ _ h => h) (Or.inl ⟨by rfl, ?_⟩) (by assumption) ?_
      rotate_left
      · (intro w hSw; (try dsimp only at hSw); go_simp; (try (with_reducible rfl)))
      (try simp only [Act.put, List.setIfInBounds_toArray, List.set_cons_zero, List.set_cons_succ])
      refine wpAnyH_ready (rs := [16]) (by kernel_rfl) (by simp) ?_
      refine AllReadyH.cons ((List.getElem?_toArray).trans rfl) (fun K0 hK0 => ?_) AllReadyH.nil
      go_simp
      refine hK0.out _ _ ?_ (fun hHeld => ?_)
      · (exact ⟨Lib.cell?_alloc_some _ z5, Lib.cell?_alloc_some _ c0, Lib.cell?_alloc_some _ c1, Lib.cell?_alloc_some _ c2, Lib.cell?_alloc_some _ c3, Lib.cell?_alloc_some _ c4, Lib.cell?_alloc_some _ c5, Lib.cell?_alloc_some _ c6, Lib.cell?_alloc_some _ c7⟩)
      clear hK0 K0
      (try simp only [Act.put, List.setIfInBounds_toArray, List.set_cons_zero, List.set_cons_succ])
      refine wpAnyH_done (by kernel_rfl) ?_ _
      show wpList _ _ _ _ _ _
      go_upto_region 17 with fail
      obtain ⟨v5, hv5⟩ : ∃ u, u = w5.setCell ⟨Z, 0, none⟩ (.slice (some ⟨w5.heap.size, 0, none⟩) 4 4) := ⟨_, rfl⟩
      rw [← hv5]
      have hv5s : v5.heap.size = w5.heap.size := by rw [hv5]; simp
      have hX5' : v5.heap[X]? = some (.cells #[.slice Ao Rs.length co] 26 (0, 0)) := by rw [hv5]; exact (Below.heap_setCell _ _ _ _ (by show X ≠ Z; omega)).trans hXb9
      have hR5' : v5.heap[Y]? = some (.cells #[.slice none 0 0] 26 (0, 0)) := by rw [hv5]; exact (Below.heap_setCell _ _ _ _ (by show Y ≠ Z; omega)).trans hRb9
      have hZ5' : v5.heap[Z]? = some (.cells #[.slice (some ⟨w5.heap.size, 0, none⟩) 4 4] 42 (0, 0)) := by rw [hv5]; exact Go.Joins.block_setCell hZ5.out _
      have hG5' : xr.grownBy v5 (some b) := by rw [hv5]; exact grown_setO hGx.out (by omega) _ _
      have hs5' : Src0 v5 b k5 := by rw [hv5]; exact hs5H.out.set (by omega)
      have hQb := Go.Joins.below_alloc1 v5 (.cells #[.int .i64 x, .int .i64 (y + ht), .int .i64 (x + wd), .int .i64 (y + ht), .int .i64 (x + wd), .int .i64 y, .int .i64 x, .int .i64 y] 28)
      have hQz : (v5.alloc (.cells #[.int .i64 x, .int .i64 (y + ht), .int .i64 (x + wd), .int .i64 (y + ht), .int .i64 (x + wd), .int .i64 y, .int .i64 x, .int .i64 y] 28)).heap.size = v5.heap.size + 1 := by simp
      have hrowB : (v5.alloc (.cells #[.int .i64 x, .int .i64 (y + ht), .int .i64 (x + wd), .int .i64 (y + ht), .int .i64 (x + wd), .int .i64 y, .int .i64 x, .int .i64 y] 28)).drew.ownsRow v5.heap.size 28 2 (.slice (some ⟨v5.heap.size, 0, none⟩) 4 4) 4 (([(x, y + ht), (x + wd, y + ht), (x + wd, y), (x, y)]).flatMap ptC) := World.ownsRow.drew (World.ownsRow_lit v5 #[.int .i64 x, .int .i64 (y + ht), .int .i64 (x + wd), .int .i64 (y + ht), .int .i64 (x + wd), .int .i64 y, .int .i64 x, .int .i64 y] 4 (Nat.le_refl _) (by decide) (by simp))
      have hXb9' := (hQb.block X (by omega)).trans hX5'
      have hRb9' := (hQb.block Y (by omega)).trans hR5'
      have hZ9 := (hQb.block Z (by omega)).trans hZ5'
      have hGx9 := grown_tr hG5' (grown_of hQb (some b))
      have hs9 := (hs5'.kept hQb (by omega)).drew
      replace hGx9 : xr.grownBy (v5.alloc (.cells #[.int .i64 x, .int .i64 (y + ht), .int .i64 (x + wd), .int .i64 (y + ht), .int .i64 (x + wd), .int .i64 y, .int .i64 x, .int .i64 y] 28)).drew (some b) := ⟨hGx9.os, hGx9.tape, hGx9.output, hGx9.size, hGx9.block⟩
      replace hXb9' : (v5.alloc (.cells #[.int .i64 x, .int .i64 (y + ht), .int .i64 (x + wd), .int .i64 (y + ht), .int .i64 (x + wd), .int .i64 y, .int .i64 x, .int .i64 y] 28)).drew.heap[X]? = some (.cells #[.slice Ao Rs.length co] 26 (0, 0)) := hXb9'
      replace hRb9' : (v5.alloc (.cells #[.int .i64 x, .int .i64 (y + ht), .int .i64 (x + wd), .int .i64 (y + ht), .int .i64 (x + wd), .int .i64 y, .int .i64 x, .int .i64 y] 28)).drew.heap[Y]? = some (.cells #[.slice none 0 0] 26 (0, 0)) := hRb9'
      replace hZ9 : (v5.alloc (.cells #[.int .i64 x, .int .i64 (y + ht), .int .i64 (x + wd), .int .i64 (y + ht), .int .i64 (x + wd), .int .i64 y, .int .i64 x, .int .i64 y] 28)).drew.heap[Z]? = some (.cells #[.slice (some ⟨w5.heap.size, 0, none⟩) 4 4] 42 (0, 0)) := hZ9
      have hQz' : (v5.alloc (.cells #[.int .i64 x, .int .i64 (y + ht), .int .i64 (x + wd), .int .i64 (y + ht), .int .i64 (x + wd), .int .i64 y, .int .i64 x, .int .i64 y] 28)).drew.heap.size = v5.heap.size + 1 := hQz
      rw [hv5s] at hrowB hQz'
      obtain ⟨Q, hQ⟩ : ∃ Q, Q = w5.heap.size := ⟨_, rfl⟩
      rw [← hQ] at hrowB hQz' hZ9 hZ5' hv5 hv5s ⊢
      have hQZ : Z < Q := by omega
      clear hXb9 hRb9 hGx hv5 hX5' hR5' hZ5' hG5' hs5' hQb hQz
      generalize (v5.alloc (.cells #[.int .i64 x, .int .i64 (y + ht), .int .i64 (x + wd), .int .i64 (y + ht), .int .i64 (x + wd), .int .i64 y, .int .i64 x, .int .i64 y] 28)).drew = u at *
      have hXb9 := hXb9'
      have zl9 : w5.heap.size ≤ u.heap.size := by omega
      have hGx := Lib.hid hGx9
      have hs9H := Lib.hid hs9
      have hZ9H := Lib.hid hZ9
      have hR9H := Lib.hid hRb9'
      have hrow9 := Lib.hid (own_lower hrowB (show xr.heap.size ≤ Q by omega))
      replace hQ := Lib.hid hQ
      clear hGx9 hs9 hZ9 hRb9' hXb9' hrowB hQz' hv5s c0 c1 c2 c3 c4 c5 c6 c7 z5 zf5
      have hXu := Lib.hid (hXb9)
      have x5 : u.cell? ⟨X, 0, none⟩ = some (.slice Ao Rs.length co) := by rw [Go.Joins.cell_of_block hXb9]; rfl
      have xf5 := Go.Joins.unfrozen_of_block hXb9
      have xl5 : X < u.heap.size := by omega
      have zz5 : u.cell? ⟨Z, 0, none⟩ = some (.slice (some ⟨Q, 0, none⟩) 4 4) := by rw [Go.Joins.cell_of_block hZ9H.out]; rfl
      have zl5 : Z < u.heap.size := by omega
      have htoU := Lib.hid (hto.out.1.grownB hGx.out (by omega))
      have hRb2 : Rs.length ≤ 3 := by omega
      replace hRt := Lib.hid hRt
      clear hXb9
      go_wp2_with (at_builtin; refine wpAppAt rfl (.tmp 92) (.tmp 94) elemRing rfl (v := .slice Ao Rs.length co) (n := Rs.length) (xs := ys) rfl (htoU.out.1.alloc _) rfl (src_at (cs := [.slice (some ⟨Q, 0, none⟩) 4 4]) rfl (by simp [Value.oneCell']) (by simp)) (by omega) (by omega) (by simp; omega) (Rs.length + 1) rfl ?_; intro A6 c6 w9 ho6 hg6 _; have hk6 : ∀ g, g ≤ X → w9.heap[g]? = u.heap[g]? := (fun g hg => (hg6.block g (by simp; omega) (fun e => by have := (htoU.out.1.lt g e.symm).1; omega)).trans (Below.heap_alloc _ _ _ (by omega))); have x6 : w9.cell? ⟨X, 0, none⟩ = some (.slice Ao Rs.length co) := (World.cell?_of_block (hk6 X (Nat.le_refl _))).trans x5; have xf6 : ∀ o, w9.frozen? ⟨X, o, none⟩ = false := fun o => (World.frozen?_of_block (hk6 X (Nat.le_refl _))).trans (xf5 o); have xl6 : X < w9.heap.size := (by have := hg6.size; simp at this; omega); replace hk6 := Lib.hid hk6; replace ho6 := Lib.hid ho6; replace hg6 := Lib.hid hg6)
      have hnx := RegTo.nextG (w1 := u.alloc (.cells #[.slice (some ⟨Q, 0, none⟩) 4 4] 42 (0, 0))) (B := xr.heap.size) (K := [(x, y + ht), (x + wd, y + ht), (x + wd, y), (x, y)]) (c2 := 4) (A2 := (some ⟨Q, 0, none⟩)) (hto.out.1.snocL [(x, y + ht), (x + wd, y + ht), (x + wd, y), (x, y)]) (by rw [List.getElem?_append_right (Nat.le_refl _), Nat.sub_self]; rfl) (grown_tr hGx.out (grown_of (Go.Joins.below_alloc1 u _) (some b))) (by omega) (hrow9.out.alloc _) (Nat.le_refl _) (by omega) ho6.out hg6.out
      have hzx6 : u.heap.size + 1 ≤ w9.heap.size := by have := hg6.out.size; simp at this; exact this
      go_roundg (t - 1)
      case measure => omega
      case rel =>
        refine ⟨t - 1, k5, A6, c6, ys ++ [.slice (some ⟨Q, 0, none⟩) 4 4], Rs ++ [[(x, y + ht), (x + wd, y + ht), (x + wd, y), (x, y)]], by go_num, by have := hRt.out; simp; omega, by omega, ?_, ?_, ⟨?_, ?_⟩, ?_, by omega, by simp; omega, ?_⟩
        · rw [List.length_append]; exact Go.Joins.block_setCell ((hk6.out X (Nat.le_refl _)).trans hXu.out) _
        · exact (Below.heap_setCell _ _ _ _ (by show Y ≠ X; omega)).trans ((hk6.out Y (by omega)).trans hR9H.out)
        · rw [List.length_append]; exact hnx.set (by show X < X + 1; omega) _
        · intro R hR
          rcases List.mem_append.1 hR with hR | hR
          · exact hto.out.2 R hR
          · rw [List.mem_singleton.1 hR]; exact ⟨by simp, by simp, fun p hp => by simp only [List.mem_cons, List.not_mem_nil, or_false] at hp; rcases hp with rfl | rfl | rfl | rfl <;> (refine ⟨⟨?_, ?_⟩, ?_, ?_⟩ <;> simp only <;> omega)⟩
        · exact (hs9H.out.keepL fun g hg => hk6.out g (by omega)).set (by omega)
        · have hgg := hg6.out
          have hGw := hG.out
          have hx5 := hGx.out
          refine grown_setO (w := w) ⟨hgg.os.trans (hx5.os.trans hGw.os), hgg.tape.trans (hx5.tape.trans hGw.tape), hgg.output.trans (hx5.output.trans hGw.output), by have := hYH.out; omega, fun i hi hn => ?_⟩ (by have := hYH.out; omega) _ _
          have := hYH.out
          exact (hk6.out i (by omega)).trans ((hx5.block i (by omega) hn).trans (hGw.block i hi hn))
    · have t0 : (sw == 0) = false := by simp [hc0]
      have t1 : (sw == 1) = false := by simp [hc1]
      replace hRb9 := Lib.hid hRb9
      have hXu := Lib.hid (hXb9)
      have x5 : w5.cell? ⟨X, 0, none⟩ = some (.slice Ao Rs.length co) := by rw [Go.Joins.cell_of_block hXb9]; rfl
      have xf5 := Go.Joins.unfrozen_of_block hXb9
      have xl5 : X < w5.heap.size := by omega
      have zz5 : w5.cell? ⟨Z, 0, none⟩ = some (.slice (some ⟨P, 0, none⟩) 4 4) := by rw [Go.Joins.cell_of_block hZ5.out]; rfl
      have zl5 : Z < w5.heap.size := by omega
      have htoU := Lib.hid (hto.out.1.grownB hGx.out (by omega))
      have hRb2 : Rs.length ≤ 3 := by omega
      replace hRt := Lib.hid hRt
      clear hXb9
      go_wp2_with (at_builtin; refine wpAppAt rfl (.tmp 92) (.tmp 94) elemRing rfl (v := .slice Ao Rs.length co) (n := Rs.length) (xs := ys) rfl (htoU.out.1.alloc _) rfl (src_at (cs := [.slice (some ⟨P, 0, none⟩) 4 4]) rfl (by simp [Value.oneCell']) (by simp)) (by omega) (by omega) (by simp; omega) (Rs.length + 1) rfl ?_; intro A6 c6 w9 ho6 hg6 _; have hk6 : ∀ g, g ≤ X → w9.heap[g]? = w5.heap[g]? := (fun g hg => (hg6.block g (by simp; omega) (fun e => by have := (htoU.out.1.lt g e.symm).1; omega)).trans (Below.heap_alloc _ _ _ (by omega))); have x6 : w9.cell? ⟨X, 0, none⟩ = some (.slice Ao Rs.length co) := (World.cell?_of_block (hk6 X (Nat.le_refl _))).trans x5; have xf6 : ∀ o, w9.frozen? ⟨X, o, none⟩ = false := fun o => (World.frozen?_of_block (hk6 X (Nat.le_refl _))).trans (xf5 o); have xl6 : X < w9.heap.size := (by have := hg6.size; simp at this; omega); replace hk6 := Lib.hid hk6; replace ho6 := Lib.hid ho6; replace hg6 := Lib.hid hg6)
      have hnx := RegTo.nextG (w1 := w5.alloc (.cells #[.slice (some ⟨P, 0, none⟩) 4 4] 42 (0, 0))) (B := xr.heap.size) (K := [(x, y), (x + wd, y), (x + wd, y + ht), (x, y + ht)]) (c2 := 4) (A2 := (some ⟨P, 0, none⟩)) (hto.out.1.snocL [(x, y), (x + wd, y), (x + wd, y + ht), (x, y + ht)]) (by rw [List.getElem?_append_right (Nat.le_refl _), Nat.sub_self]; rfl) (grown_tr hGx.out (grown_of (Go.Joins.below_alloc1 w5 _) (some b))) (by omega) (hrow5.out.alloc _) (Nat.le_refl _) (by omega) ho6.out hg6.out
      have hzx6 : w5.heap.size + 1 ≤ w9.heap.size := by have := hg6.out.size; simp at this; exact this
      go_roundg (t - 1)
      case measure => omega
      case rel =>
        refine ⟨t - 1, k5, A6, c6, ys ++ [.slice (some ⟨P, 0, none⟩) 4 4], Rs ++ [[(x, y), (x + wd, y), (x + wd, y + ht), (x, y + ht)]], by go_num, by have := hRt.out; simp; omega, by omega, ?_, ?_, ⟨?_, ?_⟩, ?_, by omega, by simp; omega, ?_⟩
        · rw [List.length_append]; exact Go.Joins.block_setCell ((hk6.out X (Nat.le_refl _)).trans hXu.out) _
        · exact (Below.heap_setCell _ _ _ _ (by show Y ≠ X; omega)).trans ((hk6.out Y (by omega)).trans hRb9.out)
        · rw [List.length_append]; exact hnx.set (by show X < X + 1; omega) _
        · intro R hR
          rcases List.mem_append.1 hR with hR | hR
          · exact hto.out.2 R hR
          · rw [List.mem_singleton.1 hR]; exact ⟨by simp, by simp, fun p hp => by simp only [List.mem_cons, List.not_mem_nil, or_false] at hp; rcases hp with rfl | rfl | rfl | rfl <;> (refine ⟨⟨?_, ?_⟩, ?_, ?_⟩ <;> simp only <;> omega)⟩
        · exact (hs5H.out.keepL fun g hg => hk6.out g (by omega)).set (by omega)
        · have hgg := hg6.out
          have hGw := hG.out
          have hx5 := hGx.out
          refine grown_setO (w := w) ⟨hgg.os.trans (hx5.os.trans hGw.os), hgg.tape.trans (hx5.tape.trans hGw.tape), hgg.output.trans (hx5.output.trans hGw.output), by have := hYH.out; omega, fun i hi hn => ?_⟩ (by have := hYH.out; omega) _ _
          have := hYH.out
          exact (hk6.out i (by omega)).trans ((hx5.block i (by omega) hn).trans (hGw.block i hi hn))
end Go.Proofs.YtlifiioflkhkoaaGreat

