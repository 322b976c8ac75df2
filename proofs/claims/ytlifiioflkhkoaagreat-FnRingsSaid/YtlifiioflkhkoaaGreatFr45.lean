/- A drawn region and a point. Printed by mk_dr3.py. Conditions: as each states. -/
import Derived.Test.YtlifiioflkhkoaaGreatFr44
import Derived.Test.YtlifiioflkhkoaaGreatFr23
import Derived.Test.YtlifiioflkhkoaaGreatFr16
import Derived.Test.YtlifiioflkhkoaaGreatFr05
import Derived.Test.YtlifiioflkhkoaaGreatFr27
import Derived.Test.YtlifiioflkhkoaaGreatFr11
namespace Go.Proofs.YtlifiioflkhkoaaGreat
open Go.RowKit
set_option linter.unusedVariables false
set_option maxRecDepth 100000

theorem rgIn_ok {R : List Pnt} (h : RgIn 6 50 R) : pathOk R = true := by
  obtain ⟨h1, h2, h3⟩ := h
  unfold pathOk
  rw [(inB_iff (n := (R.length : Int))).2 (by omega)]
  simp only [Bool.true_and, List.all_eq_true]
  intro p hp
  obtain ⟨a, b⟩ := p
  exact in_ok (h3 _ hp) (by omega)
theorem rgs_ok {Rs : List (List Pnt)} (hl : Rs.length ≤ 3) (h : ∀ R ∈ Rs, RgIn 6 50 R) : regOk Rs = true ∧ edgeN Rs ≤ 18 ∧ ∀ K ∈ Rs, K.length ≤ 6 := by
  have he : edgeN Rs ≤ 18 := by
    have h1 : edgeN Rs ≤ Rs.length * 6 := sum_bound (f := fun L => (edgesL L).length) (B := 6) (fun R hR => Nat.le_trans (edgesTo_len R R.length) (h R hR).2.1)
    omega
  have ha : Rs.all pathOk = true := List.all_eq_true.2 fun R hR => rgIn_ok (h R hR)
  refine ⟨?_, he, fun K hK => (h K hK).2.1⟩
  unfold regOk
  rw [decide_eq_true (by omega), ha, decide_eq_true (by omega)]; rfl

set_option maxHeartbeats 8000000 in
theorem E8Region_any (A : Option Addr) (n c lo hi : Nat) (L : List Int) (w : World) (hr : RdS 1 u8R w lo hi A n L) (hhi : hi ≤ w.heap.size) (hn : n ≤ 1000000000) :
    Calls Tryz.prog 5 #[.slice A n c] w fun e w' => ∃ (A' : Option Addr) (c' : Nat) (Rs : List (List Pnt)) (px py : Int), e = .returned (.tuple #[.agg #[.slice A' Rs.length c'], .agg #[.int .i64 px, .int .i64 py]]) ∧ RegOwn w' w.heap.size A' Rs.length c' Rs ∧ (regOk Rs = true ∧ edgeN Rs ≤ 18 ∧ ∀ K ∈ Rs, K.length ≤ 6) ∧ ptOk px py = true ∧ Below w.heap.size w w' := by
  have hb0 := Go.Joins.below_alloc2 w (.cells #[.slice none 0 0] 26 (0, 0)) (.cells #[.int .i64 0, .int .i64 0] 28 (0, 0))
  have hnew := heap_new2 w (.cells #[.slice none 0 0] 26 (0, 0)) (.cells #[.int .i64 0, .int .i64 0] 28 (0, 0))
  have hz0 : ((w.alloc (.cells #[.slice none 0 0] 26 (0, 0))).alloc (.cells #[.int .i64 0, .int .i64 0] 28 (0, 0))).heap.size = w.heap.size + 2 := by simp
  have hr0 := Lib.hid (hr.frame good_u8 (Below.sameB hb0 hhi))
  clear hr
  go_enter Tryz.func5, Tryz.ntmps5
  go_upto_region 1 with fail
  generalize (w.alloc (.cells #[.slice none 0 0] 26 (0, 0))).alloc (.cells #[.int .i64 0, .int .i64 0] 28 (0, 0)) = w0 at *
  obtain ⟨Y, hY⟩ : ∃ Y, Y = w.heap.size := ⟨_, rfl⟩
  rw [← hY] at hnew hz0 ⊢
  obtain ⟨hR0, hQ0⟩ := hnew
  have hsz : Y + 2 ≤ w0.heap.size ∧ w0.heap.size ≤ Y + 2 ∧ hi ≤ Y := by omega
  have hYH := Lib.hid hY
  have hB0 := Lib.hid hb0
  clear hz0 hY hb0
  go_wp2_with fail
  refine (l00From_any _ _ _ _).mono ?_
  rintro e w1 ⟨rfl, hs1, hb1⟩
  have hS1 : Src0 w1 w0.heap.size 0 := ⟨A, n, c, lo, hi, 0, L, hs1, hr0.out.frame good_u8 (Below.sameB hb1 (by omega)), by omega, hn⟩
  obtain ⟨b, hb⟩ : ∃ b, b = w0.heap.size := ⟨_, rfl⟩
  rw [← hb] at hS1 ⊢
  have hbs : b = w0.heap.size := hb
  have hbz : Y + 1 < b ∧ b ≤ Y + 2 := by omega
  have hbl := hS1.lt
  have hR1 := Lib.hid ((hb1.block Y (by omega)).trans hR0)
  have hQ1 := Lib.hid ((hb1.block (Y + 1) (by omega)).trans hQ0)
  have hB1 := Lib.hid (hB0.out.trans (hb1.mono (by have := hYH.out; omega)))
  have hcd := Lib.hid (l14Draw_any b 0 w1 hS1 (by omega))
  clear hs1 hb1 hb hbs hR0 hQ0 hr0 hS1
  go_wp2_with fail
  refine hcd.out.mono ?_
  rintro e w2 ⟨A2, c2, k2, ys, Rs, rfl, hRl, hto, hin, hs2, hk2, hg2⟩
  have hz2 := hg2.size
  have hR2 := (hg2.block Y (by omega) (by intro e; injection e with e; omega)).trans hR1.out
  have hQ2 := (hg2.block (Y + 1) (by omega) (by intro e; injection e with e; omega)).trans hQ1.out
  have hB2 := hB1.out.grown hg2 (by have := hYH.out; omega) (fun g hg => by injection hg with hg; have := hYH.out; omega)
  have hal := Go.Joins.below_alloc1 w2 (.cells #[.slice A2 Rs.length c2] 26 (0, 0))
  have hbo := heap_alloc_new w2 (.cells #[.slice A2 Rs.length c2] 26 (0, 0))
  have hza : (w2.alloc (.cells #[.slice A2 Rs.length c2] 26 (0, 0))).heap.size = w2.heap.size + 1 := by simp
  have hR3 := Lib.hid ((hal.block Y (by omega)).trans hR2)
  have hQ3 := Lib.hid ((hal.block (Y + 1) (by omega)).trans hQ2)
  have hB3 := Lib.hid (hB2.trans (hal.mono (by have := hYH.out; omega)))
  have HTO := Lib.hid hto
  have G3 := Lib.hid (grown_of hal (some b))
  have hs3 := Lib.hid (hs2.kept hal (by omega))
  clear hcd hto hs2 hg2 hR2 hQ2 hR1 hQ1 hB2 hB1 hal
  go_upto_region 3 with fail
  generalize w2.alloc (.cells #[.slice A2 Rs.length c2] 26 (0, 0)) = w3 at *
  obtain ⟨X, hX⟩ : ∃ X, X = w2.heap.size := ⟨_, rfl⟩
  rw [← hX] at hbo hza ⊢
  have hXs : X < w3.heap.size ∧ w3.heap.size ≤ X + 1 ∧ w1.heap.size ≤ X := by omega
  have hX3 := Lib.hid hbo
  have hXH := Lib.hid hX
  have hcp := Lib.hid (pick_any b k2 20 w3 hs3.out (by omega))
  clear hza hX hbo
  go_wp2_with fail
  refine hcp.out.mono ?_
  rintro e w4 ⟨r, k3, rfl, hr0, hr1, _, hs4, hk3, hg4⟩
  have hr2 := hr1 (by omega)
  have hz4 := hg4.size
  obtain ⟨px, hpx⟩ : ∃ p, p = r - 2 := ⟨_, rfl⟩
  have hwx : IntKind.i64.wrap (r - 2) = px := by rw [IntKind.wrap_i64]; omega
  have hbx : -2 ≤ px ∧ px ≤ 17 := by omega
  have hpxH := Lib.hid hpx
  have hR4 := (hg4.block Y (by omega) (by intro e; injection e with e; omega)).trans hR3.out
  have hQ4 := (hg4.block (Y + 1) (by omega) (by intro e; injection e with e; omega)).trans hQ3.out
  have hX4 := (hg4.block X (by omega) (by intro e; injection e with e; omega)).trans hX3.out
  have hB4 := hB3.out.grown hg4 (by have := hYH.out; omega) (fun g hg => by injection hg with hg; have := hYH.out; omega)
  have G4 := grown_tr G3.out hg4
  have hal := Go.Joins.below_alloc1 w4 (.cells #[.int .i64 px, .int .i64 0] 28 (0, 0))
  have hbo := heap_alloc_new w4 (.cells #[.int .i64 px, .int .i64 0] 28 (0, 0))
  have hza : (w4.alloc (.cells #[.int .i64 px, .int .i64 0] 28 (0, 0))).heap.size = w4.heap.size + 1 := by simp
  have hR5 := Lib.hid ((hal.block Y (by omega)).trans hR4)
  have hQ5 := Lib.hid ((hal.block (Y + 1) (by omega)).trans hQ4)
  have hX5 := Lib.hid ((hal.block X (by omega)).trans hX4)
  have hB5 := Lib.hid (hB4.trans (hal.mono (by have := hYH.out; omega)))
  have G5 := Lib.hid (grown_tr G4 (grown_of hal (some b)))
  have hs5 := Lib.hid (hs4.kept hal (by omega))
  clear hcp hg4 hs4 G4 G3 hR4 hQ4 hX4 hB4 hR3 hQ3 hX3 hB3 hs3 hpx hr1 hal
  go_upto_region 4 with fail
  generalize w4.alloc (.cells #[.int .i64 px, .int .i64 0] 28 (0, 0)) = w5 at *
  obtain ⟨Z, hZ⟩ : ∃ Z, Z = w4.heap.size := ⟨_, rfl⟩
  rw [← hZ] at hbo hza ⊢
  have hZs : Z < w5.heap.size ∧ w5.heap.size ≤ Z + 1 ∧ X < Z := by omega
  have hZ5 := Lib.hid hbo
  have hcp := Lib.hid (pick_any b k3 20 w5 hs5.out (by omega))
  clear hza hZ hbo
  go_wp2_with fail
  refine hcp.out.mono ?_
  rintro e w6 ⟨r', k4, rfl, hr0', hr1', _, hs6, hk4, hg6⟩
  have hr2' := hr1' (by omega)
  have hz6 := hg6.size
  obtain ⟨py, hpy⟩ : ∃ p, p = r' - 2 := ⟨_, rfl⟩
  have hwy : IntKind.i64.wrap (r' - 2) = py := by rw [IntKind.wrap_i64]; omega
  have hby : -2 ≤ py ∧ py ≤ 17 := by omega
  have hpyH := Lib.hid hpy
  have hR6 := Lib.hid ((hg6.block Y (by omega) (by intro e; injection e with e; omega)).trans hR5.out)
  have hQ6 := Lib.hid ((hg6.block (Y + 1) (by omega) (by intro e; injection e with e; omega)).trans hQ5.out)
  have hX6 := Lib.hid ((hg6.block X (by omega) (by intro e; injection e with e; omega)).trans hX5.out)
  have hZ6 := Lib.hid ((hg6.block Z (by omega) (by intro e; injection e with e; omega)).trans hZ5.out)
  have hB6 := Lib.hid (hB5.out.grown hg6 (by have := hYH.out; omega) (fun g hg => by injection hg with hg; have := hYH.out; omega))
  have G6 := Lib.hid (grown_tr G5.out hg6)
  have z0 : w6.cell? ⟨Z, 0, none⟩ = some (.int .i64 px) := by rw [Go.Joins.cell_of_block hZ6.out]; rfl
  have z1 : w6.cell? ⟨Z, 1, none⟩ = some (.int .i64 0) := by rw [Go.Joins.cell_of_block hZ6.out]; rfl
  have zf := Go.Joins.unfrozen_of_block hZ6.out
  have zl : Z < w6.heap.size := by omega
  clear hcp hg6 hs6 hR5 hQ5 hX5 hB5 G5 hs5 hpy hr1'
  go_upto_region 5 with fail
  have hR7 := (Below.heap_setCell w6 ⟨Z, 1, none⟩ (.int .i64 py) Y (by show Y ≠ Z; omega)).trans hR6.out
  have hQ7 := (Below.heap_setCell w6 ⟨Z, 1, none⟩ (.int .i64 py) (Y + 1) (by show Y + 1 ≠ Z; omega)).trans hQ6.out
  have hX7 := (Below.heap_setCell w6 ⟨Z, 1, none⟩ (.int .i64 py) X (by show X ≠ Z; omega)).trans hX6.out
  have hZ7 : (w6.setCell ⟨Z, 1, none⟩ (.int .i64 py)).heap[Z]? = some (.cells #[.int .i64 px, .int .i64 py] 28 (0, 0)) := Go.Joins.block_setCell hZ6.out _
  have hB7 := Lib.hid (hB6.out.setCell (p := ⟨Z, 1, none⟩) (by show w.heap.size ≤ Z; have := hYH.out; omega) (.int .i64 py))
  have G7 := Lib.hid (grown_setO G6.out (x := Z) (by have := hXH.out; omega) 1 (.int .i64 py))
  have hsz7 : (w6.setCell ⟨Z, 1, none⟩ (.int .i64 py)).heap.size = w6.heap.size := by simp
  clear hR6 hQ6 hX6 hZ6 hB6 G6 z0 z1 zf
  generalize w6.setCell ⟨Z, 1, none⟩ (.int .i64 py) = u at *
  have y0 : u.cell? ⟨Y, 0, none⟩ = some (.slice none 0 0) := by rw [Go.Joins.cell_of_block hR7]; rfl
  have yf := Go.Joins.unfrozen_of_block hR7
  have q0 : u.cell? ⟨Y + 1, 0, none⟩ = some (.int .i64 0) := by rw [Go.Joins.cell_of_block hQ7]; rfl
  have q1 : u.cell? ⟨Y + 1, 1, none⟩ = some (.int .i64 0) := by rw [Go.Joins.cell_of_block hQ7]; rfl
  have qf := Go.Joins.unfrozen_of_block hQ7
  have x0 : u.cell? ⟨X, 0, none⟩ = some (.slice A2 Rs.length c2) := by rw [Go.Joins.cell_of_block hX7]; rfl
  have z0 : u.cell? ⟨Z, 0, none⟩ = some (.int .i64 px) := by rw [Go.Joins.cell_of_block hZ7]; rfl
  have z1 : u.cell? ⟨Z, 1, none⟩ = some (.int .i64 py) := by rw [Go.Joins.cell_of_block hZ7]; rfl
  have hul : Y < u.heap.size ∧ Y + 1 < u.heap.size ∧ X < u.heap.size ∧ Z < u.heap.size := by omega
  have hto7 := Lib.hid (HTO.out.grownB G7.out (by omega))
  have hne : ¬ X = Y ∧ ¬ X = Y + 1 ∧ ¬ Z = Y ∧ ¬ Z = Y + 1 ∧ ¬ Y = X ∧ ¬ Y + 1 = X ∧ ¬ Y = Z ∧ ¬ Y + 1 = Z := by omega
  have hRsl := Lib.hid (And.intro hRl hin)
  clear hsz7 hRl hin
  go_region_law (fail)
  all_goals
    have hY9 : (((u.setCell ⟨Y, 0, none⟩ (.slice A2 Rs.length c2)).setCell ⟨Y + 1, 0, none⟩ (.int .i64 px)).setCell ⟨Y + 1, 1, none⟩ (.int .i64 py)).drew.heap[Y]? = some (.cells #[.slice A2 Rs.length c2] 26 (0, 0)) := (Below.heap_setCell _ ⟨Y + 1, 1, none⟩ _ Y (by show Y ≠ Y + 1; omega)).trans ((Below.heap_setCell _ ⟨Y + 1, 0, none⟩ _ Y (by show Y ≠ Y + 1; omega)).trans (Go.Joins.block_setCell hR7 _))
    have hQ9 : (((u.setCell ⟨Y, 0, none⟩ (.slice A2 Rs.length c2)).setCell ⟨Y + 1, 0, none⟩ (.int .i64 px)).setCell ⟨Y + 1, 1, none⟩ (.int .i64 py)).drew.heap[Y + 1]? = some (.cells #[.int .i64 px, .int .i64 py] 28 (0, 0)) := Go.Joins.block_setCell (Go.Joins.block_setCell ((Below.heap_setCell u ⟨Y, 0, none⟩ (.slice A2 Rs.length c2) (Y + 1) (by show Y + 1 ≠ Y; omega)).trans hQ7) _) _
    have hB9 : Below w.heap.size w (((u.setCell ⟨Y, 0, none⟩ (.slice A2 Rs.length c2)).setCell ⟨Y + 1, 0, none⟩ (.int .i64 px)).setCell ⟨Y + 1, 1, none⟩ (.int .i64 py)).drew := Below.drew (((hB7.out.setCell (p := ⟨Y, 0, none⟩) (by show w.heap.size ≤ Y; have := hYH.out; omega) _).setCell (p := ⟨Y + 1, 0, none⟩) (by show w.heap.size ≤ Y + 1; have := hYH.out; omega) _).setCell (p := ⟨Y + 1, 1, none⟩) (by show w.heap.size ≤ Y + 1; have := hYH.out; omega) _)
    have hT9 : RegTo (((u.setCell ⟨Y, 0, none⟩ (.slice A2 Rs.length c2)).setCell ⟨Y + 1, 0, none⟩ (.int .i64 px)).setCell ⟨Y + 1, 1, none⟩ (.int .i64 py)).drew w1.heap.size A2 Rs.length c2 ys Rs := (((hto7.out.set (a := ⟨Y, 0, none⟩) (by show Y < w1.heap.size; omega) _).set (a := ⟨Y + 1, 0, none⟩) (by show Y + 1 < w1.heap.size; omega) _).set (a := ⟨Y + 1, 1, none⟩) (by show Y + 1 < w1.heap.size; omega) _).kept (Below.drew (Below.refl _ _))
    have p0 := Go.Joins.cell_of_block (i := 0) hY9
    have p1 := Go.Joins.cell_of_block (i := 0) hQ9
    have p2 := Go.Joins.cell_of_block (i := 1) hQ9
    have hY9H := Lib.hid (And.intro hB9 hT9)
    clear hY9 hQ9 hB9 hT9 y0 q0 q1 x0 z0 z1
    generalize (((u.setCell ⟨Y, 0, none⟩ (.slice A2 Rs.length c2)).setCell ⟨Y + 1, 0, none⟩ (.int .i64 px)).setCell ⟨Y + 1, 1, none⟩ (.int .i64 py)).drew = z at *
    have p0' : z.cell? ⟨Y, 0, none⟩ = some (.slice A2 Rs.length c2) := p0
    have p1' : z.cell? ⟨Y + 1, 0, none⟩ = some (.int .i64 px) := p1
    have p2' : z.cell? ⟨Y + 1, 1, none⟩ = some (.int .i64 py) := p2
    clear p0 p1 p2
    go_wp2_with fail
    refine bodyPost_ret (v := .tuple #[.agg #[.slice A2 Rs.length c2], .agg #[.int .i64 px, .int .i64 py]]) (by simp [results, Tryz.results5, go_sem, p0', p1', p2']) rfl ⟨A2, c2, Rs, px, py, rfl, (hY9H.out.2.lower (by have := hYH.out; omega)).own rfl, rgs_ok hRsl.out.1 hRsl.out.2, ptOk_iff.2 ⟨⟨by omega, by omega⟩, by omega, by omega⟩, hY9H.out.1⟩
end Go.Proofs.YtlifiioflkhkoaaGreat

/- Thinning: what is left is near to what is left out: the numbers alone. Conditions: as each states. -/
namespace Go.Proofs.YtlifiioflkhkoaaGreat
open Go.RowKit
set_option linter.unusedVariables false
set_option maxRecDepth 100000

/-- the kept points between the ends of a path -/
def ThinG (t : Int) (P R : List Pnt) : Prop := R.length + 2 ≤ P.length ∧ (∀ q ∈ R, q ∈ P) ∧ ∀ p ∈ P, nearP (ptAt P 0 :: (R ++ [ptAt P (P.length - 1)])) p.1 p.2 t = true
theorem near_self (ax ay bx b t : Int) (ht : 0 ≤ t) : nearB ax ay bx b ax ay t = true := by
  unfold nearB
  have h : sqI ax ay ax ay ≤ t * t := by
    have := Int.mul_nonneg ht ht
    unfold sqI
    simp; exact this
  rw [decide_eq_true h]; rfl
theorem near_self2 (ax ay bx b t : Int) (ht : 0 ≤ t) : nearB ax ay bx b bx b t = true := by
  unfold nearB
  have h : sqI bx b bx b ≤ t * t := by
    have := Int.mul_nonneg ht ht
    unfold sqI
    simp; exact this
  rw [decide_eq_true h]; simp
theorem nearP_iff {L : List Pnt} {px py t : Int} (h2 : 2 ≤ L.length) : nearP L px py t = true ↔ ∃ i a b, L[i]? = some a ∧ L[i + 1]? = some b ∧ nearB a.1 a.2 b.1 b.2 px py t = true := by
  constructor
  · intro h
    refine Classical.byContradiction fun hc => ?_
    have : nearP L px py t = false := nearP_no h2 (fun i a b hi ha hb => by
      cases hn : nearB a.1 a.2 b.1 b.2 px py t with
      | false => rfl
      | true => exact absurd ⟨i, a, b, ha, hb, hn⟩ hc)
    rw [h] at this; cases this
  · rintro ⟨i, a, b, ha, hb, hn⟩
    exact nearP_yes ha hb hn
theorem nearP_left {A B : List Pnt} {px py t : Int} (h2 : 2 ≤ A.length) (h : nearP A px py t = true) : nearP (A ++ B) px py t = true := by
  obtain ⟨i, a, b, ha, hb, hn⟩ := (nearP_iff h2).1 h
  have h1 := (List.getElem?_eq_some_iff.1 hb).1
  exact nearP_yes (i := i) (by rw [List.getElem?_append_left (by omega)]; exact ha) (by rw [List.getElem?_append_left h1]; exact hb) hn
theorem nearP_right {A B : List Pnt} {px py t : Int} (h2 : 2 ≤ B.length) (h : nearP B px py t = true) : nearP (A ++ B) px py t = true := by
  obtain ⟨i, a, b, ha, hb, hn⟩ := (nearP_iff h2).1 h
  exact nearP_yes (i := A.length + i) (by rw [List.getElem?_append_right (by omega), Nat.add_sub_cancel_left]; exact ha) (by rw [List.getElem?_append_right (by omega), show A.length + i + 1 - A.length = i + 1 by omega]; exact hb) hn
theorem thin_done {t : Int} {P : List Pnt} (ht : 0 ≤ t) (h2 : 2 ≤ P.length) (h : ∀ i, 0 < i → i + 1 < P.length → nearB (ptAt P 0).1 (ptAt P 0).2 (ptAt P (P.length - 1)).1 (ptAt P (P.length - 1)).2 (ptAt P i).1 (ptAt P i).2 t = true) : ThinG t P [] := by
  refine ⟨by simpa using h2, fun q hq => by (cases hq), fun p hp => ?_⟩
  show nearP [_, _] _ _ _ = true
  rw [nearP_pair]
  obtain ⟨i, hi⟩ := List.mem_iff_getElem?.1 hp
  have hl := (List.getElem?_eq_some_iff.1 hi).1
  have e := ptAt_eq hi
  by_cases h0 : i = 0
  · subst h0; rw [e]; exact near_self _ _ _ _ _ ht
  · by_cases h1 : i = P.length - 1
    · rw [← h1, e]; exact near_self2 _ _ _ _ _ ht
    · have := h i (by omega) (by omega)
      rw [e] at this; exact this
theorem ptAt_take {P : List Pnt} {i k : Nat} (h : k ≤ i) : ptAt (P.take (i + 1)) k = ptAt P k := by
  unfold ptAt
  rw [List.getD_eq_getElem?_getD, List.getD_eq_getElem?_getD, List.getElem?_take, if_pos (by omega)]
theorem ptAt_drop (P : List Pnt) (i k : Nat) : ptAt (P.drop i) k = ptAt P (i + k) := by
  unfold ptAt
  rw [List.getD_eq_getElem?_getD, List.getD_eq_getElem?_getD, List.getElem?_drop]
theorem thin_split {t : Int} {P R1 R2 : List Pnt} {i : Nat} (h0 : 0 < i) (h1 : i + 1 < P.length) (g1 : ThinG t (P.take (i + 1)) R1) (g2 : ThinG t (P.drop i) R2) : ThinG t P (R1 ++ ptAt P i :: R2) := by
  obtain ⟨a1, a2, a3⟩ := g1
  obtain ⟨b1, b2, b3⟩ := g2
  rw [List.length_take] at a1
  rw [List.length_drop] at b1
  have el : (P.take (i + 1)).length - 1 = i := by rw [List.length_take]; omega
  have er : (P.drop i).length - 1 = P.length - 1 - i := by rw [List.length_drop]; omega
  rw [el, ptAt_take (Nat.zero_le _), ptAt_take (Nat.le_refl _)] at a3
  rw [er, ptAt_drop, ptAt_drop, Nat.add_zero, show i + (P.length - 1 - i) = P.length - 1 by omega] at b3
  refine ⟨by simp only [List.length_append, List.length_cons]; omega, fun q hq => ?_, fun p hp => ?_⟩
  · rcases List.mem_append.1 hq with hq | hq
    · exact List.mem_of_mem_take (a2 q hq)
    · rcases List.mem_cons.1 hq with rfl | hq
      · exact List.mem_of_getElem? (ptAt_some (by omega))
      · exact List.mem_of_mem_drop (b2 q hq)
  · have hp' : p ∈ P.take (i + 1) ∨ p ∈ P.drop i := by
      have h : p ∈ P.take i ++ P.drop i := by rw [List.take_append_drop]; exact hp
      rcases List.mem_append.1 h with h | h
      · exact .inl (by rw [List.take_add_one]; exact List.mem_append_left _ h)
      · exact .inr h
    rcases hp' with hp' | hp'
    · have := nearP_left (B := R2 ++ [ptAt P (P.length - 1)]) (by simp) (a3 p hp')
      simpa using this
    · have := nearP_right (A := ptAt P 0 :: R1) (by simp) (b3 p hp')
      simpa using this
end Go.Proofs.YtlifiioflkhkoaaGreat

/- The points of a path that are kept between its ends. Printed by mk_th1.py. Conditions: as each states. -/
namespace Go.Proofs.YtlifiioflkhkoaaGreat
open Go.RowKit
set_option linter.unusedVariables false
set_option maxRecDepth 100000

theorem srcB {w : World} {b x : Nat} {u v : Int} (h : w.heap[b]? = some (.cells #[.int .i64 u, .int .i64 v] x (0, 0))) : Src w 2 (some ⟨b, 0, none⟩) 1 [.int .i64 u, .int .i64 v] := by
  have h2 : w.ownsRow b x 2 (.slice (some ⟨b, 0, none⟩) 1 1) 1 [.int .i64 u, .int .i64 v] := ⟨rfl, .inr ⟨b, 1, #[.int .i64 u, .int .i64 v], rfl, Nat.le_refl _, h, Nat.le_refl _, by decide, rfl, rfl⟩⟩
  exact src_own h2 (by simp [Value.oneCell'])
/-- what is shown of paths of at most so many points -/
def ThinAt (t : Int) (N : Nat) : Prop := ∀ (b off n c lo hi : Nat) (P : List Pnt) (w : World), n ≤ N → RdS 2 (FlatR ptC) w lo hi (some ⟨b, off, none⟩) n P → n ≤ c → hi ≤ w.heap.size → 2 ≤ n → n ≤ 1000 → (∀ p ∈ P, pt2Ok p = true) →
    Calls Tryz.prog 32 #[.slice (some ⟨b, off, none⟩) n c, .int .i64 t] w fun e w' => ∃ (R : List Pnt) (A' : Option Addr) (c' : Nat), e = .returned (.slice A' R.length c') ∧ w'.ownsRow w.heap.size 28 2 (.slice A' R.length c') R.length (R.flatMap ptC) ∧ ThinG t P R ∧ Below w.heap.size w w'

set_option maxHeartbeats 16000000 in
theorem thin_round (t : Int) (h0 : 0 ≤ t) (h1 : t ≤ 262144) (N : Nat) (ih : ThinAt t N) : ThinAt t (N + 1) := by
  intro b off n c lo hi P w hnN hr hcap hhi hn2 hn hok
  have hll := Lib.hid hr.1
  obtain ⟨b', off', hA, hbl, hbh, hcs⟩ := hr.pts (by omega)
  injection hA with hA
  injection hA with e1 e2
  subst e1 e2
  obtain ⟨x0, x1⟩ := hcs 0 (by omega)
  obtain ⟨l0, l1⟩ := hcs (n - 1) (by omega)
  rw [Nat.zero_mul, Nat.add_zero] at x0 x1
  obtain ⟨m1, hm1⟩ : ∃ m, m = n - 1 := ⟨_, rfl⟩
  rw [← hm1] at l0 l1
  have okf := hok _ (ptL_mem (L := P) (k := 0) (by have := hll.out; omega))
  have okg := hok _ (ptL_mem (L := P) (k := m1) (by have := hll.out; omega))
  obtain ⟨⟨fx, fy⟩, hf⟩ : ∃ p, p = ptAt P 0 := ⟨_, rfl⟩
  obtain ⟨⟨gx, gy⟩, hg⟩ : ∃ p, p = ptAt P m1 := ⟨_, rfl⟩
  rw [← hf] at x0 x1 okf
  rw [← hg] at l0 l1 okg
  simp only at x0 x1 l0 l1
  have hbw : b < w.heap.size := by omega
  have i1 : (0 : Int) < (n : Int) := by omega
  have n1 : 0 < n := by omega
  have q1 : IntKind.i64.wrap ((n : Int) - 1) = (m1 : Int) := by rw [wi (by omega)]; omega
  have i2 : (0 : Int) ≤ (m1 : Int) ∧ (m1 : Int) < (n : Int) := by omega
  have hS := Lib.hid (fun (W : World) (hb : Below w.heap.size w W) => (show W.cell? ⟨b, off, none⟩ = some (.int .i64 fx) ∧ W.cell? ⟨b, off + 1, none⟩ = some (.int .i64 fy) ∧ W.cell? ⟨b, off + m1 * 2, none⟩ = some (.int .i64 gx) ∧ W.cell? ⟨b, off + m1 * 2 + 1, none⟩ = some (.int .i64 gy) from ⟨(hb.cell (p := ⟨b, off, none⟩) hbw).trans x0, (hb.cell (p := ⟨b, off + 1, none⟩) hbw).trans x1, (hb.cell (p := ⟨b, off + m1 * 2, none⟩) hbw).trans l0, (hb.cell (p := ⟨b, off + m1 * 2 + 1, none⟩) hbw).trans l1⟩))
  replace hf := Lib.hid hf
  replace hg := Lib.hid hg
  have hm1H := Lib.hid hm1
  replace hcs := Lib.hid hcs
  replace hok := Lib.hid hok
  replace hr := Lib.hid hr
  replace ih := Lib.hid ih
  clear hm1
  go_enter Tryz.func32, Tryz.ntmps32
  go_upto_region 1 with fail
  go_cut [5, 6] (fun s5 s6 wx => ∃ (X Y : Nat), s5 = .pointer (some ⟨X, 0, none⟩) ∧ s6 = .pointer (some ⟨Y, 0, none⟩) ∧ wx.heap[X]? = some (.cells #[.int .i64 fx, .int .i64 fy] 28 (0, 0)) ∧ wx.heap[Y]? = some (.cells #[.int .i64 gx, .int .i64 gy] 28 (0, 0)) ∧ w.heap.size ≤ X ∧ w.heap.size ≤ Y ∧ Below w.heap.size w wx)
  case first =>
    go_region_held3 (fun w' => w'.cell? ⟨b, off, none⟩ = some (.int .i64 fx) ∧ w'.cell? ⟨b, off + 1, none⟩ = some (.int .i64 fy) ∧ w'.cell? ⟨b, off + m1 * 2, none⟩ = some (.int .i64 gx) ∧ w'.cell? ⟨b, off + m1 * 2 + 1, none⟩ = some (.int .i64 gy)) (first | (refine hS.out _ ?_; (repeat (first | with_reducible exact Below.refl _ _ | with_reducible refine Below.drew ?_ | with_reducible refine Below.alloc ?_ (by simp) _ | with_reducible refine Below.setCell ?_ (by simp) _)))) (fail)
    all_goals go_wp2_with fail
    all_goals go_meet
    · exact ⟨_, _, rfl, rfl, (heap_new2 w _ _).1, (heap_new2 w _ _).2, Nat.le_refl _, Nat.le_succ _, Below.drew (Go.Joins.below_alloc2 w _ _)⟩
    · exact ⟨_, _, rfl, rfl, (heap_new2 w _ _).2, (heap_new2 w _ _).1, Nat.le_succ _, Nat.le_refl _, Below.drew (Go.Joins.below_alloc2 w _ _)⟩
  obtain ⟨X, Y, rfl, rfl, hX, hY, hXl, hYl, hbc⟩ := hcut
  generalize wc = v at *
  have hzv := hbc.size
  have hXv : X < v.heap.size := (Array.getElem?_eq_some_iff.1 hX).1
  have hYv : Y < v.heap.size := (Array.getElem?_eq_some_iff.1 hY).1
  have hXH := Lib.hid hX
  have hYH := Lib.hid hY
  have hB0 := Lib.hid hbc
  have hrv := Lib.hid (hr.out.frame (good_flat _) (Below.sameB hbc hhi))
  clear hX hY hbc x0 x1 l0 l1 hS hcs
  go_wp2_with fail
  go_loopg [7, 8, 9, 10] n (fun kx s7 s8 s9 s10 wr => ∃ (i : Nat) (q m : Int), s9 = .int .i64 i ∧ 1 ≤ i ∧ i + 1 ≤ n ∧ n - i ≤ kx ∧ s7 = .int .i64 q ∧ s8 = .int .i64 m ∧ -1 ≤ m ∧ m ≤ 1099511627776 ∧ ((q = -1 ∧ m = -1 ∧ Hid (∀ j, 0 < j → j < i → nearB fx fy gx gy (ptAt P j).1 (ptAt P j).2 t = true)) ∨ ∃ best : Nat, q = (best : Int) ∧ 0 < best ∧ best + 1 < n) ∧ Below v.heap.size v wr)
  case atStart => exact ⟨1, -1, -1, rfl, Nat.le_refl _, by omega, by omega, rfl, rfl, by omega, by omega, .inl ⟨rfl, rfl, fun j h1 h2 => absurd h1 (by omega)⟩, Below.refl _ _⟩
  case round =>
  obtain ⟨i, q, m, rfl, hi1, hin, hkx, rfl, rfl, hm1, hm2, hqc, hbel⟩ := hrel
  generalize wr = xr at *
  have hz := hbel.size
  by_cases hlt : i + 1 < n
  rotate_left
  · have hii : i + 1 = n := by omega
    have hki : ¬ (i : Int) + 1 < (n : Int) := by omega
    rcases hqc with ⟨rfl, rfl, hall⟩ | ⟨best, rfl, hb0, hb1⟩
    · have hth : Hid (ThinG t P []) := thin_done h0 (by have := hll.out; omega) (fun j h1 h2 => by
        rw [show P.length - 1 = m1 by have := hll.out; have := hm1H.out; omega, ← hf.out, ← hg.out]
        exact hall.out j h1 (by have := hll.out; omega))
      replace hii := Lib.hid hii
      go_wp2_with fail
      go_ret
      exact ⟨[], none, 0, rfl, World.ownsRow_nil _ _ _ _, hth.out, hB0.out.trans (hbel.mono hzv)⟩
    · have hneg : ¬ (best : Int) < 0 := by omega
      have hbx : Hid (Below w.heap.size w xr) := hB0.out.trans (hbel.mono hzv)
      have hrx := hrv.out.frame (good_flat _) (Below.sameB hbel (by omega))
      obtain ⟨b', off', hA, _, _, hcs⟩ := hrx.pts (by omega)
      injection hA with hA
      injection hA with e1 e2
      subst e1 e2
      obtain ⟨p0, p1⟩ := hcs best (by omega)
      obtain ⟨⟨px, py⟩, hp⟩ : ∃ p, p = ptAt P best := ⟨_, rfl⟩
      rw [← hp] at p0 p1
      simp only at p0 p1
      have hbxr : b < xr.heap.size := by omega
      have okP : ∀ k, (∀ p ∈ P.take k, pt2Ok p = true) ∧ ∀ p ∈ P.drop k, pt2Ok p = true := fun k => ⟨fun p hp => hok.out p (List.mem_of_mem_take hp), fun p hp => hok.out p (List.mem_of_mem_drop hp)⟩
      have hI1 : Hid (∀ W, Below xr.heap.size xr W → Calls Tryz.prog 32 #[.slice (some ⟨b, off, none⟩) (best + 1) c, .int .i64 t] W fun e w' => ∃ (R : List Pnt) (A' : Option Addr) (c' : Nat), e = .returned (.slice A' R.length c') ∧ w'.ownsRow xr.heap.size 28 2 (.slice A' R.length c') R.length (R.flatMap ptC) ∧ ThinG t (P.take (best + 1)) R ∧ Below xr.heap.size xr w' ∧ (∀ o, W = xr.drew.alloc o → w'.heap[xr.heap.size]? = some o)) := fun W hW => by
        have hrW := rdS_take (hrx.frame (good_flat _) (Below.sameB hW (by omega))) (best + 1) (by omega)
        refine (ih.out b off (best + 1) c lo hi (P.take (best + 1)) W (by omega) hrW (by omega) (by have := hW.size; omega) (by omega) (by omega) (okP _).1).mono ?_
        rintro e w' ⟨R, A', c', he, ho, hg, hb'⟩
        refine ⟨R, A', c', he, own_lower ho hW.size, hg, hW.trans (hb'.mono hW.size), fun o hWo => ?_⟩
        subst hWo
        exact (hb'.block xr.heap.size (by show xr.heap.size < (xr.alloc o).heap.size; simp)).trans (heap_alloc_new xr o)
      have hS := Lib.hid (fun (W : World) (hb : Below xr.heap.size xr W) => (show W.cell? ⟨b, off + best * 2, none⟩ = some (.int .i64 px) ∧ W.cell? ⟨b, off + best * 2 + 1, none⟩ = some (.int .i64 py) from ⟨(hb.cell (p := ⟨b, off + best * 2, none⟩) hbxr).trans p0, (hb.cell (p := ⟨b, off + best * 2 + 1, none⟩) hbxr).trans p1⟩))
      have hgrow : Hid (∀ (W w5 : World) (A4 : Option Addr) (k4 c4 : Nat) (ys : List Value), Below xr.heap.size xr W → W.ownsRow xr.heap.size 28 2 (.slice A4 k4 c4) k4 ys → W.grownBy w5 (Value.slice A4 k4 c4).ownBlock → Below xr.heap.size xr w5) := Lib.hid fun W w5 A4 k4 c4 ys hb ho hg => hb.grown hg hb.size (fun g hg' => (ho.lt g hg').1)
      have e3 : (0 : Int) ≤ (best : Int) + 1 ∧ (best : Int) + 1 ≤ (c : Int) := by omega
      have e4 : ((best : Int) + 1).toNat = best + 1 := by omega
      have e5 : (0 : Int) ≤ (best : Int) ∧ (best : Int) < (n : Int) ∧ (best : Int) ≤ (n : Int) ∧ (n : Int) ≤ (c : Int) := by omega
      have e6 : best + 1 ≤ c ∧ best ≤ n ∧ n ≤ c := by omega
      have e7 : ¬ (c - best = 0) := by omega
      have e8 : ¬ c = best := by omega
      have e9 : ¬ c = 0 := by omega
      have e10 : IntKind.i64.wrap ((best : Int) + 1) = (best : Int) + 1 := wi (by omega)
      have e11 : ((best : Int)).toNat = best := by omega
      have hrxH := Lib.hid hrx
      have hpH := Lib.hid hp
      replace hii := Lib.hid hii
      clear hp p0 p1 hcs hrx okP
      go_upto_region 15 with fail
      go_cut [11] (fun s11 wx => ∃ (R : List Pnt) (A' : Option Addr) (c' : Nat), s11 = .slice A' (R.length + 1) c' ∧ wx.ownsRow xr.heap.size 28 2 (.slice A' (R.length + 1) c') (R.length + 1) (R.flatMap ptC ++ [.int .i64 px, .int .i64 py]) ∧ ThinG t (P.take (best + 1)) R ∧ Below xr.heap.size xr wx)
      case first =>
        go_region_held3 (fun w' => w'.cell? ⟨b, off + best * 2, none⟩ = some (.int .i64 px) ∧ w'.cell? ⟨b, off + best * 2 + 1, none⟩ = some (.int .i64 py)) (first | (with_reducible exact sE.out) | (with_reducible exact sQ.out) | (refine hS.out _ ?_; repeat (first | with_reducible exact hbQ.out | with_reducible exact Below.refl _ _ | with_reducible refine Below.drew ?_ | with_reducible refine Below.alloc ?_ (by first | exact Nat.le_refl _ | exact hbQ.out.size) _))) (first | (go_at_call 32; (with_reducible refine (hI1.out _ ?_).mono ?_); (first | exact Below.drew (Below.refl _ _) | exact Below.alloc (Below.drew (Below.refl _ _)) (Nat.le_refl _) _); rintro e w4 ⟨R1, A4, c4, rfl, ho4, hg4, hbQ, hrow⟩; have hR4 : R1.length ≤ 1000 := (by have := hg4.1; rw [List.length_take] at this; omega); have sQ := Lib.hid (hS.out w4 hbQ); replace ho4 := Lib.hid ho4; replace hg4 := Lib.hid hg4; replace hbQ := Lib.hid hbQ; replace hrow := Lib.hid hrow; obtain ⟨k4, hk4⟩ : ∃ k, Hid (k = R1.length) := ⟨_, rfl⟩; rw [← hk4.out] at ho4 hR4 ⊢; dsimp only) | (refine stepAppAt rfl (.tmp 68) (.tmp 73) elemPt rfl (base := xr.heap.size) (v := .slice A4 k4 c4) (n := k4) (xs := R1.flatMap ptC) (m := 1) (news := [.int .i64 px, .int .i64 py]) rfl (by first | exact ho4.out | exact ho4.out.alloc _) rfl (by first | exact srcB (hrow.out _ rfl) | exact src_at (cs := [.int .i64 px, .int .i64 py]) rfl (by simp [Value.oneCell']) rfl) (by omega) (by omega) (by first | exact hbQ.out.size | exact (hbQ.out.alloc hbQ.out.size _).size) (k4 + 1) rfl ?_; intro A5 c5 w5 ho5 hg5; have hb5 : Below xr.heap.size xr w5 := (by first | exact hgrow.out _ _ _ _ _ _ hbQ.out ho4.out hg5 | exact hgrow.out _ _ _ _ _ _ (hbQ.out.alloc hbQ.out.size _) (ho4.out.alloc _) hg5); have sE := Lib.hid (hS.out w5 hb5); replace ho5 := Lib.hid ho5; replace hb5 := Lib.hid hb5; clear hg5))
        all_goals
          go_wp2_with fail
          go_meet
          exact ⟨R1, A5, c5, by rw [hk4.out], by rw [← hk4.out]; exact ho5.out, hg4.out, hb5.out⟩
      case rest =>
      obtain ⟨R1, A1, c1, rfl, ho1, hg1, hb1⟩ := hcut
      generalize wc = u at *
      have hzu := hb1.size
      have hR1 : R1.length ≤ 1000 := by have := hg1.1; rw [List.length_take] at this; omega
      have hI2 : Hid (Calls Tryz.prog 32 #[.slice (some ⟨b, off + best * 2, none⟩) (n - best) (c - best), .int .i64 t] u fun e w' => ∃ (R : List Pnt) (A' : Option Addr) (c' : Nat), e = .returned (.slice A' R.length c') ∧ w'.ownsRow u.heap.size 28 2 (.slice A' R.length c') R.length (R.flatMap ptC) ∧ ThinG t (P.drop best) R ∧ Below u.heap.size u w') :=
        ih.out b (off + best * 2) (n - best) (c - best) lo hi (P.drop best) u (by omega) (rdS_drop (hrxH.out.frame (good_flat _) (Below.sameB hb1 (by omega))) best (by omega)) (by omega) (by omega) (by omega) (by omega) (fun p hp => hok.out p (List.mem_of_mem_drop hp))
      obtain ⟨k1, hk1⟩ : ∃ k, Hid (k = R1.length + 1) := ⟨_, rfl⟩
      rw [← hk1.out] at ho1 ⊢
      have hk1b : k1 ≤ 1001 := by have := hk1.out; omega
      have hO1 := Lib.hid ho1
      have hG1 := Lib.hid hg1
      have hB1 := Lib.hid (hbx.out.trans (hb1.mono (by omega)))
      have hxw : w.heap.size ≤ xr.heap.size := by omega
      clear ho1 hg1 hb1 hI1 hS hgrow
      go_wp2_with (first
        | (go_at_call 32; refine hI2.out.mono ?_; rintro e w1 ⟨R2, A3, c3, rfl, ho3, hg3, hb3⟩; have hR2 : R2.length ≤ 1000 := (by have := hg3.1; rw [List.length_drop] at this; have := hll.out; omega); obtain ⟨k3, hk3⟩ : ∃ k, Hid (k = R2.length) := ⟨_, rfl⟩; rw [← hk3.out] at ho3 hR2 ⊢; have hown1 := Lib.hid (own_below hO1.out hb3); have hb1z := hb3.size; have hsrc := Lib.hid (src_rd ptC_len ptC_one (rdS_own ptC_len (by omega) ho3 hk3.out.symm)); have hB3 := Lib.hid (hB1.out.trans (hb3.mono (by omega))); replace hg3 := Lib.hid hg3; clear ho3 hb3; dsimp only)
        | (at_builtin; refine wpApp rfl (.tmp 75) (.tmp 80) elemPt rfl (v := .slice A1 k1 c1) (n := k1) (xs := R1.flatMap ptC ++ [.int .i64 px, .int .i64 py]) rfl (own_lower hown1.out hxw) rfl hsrc.out (by omega) (by omega) (by omega) (k1 + k3) rfl ?_; intro A' c' w5 hown5 hb5; replace hown5 := Lib.hid hown5))
      go_ret
      have hth := thin_split (t := t) (P := P) hb0 (by have := hll.out; omega) hG1.out hg3.out
      rw [← hpH.out] at hth
      refine ⟨_, A', c', ?_, ?_, hth, hB3.out.trans hb5⟩
      · rw [List.length_append, List.length_cons, ← hk3.out, show R1.length + (k3 + 1) = k1 + k3 by have := hk1.out; omega]; rfl
      · have h5 := hown5.out
        rw [List.length_append, List.length_cons, ← hk3.out, show R1.length + (k3 + 1) = k1 + k3 by have := hk1.out; omega, List.flatMap_append, List.flatMap_cons, ← List.append_assoc]
        exact h5
  have hki : (i : Int) + 1 < (n : Int) := by omega
  have hrx := hrv.out.frame (good_flat _) (Below.sameB hbel (by omega))
  obtain ⟨b', off', hA, _, _, hcs⟩ := hrx.pts (by omega)
  injection hA with hA
  injection hA with e1 e2
  subst e1 e2
  obtain ⟨p0, p1⟩ := hcs i (by omega)
  have okp := hok.out _ (ptL_mem (L := P) (k := i) (by have := hll.out; omega))
  obtain ⟨⟨px, py⟩, hp⟩ : ∃ p, p = ptAt P i := ⟨_, rfl⟩
  rw [← hp] at p0 p1 okp
  simp only at p0 p1
  have hbxr : b < xr.heap.size := by omega
  have hXx := (hbel.block X hXv).trans hXH.out
  have hYx := (hbel.block Y hYv).trans hYH.out
  have hcl : Hid (∀ W, Below xr.heap.size xr W → (W.cell? ⟨X, 0, none⟩ = some (.int .i64 fx) ∧ W.cell? ⟨X, 1, none⟩ = some (.int .i64 fy) ∧ W.cell? ⟨Y, 0, none⟩ = some (.int .i64 gx) ∧ W.cell? ⟨Y, 1, none⟩ = some (.int .i64 gy) ∧ W.cell? ⟨b, off + i * 2, none⟩ = some (.int .i64 px) ∧ W.cell? ⟨b, off + i * 2 + 1, none⟩ = some (.int .i64 py)) ∧ X < W.heap.size ∧ Y < W.heap.size ∧ b < W.heap.size) := fun W hW => by
    have h1 := (hW.block X (by omega)).trans hXx
    have h2 := (hW.block Y (by omega)).trans hYx
    exact ⟨⟨by rw [Go.Joins.cell_of_block h1]; rfl, by rw [Go.Joins.cell_of_block h1]; rfl, by rw [Go.Joins.cell_of_block h2]; rfl, by rw [Go.Joins.cell_of_block h2]; rfl, (hW.cell (p := ⟨b, off + i * 2, none⟩) hbxr).trans p0, (hW.cell (p := ⟨b, off + i * 2 + 1, none⟩) hbxr).trans p1⟩, by have := hW.size; omega, by have := hW.size; omega, by have := hW.size; omega⟩
  have e5 : (0 : Int) ≤ (i : Int) ∧ (i : Int) < (n : Int) := by omega
  obtain ⟨ne, hne⟩ : ∃ v, v = nearB fx fy gx gy px py t := ⟨_, rfl⟩
  have hcn := Lib.hid (fun dr os => Calls.regrown_of (w := xr) (d := dr) (os := os) (nearSegment_any fx fy gx gy px py t ne hne (Go.Sort.grow (redrawn xr dr) os) okf okg okp h0 h1))
  have hbelH := Lib.hid hbel
  have hpH := Lib.hid hp
  obtain ⟨⟨k0, k1, k2, k3, k4, k5⟩, z1, z2, z3⟩ := hcl.out xr (Below.refl _ _)
  have g0 := fun dr os => cell_regrown k0 dr os
  have g1 := fun dr os => cell_regrown k1 dr os
  have g2 := fun dr os => cell_regrown k2 dr os
  have g3 := fun dr os => cell_regrown k3 dr os
  have g4 := fun dr os => cell_regrown k4 dr os
  have g5 := fun dr os => cell_regrown k5 dr os
  replace hne := Lib.hid hne
  clear hcs p0 p1 hp hrx hXx hYx hbel
  cases ne with
  | true =>
    go_wp2_with fail
    refine wp_region_quiet_below (by kernel_rfl) (by kernel_rfl) ?_
    repeat (go_big_quiet_step (first | (with_reducible exact hcn.out _ _)))
    refine wpQuiet_nil ?_
    intro _ hw'
    obtain ⟨⟨dq, osq⟩, hw''⟩ := hw'
    subst hw''
    have hbqw9 := Lib.hid (below_regrown xr dq osq)
    generalize Go.Sort.grow (redrawn xr dq) osq = w9 at *
    go_wp2_with fail
    go_roundg (n - (i + 1))
    case measure => omega
    case rel =>
      refine ⟨i + 1, q, m, by go_num, by omega, by omega, Nat.le_refl _, rfl, rfl, hm1, hm2, ?_, hbelH.out.trans (hbqw9.out.mono hz)⟩
      rcases hqc with ⟨h1, h2, h3⟩ | h
      · refine .inl ⟨h1, h2, fun j hj1 hj2 => ?_⟩
        rcases Nat.lt_or_ge j i with h | h
        · exact h3.out j hj1 h
        · obtain rfl : j = i := by omega
          rw [← hpH.out]; exact hne.out.symm
      · exact .inr h
  | false =>
    have hsq := sq_bd okf okp
    obtain ⟨sz, hsz⟩ : ∃ s, s = sqI fx fy px py := ⟨_, rfl⟩
    rw [← hsz] at hsq
    go_wp2_with fail
    refine wp_region_quiet_below (by kernel_rfl) (by kernel_rfl) ?_
    repeat (go_big_quiet_step (first | (with_reducible exact hcn.out _ _)))
    refine wpQuiet_nil ?_
    intro _ hw'
    obtain ⟨⟨dq, osq⟩, hw''⟩ := hw'
    subst hw''
    have hbqw9 := Lib.hid (below_regrown xr dq osq)
    generalize Go.Sort.grow (redrawn xr dq) osq = w9 at *
    clear g0 g1 g2 g3 g4 g5 k0 k1 k2 k3 k4 k5 z1 z2 z3 hcn
    have hb9 := Lib.hid (hbelH.out.trans (hbqw9.out.mono hz))
    have hz9 := hbqw9.out.size
    obtain ⟨⟨k0, k1, k2, k3, k4, k5⟩, z1, z2, z3⟩ := hcl.out w9 hbqw9.out
    have g0 := fun dr os => cell_regrown k0 dr os
    have g1 := fun dr os => cell_regrown k1 dr os
    have g2 := fun dr os => cell_regrown k2 dr os
    have g3 := fun dr os => cell_regrown k3 dr os
    have g4 := fun dr os => cell_regrown k4 dr os
    have g5 := fun dr os => cell_regrown k5 dr os
    have hcd := Lib.hid (fun dr os => Calls.regrown_of (w := w9) (d := dr) (os := os) (distSq_any fx fy px py (Go.Sort.grow (redrawn w9 dr) os) okf okp))
    rw [← hsz] at hcd
    replace hsz := Lib.hid hsz
    go_wp2_with fail
    refine wp_region_quiet_below (by kernel_rfl) (by kernel_rfl) ?_
    repeat (go_big_quiet_step (first | (with_reducible exact hcd.out _ _)))
    refine wpQuiet_nil ?_
    intro _ hw'
    obtain ⟨⟨dq, osq⟩, hw''⟩ := hw'
    subst hw''
    have hbqw10 := Lib.hid (below_regrown w9 dq osq)
    generalize Go.Sort.grow (redrawn w9 dq) osq = w10 at *
    clear g0 g1 g2 g3 g4 g5 k0 k1 k2 k3 k4 k5 z1 z2 z3 hcd
    have hbqx : Hid (Below xr.heap.size xr w10) := hbqw9.out.trans (hbqw10.out.mono hz9)
    have hb10 := Lib.hid (hb9.out.trans (hbqw10.out.mono (by omega)))
    have hz10 := hbqw10.out.size
    obtain ⟨⟨k0, k1, k2, k3, k4, k5⟩, z1, z2, z3⟩ := hcl.out w10 hbqx.out
    by_cases heq : fx = gx ∧ fy = gy
    · obtain ⟨rfl, rfl⟩ := heq
      obtain ⟨z, hzz⟩ : ∃ z, Hid (z = sz) := ⟨_, rfl⟩
      have hz0 : 0 ≤ z ∧ z ≤ 1099511627776 := by have := hzz.out; omega
      rw [← hzz.out]
      clear hsq
      by_cases hgt : m < z
      · clear hqc
        go_wp2_with fail
        go_roundg (n - (i + 1))
        case measure => omega
        case rel => exact ⟨i + 1, (i : Int), z, by go_num, by omega, by omega, by omega, rfl, rfl, by omega, by omega, .inr ⟨i, rfl, by omega, by omega⟩, hb10.out⟩
      · have hq2 : ∃ best : Nat, q = (best : Int) ∧ 0 < best ∧ best + 1 < n := by
          rcases hqc with ⟨_, h2, _⟩ | h
          · omega
          · exact h
        replace hq2 := Lib.hid hq2
        clear hqc
        go_wp2_with fail
        go_roundg (n - (i + 1))
        case measure => omega
        case rel => exact ⟨i + 1, q, m, by go_num, by omega, by omega, by omega, rfl, rfl, hm1, hm2, .inr hq2.out, hb10.out⟩
    · have hneq : fx ≠ gx ∨ (fx = gx ∧ fy ≠ gy) := by
        by_cases h : fx = gx
        · exact .inr ⟨h, fun h' => heq ⟨h, h'⟩⟩
        · exact .inl h
      have htb := turn_bd okf okg okp
      obtain ⟨tu, htu⟩ : ∃ s, s = turnI fx fy gx gy px py := ⟨_, rfl⟩
      rw [← htu] at htb
      have g0 := fun dr os => cell_regrown k0 dr os
      have g1 := fun dr os => cell_regrown k1 dr os
      have g2 := fun dr os => cell_regrown k2 dr os
      have g3 := fun dr os => cell_regrown k3 dr os
      have g4 := fun dr os => cell_regrown k4 dr os
      have g5 := fun dr os => cell_regrown k5 dr os
      have hct := Lib.hid (fun dr os => Calls.regrown_of (w := w10) (d := dr) (os := os) (turn_any fx fy gx gy px py (Go.Sort.grow (redrawn w10 dr) os) okf okg okp))
      rw [← htu] at hct
      replace htu := Lib.hid htu
      have mneg : IntKind.i64.wrap (-tu) = -tu := wi (by omega)
      clear heq
      rcases hneq with h | ⟨h, h'⟩
      · have tb0 : (fx == gx) = false := by simp [h]
        clear h
        go_wp2_with fail
        refine wp_region_quiet_below (by kernel_rfl) (by kernel_rfl) ?_
        repeat (go_big_quiet_step (first | (with_reducible exact hct.out _ _)))
        refine wpQuiet_nil ?_
        intro _ hw'
        obtain ⟨⟨dq, osq⟩, hw''⟩ := hw'
        subst hw''
        have hbqw11 := Lib.hid (below_regrown w10 dq osq)
        generalize Go.Sort.grow (redrawn w10 dq) osq = w11 at *
        have hb11 := Lib.hid (hb10.out.trans (hbqw11.out.mono (by omega)))
        clear g0 g1 g2 g3 g4 g5 k0 k1 k2 k3 k4 k5 z1 z2 z3 hct
        obtain ⟨z, hzz⟩ : ∃ z, Hid (z = max tu (-tu)) := ⟨_, rfl⟩
        have hz0 : 0 ≤ z ∧ z ≤ 1099511627776 := by have := hzz.out; omega
        have hmx : max tu (-tu) = z := hzz.out.symm
        go_upto_region 11 with fail
        by_cases hgt : m < z
        · clear hqc
          go_wp2_with fail
          go_roundg (n - (i + 1))
          case measure => omega
          case rel => exact ⟨i + 1, (i : Int), z, by go_num, by omega, by omega, by omega, rfl, rfl, by omega, by omega, .inr ⟨i, rfl, by omega, by omega⟩, hb11.out⟩
        · have hq2 : ∃ best : Nat, q = (best : Int) ∧ 0 < best ∧ best + 1 < n := by
            rcases hqc with ⟨_, h2, _⟩ | h
            · omega
            · exact h
          replace hq2 := Lib.hid hq2
          clear hqc
          go_wp2_with fail
          go_roundg (n - (i + 1))
          case measure => omega
          case rel => exact ⟨i + 1, q, m, by go_num, by omega, by omega, by omega, rfl, rfl, hm1, hm2, .inr hq2.out, hb11.out⟩
      · subst h
        have tb0 : (fy == gy) = false := by simp [h']
        clear h'
        go_wp2_with fail
        refine wp_region_quiet_below (by kernel_rfl) (by kernel_rfl) ?_
        repeat (go_big_quiet_step (first | (with_reducible exact hct.out _ _)))
        refine wpQuiet_nil ?_
        intro _ hw'
        obtain ⟨⟨dq, osq⟩, hw''⟩ := hw'
        subst hw''
        have hbqw11 := Lib.hid (below_regrown w10 dq osq)
        generalize Go.Sort.grow (redrawn w10 dq) osq = w11 at *
        have hb11 := Lib.hid (hb10.out.trans (hbqw11.out.mono (by omega)))
        clear g0 g1 g2 g3 g4 g5 k0 k1 k2 k3 k4 k5 z1 z2 z3 hct
        obtain ⟨z, hzz⟩ : ∃ z, Hid (z = max tu (-tu)) := ⟨_, rfl⟩
        have hz0 : 0 ≤ z ∧ z ≤ 1099511627776 := by have := hzz.out; omega
        have hmx : max tu (-tu) = z := hzz.out.symm
        go_upto_region 11 with fail
        by_cases hgt : m < z
        · clear hqc
          go_wp2_with fail
          go_roundg (n - (i + 1))
          case measure => omega
          case rel => exact ⟨i + 1, (i : Int), z, by go_num, by omega, by omega, by omega, rfl, rfl, by omega, by omega, .inr ⟨i, rfl, by omega, by omega⟩, hb11.out⟩
        · have hq2 : ∃ best : Nat, q = (best : Int) ∧ 0 < best ∧ best + 1 < n := by
            rcases hqc with ⟨_, h2, _⟩ | h
            · omega
            · exact h
          replace hq2 := Lib.hid hq2
          clear hqc
          go_wp2_with fail
          go_roundg (n - (i + 1))
          case measure => omega
          case rel => exact ⟨i + 1, q, m, by go_num, by omega, by omega, by omega, rfl, rfl, hm1, hm2, .inr hq2.out, hb11.out⟩
theorem thinPath_any (t : Int) (h0 : 0 ≤ t) (h1 : t ≤ 262144) : ∀ N, ThinAt t N
  | 0 => fun b off n c lo hi P w hnN _ _ _ hn2 => by omega
  | N + 1 => thin_round t h0 h1 N (thinPath_any t h0 h1 N)
end Go.Proofs.YtlifiioflkhkoaaGreat

