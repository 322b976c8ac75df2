/- The polar form of a cubic: the program's side. Printed by mk_cv5.py. Conditions: as each states. -/
import Derived.Test.YtpmpbfkpiocleaaQv41
namespace Go.Proofs.Ytpmpbfkpiocleaa
open Go.RowKit
set_option linter.unusedVariables false
set_option maxRecDepth 100000

/-- a block of four points -/
def PtsF (w : World) (g : Nat) (f : Nat → Int × Int) : Prop := (∀ i, i < 4 → w.cell? ⟨g, i * 2, none⟩ = some (.int .i64 (f i).1) ∧ w.cell? ⟨g, i * 2 + 1, none⟩ = some (.int .i64 (f i).2)) ∧ (∀ o, w.frozen? ⟨g, o, none⟩ = false) ∧ g < w.heap.size
theorem PtsF.below {w w' : World} {g : Nat} {f : Nat → Int × Int} (h : PtsF w g f) (hb : Below w.heap.size w w') : PtsF w' g f :=
  ⟨fun i hi => ⟨(hb.cell (p := ⟨g, i * 2, none⟩) h.2.2).trans (h.1 i hi).1, (hb.cell (p := ⟨g, i * 2 + 1, none⟩) h.2.2).trans (h.1 i hi).2⟩, fun o => (World.frozen?_of_block (hb.block g h.2.2)).trans (h.2.1 o), Nat.lt_of_lt_of_le h.2.2 hb.size⟩
theorem PtsF.set {w : World} {g : Nat} {f : Nat → Int × Int} (h : PtsF w g f) (i : Nat) (x y : Int) : PtsF ((w.setCell ⟨g, i * 2, none⟩ (.int .i64 x)).setCell ⟨g, i * 2 + 1, none⟩ (.int .i64 y)) g (fun j => if j = i then (x, y) else f j) := by
  refine ⟨fun j hj => ?_, fun o => ?_, ?_⟩
  · by_cases hji : j = i
    · subst hji
      simp only [if_true]
      refine ⟨?_, ?_⟩
      · rw [World.cell?_setCell_other _ _ _ _ (by simp)]
        exact World.cell?_setCell_same _ _ _ (h.1 j hj).1
      · have h1 : (w.setCell ⟨g, j * 2, none⟩ (.int .i64 x)).cell? ⟨g, j * 2 + 1, none⟩ = some (.int .i64 (f j).2) := by
          rw [World.cell?_setCell_other _ _ _ _ (by simp)]; exact (h.1 j hj).2
        exact World.cell?_setCell_same _ _ _ h1
    · simp only [hji, if_false]
      refine ⟨?_, ?_⟩
      · rw [World.cell?_setCell_other _ _ _ _ (by simp <;> omega), World.cell?_setCell_other _ _ _ _ (by simp <;> omega)]; exact (h.1 j hj).1
      · rw [World.cell?_setCell_other _ _ _ _ (by simp <;> omega), World.cell?_setCell_other _ _ _ _ (by simp <;> omega)]; exact (h.1 j hj).2
  · rw [World.frozen?_setCell, World.frozen?_setCell]; exact h.2.1 o
  · simpa using h.2.2
theorem PtsF.two {w : World} {g : Nat} {f : Nat → Int × Int} (h : PtsF w g f) {i : Nat} (hi : i + 1 < 4) : RdS 2 (FlatR ptC) w g (g + 1) (some ⟨g, i * 2, none⟩) 2 [f i, f (i + 1)] := by
  refine ⟨rfl, fun _ => ⟨g, i * 2, rfl, Nat.le_refl _, Nat.lt_succ_self _, fun j a ha => ⟨ptC a, rfl, fun k u hu => ?_, rfl⟩⟩⟩
  have h0 := h.1 i (by omega)
  have h1 := h.1 (i + 1) hi
  rcases (show j = 0 ∨ j = 1 ∨ 2 ≤ j by omega) with rfl | rfl | hj
  · simp at ha
    subst ha
    rcases (show k = 0 ∨ k = 1 ∨ 2 ≤ k by omega) with rfl | rfl | hk
    · simp [ptC] at hu; subst hu; simpa using h0.1
    · simp [ptC] at hu; subst hu; simpa using h0.2
    · rw [List.getElem?_eq_none (by simp [ptC]; omega)] at hu; cases hu
  · simp at ha
    subst ha
    rw [show (i + 1) * 2 = i * 2 + 2 by omega] at h1
    rcases (show k = 0 ∨ k = 1 ∨ 2 ≤ k by omega) with rfl | rfl | hk
    · simp [ptC] at hu; subst hu; simpa using h1.1
    · simp [ptC] at hu; subst hu; simpa [Nat.add_assoc] using h1.2
    · rw [List.getElem?_eq_none (by simp [ptC]; omega)] at hu; cases hu
  · rw [List.getElem?_eq_none (by simp; omega)] at ha; cases ha
theorem PtsF.own {w : World} {g base : Nat} {L : List (Int × Int)} (h : w.ownsRow base 24 2 (.slice (some ⟨g, 0, none⟩) 4 4) 4 (L.flatMap ptC)) (hL : L.length = 4) : PtsF w g (ptAt L) := by
  have hr := (rdS_own ptC_len (by omega) h hL).pts (by omega)
  obtain ⟨g', og, hA, _, hg2, hgs⟩ := hr
  injection hA with hA
  injection hA with e1 e2
  subst e1 e2
  obtain ⟨hlen, h | ⟨g', cap, cur, hv, hb, hh, _⟩⟩ := h
  · cases h.1
  · injection hv with hv _
    injection hv with hv
    injection hv with hv
    subst hv
    refine ⟨fun i hi => ?_, Go.Joins.unfrozen_of_block hh, (Array.getElem?_eq_some_iff.1 hh).1⟩
    have := hgs i hi
    rwa [Nat.zero_add] at this
/-- one step between two points -/
def mixP (n k : Int) (a b : Int × Int) : Int × Int := (a.1 * (n - k) + b.1 * k, a.2 * (n - k) + b.2 * k)
/-- the points after j rounds -/
def stg (q : Cb) (n : Int) (t : Nat → Int) : Nat → Nat → Int × Int
  | 0, i => ptAt q.pts i
  | j + 1, i => mixP n (t j) (stg q n t j i) (stg q n t j (i + 1))
theorem own_at_base {w : World} {g base e size n c : Nat} {xs : List Value} (h : w.ownsRow base e size (.slice (some ⟨g, 0, none⟩) n c) n xs) : base ≤ g := by
  obtain ⟨_, h | ⟨g', cap, cur, hv, hb, _⟩⟩ := h
  · cases h.1
  · injection hv with hv _
    injection hv with hv
    injection hv with hv
    omega
theorem stg_three (q : Cb) (n : Int) (t : Nat → Int) : stg q n t 3 0 = (bloC q.ax q.bx q.cx q.dx (t 0) (t 1) (t 2) n, bloC q.ay q.b q.cy q.dy (t 0) (t 1) (t 2) n) := by
  simp only [stg, mixP, ptAt, Cb.pts, bloC]
  refine Prod.ext ?_ ?_
  · simp; grind
  · simp; grind
def BdP (p : Int × Int) (M : Int) : Prop := BdI p.1 M ∧ BdI p.2 M
theorem mixP_bd {n k M M' : Int} {a b : Int × Int} (hn : n ≤ 64) (hk : 0 ≤ k ∧ k ≤ n) (ha : BdP a M) (hb : BdP b M) (hM : M' = M * 64 + M * 64) (hM2 : M' ≤ 1000000000000000000) : BdP (mixP n k a b) M' := by
  have h1 : BdI (n - k) 64 := ⟨by omega, by omega⟩
  have h2 : BdI k 64 := ⟨by omega, by omega⟩
  have m0 : 0 ≤ M := by have := ha.1.1; have := ha.1.2; omega
  obtain ⟨_, x1⟩ := wmul (C := M * 64) ha.1 h1 rfl (by omega)
  obtain ⟨_, x2⟩ := wmul (C := M * 64) hb.1 h2 rfl (by omega)
  obtain ⟨_, x3⟩ := wadd (C := M') x1 x2 hM (by omega)
  obtain ⟨_, y1⟩ := wmul (C := M * 64) ha.2 h1 rfl (by omega)
  obtain ⟨_, y2⟩ := wmul (C := M * 64) hb.2 h2 rfl (by omega)
  obtain ⟨_, y3⟩ := wadd (C := M') y1 y2 hM (by omega)
  exact ⟨x3, y3⟩
theorem stg_bd {q : Cb} (hq : q.ok) {n : Int} {t : Nat → Int} (hn : n ≤ 64) (ht : ∀ j, j < 3 → 0 ≤ t j ∧ t j ≤ n) {j : Nat} (hj : j ≤ 3) : ∀ i, BdP (stg q n t j i) 549755813888 := by
  have h0 : ∀ i, BdP (stg q n t 0 i) 262144 := by
    intro i
    obtain ⟨a1, a2⟩ := bd_pt hq.1
    obtain ⟨b1, b2⟩ := bd_pt hq.2.1
    obtain ⟨c1, c2⟩ := bd_pt hq.2.2.1
    obtain ⟨d1, d2⟩ := bd_pt hq.2.2.2
    show BdP (ptAt q.pts i) _
    rcases (show i = 0 ∨ i = 1 ∨ i = 2 ∨ i = 3 ∨ 4 ≤ i by omega) with rfl | rfl | rfl | rfl | hi
    · exact ⟨a1, a2⟩
    · exact ⟨b1, b2⟩
    · exact ⟨c1, c2⟩
    · exact ⟨d1, d2⟩
    · have : ptAt q.pts i = (0, 0) := by unfold ptAt; rw [List.getD_eq_getElem?_getD, List.getElem?_eq_none (by simp [Cb.pts]; omega)]; rfl
      rw [this]
      exact ⟨⟨by decide, by decide⟩, ⟨by decide, by decide⟩⟩
  have h1 : ∀ i, BdP (stg q n t 1 i) 33554432 := fun i => mixP_bd hn (ht 0 (by omega)) (h0 i) (h0 (i + 1)) (by decide) (by decide)
  have h2 : ∀ i, BdP (stg q n t 2 i) 4294967296 := fun i => mixP_bd hn (ht 1 (by omega)) (h1 i) (h1 (i + 1)) (by decide) (by decide)
  have h3 : ∀ i, BdP (stg q n t 3 i) 549755813888 := fun i => mixP_bd hn (ht 2 (by omega)) (h2 i) (h2 (i + 1)) (by decide) (by decide)
  intro i
  have up : ∀ {p : Int × Int} {M : Int}, BdP p M → M ≤ 549755813888 → BdP p 549755813888 := fun {p M} h hM => ⟨⟨by have := h.1.1; omega, by have := h.1.2; omega⟩, ⟨by have := h.2.1; omega, by have := h.2.2; omega⟩⟩
  rcases (show j = 0 ∨ j = 1 ∨ j = 2 ∨ j = 3 by omega) with rfl | rfl | rfl | rfl
  · exact up (h0 i) (by decide)
  · exact up (h1 i) (by decide)
  · exact up (h2 i) (by decide)
  · exact h3 i
theorem combine2_any (g lo hi : Nat) (i : Nat) (c : Nat) (a b : Int × Int) (p c' lo' hi' : Nat) (x y : Int) (w : World) (hP : RdS 2 (FlatR ptC) w lo hi (some ⟨g, i * 2, none⟩) 2 [a, b]) (hhi : hi ≤ w.heap.size) (hN : RdS 1 (FlatR intC) w lo' hi' (some ⟨p, 0, none⟩) 2 [x, y]) (hhi' : hi' ≤ w.heap.size)
    (ha : BdP a 549755813888) (hb : BdP b 549755813888) (hx : BdI x 64) (hy : BdI y 64) :
    Calls Try.prog 25 #[.slice (some ⟨g, i * 2, none⟩) 2 c, .slice (some ⟨p, 0, none⟩) 2 c'] w fun e w' => e = .returned (.agg #[.int .i64 (a.1 * x + b.1 * y), .int .i64 (a.2 * x + b.2 * y)]) ∧ Below w.heap.size w w' := by
  obtain ⟨_, p1⟩ := wmul (C := 35184372088832) ha.1 hx (by decide) (by decide)
  obtain ⟨_, p2⟩ := wmul (C := 35184372088832) ha.2 hx (by decide) (by decide)
  obtain ⟨_, p3⟩ := wmul (C := 35184372088832) hb.1 hy (by decide) (by decide)
  obtain ⟨_, p4⟩ := wmul (C := 35184372088832) hb.2 hy (by decide) (by decide)
  unfold BdI at p1 p2 p3 p4
  refine (combineN_any _ 2 c lo hi _ p 2 c' lo' hi' [x, y] w hP hhi hN hhi' (by omega) (by omega) (by omega) ?_ ?_).mono ?_
  · intro k hk
    rcases (show k = 0 ∨ k = 1 ∨ k = 2 by omega) with rfl | rfl | rfl
    all_goals
      simp [dotTo, ptAt, Sm]
      try omega
  · intro k hk
    rcases (show k = 0 ∨ k = 1 by omega) with rfl | rfl
    all_goals
      simp [ptAt, Sm]
      try omega
  · rintro e w' ⟨rfl, hb⟩
    refine ⟨?_, hb⟩
    simp [dotTo, ptAt]
theorem two_ints (w : World) (a b : Int) : RdS 1 (FlatR intC) (w.alloc (.cells #[.int .i64 a, .int .i64 b] 2 (0, 0))) w.heap.size (w.alloc (.cells #[.int .i64 a, .int .i64 b] 2 (0, 0))).heap.size (some ⟨w.heap.size, 0, none⟩) 2 [a, b] := by
  have h : (w.alloc (.cells #[.int .i64 a, .int .i64 b] 2 (0, 0))).ownsRow w.heap.size 2 1 (.slice (some ⟨w.heap.size, 0, none⟩) 2 2) 2 [.int .i64 a, .int .i64 b] := World.ownsRow_lit w #[.int .i64 a, .int .i64 b] 2 (Nat.le_refl _) (by decide) (by simp)
  exact rdS_own intC_len (by omega) h rfl
end Go.Proofs.Ytpmpbfkpiocleaa

/- The polar form of a cubic: the program's side, walked. Conditions: as each states. -/
namespace Go.Proofs.Ytpmpbfkpiocleaa
open Go.RowKit
set_option linter.unusedVariables false
set_option maxRecDepth 100000

set_option maxHeartbeats 16000000 in
theorem blossom_any (q : Cb) (hq : q.ok) (n t0 t1 t2 : Int) (tp c lo hi : Nat) (w : World) (hn : n ≤ 64) (h0 : 0 ≤ t0 ∧ t0 ≤ n) (h1 : 0 ≤ t1 ∧ t1 ≤ n) (h2 : 0 ≤ t2 ∧ t2 ≤ n) (hr : RdS 1 (FlatR intC) w lo hi (some ⟨tp, 0, none⟩) 3 [t0, t1, t2]) (hhi : hi ≤ w.heap.size) :
    Calls Try.prog 51 #[cbV q, .int .i64 n, .slice (some ⟨tp, 0, none⟩) 3 c] w fun e w' => e = .returned (.agg #[.int .i64 (bloC q.ax q.bx q.cx q.dx t0 t1 t2 n), .int .i64 (bloC q.ay q.b q.cy q.dy t0 t1 t2 n)]) ∧ Below w.heap.size w w' := by
  obtain ⟨t, ht⟩ : ∃ t : Nat → Int, t = fun j => [t0, t1, t2].getD j 0 := ⟨_, rfl⟩
  have htb : ∀ j, j < 3 → 0 ≤ t j ∧ t j ≤ n := by
    intro j hj
    rcases (show j = 0 ∨ j = 1 ∨ j = 2 by omega) with rfl | rfl | rfl
    · rw [ht]; exact h0
    · rw [ht]; exact h1
    · rw [ht]; exact h2
  have hbd := Lib.hid (fun j (hj : j ≤ 3) i => stg_bd hq hn htb hj i)
  have h3 := stg_three q n t
  have e0 : t 0 = t0 := by rw [ht]; rfl
  have e1 : t 1 = t1 := by rw [ht]; rfl
  have e2 : t 2 = t2 := by rw [ht]; rfl
  rw [e0, e1, e2] at h3
  have hpt := Lib.hid (fun W => cpoints_any q W)
  have hql : q.pts.length = 4 := rfl
  obtain ⟨S, hS⟩ : ∃ S : Nat → Nat → Int × Int, S = stg q n t := ⟨_, rfl⟩
  have hS0 : ptAt q.pts = S 0 := by rw [hS]; rfl
  have hSn : Hid (∀ j i, S (j + 1) i = mixP n (t j) (S j i) (S j (i + 1))) := Lib.hid fun j i => by rw [hS]; rfl
  rw [← hS] at hbd h3
  obtain ⟨L, hL⟩ : ∃ L, L = q.pts := ⟨_, rfl⟩
  rw [← hL] at hpt hql hS0
  obtain ⟨RX, hRX⟩ : ∃ x, x = bloC q.ax q.bx q.cx q.dx t0 t1 t2 n := ⟨_, rfl⟩
  obtain ⟨RY, hRY⟩ : ∃ x, x = bloC q.ay q.b q.cy q.dy t0 t1 t2 n := ⟨_, rfl⟩
  rw [← hRX, ← hRY] at h3 ⊢
  have hta : Hid (∀ j, j < 3 → w.cell? ⟨tp, j, none⟩ = some (.int .i64 (t j))) := by
    refine Lib.hid fun j hj => ?_
    obtain ⟨g, off, a, hA, _, _, hja, hcs⟩ := hr.at (j := j) hj
    injection hA with hA
    injection hA with x1 x2
    subst x1 x2
    have := hcs 0 _ rfl
    have e : a = t j := by rw [ht]; simp only [List.getD_eq_getElem?_getD, hja]; rfl
    subst e
    simpa using this
  have htl : tp < w.heap.size := by
    obtain ⟨g, off, a, hA, _, hg, _⟩ := hr.at (j := 0) (by omega)
    injection hA with hA
    injection hA with x1 x2
    omega
  replace htb := Lib.hid htb
  replace hS0 := Lib.hid hS0
  replace h3 := Lib.hid h3
  clear ht hS hL hRX hRY e0 e1 e2 h0 h1 h2 hr hq
  obtain ⟨ax, ay, bx, b, cx, cy, dx, dy⟩ := q
  simp only [cbV] at hpt ⊢
  have hb0 := Go.Joins.below_alloc2 w (.cells #[.int .i64 ax, .int .i64 ay, .int .i64 bx, .int .i64 b, .int .i64 cx, .int .i64 cy, .int .i64 dx, .int .i64 dy] 26 (0, 0)) (.cells #[.int .i64 0, .int .i64 0] 24 (0, 0))
  have hP0 := heap_new2 w (.cells #[.int .i64 ax, .int .i64 ay, .int .i64 bx, .int .i64 b, .int .i64 cx, .int .i64 cy, .int .i64 dx, .int .i64 dy] 26 (0, 0)) (.cells #[.int .i64 0, .int .i64 0] 24 (0, 0))
  have hz0 : ((w.alloc (.cells #[.int .i64 ax, .int .i64 ay, .int .i64 bx, .int .i64 b, .int .i64 cx, .int .i64 cy, .int .i64 dx, .int .i64 dy] 26 (0, 0))).alloc (.cells #[.int .i64 0, .int .i64 0] 24 (0, 0))).heap.size = w.heap.size + 2 := by simp
  go_enter Try.func51, Try.ntmps51
  go_upto_region 1 with fail
  generalize ((w.alloc (.cells #[.int .i64 ax, .int .i64 ay, .int .i64 bx, .int .i64 b, .int .i64 cx, .int .i64 cy, .int .i64 dx, .int .i64 dy] 26 (0, 0))).alloc (.cells #[.int .i64 0, .int .i64 0] 24 (0, 0))) = w0 at *
  have hC0 : CB w0 w.heap.size ax ay bx b cx cy dx dy := hP0.1
  have hR0 : Hid (PB w0 (w.heap.size + 1) 0 0) := hP0.2
  obtain ⟨⟨c0, c1, c2, c3, c4, c5, c6, c7⟩, _, cl⟩ := hC0.cells
  clear hP0 hC0
  go_wp2_with fail
  refine (hpt.out w0).mono ?_
  rintro e w1 ⟨g, rfl, hown, hb1⟩
  have hg0 : w0.heap.size ≤ g := own_at_base hown
  have hF := PtsF.own hown hql
  rw [hS0.out] at hF
  have hz1 := hb1.size
  have hB0 := Lib.hid hb0
  have hta0 : Hid (∀ W, Below w0.heap.size w0 W → ∀ j, j < 3 → W.cell? ⟨tp, j, none⟩ = some (.int .i64 (t j))) := Lib.hid fun W hW j hj => (hW.cell (p := ⟨tp, j, none⟩) (by show tp < _; omega)).trans ((hb0.cell (p := ⟨tp, j, none⟩) htl).trans (hta.out j hj))
  have hzw : w.heap.size + 2 ≤ w0.heap.size := by omega
  clear c0 c1 c2 c3 c4 c5 c6 c7 cl hown hb0 hpt hS0 hta
  replace hF := Lib.hid hF
  go_wp2_with fail
  go_loopw [7, 15] (fun pv iv wr => ∃ (j m : Nat) (f : Nat → Int × Int), iv = .int .i64 j ∧ m + j = 4 ∧ 1 ≤ m ∧ pv = .slice (some ⟨g, 0, none⟩) m 4 ∧ PtsF wr g f ∧ (∀ x, x + j < 4 → f x = S j x) ∧ Below w0.heap.size w0 wr) (fun pv iv wr => 3 - (intOf iv).toNat)
  case atStart => exact ⟨0, 4, S 0, rfl, rfl, by omega, rfl, hF.out, fun _ _ => rfl, hb1⟩
  case round =>
  obtain ⟨j, m, f, rfl, hmj, hm1, rfl, hf, hfs, hbel⟩ := hrel
  clear hF hb1
  generalize wr = xr at *
  have hzx := hbel.size
  by_cases hlt : j < 3
  · have hj1 : (j : Int) < 3 := by omega
    have hj2 : (0 : Int) ≤ (j : Int) ∧ (j : Int) < 3 := by omega
    have hk0 := hta0.out xr hbel j hlt
    have htlx : tp < xr.heap.size := by omega
    obtain ⟨ht0, ht1⟩ := htb.out j hlt
    obtain ⟨K, hK⟩ : ∃ k, k = t j := ⟨_, rfl⟩
    have hSj := Lib.hid (hSn.out j)
    rw [← hK] at hk0 ht0 ht1 hSj
    have q1 : IntKind.i64.wrap (n - K) = n - K := wi (by omega)
    replace hK := Lib.hid hK
    replace hf := Lib.hid hf
    replace hfs := Lib.hid hfs
    go_wp2_with fail
    go_loopw [10] (fun iv wr => ∃ (i : Nat) (f : Nat → Int × Int), iv = .int .i64 i ∧ i + 1 ≤ m ∧ PtsF wr g f ∧ (∀ x, x + j < 4 → f x = if x < i then S (j + 1) x else S j x) ∧ Below w0.heap.size w0 wr) (fun iv wr => m - (intOf iv).toNat)
    case atStart => exact ⟨0, f, rfl, hm1, hf.out, fun x hx => by rw [if_neg (by omega)]; exact hfs.out x hx, hbel⟩
    case round =>
    clear hf hfs hbel hzx htlx hk0 f
    obtain ⟨i, f, rfl, hi, hf, hfs, hbel⟩ := hrel
    generalize wr = yr at *
    have hzy := hbel.size
    obtain ⟨i1, hi1⟩ : ∃ i1, i1 = i + 1 := ⟨_, rfl⟩
    have q2 : IntKind.i64.wrap ((i : Int) + 1) = (i1 : Int) := by rw [wi (by omega)]; omega
    by_cases hin : i1 < m
    · have hi2 : (i1 : Int) < (m : Int) := by omega
      replace hi1 := Lib.hid hi1
      have hfi : f i = S j i := by rw [hfs i (by have := hi1.out; omega), if_neg (by omega)]
      have hfi1 : f (i + 1) = S j (i + 1) := by rw [hfs (i + 1) (by have := hi1.out; omega), if_neg (by omega)]
      have hi3 : i < 3 := by have := hi1.out; omega
      have hbi := hbd.out j (by omega) i
      have hbi1 := hbd.out j (by omega) (i + 1)
      have hSi := hSj.out i
      rw [← hfi] at hbi hSi
      rw [← hfi1] at hbi1 hSi
      have hzg := hf.2.2
      have htw : RdS 2 (FlatR ptC) (yr.alloc (.cells #[.int .i64 (n - K), .int .i64 K] 2 (0, 0))) g (g + 1) (some ⟨g, i * 2, none⟩) 2 [f i, f (i + 1)] := (hf.two (by omega)).frame (good_flat _) (Below.sameB (Go.Joins.below_alloc1 _ _) (by omega))
      have hcm := Lib.hid (combine2_any g g (g + 1) i (4 - i) (f i) (f (i + 1)) yr.heap.size 2 _ _ (n - K) K (yr.alloc (.cells #[.int .i64 (n - K), .int .i64 K] 2 (0, 0))) htw (by simp; omega) (two_ints yr (n - K) K) (Nat.le_refl _) hbi hbi1 ⟨by omega, by omega⟩ ⟨by omega, by omega⟩)
      obtain ⟨MX, hMX⟩ : ∃ x, x = (f i).1 * (n - K) + (f (i + 1)).1 * K := ⟨_, rfl⟩
      obtain ⟨MY, hMY⟩ : ∃ x, x = (f i).2 * (n - K) + (f (i + 1)).2 * K := ⟨_, rfl⟩
      have hmix : S (j + 1) i = (MX, MY) := by rw [hSi]; unfold mixP; rw [← hMX, ← hMY]
      rw [← hMX, ← hMY] at hcm
      replace hmix := Lib.hid hmix
      replace hfs := Lib.hid hfs
      replace hf := Lib.hid hf
      clear hfi hfi1 hbi hbi1 hSi htw hMX hMY
      have hg3 : 0 ≤ (i : Int) ∧ (i : Int) < (m : Int) := by omega
      go_wp2_with fail
      rw [show i + 2 - i = 2 by omega]
      refine hcm.out.mono ?_
      rintro e y1 ⟨rfl, hb2⟩
      have hb02 := (Go.Joins.below_alloc1 yr (.cells #[.int .i64 (n - K), .int .i64 K] 2 (0, 0))).trans (hb2.mono (Nat.le_of_lt (by simp)))
      have hf1 := hf.out.below hb02
      have hbel1 := hbel.trans (hb02.mono hzy)
      obtain ⟨p0, p1⟩ := hf1.1 i (by omega)
      have pf := hf1.2.1
      have pl := hf1.2.2
      replace hf1 := Lib.hid hf1
      clear hb2 hcm hb02
      go_wp2_with fail
      go_roundw
      case rel =>
        refine ⟨i1, _, by go_num, by have := hi1.out; omega, hf1.out.set i MX MY, fun x hx => ?_, (hbel1.setCell (p := ⟨g, i * 2, none⟩) hg0 _).setCell (p := ⟨g, i * 2 + 1, none⟩) hg0 _⟩
        have h1 := hi1.out
        by_cases hxi : x = i
        · subst hxi
          simp only [if_true]
          rw [if_pos (by omega), hmix.out]
        · simp only [hxi, if_false]
          rw [hfs.out x hx]
          by_cases hxl : x < i
          · rw [if_pos hxl, if_pos (by omega)]
          · rw [if_neg hxl, if_neg (by omega)]
      case measure => have := hi1.out; simp [intOf]; omega
    · have hi2 : ¬ (i1 : Int) < (m : Int) := by omega
      have him : i1 = m := by omega
      replace hi1 := Lib.hid hi1
      have q3 : IntKind.i64.wrap ((m : Int) - 1) = (i : Int) := by have := hi1.out; rw [wi (by omega)]; omega
      have hii : (0 : Int) ≤ (i : Int) ∧ (i : Int) ≤ 4 := by have := hi1.out; omega
      have q4 : IntKind.i64.wrap ((j : Int) + 1) = ((j + 1 : Nat) : Int) := by rw [wi (by omega)]; omega
      have hbm := Lib.hid him
      clear him
      replace hf := Lib.hid hf
      replace hfs := Lib.hid hfs
      go_wp2_with fail
      go_roundw
      case rel => exact ⟨j + 1, i, f, by go_num, by have := hi1.out; have := hbm.out; omega, by have := hi1.out; have := hbm.out; omega, by rfl, hf.out, fun x hx => by have := hi1.out; have := hbm.out; rw [hfs.out x (by omega), if_pos (by omega)], hbel⟩
      case measure => simp [intOf]; omega
  · have hj3 : j = 3 := by omega
    subst hj3
    have hm1' : m = 1 := by omega
    subst hm1'
    have hji : ¬ ((3 : Nat) : Int) < 3 := by omega
    have hf0 : f 0 = (RX, RY) := by rw [hfs 0 (by omega), h3.out]
    obtain ⟨p0, p1⟩ := hf.1 0 (by omega)
    rw [hf0] at p0 p1
    simp only [Nat.zero_mul, Nat.zero_add] at p0 p1
    have pl := hf.2.2
    have hRx := Lib.hid (hR0.out.below hbel)
    obtain ⟨r0, r1, rf, rl⟩ := hRx.out.cells
    have hBx := Lib.hid (hB0.out.trans (hbel.mono (by omega)))
    clear hf hfs hf0
    go_wp2_with fail
    refine bodyPost_ret (v := .agg #[.int .i64 RX, .int .i64 RY]) (by simp [results, Try.results51, go_sem, r0, r1]) rfl ⟨rfl, ?_⟩
    exact (hBx.out.setCell (p := ⟨w.heap.size + 1, 0, none⟩) (Nat.le_succ _) _).setCell (p := ⟨w.heap.size + 1, 1, none⟩) (Nat.le_succ _) _
end Go.Proofs.Ytpmpbfkpiocleaa

