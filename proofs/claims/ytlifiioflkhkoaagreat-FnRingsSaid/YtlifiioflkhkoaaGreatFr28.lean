/- Hot points: the program's side. Printed by mk_hp1.py. Conditions: as each states. -/
import Derived.Shelf.SlSortCmp.NoneTotal
import Derived.Test.YtlifiioflkhkoaaGreatFr27
import Derived.Test.YtlifiioflkhkoaaGreatFr15
import Derived.Test.YtlifiioflkhkoaaGreatFr16
namespace Go.Proofs.YtlifiioflkhkoaaGreat
open Go.RowKit
set_option linter.unusedVariables false
set_option maxRecDepth 100000
set_option linter.unusedSimpArgs false

def rawRow (e : Pnt × Pnt) (E : List (Pnt × Pnt)) (m : Nat) : List Pnt := (E.take m).filterMap fun f => if crossB e.1 e.2 f.1 f.2 = true then some (crossP e.1 e.2 f.1 f.2) else none
def rawTo (E : List (Pnt × Pnt)) (k : Nat) : List Pnt := (List.range k).flatMap fun i => match E[i]? with
  | some e => e.1 :: e.2 :: rawRow e E i
  | none => []
/-- the hot points of edges: their ends and where they cross, in order -/
def hotL (E : List (Pnt × Pnt)) : List Pnt := sortU (rawTo E E.length)
theorem rawRow_yes {e f : Pnt × Pnt} {E : List (Pnt × Pnt)} {m : Nat} (h : E[m]? = some f) (hx : crossB e.1 e.2 f.1 f.2 = true) : rawRow e E (m + 1) = rawRow e E m ++ [crossP e.1 e.2 f.1 f.2] := by
  unfold rawRow
  rw [List.take_add_one, h]
  simp [hx]
theorem rawRow_no {e f : Pnt × Pnt} {E : List (Pnt × Pnt)} {m : Nat} (h : E[m]? = some f) (hx : ¬ crossB e.1 e.2 f.1 f.2 = true) : rawRow e E (m + 1) = rawRow e E m := by
  unfold rawRow
  rw [List.take_add_one, h]
  simp [hx]
theorem rawRow_len (e : Pnt × Pnt) (E : List (Pnt × Pnt)) (m : Nat) : (rawRow e E m).length ≤ m := by
  unfold rawRow
  refine Nat.le_trans (List.length_filterMap_le _ _) ?_
  rw [List.length_take]; omega
theorem rawTo_next {e : Pnt × Pnt} {E : List (Pnt × Pnt)} {k : Nat} (h : E[k]? = some e) : rawTo E (k + 1) = rawTo E k ++ ([e.1, e.2] ++ rawRow e E k) := by
  unfold rawTo
  rw [List.range_succ, List.flatMap_append, List.flatMap_singleton, h]
  rfl
theorem rawTo_len (E : List (Pnt × Pnt)) : ∀ k, k ≤ E.length → (rawTo E k).length ≤ k * (E.length + 2)
  | 0, _ => by simp [rawTo]
  | k + 1, h => by
    have ih := rawTo_len E k (by omega)
    have hk : E[k]? = some E[k] := List.getElem?_eq_getElem (by omega)
    rw [rawTo_next hk, List.length_append, List.length_append]
    have := rawRow_len E[k] E k
    rw [Nat.succ_mul]
    simp only [List.length_cons, List.length_nil]
    omega
theorem rawTo_mem {E : List (Pnt × Pnt)} {k : Nat} {p : Pnt} (h : p ∈ rawTo E k) : ∃ e ∈ E, p = e.1 ∨ p = e.2 ∨ ∃ f ∈ E, crossB e.1 e.2 f.1 f.2 = true ∧ p = crossP e.1 e.2 f.1 f.2 := by
  unfold rawTo at h
  obtain ⟨i, hi, hp⟩ := List.mem_flatMap.1 h
  cases he : E[i]? with
  | none => rw [he] at hp; cases hp
  | some e =>
    rw [he] at hp
    have hm := List.mem_of_getElem? he
    refine ⟨e, hm, ?_⟩
    rcases List.mem_cons.1 hp with h1 | h1
    · exact .inl h1
    rcases List.mem_cons.1 h1 with h2 | h2
    · exact .inr (.inl h2)
    · unfold rawRow at h2
      obtain ⟨f, hf, hff⟩ := List.mem_filterMap.1 h2
      split at hff
      · rename_i hx
        injection hff with hff
        exact .inr (.inr ⟨f, List.mem_of_mem_take hf, hx, hff.symm⟩)
      · cases hff
theorem rawTo_ok {E : List (Pnt × Pnt)} (hok : EOk E) {k : Nat} : ∀ p ∈ rawTo E k, pt2Ok p = true := by
  intro p hp
  obtain ⟨e, he, h1 | h1 | ⟨f, hf, hx, h1⟩⟩ := rawTo_mem hp
  · rw [h1]; exact (hok e he).1
  · rw [h1]; exact (hok e he).2
  · rw [h1]; exact crossP_ok hx (hok e he).1 (hok e he).2
theorem hot_ends {E : List (Pnt × Pnt)} {e : Pnt × Pnt} (he : e ∈ E) : e.1 ∈ hotL E ∧ e.2 ∈ hotL E := by
  obtain ⟨i, hi⟩ := List.mem_iff_getElem?.1 he
  have hl := (List.getElem?_eq_some_iff.1 hi).1
  unfold hotL
  rw [sortU_mem, sortU_mem]
  unfold rawTo
  have hr : i ∈ List.range E.length := List.mem_range.2 hl
  exact ⟨List.mem_flatMap.2 ⟨i, hr, by rw [hi]; simp⟩, List.mem_flatMap.2 ⟨i, hr, by rw [hi]; simp⟩⟩

theorem src_two {w : World} {size b m : Nat} {cs : List Value} {t : TypeId} (hl : cs.length = m * size) (h1 : ∀ u ∈ cs, u.oneCell' = true) (hb : b = w.heap.size) : Src (w.alloc (.cells cs.toArray t)) size (some ⟨b, 0, none⟩) m cs := by
  subst hb
  exact ⟨hl, h1, fun _ => ⟨_, rfl, fun j u hu => by
    have : (⟨w.heap.size, 0, none⟩ : Addr).add j = ⟨w.heap.size, j, none⟩ := by unfold Addr.add; split <;> simp_all
    rw [this, cell_of_row _ _ _ _ _ _ (heap_alloc_new w _)]
    simpa using hu⟩⟩
theorem leg_cells {w : World} {b : Nat} {x y u v : Int} (h : w.heap[b]? = some (.cells #[.int .i64 x, .int .i64 y, .int .i64 u, .int .i64 v] 78 (0, 0))) : w.cell? ⟨b, 0, none⟩ = some (.int .i64 x) ∧ w.cell? ⟨b, 1, none⟩ = some (.int .i64 y) ∧ w.cell? ⟨b, 2, none⟩ = some (.int .i64 u) ∧ w.cell? ⟨b, 3, none⟩ = some (.int .i64 v) :=
  ⟨by rw [Go.Joins.cell_of_block h]; rfl, by rw [Go.Joins.cell_of_block h]; rfl, by rw [Go.Joins.cell_of_block h]; rfl, by rw [Go.Joins.cell_of_block h]; rfl⟩
theorem own_offT {w : World} {lo e size n X : Nat} {t : TypeId} {v : Value} {xs : List Value} {cs : Array Value} {fr : Nat × Nat} (h : w.ownsRow lo e size v n xs) (hX : w.heap[X]? = some (.cells cs t fr)) (hne : e ≠ t) : ∀ g, v.ownBlock = some g → g ≠ X := by
  intro g hg hgX
  subst hgX
  rcases h.2 with ⟨rfl, _⟩ | ⟨g', cap, cur, hv, _, hc, _⟩
  · simp [Value.ownBlock] at hg
  · subst hv
    simp [Value.ownBlock] at hg
    subst hg
    rw [hX] at hc
    injection hc with hc
    injection hc with _ hc
    exact hne hc.symm

set_option maxHeartbeats 1000000 in
theorem compactPt0_any (A : Option Addr) (cap : Nat) (w : World) : Calls Tryz.prog 94 #[.slice A 0 cap] w fun e w' => e = .returned (.slice A 0 cap) ∧ w' = w := by
  go_enter Tryz.func94, Tryz.ntmps94
  go_wp2_with fail
  go_ret
  exact ⟨rfl, rfl⟩
theorem sortPt0_any (A : Option Addr) (cap : Nat) (w : World) : Calls Tryz.prog 93 #[.slice A 0 cap, .func (.func 71) #[] #[]] w fun e w' => e = .returned (.tuple #[]) ∧ w' = w :=
  AnyF.slices_SortFunc_none { Tryz.sortPt with } A cap _ w

set_option maxHeartbeats 16000000 in
theorem hotPoints_any (A : Option Addr) (n c lo hi : Nat) (E : List (Pnt × Pnt)) (w : World) (hr : RdS 4 (FlatR edgeC) w lo hi A n E) (hz : A = none → c = 0) (hcap : n ≤ c) (hhi : hi ≤ w.heap.size) (hn : n ≤ 30) (hok : EOk E) :
    Calls Tryz.prog 79 #[.slice A n c] w fun e w' => ∃ (A' : Option Addr) (c' : Nat), e = .returned (.slice A' (hotL E).length c') ∧ w'.ownsRow w.heap.size 28 2 (.slice A' (hotL E).length c') (hotL E).length ((hotL E).flatMap ptC) ∧ Below w.heap.size w w' := by
  have hll := Lib.hid hr.1
  obtain ⟨H, hH⟩ : ∃ H, H = hotL E := ⟨_, rfl⟩
  rw [← hH]
  replace hH := Lib.hid hH
  replace hr := Lib.hid hr
  replace hok := Lib.hid hok
  go_enter Tryz.func79, Tryz.ntmps79
  go_wp2_with fail
  go_loopg [3, 12] n (fun kx s3 iv wr => ∃ (k q : Nat) (A1 : Option Addr) (c1 : Nat), iv = .int .i64 k ∧ s3 = .slice A1 q c1 ∧ k ≤ n ∧ n - k ≤ kx ∧ q ≤ 32 * k ∧ Hid (q = (rawTo E k).length) ∧ Hid (wr.ownsRow w.heap.size 28 2 (.slice A1 q c1) q ((rawTo E k).flatMap ptC)) ∧ Below w.heap.size w wr)
  case atStart => exact ⟨0, 0, none, 0, rfl, rfl, Nat.zero_le _, Nat.le_refl _, Nat.zero_le _, rfl, World.ownsRow_nil _ _ _ _, Below.refl _ _⟩
  case round =>
  obtain ⟨k, q, A1, c1, rfl, rfl, hk, hkx, hq9, hq, hown, hbel⟩ := hrel
  generalize wr = xr at *
  have hzx := hbel.size
  by_cases hlt : k < n
  rotate_left
  · have hki : ¬ (k : Int) < (n : Int) := by omega
    have hHr : Hid (H = sortU (rawTo E k)) := by
      show _ = _
      rw [hH.out, show k = E.length by have := hll.out; omega]; rfl
    have hbelH := Lib.hid hbel
    by_cases hq0 : q = 0
    · subst hq0
      have h0 : rawTo E k = [] := List.eq_nil_of_length_eq_zero hq.out.symm
      have hH0 : H = [] := by rw [hHr.out, h0]; rfl
      subst hH0
      have hs0 := Lib.hid (fun W => sortPt0_any A1 c1 W)
      have hc0 := Lib.hid (fun W => compactPt0_any A1 c1 W)
      have hown0 := hown.out
      rw [h0] at hown0
      replace hown0 := Lib.hid hown0
      clear hown hq h0 hbel hHr
      go_wp2_with fail
      refine (hs0.out _).mono ?_
      rintro e w1 ⟨rfl, rfl⟩
      go_wp2_with fail
      refine (hc0.out _).mono ?_
      rintro e w1 ⟨rfl, rfl⟩
      go_wp2_with fail
      go_ret
      exact ⟨A1, c1, rfl, hown0.out, hbelH.out⟩
    · obtain ⟨g, rfl, hgl⟩ := own_at hown.out (by omega)
      have hs0 := Lib.hid (sortPt_any g q c1 w.heap.size (rawTo E k) xr hown.out hq.out.symm (by omega) (rawTo_ok hok.out))
      replace hgl := Lib.hid hgl
      clear hbel
      go_wp2_with fail
      refine hs0.out.mono ?_
      rintro e w1 ⟨rfl, M, hM, hMw, ho1, hb1⟩
      have hMl : M.length = q := by rw [hM.length_eq]; exact hq.out.symm
      have hc0 := Lib.hid (compactPt_any g q c1 w.heap.size M w1 ho1 hMl (by omega))
      have hkp : keepL M q = H := by rw [hHr.out, ← keep_sortU hM hMw, hMl]
      rw [hkp] at hc0
      have hB1 := Lib.hid (hbelH.out.trans hb1)
      replace hkp := Lib.hid hkp
      replace hMl := Lib.hid hMl
      clear hs0 ho1 hM hMw hb1
      go_wp2_with fail
      refine hc0.out.mono ?_
      rintro e w2 ⟨rfl, ho2, hb2⟩
      replace ho2 := Lib.hid ho2
      replace hb2 := Lib.hid hb2
      go_wp2_with fail
      go_ret
      exact ⟨some ⟨g, 0, none⟩, c1, rfl, ho2.out, hB1.out.trans hb2.out⟩
  have hki : (k : Int) < (n : Int) := by omega
  obtain ⟨b, off, ax, ay, bx, ey, rfl, _, hb, hja, c0, c1', c2, c3⟩ := legAt (hr.out.frame (good_flat _) (Below.sameB hbel hhi)) hlt
  obtain ⟨ok1, ok2⟩ := hok.out _ (List.mem_of_getElem? hja)
  have hnx := Lib.hid (rawTo_next hja)
  have hbw : b < xr.heap.size := by omega
  have i1 : (0 : Int) ≤ (k : Int) ∧ (k : Int) < (n : Int) := by omega
  have i3 : (0 : Int) ≤ (k : Int) ∧ (k : Int) ≤ (c : Int) := by omega
  obtain ⟨e0, he0⟩ : ∃ e : Pnt × Pnt, e = ((ax, ay), (bx, ey)) := ⟨_, rfl⟩
  rw [← he0] at hnx hja
  replace he0 := Lib.hid he0
  replace hja := Lib.hid hja
  have hal := Go.Joins.below_alloc1 xr (.cells #[.int .i64 ax, .int .i64 ay, .int .i64 bx, .int .i64 ey] 78 (0, 0))
  have hbo := Lib.hid (heap_alloc_new xr (.cells #[.int .i64 ax, .int .i64 ay, .int .i64 bx, .int .i64 ey] 78 (0, 0)))
  have hza : (xr.alloc (.cells #[.int .i64 ax, .int .i64 ay, .int .i64 bx, .int .i64 ey] 78 (0, 0))).heap.size = xr.heap.size + 1 := by simp
  have hown1 := Lib.hid (own_below hown.out hal)
  have hb1 := Lib.hid (hbel.trans (hal.mono hzx))
  clear hbel hown
  go_upto_region 5 with fail
  clear c0 c1' c2 c3 hal
  generalize xr.alloc (.cells #[.int .i64 ax, .int .i64 ay, .int .i64 bx, .int .i64 ey] 78 (0, 0)) = w1 at *
  obtain ⟨Z, hZ⟩ : ∃ Z, Z = xr.heap.size := ⟨_, rfl⟩
  rw [← hZ] at hbo hza hzx hbw ⊢
  have hZ1 : Z < w1.heap.size := by omega
  have hz1 : w.heap.size ≤ w1.heap.size := by omega
  have hbw1 : b < w1.heap.size := by omega
  have z0 : w1.cell? ⟨Z, 0, none⟩ = some (.int .i64 ax) := by rw [Go.Joins.cell_of_block hbo.out]; rfl
  have z1 : w1.cell? ⟨Z, 1, none⟩ = some (.int .i64 ay) := by rw [Go.Joins.cell_of_block hbo.out]; rfl
  have z2 : w1.cell? ⟨Z, 2, none⟩ = some (.int .i64 bx) := by rw [Go.Joins.cell_of_block hbo.out]; rfl
  have z3 : w1.cell? ⟨Z, 3, none⟩ = some (.int .i64 ey) := by rw [Go.Joins.cell_of_block hbo.out]; rfl
  replace hZ := Lib.hid hZ
  clear hza
  go_upto_region 6 with (at_builtin; refine wpAppAt rfl (.tmp 17) (.tmp 22) elemPt rfl (v := .slice A1 q c1) (n := q) (xs := (rawTo E k).flatMap ptC) rfl (hown1.out.alloc _) rfl (src_two (m := 2) (cs := [.int .i64 ax, .int .i64 ay, .int .i64 bx, .int .i64 ey]) rfl (by simp [Value.oneCell']) (by simp)) (by omega) (by omega) (by simp; omega) (q + 2) rfl ?_; intro A3 c3 w2 ho2 hg2 hb2; replace ho2 := Lib.hid ho2; replace hb2 := Lib.hid hb2; replace hg2 := Lib.hid hg2)
  have hoff := own_offT hown1.out hbo.out (by decide)
  have hZ2 := Lib.hid (((hg2.out.block Z (by simp; omega) (fun e => hoff Z e.symm rfl)).trans (Below.heap_alloc _ _ _ hZ1)).trans hbo.out)
  have hB2 := Lib.hid ((hb1.out.alloc hz1 _).grown hg2.out (by simp; omega) (fun g hg => (hown1.out.lt g hg).1))
  have hzl2 : Z < w2.heap.size := by have := hg2.out.size; simp at this; omega
  have ho2' : Hid (w2.ownsRow w.heap.size 28 2 (.slice A3 (q + 2) c3) (q + 2) ((rawTo E k ++ ([e0.1, e0.2] ++ rawRow e0 E 0)).flatMap ptC)) := by
    show World.ownsRow _ _ _ _ _ _ _
    rw [List.flatMap_append, he0.out]
    exact ho2.out
  have hq2 : Hid (q + 2 = (rawTo E k ++ ([e0.1, e0.2] ++ rawRow e0 E 0)).length) := by
    show _ = _
    rw [List.length_append, ← hq.out]; rfl
  clear ho2 hg2 hb2 hoff hown1 hbo z0 z1 z2 z3
  go_wp2_with fail
  go_loopg [3, 28] k (fun ky s3 iv wr => ∃ (m q2 : Nat) (A4 : Option Addr) (c4 : Nat), iv = .int .i64 m ∧ s3 = .slice A4 q2 c4 ∧ m ≤ k ∧ k - m ≤ ky ∧ q2 ≤ q + 2 + m ∧ Hid (q2 = (rawTo E k ++ ([e0.1, e0.2] ++ rawRow e0 E m)).length) ∧ Hid (wr.ownsRow w.heap.size 28 2 (.slice A4 q2 c4) q2 ((rawTo E k ++ ([e0.1, e0.2] ++ rawRow e0 E m)).flatMap ptC)) ∧ Hid (wr.heap[Z]? = some (.cells #[.int .i64 ax, .int .i64 ay, .int .i64 bx, .int .i64 ey] 78 (0, 0))) ∧ Hid (Below w.heap.size w wr) ∧ Z < wr.heap.size)
  case atStart => exact ⟨0, q + 2, A3, c3, rfl, rfl, Nat.zero_le _, Nat.le_refl _, by omega, hq2, ho2', hZ2, hB2, hzl2⟩
  case round =>
  clear hq2 ho2' hZ2 hB2 hzl2
  obtain ⟨m, q2, A4, c4, rfl, rfl, hm, hky, hqm, hq2, hown, hZb, hbel, hZl⟩ := hrel
  generalize wr = yr at *
  have hzy := hbel.out.size
  by_cases hmk : m < k
  rotate_left
  · have hmi : ¬ (m : Int) < (k : Int) := by omega
    have hmk' : m = k := by omega
    have hfin : Hid (rawTo E (k + 1) = rawTo E k ++ ([e0.1, e0.2] ++ rawRow e0 E m)) := by show _ = _; rw [hnx.out, hmk']
    go_wp2_with fail
    go_roundg (n - (k + 1))
    case measure => omega
    case rel => exact ⟨k + 1, q2, A4, c4, by go_num, rfl, by omega, Nat.le_refl _, by omega, by rw [hfin.out]; exact hq2.out, by rw [hfin.out]; exact hown.out, hbel.out⟩
  have hmi : (m : Int) < (k : Int) := by omega
  have hfy := hbel.out
  obtain ⟨b', off', cx, cy, dx, dy, hbb, _, hb', hjf, d0, d1, d2, d3⟩ := legAt (hr.out.frame (good_flat _) (Below.sameB hbel.out hhi)) (show m < n by omega)
  injection hbb with hbb
  injection hbb with e1 e2
  subst e1 e2
  obtain ⟨ok3, ok4⟩ := hok.out _ (List.mem_of_getElem? hjf)
  have hyes := Lib.hid (fun h => rawRow_yes (e := e0) hjf h)
  have hno := Lib.hid (fun h => rawRow_no (e := e0) hjf h)
  rw [he0.out] at hyes hno
  rw [← he0.out] at hyes hno
  have hcM := Lib.hid (fun W => meeting_any (ax, ay) (bx, ey) (cx, cy) (dx, dy) W ok1 ok2 ok3 ok4)
  obtain ⟨p, hp⟩ : ∃ p, p = crossP (ax, ay) (bx, ey) (cx, cy) (dx, dy) := ⟨_, rfl⟩
  have hcX := Lib.hid (fun hx W => crossingP_any (ax, ay) (bx, ey) (cx, cy) (dx, dy) p hp W hx ok1 ok2 ok3 ok4)
  obtain ⟨px, py⟩ := p
  replace hp := Lib.hid hp
  replace hjf := Lib.hid hjf
  dsimp only at hcM hcX
  have hbwy : b < yr.heap.size := by omega
  have i2 : (0 : Int) ≤ (m : Int) ∧ (m : Int) < (k : Int) := by omega
  have hal := Go.Joins.below_alloc1 yr (.cells #[.int .i64 cx, .int .i64 cy, .int .i64 dx, .int .i64 dy] 78 (0, 0))
  have hbo := Lib.hid (heap_alloc_new yr (.cells #[.int .i64 cx, .int .i64 cy, .int .i64 dx, .int .i64 dy] 78 (0, 0)))
  have hza : (yr.alloc (.cells #[.int .i64 cx, .int .i64 cy, .int .i64 dx, .int .i64 dy] 78 (0, 0))).heap.size = yr.heap.size + 1 := by simp
  have hown1 := Lib.hid (own_below hown.out hal)
  have hb1 := Lib.hid (hbel.out.trans (hal.mono hzy))
  have hZ1' := Lib.hid ((hal.block Z hZl).trans hZb.out)
  clear hbel hown hfy hZb
  go_upto_region 9 with fail
  clear d0 d1 d2 d3 hal
  generalize yr.alloc (.cells #[.int .i64 cx, .int .i64 cy, .int .i64 dx, .int .i64 dy] 78 (0, 0)) = w3 at *
  obtain ⟨Y, hY⟩ : ∃ Y, Y = yr.heap.size := ⟨_, rfl⟩
  rw [← hY] at hbo hza hzy hbwy hZl ⊢
  have hY3 : Y < w3.heap.size := by omega
  have hZ3 : Z < w3.heap.size := by omega
  have hz3 : w.heap.size ≤ w3.heap.size := by omega
  replace hY := Lib.hid hY
  clear hza
  obtain ⟨z0, z1, z2, z3⟩ := leg_cells hZ1'.out
  obtain ⟨y0, y1, y2, y3⟩ := leg_cells hbo.out
  go_wp2_with fail
  refine (hcM.out _).mono ?_
  rintro e w4 ⟨kk, ⟨mx, my⟩, rfl, hkk, hb4⟩
  clear z0 z1 z2 z3 y0 y1 y2 y3
  have hZ4 := Lib.hid ((hb4.block Z hZ3).trans hZ1'.out)
  have hY4 := Lib.hid ((hb4.block Y hY3).trans hbo.out)
  have hown4 := Lib.hid (own_below hown1.out hb4)
  have hB4 := Lib.hid (hb1.out.trans (hb4.mono hz3))
  have hz4 := hb4.size
  have hZl4 : Z < w4.heap.size := by omega
  have hYl4 : Y < w4.heap.size := by omega
  have hzw4 : w.heap.size ≤ w4.heap.size := by omega
  dsimp only
  clear hb4 hcM
  by_cases hx : crossB (ax, ay) (bx, ey) (cx, cy) (dx, dy) = true
  rotate_left
  · have hk2 : (kk == 2) = false := by simp; exact fun h => hx (hkk.1 h)
    have hnn := Lib.hid (hno.out (by rw [he0.out]; exact hx))
    replace hkk := Lib.hid hkk
    replace hx := Lib.hid hx
    go_wp2_with fail
    go_roundg (k - (m + 1))
    case measure => omega
    case rel => exact ⟨m + 1, q2, A4, c4, by go_num, rfl, by omega, Nat.le_refl _, by omega, by rw [hnn.out]; exact hq2.out, by rw [hnn.out]; exact hown4.out.alloc _, (Below.heap_alloc _ _ _ hZl4).trans hZ4.out, hB4.out.alloc hzw4 _, by simp; omega⟩
  have hk2 : kk = 2 := hkk.2 hx
  subst hk2
  have hnn := Lib.hid (hyes.out (by rw [he0.out]; exact hx))
  have hcX' := Lib.hid (hcX.out hx)
  replace hkk := Lib.hid hkk
  replace hx := Lib.hid hx
  have hal5 := Go.Joins.below_alloc1 w4 (.cells #[.int .i64 mx, .int .i64 my] 28 (0, 0))
  have hZ5 := Lib.hid ((hal5.block Z hZl4).trans hZ4.out)
  have hY5 := Lib.hid ((hal5.block Y hYl4).trans hY4.out)
  have hown5 := Lib.hid (own_below hown4.out hal5)
  have hB5 := Lib.hid (hB4.out.trans (hal5.mono hzw4))
  have hz5 : (w4.alloc (.cells #[.int .i64 mx, .int .i64 my] 28 (0, 0))).heap.size = w4.heap.size + 1 := by simp
  clear hal5
  go_upto_region 11 with fail
  generalize w4.alloc (.cells #[.int .i64 mx, .int .i64 my] 28 (0, 0)) = w5 at *
  obtain ⟨z0, z1, z2, z3⟩ := leg_cells hZ5.out
  obtain ⟨y0, y1, y2, y3⟩ := leg_cells hY5.out
  have hZl5 : Z < w5.heap.size := by omega
  have hYl5 : Y < w5.heap.size := by omega
  have hzw5 : w.heap.size ≤ w5.heap.size := by omega
  clear hZ4 hY4 hown4 hB4 hz4 hzw4
  go_wp2_with (first | (go_at_call 92; refine (hcX'.out _).mono ?_; rintro e w6 ⟨rfl, hb6⟩; have hown6 := Lib.hid (own_below hown5.out hb6); have hZ6 := Lib.hid ((hb6.block Z hZl5).trans hZ5.out); have hB6 := Lib.hid (hB5.out.trans (hb6.mono hzw5)); have hz6 := hb6.size; have hzw6 : w.heap.size ≤ w6.heap.size := (by omega); have hZl6 : Z < w6.heap.size := (by omega); clear hb6; dsimp only) | (at_builtin; refine wpAppAt rfl (.tmp 46) (.tmp 56) elemPt rfl (v := .slice A4 q2 c4) (n := q2) (xs := (rawTo E k ++ ([e0.1, e0.2] ++ rawRow e0 E m)).flatMap ptC) rfl (hown6.out.alloc _) rfl (src_at (cs := [.int .i64 px, .int .i64 py]) rfl (by simp [Value.oneCell']) rfl) (by omega) (by omega) (by simp; omega) (q2 + 1) rfl ?_; intro A7 c7 w7 ho7 hg7 _; replace ho7 := Lib.hid ho7; replace hg7 := Lib.hid hg7))
  have hoff := own_offT hown6.out hZ6.out (by decide)
  have hZ7 := Lib.hid (((hg7.out.block Z (by simp; omega) (fun e => hoff Z e.symm rfl)).trans (Below.heap_alloc _ _ _ hZl6)).trans hZ6.out)
  have hB7 := Lib.hid ((hB6.out.alloc hzw6 _).grown hg7.out (by simp; omega) (fun g hg => (hown6.out.lt g hg).1))
  have hrow : rawTo E k ++ ([e0.1, e0.2] ++ rawRow e0 E (m + 1)) = (rawTo E k ++ ([e0.1, e0.2] ++ rawRow e0 E m)) ++ [(px, py)] := by
    rw [hnn.out, he0.out, hp.out]; simp
  go_roundg (k - (m + 1))
  case measure => omega
  case rel => exact ⟨m + 1, q2 + 1, A7, c7, by go_num, rfl, by omega, Nat.le_refl _, by omega, by rw [hrow, List.length_append, ← hq2.out]; rfl, by rw [hrow, List.flatMap_append]; exact ho7.out, hZ7.out, hB7.out, by have := hg7.out.size; simp at this; omega⟩
end Go.Proofs.YtlifiioflkhkoaaGreat

/- The way of a segment through hot points: the numbers alone (rational numbers). Conditions: as each states. -/
namespace Go.Proofs.YtlifiioflkhkoaaGreat
set_option linter.unusedVariables false
set_option maxRecDepth 100000

abbrev Bnd := Int × Int × Bool
def cmpB (x y : Bnd) : Int := sgnI (x.1 * y.2.1 - y.1 * x.2.1)
def enterB (f d l : Int) : Bnd := if d < 0 then (f - l - 2, -d, false) else (l - f, d, true)
def leaveB (f d l : Int) : Bnd := if d < 0 then (f - l, -d, true) else (l + 2 - f, d, false)
def maxB (w e : Bnd) : Bnd := if (decide (0 < cmpB e w) || (decide (cmpB e w = 0) && !e.2.2)) = true then e else w
def minB (w e : Bnd) : Bnd := if (decide (cmpB e w < 0) || (decide (cmpB e w = 0) && !e.2.2)) = true then e else w
def openB (lo hi : Bnd) : Bool := decide (cmpB lo hi < 0) || (decide (cmpB lo hi = 0) && lo.2.2 && hi.2.2)
def clipF (w : Bnd × Bnd) (f d l : Int) : (Bnd × Bnd) × Bool :=
  if d = 0 then (w, decide (l ≤ f) && decide (f < l + 2)) else ((maxB w.1 (enterB f d l), minB w.2 (leaveB f d l)), openB (maxB w.1 (enterB f d l)) (minB w.2 (leaveB f d l)))
def unitB : Bnd × Bnd := ((0, 1, true), (1, 1, true))
def walkF (a b p : Pnt) : (Bnd × Bnd) × Bool :=
  if (clipF unitB (2 * a.1) (2 * (b.1 - a.1)) (2 * p.1 - 1)).2 = true then clipF (clipF unitB (2 * a.1) (2 * (b.1 - a.1)) (2 * p.1 - 1)).1 (2 * a.2) (2 * (b.2 - a.2)) (2 * p.2 - 1)
  else ((clipF unitB (2 * a.1) (2 * (b.1 - a.1)) (2 * p.1 - 1)).1, false)

/-! ### as rational numbers -/
def valB (x : Bnd) : Rat := (x.1 : Rat) / (x.2.1 : Rat)
def posB (x : Bnd) : Prop := 0 < x.2.1
def abv (x : Bnd) (t : Rat) : Prop := valB x < t ∨ valB x = t ∧ x.2.2 = true
def blw (x : Bnd) (t : Rat) : Prop := t < valB x ∨ t = valB x ∧ x.2.2 = true
def slab (f d l : Int) (t : Rat) : Prop := (l : Rat) ≤ f + t * d ∧ (f : Rat) + t * d < l + 2
theorem cast_pos {d : Int} (h : 0 < d) : (0 : Rat) < (d : Rat) := by
  have := Rat.intCast_lt_intCast.2 h
  simpa using this
theorem val_lt {x y : Bnd} (hx : posB x) (hy : posB y) : valB x < valB y ↔ x.1 * y.2.1 < y.1 * x.2.1 := by
  unfold valB
  have h1 := cast_pos hx
  have h2 := cast_pos hy
  rw [Rat.div_lt_iff h1, ← Rat.intCast_lt_intCast, Rat.intCast_mul, Rat.intCast_mul]
  rw [← Rat.mul_lt_mul_right (c := (y.2.1 : Rat)) h2]
  have h3 : (y.1 : Rat) / (y.2.1 : Rat) * (x.2.1 : Rat) * (y.2.1 : Rat) = (y.1 : Rat) * (x.2.1 : Rat) := by grind
  rw [h3]
theorem sgn_neg {n : Int} : sgnI n < 0 ↔ n < 0 := by unfold sgnI; split <;> (try split) <;> omega
theorem sgn_pos {n : Int} : 0 < sgnI n ↔ 0 < n := by unfold sgnI; split <;> (try split) <;> omega
theorem sgn_zero {n : Int} : sgnI n = 0 ↔ n = 0 := by unfold sgnI; split <;> (try split) <;> omega
theorem cmp_lt {x y : Bnd} (hx : posB x) (hy : posB y) : cmpB x y < 0 ↔ valB x < valB y := by
  rw [val_lt hx hy, cmpB, sgn_neg]; omega
theorem cmp_gt {x y : Bnd} (hx : posB x) (hy : posB y) : 0 < cmpB x y ↔ valB y < valB x := by
  rw [val_lt hy hx, cmpB, sgn_pos]; omega
theorem cmp_eq {x y : Bnd} (hx : posB x) (hy : posB y) : cmpB x y = 0 ↔ valB x = valB y := by
  have h1 := val_lt hx hy
  have h2 := val_lt hy hx
  rw [cmpB, sgn_zero]
  constructor
  · intro h
    have a1 : ¬ valB x < valB y := by rw [h1]; omega
    have a2 : ¬ valB y < valB x := by rw [h2]; omega
    grind
  · intro h
    have a1 : ¬ valB x < valB y := by rw [h]; grind
    have a2 : ¬ valB y < valB x := by rw [h]; grind
    rw [h1] at a1; rw [h2] at a2
    omega
theorem bool_cases {p q : Prop} [Decidable p] [Decidable q] {c : Bool} : (decide p || (decide q && !c)) = true ↔ p ∨ q ∧ c = false := by simp
theorem max_pos {w e : Bnd} (hw : posB w) (he : posB e) : posB (maxB w e) := by unfold maxB; split <;> assumption
theorem min_pos {w e : Bnd} (hw : posB w) (he : posB e) : posB (minB w e) := by unfold minB; split <;> assumption
theorem max_abv {w e : Bnd} (hw : posB w) (he : posB e) (t : Rat) : abv (maxB w e) t ↔ abv w t ∧ abv e t := by
  unfold maxB
  split
  · rename_i h
    rw [bool_cases, cmp_gt he hw, cmp_eq he hw] at h
    unfold abv; grind
  · rename_i h
    rw [bool_cases, cmp_gt he hw, cmp_eq he hw] at h
    unfold abv; grind
theorem min_blw {w e : Bnd} (hw : posB w) (he : posB e) (t : Rat) : blw (minB w e) t ↔ blw w t ∧ blw e t := by
  unfold minB
  split
  · rename_i h
    rw [bool_cases, cmp_lt he hw, cmp_eq he hw] at h
    unfold blw; grind
  · rename_i h
    rw [bool_cases, cmp_lt he hw, cmp_eq he hw] at h
    unfold blw; grind
theorem open_iff {lo hi : Bnd} (h1 : posB lo) (h2 : posB hi) : openB lo hi = true ↔ valB lo < valB hi ∨ valB lo = valB hi ∧ lo.2.2 = true ∧ hi.2.2 = true := by
  unfold openB
  have e1 := cmp_lt h1 h2
  have e2 := cmp_eq h1 h2
  simp only [Bool.or_eq_true, Bool.and_eq_true, decide_eq_true_eq, and_assoc]
  rw [e1, e2]
theorem open_of {lo hi : Bnd} (h1 : posB lo) (h2 : posB hi) {t : Rat} (ha : abv lo t) (hb : blw hi t) : openB lo hi = true := by
  rw [open_iff h1 h2]
  unfold abv at ha; unfold blw at hb
  grind
theorem open_pick {lo hi : Bnd} (h1 : posB lo) (h2 : posB hi) (h : openB lo hi = true) : ∃ t, abv lo t ∧ blw hi t := by
  rw [open_iff h1 h2] at h
  rcases h with h | ⟨h, h3, h4⟩
  · exact ⟨(valB lo + valB hi) / 2, .inl (by grind), .inl (by grind)⟩
  · exact ⟨valB lo, .inr ⟨rfl, h3⟩, .inr ⟨h, h4⟩⟩
theorem enter_pos {f d l : Int} (hd : d ≠ 0) : posB (enterB f d l) := by unfold enterB posB; split <;> simp only <;> omega
theorem leave_pos {f d l : Int} (hd : d ≠ 0) : posB (leaveB f d l) := by unfold leaveB posB; split <;> simp only <;> omega
theorem div_lt_c {n d : Int} (hd : 0 < d) (t : Rat) : (n : Rat) / (d : Rat) < t ↔ (n : Rat) < t * d := Rat.div_lt_iff (cast_pos hd)
theorem div_eq_c {n d : Int} (hd : 0 < d) (t : Rat) : (n : Rat) / (d : Rat) = t ↔ (n : Rat) = t * d := by
  have := cast_pos hd
  constructor
  · intro h; rw [← h]; grind
  · intro h; rw [h]; grind
theorem lt_div_c {n d : Int} (hd : 0 < d) (t : Rat) : t < (n : Rat) / (d : Rat) ↔ t * d < (n : Rat) := Rat.lt_div_iff (cast_pos hd)
theorem enter_abv {f d l : Int} (hd : d ≠ 0) (t : Rat) : abv (enterB f d l) t ↔ if d < 0 then (f : Rat) + t * d < l + 2 else (l : Rat) ≤ f + t * d := by
  unfold enterB abv valB
  split
  · rename_i h
    simp only [Bool.false_eq_true, and_false, or_false]
    rw [div_lt_c (by omega)]
    simp only [Rat.intCast_sub, Rat.intCast_neg]
    constructor <;> intro h <;> grind
  · rename_i h
    simp only [and_true]
    rw [div_lt_c (by omega), div_eq_c (by omega)]
    simp only [Rat.intCast_sub]
    constructor <;> intro h <;> grind
theorem leave_blw {f d l : Int} (hd : d ≠ 0) (t : Rat) : blw (leaveB f d l) t ↔ if d < 0 then (l : Rat) ≤ f + t * d else (f : Rat) + t * d < l + 2 := by
  unfold leaveB blw valB
  split
  · rename_i h
    simp only [and_true]
    rw [lt_div_c (by omega), eq_comm, div_eq_c (by omega)]
    simp only [Rat.intCast_sub, Rat.intCast_neg]
    constructor <;> intro h <;> grind
  · rename_i h
    simp only [Bool.false_eq_true, and_false, or_false]
    rw [lt_div_c (by omega)]
    simp only [Rat.intCast_sub, Rat.intCast_add]
    constructor <;> intro h <;> grind
theorem slab_iff {f d l : Int} (hd : d ≠ 0) (t : Rat) : slab f d l t ↔ abv (enterB f d l) t ∧ blw (leaveB f d l) t := by
  rw [enter_abv hd, leave_blw hd]
  unfold slab
  split <;> grind
theorem slab_zero {f l : Int} (t : Rat) : slab f 0 l t ↔ l ≤ f ∧ f < l + 2 := by
  unfold slab
  rw [← Rat.intCast_le_intCast, ← Rat.intCast_lt_intCast (b := l + 2)]
  simp [Rat.add_zero]
structure IvB (w : Bnd × Bnd) : Prop where
  p1 : posB w.1
  p2 : posB w.2
  op : openB w.1 w.2 = true
def inB2 (w : Bnd × Bnd) (t : Rat) : Prop := abv w.1 t ∧ blw w.2 t
theorem clip_yes {w : Bnd × Bnd} {f d l : Int} (hw : IvB w) (h : (clipF w f d l).2 = true) : IvB (clipF w f d l).1 ∧ ∀ t, inB2 (clipF w f d l).1 t ↔ inB2 w t ∧ slab f d l t := by
  unfold clipF at h ⊢
  by_cases hd : d = 0
  · subst hd
    simp only [if_true] at h ⊢
    refine ⟨hw, fun t => ?_⟩
    rw [slab_zero]
    simp only [Bool.and_eq_true, decide_eq_true_eq] at h
    exact ⟨fun a => ⟨a, h⟩, fun a => a.1⟩
  · simp only [if_neg hd] at h ⊢
    refine ⟨⟨max_pos hw.p1 (enter_pos hd), min_pos hw.p2 (leave_pos hd), h⟩, fun t => ?_⟩
    unfold inB2
    rw [max_abv hw.p1 (enter_pos hd), min_blw hw.p2 (leave_pos hd), slab_iff hd]
    grind
theorem clip_of {w : Bnd × Bnd} {f d l : Int} (hw : IvB w) {t : Rat} (h : inB2 w t) (hs : slab f d l t) : (clipF w f d l).2 = true := by
  unfold clipF
  by_cases hd : d = 0
  · subst hd
    simp only [if_true]
    rw [slab_zero] at hs
    simp [hs]
  · simp only [if_neg hd]
    refine open_of (max_pos hw.p1 (enter_pos hd)) (min_pos hw.p2 (leave_pos hd)) (t := t) ?_ ?_
    · rw [max_abv hw.p1 (enter_pos hd)]
      exact ⟨h.1, ((slab_iff hd t).1 hs).1⟩
    · rw [min_blw hw.p2 (leave_pos hd)]
      exact ⟨h.2, ((slab_iff hd t).1 hs).2⟩
theorem val0 : valB (0, 1, true) = 0 := by unfold valB; grind
theorem val1 : valB (1, 1, true) = 1 := by unfold valB; grind
theorem unit_iv : IvB unitB := ⟨by unfold posB unitB; decide, by unfold posB unitB; decide, by decide⟩
theorem unit_in (t : Rat) : inB2 unitB t ↔ 0 ≤ t ∧ t ≤ 1 := by
  unfold inB2 abv blw unitB
  simp only [val0, val1, and_true]
  grind
/-- a place of a segment lies in the pixel of a point -/
def inP (a b p : Pnt) (t : Rat) : Prop := (0 ≤ t ∧ t ≤ 1) ∧ slab (2 * a.1) (2 * (b.1 - a.1)) (2 * p.1 - 1) t ∧ slab (2 * a.2) (2 * (b.2 - a.2)) (2 * p.2 - 1) t
theorem walk_yes {a b p : Pnt} (h : (walkF a b p).2 = true) : IvB (walkF a b p).1 ∧ ∀ t, inB2 (walkF a b p).1 t ↔ inP a b p t := by
  unfold walkF at h ⊢
  by_cases hc : (clipF unitB (2 * a.1) (2 * (b.1 - a.1)) (2 * p.1 - 1)).2 = true
  · simp only [if_pos hc] at h ⊢
    obtain ⟨h1, h2⟩ := clip_yes unit_iv hc
    obtain ⟨h3, h4⟩ := clip_yes h1 h
    refine ⟨h3, fun t => ?_⟩
    rw [h4, h2, unit_in]
    unfold inP
    grind
  · rw [if_neg hc] at h
    cases h
theorem walk_of {a b p : Pnt} {t : Rat} (h : inP a b p t) : (walkF a b p).2 = true := by
  obtain ⟨h0, h1, h2⟩ := h
  have hc := clip_of unit_iv ((unit_in t).2 h0) h1
  unfold walkF
  rw [if_pos hc]
  obtain ⟨h3, h4⟩ := clip_yes unit_iv hc
  exact clip_of h3 ((h4 t).2 ⟨(unit_in t).2 h0, h1⟩) h2
theorem slab_conv {f d l : Int} {s t u : Rat} (h1 : slab f d l s) (h2 : slab f d l u) (h3 : s ≤ t) (h4 : t ≤ u) : slab f d l t := by
  unfold slab at *
  by_cases hd : (0 : Rat) ≤ (d : Rat)
  · have a1 := Rat.mul_le_mul_of_nonneg_right h3 hd
    have a2 := Rat.mul_le_mul_of_nonneg_right h4 hd
    grind
  · have hd' : (0 : Rat) ≤ -(d : Rat) := by grind
    have a1 := Rat.mul_le_mul_of_nonneg_right h3 hd'
    have a2 := Rat.mul_le_mul_of_nonneg_right h4 hd'
    grind
theorem inP_conv {a b p : Pnt} {s t u : Rat} (h1 : inP a b p s) (h2 : inP a b p u) (h3 : s ≤ t) (h4 : t ≤ u) : inP a b p t :=
  ⟨⟨by have := h1.1; grind, by have := h2.1; grind⟩, slab_conv h1.2.1 h2.2.1 h3 h4, slab_conv h1.2.2 h2.2.2 h3 h4⟩
theorem slab_one {f d p q : Int} {t : Rat} (h1 : slab f d (2 * p - 1) t) (h2 : slab f d (2 * q - 1) t) : p = q := by
  unfold slab at *
  have a1 : ((2 * p - 1 : Int) : Rat) < ((2 * q - 1 : Int) : Rat) + 2 := by grind
  have a2 : ((2 * q - 1 : Int) : Rat) < ((2 * p - 1 : Int) : Rat) + 2 := by grind
  have b1 : (2 * p - 1 : Int) < (2 * q - 1) + 2 := by
    rw [← Rat.intCast_lt_intCast, Rat.intCast_add]; exact a1
  have b2 : (2 * q - 1 : Int) < (2 * p - 1) + 2 := by
    rw [← Rat.intCast_lt_intCast, Rat.intCast_add]; exact a2
  omega
theorem inP_one {a b p q : Pnt} {t : Rat} (h1 : inP a b p t) (h2 : inP a b q t) : p = q :=
  Prod.ext (slab_one h1.2.1 h2.2.1) (slab_one h1.2.2 h2.2.2)
theorem inP_start (a b : Pnt) : inP a b a 0 := by
  refine ⟨⟨by grind, by grind⟩, ?_, ?_⟩ <;> (unfold slab; simp only [Rat.intCast_sub, Rat.intCast_mul]; constructor <;> grind)
theorem inP_end (a b : Pnt) : inP a b b 1 := by
  refine ⟨⟨by grind, by grind⟩, ?_, ?_⟩ <;> (unfold slab; simp only [Rat.intCast_sub, Rat.intCast_mul]; constructor <;> grind)
/-! ### the order of ways -/
def cmpW (x y : Bnd) : Int := if cmpB x y ≠ 0 then cmpB x y else if (x.2.2 && !y.2.2) = true then -1 else if (!x.2.2 && y.2.2) = true then 1 else 0
theorem cmpW_neg {x y : Bnd} (hx : posB x) (hy : posB y) : cmpW x y < 0 ↔ valB x < valB y ∨ valB x = valB y ∧ x.2.2 = true ∧ y.2.2 = false := by
  have e1 := cmp_lt hx hy
  have e2 := cmp_eq hx hy
  unfold cmpW
  by_cases h : cmpB x y = 0
  · rw [if_neg (by omega)]
    have h1 := e2.1 h
    cases hc : x.2.2 <;> cases hd : y.2.2 <;> simp <;> grind
  · rw [if_pos h, e1]
    have h1 : valB x ≠ valB y := fun h' => h (e2.2 h')
    grind
theorem key_sep {a b p q : Pnt} (hp : (walkF a b p).2 = true) (hq : (walkF a b q).2 = true) (hne : p ≠ q) {s t : Rat} (h1 : inP a b p s) (h2 : inP a b q t) (hlt : s < t) : cmpW (walkF a b p).1.1 (walkF a b q).1.1 < 0 := by
  obtain ⟨ip, sp⟩ := walk_yes hp
  obtain ⟨iq, sq⟩ := walk_yes hq
  have hall : ∀ u, inP a b q u → s < u := by
    intro u hu
    have hns : ¬ u ≤ s := fun hle => hne (inP_one h1 (inP_conv hu h2 hle (by grind)))
    grind
  rw [cmpW_neg ip.p1 iq.p1]
  have hls : abv (walkF a b p).1.1 s := ((sp s).2 h1).1
  generalize (walkF a b p).1 = wp at *
  generalize (walkF a b q).1 = wq at *
  have ho := (open_iff iq.p1 iq.p2).1 iq.op
  cases hc : wq.1.2.2 with
  | true =>
    have hin : inP a b q (valB wq.1) := (sq _).1 ⟨.inr ⟨rfl, hc⟩, by unfold blw; grind⟩
    have := hall _ hin
    unfold abv at hls
    grind
  | false =>
    have hsw : s ≤ valB wq.1 := by
      by_cases hh : valB wq.1 < s
      · exfalso
        have hlo : valB wq.1 < valB wq.2 := by grind
        by_cases hm : (valB wq.1 + valB wq.2) / 2 ≤ s
        · have := hall _ ((sq _).1 ⟨.inl (by grind), .inl (by grind)⟩ : inP a b q ((valB wq.1 + valB wq.2) / 2))
          grind
        · have := hall _ ((sq _).1 ⟨.inl (by grind), .inl (by grind)⟩ : inP a b q ((valB wq.1 + s) / 2))
          grind
      · grind
    unfold abv at hls
    grind
theorem key_total {a b p q : Pnt} (hp : (walkF a b p).2 = true) (hq : (walkF a b q).2 = true) (hne : p ≠ q) : cmpW (walkF a b p).1.1 (walkF a b q).1.1 < 0 ∨ cmpW (walkF a b q).1.1 (walkF a b p).1.1 < 0 := by
  obtain ⟨ip, sp⟩ := walk_yes hp
  obtain ⟨iq, sq⟩ := walk_yes hq
  obtain ⟨s, hs⟩ := open_pick ip.p1 ip.p2 ip.op
  obtain ⟨t, ht⟩ := open_pick iq.p1 iq.p2 iq.op
  replace hs := (sp s).1 hs
  replace ht := (sq t).1 ht
  by_cases h : s < t
  · exact .inl (key_sep hp hq hne hs ht h)
  · by_cases h' : t < s
    · exact .inr (key_sep hq hp (Ne.symm hne) ht hs h')
    · have : s = t := by grind
      subst this
      exact absurd (inP_one hs ht) hne
theorem key_first {a b p : Pnt} (hp : (walkF a b p).2 = true) (hne : p ≠ a) : cmpW (walkF a b a).1.1 (walkF a b p).1.1 < 0 := by
  obtain ⟨ip, sp⟩ := walk_yes hp
  obtain ⟨s, hs⟩ := open_pick ip.p1 ip.p2 ip.op
  replace hs := (sp s).1 hs
  refine key_sep (walk_of (inP_start a b)) hp (Ne.symm hne) (inP_start a b) hs ?_
  have h0 := hs.1.1
  by_cases h : s = 0
  · subst h; exact absurd (inP_one hs (inP_start a b)) hne
  · grind
theorem key_last {a b p : Pnt} (hp : (walkF a b p).2 = true) (hne : p ≠ b) : cmpW (walkF a b p).1.1 (walkF a b b).1.1 < 0 := by
  obtain ⟨ip, sp⟩ := walk_yes hp
  obtain ⟨s, hs⟩ := open_pick ip.p1 ip.p2 ip.op
  replace hs := (sp s).1 hs
  refine key_sep hp (walk_of (inP_end a b)) hne hs (inP_end a b) ?_
  have h0 := hs.1.2
  by_cases h : s = 1
  · subst h; exact absurd (inP_one hs (inP_end a b)) hne
  · grind
end Go.Proofs.YtlifiioflkhkoaaGreat

