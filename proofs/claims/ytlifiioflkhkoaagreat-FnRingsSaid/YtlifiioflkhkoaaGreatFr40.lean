/- Border edges: the program's side. Printed by mk_be1.py. Conditions: as each states. -/
import Derived.BigQuiet
import Derived.Lib.QuietBelow
import Derived.Maps.OwnRows
import Derived.Maps.Views
import Derived.WideKeyEntry
import Derived.DeepKeys4
import Derived.ThirdReader
import Derived.Test.YtlifiioflkhkoaaGreatFr39
namespace Go.Proofs.YtlifiioflkhkoaaGreat
open Go.RowKit
set_option linter.unusedVariables false
set_option maxRecDepth 100000
set_option linter.unusedSimpArgs false

/-- a new box -/
def VBx (B : Nat) (o : Obj) (v : Value) (w : World) : Prop := ∃ b, v = .pointer (some ⟨b, 0, none⟩) ∧ B ≤ b ∧ w.heap[b]? = some o
theorem VBx.stays (B : Nat) (o : Obj) : Stays (VBx B o) := fun v w w' ⟨b, h1, h2, h3⟩ hb => ⟨b, h1, h2, (hb.block b (Array.getElem?_eq_some_iff.1 h3).1).trans h3⟩
def E2p (a b i j : Nat) : Bool := (i == a && j == b) || (i == b && j == a)
theorem E2p_comm (a b : Nat) : ∀ i j, E2p a b i j = E2p a b j i := fun i j => by unfold E2p; rw [Bool.or_comm, Bool.and_comm, Bool.and_comm (j == b)]
theorem E2p_no {a b i j : Nat} (h1 : i ≠ a) (h2 : i ≠ b) : ¬ E2p a b i j = true := by simp [E2p, h1, h2]
theorem E2p_is {a b i j c : Nat} (h : E2p a b i j = true) (hc : (i = a ∧ c = b ∧ i ≠ b) ∨ (i = b ∧ c = a ∧ i ≠ a)) : j = c := by
  simp [E2p] at h
  omega
theorem VBx.fresh {B : Nat} {o : Obj} {u : Value} {w : World} (h : VBx B o u w) : Value.pointer (some ⟨w.heap.size, 0, none⟩) ≠ u := by
  obtain ⟨b, rfl, _, hb⟩ := h
  intro e
  injection e with e
  injection e with e
  injection e with e
  have := (Array.getElem?_eq_some_iff.1 hb).1
  omega

def inW (a b : Int) : Bool := decide (a ≠ 0) || decide (b ≠ 0)
/-- the border edge of a pair, if it is one -/
def edgeB (E1 E2 : List Leg) (p : Leg) : Option Leg :=
  if (inW (sidesF p E1).1 (sidesF p E2).1 && !inW (sidesF p E1).2 (sidesF p E2).2) = true then some p
  else if (inW (sidesF p E1).2 (sidesF p E2).2 && !inW (sidesF p E1).1 (sidesF p E2).1) = true then some (swapE p) else none
def borderF (E1 E2 : List Leg) : List Leg := (pairsF (E1 ++ E2)).filterMap (edgeB E1 E2)
theorem border_ok {E1 E2 : List Leg} (h1 : EOk E1) (h2 : EOk E2) : EOk (borderF E1 E2) := by
  have hp : EOk (pairsF (E1 ++ E2)) := pairs_ok fun e he => by
    rcases List.mem_append.1 he with h | h
    · exact h1 e h
    · exact h2 e h
  intro e he
  obtain ⟨p, hpm, hpe⟩ := List.mem_filterMap.1 he
  obtain ⟨g1, g2⟩ := hp p hpm
  unfold edgeB at hpe
  split at hpe
  · injection hpe with hpe; rw [← hpe]; exact ⟨g1, g2⟩
  · split at hpe
    · injection hpe with hpe; rw [← hpe]; exact ⟨g2, g1⟩
    · cases hpe
theorem border_len (E1 E2 : List Leg) : (borderF E1 E2).length ≤ E1.length + E2.length := by
  refine Nat.le_trans (List.length_filterMap_le _ _) ?_
  have := pairs_len (E1 ++ E2)
  rwa [List.length_append] at this

set_option maxHeartbeats 32000000 in
theorem borderEdges_any (A1 A2 : Option Addr) (n1 c1 n2 c2 lo1 hi1 lo2 hi2 : Nat) (E1 E2 : List Leg) (w : World) (hr1 : RdS 4 (FlatR edgeC) w lo1 hi1 A1 n1 E1) (hr2 : RdS 4 (FlatR edgeC) w lo2 hi2 A2 n2 E2) (hh1 : hi1 ≤ w.heap.size) (hh2 : hi2 ≤ w.heap.size) (hn : n1 + n2 ≤ 1000) (hok1 : EOk E1) (hok2 : EOk E2) :
    Calls Tryz.prog 82 #[.slice A1 n1 c1, .slice A2 n2 c2, .int .i64 1] w fun e w' => ∃ (A' : Option Addr) (c' : Nat), e = .returned (.slice A' (borderF E1 E2).length c') ∧ w'.ownsRow w.heap.size 78 4 (.slice A' (borderF E1 E2).length c') (borderF E1 E2).length ((borderF E1 E2).flatMap edgeC) ∧ Below w.heap.size w w' := by
  obtain ⟨B, hB⟩ : ∃ B, B = borderF E1 E2 := ⟨_, rfl⟩
  rw [← hB]
  have hok : EOk (E1 ++ E2) := fun e he => by
    rcases List.mem_append.1 he with h | h
    · exact hok1 e h
    · exact hok2 e h
  obtain ⟨P, hP⟩ : ∃ P, P = pairsF (E1 ++ E2) := ⟨_, rfl⟩
  have hPok : EOk P := by rw [hP]; exact pairs_ok hok
  have hPl : P.length ≤ 1000 := by
    rw [hP]
    have h1 := pairs_len (E1 ++ E2)
    rw [List.length_append, hr1.1, hr2.1] at h1
    omega
  have hBP : Hid (B = P.filterMap (edgeB E1 E2)) := Lib.hid (by rw [hB, hP]; rfl)
  have hal0 := Go.Joins.below_alloc1 w (.cells #[.slice A1 n1 c1, .slice A2 n2 c2] 56 (0, 0))
  have hgb := heap_alloc_new w (.cells #[.slice A1 n1 c1, .slice A2 n2 c2] 56 (0, 0))
  have hz0 : (w.alloc (.cells #[.slice A1 n1 c1, .slice A2 n2 c2] 56 (0, 0))).heap.size = w.heap.size + 1 := by simp
  have hcon := Lib.hid (concatLeg_any w.heap.size A1 A2 n1 c1 n2 c2 0 w.heap.size E1 E2 (w.alloc (.cells #[.slice A1 n1 c1, .slice A2 n2 c2] 56 (0, 0))) (by rw [Go.Joins.cell_of_block hgb]; rfl) (by rw [Go.Joins.cell_of_block hgb]; rfl) ((hr1.frame (good_flat _) (Below.sameB hal0 hh1)).wide (good_flat _) (Nat.zero_le _) hh1) ((hr2.frame (good_flat _) (Below.sameB hal0 hh2)).wide (good_flat _) (Nat.zero_le _) hh2) (by simp) (by omega))
  have hpc := Lib.hid (fun A' c' W (ho : RdS 4 (FlatR edgeC) W 0 W.heap.size A' (n1 + n2) (E1 ++ E2)) => pairsOf_any A' (n1 + n2) c' 0 W.heap.size (E1 ++ E2) W ho (Nat.le_refl _) hn hok)
  rw [← hP] at hpc
  obtain ⟨m, hm⟩ : ∃ m, m = P.length := ⟨_, rfl⟩
  rw [← hm] at hpc hPl
  have hll : (E1 ++ E2).length = n1 + n2 := by rw [List.length_append, hr1.1, hr2.1]
  have hr1' := Lib.hid (hr1.frame (good_flat _) (Below.sameB hal0 hh1))
  have hr2' := Lib.hid (hr2.frame (good_flat _) (Below.sameB hal0 hh2))
  have hal0H := Lib.hid hal0
  replace hll := Lib.hid hll
  replace hm := Lib.hid hm
  replace hPok := Lib.hid hPok
  replace hok1 := Lib.hid hok1
  replace hok2 := Lib.hid hok2
  replace hP := Lib.hid hP
  have hn1' := Lib.hid hr1.1
  have hn2' := Lib.hid hr2.1
  have hnn : n1 ≤ 1000 ∧ n2 ≤ 1000 := by omega
  have hn12 : n1 + n2 ≤ 1000 := hn
  obtain ⟨nn, hnnd⟩ : ∃ nn, nn = n1 + n2 := ⟨_, rfl⟩
  rw [← hnnd] at hcon hpc hll
  replace hnnd := Lib.hid hnnd
  clear hB hok hgb hal0 hr1 hr2 hn
  go_enter Tryz.func82, Tryz.ntmps82
  go_wp2_with (go_at_call 78; refine hcon.out.mono ?_; rintro e w1 ⟨A4, c4, rfl, ho4, hb4⟩; have ho4H := Lib.hid ho4; have hb4H := Lib.hid hb4; clear ho4 hb4; replace hcon := ho4H)
  have hrd4 := Lib.hid ((rdS_own edgeC_len (by omega) ho4H.out hll.out).wide (good_flat _) (Nat.zero_le _) (Nat.le_refl _))
  have hpc4 := Lib.hid (hpc.out A4 c4 w1 hrd4.out)
  go_wp2_with (go_at_call 97; refine hpc4.out.mono ?_; rintro e w2 ⟨A5, c5, rfl, ho5, hb5⟩; have ho5H := Lib.hid ho5; have hb5H := Lib.hid hb5; clear ho5 hb5; replace hpc4 := hrd4)
  have hs1 := hb4H.out.size
  have hs2 := hb5H.out.size
  have hPr := Lib.hid (rdS_own edgeC_len (by omega) ho5H.out hm.out.symm)
  have hB2 := Lib.hid ((hal0H.out.trans (hb4H.out.mono (by omega))).trans (hb5H.out.mono (by omega)))
  have hr12 := Lib.hid ((hr1'.out.frame (good_flat _) (Below.sameB hb4H.out (by omega))).frame (good_flat _) (Below.sameB hb5H.out (by omega)))
  have hr22 := Lib.hid ((hr2'.out.frame (good_flat _) (Below.sameB hb4H.out (by omega))).frame (good_flat _) (Below.sameB hb5H.out (by omega)))
  clear hcon hpc hpc4 hrd4 hr1' hr2' hal0H hb4H hb5H ho4H ho5H
  have hw2 : w.heap.size ≤ w2.heap.size ∧ hi1 ≤ w2.heap.size ∧ hi2 ≤ w2.heap.size := by omega
  clear hs1 hs2 hz0
  go_loopg [7, 20] m (fun kx s7 s20 wr => ∃ (k q : Nat) (A3 : Option Addr) (c3 : Nat), s20 = .int .i64 k ∧ s7 = .slice A3 q c3 ∧ k ≤ m ∧ m - k ≤ kx ∧ q ≤ k ∧ Hid (q = ((P.take k).filterMap (edgeB E1 E2)).length) ∧ Hid (wr.ownsRow w2.heap.size 78 4 (.slice A3 q c3) q (((P.take k).filterMap (edgeB E1 E2)).flatMap edgeC)) ∧ Below w2.heap.size w2 wr)
  case atStart => exact ⟨0, 0, none, 0, rfl, rfl, Nat.zero_le _, Nat.le_refl _, Nat.le_refl _, Lib.hid rfl, Lib.hid (World.ownsRow_nil _ _ _ _), Below.refl _ _⟩
  case round =>
  obtain ⟨k, q, A3, c3, rfl, rfl, hk, hkx, hqk, hq, hown, hbel⟩ := hrel
  generalize wr = xr at *
  have hzx := hbel.size
  by_cases hlt : k < m
  rotate_left
  · have hki : ¬ (k : Int) < (m : Int) := by omega
    have hkm : k = m := by omega
    have hfin : (P.take k).filterMap (edgeB E1 E2) = B := by rw [List.take_of_length_le (by have := hm.out; omega), ← hBP.out]
    rw [hfin] at hq hown
    replace hfin := Lib.hid hfin
    have hbelH := Lib.hid hbel
    have hqB := hq.out
    go_wp2_with fail
    go_ret
    have h9 := hown.out
    exact ⟨A3, c3, rfl, own_down (by rw [← hqB]; exact h9) (by omega), hB2.out.trans (hbelH.out.mono (by omega))⟩
  have hki : (k : Int) < (m : Int) := by omega
  have i1 : (0 : Int) ≤ (k : Int) ∧ (k : Int) < (m : Int) := by omega
  obtain ⟨b, off, ax, ay, bx, ey, rfl, _, hb, hja, c0, d1, d2, d3⟩ := legAt (hPr.out.frame (good_flat _) (Below.sameB hbel (Nat.le_refl _))) hlt
  have hpk := hPok.out _ (List.mem_of_getElem? hja)
  obtain ⟨p, hp⟩ : ∃ p : Leg, p = ((ax, ay), (bx, ey)) := ⟨_, rfl⟩
  obtain ⟨s1, hs1⟩ : ∃ s, s = netN p E1 := ⟨_, rfl⟩
  obtain ⟨s2, hs2⟩ : ∃ s, s = netN p E2 := ⟨_, rfl⟩
  obtain ⟨⟨l1, r1⟩, hlr1⟩ : ∃ s, s = sidesF p E1 := ⟨_, rfl⟩
  obtain ⟨⟨l2, r2⟩, hlr2⟩ : ∃ s, s = sidesF p E2 := ⟨_, rfl⟩
  obtain ⟨zl, hzl⟩ : ∃ z, z = inW l1 l2 := ⟨_, rfl⟩
  obtain ⟨zr, hzr⟩ : ∃ z, z = inW r1 r2 := ⟨_, rfl⟩
  have hedge : Hid (edgeB E1 E2 p = if (zl && !zr) = true then some p else if (zr && !zl) = true then some (swapE p) else none) := Lib.hid (by unfold edgeB; rw [← hlr1, ← hlr2, hzl, hzr])
  rw [← hp] at hja hpk
  have hyes : Hid (∀ e, edgeB E1 E2 p = some e → (P.take (k + 1)).filterMap (edgeB E1 E2) = (P.take k).filterMap (edgeB E1 E2) ++ [e]) := Lib.hid fun e he => by rw [List.take_add_one, hja, List.filterMap_append]; simp [he]
  have hno : Hid (edgeB E1 E2 p = none → (P.take (k + 1)).filterMap (edgeB E1 E2) = (P.take k).filterMap (edgeB E1 E2)) := Lib.hid fun he => by rw [List.take_add_one, hja, List.filterMap_append]; simp [he]
  have hbw : b < xr.heap.size := by omega
  have hbxn := heap_alloc_new xr (.cells #[.int .i64 ax, .int .i64 ay, .int .i64 bx, .int .i64 ey] 78 (0, 0))
  have hal := Go.Joins.below_alloc1 xr (.cells #[.int .i64 ax, .int .i64 ay, .int .i64 bx, .int .i64 ey] 78 (0, 0))
  have hz7 : (xr.alloc (.cells #[.int .i64 ax, .int .i64 ay, .int .i64 bx, .int .i64 ey] 78 (0, 0))).heap.size = xr.heap.size + 1 := by simp
  have HO7 := Lib.hid (own_below hown.out hal)
  have hb7 := Lib.hid (hbel.trans (hal.mono (by omega)))
  clear hal hja hown hbel
  go_upto_region 5 with fail
  clear c0 d1 d2 d3
  generalize xr.alloc (.cells #[.int .i64 ax, .int .i64 ay, .int .i64 bx, .int .i64 ey] 78 (0, 0)) = V at *
  generalize xr.heap.size = X at *
  obtain ⟨a0, a1, a2, a3⟩ := leg_cells hbxn
  have hXl : X < V.heap.size := by omega
  have hs7 := hb7.out.size
  have hbxH := Lib.hid hbxn
  have hS1 : Hid (∀ U, Below V.heap.size V U → U.cell? ⟨X, 0, none⟩ = some (.int .i64 ax) ∧ U.cell? ⟨X, 1, none⟩ = some (.int .i64 ay) ∧ U.cell? ⟨X, 2, none⟩ = some (.int .i64 bx) ∧ U.cell? ⟨X, 3, none⟩ = some (.int .i64 ey)) := Lib.hid fun U h => ⟨(h.cell (p := ⟨X, 0, none⟩) hXl).trans a0, (h.cell (p := ⟨X, 1, none⟩) hXl).trans a1, (h.cell (p := ⟨X, 2, none⟩) hXl).trans a2, (h.cell (p := ⟨X, 3, none⟩) hXl).trans a3⟩
  have hr1V := hr12.out.frame (good_flat _) (Below.sameB hb7.out hw2.2.1)
  have hr2V := hr22.out.frame (good_flat _) (Below.sameB hb7.out hw2.2.2)
  have hn1c := fun W (h : Below V.heap.size V W) => netEdge_any A1 n1 c1 lo1 hi1 E1 p s1 l1 r1 hs1 hlr1 W (hr1V.frame (good_flat _) (Below.sameB h (by omega))) (by have := h.size; omega) hnn.1 hok1.out hpk
  have hn2c := fun W (h : Below V.heap.size V W) => netEdge_any A2 n2 c2 lo2 hi2 E2 p s2 l2 r2 hs2 hlr2 W (hr2V.frame (good_flat _) (Below.sameB h (by omega))) (by have := h.size; omega) hnn.2 hok2.out hpk
  rw [hp] at hn1c hn2c
  simp only [edgeC] at hn1c hn2c
  try dsimp only at hn1c hn2c
  replace hn1c := Lib.hid hn1c
  replace hn2c := Lib.hid hn2c
  have hpH := Lib.hid hp
  clear hr1V hr2V hbxn hz7 a0 a1 a2 a3 hs1 hs2 hlr1 hlr2 hp hpk
  go_cut [10, 11] (fun s10 s11 wx => ∃ (G1 G2 : Nat), s10 = .pointer (some ⟨G1, 0, none⟩) ∧ s11 = .pointer (some ⟨G2, 0, none⟩) ∧ wx.heap[G1]? = some (.cells #[.int .i64 ax, .int .i64 ay, .int .i64 bx, .int .i64 ey, .int .i64 s1, .int .i64 l1, .int .i64 r1] 135 (0, 0)) ∧ wx.heap[G2]? = some (.cells #[.int .i64 ax, .int .i64 ay, .int .i64 bx, .int .i64 ey, .int .i64 s2, .int .i64 l2, .int .i64 r2] 135 (0, 0)) ∧ V.heap.size ≤ G1 ∧ V.heap.size ≤ G2 ∧ Below V.heap.size V wx)
  case first =>
    refine wp_region_staysE 8 (fun j => match j with | 0 => VEq ((.slice A1 n1 c1)) | 1 => VEq ((.agg #[.int .i64 ax, .int .i64 ay, .int .i64 bx, .int .i64 ey])) | 2 => VEq (.agg #[.int .i64 ax, .int .i64 ay, .int .i64 bx, .int .i64 ey, .int .i64 s1, .int .i64 l1, .int .i64 r1]) | 3 => VEq ((.slice A2 n2 c2)) | 4 => VEq ((.agg #[.int .i64 ax, .int .i64 ay, .int .i64 bx, .int .i64 ey])) | 5 => VEq (.agg #[.int .i64 ax, .int .i64 ay, .int .i64 bx, .int .i64 ey, .int .i64 s2, .int .i64 l2, .int .i64 r2]) | 6 => VBx V.heap.size (.cells #[.int .i64 0, .int .i64 0, .int .i64 0, .int .i64 0, .int .i64 0, .int .i64 0, .int .i64 0] 135 (0, 0)) | 7 => VBx V.heap.size (.cells #[.int .i64 0, .int .i64 0, .int .i64 0, .int .i64 0, .int .i64 0, .int .i64 0, .int .i64 0] 135 (0, 0)) | _ => VEq (.bool false)) (E2p 6 7) (E2p_comm _ _) (by kernel_rfl) (by kernel_rfl) ?_ ?_ ?_
    · intro j hj
      rcases (show j = 0 ∨ j = 1 ∨ j = 2 ∨ j = 3 ∨ j = 4 ∨ j = 5 ∨ j = 6 ∨ j = 7 by omega) with rfl | rfl | rfl | rfl | rfl | rfl | rfl | rfl <;> first | exact VEq.stays _ | exact VBx.stays _ _
    · intro i hi
      rcases (show i = 0 ∨ i = 1 ∨ i = 2 ∨ i = 3 ∨ i = 4 ∨ i = 5 ∨ i = 6 ∨ i = 7 by omega) with rfl | rfl | rfl | rfl | rfl | rfl | rfl | rfl
      · intro o ho f wS K hB hd hK
        simp only [List.getElem?_cons_zero, List.getElem?_cons_succ, Option.some.injEq] at ho
        subst ho
        have hB' : Below V.heap.size V wS := belowDr hB
        simp only [putsL, dstL, List.getElem?_cons_zero, List.getElem?_cons_succ, Option.bind, Act.put, List.setIfInBounds_toArray, List.set_cons_zero, List.set_cons_succ] at hK ⊢
        go_simp
        exact hK _ _ rfl (Below.refl _ _) (fun j u _ _ _ h => absurd h (E2p_no (by decide) (by decide)))
      · intro o ho f wS K hB hd hK
        simp only [List.getElem?_cons_zero, List.getElem?_cons_succ, Option.some.injEq] at ho
        subst ho
        have hB' : Below V.heap.size V wS := belowDr hB
        simp only [putsL, dstL, List.getElem?_cons_zero, List.getElem?_cons_succ, Option.bind, Act.put, List.setIfInBounds_toArray, List.set_cons_zero, List.set_cons_succ] at hK ⊢
        obtain ⟨d0, d1, d2, d3⟩ := hS1.out wS hB'
        have dl : X < wS.heap.size := Nat.lt_of_lt_of_le hXl hB'.size
        go_simp
        exact hK _ _ rfl (Below.refl _ _) (fun j u _ _ _ h => absurd h (E2p_no (by decide) (by decide)))
      · intro o ho f wS K hB hd hK
        simp only [List.getElem?_cons_zero, List.getElem?_cons_succ, Option.some.injEq] at ho
        subst ho
        have hB' : Below V.heap.size V wS := belowDr hB
        simp only [putsL, dstL, List.getElem?_cons_zero, List.getElem?_cons_succ, Option.bind, Act.put, List.setIfInBounds_toArray, List.set_cons_zero, List.set_cons_succ] at hK ⊢
        have e0 : f 0 = (.slice A1 n1 c1) := hd 0 (by rfl)
        have e1 : f 1 = (.agg #[.int .i64 ax, .int .i64 ay, .int .i64 bx, .int .i64 ey]) := hd 1 (by rfl)
        simp only [e0, e1] at hK ⊢
        go_simp
        go_at_call 98
        refine (hn1c.out wS hB').mono ?_
        rintro e w9 ⟨rfl, hb9⟩
        exact hK _ _ rfl hb9 (fun j u _ _ _ h => absurd h (E2p_no (by decide) (by decide)))
      · intro o ho f wS K hB hd hK
        simp only [List.getElem?_cons_zero, List.getElem?_cons_succ, Option.some.injEq] at ho
        subst ho
        have hB' : Below V.heap.size V wS := belowDr hB
        simp only [putsL, dstL, List.getElem?_cons_zero, List.getElem?_cons_succ, Option.bind, Act.put, List.setIfInBounds_toArray, List.set_cons_zero, List.set_cons_succ] at hK ⊢
        go_simp
        exact hK _ _ rfl (Below.refl _ _) (fun j u _ _ _ h => absurd h (E2p_no (by decide) (by decide)))
      · intro o ho f wS K hB hd hK
        simp only [List.getElem?_cons_zero, List.getElem?_cons_succ, Option.some.injEq] at ho
        subst ho
        have hB' : Below V.heap.size V wS := belowDr hB
        simp only [putsL, dstL, List.getElem?_cons_zero, List.getElem?_cons_succ, Option.bind, Act.put, List.setIfInBounds_toArray, List.set_cons_zero, List.set_cons_succ] at hK ⊢
        obtain ⟨d0, d1, d2, d3⟩ := hS1.out wS hB'
        have dl : X < wS.heap.size := Nat.lt_of_lt_of_le hXl hB'.size
        go_simp
        exact hK _ _ rfl (Below.refl _ _) (fun j u _ _ _ h => absurd h (E2p_no (by decide) (by decide)))
      · intro o ho f wS K hB hd hK
        simp only [List.getElem?_cons_zero, List.getElem?_cons_succ, Option.some.injEq] at ho
        subst ho
        have hB' : Below V.heap.size V wS := belowDr hB
        simp only [putsL, dstL, List.getElem?_cons_zero, List.getElem?_cons_succ, Option.bind, Act.put, List.setIfInBounds_toArray, List.set_cons_zero, List.set_cons_succ] at hK ⊢
        have e3 : f 3 = (.slice A2 n2 c2) := hd 3 (by rfl)
        have e4 : f 4 = (.agg #[.int .i64 ax, .int .i64 ay, .int .i64 bx, .int .i64 ey]) := hd 4 (by rfl)
        simp only [e3, e4] at hK ⊢
        go_simp
        go_at_call 98
        refine (hn2c.out wS hB').mono ?_
        rintro e w9 ⟨rfl, hb9⟩
        exact hK _ _ rfl hb9 (fun j u _ _ _ h => absurd h (E2p_no (by decide) (by decide)))
      · intro o ho f wS K hB hd hK
        simp only [List.getElem?_cons_zero, List.getElem?_cons_succ, Option.some.injEq] at ho
        subst ho
        have hB' : Below V.heap.size V wS := belowDr hB
        simp only [putsL, dstL, List.getElem?_cons_zero, List.getElem?_cons_succ, Option.bind, Act.put, List.setIfInBounds_toArray, List.set_cons_zero, List.set_cons_succ] at hK ⊢
        go_simp
        refine hK _ _ ⟨_, rfl, hB'.size, heap_alloc_new wS _⟩ (Go.Joins.below_alloc1 _ _) (fun j u _ hne hu he => ?_)
        obtain rfl : j = 7 := E2p_is he (by decide)
        exact VBx.fresh hu
      · intro o ho f wS K hB hd hK
        simp only [List.getElem?_cons_zero, List.getElem?_cons_succ, Option.some.injEq] at ho
        subst ho
        have hB' : Below V.heap.size V wS := belowDr hB
        simp only [putsL, dstL, List.getElem?_cons_zero, List.getElem?_cons_succ, Option.bind, Act.put, List.setIfInBounds_toArray, List.set_cons_zero, List.set_cons_succ] at hK ⊢
        go_simp
        refine hK _ _ ⟨_, rfl, hB'.size, heap_alloc_new wS _⟩ (Go.Joins.below_alloc1 _ _) (fun j u _ hne hu he => ?_)
        obtain rfl : j = 6 := E2p_is he (by decide)
        exact VBx.fresh hu
    · intro f w9 hb9' hv hE
      have hb9 : Below V.heap.size V w9 := hb9'
      have e0 : f 0 = (.slice A1 n1 c1) := hv 0 (by omega)
      have e1 : f 1 = (.agg #[.int .i64 ax, .int .i64 ay, .int .i64 bx, .int .i64 ey]) := hv 1 (by omega)
      have e2 : f 2 = .agg #[.int .i64 ax, .int .i64 ay, .int .i64 bx, .int .i64 ey, .int .i64 s1, .int .i64 l1, .int .i64 r1] := hv 2 (by omega)
      have e3 : f 3 = (.slice A2 n2 c2) := hv 3 (by omega)
      have e4 : f 4 = (.agg #[.int .i64 ax, .int .i64 ay, .int .i64 bx, .int .i64 ey]) := hv 4 (by omega)
      have e5 : f 5 = .agg #[.int .i64 ax, .int .i64 ay, .int .i64 bx, .int .i64 ey, .int .i64 s2, .int .i64 l2, .int .i64 r2] := hv 5 (by omega)
      obtain ⟨P6, e6, hl6, hb6⟩ : VBx V.heap.size (.cells #[.int .i64 0, .int .i64 0, .int .i64 0, .int .i64 0, .int .i64 0, .int .i64 0, .int .i64 0] 135 (0, 0)) (f 6) w9 := hv 6 (by omega)
      obtain ⟨P7, e7, hl7, hb7⟩ : VBx V.heap.size (.cells #[.int .i64 0, .int .i64 0, .int .i64 0, .int .i64 0, .int .i64 0, .int .i64 0, .int .i64 0] 135 (0, 0)) (f 7) w9 := hv 7 (by omega)
      have hPE : P6 ≠ P7 := fun h => hE 6 7 (by omega) (by omega) (by decide) (by decide) (by rw [e6, e7, h])
      simp only [putsL, dstL, List.getElem?_cons_zero, List.getElem?_cons_succ, Option.bind, Act.put, List.setIfInBounds_toArray, List.set_cons_zero, List.set_cons_succ, List.drop_succ_cons, List.drop_zero]
      simp only [e0, e1, e2, e3, e4, e5, e6, e7]
      clear hv hb9' hE e0 e1 e2 e3 e4 e5 e6 e7
      obtain ⟨g0, g1, g2, g3, g4, g5, g6, gf, gl⟩ := cells7 hb6
      obtain ⟨j0, j1, j2, j3, j4, j5, j6, jf, jl⟩ := cells7 hb7
      go_wp2_with fail
      go_meet
      case rel => exact ⟨P6, P7, rfl, rfl, (Below.heap_setCell _ _ _ _ hPE).trans ((Below.heap_setCell _ _ _ _ hPE).trans ((Below.heap_setCell _ _ _ _ hPE).trans ((Below.heap_setCell _ _ _ _ hPE).trans ((Below.heap_setCell _ _ _ _ hPE).trans ((Below.heap_setCell _ _ _ _ hPE).trans ((Below.heap_setCell _ _ _ _ hPE).trans (Go.Joins.block_setCell (i := 6) (Go.Joins.block_setCell (i := 5) (Go.Joins.block_setCell (i := 4) (Go.Joins.block_setCell (i := 3) (Go.Joins.block_setCell (i := 2) (Go.Joins.block_setCell (i := 1) (Go.Joins.block_setCell (i := 0) (hb6) (.int .i64 ax)) (.int .i64 ay)) (.int .i64 bx)) (.int .i64 ey)) (.int .i64 s1)) (.int .i64 l1)) (.int .i64 r1)))))))), Go.Joins.block_setCell (i := 6) (Go.Joins.block_setCell (i := 5) (Go.Joins.block_setCell (i := 4) (Go.Joins.block_setCell (i := 3) (Go.Joins.block_setCell (i := 2) (Go.Joins.block_setCell (i := 1) (Go.Joins.block_setCell (i := 0) ((Below.heap_setCell _ _ _ _ (Ne.symm hPE)).trans ((Below.heap_setCell _ _ _ _ (Ne.symm hPE)).trans ((Below.heap_setCell _ _ _ _ (Ne.symm hPE)).trans ((Below.heap_setCell _ _ _ _ (Ne.symm hPE)).trans ((Below.heap_setCell _ _ _ _ (Ne.symm hPE)).trans ((Below.heap_setCell _ _ _ _ (Ne.symm hPE)).trans ((Below.heap_setCell _ _ _ _ (Ne.symm hPE)).trans (hb7)))))))) (.int .i64 ax)) (.int .i64 ay)) (.int .i64 bx)) (.int .i64 ey)) (.int .i64 s2)) (.int .i64 l2)) (.int .i64 r2), hl6, hl7, ((((((((((((((((((((((((((((hb9).setCell hl6 _)).setCell hl6 _)).setCell hl6 _)).setCell hl6 _)).setCell hl6 _)).setCell hl6 _)).setCell hl6 _)).setCell hl7 _)).setCell hl7 _)).setCell hl7 _)).setCell hl7 _)).setCell hl7 _)).setCell hl7 _)).setCell hl7 _)⟩
  obtain ⟨G1, G2, rfl, rfl, hG1, hG2, _, _, hbc⟩ := hcut
  generalize wc = U at *
  have hkl := Lib.hid (fun X dr os => Calls.regrown_of (w := X) (d := dr) (os := os) (belongs_any l1 l2 (Go.Sort.grow (redrawn X dr) os) zl hzl))
  have hkr := Lib.hid (fun X dr os => Calls.regrown_of (w := X) (d := dr) (os := os) (belongs_any r1 r2 (Go.Sort.grow (redrawn X dr) os) zr hzr))
  obtain ⟨g0, g1, g2, g3, g4, g5, g6, gf, gl⟩ := cells7 hG1
  obtain ⟨j0, j1, j2, j3, j4, j5, j6, jf, jl⟩ := cells7 hG2
  have hbU := Lib.hid (hb7.out.trans (hbc.mono hs7))
  have hbxU := Lib.hid ((hbc.block X hXl).trans hbxH.out)
  have HOU := Lib.hid (own_below HO7.out hbc)
  have hUs := hbU.out.size
  have hXU : X < U.heap.size := by have := hbc.size; omega
  clear hzl hzr hG1 hG2 hbc g0 g1 g2 g3 g4 gf j0 j1 j2 j3 j4 jf hn1c hn2c hS1
  go_upto_region 6 with fail
  have g5' := fun dr os => cell_regrown g5 dr os
  have g6' := fun dr os => cell_regrown g6 dr os
  have j5' := fun dr os => cell_regrown j5 dr os
  have j6' := fun dr os => cell_regrown j6 dr os
  refine wp_region_quiet_below (by kernel_rfl) (by kernel_rfl) ?_
  repeat (go_big_quiet_step (first | (with_reducible exact hkl.out _ _ _) | (with_reducible exact hkr.out _ _ _)))
  refine wpQuiet_nil ?_
  intro _ hw'
  obtain ⟨⟨dq, osq⟩, hw''⟩ := hw'
  subst hw''
  have hb9 := below_regrown U dq osq
  clear g5' g6' j5' j6' g5 g6 j5 j6 gl jl
  have HO9 := Lib.hid (own_below HOU.out hb9)
  have hb8 := Lib.hid (hbU.out.trans (hb9.mono hUs))
  have hbx9 := (hb9.block X hXU).trans hbxU.out
  have hs9 : w2.heap.size ≤ (Go.Sort.grow (redrawn U dq) osq).heap.size := hb8.out.size
  have hX9 : X < (Go.Sort.grow (redrawn U dq) osq).heap.size := by have := hb9.size; omega
  generalize Go.Sort.grow (redrawn U dq) osq = T9 at *
  obtain ⟨a0, a1, a2, a3⟩ := leg_cells hbx9
  clear hb9 hbx9 hkl hkr
  cases zl with
  | true =>
    cases zr with
    | true =>
      have hE := Lib.hid (hno.out (by rw [hedge.out]; rfl))
      go_wp2_with fail
      go_roundg (m - (k + 1))
      case measure => omega
      case rel =>
        refine ⟨k + 1, q, A3, c3, by go_num, rfl, by omega, Nat.le_refl _, by omega, ?_, ?_, hb8.out⟩
        · rw [hE.out]; exact hq
        · rw [hE.out]; exact HO9
    | false =>
      have hE := Lib.hid (hyes.out p (by rw [hedge.out]; rfl))
      have hq1 : q ≤ 1000 := by omega
      go_wp2_with (at_builtin; refine wpApp rfl (.tmp 48) (.tmp 50) elemLeg rfl (v := .slice A3 q c3) (n := q) (xs := ((P.take k).filterMap (edgeB E1 E2)).flatMap edgeC) rfl (HO9.out.alloc _) rfl (src_at (cs := [.int .i64 ax, .int .i64 ay, .int .i64 bx, .int .i64 ey]) rfl (by simp [Value.oneCell']) (by first | rfl | simp)) (by omega) (by omega) (by first | omega | (simp; omega)) (q + 1) rfl ?_; intro A9 c9 w9 ho9 hb9; replace ho9 := Lib.hid ho9; replace hb9 := Lib.hid hb9)
      go_roundg (m - (k + 1))
      case measure => omega
      case rel =>
        refine ⟨k + 1, q + 1, A9, c9, by go_num, rfl, by omega, Nat.le_refl _, by omega, ?_, ?_, (hb8.out.alloc (by omega) _).trans (hb9.out.mono (by simp; try omega))⟩
        · rw [hE.out, List.length_append, ← hq.out]; exact Lib.hid rfl
        · rw [hE.out, List.flatMap_append]; exact (by have h9 := ho9.out; rw [hpH.out]; exact Lib.hid h9)
  | false =>
    cases zr with
    | true =>
      have hE := Lib.hid (hyes.out (swapE p) (by rw [hedge.out]; rfl))
      have hq1 : q ≤ 1000 := by omega
      go_wp2_with (at_builtin; refine wpApp rfl (.tmp 58) (.tmp 64) elemLeg rfl (v := .slice A3 q c3) (n := q) (xs := ((P.take k).filterMap (edgeB E1 E2)).flatMap edgeC) rfl (HO9.out.alloc _) rfl (src_at (cs := [.int .i64 bx, .int .i64 ey, .int .i64 ax, .int .i64 ay]) rfl (by simp [Value.oneCell']) (by first | rfl | simp)) (by omega) (by omega) (by first | omega | (simp; omega)) (q + 1) rfl ?_; intro A9 c9 w9 ho9 hb9; replace ho9 := Lib.hid ho9; replace hb9 := Lib.hid hb9)
      go_roundg (m - (k + 1))
      case measure => omega
      case rel =>
        refine ⟨k + 1, q + 1, A9, c9, by go_num, rfl, by omega, Nat.le_refl _, by omega, ?_, ?_, (hb8.out.alloc (by omega) _).trans (hb9.out.mono (by simp; try omega))⟩
        · rw [hE.out, List.length_append, ← hq.out]; exact Lib.hid rfl
        · rw [hE.out, List.flatMap_append]; exact (by have h9 := ho9.out; rw [hpH.out]; exact Lib.hid h9)
    | false =>
      have hE := Lib.hid (hno.out (by rw [hedge.out]; rfl))
      go_wp2_with fail
      go_roundg (m - (k + 1))
      case measure => omega
      case rel =>
        refine ⟨k + 1, q, A3, c3, by go_num, rfl, by omega, Nat.le_refl _, by omega, ?_, ?_, hb8.out⟩
        · rw [hE.out]; exact hq
        · rw [hE.out]; exact HO9
end Go.Proofs.YtlifiioflkhkoaaGreat

/- Points as keys of a map. Conditions: as each states. -/
namespace Go.Proofs.YtlifiioflkhkoaaGreat
open Go.RowKit Go.Maps
set_option linter.unusedVariables false
set_option maxRecDepth 100000

theorem laidOutM : laidOutB Tryz.prog = true := by kernel_rfl
theorem rowPt : (28 : TypeId) < Tryz.prog.types.size := of_decide_eq_true (by kernel_rfl)
theorem widePt : (match Tryz.prog.underlying 28 with | some (.array _ _) | some (.struct _) => true | _ => false) = true := by rw [Tryz.underlying28]
theorem lawPt : WideMaps.KeyLaw Tryz.prog 28 := deep_law_laid laidOutM (m := 2) (by omega) rowPt (by kernel_rfl) widePt
theorem keyTypePt : Tryz.prog.keyType 28 = true := by kernel_rfl
theorem sizeTy : ∃ m, Tryz.prog.types.size = m + 1 := ⟨Tryz.prog.types.size - 1, (Nat.sub_add_cancel (Nat.lt_of_le_of_lt (Nat.zero_le _) rowPt)).symm⟩
def ptV (p : Pnt) : Value := .agg #[.int .i64 p.1, .int .i64 p.2]
theorem cellsPt : Tryz.prog.cellsOf 28 = 2 := by kernel_rfl
theorem cellsI64 : Tryz.prog.cellsOf 2 = 1 := by kernel_rfl
theorem key_pt (p : Pnt) (h1 : -9223372036854775808 ≤ p.1 ∧ p.1 ≤ 9223372036854775807) (h2 : -9223372036854775808 ≤ p.2 ∧ p.2 ≤ 9223372036854775807) : ∃ kl, keyOf Tryz.prog 28 (ptV p) = some kl := by
  obtain ⟨m, hm⟩ := sizeTy
  have w1 : (Lit.int .i64 p.1).wf = true := WalkArith.wf_i64 (by omega)
  have w2 : (Lit.int .i64 p.2).wf = true := WalkArith.wf_i64 (by omega)
  unfold keyOf
  simp only [Tryz.underlying28]
  rw [if_pos (by simp [keyTypePt, Value.formed, Tryz.underlying28, cellsPt, ptV]), hm]
  unfold Program.keyLits
  simp only [Tryz.underlying28, Value.cells, ptV]
  have hk : ∀ n : Int, (Lit.int .i64 n).wf = true → Tryz.prog.keyLits (m + 1) 2 [.int .i64 n] = some [.int .i64 n] := fun n hn => by
    unfold Program.keyLits
    simp only [Tryz.underlying2]
    rw [if_pos (by simp [hn])]
  rw [if_pos ⟨by rw [cellsPt]; rfl, by simp⟩]
  simp only [List.mapM_cons, List.mapM_nil, cellsI64, List.drop_zero, List.drop_succ_cons, List.take_succ_cons, List.take_zero]
  rw [hk _ w1, hk _ w2]
  exact ⟨_, rfl⟩
end Go.Proofs.YtlifiioflkhkoaaGreat

/- An entry of a map of slices, taken, its slice grown, stored back. Conditions: as each states. -/
namespace Go.Proofs.YtlifiioflkhkoaaGreat
open Go.RowKit Go.Maps Go.ChangeShapes Go.WideShapes Go.WideElems
open Go.ChangeMaps (setBlock)
open Go.WideMaps (KeyLaw)
set_option linter.unusedVariables false
set_option maxRecDepth 100000
set_option linter.unusedSimpArgs false

section
variable {H : Type} {P : Program} {t k E e : TypeId} {q : IntKind} {b n base : Nat} {D : DataW H}
theorem setBlock_at {w : World} {b : Nat} {o o' : Obj} (h : w.heap[b]? = some o') : (setBlock w b o).heap[b]? = some o := by
  have hl := (Array.getElem?_eq_some_iff.1 h).1
  simp [setBlock, Array.getElem?_setIfInBounds, hl]
theorem setBlock_off {w : World} {b c : Nat} {o : Obj} (h : c ≠ b) : (setBlock w b o).heap[c]? = w.heap[c]? := by
  simp [setBlock, Array.getElem?_setIfInBounds, Ne.symm h]
theorem setBlock_two (w : World) (b : Nat) (o o' : Obj) : setBlock (setBlock w b o) b o' = setBlock w b o' := by
  unfold setBlock
  congr 1
  apply Array.ext (by simp)
  intro i h1 h2
  by_cases hi : b = i
  · subst hi; simp
  · simp [Array.getElem_setIfInBounds, hi]
theorem setBlock_inj {w : World} {b : Nat} {es es' : Array MapEntry} {c c' : Nat} {o : Obj} (hb : w.heap[b]? = some o) (h : setBlock w b (.map es c) = setBlock w b (.map es' c')) : es = es' ∧ c = c' := by
  have h1 := congrArg (fun W : World => W.heap[b]?) h
  simp only [setBlock_at hb] at h1
  injection h1 with h1
  injection h1 with h1 h2
  exact ⟨h1, h2⟩
theorem setBlock_size (w : World) (b : Nat) (o : Obj) : (setBlock w b o).heap.size = w.heap.size := by simp [setBlock]
/-- a map's store hangs on its block alone -/
theorem update_alike (K : Keyed P k) (ht : P.underlying t = some (.map k E)) {w w' : World} {R : Value → Option (DataW H × List MemPlace)} {es : Array MapEntry} {clock : Nat} (hb : w.heap[b]? = some (.map es clock)) (hb' : w'.heap[b]? = some (.map es clock)) (F : Fit P k R es clock) {key val : Value} {kl : Lit} (hkey : keyOf P k key = some kl) {es' : Array MapEntry} {clock' : Nat}
    (h : (Instr.mapUpdate t (.map (some b)) key val).run P w = .ok () (setBlock w b (.map es' clock'))) : (Instr.mapUpdate t (.map (some b)) key val).run P w' = .ok () (setBlock w' b (.map es' clock')) := by
  rcases K.find w hkey es.toList F.keys with ⟨h1, h2⟩ | ⟨j, e0, h1, h2, h3⟩ <;> rcases K.find w' hkey es.toList F.keys with ⟨g1, g2⟩ | ⟨i, e1, g1, g2, g3⟩
  · have e1 : (Instr.mapUpdate t (.map (some b)) key val).run P w = .ok () (setBlock w b (.map (es.push ⟨key, val, clock⟩) (clock + 1))) := by
      simp [Instr.mapUpdate, run_underlying ht, MapKept.run_getObj_map hb, K.check w false hkey, h1, MapKept.run_setObj_map _ hb, Result.andThen, setBlock]
    rw [e1] at h
    injection h with _ h
    obtain ⟨rfl, rfl⟩ := setBlock_inj hb h
    simp [Instr.mapUpdate, run_underlying ht, MapKept.run_getObj_map hb', K.check w' false hkey, g1, MapKept.run_setObj_map _ hb', Result.andThen, setBlock]
  · exact absurd g3 (h2 e1 (List.mem_of_getElem? g2))
  · exact absurd h3 (g2 e0 (List.mem_of_getElem? h2))
  · have hji : j = i := by
      have hl := (List.getElem?_eq_some_iff.1 h2).1
      refine (List.getElem?_inj (by simpa using hl) F.stamped.2.2).1 ?_
      rw [List.getElem?_map, List.getElem?_map, h2, g2]
      simp [h3, g3]
    subst hji
    have he : e0 = e1 := Option.some.inj (h2.symm.trans g2)
    subst he
    have e1 : (Instr.mapUpdate t (.map (some b)) key val).run P w = .ok () (setBlock w b (.map (es.modify j (fun e' => { e' with key := key, val := val })) clock)) := by
      have hj : es[j]? = some e0 := by simpa using h2
      simp [Instr.mapUpdate, run_underlying ht, MapKept.run_getObj_map hb, K.check w false hkey, h1, hj, h3, K.stays w hkey, MapKept.run_setObj_map _ hb, Result.andThen, setBlock]
    rw [e1] at h
    injection h with _ h
    obtain ⟨rfl, rfl⟩ := setBlock_inj hb h
    have hj : es[j]? = some e0 := by simpa using h2
    simp [Instr.mapUpdate, run_underlying ht, MapKept.run_getObj_map hb', K.check w' false hkey, g1, hj, h3, K.stays w' hkey, MapKept.run_setObj_map _ hb', Result.andThen, setBlock]
theorem own_sameBlock {w w' : World} {base : Nat} {e : TypeId} {size n : Nat} {v : Value} {xs : List Value} (h : w.ownsRow base e size v n xs) (hs : ∀ g, v.ownBlock = some g → w'.heap[g]? = w.heap[g]?) : w'.ownsRow base e size v n xs := by
  refine ⟨h.1, ?_⟩
  rcases h.2 with h | ⟨g, cap, cur, rfl, h2, h3, h4⟩
  · exact .inl h
  · exact .inr ⟨g, cap, cur, rfl, h2, (hs g rfl).trans h3, h4⟩
/-- the entry at a key, and the way back -/
theorem entry_groups {w : World} (h : w.ownsGroups P k base e q b n D) (K : KeyLaw P k) (ht : P.underlying t = some (.map k E)) (hz : ∀ u : World, (zeroValue E).run P u = .ok (.slice none 0 0) u) (hn : n < maxLen) {key : Value} {kl : Lit} (hkey : keyOf P k key = some kl) :
    ∃ v zs st w1, (Instr.mapEntry t (.map (some b)) key).run P w = .ok (.tuple #[v, goInt st]) w1 ∧ w.grownBy w1 (some b) ∧ w1.heap.size = w.heap.size ∧ D.atKey kl .nil = rowDatum q v zs ∧ w.ownsInts base e q v zs ∧ w1.ownsInts base e q v zs ∧ zs.length ≤ n ∧
      ∀ (w2 : World) (v' : Value) (zs' : List Int), w1.grownBy w2 v.ownBlock → w2.ownsInts base e q v' zs' → zs'.length ≤ n + 1 → (v'.ownBlock = v.ownBlock ∨ ∃ g, v'.ownBlock = some g ∧ w.heap.size ≤ g) →
        ∃ w3, (Instr.entryStore t (.map (some b)) (goInt st) v').run P w2 = .ok () w3 ∧ w3.ownsGroups P k base e q b (n + 1) (D.put kl (rowDatum q v' zs')) ∧ w2.grownBy w3 (some b) := by
  obtain ⟨v, zs, hlk, hat, hoi, hzl, hback⟩ := h.at (Keyed.of_law K) ht (hz w) hn hkey
  obtain ⟨es, clock, hb, F, hs, hD, hbb, hlen, hap⟩ := h
  obtain ⟨v0, st, es1, clock1, hE, hcase, hS⟩ := entry_then_store (w := w) K ht hz hb F hkey
  have hv0 : v0 = v := by
    rcases Maps.fit_look false (Keyed.of_law K) ht (hz w) hb F hkey with ⟨hrun, hno, _⟩ | ⟨e1, y, hm1, h3, hrun, hR, _, _⟩
    · rw [hlk] at hrun
      injection hrun with hrun _
      rcases hcase with ⟨e0, h0, h01, _⟩ | ⟨_, h0⟩
      · exact absurd h01 (hno e0 h0)
      · rw [h0, hrun]; rfl
    · rw [hlk] at hrun
      injection hrun with hrun _
      rcases hcase with ⟨e0, h0, h01, h02⟩ | ⟨h0, _⟩
      · obtain ⟨j, hj⟩ := List.getElem?_of_mem h0
        obtain ⟨i, hi⟩ := List.getElem?_of_mem hm1
        have hji : j = i := by
          have hl := (List.getElem?_eq_some_iff.1 hj).1
          refine (List.getElem?_inj (by simpa using hl) F.stamped.2.2).1 ?_
          rw [List.getElem?_map, List.getElem?_map, hj, hi]
          simp [h01, h3]
        subst hji
        have he : e0 = e1 := Option.some.inj (hj.symm.trans hi)
        rw [h02, hrun, he]; rfl
      · exact absurd h3 (h0 e1 hm1)
  subst hv0
  have hoff : ∀ g, v0.ownBlock = some g → g ≠ b := fun g hg => by have := (hoi.1.lt g hg).1; omega
  refine ⟨v0, zs, st, setBlock w b (.map es1 clock1), hE, ?_, setBlock_size _ _ _, hat, hoi, ⟨own_sameBlock hoi.1 fun g hg => setBlock_off (hoff g hg), hoi.2⟩, hzl, ?_⟩
  · exact ⟨rfl, rfl, rfl, by rw [setBlock_size]; exact Nat.le_refl _, fun j hj hne => setBlock_off (fun e => hne (by rw [e]))⟩
  · intro w2 v' zs' hg hown hl hloc
    have hb2 : w2.heap[b]? = some (.map es1 clock1) := by
      rw [hg.block b (by rw [setBlock_size]; exact (Array.getElem?_eq_some_iff.1 hb).1) (fun e => hoff b e.symm rfl)]
      exact setBlock_at hb
    obtain ⟨es', clock', hst, hup⟩ := hS w2 v' hb2
    have hv'b : ∀ g, v'.ownBlock = some g → g ≠ b := fun g hg => by have := (hown.1.lt g hg).1; omega
    have hbW : (setBlock w2 b (.map es clock)).heap[b]? = some (.map es clock) := setBlock_at hb2
    obtain ⟨w4, hr4, ho4, hg4⟩ := hback (setBlock w2 b (.map es clock)) v' zs' ⟨hg.os, hg.tape, hg.output, by rw [setBlock_size]; have := hg.size; rw [setBlock_size] at this; exact this, fun j hj hne => by
      by_cases hjb : j = b
      · subst hjb; rw [hbW, hb]
      · rw [setBlock_off hjb, hg.block j (by rw [setBlock_size]; exact hj) hne, setBlock_off hjb]⟩ ⟨own_sameBlock hown.1 fun g hg => setBlock_off (hv'b g hg), hown.2⟩ hl hloc
    have hr5 := update_alike (Keyed.of_law K) ht hb hbW F hkey hup
    rw [hr4] at hr5
    injection hr5 with _ hr5
    rw [setBlock_two] at hr5
    refine ⟨setBlock w2 b (.map es' clock'), hst, by rw [← hr5]; exact ho4, ?_⟩
    exact ⟨rfl, rfl, rfl, by rw [setBlock_size]; exact Nat.le_refl _, fun j hj hne => setBlock_off (fun e => hne (by rw [e]))⟩
end
end Go.Proofs.YtlifiioflkhkoaaGreat

/- Directions clockwise: the program's side. Printed by mk_cw1.py. Conditions: as each states. -/
namespace Go.Proofs.YtlifiioflkhkoaaGreat
open Go.RowKit
set_option linter.unusedVariables false
set_option maxRecDepth 100000
set_option linter.unusedSimpArgs false

def halfW (o b p : Pnt) : Int := if tn o b p < 0 then 0 else if tn o b p = 0 then 1 else 2
def cwF (o b p q : Pnt) : Bool := if halfW o b p ≠ halfW o b q then decide (halfW o b p < halfW o b q) else decide (tn o p q < 0)

set_option maxHeartbeats 4000000 in
theorem clockHalf_any (ox oy bx by_ px py : Int) (v : Int) (hv : v = halfW (ox, oy) (bx, by_) (px, py)) (w : World) (ho : pt2Ok (ox, oy) = true) (hb : pt2Ok (bx, by_) = true) (hp : pt2Ok (px, py) = true) :
    Calls Tryz.prog 115 #[.agg #[.int .i64 ox, .int .i64 oy], .agg #[.int .i64 bx, .int .i64 by_], .agg #[.int .i64 px, .int .i64 py]] w fun e w' => e = .returned (.int .i64 v) ∧ Below w.heap.size w w' := by
  obtain ⟨t, ht⟩ : ∃ t, t = turnI ox oy bx by_ px py := ⟨_, rfl⟩
  have hv2 : v = if t < 0 then 0 else if t = 0 then 1 else 2 := by rw [hv, ht]; rfl
  have hc := Lib.hid (fun W => turn_any ox oy bx by_ px py W ho hb hp)
  rw [← ht] at hc
  clear hv ht ho hb hp
  have hB := Lib.hid (((Below.refl w.heap.size w).alloc (Nat.le_refl _) (.cells #[.int .i64 ox, .int .i64 oy] 28 (0, 0))).alloc (by simp) (.cells #[.int .i64 bx, .int .i64 by_] 28 (0, 0)))
  have hB3 := Lib.hid (hB.out.alloc (by simp; omega) (.cells #[.int .i64 px, .int .i64 py] 28 (0, 0)))
  have ho := (((show PB (w.alloc (.cells #[.int .i64 ox, .int .i64 oy] 28 (0, 0))) w.heap.size ox oy from heap_alloc_new w _).alloc (.cells #[.int .i64 bx, .int .i64 by_] 28 (0, 0))).alloc (.cells #[.int .i64 px, .int .i64 py] 28 (0, 0)))
  have hb := ((show PB ((w.alloc (.cells #[.int .i64 ox, .int .i64 oy] 28 (0, 0))).alloc (.cells #[.int .i64 bx, .int .i64 by_] 28 (0, 0))) (w.heap.size + 1) bx by_ from by have := heap_alloc_new (w.alloc (.cells #[.int .i64 ox, .int .i64 oy] 28 (0, 0))) (.cells #[.int .i64 bx, .int .i64 by_] 28 (0, 0)); rw [show (w.alloc (.cells #[.int .i64 ox, .int .i64 oy] 28 (0, 0))).heap.size = w.heap.size + 1 by simp] at this; exact this).alloc (.cells #[.int .i64 px, .int .i64 py] 28 (0, 0)))
  have hp := (show PB (((w.alloc (.cells #[.int .i64 ox, .int .i64 oy] 28 (0, 0))).alloc (.cells #[.int .i64 bx, .int .i64 by_] 28 (0, 0))).alloc (.cells #[.int .i64 px, .int .i64 py] 28 (0, 0))) (w.heap.size + 2) px py from by have := heap_alloc_new ((w.alloc (.cells #[.int .i64 ox, .int .i64 oy] 28 (0, 0))).alloc (.cells #[.int .i64 bx, .int .i64 by_] 28 (0, 0))) (.cells #[.int .i64 px, .int .i64 py] 28 (0, 0)); rw [show ((w.alloc (.cells #[.int .i64 ox, .int .i64 oy] 28 (0, 0))).alloc (.cells #[.int .i64 bx, .int .i64 by_] 28 (0, 0))).heap.size = w.heap.size + 2 by simp] at this; exact this)
  have hs3 : (((w.alloc (.cells #[.int .i64 ox, .int .i64 oy] 28 (0, 0))).alloc (.cells #[.int .i64 bx, .int .i64 by_] 28 (0, 0))).alloc (.cells #[.int .i64 px, .int .i64 py] 28 (0, 0))).heap.size = w.heap.size + 3 := by simp
  by_cases h1 : t < 0
  · rw [if_pos h1] at hv2
    subst hv2
    go_enter Tryz.func115, Tryz.ntmps115
    go_upto_region 1 with fail
    generalize ((w.alloc (.cells #[.int .i64 ox, .int .i64 oy] 28 (0, 0))).alloc (.cells #[.int .i64 bx, .int .i64 by_] 28 (0, 0))).alloc (.cells #[.int .i64 px, .int .i64 py] 28 (0, 0)) = V at *
    obtain ⟨o0, o1, _, ol⟩ := PB.cells ho
    obtain ⟨b0, b1, _, bl⟩ := PB.cells hb
    obtain ⟨p0, p1, _, pl⟩ := PB.cells hp
    clear ho hb hp
    go_wp2_with (go_at_call 54; refine (hc.out _).mono ?_; rintro e w8 ⟨rfl, hb8⟩; replace hb8 := Lib.hid hb8)
    go_ret
    exact ⟨rfl, hB3.out.trans (hb8.out.mono (by omega))⟩
  rw [if_neg h1] at hv2
  by_cases h2 : t = 0
  · rw [if_pos h2] at hv2
    subst hv2
    have t2 : (t == 0) = true := by simp [h2]
    replace h2 := Lib.hid h2
    go_enter Tryz.func115, Tryz.ntmps115
    go_upto_region 1 with fail
    generalize ((w.alloc (.cells #[.int .i64 ox, .int .i64 oy] 28 (0, 0))).alloc (.cells #[.int .i64 bx, .int .i64 by_] 28 (0, 0))).alloc (.cells #[.int .i64 px, .int .i64 py] 28 (0, 0)) = V at *
    obtain ⟨o0, o1, _, ol⟩ := PB.cells ho
    obtain ⟨b0, b1, _, bl⟩ := PB.cells hb
    obtain ⟨p0, p1, _, pl⟩ := PB.cells hp
    clear ho hb hp
    go_wp2_with (go_at_call 54; refine (hc.out _).mono ?_; rintro e w8 ⟨rfl, hb8⟩; replace hb8 := Lib.hid hb8)
    go_ret
    exact ⟨rfl, hB3.out.trans (hb8.out.mono (by omega))⟩
  · rw [if_neg h2] at hv2
    subst hv2
    have t2 : (t == 0) = false := by simp [h2]
    clear h2
    go_enter Tryz.func115, Tryz.ntmps115
    go_upto_region 1 with fail
    generalize ((w.alloc (.cells #[.int .i64 ox, .int .i64 oy] 28 (0, 0))).alloc (.cells #[.int .i64 bx, .int .i64 by_] 28 (0, 0))).alloc (.cells #[.int .i64 px, .int .i64 py] 28 (0, 0)) = V at *
    obtain ⟨o0, o1, _, ol⟩ := PB.cells ho
    obtain ⟨b0, b1, _, bl⟩ := PB.cells hb
    obtain ⟨p0, p1, _, pl⟩ := PB.cells hp
    clear ho hb hp
    go_wp2_with (go_at_call 54; refine (hc.out _).mono ?_; rintro e w8 ⟨rfl, hb8⟩; replace hb8 := Lib.hid hb8)
    go_ret
    exact ⟨rfl, hB3.out.trans (hb8.out.mono (by omega))⟩

set_option maxHeartbeats 8000000 in
theorem clockFirst_any (ox oy bx by_ px py qx qy : Int) (v : Bool) (hv : v = cwF (ox, oy) (bx, by_) (px, py) (qx, qy)) (w : World) (ho : pt2Ok (ox, oy) = true) (hb : pt2Ok (bx, by_) = true) (hp : pt2Ok (px, py) = true) (hq : pt2Ok (qx, qy) = true) :
    Calls Tryz.prog 96 #[.agg #[.int .i64 ox, .int .i64 oy], .agg #[.int .i64 bx, .int .i64 by_], .agg #[.int .i64 px, .int .i64 py], .agg #[.int .i64 qx, .int .i64 qy]] w fun e w' => e = .returned (.bool v) ∧ Below w.heap.size w w' := by
  obtain ⟨h, hh⟩ : ∃ t, t = halfW (ox, oy) (bx, by_) (px, py) := ⟨_, rfl⟩
  obtain ⟨k, hk⟩ : ∃ t, t = halfW (ox, oy) (bx, by_) (qx, qy) := ⟨_, rfl⟩
  obtain ⟨t, ht⟩ : ∃ t, t = turnI ox oy px py qx qy := ⟨_, rfl⟩
  have hv2 : v = if h ≠ k then decide (h < k) else decide (t < 0) := by rw [hv, hh, hk, ht]; rfl
  have hkp := Lib.hid (fun X dr os => Calls.regrown_of (w := X) (d := dr) (os := os) (clockHalf_any ox oy bx by_ px py h hh (Go.Sort.grow (redrawn X dr) os) ho hb hp))
  have hkq := Lib.hid (fun X dr os => Calls.regrown_of (w := X) (d := dr) (os := os) (clockHalf_any ox oy bx by_ qx qy k hk (Go.Sort.grow (redrawn X dr) os) ho hb hq))
  have hc := Lib.hid (fun W => turn_any ox oy px py qx qy W ho hp hq)
  rw [← ht] at hc
  clear hv ht ho hb hp hq hh hk
  have hB := Lib.hid (((Below.refl w.heap.size w).alloc (Nat.le_refl _) (.cells #[.int .i64 ox, .int .i64 oy] 28 (0, 0))).alloc (by simp) (.cells #[.int .i64 bx, .int .i64 by_] 28 (0, 0)))
  have hB3 := Lib.hid ((hB.out.alloc (by simp; omega) (.cells #[.int .i64 px, .int .i64 py] 28 (0, 0))).alloc (by simp; omega) (.cells #[.int .i64 qx, .int .i64 qy] 28 (0, 0)))
  have ho := ((((show PB (w.alloc (.cells #[.int .i64 ox, .int .i64 oy] 28 (0, 0))) w.heap.size ox oy from heap_alloc_new w _).alloc (.cells #[.int .i64 bx, .int .i64 by_] 28 (0, 0))).alloc (.cells #[.int .i64 px, .int .i64 py] 28 (0, 0))).alloc (.cells #[.int .i64 qx, .int .i64 qy] 28 (0, 0)))
  have hb := (((show PB ((w.alloc (.cells #[.int .i64 ox, .int .i64 oy] 28 (0, 0))).alloc (.cells #[.int .i64 bx, .int .i64 by_] 28 (0, 0))) (w.heap.size + 1) bx by_ from by have := heap_alloc_new (w.alloc (.cells #[.int .i64 ox, .int .i64 oy] 28 (0, 0))) (.cells #[.int .i64 bx, .int .i64 by_] 28 (0, 0)); rw [show (w.alloc (.cells #[.int .i64 ox, .int .i64 oy] 28 (0, 0))).heap.size = w.heap.size + 1 by simp] at this; exact this).alloc (.cells #[.int .i64 px, .int .i64 py] 28 (0, 0))).alloc (.cells #[.int .i64 qx, .int .i64 qy] 28 (0, 0)))
  have hp := ((show PB (((w.alloc (.cells #[.int .i64 ox, .int .i64 oy] 28 (0, 0))).alloc (.cells #[.int .i64 bx, .int .i64 by_] 28 (0, 0))).alloc (.cells #[.int .i64 px, .int .i64 py] 28 (0, 0))) (w.heap.size + 2) px py from by have := heap_alloc_new ((w.alloc (.cells #[.int .i64 ox, .int .i64 oy] 28 (0, 0))).alloc (.cells #[.int .i64 bx, .int .i64 by_] 28 (0, 0))) (.cells #[.int .i64 px, .int .i64 py] 28 (0, 0)); rw [show ((w.alloc (.cells #[.int .i64 ox, .int .i64 oy] 28 (0, 0))).alloc (.cells #[.int .i64 bx, .int .i64 by_] 28 (0, 0))).heap.size = w.heap.size + 2 by simp] at this; exact this).alloc (.cells #[.int .i64 qx, .int .i64 qy] 28 (0, 0)))
  have hq := (show PB ((((w.alloc (.cells #[.int .i64 ox, .int .i64 oy] 28 (0, 0))).alloc (.cells #[.int .i64 bx, .int .i64 by_] 28 (0, 0))).alloc (.cells #[.int .i64 px, .int .i64 py] 28 (0, 0))).alloc (.cells #[.int .i64 qx, .int .i64 qy] 28 (0, 0))) (w.heap.size + 3) qx qy from by have := heap_alloc_new (((w.alloc (.cells #[.int .i64 ox, .int .i64 oy] 28 (0, 0))).alloc (.cells #[.int .i64 bx, .int .i64 by_] 28 (0, 0))).alloc (.cells #[.int .i64 px, .int .i64 py] 28 (0, 0))) (.cells #[.int .i64 qx, .int .i64 qy] 28 (0, 0)); rw [show (((w.alloc (.cells #[.int .i64 ox, .int .i64 oy] 28 (0, 0))).alloc (.cells #[.int .i64 bx, .int .i64 by_] 28 (0, 0))).alloc (.cells #[.int .i64 px, .int .i64 py] 28 (0, 0))).heap.size = w.heap.size + 3 by simp] at this; exact this)
  have hs3 : ((((w.alloc (.cells #[.int .i64 ox, .int .i64 oy] 28 (0, 0))).alloc (.cells #[.int .i64 bx, .int .i64 by_] 28 (0, 0))).alloc (.cells #[.int .i64 px, .int .i64 py] 28 (0, 0))).alloc (.cells #[.int .i64 qx, .int .i64 qy] 28 (0, 0))).heap.size = w.heap.size + 4 := by simp
  go_enter Tryz.func96, Tryz.ntmps96
  go_upto_region 1 with fail
  generalize (((w.alloc (.cells #[.int .i64 ox, .int .i64 oy] 28 (0, 0))).alloc (.cells #[.int .i64 bx, .int .i64 by_] 28 (0, 0))).alloc (.cells #[.int .i64 px, .int .i64 py] 28 (0, 0))).alloc (.cells #[.int .i64 qx, .int .i64 qy] 28 (0, 0)) = V at *
  obtain ⟨X, hX⟩ : ∃ X, X = w.heap.size := ⟨_, rfl⟩
  rw [← hX] at ho hb hp hq hs3 ⊢
  replace hX := Lib.hid hX
  obtain ⟨o0, o1, _, ol⟩ := ho.cells
  obtain ⟨b0, b1, _, bl⟩ := hb.cells
  obtain ⟨p0, p1, _, pl⟩ := hp.cells
  obtain ⟨q0, q1, _, ql⟩ := hq.cells
  have hoH := Lib.hid ho
  have hpH := Lib.hid hp
  have hqH := Lib.hid hq
  clear ho hb hp hq
  have o0' := fun dr os => cell_regrown o0 dr os
  have o1' := fun dr os => cell_regrown o1 dr os
  have b0' := fun dr os => cell_regrown b0 dr os
  have b1' := fun dr os => cell_regrown b1 dr os
  have p0' := fun dr os => cell_regrown p0 dr os
  have p1' := fun dr os => cell_regrown p1 dr os
  have q0' := fun dr os => cell_regrown q0 dr os
  have q1' := fun dr os => cell_regrown q1 dr os
  refine wp_region_quiet_below (by kernel_rfl) (by kernel_rfl) ?_
  repeat (go_big_quiet_step (first | (with_reducible exact hkp.out _ _ _) | (with_reducible exact hkq.out _ _ _)))
  refine wpQuiet_nil ?_
  intro _ hw'
  obtain ⟨⟨dq, osq⟩, hw''⟩ := hw'
  subst hw''
  have hb9 := below_regrown V dq osq
  have hb9H := Lib.hid (hB3.out.trans (hb9.mono (by have := hX.out; omega)))
  clear o0' o1' b0' b1' p0' p1' q0' q1' o0 o1 b0 b1 p0 p1 q0 q1 ol bl pl ql hkp hkq
  obtain ⟨o0, o1, _, ol⟩ := PB.cells (hoH.out.below hb9)
  obtain ⟨p0, p1, _, pl⟩ := PB.cells (hpH.out.below hb9)
  obtain ⟨q0, q1, _, ql⟩ := PB.cells (hqH.out.below hb9)
  have hs9 : w.heap.size ≤ (Go.Sort.grow (redrawn V dq) osq).heap.size := by have := hb9.size; have := hX.out; omega
  clear hb9 hs3
  generalize Go.Sort.grow (redrawn V dq) osq = T9 at *
  by_cases hhk : h = k
  · rw [if_neg (by simpa using hhk)] at hv2
    have t2 : (h == k) = true := by simp [hhk]
    have t3 : (h != k) = false := by simp [hhk]
    replace hhk := Lib.hid hhk
    replace hv2 := Lib.hid hv2
    go_wp2_with (go_at_call 54; refine (hc.out _).mono ?_; rintro e w8 ⟨rfl, hb8⟩; replace hb8 := Lib.hid hb8)
    go_ret
    exact ⟨by rw [hv2.out]; rfl, hb9H.out.trans (hb8.out.mono hs9)⟩
  · rw [if_pos hhk] at hv2
    have t2 : (h == k) = false := by simp [hhk]
    have t3 : (h != k) = true := by simp [hhk]
    clear hhk
    replace hv2 := Lib.hid hv2
    go_wp2_with fail
    go_ret
    exact ⟨by rw [hv2.out]; rfl, hb9H.out⟩
end Go.Proofs.YtlifiioflkhkoaaGreat

/- Rings traced along edges: the numbers alone. Conditions: as each states. -/
namespace Go.Proofs.YtlifiioflkhkoaaGreat
set_option linter.unusedVariables false
set_option maxRecDepth 100000

def legD (E : List Leg) (i : Nat) : Leg := E.getD i ((0, 0), (0, 0))
def idxP (E : List Leg) (p : Pnt) (k : Nat) : List Nat := (List.range k).filter fun i => decide ((legD E i).1 = p)
theorem idxP_next (E : List Leg) (p : Pnt) (k : Nat) : idxP E p (k + 1) = idxP E p k ++ if (legD E k).1 = p then [k] else [] := by
  unfold idxP
  rw [List.range_succ, List.filter_append]
  by_cases h : (legD E k).1 = p
  · rw [if_pos h]; simp [h]
  · rw [if_neg h]; simp [h]
theorem idxP_lt {E : List Leg} {p : Pnt} {k i : Nat} (h : i ∈ idxP E p k) : i < k := List.mem_range.1 (List.mem_filter.1 h).1
theorem idxP_len (E : List Leg) (p : Pnt) (k : Nat) : (idxP E p k).length ≤ k := by
  unfold idxP
  refine Nat.le_trans (List.length_filter_le _ _) ?_
  simp
def usedAt (U : List Bool) (i : Nat) : Bool := U.getD i false
def stepT (E : List Leg) (U : List Bool) (first : Nat) (o back : Pnt) (best : Int) (i : Nat) : Int :=
  if ((!usedAt U i || decide (i = first)) && (decide (best < 0) || cwF o back (legD E i).2 (legD E best.toNat).2)) = true then (i : Int) else best
def bestF (E : List Leg) (U : List Bool) (first : Nat) (o back : Pnt) (L : List Nat) : Int := L.foldl (stepT E U first o back) (-1)
theorem bestF_take {E : List Leg} {U : List Bool} {first : Nat} {o back : Pnt} {L : List Nat} {k i : Nat} (h : L[k]? = some i) : bestF E U first o back (L.take (k + 1)) = stepT E U first o back (bestF E U first o back (L.take k)) i := by
  unfold bestF
  rw [List.take_add_one, h, List.foldl_append]
  rfl
theorem foldl_best {E : List Leg} {U : List Bool} {first : Nat} {o back : Pnt} {n : Nat} : ∀ {L : List Nat} {b : Int}, (∀ i ∈ L, i < n) → (-1 ≤ b ∧ b < n ∧ (0 ≤ b → usedAt U b.toNat = false ∨ b = first)) →
    -1 ≤ L.foldl (stepT E U first o back) b ∧ L.foldl (stepT E U first o back) b < n ∧ (0 ≤ L.foldl (stepT E U first o back) b → usedAt U (L.foldl (stepT E U first o back) b).toNat = false ∨ L.foldl (stepT E U first o back) b = first)
  | [], b, _, h => h
  | i :: L, b, hL, h => by
    rw [List.foldl_cons]
    refine foldl_best (fun j hj => hL j (List.mem_cons_of_mem _ hj)) ?_
    unfold stepT
    split
    · rename_i hc
      have hi := hL i List.mem_cons_self
      rw [Bool.and_eq_true, Bool.or_eq_true] at hc
      refine ⟨by omega, by omega, fun _ => ?_⟩
      rcases hc.1 with h1 | h1
      · left
        rw [Int.toNat_natCast]
        simpa using h1
      · right
        have := of_decide_eq_true h1
        omega
    · exact h
theorem bestF_ok {E : List Leg} {U : List Bool} {first : Nat} {o back : Pnt} {n : Nat} {L : List Nat} (hL : ∀ i ∈ L, i < n) : -1 ≤ bestF E U first o back L ∧ bestF E U first o back L < n ∧ (0 ≤ bestF E U first o back L → usedAt U (bestF E U first o back L).toNat = false ∨ bestF E U first o back L = first) :=
  foldl_best hL ⟨by omega, by omega, fun h => by omega⟩
/-- the next edge behind an edge, or none -/
def nextT (E : List Leg) (U : List Bool) (first now : Nat) : Int := bestF E U first (legD E now).2 (legD E now).1 (idxP E (legD E now).2 E.length)
inductive RingTo (E : List Leg) (first : Nat) : List Bool → Nat → List Pnt → List Bool → List Pnt → Prop
  | stop (U now pts) : nextT E (U.set now true) first now < 0 ∨ nextT E (U.set now true) first now = first → RingTo E first U now pts (U.set now true) (pts ++ [(legD E now).1])
  | go (U now pts U' pts') : ¬ (nextT E (U.set now true) first now < 0 ∨ nextT E (U.set now true) first now = first) → RingTo E first (U.set now true) (nextT E (U.set now true) first now).toNat (pts ++ [(legD E now).1]) U' pts' → RingTo E first U now pts U' pts'
theorem RingTo.unique {E : List Leg} {first : Nat} {U : List Bool} {now : Nat} {pts : List Pnt} {U1 U2 : List Bool} {p1 p2 : List Pnt} (h : RingTo E first U now pts U1 p1) (h' : RingTo E first U now pts U2 p2) : U1 = U2 ∧ p1 = p2 := by
  induction h with
  | stop U now pts h1 =>
    cases h' with
    | stop => exact ⟨rfl, rfl⟩
    | go _ _ _ _ _ h2 => exact absurd h1 h2
  | go U now pts U' pts' h1 h2 ih =>
    cases h' with
    | stop _ _ _ h3 => exact absurd h3 h1
    | go _ _ _ _ _ _ h4 => exact ih h4
inductive AllTo (E : List Leg) : Nat → List Bool → List (List Pnt) → List (List Pnt) → Prop
  | done (k U Rs) : E.length ≤ k → AllTo E k U Rs Rs
  | skip (k U Rs X) : k < E.length → usedAt U k = true → AllTo E (k + 1) U Rs X → AllTo E k U Rs X
  | ring (k U Rs U' pts X) : k < E.length → usedAt U k = false → RingTo E k U k [] U' pts → AllTo E (k + 1) U' (Rs ++ [pts]) X → AllTo E k U Rs X
theorem AllTo.unique {E : List Leg} {k : Nat} {U : List Bool} {Rs X Y : List (List Pnt)} (h : AllTo E k U Rs X) (h' : AllTo E k U Rs Y) : X = Y := by
  induction h with
  | done k U Rs h1 =>
    cases h' with
    | done => rfl
    | skip _ _ _ _ h2 => omega
    | ring _ _ _ _ _ _ h2 => omega
  | skip k U Rs X h1 h2 h3 ih =>
    cases h' with
    | done _ _ _ h4 => omega
    | skip _ _ _ _ _ _ h4 => exact ih h4
    | ring _ _ _ _ _ _ _ h4 => rw [h2] at h4; cases h4
  | ring k U Rs U' pts X h1 h2 h3 h4 ih =>
    cases h' with
    | done _ _ _ h5 => omega
    | skip _ _ _ _ _ h5 => rw [h2] at h5; cases h5
    | ring _ _ _ _ _ _ _ _ h6 h7 =>
      obtain ⟨rfl, rfl⟩ := h3.unique h6
      exact ih h7
/-- how many edges are not used -/
def freeN (U : List Bool) : Nat := U.countP fun b => !b
theorem free_set : ∀ {U : List Bool} {i : Nat}, i < U.length → usedAt U i = false → freeN (U.set i true) + 1 = freeN U
  | [], i, h, _ => by simp at h
  | b :: U, 0, _, h => by
    have hb : b = false := h
    subst hb
    unfold freeN
    rw [List.set_cons_zero, List.countP_cons, List.countP_cons]
    simp
  | b :: U, i + 1, hl, h => by
    have ih := free_set (U := U) (i := i) (by simpa using hl) h
    unfold freeN at *
    rw [List.set_cons_succ, List.countP_cons, List.countP_cons]
    omega
end Go.Proofs.YtlifiioflkhkoaaGreat

/- The map from points to the edges that start there. Conditions: as each states. -/
namespace Go.Proofs.YtlifiioflkhkoaaGreat
open Go.RowKit Go.Maps Go.ChangeShapes Go.WideShapes Go.WideElems
open Go.ChangeMaps (setBlock)
open Go.WideMaps (KeyLaw)
set_option linter.unusedVariables false
set_option maxRecDepth 100000

def intsV (L : List Nat) : List Int := L.map fun i : Nat => (i : Int)
def itemD (L : List Nat) : DataW Unit := if L = [] then .nil else .slice (lits .i64 (intsV L)) []
def MapAt (E : List Leg) (D : DataW Unit) (k : Nat) : Prop := ∀ p kl, keyOf Tryz.prog 28 (ptV p) = some kl → D.atKey kl .nil = itemD (idxP E p k)
theorem lits_inj {a b : List Int} (h : lits (H := Unit) .i64 a = lits .i64 b) : a = b := by
  unfold lits at h
  refine (List.map_inj_right (fun x y hxy => ?_)).1 h
  injection hxy with hxy
  injection hxy
theorem zs_is {w : World} {base : Nat} {e : TypeId} {v : Value} {zs : List Int} {L : List Nat} (ho : w.ownsInts base e .i64 v zs) (h : itemD L = rowDatum .i64 v zs) : zs = intsV L := by
  unfold itemD at h
  rcases ho.datum (H := Unit) with ⟨h1, h2⟩ | h1
  · rw [h1] at h
    split at h
    · rename_i h3; rw [h2, h3]; rfl
    · cases h
  · rw [h1] at h
    split at h
    · cases h
    · injection h with h
      exact (lits_inj h).symm
theorem mapAt_zero (E : List Leg) : MapAt E (.map []) 0 := fun p kl _ => by
  show _ = itemD []
  rfl
theorem mapAt_next {E : List Leg} {D : DataW Unit} {k : Nat} (h : MapAt E D k) (hD : IsMap D) {p : Pnt} (hp : (legD E k).1 = p) {kl : Lit} (hkey : keyOf Tryz.prog 28 (ptV p) = some kl) : MapAt E (D.put kl (.slice (lits .i64 (intsV (idxP E p k) ++ [(k : Int)])) [])) (k + 1) := by
  intro p' kl' hkey'
  by_cases hk : kl' = kl
  · subst hk
    have hpp := lawPt.inj hkey hkey'
    have hpe : p = p' := by
      unfold ptV at hpp
      injection hpp with hpp
      have e0 := congrArg (fun a : Array Value => a[0]?) hpp
      have e1 := congrArg (fun a : Array Value => a[1]?) hpp
      simp at e0 e1
      exact Prod.ext e0 e1
    subst hpe
    rw [atKey_put_same hD ((Keyed.of_law lawPt).key hkey), idxP_next, if_pos hp]
    unfold itemD
    rw [if_neg (by simp)]
    unfold intsV
    rw [List.map_append]
    rfl
  · have hne : (legD E k).1 ≠ p' := by
      intro h2
      rw [hp] at h2
      subst h2
      exact hk (Option.some.inj (hkey'.symm.trans hkey))
    rw [atKey_put_other hk, h p' kl' hkey', idxP_next, if_neg hne, List.append_nil]
theorem zeroInts (u : World) : (zeroValue 130).run Tryz.prog u = .ok (.slice none 0 0) u := by kernel_rfl
theorem isMap_groups {w : World} {base b n : Nat} {e : TypeId} {q : IntKind} {D : DataW Unit} (h : w.ownsGroups Tryz.prog 28 base e q b n D) : IsMap D := by
  obtain ⟨es, clock, _, _, _, hD, _⟩ := h
  exact ⟨_, hD⟩
/-- what is found later at a point -/
theorem look_after {W w : World} {b n : Nat} {D : DataW Unit} {E : List Leg} {m : Nat} (h : W.ownsGroups Tryz.prog 28 (b + 1) 3 .i64 b n D) (hM : MapAt E D m) (hB : Below W.heap.size W w) {p : Pnt} {kl : Lit} (hkey : keyOf Tryz.prog 28 (ptV p) = some kl) :
    ∃ (A : Option Addr) (c : Nat), (Instr.lookup 129 (.map (some b)) (ptV p) false).run Tryz.prog w = .ok (.slice A (idxP E p m).length c) w ∧ w.ownsRow (b + 1) 3 1 (.slice A (idxP E p m).length c) (idxP E p m).length ((intsV (idxP E p m)).map (Value.int .i64)) := by
  obtain ⟨es, clock, hb, F, hs, hD, hbb, hlen, hap⟩ := h
  have hb' : w.heap[b]? = some (.map es clock) := (hB.block b (Array.getElem?_eq_some_iff.1 hb).1).trans hb
  have hat := hM p kl hkey
  rw [hD] at hat
  rcases Maps.fit_look false (Keyed.of_law lawPt) Tryz.underlying129 (zeroInts w) hb' F hkey with ⟨hrun, _, hno⟩ | ⟨e0, y, hm0, h3, hrun, hR, hyes, _⟩
  · rw [hno] at hat
    unfold itemD at hat
    split at hat
    · rename_i h0
      rw [h0]
      exact ⟨none, 0, hrun, World.ownsRow_nil _ _ _ _⟩
    · cases hat
  · obtain ⟨zs, ho, rfl⟩ := rowElem_inv hR
    rw [hyes] at hat
    have hzs := zs_is ho hat.symm
    have hl : zs.length = (idxP E p m).length := by rw [hzs]; unfold intsV; rw [List.length_map]
    have ho1 := ho.1
    rw [hl, hzs] at ho1
    obtain ⟨A, c, hv⟩ := own_form ho1
    rw [hv] at ho1 hrun
    exact ⟨A, c, hrun, own_below ho1 hB⟩

theorem ints_below {w w' : World} {base : Nat} {e : TypeId} {q : IntKind} {v : Value} {zs : List Int} (h : w.ownsInts base e q v zs) (hB : Below w.heap.size w w') : w'.ownsInts base e q v zs := ⟨own_below h.1 hB, h.2⟩
theorem groups_kept {w w' : World} {base b n : Nat} {e : TypeId} {q : IntKind} {D : DataW Unit} (h : w.ownsGroups Tryz.prog 28 base e q b n D) (hB : Below w.heap.size w w') : w'.ownsGroups Tryz.prog 28 base e q b n D := by
  obtain ⟨es, clock, hb, F, hs, hD, hbb, hlen, hap⟩ := h
  have hrd : ∀ x ∈ es.toList, ∀ z, rowElem (H := Unit) w base e q x.val = some z → rowElem (H := Unit) w' base e q x.val = some z := fun x _ z hz => by
    obtain ⟨zs, ho, rfl⟩ := rowElem_inv hz
    exact rowElem_mk (ints_below ho hB)
  obtain ⟨F1, hmap, _⟩ := F.stay (R' := rowElem w' base e q) hrd
  refine ⟨es, clock, (hB.block b (Array.getElem?_eq_some_iff.1 hb).1).trans hb, F1, hs, by rw [hmap]; exact hD, hbb, fun x hx zs hzs => ?_, hap⟩
  obtain ⟨y, hy⟩ := F.reads x hx
  obtain ⟨z, hz, _⟩ := rd_val hy
  obtain ⟨zs0, ho, _⟩ := rowElem_inv hz
  rw [hzs.unique (ints_below ho hB)]
  exact hlen x hx zs0 ho
theorem src_block {w : World} {b : Nat} {x : Value} {t : TypeId} {fr : Nat × Nat} (h : w.heap[b]? = some (.cells #[x] t fr)) (h1 : x.oneCell' = true) : Src w 1 (some ⟨b, 0, none⟩) 1 [x] :=
  ⟨rfl, fun u hu => by rw [List.mem_singleton.1 hu]; exact h1, fun _ => ⟨_, rfl, fun j u hu => by
    have : (⟨b, 0, none⟩ : Addr).add j = ⟨b, j, none⟩ := by unfold Addr.add; split <;> simp_all
    rw [this, Go.Joins.cell_of_block h]
    simpa using hu⟩⟩

section
variable {P : Program} {w : World} {ops : Array Oper} {rest : List Oper} {o : Oper} {a : Act} {Q : Exit → Act → World → Prop}
theorem wpEntry (hg : o.guard = none) (m x : Operand) (t : TypeId) (hop : o.op = Op.mapEntry t m x) {mv kv v : Value} {w' : World} (hm : a.eval m = mv) (hx : a.eval x = kv) (hrun : (Instr.mapEntry t mv kv).run P w = .ok v w') (hK : wpList P ops Q rest (a.put o.dst v) w') : wpList P ops Q (o :: rest) a w := by
  refine wpList_plain hg fun K' hK' => ?_
  unfold Oper.wp
  simp [execOp, hop, hm, hx, hrun, Result.andThen]
  exact hK' _ _ hK
theorem wpEStore (hg : o.guard = none) (m s x : Operand) (t : TypeId) (hop : o.op = Op.entryStore t m s x) {mv sv xv : Value} {w' : World} (hm : a.eval m = mv) (hs : a.eval s = sv) (hx : a.eval x = xv) (hrun : (Instr.entryStore t mv sv xv).run P w = .ok () w') (hK : wpList P ops Q rest (a.put o.dst undef) w') : wpList P ops Q (o :: rest) a w := by
  refine wpList_plain hg fun K' hK' => ?_
  unfold Oper.wp
  simp [execOp, hop, hm, hs, hx, hrun, Result.andThen]
  exact hK' _ _ hK
theorem wpLook (hg : o.guard = none) (m x : Operand) (t : TypeId) (hop : o.op = Op.lookup t m x false) {mv kv v : Value} {w' : World} (hm : a.eval m = mv) (hx : a.eval x = kv) (hrun : (Instr.lookup t mv kv false).run P w = .ok v w') (hK : wpList P ops Q rest (a.put o.dst v) w') : wpList P ops Q (o :: rest) a w := by
  refine wpList_plain hg fun K' hK' => ?_
  unfold Oper.wp
  simp [execOp, hop, hm, hx, hrun, Result.andThen]
  exact hK' _ _ hK
end
end Go.Proofs.YtlifiioflkhkoaaGreat

