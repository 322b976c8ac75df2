/- An outline and a point that came in, opened. No walk in sight. Conditions: none. -/
import Derived.Deep.RegionWith
import Derived.StillTailTactics
import Derived.RegionTactic
import Derived.ChangeAlike
import Derived.Outline
import Derived.Test.YtfkidklpjiiclaaGreatTe03
import Derived.Test.YtfkidklpjiiclaaGreatTe04
import Derived.Test.YtfkidklpjiiclaaGreatTe01
import Derived.Test.YtfkidklpjiiclaaGreatProg
namespace Go.Proofs.YtfkidklpjiiclaaGreat
open Go.RowKit Go.ChangeShapes Go.WideShapes Go.Deep
set_option linter.unusedVariables false
set_option maxRecDepth 100000

theorem opens_lKnot : Opens Tryz.prog 298 (FlatR knotC) := by
  intro H enc w fuel cs x h
  obtain ⟨hl, hf⟩ := struct_fields Tryz.underlying298 h
  have hc : Tryz.prog.cellsOf 298 = 3 := by kernel_rfl
  have hp : Tryz.prog.cellsOf 191 = 2 := by kernel_rfl
  have hb : Tryz.prog.cellsOf 4 = 1 := by kernel_rfl
  rw [hc] at hl
  match cs, hl with
  | [c0, c1, c2], _ =>
    obtain ⟨n0, y0, h0⟩ := struct_field hf 0 191 0 2 rfl rfl rfl hp
    obtain ⟨n1, y1, h1⟩ := struct_field hf 1 4 2 1 rfl rfl rfl hb
    obtain ⟨x0, e0⟩ := opens_lPt h0
    obtain ⟨x1, e1⟩ := opens_bool Tryz.underlying4 h1
    simp [FlatR, ptC] at e0 e1
    obtain ⟨e2, e3⟩ := e0
    subst e1 e2 e3
    exact ⟨(x0.1, x0.2, x1), rfl⟩
theorem opens_lLoop : Opens Tryz.prog 251 loopR := by
  have hk : Tryz.prog.cellsOf 298 = 3 := by kernel_rfl
  intro H enc w fuel cs x h
  exact opens_struct1 (k := 1) Tryz.underlying251 (by kernel_rfl) (opens_slice Tryz.underlying249 hk (by omega) opens_lKnot (good_flat _)) h
theorem opens_Outline {H : Type} {enc : TypeId × Value → H} {w : World} {fuel : Nat} {cs : List Value} {x : DataW H × List MemPlace} (h : DataW.trod enc Tryz.prog w 0 (fun _ => true) true fuel 32 cs = some x) :
    ∃ A n c Ls, cs = [.slice A n c] ∧ n ≤ maxLen ∧ OutRd w 0 w.heap.size A n Ls := by
  have hk : Tryz.prog.cellsOf 251 = 1 := by kernel_rfl
  obtain ⟨Ls, A, n, c, h1, h2, h3⟩ := opens_struct1 (k := 1) Tryz.underlying32 (by kernel_rfl) (opens_slice Tryz.underlying30 hk (by omega) opens_lLoop good_loop) h
  exact ⟨A, n, c, Ls, h1, h2, h3⟩
end Go.Proofs.YtfkidklpjiiclaaGreat

/- Two outlines compared by the laws' functions. Conditions: as each states. -/
namespace Go.Proofs.YtfkidklpjiiclaaGreat
open Go.RowKit
set_option linter.unusedVariables false
set_option maxRecDepth 100000

theorem eqLoop_any (A A' : Option Addr) (n c n' c' lo hi lo' hi' : Nat) (K : List Knot) (w : World) (h1 : RdS 3 (FlatR knotC) w lo hi A n K) (h2 : RdS 3 (FlatR knotC) w lo' hi' A' n' K) (hh1 : hi ≤ w.heap.size) (hh2 : hi' ≤ w.heap.size) (hn : n ≤ 100000000) :
    Calls Tryz.prog 170 #[.agg #[.slice A n c], .agg #[.slice A' n' c']] w fun e w' => e = .returned (.bool true) ∧ Below w.heap.size w w' := by
  have hc := Lib.hid (fun a b => eqKnotS_any A A' n c n' c' lo hi lo' hi' K ((w.alloc a).alloc b) (h1.frame (good_flat _) (((SameB.refl _ _ w).alloc hh1 _).alloc (by simp; omega) _)) (h2.frame (good_flat _) (((SameB.refl _ _ w).alloc hh2 _).alloc (by simp; omega) _)) (by simp; omega) (by simp; omega) (by omega))
  clear h1 h2
  go_enter Tryz.func170, Tryz.ntmps170
  go_wp2_with fail
  refine (hc.out _ _).mono ?_
  rintro e w1 ⟨rfl, hb1⟩
  go_wp2_with fail
  go_ret
  exact ⟨rfl, (Go.Joins.below_alloc2 _ _ _).trans (hb1.mono (by simp; omega))⟩

set_option maxHeartbeats 1000000 in
theorem eqLoopS_any (A A' : Option Addr) (n c n' c' lo hi lo' hi' : Nat) (Ls : List (List Knot)) (w : World) (h1 : OutRd w lo hi A n Ls) (h2 : OutRd w lo' hi' A' n' Ls) (hh1 : hi ≤ w.heap.size) (hh2 : hi' ≤ w.heap.size) (hn : n ≤ 100000000) (hK : ∀ K ∈ Ls, K.length ≤ 100000000) :
    Calls Tryz.prog 141 #[.slice A n c, .slice A' n' c'] w fun e w' => e = .returned (.bool true) ∧ Below w.heap.size w w' := by
  obtain rfl : n = n' := h1.1.symm.trans h2.1
  replace h1 := Lib.hid h1
  replace h2 := Lib.hid h2
  replace hK := Lib.hid hK
  go_enter Tryz.func141, Tryz.ntmps141
  go_wp2_with fail
  go_loopw [5] (fun i wr => ∃ k : Nat, i = .int .i64 k ∧ k ≤ n ∧ Below w.heap.size w wr) (fun i wr => n - (intOf i).toNat)
  case atStart => exact ⟨0, rfl, Nat.zero_le _, Below.refl _ _⟩
  case round =>
    obtain ⟨k, rfl, hk, hbel⟩ := hrel
    have hsz := hbel.size
    by_cases hlt : k < n
    · obtain ⟨b, off, K, A1, n1, c1, rfl, hb0, hb, hja, q0, hm, hr1⟩ := out_at (h1.out.frame good_loop (Below.sameB hbel hh1)) hlt
      obtain ⟨b', off', K', A2, n2, c2, rfl, hb0', hb', hja', q0', hm', hr2⟩ := out_at (h2.out.frame good_loop (Below.sameB hbel hh2)) hlt
      have hKK := Option.some.inj (hja.symm.trans hja')
      subst hKK
      have hlen := hK.out K (List.mem_of_getElem? hja)
      have hcall := Lib.hid (fun W (hB : SameB 0 wr.heap.size wr W) (hs : wr.heap.size ≤ W.heap.size) => eqLoop_any A1 A2 n1 c1 n2 c2 lo hi lo' hi' K W (hr1.frame (good_flat _) (hB.mono (Nat.zero_le _) (by omega))) (hr2.frame (good_flat _) (hB.mono (Nat.zero_le _) (by omega))) (by omega) (by omega) (by rw [← hr1.1]; exact hlen))
      have hbw : b < wr.heap.size := by omega
      have hbw' : b' < wr.heap.size := by omega
      clear hr1 hr2 hm hm' hja hja' hb0 hb0' hb hb' hsz hh1 hh2 h1 h2 hlen
      have hi : (0 : Int) ≤ (k : Int) ∧ (k : Int) < (n : Int) := by omega
      go_wp2_with fail
      go_still_tail 8, (by kernel_rfl)
      go_wp2_with (go_at_call 170; refine (hcall.out _ (SameB.refl _ _ wr).drew (Nat.le_refl _)).mono ?_; rintro e w1 ⟨rfl, hb1⟩)
      go_roundw
      case rel => exact ⟨k + 1, by go_num, by omega, hbel.drew.trans (hb1.mono (by simp; exact hbel.size))⟩
      case measure => simp [intOf]; omega
    · go_wp2_with fail
      go_ret
      exact ⟨rfl, hbel⟩

theorem eqOutline_any (A A' : Option Addr) (n c n' c' lo hi lo' hi' : Nat) (Ls : List (List Knot)) (w : World) (h1 : OutRd w lo hi A n Ls) (h2 : OutRd w lo' hi' A' n' Ls) (hh1 : hi ≤ w.heap.size) (hh2 : hi' ≤ w.heap.size) (hn : n ≤ 100000000) (hK : ∀ K ∈ Ls, K.length ≤ 100000000) :
    Calls Tryz.prog 89 #[.agg #[.slice A n c], .agg #[.slice A' n' c']] w fun e w' => e = .returned (.bool true) ∧ Below w.heap.size w w' := by
  have hc := Lib.hid (fun a b => eqLoopS_any A A' n c n' c' lo hi lo' hi' Ls ((w.alloc a).alloc b) (h1.frame good_loop (((SameB.refl _ _ w).alloc hh1 _).alloc (by simp; omega) _)) (h2.frame good_loop (((SameB.refl _ _ w).alloc hh2 _).alloc (by simp; omega) _)) (by simp; omega) (by simp; omega) hn hK)
  clear h1 h2
  go_enter Tryz.func89, Tryz.ntmps89
  go_wp2_with fail
  refine (hc.out _ _).mono ?_
  rintro e w1 ⟨rfl, hb1⟩
  go_wp2_with fail
  go_ret
  exact ⟨rfl, (Go.Joins.below_alloc2 _ _ _).trans (hb1.mono (by simp; omega))⟩
end Go.Proofs.YtfkidklpjiiclaaGreat

/- The laws' own functions on slices of Part. Conditions: as each states. -/
namespace Go.Proofs.YtfkidklpjiiclaaGreat
open Go.RowKit
set_option linter.unusedVariables false
set_option maxRecDepth 100000

theorem toPart_any (x0 : Int) (x1 : Int) (x2 : Int) (w : World) :
    Calls Tryz.prog 117 #[.agg #[.int .i64 x0, .int .i64 x1, .int .i64 x2]] w fun e w' => e = .returned (.agg #[.int .i64 x0, .int .i64 x1, .int .i64 x2]) ∧ Below w.heap.size w w' := by
  go_enter Tryz.func117, Tryz.ntmps117
  go_wp2_with fail
  refine (toPt_any _ _ _).mono ?_
  rintro e w1 ⟨rfl, hb1⟩
  obtain ⟨hc, hf⟩ := bcell hb1
  have hz1 := hb1.size
  simp at hz1
  have d0 : w1.cell? ⟨w.heap.size + 2, 0, none⟩ = some (.int .i64 x0) := by rw [hc _ _ (by simp <;> omega)]; go_simp
  have d1 : w1.cell? ⟨w.heap.size + 2, 1, none⟩ = some (.int .i64 0) := by rw [hc _ _ (by simp <;> omega)]; go_simp
  have d2 : w1.cell? ⟨w.heap.size + 2, 2, none⟩ = some (.int .i64 0) := by rw [hc _ _ (by simp <;> omega)]; go_simp
  have e0 : w1.cell? ⟨w.heap.size + 1, 0, none⟩ = some (.int .i64 0) := by rw [hc _ _ (by simp <;> omega)]; go_simp
  have e1 : w1.cell? ⟨w.heap.size + 1, 1, none⟩ = some (.int .i64 0) := by rw [hc _ _ (by simp <;> omega)]; go_simp
  have e2 : w1.cell? ⟨w.heap.size + 1, 2, none⟩ = some (.int .i64 0) := by rw [hc _ _ (by simp <;> omega)]; go_simp
  have g1 : ∀ o, w1.frozen? ⟨w.heap.size + 1, o, none⟩ = false := by intro o; rw [hf _ _ (by simp <;> omega)]; go_simp
  have g2 : ∀ o, w1.frozen? ⟨w.heap.size + 2, o, none⟩ = false := by intro o; rw [hf _ _ (by simp <;> omega)]; go_simp
  clear hc hf
  go_wp2_with fail
  refine bodyPost_ret (v := .agg #[.int .i64 x0, .int .i64 x1, .int .i64 x2]) (by simp [results, Tryz.results117, go_sem, e0, e1, e2]) rfl ⟨rfl, ?_⟩
  have hB : Below w.heap.size w w1 := ((((Below.refl _ _).alloc (Nat.le_refl _) _).alloc (by simp) _).alloc (by simp <;> omega) _).trans (hb1.mono (by simp <;> omega))
  exact ((((hB.setCell (by simp <;> omega) _).setCell (by simp <;> omega) _).setCell (by simp <;> omega) _).setCell (by simp <;> omega) _).setCell (by simp <;> omega) _

theorem eqPart_any (x0 : Int) (x1 : Int) (x2 : Int) (w : World) :
    Calls Tryz.prog 142 #[.agg #[.int .i64 x0, .int .i64 x1, .int .i64 x2], .agg #[.int .i64 x0, .int .i64 x1, .int .i64 x2]] w fun e w' => e = .returned (.bool true) ∧ Below w.heap.size w w' := by
  go_enter Tryz.func142, Tryz.ntmps142
  go_wp2_with fail
  refine (eqPt_any _ _ _).mono ?_
  rintro e w1 ⟨rfl, hb1⟩
  obtain ⟨hc, hf⟩ := bcell hb1
  have hz1 := hb1.size
  simp at hz1
  clear hc hf
  go_wp2_with fail
  go_ret
  exact ⟨rfl, (((Below.refl _ _).alloc (Nat.le_refl _) _).alloc (by simp) _).trans (hb1.mono (by simp <;> omega))⟩

theorem infoPart : (Tryz.prog.info? 150).map (fun i => (i.zero, i.size, i.bytes)) = some (some (.agg #[.int .i64 0, .int .i64 0, .int .i64 0]), 3, 24) := by kernel_rfl

theorem szPartS_any (A : Option Addr) (n c : Nat) (left : Int) (w : World) (hn : n ≤ 9223372036854775807) (h0 : 0 ≤ left) (h1 : left ≤ 1048576) (r : Int) (hr : r = if (n : Int) ≤ left then left - n else -1) :
    Calls Tryz.prog 48 #[.slice A n c, .int .i64 left] w fun e w' => e = .returned (.int .i64 r) ∧ w = w' := by
  by_cases h : (n : Int) ≤ left
  · rw [if_pos h] at hr
    subst hr
    go_enter Tryz.func48, Tryz.ntmps48
    go_wp2_with fail
    go_ret
    exact ⟨rfl, rfl⟩
  · rw [if_neg h] at hr
    subst hr
    go_enter Tryz.func48, Tryz.ntmps48
    go_wp2_with fail
    go_ret
    exact ⟨rfl, rfl⟩

set_option maxHeartbeats 1000000 in
theorem toPartS_any (A : Option Addr) (n c lo hi : Nat) (L : List (Int × Int × Int)) (w : World) (hr : RdS 3 (FlatR partC) w lo hi A n L) (hhi : hi ≤ w.heap.size) (hn : n ≤ 1048576) :
    Calls Tryz.prog 62 #[.slice A n c] w fun e w' => ∃ g, e = .returned (.slice (some ⟨g, 0, none⟩) n n) ∧ g = w.heap.size ∧ w'.ownsRow w.heap.size 150 3 (.slice (some ⟨g, 0, none⟩) n n) n (L.flatMap partC) ∧ Below w.heap.size w w' := by
  obtain ⟨i0, hi0, hz0, hs0, hby0⟩ := info_parts infoPart
  replace hr := Lib.hid hr
  go_enter Tryz.func62, Tryz.ntmps62
  go_wp2_with (at_make; refine wpList_make_full _ rfl _ _ 55 rfl w.heap.size 150 i0 (.agg #[.int .i64 0, .int .i64 0, .int .i64 0]) 3 Tryz.underlying55 hi0 hz0 hs0 .i64 .i64 _ _ n rfl rfl rfl rfl (by rw [hby0]; omega) (by unfold maxLen; omega) (Nat.le_refl _) ?_; intro w0 hown0 hg0)
  have hb0 : Below w.heap.size w w0 := (Below.refl _ _).grown hg0 (Nat.le_refl _) (by simp)
  clear hg0
  go_loopw [4] (fun i wr => ∃ (k : Nat) (ys : List Value), i = .int .i64 k ∧ k ≤ n ∧ wr.ownsRow w.heap.size 150 3 (.slice (some ⟨w.heap.size, 0, none⟩) n n) n ys ∧ (∀ j a, j < k → L[j]? = some a → ∀ i, i < 3 → ys[j * 3 + i]? = (partC a)[i]?) ∧ Below w.heap.size w wr) (fun i wr => n - (intOf i).toNat)
  case atStart => exact ⟨0, _, rfl, Nat.zero_le _, hown0, fun j a hj => absurd hj (Nat.not_lt_zero j), hb0⟩
  case round =>
    clear hown0 hb0
    obtain ⟨k, ys, rfl, hk, ho, hall, hbel⟩ := hrel
    replace hall := Lib.hid hall
    by_cases hlt : k < n
    · obtain ⟨b, off, ⟨x0, x1, x2⟩, rfl, hb0, hb, hja, hcs⟩ := (hr.out.frame (good_flat _) (Below.sameB hbel hhi)).at hlt
      have q0 := hcs 0 _ rfl
      have q1 := hcs 1 _ rfl
      have q2 := hcs 2 _ rfl
      simp only [Nat.add_zero] at q0 q1 q2
      clear hcs
      replace hja := Lib.hid hja
      replace ho := Lib.hid ho
      go_wp2_with (go_at_call 117; refine (toPart_any _ _ _ _).mono ?_; rintro e w1 ⟨rfl, hb1⟩; have ho1 := own_below ho.out hb1; obtain ⟨g, hg, _, hglt, _, hcell, hfr⟩ := own_at ho1 (by omega); injection hg with hg; injection hg with hg; subst hg; have hyl := ho1.1; have c0 := hcell (k * 3) (by omega); have c1 := hcell (k * 3 + 1) (by omega); have c2 := hcell (k * 3 + 2) (by omega); rw [List.getElem?_eq_getElem (by omega)] at c0 c1 c2; have f0 := hfr (k * 3); have f1 := hfr (k * 3 + 1); have f2 := hfr (k * 3 + 2); clear hcell hfr; replace ho1 := Lib.hid ho1; replace hyl := Lib.hid hyl; generalize ys[k * 3]'(by have := hyl.out; omega) = v0 at c0; generalize ys[k * 3 + 1]'(by have := hyl.out; omega) = v1 at c1; generalize ys[k * 3 + 2]'(by have := hyl.out; omega) = v2 at c2)
      go_roundw
      case rel =>
        have hyl := ho1.out.1
        refine ⟨k + 1, _, by go_num, by omega, (((ho1.out.stored (k * 3) (.int .i64 x0)).1.stored (k * 3 + 1) (.int .i64 x1)).1.stored (k * 3 + 2) (.int .i64 x2)).1, fun j a hj ha i hi => ?_, (((hbel.trans (hb1.mono hbel.size)).setCell (Nat.le_refl _) _).setCell (Nat.le_refl _) _).setCell (Nat.le_refl _) _⟩
        rcases Nat.lt_or_ge j k with h | h
        · rw [List.getElem?_set_ne (by omega), List.getElem?_set_ne (by omega), List.getElem?_set_ne (by omega)]
          exact hall.out j a h ha i hi
        · obtain rfl : j = k := by omega
          have ha := Option.some.inj (hja.out.symm.trans ha)
          subst ha
          obtain rfl | hi' : i = 0 ∨ 0 < i := by omega
          · simp only [Nat.add_zero]
            rw [List.getElem?_set_ne (by omega), List.getElem?_set_ne (by omega), List.getElem?_set_self (by first | omega | (simp only [List.length_set]; omega))]
            rfl
          obtain rfl | hi' : i = 1 ∨ 1 < i := by omega
          · skip
            rw [List.getElem?_set_ne (by omega), List.getElem?_set_self (by first | omega | (simp only [List.length_set]; omega))]
            rfl
          obtain rfl | hi' : i = 2 ∨ 2 < i := by omega
          · skip
            rw [List.getElem?_set_self (by first | omega | (simp only [List.length_set]; omega))]
            rfl
          omega
      case measure => simp [intOf]; omega
    · have hkn : k = n := by omega
      replace hkn := Lib.hid hkn
      replace ho := Lib.hid ho
      go_wp2_with fail
      go_ret
      refine ⟨w.heap.size, rfl, rfl, ?_, hbel⟩
      have : ys = L.flatMap partC := flat_ext (k := 3) (n := n) partC_len hr.out.1 ho.out.1 fun j a ha i hi => by
        have h1 := hall.out j a (by rw [hkn.out]; have := (List.getElem?_eq_some_iff.1 ha).1; rw [hr.out.1] at this; exact this) ha i hi
        simpa using h1
      rw [← this]; exact ho.out

set_option maxRecDepth 100000 in
set_option maxHeartbeats 1000000 in
theorem eqPartS_any (A A' : Option Addr) (n c n' c' lo hi lo' hi' : Nat) (L : List (Int × Int × Int)) (w : World) (h1 : RdS 3 (FlatR partC) w lo hi A n L) (h2 : RdS 3 (FlatR partC) w lo' hi' A' n' L) (hh1 : hi ≤ w.heap.size) (hh2 : hi' ≤ w.heap.size) (hn : n ≤ 1000000000) :
    Calls Tryz.prog 90 #[.slice A n c, .slice A' n' c'] w fun e w' => e = .returned (.bool true) ∧ Below w.heap.size w w' := by
  obtain rfl : n = n' := h1.1.symm.trans h2.1
  replace h1 := Lib.hid h1
  replace h2 := Lib.hid h2
  go_enter Tryz.func90, Tryz.ntmps90
  go_wp2_with fail
  go_loopw [5] (fun i wr => ∃ k : Nat, i = .int .i64 k ∧ k ≤ n ∧ Below w.heap.size w wr) (fun i wr => n - (intOf i).toNat)
  case atStart => exact ⟨0, rfl, Nat.zero_le _, Below.refl _ _⟩
  case round =>
    obtain ⟨k, rfl, hk, hbel⟩ := hrel
    have hsz := hbel.size
    by_cases hlt : k < n
    · obtain ⟨b, off, ⟨x0, x1, x2⟩, rfl, hb0, hb, hja, hcs⟩ := (h1.out.frame (good_flat _) (Below.sameB hbel hh1)).at hlt
      obtain ⟨b', off', a', rfl, hb0', hb', hja', hcs'⟩ := (h2.out.frame (good_flat _) (Below.sameB hbel hh2)).at hlt
      have hja' := Option.some.inj (hja.symm.trans hja')
      subst hja' 
      have q0 := hcs 0 _ rfl
      have p0 := hcs' 0 _ rfl
      have q1 := hcs 1 _ rfl
      have p1 := hcs' 1 _ rfl
      have q2 := hcs 2 _ rfl
      have p2 := hcs' 2 _ rfl
      simp only [Nat.add_zero] at q0 p0 q1 p1 q2 p2
      clear hcs hcs' hja
      have hbw : b < wr.heap.size := by omega
      have hbw' : b' < wr.heap.size := by omega
      clear hb0 hb0' hb hb' hsz hh1 hh2 h1 h2
      have hi : (0 : Int) ≤ (k : Int) ∧ (k : Int) < (n : Int) := by omega
      go_wp2_with fail
      go_still_tail 8, (by kernel_rfl)
      go_wp2_with (go_at_call 142; refine (eqPart_any _ _ _ _).mono ?_; rintro e w1 ⟨rfl, hb1⟩)
      go_roundw
      case rel => exact ⟨k + 1, by go_num, by omega, hbel.drew.trans (hb1.mono (by simp; exact hbel.size))⟩
      case measure => simp [intOf]; omega
    · go_wp2_with fail
      go_ret
      exact ⟨rfl, hbel⟩

end Go.Proofs.YtfkidklpjiiclaaGreat

/- The laws' own functions on slices of Anchor. Conditions: as each states. -/
namespace Go.Proofs.YtfkidklpjiiclaaGreat
open Go.RowKit
set_option linter.unusedVariables false
set_option maxRecDepth 100000

theorem toAnchor_any (x0 : ByteArray) (x1 : Int) (x2 : Int) (w : World) :
    Calls Tryz.prog 118 #[.agg #[.string x0, .int .i64 x1, .int .i64 x2]] w fun e w' => e = .returned (.agg #[.string x0, .int .i64 x1, .int .i64 x2]) ∧ Below w.heap.size w w' := by
  go_enter Tryz.func118, Tryz.ntmps118
  go_wp2_with fail
  refine (toPt_any _ _ _).mono ?_
  rintro e w1 ⟨rfl, hb1⟩
  obtain ⟨hc, hf⟩ := bcell hb1
  have hz1 := hb1.size
  simp at hz1
  have d0 : w1.cell? ⟨w.heap.size + 2, 0, none⟩ = some (.string x0) := by rw [hc _ _ (by simp <;> omega)]; go_simp
  have d1 : w1.cell? ⟨w.heap.size + 2, 1, none⟩ = some (.int .i64 0) := by rw [hc _ _ (by simp <;> omega)]; go_simp
  have d2 : w1.cell? ⟨w.heap.size + 2, 2, none⟩ = some (.int .i64 0) := by rw [hc _ _ (by simp <;> omega)]; go_simp
  have e0 : w1.cell? ⟨w.heap.size + 1, 0, none⟩ = some (.string ⟨#[]⟩) := by rw [hc _ _ (by simp <;> omega)]; go_simp
  have e1 : w1.cell? ⟨w.heap.size + 1, 1, none⟩ = some (.int .i64 0) := by rw [hc _ _ (by simp <;> omega)]; go_simp
  have e2 : w1.cell? ⟨w.heap.size + 1, 2, none⟩ = some (.int .i64 0) := by rw [hc _ _ (by simp <;> omega)]; go_simp
  have g1 : ∀ o, w1.frozen? ⟨w.heap.size + 1, o, none⟩ = false := by intro o; rw [hf _ _ (by simp <;> omega)]; go_simp
  have g2 : ∀ o, w1.frozen? ⟨w.heap.size + 2, o, none⟩ = false := by intro o; rw [hf _ _ (by simp <;> omega)]; go_simp
  clear hc hf
  go_wp2_with fail
  refine bodyPost_ret (v := .agg #[.string x0, .int .i64 x1, .int .i64 x2]) (by simp [results, Tryz.results118, go_sem, e0, e1, e2]) rfl ⟨rfl, ?_⟩
  have hB : Below w.heap.size w w1 := ((((Below.refl _ _).alloc (Nat.le_refl _) _).alloc (by simp) _).alloc (by simp <;> omega) _).trans (hb1.mono (by simp <;> omega))
  exact ((((hB.setCell (by simp <;> omega) _).setCell (by simp <;> omega) _).setCell (by simp <;> omega) _).setCell (by simp <;> omega) _).setCell (by simp <;> omega) _

theorem eqAnchor_any (x0 : ByteArray) (x1 : Int) (x2 : Int) (w : World) :
    Calls Tryz.prog 143 #[.agg #[.string x0, .int .i64 x1, .int .i64 x2], .agg #[.string x0, .int .i64 x1, .int .i64 x2]] w fun e w' => e = .returned (.bool true) ∧ Below w.heap.size w w' := by
  go_enter Tryz.func143, Tryz.ntmps143
  go_wp2_with fail
  refine (eqPt_any _ _ _).mono ?_
  rintro e w1 ⟨rfl, hb1⟩
  obtain ⟨hc, hf⟩ := bcell hb1
  have hz1 := hb1.size
  simp at hz1
  clear hc hf
  go_wp2_with fail
  go_ret
  exact ⟨rfl, (((Below.refl _ _).alloc (Nat.le_refl _) _).alloc (by simp) _).trans (hb1.mono (by simp <;> omega))⟩

theorem infoAnchor : (Tryz.prog.info? 170).map (fun i => (i.zero, i.size, i.bytes)) = some (some (.agg #[.string ⟨#[]⟩, .int .i64 0, .int .i64 0]), 3, 32) := by kernel_rfl

set_option maxHeartbeats 1000000 in
theorem toAnchorS_any (A : Option Addr) (n c lo hi : Nat) (L : List (ByteArray × Int × Int)) (w : World) (hr : RdS 3 (FlatR anchC) w lo hi A n L) (hhi : hi ≤ w.heap.size) (hn : n ≤ 1048576) :
    Calls Tryz.prog 63 #[.slice A n c] w fun e w' => ∃ g, e = .returned (.slice (some ⟨g, 0, none⟩) n n) ∧ g = w.heap.size ∧ w'.ownsRow w.heap.size 170 3 (.slice (some ⟨g, 0, none⟩) n n) n (L.flatMap anchC) ∧ Below w.heap.size w w' := by
  obtain ⟨i0, hi0, hz0, hs0, hby0⟩ := info_parts infoAnchor
  replace hr := Lib.hid hr
  go_enter Tryz.func63, Tryz.ntmps63
  go_wp2_with (at_make; refine wpList_make_full _ rfl _ _ 56 rfl w.heap.size 170 i0 (.agg #[.string ⟨#[]⟩, .int .i64 0, .int .i64 0]) 3 Tryz.underlying56 hi0 hz0 hs0 .i64 .i64 _ _ n rfl rfl rfl rfl (by rw [hby0]; omega) (by unfold maxLen; omega) (Nat.le_refl _) ?_; intro w0 hown0 hg0)
  have hb0 : Below w.heap.size w w0 := (Below.refl _ _).grown hg0 (Nat.le_refl _) (by simp)
  clear hg0
  go_loopw [4] (fun i wr => ∃ (k : Nat) (ys : List Value), i = .int .i64 k ∧ k ≤ n ∧ wr.ownsRow w.heap.size 170 3 (.slice (some ⟨w.heap.size, 0, none⟩) n n) n ys ∧ (∀ j a, j < k → L[j]? = some a → ∀ i, i < 3 → ys[j * 3 + i]? = (anchC a)[i]?) ∧ Below w.heap.size w wr) (fun i wr => n - (intOf i).toNat)
  case atStart => exact ⟨0, _, rfl, Nat.zero_le _, hown0, fun j a hj => absurd hj (Nat.not_lt_zero j), hb0⟩
  case round =>
    clear hown0 hb0
    obtain ⟨k, ys, rfl, hk, ho, hall, hbel⟩ := hrel
    replace hall := Lib.hid hall
    by_cases hlt : k < n
    · obtain ⟨b, off, ⟨x0, x1, x2⟩, rfl, hb0, hb, hja, hcs⟩ := (hr.out.frame (good_flat _) (Below.sameB hbel hhi)).at hlt
      have q0 := hcs 0 _ rfl
      have q1 := hcs 1 _ rfl
      have q2 := hcs 2 _ rfl
      simp only [Nat.add_zero] at q0 q1 q2
      clear hcs
      replace hja := Lib.hid hja
      replace ho := Lib.hid ho
      go_wp2_with (go_at_call 118; refine (toAnchor_any _ _ _ _).mono ?_; rintro e w1 ⟨rfl, hb1⟩; have ho1 := own_below ho.out hb1; obtain ⟨g, hg, _, hglt, _, hcell, hfr⟩ := own_at ho1 (by omega); injection hg with hg; injection hg with hg; subst hg; have hyl := ho1.1; have c0 := hcell (k * 3) (by omega); have c1 := hcell (k * 3 + 1) (by omega); have c2 := hcell (k * 3 + 2) (by omega); rw [List.getElem?_eq_getElem (by omega)] at c0 c1 c2; have f0 := hfr (k * 3); have f1 := hfr (k * 3 + 1); have f2 := hfr (k * 3 + 2); clear hcell hfr; replace ho1 := Lib.hid ho1; replace hyl := Lib.hid hyl; generalize ys[k * 3]'(by have := hyl.out; omega) = v0 at c0; generalize ys[k * 3 + 1]'(by have := hyl.out; omega) = v1 at c1; generalize ys[k * 3 + 2]'(by have := hyl.out; omega) = v2 at c2)
      go_roundw
      case rel =>
        have hyl := ho1.out.1
        refine ⟨k + 1, _, by go_num, by omega, (((ho1.out.stored (k * 3) (.string x0)).1.stored (k * 3 + 1) (.int .i64 x1)).1.stored (k * 3 + 2) (.int .i64 x2)).1, fun j a hj ha i hi => ?_, (((hbel.trans (hb1.mono hbel.size)).setCell (Nat.le_refl _) _).setCell (Nat.le_refl _) _).setCell (Nat.le_refl _) _⟩
        rcases Nat.lt_or_ge j k with h | h
        · rw [List.getElem?_set_ne (by omega), List.getElem?_set_ne (by omega), List.getElem?_set_ne (by omega)]
          exact hall.out j a h ha i hi
        · obtain rfl : j = k := by omega
          have ha := Option.some.inj (hja.out.symm.trans ha)
          subst ha
          obtain rfl | hi' : i = 0 ∨ 0 < i := by omega
          · simp only [Nat.add_zero]
            rw [List.getElem?_set_ne (by omega), List.getElem?_set_ne (by omega), List.getElem?_set_self (by first | omega | (simp only [List.length_set]; omega))]
            rfl
          obtain rfl | hi' : i = 1 ∨ 1 < i := by omega
          · skip
            rw [List.getElem?_set_ne (by omega), List.getElem?_set_self (by first | omega | (simp only [List.length_set]; omega))]
            rfl
          obtain rfl | hi' : i = 2 ∨ 2 < i := by omega
          · skip
            rw [List.getElem?_set_self (by first | omega | (simp only [List.length_set]; omega))]
            rfl
          omega
      case measure => simp [intOf]; omega
    · have hkn : k = n := by omega
      replace hkn := Lib.hid hkn
      replace ho := Lib.hid ho
      go_wp2_with fail
      go_ret
      refine ⟨w.heap.size, rfl, rfl, ?_, hbel⟩
      have : ys = L.flatMap anchC := flat_ext (k := 3) (n := n) anchC_len hr.out.1 ho.out.1 fun j a ha i hi => by
        have h1 := hall.out j a (by rw [hkn.out]; have := (List.getElem?_eq_some_iff.1 ha).1; rw [hr.out.1] at this; exact this) ha i hi
        simpa using h1
      rw [← this]; exact ho.out

set_option maxRecDepth 100000 in
set_option maxHeartbeats 1000000 in
theorem eqAnchorS_any (A A' : Option Addr) (n c n' c' lo hi lo' hi' : Nat) (L : List (ByteArray × Int × Int)) (w : World) (h1 : RdS 3 (FlatR anchC) w lo hi A n L) (h2 : RdS 3 (FlatR anchC) w lo' hi' A' n' L) (hh1 : hi ≤ w.heap.size) (hh2 : hi' ≤ w.heap.size) (hn : n ≤ 1000000000) :
    Calls Tryz.prog 91 #[.slice A n c, .slice A' n' c'] w fun e w' => e = .returned (.bool true) ∧ Below w.heap.size w w' := by
  obtain rfl : n = n' := h1.1.symm.trans h2.1
  replace h1 := Lib.hid h1
  replace h2 := Lib.hid h2
  go_enter Tryz.func91, Tryz.ntmps91
  go_wp2_with fail
  go_loopw [5] (fun i wr => ∃ k : Nat, i = .int .i64 k ∧ k ≤ n ∧ Below w.heap.size w wr) (fun i wr => n - (intOf i).toNat)
  case atStart => exact ⟨0, rfl, Nat.zero_le _, Below.refl _ _⟩
  case round =>
    obtain ⟨k, rfl, hk, hbel⟩ := hrel
    have hsz := hbel.size
    by_cases hlt : k < n
    · obtain ⟨b, off, ⟨x0, x1, x2⟩, rfl, hb0, hb, hja, hcs⟩ := (h1.out.frame (good_flat _) (Below.sameB hbel hh1)).at hlt
      obtain ⟨b', off', a', rfl, hb0', hb', hja', hcs'⟩ := (h2.out.frame (good_flat _) (Below.sameB hbel hh2)).at hlt
      have hja' := Option.some.inj (hja.symm.trans hja')
      subst hja' 
      have q0 := hcs 0 _ rfl
      have p0 := hcs' 0 _ rfl
      have q1 := hcs 1 _ rfl
      have p1 := hcs' 1 _ rfl
      have q2 := hcs 2 _ rfl
      have p2 := hcs' 2 _ rfl
      simp only [Nat.add_zero] at q0 p0 q1 p1 q2 p2
      clear hcs hcs' hja
      have hbw : b < wr.heap.size := by omega
      have hbw' : b' < wr.heap.size := by omega
      clear hb0 hb0' hb hb' hsz hh1 hh2 h1 h2
      have hi : (0 : Int) ≤ (k : Int) ∧ (k : Int) < (n : Int) := by omega
      go_wp2_with fail
      go_still_tail 8, (by kernel_rfl)
      go_wp2_with (go_at_call 143; refine (eqAnchor_any _ _ _ _).mono ?_; rintro e w1 ⟨rfl, hb1⟩)
      go_roundw
      case rel => exact ⟨k + 1, by go_num, by omega, hbel.drew.trans (hb1.mono (by simp; exact hbel.size))⟩
      case measure => simp [intOf]; omega
    · go_wp2_with fail
      go_ret
      exact ⟨rfl, hbel⟩

end Go.Proofs.YtfkidklpjiiclaaGreat

/- Glyphs and sets of glyphs: the data, how they lie in memory, opened out of an argument, counted by the laws' functions. Conditions: as each states. -/
namespace Go.Proofs.YtfkidklpjiiclaaGreat
open Go.RowKit Go.ChangeShapes Go.WideShapes Go.Deep
set_option linter.unusedVariables false
set_option maxRecDepth 100000

abbrev Part := Int × Int × Int
abbrev Anch := ByteArray × Int × Int
structure Gl where
  name : ByteArray
  code : Int
  adv : Int
  out : List (List Knot)
  parts : List Part
  anchors : List Anch
  hints : ByteArray
  deriving DecidableEq
structure GlH where
  out : Hd
  parts : Hd
  anchors : Hd
def glC (d : Gl) (h : GlH) : List Value := [.string d.name, .int .i64 d.code, .int .i64 d.adv, .slice h.out.A h.out.n h.out.c, .slice h.parts.A h.parts.n h.parts.c, .slice h.anchors.A h.anchors.n h.anchors.c, .string d.hints]
abbrev glV (d : Gl) (h : GlH) : Value := .agg #[.string d.name, .int .i64 d.code, .int .i64 d.adv, .slice h.out.A h.out.n h.out.c, .slice h.parts.A h.parts.n h.parts.c, .slice h.anchors.A h.anchors.n h.anchors.c, .string d.hints]
def GlRd (w : World) (lo hi : Nat) (d : Gl) (h : GlH) : Prop := OutRd w lo hi h.out.A h.out.n d.out ∧ RdS 3 (FlatR partC) w lo hi h.parts.A h.parts.n d.parts ∧ RdS 3 (FlatR anchC) w lo hi h.anchors.A h.anchors.n d.anchors
theorem GlRd.frame {w w' : World} {lo hi : Nat} {d : Gl} {h : GlH} (r : GlRd w lo hi d h) (s : SameB lo hi w w') : GlRd w' lo hi d h := ⟨r.1.frame good_loop s, r.2.1.frame (good_flat _) s, r.2.2.frame (good_flat _) s⟩
theorem GlRd.wide {w : World} {lo hi lo' hi' : Nat} {d : Gl} {h : GlH} (r : GlRd w lo hi d h) (h1 : lo' ≤ lo) (h2 : hi ≤ hi') : GlRd w lo' hi' d h := ⟨r.1.wide good_loop h1 h2, r.2.1.wide (good_flat _) h1 h2, r.2.2.wide (good_flat _) h1 h2⟩
/-- a glyph's seven cells -/
def glyphR : Rel Gl := fun w lo hi d cs => ∃ h, cs = glC d h ∧ GlRd w lo hi d h
theorem good_glyph : Good glyphR := by
  constructor
  · rintro w w' lo hi d cs ⟨h, rfl, r⟩ s
    exact ⟨h, rfl, r.frame s⟩
  · rintro w lo hi lo' hi' d cs ⟨h, rfl, r⟩ h1 h2
    exact ⟨h, rfl, r.wide h1 h2⟩
/-- no more than b of anything -/
structure Gl.small (d : Gl) (b : Nat) : Prop where
  o : d.out.length ≤ b
  k : ∀ K ∈ d.out, K.length ≤ b
  p : d.parts.length ≤ b
  a : d.anchors.length ≤ b
theorem Gl.small.mono {d : Gl} {a b : Nat} (h : d.small a) (hab : a ≤ b) : d.small b := ⟨Nat.le_trans h.o hab, fun K hK => Nat.le_trans (h.k K hK) hab, Nat.le_trans h.p hab, Nat.le_trans h.a hab⟩
theorem Gl.small.out {d : Gl} {b n : Nat} (h : d.small b) (e : d.out.length = n) : n ≤ b ∧ ∀ K ∈ d.out, K.length ≤ b := ⟨e ▸ h.o, h.k⟩
theorem Gl.small.parts {d : Gl} {b n : Nat} (h : d.small b) (e : d.parts.length = n) : n ≤ b := e ▸ h.p
theorem Gl.small.anchors {d : Gl} {b n : Nat} (h : d.small b) (e : d.anchors.length = n) : n ≤ b := e ▸ h.a
/-- its texts can be read -/
def Gl.str (d : Gl) : Prop := d.name.size ≤ maxLen ∧ d.hints.size ≤ maxLen ∧ ∀ a ∈ d.anchors, a.1.size ≤ maxLen
abbrev GsRd (w : World) (lo hi : Nat) (A : Option Addr) (n : Nat) (L : List Gl) : Prop := RdS 7 glyphR w lo hi A n L

/-- a glyph's seven cells, its anchors' capacity known -/
def glyphRc : Rel Gl := fun w lo hi d cs => ∃ h, cs = glC d h ∧ GlRd w lo hi d h ∧ h.anchors.n ≤ h.anchors.c
theorem good_glyphc : Good glyphRc := by
  constructor
  · rintro w w' lo hi d cs ⟨h, rfl, r, c⟩ s
    exact ⟨h, rfl, r.frame s, c⟩
  · rintro w lo hi lo' hi' d cs ⟨h, rfl, r, c⟩ h1 h2
    exact ⟨h, rfl, r.wide h1 h2, c⟩
abbrev GsRc (w : World) (lo hi : Nat) (A : Option Addr) (n : Nat) (L : List Gl) : Prop := RdS 7 glyphRc w lo hi A n L
theorem RdS.imp {α : Type} {k : Nat} {R R' : Rel α} {w : World} {lo hi : Nat} {A : Option Addr} {n : Nat} {L : List α} (h : RdS k R w lo hi A n L) (f : ∀ a cs, R w lo hi a cs → R' w lo hi a cs) : RdS k R' w lo hi A n L := by
  obtain ⟨hl, h⟩ := h
  refine ⟨hl, fun hn => ?_⟩
  obtain ⟨b, off, h1, h2, h3, h4⟩ := h hn
  exact ⟨b, off, h1, h2, h3, fun j a hj => by obtain ⟨es, e1, e2, e3⟩ := h4 j a hj; exact ⟨es, e1, e2, f a es e3⟩⟩
theorem GsRc.rd {w : World} {lo hi : Nat} {A : Option Addr} {n : Nat} {L : List Gl} (h : GsRc w lo hi A n L) : GsRd w lo hi A n L := h.imp fun a cs ⟨hh, h1, h2, h3⟩ => ⟨hh, h1, h2⟩

/-- a reading with a fact on each datum -/
def AndR {α : Type} (R : Rel α) (p : α → Prop) : Rel α := fun w lo hi a cs => R w lo hi a cs ∧ p a
theorem good_and {α : Type} {R : Rel α} (g : Good R) (p : α → Prop) : Good (AndR R p) := ⟨fun h s => ⟨g.frame h.1 s, h.2⟩, fun h h1 h2 => ⟨g.wide h.1 h1 h2, h.2⟩⟩
theorem RdS.parted {α : Type} {k : Nat} {R : Rel α} {p : α → Prop} {w : World} {lo hi : Nat} {A : Option Addr} {n : Nat} {L : List α} (h : RdS k (AndR R p) w lo hi A n L) : RdS k R w lo hi A n L ∧ ∀ a ∈ L, p a := by
  obtain ⟨hl, h⟩ := h
  refine ⟨⟨hl, fun hn => ?_⟩, fun a ha => ?_⟩
  · obtain ⟨b, off, h1, h2, h3, h4⟩ := h hn
    exact ⟨b, off, h1, h2, h3, fun j a hj => by obtain ⟨es, e1, e2, e3⟩ := h4 j a hj; exact ⟨es, e1, e2, e3.1⟩⟩
  · obtain ⟨j, hj⟩ := List.getElem?_of_mem ha
    have hjl := (List.getElem?_eq_some_iff.1 hj).1
    obtain ⟨b, off, h1, h2, h3, h4⟩ := h (by omega)
    obtain ⟨es, e1, e2, e3⟩ := h4 j a hj
    exact e3.2

theorem opens_str {P : Program} {t : TypeId} (ht : P.underlying t = some .string) : Opens P t (AndR (FlatR (α := ByteArray) fun s => [.string s]) fun s => s.size ≤ maxLen) := by
  intro H enc w fuel cs x h
  obtain ⟨n, rfl, _, hs⟩ := DataW.trod_string ht h
  exact ⟨n, rfl, hs⟩
theorem opens_lPart : Opens Tryz.prog 215 (FlatR partC) := by
  intro H enc w fuel cs x h
  obtain ⟨hl, hf⟩ := struct_fields Tryz.underlying215 h
  have hc : Tryz.prog.cellsOf 215 = 3 := by kernel_rfl
  have hp : Tryz.prog.cellsOf 191 = 2 := by kernel_rfl
  have hb : Tryz.prog.cellsOf 2 = 1 := by kernel_rfl
  rw [hc] at hl
  match cs, hl with
  | [c0, c1, c2], _ =>
    obtain ⟨n0, y0, h0⟩ := struct_field hf 0 2 0 1 rfl rfl rfl hb
    obtain ⟨n1, y1, h1⟩ := struct_field hf 1 191 1 2 rfl rfl rfl hp
    obtain ⟨x0, e0⟩ := opens_int Tryz.underlying2 h0
    obtain ⟨x1, e1⟩ := opens_lPt h1
    simp [FlatR, ptC] at e0 e1
    obtain ⟨e2, e3⟩ := e1
    subst e0 e2 e3
    exact ⟨(x0, x1.1, x1.2), rfl⟩
theorem opens_lAnchor : Opens Tryz.prog 193 (AndR (FlatR anchC) fun a => a.1.size ≤ maxLen) := by
  intro H enc w fuel cs x h
  obtain ⟨hl, hf⟩ := struct_fields Tryz.underlying193 h
  have hc : Tryz.prog.cellsOf 193 = 3 := by kernel_rfl
  have hp : Tryz.prog.cellsOf 191 = 2 := by kernel_rfl
  have hb : Tryz.prog.cellsOf 9 = 1 := by kernel_rfl
  rw [hc] at hl
  match cs, hl with
  | [c0, c1, c2], _ =>
    obtain ⟨n0, y0, h0⟩ := struct_field hf 0 9 0 1 rfl rfl rfl hb
    obtain ⟨n1, y1, h1⟩ := struct_field hf 1 191 1 2 rfl rfl rfl hp
    obtain ⟨x0, e0, hs0⟩ := opens_str Tryz.underlying9 h0
    obtain ⟨x1, e1⟩ := opens_lPt h1
    simp [FlatR, ptC] at e0 e1
    obtain ⟨e2, e3⟩ := e1
    subst e0 e2 e3
    exact ⟨(x0, x1.1, x1.2), rfl, hs0⟩
theorem opens_lOutline : Opens Tryz.prog 32 (fun w lo hi Ls cs => ∃ A n c, cs = [.slice A n c] ∧ n ≤ maxLen ∧ OutRd w lo hi A n Ls) := by
  intro H enc w fuel cs x h
  obtain ⟨A, n, c, Ls, h1, h2, h3⟩ := opens_Outline h
  exact ⟨Ls, A, n, c, h1, h2, h3⟩
theorem outRd_small {w : World} {lo hi : Nat} {A : Option Addr} {n : Nat} {Ls : List (List Knot)} (h : OutRd w lo hi A n Ls) : ∀ K ∈ Ls, K.length ≤ maxLen := fun K hK => by
  obtain ⟨j, hj⟩ := List.getElem?_of_mem hK
  have hjl := (List.getElem?_eq_some_iff.1 hj).1
  obtain ⟨b, off, K', A', n', c', _, _, _, hj', _, hm, hr⟩ := out_at h (j := j) (by rw [← h.1]; exact hjl)
  have e := Option.some.inj (hj.symm.trans hj')
  subst e
  rw [hr.1]; exact hm
theorem opens_lGlyph : Opens Tryz.prog 36 (AndR glyphR fun d => d.small maxLen ∧ d.str) := by
  intro H enc w fuel cs x h
  obtain ⟨hl, hf⟩ := struct_fields Tryz.underlying36 h
  have hc : Tryz.prog.cellsOf 36 = 7 := by kernel_rfl
  have hs : Tryz.prog.cellsOf 9 = 1 := by kernel_rfl
  have hi : Tryz.prog.cellsOf 2 = 1 := by kernel_rfl
  have ho : Tryz.prog.cellsOf 32 = 1 := by kernel_rfl
  have hp : Tryz.prog.cellsOf 33 = 1 := by kernel_rfl
  have ha : Tryz.prog.cellsOf 34 = 1 := by kernel_rfl
  have hp3 : Tryz.prog.cellsOf 215 = 3 := by kernel_rfl
  have ha3 : Tryz.prog.cellsOf 193 = 3 := by kernel_rfl
  rw [hc] at hl
  match cs, hl with
  | [c0, c1, c2, c3, c4, c5, c6], _ =>
    obtain ⟨n0, y0, h0⟩ := struct_field hf 0 9 0 1 rfl rfl rfl hs
    obtain ⟨n1, y1, h1⟩ := struct_field hf 1 2 1 1 rfl rfl rfl hi
    obtain ⟨n2, y2, h2⟩ := struct_field hf 2 2 2 1 rfl rfl rfl hi
    obtain ⟨n3, y3, h3⟩ := struct_field hf 3 32 3 1 rfl rfl rfl ho
    obtain ⟨n4, y4, h4⟩ := struct_field hf 4 33 4 1 rfl rfl rfl hp
    obtain ⟨n5, y5, h5⟩ := struct_field hf 5 34 5 1 rfl rfl rfl ha
    obtain ⟨n6, y6, h6⟩ := struct_field hf 6 9 6 1 rfl rfl rfl hs
    obtain ⟨x0, e0, s0⟩ := opens_str Tryz.underlying9 h0
    obtain ⟨x1, e1⟩ := opens_int Tryz.underlying2 h1
    obtain ⟨x2, e2⟩ := opens_int Tryz.underlying2 h2
    obtain ⟨x3, A3, l3, k3, e3, m3, r3⟩ := opens_lOutline h3
    obtain ⟨x4, A4, l4, k4, e4, m4, r4⟩ := opens_slice Tryz.underlying33 hp3 (by omega) opens_lPart (good_flat _) h4
    obtain ⟨x5, A5, l5, k5, e5, m5, r5⟩ := opens_slice Tryz.underlying34 ha3 (by omega) opens_lAnchor (good_and (good_flat _) _) h5
    obtain ⟨x6, e6, s6⟩ := opens_str Tryz.underlying9 h6
    obtain ⟨r5, s5⟩ := r5.parted
    simp [FlatR] at e0 e1 e2 e3 e4 e5 e6
    subst e0 e1 e2 e3 e4 e5 e6
    exact ⟨⟨x0, x1, x2, x3, x4, x5, x6⟩, ⟨⟨⟨A3, l3, k3⟩, ⟨A4, l4, k4⟩, ⟨A5, l5, k5⟩⟩, rfl, r3, r4, r5⟩, ⟨by rw [r3.1]; exact m3, outRd_small r3, by rw [r4.1]; exact m4, by rw [r5.1]; exact m5⟩, s0, s6, s5⟩
/-- a set of glyphs -/
structure GSet where
  unit : Int
  gl : List Gl
  deriving DecidableEq
structure GSetH where
  gl : Hd
abbrev gsV (d : GSet) (h : GSetH) : Value := .agg #[.int .i64 d.unit, .slice h.gl.A h.gl.n h.gl.c]
def gsC (d : GSet) (h : GSetH) : List Value := [.int .i64 d.unit, .slice h.gl.A h.gl.n h.gl.c]
abbrev GSetRd (w : World) (lo hi : Nat) (d : GSet) (h : GSetH) : Prop := GsRd w lo hi h.gl.A h.gl.n d.gl
abbrev GSetRc (w : World) (lo hi : Nat) (d : GSet) (h : GSetH) : Prop := GsRc w lo hi h.gl.A h.gl.n d.gl
structure GSet.small (d : GSet) (b : Nat) : Prop where
  l : d.gl.length ≤ b
  g : ∀ g ∈ d.gl, g.small b
theorem GSet.small.mono {d : GSet} {a b : Nat} (h : d.small a) (hab : a ≤ b) : d.small b := ⟨Nat.le_trans h.l hab, fun g hg => (h.g g hg).mono hab⟩
theorem GSet.small.gl {d : GSet} {b n : Nat} (h : d.small b) (e : d.gl.length = n) : n ≤ b ∧ ∀ g ∈ d.gl, g.small b := ⟨e ▸ h.l, h.g⟩
theorem opens_GlyphSet {H : Type} {enc : TypeId × Value → H} {w : World} {fuel : Nat} {cs : List Value} {x : DataW H × List MemPlace} (h : DataW.trod enc Tryz.prog w 0 (fun _ => true) true fuel 29 cs = some x) :
    ∃ d hh, cs = gsC d hh ∧ GSetRd w 0 w.heap.size d hh ∧ d.small maxLen ∧ ∀ g ∈ d.gl, g.str := by
  obtain ⟨hl, hf⟩ := struct_fields Tryz.underlying29 h
  have hc : Tryz.prog.cellsOf 29 = 2 := by kernel_rfl
  have hi : Tryz.prog.cellsOf 2 = 1 := by kernel_rfl
  have hg : Tryz.prog.cellsOf 27 = 1 := by kernel_rfl
  have hg7 : Tryz.prog.cellsOf 36 = 7 := by kernel_rfl
  rw [hc] at hl
  match cs, hl with
  | [c0, c1], _ =>
    obtain ⟨n0, y0, h0⟩ := struct_field hf 0 2 0 1 rfl rfl rfl hi
    obtain ⟨n1, y1, h1⟩ := struct_field hf 1 27 1 1 rfl rfl rfl hg
    obtain ⟨x0, e0⟩ := opens_int Tryz.underlying2 h0
    obtain ⟨x1, A1, l1, k1, e1, m1, r1⟩ := opens_slice Tryz.underlying27 hg7 (by omega) opens_lGlyph (good_and good_glyph _) h1
    obtain ⟨r1, s1⟩ := r1.parted
    simp [FlatR] at e0 e1
    subst e0 e1
    exact ⟨⟨x0, x1⟩, ⟨⟨A1, l1, k1⟩⟩, rfl, r1, ⟨by rw [r1.1]; exact m1, fun g hg => (s1 g hg).1⟩, fun g hg => (s1 g hg).2⟩
theorem opens_Glyph {H : Type} {enc : TypeId × Value → H} {w : World} {fuel : Nat} {cs : List Value} {x : DataW H × List MemPlace} (h : DataW.trod enc Tryz.prog w 0 (fun _ => true) true fuel 36 cs = some x) :
    ∃ d hh, cs = glC d hh ∧ GlRd w 0 w.heap.size d hh ∧ d.small maxLen ∧ d.str := by
  obtain ⟨d, ⟨hh, h1, h2⟩, h3, h4⟩ := opens_lGlyph h
  exact ⟨d, hh, h1, h2, h3, h4⟩

/-! ### to and eq of the parts, over readings -/
theorem toPartS_rd (A : Option Addr) (n c lo hi : Nat) (L : List Part) (w : World) (hr : RdS 3 (FlatR partC) w lo hi A n L) (hhi : hi ≤ w.heap.size) (hn : n ≤ 1048576) :
    Calls Tryz.prog 62 #[.slice A n c] w fun e w' => ∃ A' c', e = .returned (.slice A' n c') ∧ RdS 3 (FlatR partC) w' w.heap.size w'.heap.size A' n L ∧ Below w.heap.size w w' :=
  (toPartS_any A n c lo hi L w hr hhi hn).mono fun e w' ⟨g, he, _, ho, hb⟩ => ⟨_, _, he, rdS_own partC_len (by omega) ho hr.1, hb⟩
theorem toAnchorS_rdc (A : Option Addr) (n c lo hi : Nat) (L : List Anch) (w : World) (hr : RdS 3 (FlatR anchC) w lo hi A n L) (hhi : hi ≤ w.heap.size) (hn : n ≤ 1048576) :
    Calls Tryz.prog 63 #[.slice A n c] w fun e w' => ∃ A' c', e = .returned (.slice A' n c') ∧ RdS 3 (FlatR anchC) w' w.heap.size w'.heap.size A' n L ∧ Below w.heap.size w w' ∧ n ≤ c' :=
  (toAnchorS_any A n c lo hi L w hr hhi hn).mono fun e w' ⟨g, he, _, ho, hb⟩ => ⟨_, _, he, rdS_own anchC_len (by omega) ho hr.1, hb, Nat.le_refl _⟩
theorem toOutline_rd (A : Option Addr) (n c lo hi : Nat) (L : List (List Knot)) (w : World) (hr : OutRd w lo hi A n L) (hhi : hi ≤ w.heap.size) (hn : n ≤ 1048576 ∧ ∀ K ∈ L, K.length ≤ 1048576) :
    Calls Tryz.prog 61 #[.agg #[.slice A n c]] w fun e w' => ∃ A' c', e = .returned (.agg #[.slice A' n c']) ∧ OutRd w' w.heap.size w'.heap.size A' n L ∧ Below w.heap.size w w' :=
  (toOutline_any A n c lo hi L w hr hhi hn.1 hn.2).mono fun e w' ⟨A', he, ho, hb⟩ => ⟨_, _, he, ho.rd (fun K hK => by have := hn.2 K hK; unfold maxLen; omega), hb⟩
theorem eqOutline_rd (A A' : Option Addr) (n c n' c' lo hi lo' hi' : Nat) (Ls : List (List Knot)) (w : World) (h1 : OutRd w lo hi A n Ls) (h2 : OutRd w lo' hi' A' n' Ls) (hh1 : hi ≤ w.heap.size) (hh2 : hi' ≤ w.heap.size) (hn : n ≤ 100000000 ∧ ∀ K ∈ Ls, K.length ≤ 100000000) :
    Calls Tryz.prog 89 #[.agg #[.slice A n c], .agg #[.slice A' n' c']] w fun e w' => e = .returned (.bool true) ∧ Below w.heap.size w w' := eqOutline_any A A' n c n' c' lo hi lo' hi' Ls w h1 h2 hh1 hh2 hn.1 hn.2
theorem eqPartS_rd (A A' : Option Addr) (n c n' c' lo hi lo' hi' : Nat) (L : List Part) (w : World) (h1 : RdS 3 (FlatR partC) w lo hi A n L) (h2 : RdS 3 (FlatR partC) w lo' hi' A' n' L) (hh1 : hi ≤ w.heap.size) (hh2 : hi' ≤ w.heap.size) (hn : n ≤ 100000000) :
    Calls Tryz.prog 90 #[.slice A n c, .slice A' n' c'] w fun e w' => e = .returned (.bool true) ∧ Below w.heap.size w w' := eqPartS_any A A' n c n' c' lo hi lo' hi' L w h1 h2 hh1 hh2 (by omega)
theorem eqAnchorS_rd (A A' : Option Addr) (n c n' c' lo hi lo' hi' : Nat) (L : List Anch) (w : World) (h1 : RdS 3 (FlatR anchC) w lo hi A n L) (h2 : RdS 3 (FlatR anchC) w lo' hi' A' n' L) (hh1 : hi ≤ w.heap.size) (hh2 : hi' ≤ w.heap.size) (hn : n ≤ 100000000) :
    Calls Tryz.prog 91 #[.slice A n c, .slice A' n' c'] w fun e w' => e = .returned (.bool true) ∧ Below w.heap.size w w' := eqAnchorS_any A A' n c n' c' lo hi lo' hi' L w h1 h2 hh1 hh2 (by omega)

/-! ### sz -/
theorem sum_mem_le {L : List Nat} {x : Nat} (h : x ∈ L) : x ≤ L.sum := by
  induction L with
  | nil => simp at h
  | cons a L ih =>
    rcases List.mem_cons.1 h with rfl | h
    · simp
    · have := ih h; simp; omega
theorem outSize_k {Ls : List (List Knot)} {K : List Knot} (h : K ∈ Ls) : K.length ≤ outSize Ls := by
  have := sum_mem_le (List.mem_map_of_mem (f := List.length) h)
  unfold outSize; omega

theorem szAnchor_any (x0 : ByteArray) (x1 x2 left : Int) (w : World) (hs : x0.size ≤ 9223372036854775807) (h0 : 0 ≤ left) (h1 : left ≤ 1048576) :
    Calls Tryz.prog 97 #[.agg #[.string x0, .int .i64 x1, .int .i64 x2], .int .i64 left] w fun e w' => ∃ r : Int, e = .returned (.int .i64 r) ∧ (r < 0 ∨ 0 ≤ r ∧ r ≤ left) ∧ Below w.heap.size w w' := by
  by_cases h : (x0.size : Int) ≤ left
  all_goals
    go_enter Tryz.func97, Tryz.ntmps97
    go_wp2_with fail
    go_ret
    exact ⟨_, rfl, by omega, Go.Joins.below_alloc1 _ _⟩

set_option maxHeartbeats 1000000 in
theorem szAnchorS_any (A : Option Addr) (n c lo hi : Nat) (L : List Anch) (left : Int) (w : World) (hr : RdS 3 (FlatR anchC) w lo hi A n L) (hhi : hi ≤ w.heap.size) (hs : ∀ a ∈ L, a.1.size ≤ maxLen) (hn : n ≤ 9223372036854775807) (h0 : 0 ≤ left) (h1 : left ≤ 1048576) :
    Calls Tryz.prog 49 #[.slice A n c, .int .i64 left] w fun e w' => ∃ r : Int, e = .returned (.int .i64 r) ∧ (r < 0 ∨ 0 ≤ r ∧ r ≤ left ∧ n ≤ 1048576) ∧ Below w.heap.size w w' := by
  replace hr := Lib.hid hr
  replace hs := Lib.hid hs
  by_cases hnl : (n : Int) ≤ left
  rotate_left
  · go_enter Tryz.func49, Tryz.ntmps49
    go_wp2_with fail
    go_ret
    exact ⟨_, rfl, .inl (by omega), Below.refl _ _⟩
  go_enter Tryz.func49, Tryz.ntmps49
  go_wp2_with fail
  go_loopw [1, 5] (fun lv i wr => ∃ (k : Nat) (l : Int), i = .int .i64 k ∧ lv = .int .i64 l ∧ k ≤ n ∧ 0 ≤ l ∧ l ≤ left ∧ Below w.heap.size w wr) (fun lv i wr => n - (intOf i).toNat)
  case atStart => exact ⟨0, left - n, rfl, rfl, Nat.zero_le _, by omega, by omega, Below.refl _ _⟩
  case round =>
    obtain ⟨k, l, rfl, rfl, hk, hl0, hl, hbel⟩ := hrel
    have hl1 : l ≤ 1048576 := by omega
    by_cases hlt : k < n
    · obtain ⟨b, off, ⟨x0, x1, x2⟩, rfl, hb0, hb, hja, hcs⟩ := (hr.out.frame (good_flat _) (Below.sameB hbel hhi)).at hlt
      have q0 := hcs 0 _ rfl
      have q1 := hcs 1 _ rfl
      have q2 := hcs 2 _ rfl
      simp only [Nat.add_zero] at q0 q1 q2
      clear hcs
      have hbw : b < wr.heap.size := by have := hbel.size; omega
      have hsz : x0.size ≤ 9223372036854775807 := by have := hs.out _ (List.mem_of_getElem? hja); unfold maxLen at this; exact this
      clear hja
      go_wp2_with fail
      refine (szAnchor_any x0 x1 x2 l _ hsz hl0 hl1).mono ?_
      rintro e w1 ⟨r, rfl, hrr, hb1⟩
      have hbel1 := hbel.trans (hb1.mono hbel.size)
      rcases hrr with hrr | ⟨hr0, hrl⟩
      · go_wp2_with fail
        go_ret
        exact ⟨_, rfl, .inl (by omega), hbel1⟩
      · go_wp2_with fail
        go_roundw
        case rel => exact ⟨k + 1, r, by go_num, rfl, by omega, hr0, by omega, hbel1⟩
        case measure => simp [intOf]; omega
    · go_wp2_with fail
      go_ret
      exact ⟨_, rfl, .inr ⟨hl0, hl, by omega⟩, hbel⟩

set_option maxHeartbeats 1000000 in
theorem szGlyph_any (d : Gl) (h : GlH) (left : Int) (lo hi : Nat) (w : World) (hr : GlRd w lo hi d h) (hhi : hi ≤ w.heap.size) (hm : d.small maxLen) (hs : d.str) (h0 : 0 ≤ left) (h1 : left ≤ 1048576) :
    Calls Tryz.prog 16 #[glV d h, .int .i64 left] w fun e w' => ∃ r : Int, e = .returned (.int .i64 r) ∧ (r < 0 ∨ (0 ≤ r ∧ r ≤ left ∧ d.small 1048576)) ∧ Below w.heap.size w w' := by
  obtain ⟨r0, r1, r2⟩ := hr
  obtain ⟨s0, s1, s2⟩ := hs
  have m0 : h.out.n ≤ 9223372036854775807 := by have := (hm.out r0.1).1; unfold maxLen at this; exact this
  have m1 : h.parts.n ≤ 9223372036854775807 := by have := hm.parts r1.1; unfold maxLen at this; exact this
  have m2 : h.anchors.n ≤ 9223372036854775807 := by have := hm.anchors r2.1; unfold maxLen at this; exact this
  unfold maxLen at s0 s1
  have l0 := Lib.hid r0.1
  have l1 := Lib.hid r1.1
  have l2 := Lib.hid r2.1
  replace r0 := Lib.hid r0
  replace r1 := Lib.hid r1
  replace r2 := Lib.hid r2
  replace s2 := Lib.hid s2
  clear hm
  by_cases g0 : (d.name.size : Int) ≤ left
  rotate_left
  · go_enter Tryz.func16, Tryz.ntmps16
    go_wp2_with fail
    go_ret
    exact ⟨_, rfl, .inl (by omega), Go.Joins.below_alloc1 _ _⟩
  have hsame : ∀ o, SameB lo hi w (w.alloc o) := fun o => (SameB.refl _ _ w).alloc hhi o
  replace hsame := Lib.hid hsame
  go_enter Tryz.func16, Tryz.ntmps16
  go_wp2_with fail
  refine (szOutline_any _ _ _ lo hi d.out (left - d.name.size) _ (r0.out.frame good_loop (hsame.out _)) (by simp; omega) m0 (by omega) (by omega)).mono ?_
  rintro e w1 ⟨q0, rfl, hq0, hb1⟩
  have hB1 := (Go.Joins.below_alloc1 w _).trans (hb1.mono (by simp))
  have hz1 : w.heap.size + 1 ≤ w1.heap.size := by have := hb1.size; simpa using this
  rcases hq0 with hq0 | ⟨hq0, e0⟩
  · go_wp2_with fail
    go_ret
    exact ⟨_, rfl, .inl (by omega), hB1⟩
  have u0 : q0 ≤ left := by omega
  replace e0 := Lib.hid e0
  have hX1 := (hb1.block w.heap.size (by simp)).trans (heap_alloc_new w _)
  have cx4 : w1.cell? ⟨w.heap.size, 4, none⟩ = some (.slice h.parts.A h.parts.n h.parts.c) := by rw [Go.Joins.cell_of_block hX1]; rfl
  have cx5 : w1.cell? ⟨w.heap.size, 5, none⟩ = some (.slice h.anchors.A h.anchors.n h.anchors.c) := by rw [Go.Joins.cell_of_block hX1]; rfl
  have cx6 : w1.cell? ⟨w.heap.size, 6, none⟩ = some (.string d.hints) := by rw [Go.Joins.cell_of_block hX1]; rfl
  replace hX1 := Lib.hid hX1
  clear hb1
  go_wp2_with fail
  obtain ⟨q1, hq1⟩ : ∃ r : Int, r = if (h.parts.n : Int) ≤ q0 then q0 - h.parts.n else -1 := ⟨_, rfl⟩
  refine (szPartS_any _ _ _ q0 _ m1 (by omega) (by omega) q1 hq1).mono ?_
  rintro e w' ⟨rfl, rfl⟩
  by_cases g1 : (h.parts.n : Int) ≤ q0
  rotate_left
  · rw [if_neg g1] at hq1
    subst hq1
    go_wp2_with fail
    go_ret
    exact ⟨_, rfl, .inl (by omega), hB1⟩
  rw [if_pos g1] at hq1
  have u1 : 0 ≤ q1 ∧ q1 ≤ q0 ∧ (h.parts.n : Int) ≤ q0 := by omega
  replace hq1 := Lib.hid hq1
  obtain ⟨u2, u3, u4⟩ := u1
  go_wp2_with fail
  refine (szAnchorS_any _ _ _ lo hi d.anchors q1 _ (r2.out.frame (good_flat _) (Below.sameB hB1 hhi)) (by omega) s2.out m2 (by omega) (by omega)).mono ?_
  rintro e w2 ⟨q2, rfl, hq2, hb2⟩
  have hB2 := hB1.trans (hb2.mono (by omega))
  rcases hq2 with hq2 | ⟨hq2, u5, u6⟩
  · go_wp2_with fail
    go_ret
    exact ⟨_, rfl, .inl (by omega), hB2⟩
  have cz6 : w2.cell? ⟨w.heap.size, 6, none⟩ = some (.string d.hints) := (hb2.cell (by simp; omega)).trans cx6
  clear cx4 cx5 cx6 hb2
  by_cases g3 : (d.hints.size : Int) ≤ q2
  rotate_left
  · go_wp2_with fail
    go_ret
    exact ⟨_, rfl, .inl (by omega), hB2⟩
  go_wp2_with fail
  go_ret
  have e0' := e0.out
  have hk : outSize d.out ≤ 1048576 := by omega
  refine ⟨_, rfl, .inr ⟨by omega, by omega, ⟨?_, fun K hK => Nat.le_trans (outSize_k hK) hk, by rw [l1.out]; omega, by rw [l2.out]; omega⟩⟩, hB2⟩
  unfold outSize at hk; omega

theorem gs_at {w : World} {lo hi : Nat} {A : Option Addr} {n : Nat} {L : List Gl} (h : GsRd w lo hi A n L) {j : Nat} (hj : j < n) :
    ∃ b off d hh, A = some ⟨b, off, none⟩ ∧ lo ≤ b ∧ b < hi ∧ L[j]? = some d ∧ (∀ i u, (glC d hh)[i]? = some u → w.cell? ⟨b, off + j * 7 + i, none⟩ = some u) ∧ GlRd w lo hi d hh := by
  obtain ⟨hl, h⟩ := h
  obtain ⟨b, off, rfl, h1, h2, h3⟩ := h (by omega)
  have hja : L[j]? = some (L[j]'(by omega)) := List.getElem?_eq_getElem (by omega)
  obtain ⟨es, e1, e2, hh, rfl, r⟩ := h3 j _ hja
  exact ⟨b, off, _, hh, rfl, h1, h2, hja, e2, r⟩

set_option maxHeartbeats 2000000 in
theorem szGlyphS_any (A : Option Addr) (n c lo hi : Nat) (L : List Gl) (left : Int) (w : World) (hr : GsRd w lo hi A n L) (hhi : hi ≤ w.heap.size) (hm : ∀ g ∈ L, g.small maxLen) (hs : ∀ g ∈ L, g.str) (hn : n ≤ 9223372036854775807) (h0 : 0 ≤ left) (h1 : left ≤ 1048576) :
    Calls Tryz.prog 46 #[.slice A n c, .int .i64 left] w fun e w' => ∃ r : Int, e = .returned (.int .i64 r) ∧ (r < 0 ∨ 0 ≤ r ∧ r ≤ left ∧ n ≤ 1048576 ∧ ∀ g ∈ L, g.small 1048576) ∧ Below w.heap.size w w' := by
  have hll := Lib.hid hr.1
  replace hr := Lib.hid hr
  replace hs := Lib.hid hs
  replace hm := Lib.hid hm
  by_cases hnl : (n : Int) ≤ left
  rotate_left
  · go_enter Tryz.func46, Tryz.ntmps46
    go_wp2_with fail
    go_ret
    exact ⟨_, rfl, .inl (by omega), Below.refl _ _⟩
  go_enter Tryz.func46, Tryz.ntmps46
  go_wp2_with fail
  go_loopw [1, 5] (fun lv i wr => ∃ (k : Nat) (l : Int), i = .int .i64 k ∧ lv = .int .i64 l ∧ k ≤ n ∧ 0 ≤ l ∧ l ≤ left ∧ (∀ (j : Nat) (g : Gl), j < k → L[j]? = some g → g.small 1048576) ∧ Below w.heap.size w wr) (fun lv i wr => n - (intOf i).toNat)
  case atStart => exact ⟨0, left - n, rfl, rfl, Nat.zero_le _, by omega, by omega, fun j g hj => absurd hj (Nat.not_lt_zero j), Below.refl _ _⟩
  case round =>
    obtain ⟨k, l, rfl, rfl, hk, hl0, hl, hall, hbel⟩ := hrel
    have hl1 : l ≤ 1048576 := by omega
    replace hall := Lib.hid hall
    by_cases hlt : k < n
    · obtain ⟨b, off, d, hh, rfl, hb0, hb, hja, hcs, hrd⟩ := gs_at (hr.out.frame good_glyph (Below.sameB hbel hhi)) hlt
      have q0 := hcs 0 _ rfl
      have q1 := hcs 1 _ rfl
      have q2 := hcs 2 _ rfl
      have q3 := hcs 3 _ rfl
      have q4 := hcs 4 _ rfl
      have q5 := hcs 5 _ rfl
      have q6 := hcs 6 _ rfl
      simp only [Nat.add_zero] at q0 q1 q2 q3 q4 q5 q6
      clear hcs
      have hbw : b < wr.heap.size := by have := hbel.size; omega
      have hmem := List.mem_of_getElem? hja
      have hcall := Lib.hid (fun W (hS : SameB lo hi wr W) (h : hi ≤ W.heap.size) => szGlyph_any d hh l lo hi W (hrd.frame hS) h (hm.out d hmem) (hs.out d hmem) hl0 hl1)
      clear hmem hrd
      replace hja := Lib.hid hja
      go_wp2_with fail
      refine (hcall.out _ (by repeat (first | exact SameB.refl _ _ _ | refine SameB.drew ?_ | refine SameB.alloc ?_ (by simp <;> omega) _)) (by have := hbel.size; simp <;> omega)).mono ?_
      rintro e w1 ⟨r, rfl, hrr, hb1⟩
      have hbel1 := hbel.trans (hb1.mono hbel.size)
      rcases hrr with hrr | ⟨hr0, hrl, hsm⟩
      · go_wp2_with fail
        go_ret
        exact ⟨_, rfl, .inl (by omega), hbel1⟩
      · replace hsm := Lib.hid hsm
        go_wp2_with fail
        go_roundw
        case rel =>
          refine ⟨k + 1, r, by go_num, rfl, by omega, hr0, by omega, fun j g hj hg => ?_, hbel1⟩
          by_cases hjk : j = k
          · subst hjk
            have e := Option.some.inj (hja.out.symm.trans hg)
            subst e
            exact hsm.out
          · exact hall.out j g (by omega) hg
        case measure => simp [intOf]; omega
    · have hkn : k = n := by omega
      replace hkn := Lib.hid hkn
      go_wp2_with fail
      go_ret
      refine ⟨_, rfl, .inr ⟨hl0, hl, by omega, fun g hg => ?_⟩, hbel⟩
      obtain ⟨j, hj⟩ := List.getElem?_of_mem hg
      exact hall.out j g (by rw [hkn.out, ← hll.out]; exact (List.getElem?_eq_some_iff.1 hj).1) hj

theorem szGlyphSet_any (d : GSet) (h : GSetH) (left : Int) (lo hi : Nat) (w : World) (hr : GSetRd w lo hi d h) (hhi : hi ≤ w.heap.size) (hm : d.small maxLen) (hs : ∀ g ∈ d.gl, g.str) (h0 : 0 ≤ left) (h1 : left ≤ 1048576) :
    Calls Tryz.prog 15 #[gsV d h, .int .i64 left] w fun e w' => ∃ r : Int, e = .returned (.int .i64 r) ∧ (r < 0 ∨ (0 ≤ r ∧ r ≤ left ∧ d.small 1048576)) ∧ Below w.heap.size w w' := by
  have hn : h.gl.n ≤ 9223372036854775807 := by have := (hm.gl hr.1).1; unfold maxLen at this; exact this
  have hl := Lib.hid hr.1
  have hcall := Lib.hid (fun a => szGlyphS_any h.gl.A h.gl.n h.gl.c lo hi d.gl left (w.alloc a) (hr.frame good_glyph ((SameB.refl _ _ w).alloc hhi a)) (by simp; omega) hm.g hs hn h0 h1)
  clear hr hm hs
  go_enter Tryz.func15, Tryz.ntmps15
  go_wp2_with fail
  refine (hcall.out _).mono ?_
  rintro e w1 ⟨r, rfl, hrr, hb1⟩
  have hB := (Go.Joins.below_alloc1 _ _).trans (hb1.mono (by simp))
  rcases hrr with hrr | ⟨hr0, hrl, hn1, hg⟩
  · go_wp2_with fail
    go_ret
    exact ⟨_, rfl, .inl (by omega), hB⟩
  · replace hg := Lib.hid hg
    go_wp2_with fail
    go_ret
    exact ⟨_, rfl, .inr ⟨hr0, hrl, ⟨by rw [hl.out]; exact hn1, hg.out⟩⟩, hB⟩
end Go.Proofs.YtfkidklpjiiclaaGreat

