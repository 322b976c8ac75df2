/- A drawn loop. Conditions: as each states. -/
import Derived.Deep.RegionHeld3
import Derived.Test.YtgdkabljgabjoaaGreatDoorGw38
import Derived.Test.YtgdkabljgabjoaaGreatDoorGw05
import Derived.Test.YtgdkabljgabjoaaGreatDoorGw22
import Derived.Test.YtgdkabljgabjoaaGreatDoorGw27
namespace Go.Proofs.YtgdkabljgabjoaaGreatDoor
open Go.RowKit
set_option linter.unusedVariables false
set_option maxRecDepth 100000

theorem own_grown {w w' : World} {lo e size n b : Nat} {v : Value} {xs : List Value} (h : w.ownsRow lo e size v n xs) (hg : w.grownBy w' (some b)) (hb : b < lo) : w'.ownsRow lo e size v n xs :=
  own_same h fun g hg' => hg.block g (h.lt g hg').2 (by intro e; injection e with e; have := (h.lt g hg').1; omega)

def headK : List Knot → List Knot
  | [] => []
  | q :: K => (q.1, q.2.1, true) :: K
theorem headK_len (K : List Knot) : (headK K).length = K.length := by cases K <;> rfl
theorem headK_cells {K : List Knot} (h : 1 ≤ K.length) : (K.flatMap knotC).set 2 (.bool true) = (headK K).flatMap knotC := by
  cases K with
  | nil => simp at h
  | cons q K => simp [headK, knotC]
theorem Src0.keepL {w w' : World} {b k : Nat} (h : Src0 w b k) (hs : ∀ g, g ≤ b → w'.heap[g]? = w.heap[g]?) : Src0 w' b k := by
  obtain ⟨A, n, c, lo, hi, seed, L, h1, h2, h3, h4⟩ := h
  exact ⟨A, n, c, lo, hi, seed, L, h1.keep (hs b (Nat.le_refl _)), h2.frame good_u8 (fun g _ hg => hs g (by omega)), h3, h4⟩

set_option maxHeartbeats 4000000 in
theorem l10DrawLoop_any (b k : Nat) (m : Int) (w : World) (hs : Src0 w b k) (hk : k ≤ 999990000) (hm0 : 0 ≤ m) (hm1 : m ≤ 100000) :
    Calls Tryz.prog 133 #[.pointer (some ⟨b, 0, none⟩), .int .i64 m] w fun e w' => ∃ (A' : Option Addr) (n' c' k' : Nat) (K : List Knot), e = .returned (.agg #[.slice A' n' c']) ∧ K.length = n' ∧ 1 ≤ n' ∧ n' ≤ 9 ∧
      w'.ownsRow w.heap.size 152 3 (.slice A' n' c') n' (K.flatMap knotC) ∧ Src0 w' b k' ∧ k' ≤ k + 200 ∧ w.grownBy w' (some b) := by
  have hbl := hs.lt
  have hnew := heap_new2 w (.cells #[.slice none 0 0] 113 (0, 0)) (.cells #[.slice none 0 0] 113 (0, 0))
  have hB0 : Below w.heap.size w ((w.alloc (.cells #[.slice none 0 0] 113 (0, 0))).alloc (.cells #[.slice none 0 0] 113 (0, 0))) := Go.Joins.below_alloc2 _ _ _
  have hz0 : ((w.alloc (.cells #[.slice none 0 0] 113 (0, 0))).alloc (.cells #[.slice none 0 0] 113 (0, 0))).heap.size = w.heap.size + 2 := by simp
  have hs0 := Lib.hid (hs.kept hB0 hbl)
  clear hs
  go_enter Tryz.func133, Tryz.ntmps133
  go_wp2_with fail
  generalize ((w.alloc (.cells #[.slice none 0 0] 113 (0, 0))).alloc (.cells #[.slice none 0 0] 113 (0, 0))) = w0 at *
  refine (pick_any b k 9 w0 hs0.out (by omega)).mono ?_
  rintro e w1 ⟨r, k1, rfl, hr0, hr1, _, hs1, hk1, hg1⟩
  have hr9 := hr1 (by omega)
  have hz1 := hg1.size
  have HX1 := Lib.hid ((hg1.block w.heap.size (by omega) (by intro e; injection e with e; omega)).trans hnew.1)
  have HO1 := Lib.hid ((hg1.block (w.heap.size + 1) (by omega) (by intro e; injection e with e; omega)).trans hnew.2)
  have hG1 := grown_tr (grown_of hB0 (some b)) hg1
  replace hs1 := Lib.hid hs1
  obtain ⟨N, hN⟩ : ∃ N : Nat, (N : Int) = 1 + r := ⟨(1 + r).toNat, by omega⟩
  clear hr1 hnew hg1 hB0 hs0
  go_wp2_with fail
  go_loopw [6] (fun i wr => ∃ (t k2 : Nat) (Ao : Option Addr) (co : Nat) (K : List Knot), i = .int .i64 t ∧ K.length + t = N ∧ wr.heap[w.heap.size + 1]? = some (.cells #[.slice Ao K.length co] 113 (0, 0)) ∧ wr.heap[w.heap.size]? = some (.cells #[.slice none 0 0] 113 (0, 0)) ∧
    wr.ownsRow (w.heap.size + 2) 152 3 (.slice Ao K.length co) K.length (K.flatMap knotC) ∧ Src0 wr b k2 ∧ k2 + 12 * t ≤ k + 2 + 12 * N ∧ w.heap.size + 2 ≤ wr.heap.size ∧ w.grownBy wr (some b)) (fun i wr => (intOf i).toNat)
  case atStart => exact ⟨N, k1, none, 0, [], by rw [hN], by simp, HO1.out, HX1.out, World.ownsRow_nil _ _ _ _, hs1.out, by omega, by omega, hG1⟩
  case round =>
    clear HX1 HO1 hG1 hs1 hz1
    obtain ⟨t, k2, Ao, co, K, rfl, hKt, HO, HX, hrow, hsr, hk2, hzr, hG⟩ := hrel
    have c1 : wr.cell? ⟨w.heap.size + 1, 0, none⟩ = some (.slice Ao K.length co) := by rw [Go.Joins.cell_of_block HO]; rfl
    have f1 : ∀ o, wr.frozen? ⟨w.heap.size + 1, o, none⟩ = false := Go.Joins.unfrozen_of_block HO
    have hXl : w.heap.size + 1 < wr.heap.size := by omega
    have hbr := hsr.lt
    replace HO := Lib.hid HO
    replace HX := Lib.hid HX
    by_cases ht : 0 < t
    · have hti : (0 : Int) < (t : Int) := by omega
      have hcD := Lib.hid (l03Draw_any b k2 m wr.drew hsr.drew (by omega) hm0 (by omega))
      have hcP := Lib.hid (fun (k3 : Nat) (W : World) (h : Src0 W b k3) (hk : k3 ≤ 999999990) => pick_any b k3 5 W h hk)
      replace hrow := Lib.hid hrow
      go_wp2_with fail
      go_region_law (first
        | (refine stepAppAt rfl (.tmp 16) (.tmp 24) elemKnot rfl (v := .slice Ao K.length co) (n := K.length) (xs := K.flatMap knotC) rfl ((own_grown hrow.out hG4.out (by omega)).alloc _) rfl (src_at (cs := [.int .i64 x, .int .i64 y, .bool (decide (1 < r4))]) rfl (by simp [Value.oneCell']) (by simp)) (by omega) (by omega) (by simp; omega) (K.length + 1) rfl ?_; intro A5 c5 w5 ho5 hg5; have hne : ∀ g, g < w.heap.size + 2 → (Value.slice Ao K.length co).ownBlock ≠ some g := (fun g hg e => by have := (hrow.out.lt _ e).1; omega); have hk5 : ∀ g, g < w.heap.size + 2 → w5.heap[g]? = w4.heap[g]? := (fun g hg => (hg5.block g (by simp; omega) (fun e => hne g hg e.symm)).trans (Below.heap_alloc _ _ _ (by omega))); have q5 : w5.cell? ⟨w.heap.size + 1, 0, none⟩ = some (.slice Ao K.length co) := ((World.cell?_of_block (hk5 (w.heap.size + 1) (by omega))).trans q4); have f5 : ∀ o, w5.frozen? ⟨w.heap.size + 1, o, none⟩ = false := (fun o => (World.frozen?_of_block (hk5 (w.heap.size + 1) (by omega))).trans ((World.frozen?_of_block H4.out).trans (f1 o))); have hz5 : w4.heap.size + 1 ≤ w5.heap.size := (by have := hg5.size; simp at this; exact this); replace hk5 := Lib.hid hk5; replace ho5 := Lib.hid ho5; replace hg5 := Lib.hid hg5; clear hne)
        | (go_simp; go_at_call 132; refine hcD.out.mono ?_; rintro e w3 ⟨x, y, k3, rfl, hin, hs3, hk3, hg3⟩; have hz3 : wr.heap.size ≤ w3.heap.size := hg3.size; have H3 : w3.heap[w.heap.size + 1]? = wr.heap[w.heap.size + 1]? := hg3.block (w.heap.size + 1) hXl (by intro e; injection e with e; omega); have q3 : w3.cell? ⟨w.heap.size + 1, 0, none⟩ = some (.slice Ao K.length co) := (World.cell?_of_block H3).trans c1; have q3l : w.heap.size + 1 < w3.heap.size := (by omega); replace H3 := Lib.hid H3; replace hg3 := Lib.hid hg3; replace hs3 := Lib.hid hs3; replace hin := Lib.hid hin; dsimp only)
        | (go_simp; go_at_call 97; refine (hcP.out k3 w3 hs3.out (by omega)).mono ?_; rintro e w4 ⟨r4, k4, rfl, _, _, _, hs4, hk4, hg4⟩; have hz4 : w3.heap.size ≤ w4.heap.size := hg4.size; have hG4 : Hid (wr.grownBy w4 (some b)) := grown_tr (show wr.grownBy w3 (some b) from ⟨hg3.out.os, hg3.out.tape, hg3.out.output, hg3.out.size, hg3.out.block⟩) hg4; have H4 : Hid (w4.heap[w.heap.size + 1]? = wr.heap[w.heap.size + 1]?) := (hg4.block (w.heap.size + 1) (by omega) (by intro e; injection e with e; omega)).trans H3.out; have q4 : w4.cell? ⟨w.heap.size + 1, 0, none⟩ = some (.slice Ao K.length co) := (World.cell?_of_block H4.out).trans c1; have q4l : w.heap.size + 1 < w4.heap.size := (by omega); replace hs4 := Lib.hid hs4; clear hg4; dsimp only))
      all_goals
        go_wp2_with fail
        go_roundw
        case rel =>
          have hgg := hg5.out
          refine ⟨t - 1, k4, A5, c5, K ++ [(x, y, decide (1 < r4))], by go_num, by simp; omega, ?_, ?_, ?_, ?_, by omega, by simp; omega, ?_⟩
          · rw [List.length_append]; exact Go.Joins.block_setCell ((hk5.out _ (by omega)).trans (H4.out.trans HO.out)) _
          · exact (Below.heap_setCell _ _ _ _ (by simp)).trans ((hk5.out _ (by omega)).trans ((hG4.out.block w.heap.size (by omega) (by intro e; injection e with e; omega)).trans HX.out))
          · rw [List.length_append, List.flatMap_append]
            exact ownsRow_setCell_below ho5.out (by simp) _
          · exact (hs4.out.keepL fun g hg => hk5.out g (by omega)).set (by omega)
          · refine grown_setO ⟨hgg.os.trans (hG4.out.os.trans hG.os), hgg.tape.trans (hG4.out.tape.trans hG.tape), hgg.output.trans (hG4.out.output.trans hG.output), by omega, fun i hi hn => ?_⟩ (by omega) _ _
            exact (hk5.out i (by omega)).trans ((hG4.out.block i (by omega) hn).trans (hG.block i hi hn))
        case measure => simp [intOf]; omega
    · have ht0 : t = 0 := by omega
      have hKN : K.length = N := by omega
      have hN1 : 1 ≤ N := by omega
      have hN9 : N ≤ 9 := by omega
      have hti : ¬ (0 : Int) < (t : Int) := by omega
      obtain ⟨g, hA, hgB, hgl, hnc, hcell, hfr⟩ := own_at hrow (by omega)
      subst hA
      have e2 := hcell 2 (by omega)
      rw [List.getElem?_eq_getElem (by rw [hrow.1]; omega)] at e2
      have ef := hfr 2
      have hsto := hrow.stored 2 (.bool true)
      generalize (K.flatMap knotC)[2]'(by rw [hrow.1]; omega) = v2 at e2
      have hgX : ¬ g = w.heap.size + 1 := by omega
      have hgX2 : ¬ w.heap.size + 1 = g := by omega
      have r0 : wr.cell? ⟨w.heap.size, 0, none⟩ = some (.slice none 0 0) := by rw [Go.Joins.cell_of_block HX.out]; rfl
      have rf : ∀ o, wr.frozen? ⟨w.heap.size, o, none⟩ = false := Go.Joins.unfrozen_of_block HX.out
      have rl : w.heap.size < wr.heap.size := by omega
      have hgX3 : ¬ g = w.heap.size := by omega
      have hgX4 : ¬ w.heap.size = g := by omega
      have hK0 : (0 : Int) < (K.length : Int) := by omega
      replace hrow := Lib.hid hrow
      replace hsto := Lib.hid hsto
      replace ht0 := Lib.hid ht0
      replace hKN := Lib.hid hKN
      replace hKt := Lib.hid hKt
      clear hcell hfr hnc
      go_wp2_with fail
      have hsame : ∀ i, i < w.heap.size → ((wr.setCell ⟨g, 2, none⟩ (.bool true)).setCell ⟨w.heap.size, 0, none⟩ (.slice (some ⟨g, 0, none⟩) K.length co)).heap[i]? = wr.heap[i]? := fun i hi =>
        (Below.heap_setCell _ _ _ _ (by simp; omega)).trans (Below.heap_setCell _ _ _ _ (by simp; omega))
      refine bodyPost_ret (v := .agg #[.slice (some ⟨g, 0, none⟩) K.length co]) (by simp [results, Tryz.results133, go_sem, r0]) rfl ⟨_, _, _, rfl, k2, headK K, by rw [headK_len], by have := hKN.out; omega, by have := hKN.out; omega, ?_, ?_, by omega, ?_⟩
      · rw [← headK_cells (by have := hKN.out; omega)]
        exact own_lower (ownsRow_setCell_below hsto.out.1 (by simp) _) (by omega)
      · exact hsr.keepL fun i hi => hsame i (by omega)
      · exact ⟨hG.os, hG.tape, hG.output, by simp; omega, fun i hi hn => (hsame i hi).trans (hG.block i hi hn)⟩
end Go.Proofs.YtgdkabljgabjoaaGreatDoor

/- A drawn text. Conditions: as each states. -/
namespace Go.Proofs.YtgdkabljgabjoaaGreatDoor
open Go.RowKit
set_option linter.unusedVariables false
set_option maxRecDepth 100000

theorem grown_app {w a b2 : World} {lo e size n b : Nat} {v : Value} {xs : List Value} (h : w.grownBy a (some b)) (ho : a.ownsRow lo e size v n xs) (hg : a.grownBy b2 v.ownBlock) (hlo : w.heap.size ≤ lo) : w.grownBy b2 (some b) :=
  ⟨hg.os.trans h.os, hg.tape.trans h.tape, hg.output.trans h.output, Nat.le_trans h.size hg.size, fun i hi hn => (hg.block i (Nat.lt_of_lt_of_le hi h.size) (fun e => by have := (ho.lt _ e.symm).1; omega)).trans (h.block i hi hn)⟩
theorem grown_allocA {w a : World} {row : Option Nat} (h : w.grownBy a row) (o : Obj) : w.grownBy (a.alloc o) row := grown_tr h (grown_of (Go.Joins.below_alloc1 a o) row)
set_option maxHeartbeats 2000000 in
theorem word_any (b k : Nat) (m : Int) (w : World) (hs : Src0 w b k) (hk : k ≤ 999990000) (hm0 : 2 ≤ m) (hm1 : m ≤ 1000) :
    Calls Tryz.prog 134 #[.pointer (some ⟨b, 0, none⟩), .int .i64 m] w fun e w' => ∃ (s : ByteArray) (k' : Nat), e = .returned (.string s) ∧ (s.size : Int) < m ∧ Src0 w' b k' ∧ k' ≤ k + 2 + m.toNat ∧ w.grownBy w' (some b) := by
  have hbl := hs.lt
  have hb0 : Below w.heap.size w (w.alloc (.cells #[] 5 (0, 0))) := Go.Joins.below_alloc1 _ _
  have hs0 := Lib.hid (hs.kept hb0 hbl)
  have hrow0 := Lib.hid (World.ownsRow_made (base := w.heap.size) (e := 5) (size := 1) w #[] 0 (Nat.le_refl _) (Nat.zero_le _) rfl)
  have hz0 : (w.alloc (.cells #[] 5 (0, 0))).heap.size = w.heap.size + 1 := by simp
  clear hs
  go_enter Tryz.func134, Tryz.ntmps134
  go_wp2_with fail
  generalize w.alloc (.cells #[] 5 (0, 0)) = w0 at *
  refine (pick_any b k m w0 hs0.out (by omega)).mono ?_
  rintro e w1 ⟨r, k1, rfl, hr0, hr1, _, hs1, hk1, hg1⟩
  have hrm := hr1 (by omega)
  obtain ⟨N, hN⟩ : ∃ N : Nat, (N : Int) = r := ⟨r.toNat, by omega⟩
  have hG1 := grown_tr (grown_of hb0 (some b)) hg1
  have hrow1 := Lib.hid (own_grown hrow0.out hg1 hbl)
  have hz1 : w.heap.size + 1 ≤ w1.heap.size := by have := hg1.size; omega
  replace hs1 := Lib.hid hs1
  clear hr1 hg1 hb0 hs0 hrow0
  go_wp2_with fail
  go_loopw [5, 6] (fun out i wr => ∃ (t k2 : Nat) (A : Option Addr) (c : Nat) (ds : List UInt8), i = .int .i64 t ∧ ds.length + t = N ∧ out = .slice A ds.length c ∧ wr.ownsRow w.heap.size 5 1 (.slice A ds.length c) ds.length (byteV ds) ∧ Src0 wr b k2 ∧ k2 + t ≤ k + 2 + N ∧ w.heap.size + 1 ≤ wr.heap.size ∧ w.grownBy wr (some b)) (fun out i wr => (intOf i).toNat)
  case atStart => exact ⟨N, k1, some ⟨w.heap.size, 0, none⟩, 0, [], by rw [hN], by simp, rfl, hrow1.out, hs1.out, by omega, hz1, hG1⟩
  case round =>
    clear hrow1 hs1 hG1 hz1
    obtain ⟨t, k2, A, c, ds, rfl, hKt, rfl, hrow, hsr, hk2, hzr, hG⟩ := hrel
    have hbr := hsr.lt
    by_cases ht : 0 < t
    · have hti : (0 : Int) < (t : Int) := by omega
      have hcN := Lib.hid (nextS_any b k2 wr hsr (by omega))
      replace hrow := Lib.hid hrow
      clear hsr
      go_wp2_with fail
      refine hcN.out.mono ?_
      rintro e w3 ⟨x, rfl, hx0, hx1, hs3, hg3⟩
      have hG3 := grown_tr hG hg3
      have hrow3 := Lib.hid (own_grown hrow.out hg3 hbl)
      have hz3 := hg3.size
      obtain ⟨y, hy⟩ : ∃ y : UInt8, (y.toNat : Int) = x := ⟨UInt8.ofNat x.toNat, by rw [UInt8.toNat_ofNat']; omega⟩
      have hwx : IntKind.u8.wrap x = (y.toNat : Int) := by rw [IntKind.wrap_u8, hy]; omega
      replace hs3 := Lib.hid hs3
      replace hy := Lib.hid hy
      clear hcN hg3
      go_wp2_with (at_builtin; refine wpAppAt rfl (.tmp 15) (.tmp 19) elemU8 rfl (v := .slice A ds.length c) (n := ds.length) (xs := byteV ds) rfl (hrow3.out.alloc _) rfl (src_at (cs := [.int .u8 y.toNat]) rfl (by simp [Value.oneCell']) rfl) (by omega) (by omega) (by simp; omega) (ds.length + 1) rfl ?_; intro A5 c5 w5 ho5 hg5 _; replace ho5 := Lib.hid ho5; replace hg5 := Lib.hid hg5)
      go_roundw
      case rel =>
        refine ⟨t - 1, k2 + 1, A5, c5, ds ++ [y], by go_num, by simp; omega, by simp, ?_, ?_, by omega, by have := hg5.out.size; simp at this; omega, grown_app (grown_allocA hG3 _) (hrow3.out.alloc _) hg5.out (Nat.le_refl _)⟩
        · rw [List.length_append, byteV_append]; exact ho5.out
        · exact hs3.out.keepL fun i hi => (hg5.out.block i (by simp; omega) (fun e => by have := (hrow3.out.lt _ e.symm).1; omega)).trans (Below.heap_alloc _ _ _ (by omega))
      case measure => simp [intOf]; omega
    · have ht0 : t = 0 := by omega
      have hti : ¬ (0 : Int) < (t : Int) := by omega
      have kr := run_bytes_str (P := Tryz.prog) (src := 41) (dst := 9) (w := wr) (c := c) Tryz.underlying41 Tryz.underlying5 Tryz.underlying9 (src_own hrow (byteV_one _)) (by
        intro hA; subst hA
        rcases Nat.eq_zero_or_pos ds.length with h0 | h0
        · exact h0
        · obtain ⟨g, hg, _⟩ := own_at hrow (by omega)
          cases hg)
      replace hrow := Lib.hid hrow
      replace ht0 := Lib.hid ht0
      replace hKt := Lib.hid hKt
      go_wp2_with fail
      go_ret
      exact ⟨_, rfl, by have := hKt.out; show ((ds.length : Nat) : Int) < m; omega, k2, hsr, by have := hKt.out; omega, hG⟩
end Go.Proofs.YtgdkabljgabjoaaGreatDoor

/- A glyph in the making: what each step does to it. Conditions: as each states. -/
namespace Go.Proofs.YtgdkabljgabjoaaGreatDoor
open Go.RowKit
set_option linter.unusedVariables false
set_option maxRecDepth 100000

structure DrOk (d : Gl) : Prop where
  nm : d.name.size ≤ 12
  ol : d.out.length ≤ 3
  ok : ∀ K ∈ d.out, K.length ≤ 9
  pl : d.parts.length ≤ 3
  al : d.anchors.length ≤ 3
  as' : ∀ a ∈ d.anchors, a.1.size ≤ 12
  hl : d.hints.size ≤ 8
  pm : ∀ p ∈ d.parts, InSq 600 p.2
  am : ∀ a ∈ d.anchors, InSq 600 a.2
def nilH : GlH := ⟨⟨none, 0, 0⟩, ⟨none, 0, 0⟩, ⟨none, 0, 0⟩⟩
/-- a glyph in the making: its box is Y -/
structure DrG (w : World) (Y b : Nat) (W : World) (d : Gl) (h : GlH) (k : Nat) : Prop where
  g : w.grownBy W (some b)
  s : Src0 W b k
  bl : b < w.heap.size
  lo : w.heap.size < Y
  hi : Y < W.heap.size
  box : W.heap[Y]? = some (.cells (glC d h).toArray 28 (0, 0))
  res : W.heap[w.heap.size]? = some (.cells #[.string ⟨#[]⟩, .int .i64 0, .int .i64 0, .slice none 0 0, .slice none 0 0, .slice none 0 0, .string ⟨#[]⟩] 28 (0, 0))
  o : ∃ ys, OutTo W (Y + 1) h.out.A h.out.n h.out.c ys d.out
  on : d.out.length = h.out.n
  p : W.ownsRow (Y + 1) 106 3 (.slice h.parts.A h.parts.n h.parts.c) h.parts.n (d.parts.flatMap partC)
  pn : d.parts.length = h.parts.n
  a : W.ownsRow (Y + 1) 117 3 (.slice h.anchors.A h.anchors.n h.anchors.c) h.anchors.n (d.anchors.flatMap anchC)
  an : d.anchors.length = h.anchors.n
  ok : DrOk d
theorem outTo_grown {W W' : World} {lo k co b : Nat} {A : Option Addr} {ys : List Value} {Ls : List (List Knot)} (h : OutTo W lo A k co ys Ls) (hg : W.grownBy W' (some b)) (hb : b < lo) : OutTo W' lo A k co ys Ls :=
  ⟨own_grown h.1 hg hb, fun j K hj hK => by obtain ⟨Aj, cj, h1, h2⟩ := h.2.1 j K hj hK; exact ⟨Aj, cj, h1, own_grown h2 hg hb⟩, h.2.2⟩
theorem DrG.grown {w W W' : World} {Y b k k' : Nat} {d : Gl} {h : GlH} (r : DrG w Y b W d h k) (hg : W.grownBy W' (some b)) (hs : Src0 W' b k') : DrG w Y b W' d h k' := by
  have hbl := r.bl
  have hlo := r.lo
  have hhi := r.hi
  obtain ⟨ys, ho⟩ := r.o
  exact ⟨grown_tr r.g hg, hs, hbl, hlo, Nat.lt_of_lt_of_le hhi hg.size, (hg.block Y hhi (by intro e; injection e with e; omega)).trans r.box, (hg.block _ (by omega) (by intro e; injection e with e; omega)).trans r.res, ⟨ys, outTo_grown ho hg (by omega)⟩, r.on, own_grown r.p hg (by omega), r.pn, own_grown r.a hg (by omega), r.an, r.ok⟩
theorem DrG.below {w W W' : World} {Y b k : Nat} {d : Gl} {h : GlH} (r : DrG w Y b W d h k) (hb : Below W.heap.size W W') : DrG w Y b W' d h k :=
  r.grown (grown_of hb _) (r.s.kept hb r.s.lt)
theorem own_keep {W W' : World} {lo e size n lo2 e2 size2 n2 : Nat} {v v2 : Value} {xs xs2 : List Value} (h : W.ownsRow lo e size v n xs) (h2 : W.ownsRow lo2 e2 size2 v2 n2 xs2) (he : e ≠ e2) (hg : W.grownBy W' v2.ownBlock) : W'.ownsRow lo e size v n xs :=
  own_same h fun g hg' => hg.block g (h.lt g hg').2 fun e => own_ne_kind h h2 he hg' e.symm
theorem out_keep {W W' : World} {lo k co lo2 e2 size2 n2 : Nat} {A : Option Addr} {ys : List Value} {Ls : List (List Knot)} {v2 : Value} {xs2 : List Value} (h : OutTo W lo A k co ys Ls) (h2 : W.ownsRow lo2 e2 size2 v2 n2 xs2) (he : 113 ≠ e2) (he2 : 152 ≠ e2) (hg : W.grownBy W' v2.ownBlock) : OutTo W' lo A k co ys Ls :=
  ⟨own_keep h.1 h2 he hg, fun j K hj hK => by obtain ⟨Aj, cj, k1, k2⟩ := h.2.1 j K hj hK; exact ⟨Aj, cj, k1, own_keep k2 h2 he2 hg⟩, h.2.2⟩
/-- what an append to a row above Y and a store into Y leave -/
theorem DrG.base {w W W' : World} {Y b k lo e size n : Nat} {d : Gl} {h : GlH} {v : Value} {xs : List Value} (r : DrG w Y b W d h k) (hr : W.ownsRow lo e size v n xs) (hlo : Y < lo) (hg : W.grownBy W' v.ownBlock) (i : Nat) (u : Value) :
    w.grownBy (W'.setCell ⟨Y, i, none⟩ u) (some b) ∧ Src0 (W'.setCell ⟨Y, i, none⟩ u) b k ∧ Y < (W'.setCell ⟨Y, i, none⟩ u).heap.size ∧ W'.heap[Y]? = W.heap[Y]? ∧ (W'.setCell ⟨Y, i, none⟩ u).heap[w.heap.size]? = W.heap[w.heap.size]? := by
  have h1 := r.bl
  have h2 := r.lo
  have h3 := r.hi
  have hne : ∀ g, g ≤ Y → v.ownBlock ≠ some g := fun g hg e => by have := (hr.lt g e).1; omega
  have hz := hg.size
  refine ⟨grown_setO (grown_app r.g hr hg (by omega)) (by omega) _ _, (r.s.keepL fun g hgb => hg.block g (by omega) (fun e => hne g (by omega) e.symm)).set (by omega), by simp; omega, hg.block Y h3 (fun e => hne Y (Nat.le_refl _) e.symm), ?_⟩
  exact (Below.heap_setCell _ _ _ _ (by simp only; omega)).trans (hg.block _ (by omega) (fun e => hne _ (by omega) e.symm))
theorem DrG.part {w W W' : World} {Y b k c' : Nat} {A' : Option Addr} {d : Gl} {h : GlH} {p : Part} (r : DrG w Y b W d h k) (hg : W.grownBy W' (Value.slice h.parts.A h.parts.n h.parts.c).ownBlock) (ho : W'.ownsRow (Y + 1) 106 3 (.slice A' (h.parts.n + 1) c') (h.parts.n + 1) (d.parts.flatMap partC ++ partC p)) (hle : d.parts.length < 3) (hpm : InSq 600 p.2) :
    DrG w Y b (W'.setCell ⟨Y, 4, none⟩ (.slice A' (h.parts.n + 1) c')) ⟨d.name, d.code, d.adv, d.out, d.parts ++ [p], d.anchors, d.hints⟩ ⟨h.out, ⟨A', h.parts.n + 1, c'⟩, h.anchors⟩ k := by
  obtain ⟨b1, b2, b3, b4, b5⟩ := r.base r.p (Nat.lt_succ_self _) hg 4 (.slice A' (h.parts.n + 1) c')
  obtain ⟨ys, hys⟩ := r.o
  have hy : Y < Y + 1 := Nat.lt_succ_self _
  refine ⟨b1, b2, r.bl, r.lo, b3, Go.Joins.block_setCell (b4.trans r.box) _, b5.trans r.res, ⟨ys, (out_keep hys r.p (by decide) (by decide) hg).set hy _⟩, r.on, ?_, by simp [r.pn], ownsRow_setCell_below (own_keep r.a r.p (by decide) hg) hy _, r.an, ⟨r.ok.nm, r.ok.ol, r.ok.ok, by simp; omega, r.ok.al, r.ok.as', r.ok.hl, fun q hq => (List.mem_append.1 hq).elim (r.ok.pm q) (fun hq => by rw [List.mem_singleton] at hq; subst hq; exact hpm), r.ok.am⟩⟩
  show (W'.setCell _ _).ownsRow _ _ _ _ _ ((d.parts ++ [p]).flatMap partC)
  rw [List.flatMap_append]
  exact ownsRow_setCell_below (by simpa using ho) hy _
theorem DrG.anch {w W W' : World} {Y b k c' : Nat} {A' : Option Addr} {d : Gl} {h : GlH} {p : Anch} (r : DrG w Y b W d h k) (hg : W.grownBy W' (Value.slice h.anchors.A h.anchors.n h.anchors.c).ownBlock) (ho : W'.ownsRow (Y + 1) 117 3 (.slice A' (h.anchors.n + 1) c') (h.anchors.n + 1) (d.anchors.flatMap anchC ++ anchC p)) (hle : d.anchors.length < 3) (hp : p.1.size ≤ 12) (hpa : InSq 600 p.2) :
    DrG w Y b (W'.setCell ⟨Y, 5, none⟩ (.slice A' (h.anchors.n + 1) c')) ⟨d.name, d.code, d.adv, d.out, d.parts, d.anchors ++ [p], d.hints⟩ ⟨h.out, h.parts, ⟨A', h.anchors.n + 1, c'⟩⟩ k := by
  obtain ⟨b1, b2, b3, b4, b5⟩ := r.base r.a (Nat.lt_succ_self _) hg 5 (.slice A' (h.anchors.n + 1) c')
  obtain ⟨ys, hys⟩ := r.o
  have hy : Y < Y + 1 := Nat.lt_succ_self _
  refine ⟨b1, b2, r.bl, r.lo, b3, Go.Joins.block_setCell (b4.trans r.box) _, b5.trans r.res, ⟨ys, (out_keep hys r.a (by decide) (by decide) hg).set hy _⟩, r.on, ownsRow_setCell_below (own_keep r.p r.a (by decide) hg) hy _, r.pn, ?_, by simp [r.an], ⟨r.ok.nm, r.ok.ol, r.ok.ok, r.ok.pl, by simp; omega, fun a ha => ?_, r.ok.hl, r.ok.pm, fun q hq => (List.mem_append.1 hq).elim (r.ok.am q) (fun hq => by rw [List.mem_singleton] at hq; subst hq; exact hpa)⟩⟩
  · show (W'.setCell _ _).ownsRow _ _ _ _ _ ((d.anchors ++ [p]).flatMap anchC)
    rw [List.flatMap_append]
    exact ownsRow_setCell_below (by simpa using ho) hy _
  · rcases List.mem_append.1 ha with ha | ha
    · exact r.ok.as' a ha
    · rw [List.mem_singleton] at ha; subst ha; exact hp
theorem OutTo.nextS {w w1 w2 : World} {lo B k co c2 cc : Nat} {Ao A2 A3 : Option Addr} {ys : List Value} {Ls : List (List Knot)} {K : List Knot} (h : OutTo w lo Ao k co ys Ls) (hl : Ls.length = k)
    (hs : SameB lo w.heap.size w w1) (hz : w.heap.size ≤ w1.heap.size) (hr : w1.ownsRow B 152 3 (.slice A2 K.length c2) K.length (K.flatMap knotC)) (hB : w.heap.size ≤ B) (hlo : lo ≤ w.heap.size)
    (ho : w2.ownsRow lo 113 1 (.slice A3 (k + 1) cc) (k + 1) (ys ++ [.slice A2 K.length c2])) (hg : w1.grownBy w2 (Value.slice Ao k co).ownBlock) : OutTo w2 lo A3 (k + 1) cc (ys ++ [.slice A2 K.length c2]) (Ls ++ [K]) := by
  obtain ⟨h1, h2, h3⟩ := h
  have up : ∀ {e size n : Nat} {v : Value} {xs : List Value}, w.ownsRow lo e size v n xs → w1.ownsRow lo e size v n xs := fun hv => own_same hv fun g hg => hs g (hv.lt g hg).1 (hv.lt g hg).2
  have h1' := up h1
  have hyl := h1.1
  rw [Nat.mul_one] at hyl
  have hne : ∀ {g : Nat} {v : Value} {n : Nat} {xs : List Value} {B' : Nat}, w1.ownsRow B' 152 3 v n xs → v.ownBlock = some g → w2.heap[g]? = w1.heap[g]? := fun {g v n xs B'} hv hg' =>
    hg.block g (hv.lt g hg').2 fun e => own_ne_kind hv h1' (by decide) hg' e.symm
  refine ⟨ho, fun j K' hj hK' => ?_, fun i j u v hij hu hv => ?_⟩
  · by_cases hjk : j = k
    · subst hjk
      rw [List.getElem?_append_right (by omega), hl, Nat.sub_self] at hK'
      simp at hK'
      subst hK'
      exact ⟨A2, c2, by rw [List.getElem?_append_right (by omega), hyl]; simp, own_lower (own_same hr fun g hg' => hne hr hg') (by omega)⟩
    · rw [List.getElem?_append_left (by omega)] at hK'
      obtain ⟨Aj, cj, h4, h5⟩ := h2 j K' (by omega) hK'
      exact ⟨Aj, cj, by rw [List.getElem?_append_left (by omega)]; exact h4, own_same (up h5) fun g hg' => hne (up h5) hg'⟩
  · have hold : ∀ (j : Nat) (v : Value), j < k → ys[j]? = some v → ∀ g, v.ownBlock = some g → g < w.heap.size := fun j v hj hv g hg' => by
      obtain ⟨Aj, cj, h4, h5⟩ := h2 j _ hj (List.getElem?_eq_getElem (by omega))
      rw [hv] at h4
      injection h4 with h4
      subst h4
      exact (h5.lt g hg').2
    have hil := (List.getElem?_eq_some_iff.1 hu).1
    have hjl := (List.getElem?_eq_some_iff.1 hv).1
    simp at hil hjl
    by_cases hik : i < k
    · rw [List.getElem?_append_left (by omega)] at hu
      by_cases hjk : j < k
      · rw [List.getElem?_append_left (by omega)] at hv
        exact h3 i j u v hij hu hv
      · obtain rfl : j = k := by omega
        rw [List.getElem?_append_right (by omega), hyl] at hv
        simp at hv
        subst hv
        intro g hgu hgv
        have := hold i u hik hu g hgu
        have := (hr.lt g hgv).1
        omega
    · obtain rfl : i = k := by omega
      rw [List.getElem?_append_right (by omega), hyl] at hu
      rw [List.getElem?_append_left (by omega)] at hv
      simp at hu
      subst hu
      intro g hgu hgv
      have := hold j v (by omega) hv g hgv
      have := (hr.lt g hgu).1
      omega
theorem DrG.loop {w W W1 W' : World} {Y b k k' B c2 c' : Nat} {A2 A' : Option Addr} {d : Gl} {h : GlH} {K : List Knot} {ys : List Value} (r : DrG w Y b W d h k) (hys : OutTo W (Y + 1) h.out.A h.out.n h.out.c ys d.out) (hg1 : W.grownBy W1 (some b)) (hs1 : Src0 W1 b k') (hr : W1.ownsRow B 152 3 (.slice A2 K.length c2) K.length (K.flatMap knotC)) (hB : W.heap.size ≤ B)
    (hg : W1.grownBy W' (Value.slice h.out.A h.out.n h.out.c).ownBlock) (ho : W'.ownsRow (Y + 1) 113 1 (.slice A' (h.out.n + 1) c') (h.out.n + 1) (ys ++ [.slice A2 K.length c2])) (hle : d.out.length < 3) (hK : K.length ≤ 9) :
    DrG w Y b (W'.setCell ⟨Y, 3, none⟩ (.slice A' (h.out.n + 1) c')) ⟨d.name, d.code, d.adv, d.out ++ [K], d.parts, d.anchors, d.hints⟩ ⟨⟨A', h.out.n + 1, c'⟩, h.parts, h.anchors⟩ k' := by
  have r1 := r.grown hg1 hs1
  have hro := own_grown hys.1 hg1 (show b < Y + 1 by have := r.bl; have := r.lo; omega)
  obtain ⟨b1, b2, b3, b4, b5⟩ := r1.base hro (Nat.lt_succ_self _) hg 3 (.slice A' (h.out.n + 1) c')
  have hy : Y < Y + 1 := Nat.lt_succ_self _
  have hbl := r.bl
  have hlo := r.lo
  have hhi := r.hi
  have hnx := OutTo.nextS hys r.on (fun g h1 h2 => hg1.block g h2 (by intro e; injection e with e; omega)) hg1.size hr hB (by omega) ho hg
  refine ⟨b1, b2, hbl, hlo, b3, Go.Joins.block_setCell (b4.trans r1.box) _, b5.trans r1.res, ⟨_, hnx.set hy _⟩, by simp [r.on], ownsRow_setCell_below (own_keep r1.p hro (by decide) hg) hy _, r.pn, ownsRow_setCell_below (own_keep r1.a hro (by decide) hg) hy _, r.an, ⟨r.ok.nm, by simp; omega, fun K' hK' => ?_, r.ok.pl, r.ok.al, r.ok.as', r.ok.hl, r.ok.pm, r.ok.am⟩⟩
  rcases List.mem_append.1 hK' with h1 | h1
  · exact r.ok.ok K' h1
  · rw [List.mem_singleton] at h1; subst h1; exact hK
/-- a store into the glyph's own cells -/
theorem DrG.cell {w W : World} {Y b k i : Nat} {d d' : Gl} {h : GlH} {u : Value} (r : DrG w Y b W d h k) (hc : (glC d h).toArray.set! i u = (glC d' h).toArray) (ho : d'.out = d.out) (hp : d'.parts = d.parts) (ha : d'.anchors = d.anchors) (hok : DrOk d') : DrG w Y b (W.setCell ⟨Y, i, none⟩ u) d' h k := by
  have hbl := r.bl
  have hlo := r.lo
  have hhi := r.hi
  obtain ⟨ys, hys⟩ := r.o
  have hy : Y < Y + 1 := Nat.lt_succ_self _
  refine ⟨grown_setO r.g (by omega) _ _, r.s.set (by omega), hbl, hlo, by simp; exact hhi, ?_, (Below.heap_setCell _ _ _ _ (by simp only; omega)).trans r.res, ⟨ys, by rw [ho]; exact hys.set hy _⟩, by rw [ho]; exact r.on, by rw [hp]; exact ownsRow_setCell_below r.p hy _, by rw [hp]; exact r.pn, by rw [ha]; exact ownsRow_setCell_below r.a hy _, by rw [ha]; exact r.an, hok⟩
  have := Go.Joins.block_setCell r.box (i := i) u
  rw [← hc]
  exact this
theorem DrG.cells {w W : World} {Y b k : Nat} {d : Gl} {h : GlH} (r : DrG w Y b W d h k) {i : Nat} {u : Value} (hu : (glC d h)[i]? = some u) : W.cell? ⟨Y, i, none⟩ = some u := by
  rw [Go.Joins.cell_of_block r.box]
  simpa using hu
theorem DrG.glx {w W : World} {Y b k : Nat} {d : Gl} {h : GlH} (r : DrG w Y b W d h k) : GlX W (Y + 1) W.heap.size d h := by
  obtain ⟨ys, h1, h2, h3⟩ := r.o
  exact ⟨OutOwn.in ⟨ys, r.on, h1, fun j K hj => h2 j K (by have := (List.getElem?_eq_some_iff.1 hj).1; have := r.on; omega) hj, h3⟩, r.p, r.pn, fun g hg => (r.p.lt g hg).2, r.a, r.an, fun g hg => (r.a.lt g hg).2, own_nc r.a⟩
end Go.Proofs.YtgdkabljgabjoaaGreatDoor

