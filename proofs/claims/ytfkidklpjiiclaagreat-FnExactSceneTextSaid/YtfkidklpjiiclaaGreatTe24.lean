/- Regions, as outlines are: XOutT turned. Conditions: as each states. -/
import Derived.OneCell
import Derived.Deep.RegionWith
import Derived.StillTailTactics
import Derived.Test.YtfkidklpjiiclaaGreatTe23
import Derived.Test.YtfkidklpjiiclaaGreatTe03
import Derived.Test.YtfkidklpjiiclaaGreatTe05
namespace Go.Proofs.YtfkidklpjiiclaaGreat
open Go.RowKit
set_option linter.unusedVariables false
set_option maxRecDepth 100000

/-- an outline of the call's own: its row, its loops' rows, each in a block of its own -/
def RegOwn (w : World) (lo : Nat) (A : Option Addr) (n c : Nat) (Ls : List (List (Int × Int))) : Prop := ∃ ys : List Value, Ls.length = n ∧ w.ownsRow lo 155 1 (.slice A n c) n ys ∧
  (∀ (j : Nat) (K : List (Int × Int)), Ls[j]? = some K → ∃ (Aj : Option Addr) (cj : Nat), ys[j]? = some (.slice Aj K.length cj) ∧ w.ownsRow lo 148 2 (.slice Aj K.length cj) K.length (K.flatMap ptC)) ∧
  (∀ (i j : Nat) (u v : Value), i ≠ j → ys[i]? = some u → ys[j]? = some v → ApartV u v)
theorem RegOwn.kept {w w' : World} {lo n c : Nat} {A : Option Addr} {Ls : List (List (Int × Int))} (h : RegOwn w lo A n c Ls) (hb : Below w.heap.size w w') : RegOwn w' lo A n c Ls := by
  obtain ⟨ys, h1, h2, h3, h4⟩ := h
  refine ⟨ys, h1, own_below h2 hb, fun j K hj => ?_, h4⟩
  obtain ⟨Aj, cj, h5, h6⟩ := h3 j K hj
  exact ⟨Aj, cj, h5, own_below h6 hb⟩
theorem RegOwn.rd {w : World} {lo n c : Nat} {A : Option Addr} {Ls : List (List (Int × Int))} (h : RegOwn w lo A n c Ls) (hm : ∀ K ∈ Ls, K.length ≤ maxLen) : RegRd w lo w.heap.size A n Ls := by
  obtain ⟨ys, h1, h2, h3, h4⟩ := h
  refine ⟨h1, fun hn => ?_⟩
  obtain ⟨g, rfl, hg1, hg2, _, hc, _⟩ := own_at h2 hn
  refine ⟨g, 0, rfl, hg1, hg2, fun j K hj => ?_⟩
  obtain ⟨Aj, cj, h5, h6⟩ := h3 j K hj
  refine ⟨[.slice Aj K.length cj], rfl, fun i u hu => ?_, Aj, K.length, cj, rfl, hm K (List.mem_of_getElem? hj), rdS_own ptC_len (by omega) h6 rfl⟩
  match i, hu with
  | 0, hu =>
    injection hu with hu
    subst hu
    have hjl := (List.getElem?_eq_some_iff.1 hj).1
    simp only [Nat.mul_one, Nat.add_zero, Nat.zero_add]
    rw [hc j (by omega), h5]
theorem RegOwn.stored_below {w : World} {lo n c : Nat} {A : Option Addr} {Ls : List (List (Int × Int))} (h : RegOwn w lo A n c Ls) {a : Addr} (ha : a.block < lo) (u : Value) : RegOwn (w.setCell a u) lo A n c Ls := by
  obtain ⟨ys, h1, h2, h3, h4⟩ := h
  refine ⟨ys, h1, ownsRow_setCell_below h2 ha u, fun j K hj => ?_, h4⟩
  obtain ⟨Aj, cj, h5, h6⟩ := h3 j K hj
  exact ⟨Aj, cj, h5, ownsRow_setCell_below h6 ha u⟩
theorem RegOwn.base {w : World} {lo lo' n c : Nat} {A : Option Addr} {Ls : List (List (Int × Int))} (h : RegOwn w lo A n c Ls) (hl : lo' ≤ lo) : RegOwn w lo' A n c Ls := by
  obtain ⟨ys, h1, h2, h3, h4⟩ := h
  refine ⟨ys, h1, own_lower h2 hl, fun j K hj => ?_, h4⟩
  obtain ⟨Aj, cj, h5, h6⟩ := h3 j K hj
  exact ⟨Aj, cj, h5, own_lower h6 hl⟩

set_option maxHeartbeats 1000000 in
theorem toRing_any (A : Option Addr) (n c lo hi : Nat) (K : List (Int × Int)) (w : World) (hr : RdS 2 (FlatR ptC) w lo hi A n K) (hhi : hi ≤ w.heap.size) (hn : n ≤ 1048576) :
    Calls Tryz.prog 119 #[.agg #[.slice A n c]] w fun e w' => ∃ g, e = .returned (.agg #[.slice (some ⟨g, 0, none⟩) n n]) ∧ g = w.heap.size + 3 ∧ w'.ownsRow (w.heap.size + 3) 148 2 (.slice (some ⟨g, 0, none⟩) n n) n (K.flatMap ptC) ∧ Below w.heap.size w w' := by
  have hc := Lib.hid (fun a b d => toPtS_any A n c lo hi K (((w.alloc a).alloc b).alloc d) (hr.frame (good_flat _) (((SameB.refl _ _ w).alloc hhi _).alloc (by simp; omega) _ |>.alloc (by simp; omega) _)) (by simp; omega) hn)
  clear hr
  go_enter Tryz.func119, Tryz.ntmps119
  go_wp2_with fail
  refine (hc.out _ _ _).mono ?_
  rintro e w1 ⟨g, rfl, hg, ho, hb1⟩
  have hnew := heap_new0 w (.cells #[.slice A n c] 196 (0, 0)) (.cells #[.slice none 0 0] 155 (0, 0)) (.cells #[.slice none 0 0] 155 (0, 0))
  have hR := (hb1.block _ (by simp <;> omega)).trans hnew.2.1
  have hO := (hb1.block _ (by simp <;> omega)).trans hnew.2.2
  clear hnew
  have hB1 : Below w.heap.size w w1 := ((((Below.refl _ _).alloc (Nat.le_refl _) _).alloc (by simp) _).alloc (by simp <;> omega) _).trans (hb1.mono (by simp <;> omega))
  have hz := hb1.size
  simp at hz hg
  have r0 : w1.cell? ⟨w.heap.size + 1, 0, none⟩ = some (.slice none 0 0) := by rw [Go.Joins.cell_of_block hR]; rfl
  have o0 : w1.cell? ⟨w.heap.size + 2, 0, none⟩ = some (.slice none 0 0) := by rw [Go.Joins.cell_of_block hO]; rfl
  have fr : ∀ o, w1.frozen? ⟨w.heap.size + 1, o, none⟩ = false := Go.Joins.unfrozen_of_block hR
  have fo : ∀ o, w1.frozen? ⟨w.heap.size + 2, o, none⟩ = false := Go.Joins.unfrozen_of_block hO
  replace ho := Lib.hid ho
  replace hg := Lib.hid hg
  clear hR hO hb1
  go_wp2_with fail
  refine bodyPost_ret (v := .agg #[.slice (some ⟨g, 0, none⟩) n n]) (by simp [results, Tryz.results119, go_sem, r0]) rfl ⟨g, rfl, by rw [hg.out], ?_, ?_⟩
  · refine ownsRow_setCell_other (ownsRow_setCell_other ?_ ?_ _) ?_ _
    · exact own_lower ho.out (by simp)
    · simp [Value.ownBlock]; have := hg.out; omega
    · simp [Value.ownBlock]; have := hg.out; omega
  · exact (hB1.setCell (by simp <;> omega) _).setCell (by simp <;> omega) _

theorem infoRing : (Tryz.prog.info? 155).map (fun i => (i.zero, i.size, i.bytes)) = some (some (.agg #[.slice none 0 0]), 1, 24) := by kernel_rfl

/-- the loops up to k stand in the row ys, each in a block of its own, in rising order -/
def RingsTo (w : World) (X : Nat) (Ls : List (List (Int × Int))) (k : Nat) (ys : List Value) (gs : Nat → Nat) : Prop :=
  (∀ (j : Nat) (K : List (Int × Int)), j < k → Ls[j]? = some K → ys[j]? = some (.slice (some ⟨gs j, 0, none⟩) K.length K.length) ∧ w.ownsRow (X + 1) 148 2 (.slice (some ⟨gs j, 0, none⟩) K.length K.length) K.length (K.flatMap ptC)) ∧
  (∀ i j : Nat, i < j → j < k → gs i < gs j) ∧ (∀ j : Nat, j < k → gs j < w.heap.size)

set_option maxHeartbeats 2000000 in
theorem toRingS_any (A : Option Addr) (n c lo hi : Nat) (Ls : List (List (Int × Int))) (w : World) (hr : RegRd w lo hi A n Ls) (hhi : hi ≤ w.heap.size) (hn : n ≤ 1048576) (hK : ∀ K ∈ Ls, K.length ≤ 1048576) :
    Calls Tryz.prog 64 #[.slice A n c] w fun e w' => ∃ A', e = .returned (.slice A' n n) ∧ RegOwn w' w.heap.size A' n n Ls ∧ Below w.heap.size w w' := by
  obtain ⟨i0, hi0, hz0, hs0, hby0⟩ := info_parts infoRing
  have hll := Lib.hid hr.1
  replace hr := Lib.hid hr
  replace hK := Lib.hid hK
  go_enter Tryz.func64, Tryz.ntmps64
  go_wp2_with (at_make; refine wpList_make_full _ rfl _ _ 59 rfl w.heap.size 155 i0 (.agg #[.slice none 0 0]) 1 Tryz.underlying59 hi0 hz0 hs0 .i64 .i64 _ _ n rfl rfl rfl rfl (by rw [hby0]; omega) (by unfold maxLen; omega) (Nat.le_refl _) ?_; intro w0 hown0 hg0)
  have hb0 : Below w.heap.size w w0 := (Below.refl _ _).grown hg0 (Nat.le_refl _) (by simp)
  have hlt0 := hown0.lt
  clear hg0
  go_loopw [4] (fun i wr => ∃ (k : Nat) (ys : List Value) (gs : Nat → Nat), i = .int .i64 k ∧ k ≤ n ∧ wr.ownsRow w.heap.size 155 1 (.slice (some ⟨w.heap.size, 0, none⟩) n n) n ys ∧ RingsTo wr w.heap.size Ls k ys gs ∧ Below w.heap.size w wr) (fun i wr => n - (intOf i).toNat)
  case atStart => exact ⟨0, _, fun _ => 0, rfl, Nat.zero_le _, hown0, ⟨fun j K hj => absurd hj (Nat.not_lt_zero j), fun i j _ hj => absurd hj (Nat.not_lt_zero j), fun j hj => absurd hj (Nat.not_lt_zero j)⟩, hb0⟩
  case round =>
    clear hown0 hb0 hlt0
    obtain ⟨k, ys, gs, rfl, hk, ho, hto, hbel⟩ := hrel
    replace hto := Lib.hid hto
    have hX : w.heap.size < wr.heap.size := (ho.lt _ rfl).2
    by_cases hlt : k < n
    · obtain ⟨b, off, K, A2, n2, c2, rfl, hb0, hb, hja, q0, hm, hrk⟩ := reg_at (hr.out.frame good_ring (Below.sameB hbel hhi)) hlt
      have hbw : b < wr.heap.size := by omega
      have hlen : n2 ≤ 1048576 := by rw [← hrk.1]; exact hK.out K (List.mem_of_getElem? hja)
      have hn2 := Lib.hid hrk.1
      have hcall := Lib.hid (toRing_any A2 n2 c2 lo hi K wr hrk (by omega) hlen)
      clear hrk hm hb0 hb
      replace hja := Lib.hid hja
      replace ho := Lib.hid ho
      go_wp2_with (go_at_call 119; refine hcall.out.mono ?_; rintro e w1 ⟨g, rfl, hg, hog, hb1⟩; have ho1 := own_below ho.out hb1; obtain ⟨g0, hg0, _, hglt, _, hcell, hfr⟩ := own_at ho1 (by omega); injection hg0 with hg0; injection hg0 with hg0; subst hg0; have c0 := hcell k (by omega); have hyl := ho1.1; rw [List.getElem?_eq_getElem (by omega)] at c0; have f0 := hfr k; clear hcell hfr; replace ho1 := Lib.hid ho1; replace hyl := Lib.hid hyl; generalize ys[k]'(by have := hyl.out; omega) = v0 at c0; replace hog := Lib.hid hog; replace hg := Lib.hid hg)
      go_roundw
      case rel =>
        have hgv := hg.out
        have hbz := hb1.size
        have hogl := hog.out.lt g rfl
        refine ⟨k + 1, _, updN gs k g, by go_num, by omega, (ho1.out.stored k (.slice (some ⟨g, 0, none⟩) n2 n2)).1, ⟨fun j K' hj hjK => ?_, fun i j hij hj => ?_, fun j hj => ?_⟩, (hbel.trans (hb1.mono hbel.size)).setCell (Nat.le_refl _) _⟩
        · by_cases hjk : j = k
          · subst hjk
            have hKK := Option.some.inj (hja.out.symm.trans hjK)
            subst hKK
            have := hyl.out
            rw [List.getElem?_set_self (by omega), updN_same, hn2.out]
            refine ⟨rfl, ownsRow_setCell_other (own_lower (lo := wr.heap.size + 3) (lo' := w.heap.size + 1) ?_ (by omega)) (by simp [Value.ownBlock]; omega) _⟩
            exact hog.out
          · obtain ⟨h1, h2⟩ := hto.out.1 j K' (by omega) hjK
            have hgj := hto.out.2.2 j (by omega)
            rw [List.getElem?_set_ne (fun e => hjk e.symm), updN_ne gs hjk]
            have h3 : w.heap.size + 1 ≤ gs j := (h2.lt _ rfl).1
            exact ⟨h1, ownsRow_setCell_other (own_below h2 hb1) (by simp [Value.ownBlock]; omega) _⟩
        · by_cases hjk : j = k
          · subst hjk
            rw [updN_same, updN_ne gs (by omega)]
            have := hto.out.2.2 i (by omega)
            omega
          · rw [updN_ne gs hjk, updN_ne gs (by omega)]
            exact hto.out.2.1 i j hij (by omega)
        · by_cases hjk : j = k
          · subst hjk; rw [updN_same]; simp; exact hogl.2
          · rw [updN_ne gs hjk]; simp; have := hto.out.2.2 j (by omega); omega
      case measure => simp [intOf]; omega
    · have hkn : k = n := by omega
      replace hkn := Lib.hid hkn
      replace ho := Lib.hid ho
      go_wp2_with fail
      go_ret
      refine ⟨_, rfl, ⟨ys, hll.out, ho.out, fun j K hj => ?_, fun i j u v hij hu hv => ?_⟩, hbel⟩
      · have hjl := (List.getElem?_eq_some_iff.1 hj).1
        obtain ⟨h1, h2⟩ := hto.out.1 j K (by have := hkn.out; have := hll.out; omega) hj
        exact ⟨_, _, h1, own_lower h2 (by omega)⟩
      · have hil := (List.getElem?_eq_some_iff.1 hu).1
        have hjl := (List.getElem?_eq_some_iff.1 hv).1
        have hyl := ho.out.1
        have hn' := hkn.out
        have hl' := hll.out
        obtain ⟨h1, _⟩ := hto.out.1 i _ (by omega) (List.getElem?_eq_getElem (by omega))
        obtain ⟨h2, _⟩ := hto.out.1 j _ (by omega) (List.getElem?_eq_getElem (by omega))
        have hu' := Option.some.inj (hu.symm.trans h1)
        have hv' := Option.some.inj (hv.symm.trans h2)
        subst hu'
        subst hv'
        intro g hg
        simp only [Value.ownBlock, Option.some.injEq, ne_eq] at hg ⊢
        subst hg
        rcases Nat.lt_or_ge i j with h | h
        · have := hto.out.2.1 i j h (by omega); omega
        · have := hto.out.2.1 j i (by omega) (by omega); omega

set_option maxHeartbeats 1000000 in
theorem toRegion_any (A : Option Addr) (n c lo hi : Nat) (Ls : List (List (Int × Int))) (w : World) (hr : RegRd w lo hi A n Ls) (hhi : hi ≤ w.heap.size) (hn : n ≤ 1048576) (hK : ∀ K ∈ Ls, K.length ≤ 1048576) :
    Calls Tryz.prog 24 #[.agg #[.slice A n c]] w fun e w' => ∃ A', e = .returned (.agg #[.slice A' n n]) ∧ RegOwn w' w.heap.size A' n n Ls ∧ Below w.heap.size w w' := by
  have hc := Lib.hid (fun a b d => toRingS_any A n c lo hi Ls (((w.alloc a).alloc b).alloc d) (hr.frame good_ring (((SameB.refl _ _ w).alloc hhi _).alloc (by simp; omega) _ |>.alloc (by simp; omega) _)) (by simp; omega) hn hK)
  clear hr
  go_enter Tryz.func24, Tryz.ntmps24
  go_wp2_with fail
  refine (hc.out _ _ _).mono ?_
  rintro e w1 ⟨A', rfl, ho, hb1⟩
  have hnew := heap_new0 w (.cells #[.slice A n c] 39 (0, 0)) (.cells #[.slice none 0 0] 61 (0, 0)) (.cells #[.slice none 0 0] 61 (0, 0))
  have hR := (hb1.block _ (by simp <;> omega)).trans hnew.2.1
  have hO := (hb1.block _ (by simp <;> omega)).trans hnew.2.2
  clear hnew
  have hB1 : Below w.heap.size w w1 := ((((Below.refl _ _).alloc (Nat.le_refl _) _).alloc (by simp) _).alloc (by simp <;> omega) _).trans (hb1.mono (by simp <;> omega))
  have hz := hb1.size
  simp at hz
  have r0 : w1.cell? ⟨w.heap.size + 1, 0, none⟩ = some (.slice none 0 0) := by rw [Go.Joins.cell_of_block hR]; rfl
  have o0 : w1.cell? ⟨w.heap.size + 2, 0, none⟩ = some (.slice none 0 0) := by rw [Go.Joins.cell_of_block hO]; rfl
  have fr : ∀ o, w1.frozen? ⟨w.heap.size + 1, o, none⟩ = false := Go.Joins.unfrozen_of_block hR
  have fo : ∀ o, w1.frozen? ⟨w.heap.size + 2, o, none⟩ = false := Go.Joins.unfrozen_of_block hO
  replace ho := Lib.hid ho
  clear hR hO hb1
  go_wp2_with fail
  refine bodyPost_ret (v := .agg #[.slice A' n n]) (by simp [results, Tryz.results24, go_sem, r0]) rfl ⟨A', rfl, ?_, ?_⟩
  · exact ((ho.out.stored_below (by simp <;> omega) _).stored_below (by simp <;> omega) _).base (by simp; omega)
  · exact (hB1.setCell (by simp <;> omega) _).setCell (by simp <;> omega) _
end Go.Proofs.YtfkidklpjiiclaaGreat

/- Regions, as outlines are: XOutE turned. Conditions: as each states. -/
namespace Go.Proofs.YtfkidklpjiiclaaGreat
open Go.RowKit
set_option linter.unusedVariables false
set_option maxRecDepth 100000

theorem eqRing_any (A A' : Option Addr) (n c n' c' lo hi lo' hi' : Nat) (K : List (Int × Int)) (w : World) (h1 : RdS 2 (FlatR ptC) w lo hi A n K) (h2 : RdS 2 (FlatR ptC) w lo' hi' A' n' K) (hh1 : hi ≤ w.heap.size) (hh2 : hi' ≤ w.heap.size) (hn : n ≤ 100000000) :
    Calls Tryz.prog 144 #[.agg #[.slice A n c], .agg #[.slice A' n' c']] w fun e w' => e = .returned (.bool true) ∧ Below w.heap.size w w' := by
  have hc := Lib.hid (fun a b => eqPtS_any A A' n c n' c' lo hi lo' hi' K ((w.alloc a).alloc b) (h1.frame (good_flat _) (((SameB.refl _ _ w).alloc hh1 _).alloc (by simp; omega) _)) (h2.frame (good_flat _) (((SameB.refl _ _ w).alloc hh2 _).alloc (by simp; omega) _)) (by simp; omega) (by simp; omega) (by omega))
  clear h1 h2
  go_enter Tryz.func144, Tryz.ntmps144
  go_wp2_with fail
  refine (hc.out _ _).mono ?_
  rintro e w1 ⟨rfl, hb1⟩
  go_wp2_with fail
  go_ret
  exact ⟨rfl, (Go.Joins.below_alloc2 _ _ _).trans (hb1.mono (by simp; omega))⟩

set_option maxHeartbeats 1000000 in
theorem eqRingS_any (A A' : Option Addr) (n c n' c' lo hi lo' hi' : Nat) (Ls : List (List (Int × Int))) (w : World) (h1 : RegRd w lo hi A n Ls) (h2 : RegRd w lo' hi' A' n' Ls) (hh1 : hi ≤ w.heap.size) (hh2 : hi' ≤ w.heap.size) (hn : n ≤ 100000000) (hK : ∀ K ∈ Ls, K.length ≤ 100000000) :
    Calls Tryz.prog 92 #[.slice A n c, .slice A' n' c'] w fun e w' => e = .returned (.bool true) ∧ Below w.heap.size w w' := by
  obtain rfl : n = n' := h1.1.symm.trans h2.1
  replace h1 := Lib.hid h1
  replace h2 := Lib.hid h2
  replace hK := Lib.hid hK
  go_enter Tryz.func92, Tryz.ntmps92
  go_wp2_with fail
  go_loopw [5] (fun i wr => ∃ k : Nat, i = .int .i64 k ∧ k ≤ n ∧ Below w.heap.size w wr) (fun i wr => n - (intOf i).toNat)
  case atStart => exact ⟨0, rfl, Nat.zero_le _, Below.refl _ _⟩
  case round =>
    obtain ⟨k, rfl, hk, hbel⟩ := hrel
    have hsz := hbel.size
    by_cases hlt : k < n
    · obtain ⟨b, off, K, A1, n1, c1, rfl, hb0, hb, hja, q0, hm, hr1⟩ := reg_at (h1.out.frame good_ring (Below.sameB hbel hh1)) hlt
      obtain ⟨b', off', K', A2, n2, c2, rfl, hb0', hb', hja', q0', hm', hr2⟩ := reg_at (h2.out.frame good_ring (Below.sameB hbel hh2)) hlt
      have hKK := Option.some.inj (hja.symm.trans hja')
      subst hKK
      have hlen := hK.out K (List.mem_of_getElem? hja)
      have hcall := Lib.hid (fun W (hB : SameB 0 wr.heap.size wr W) (hs : wr.heap.size ≤ W.heap.size) => eqRing_any A1 A2 n1 c1 n2 c2 lo hi lo' hi' K W (hr1.frame (good_flat _) (hB.mono (Nat.zero_le _) (by omega))) (hr2.frame (good_flat _) (hB.mono (Nat.zero_le _) (by omega))) (by omega) (by omega) (by rw [← hr1.1]; exact hlen))
      have hbw : b < wr.heap.size := by omega
      have hbw' : b' < wr.heap.size := by omega
      clear hr1 hr2 hm hm' hja hja' hb0 hb0' hb hb' hsz hh1 hh2 h1 h2 hlen
      have hi : (0 : Int) ≤ (k : Int) ∧ (k : Int) < (n : Int) := by omega
      go_wp2_with fail
      go_still_tail 8, (by kernel_rfl)
      go_wp2_with (go_at_call 144; refine (hcall.out _ (SameB.refl _ _ wr).drew (Nat.le_refl _)).mono ?_; rintro e w1 ⟨rfl, hb1⟩)
      go_roundw
      case rel => exact ⟨k + 1, by go_num, by omega, hbel.drew.trans (hb1.mono (by simp; exact hbel.size))⟩
      case measure => simp [intOf]; omega
    · go_wp2_with fail
      go_ret
      exact ⟨rfl, hbel⟩

theorem eqRegion_any (A A' : Option Addr) (n c n' c' lo hi lo' hi' : Nat) (Ls : List (List (Int × Int))) (w : World) (h1 : RegRd w lo hi A n Ls) (h2 : RegRd w lo' hi' A' n' Ls) (hh1 : hi ≤ w.heap.size) (hh2 : hi' ≤ w.heap.size) (hn : n ≤ 100000000) (hK : ∀ K ∈ Ls, K.length ≤ 100000000) :
    Calls Tryz.prog 40 #[.agg #[.slice A n c], .agg #[.slice A' n' c']] w fun e w' => e = .returned (.bool true) ∧ Below w.heap.size w w' := by
  have hc := Lib.hid (fun a b => eqRingS_any A A' n c n' c' lo hi lo' hi' Ls ((w.alloc a).alloc b) (h1.frame good_ring (((SameB.refl _ _ w).alloc hh1 _).alloc (by simp; omega) _)) (h2.frame good_ring (((SameB.refl _ _ w).alloc hh2 _).alloc (by simp; omega) _)) (by simp; omega) (by simp; omega) hn hK)
  clear h1 h2
  go_enter Tryz.func40, Tryz.ntmps40
  go_wp2_with fail
  refine (hc.out _ _).mono ?_
  rintro e w1 ⟨rfl, hb1⟩
  go_wp2_with fail
  go_ret
  exact ⟨rfl, (Go.Joins.below_alloc2 _ _ _).trans (hb1.mono (by simp; omega))⟩
end Go.Proofs.YtfkidklpjiiclaaGreat

/- The laws' own functions on a Glyph: the copy, the comparison. Conditions: as each states. -/
namespace Go.Proofs.YtfkidklpjiiclaaGreat
open Go.RowKit
set_option linter.unusedVariables false
set_option maxRecDepth 100000

set_option maxHeartbeats 4000000 in
theorem toGlyph_any (d : Gl) (h : GlH) (lo hi : Nat) (w : World) (hr : GlRd w lo hi d h) (hhi : hi ≤ w.heap.size) (hm : d.small 1048576) :
    Calls Tryz.prog 23 #[glV d h] w fun e w' => ∃ h' : GlH, e = .returned (glV d h') ∧ GlRd w' w.heap.size w'.heap.size d h' ∧ Below w.heap.size w w' ∧ h'.anchors.n ≤ h'.anchors.c := by
  obtain ⟨hr0, hr1, hr2⟩ := hr
  have hm0 := Lib.hid (hm.out (n := h.out.n) hr0.1)
  have hm1 := Lib.hid (hm.parts (n := h.parts.n) hr1.1)
  have hm2 := Lib.hid (hm.anchors (n := h.anchors.n) hr2.1)
  clear hm
  replace hr0 := Lib.hid hr0
  replace hr1 := Lib.hid hr1
  replace hr2 := Lib.hid hr2
  go_enter Tryz.func23, Tryz.ntmps23
  go_wp2_with fail
  refine (toOutline_rd _ _ _ lo hi d.out _ (hr0.out.frame good_loop (Below.sameB (B := w.heap.size) (w := w) (by repeat (first | refine Below.setCell ?_ (by first | omega | (simp <;> omega)) _ | refine Below.alloc ?_ (by first | omega | (simp <;> omega)) _ | exact Below.refl _ _)) hhi)) (by first | omega | (simp <;> omega)) hm0.out).mono ?_
  rintro e w1 ⟨A1, c1, rfl, ho1, hb1⟩
  have hz1 := hb1.size
  try simp at hz1
  have hB1 : Below w.heap.size w w1 := Below.trans (by repeat (first | refine Below.setCell ?_ (by first | omega | (simp <;> omega)) _ | refine Below.alloc ?_ (by first | omega | (simp <;> omega)) _ | exact Below.refl _ _)) (hb1.mono (by first | omega | (simp <;> omega)))
  have rd1 := Lib.hid (RdS.wide good_loop ho1 (lo' := w.heap.size + 3) (hi' := w1.heap.size) (by first | omega | (simp <;> omega)) (Nat.le_refl _))
  clear ho1
  have hnew := heap_new0 w (.cells #[.string d.name, .int .i64 d.code, .int .i64 d.adv, .slice h.out.A h.out.n h.out.c, .slice h.parts.A h.parts.n h.parts.c, .slice h.anchors.A h.anchors.n h.anchors.c, .string d.hints] 36 (0, 0)) (.cells #[.string ⟨#[]⟩, .int .i64 0, .int .i64 0, .slice none 0 0, .slice none 0 0, .slice none 0 0, .string ⟨#[]⟩] 58 (0, 0)) (.cells #[.string d.name, .int .i64 d.code, .int .i64 d.adv, .slice none 0 0, .slice none 0 0, .slice none 0 0, .string ⟨#[]⟩] 58 (0, 0))
  have HX1 : Hid (w1.heap[w.heap.size]? = some (.cells #[.string d.name, .int .i64 d.code, .int .i64 d.adv, .slice h.out.A h.out.n h.out.c, .slice h.parts.A h.parts.n h.parts.c, .slice h.anchors.A h.anchors.n h.anchors.c, .string d.hints] 36 (0, 0))) := (hb1.block _ (by first | omega | (simp <;> omega))).trans hnew.1
  have HR1 : Hid (w1.heap[w.heap.size + 1]? = some (.cells #[.string ⟨#[]⟩, .int .i64 0, .int .i64 0, .slice none 0 0, .slice none 0 0, .slice none 0 0, .string ⟨#[]⟩] 58 (0, 0))) := (hb1.block _ (by first | omega | (simp <;> omega))).trans hnew.2.1
  have HO1 : Hid (w1.heap[w.heap.size + 2]? = some (.cells #[.string d.name, .int .i64 d.code, .int .i64 d.adv, .slice none 0 0, .slice none 0 0, .slice none 0 0, .string ⟨#[]⟩] 58 (0, 0))) := (hb1.block _ (by first | omega | (simp <;> omega))).trans hnew.2.2
  clear hnew
  have cx4 : w1.cell? ⟨w.heap.size, 4, none⟩ = some (.slice h.parts.A h.parts.n h.parts.c) := by rw [Go.Joins.cell_of_block HX1.out]; rfl
  have co3 : w1.cell? ⟨w.heap.size + 2, 3, none⟩ = some (.slice none 0 0) := by rw [Go.Joins.cell_of_block HO1.out]; rfl
  have fo : ∀ o, w1.frozen? ⟨w.heap.size + 2, o, none⟩ = false := Go.Joins.unfrozen_of_block HO1.out
  clear hb1
  go_wp2_with fail
  refine (toPartS_rd _ _ _ lo hi d.parts _ (hr1.out.frame (good_flat _) (Below.sameB (B := w.heap.size) (w := w) (by repeat (first | refine Below.setCell ?_ (by first | omega | (simp <;> omega)) _ | refine Below.alloc ?_ (by first | omega | (simp <;> omega)) _ | exact hB1)) hhi)) (by first | omega | (simp <;> omega)) hm1.out).mono ?_
  rintro e w2 ⟨A2, c2, rfl, ho2, hb2⟩
  have hz2 := hb2.size
  try simp at hz2
  have hB2 : Below w.heap.size w w2 := Below.trans (by repeat (first | refine Below.setCell ?_ (by first | omega | (simp <;> omega)) _ | refine Below.alloc ?_ (by first | omega | (simp <;> omega)) _ | exact hB1)) (hb2.mono (by first | omega | (simp <;> omega)))
  have rd2 := Lib.hid (RdS.wide (good_flat _) ho2 (lo' := w.heap.size + 3) (hi' := w2.heap.size) (by first | omega | (simp <;> omega)) (Nat.le_refl _))
  clear ho2
  have hs : SameB (w.heap.size + 3) w1.heap.size w1 w2 := SameB.trans (SameB.setCell (SameB.refl _ _ w1) (.inl (by simp)) _) (Below.sameB hb2 (by simp))
  replace rd1 := Lib.hid ((rd1.out.frame good_loop hs).wide good_loop (lo' := w.heap.size + 3) (hi' := w2.heap.size) (Nat.le_refl _) (by omega))
  clear hs
  have HX2 : Hid (w2.heap[w.heap.size]? = some (.cells #[.string d.name, .int .i64 d.code, .int .i64 d.adv, .slice h.out.A h.out.n h.out.c, .slice h.parts.A h.parts.n h.parts.c, .slice h.anchors.A h.anchors.n h.anchors.c, .string d.hints] 36 (0, 0))) := (hb2.block _ (by first | omega | (simp <;> omega))).trans ((Below.heap_setCell _ _ _ _ (by simp <;> omega)).trans (HX1.out))
  have HR2 : Hid (w2.heap[w.heap.size + 1]? = some (.cells #[.string ⟨#[]⟩, .int .i64 0, .int .i64 0, .slice none 0 0, .slice none 0 0, .slice none 0 0, .string ⟨#[]⟩] 58 (0, 0))) := (hb2.block _ (by first | omega | (simp <;> omega))).trans ((Below.heap_setCell _ _ _ _ (by simp <;> omega)).trans (HR1.out))
  have HO2 : Hid (w2.heap[w.heap.size + 2]? = some (.cells #[.string d.name, .int .i64 d.code, .int .i64 d.adv, .slice A1 h.out.n c1, .slice none 0 0, .slice none 0 0, .string ⟨#[]⟩] 58 (0, 0))) := (hb2.block _ (by first | omega | (simp <;> omega))).trans (Go.Joins.block_setCell (HO1.out) (.slice A1 h.out.n c1))
  clear HX1 HR1 HO1 cx4 co3 fo
  have cx5 : w2.cell? ⟨w.heap.size, 5, none⟩ = some (.slice h.anchors.A h.anchors.n h.anchors.c) := by rw [Go.Joins.cell_of_block HX2.out]; rfl
  have co4 : w2.cell? ⟨w.heap.size + 2, 4, none⟩ = some (.slice none 0 0) := by rw [Go.Joins.cell_of_block HO2.out]; rfl
  have fo : ∀ o, w2.frozen? ⟨w.heap.size + 2, o, none⟩ = false := Go.Joins.unfrozen_of_block HO2.out
  clear hb2
  go_wp2_with fail
  refine (toAnchorS_rdc _ _ _ lo hi d.anchors _ (hr2.out.frame (good_flat _) (Below.sameB (B := w.heap.size) (w := w) (by repeat (first | refine Below.setCell ?_ (by first | omega | (simp <;> omega)) _ | refine Below.alloc ?_ (by first | omega | (simp <;> omega)) _ | exact hB2)) hhi)) (by first | omega | (simp <;> omega)) hm2.out).mono ?_
  rintro e w3 ⟨A3, c3, rfl, ho3, hb3, hcap⟩
  have hz3 := hb3.size
  try simp at hz3
  have hB3 : Below w.heap.size w w3 := Below.trans (by repeat (first | refine Below.setCell ?_ (by first | omega | (simp <;> omega)) _ | refine Below.alloc ?_ (by first | omega | (simp <;> omega)) _ | exact hB2)) (hb3.mono (by first | omega | (simp <;> omega)))
  have rd3 := Lib.hid (RdS.wide (good_flat _) ho3 (lo' := w.heap.size + 3) (hi' := w3.heap.size) (by first | omega | (simp <;> omega)) (Nat.le_refl _))
  clear ho3
  have hs : SameB (w.heap.size + 3) w2.heap.size w2 w3 := SameB.trans (SameB.setCell (SameB.refl _ _ w2) (.inl (by simp)) _) (Below.sameB hb3 (by simp))
  replace rd1 := Lib.hid ((rd1.out.frame good_loop hs).wide good_loop (lo' := w.heap.size + 3) (hi' := w3.heap.size) (Nat.le_refl _) (by omega))
  replace rd2 := Lib.hid ((rd2.out.frame (good_flat _) hs).wide (good_flat _) (lo' := w.heap.size + 3) (hi' := w3.heap.size) (Nat.le_refl _) (by omega))
  clear hs
  have HX3 : Hid (w3.heap[w.heap.size]? = some (.cells #[.string d.name, .int .i64 d.code, .int .i64 d.adv, .slice h.out.A h.out.n h.out.c, .slice h.parts.A h.parts.n h.parts.c, .slice h.anchors.A h.anchors.n h.anchors.c, .string d.hints] 36 (0, 0))) := (hb3.block _ (by first | omega | (simp <;> omega))).trans ((Below.heap_setCell _ _ _ _ (by simp <;> omega)).trans (HX2.out))
  have HR3 : Hid (w3.heap[w.heap.size + 1]? = some (.cells #[.string ⟨#[]⟩, .int .i64 0, .int .i64 0, .slice none 0 0, .slice none 0 0, .slice none 0 0, .string ⟨#[]⟩] 58 (0, 0))) := (hb3.block _ (by first | omega | (simp <;> omega))).trans ((Below.heap_setCell _ _ _ _ (by simp <;> omega)).trans (HR2.out))
  have HO3 : Hid (w3.heap[w.heap.size + 2]? = some (.cells #[.string d.name, .int .i64 d.code, .int .i64 d.adv, .slice A1 h.out.n c1, .slice A2 h.parts.n c2, .slice none 0 0, .string ⟨#[]⟩] 58 (0, 0))) := (hb3.block _ (by first | omega | (simp <;> omega))).trans (Go.Joins.block_setCell (HO2.out) (.slice A2 h.parts.n c2))
  clear HX2 HR2 HO2 cx5 co4 fo
  have cx6 : w3.cell? ⟨w.heap.size, 6, none⟩ = some (.string d.hints) := by rw [Go.Joins.cell_of_block HX3.out]; rfl
  have co0 : w3.cell? ⟨w.heap.size + 2, 0, none⟩ = some (.string d.name) := by rw [Go.Joins.cell_of_block HO3.out]; rfl
  have co1 : w3.cell? ⟨w.heap.size + 2, 1, none⟩ = some (.int .i64 d.code) := by rw [Go.Joins.cell_of_block HO3.out]; rfl
  have co2 : w3.cell? ⟨w.heap.size + 2, 2, none⟩ = some (.int .i64 d.adv) := by rw [Go.Joins.cell_of_block HO3.out]; rfl
  have co3 : w3.cell? ⟨w.heap.size + 2, 3, none⟩ = some (.slice A1 h.out.n c1) := by rw [Go.Joins.cell_of_block HO3.out]; rfl
  have co4 : w3.cell? ⟨w.heap.size + 2, 4, none⟩ = some (.slice A2 h.parts.n c2) := by rw [Go.Joins.cell_of_block HO3.out]; rfl
  have co5 : w3.cell? ⟨w.heap.size + 2, 5, none⟩ = some (.slice none 0 0) := by rw [Go.Joins.cell_of_block HO3.out]; rfl
  have co6 : w3.cell? ⟨w.heap.size + 2, 6, none⟩ = some (.string ⟨#[]⟩) := by rw [Go.Joins.cell_of_block HO3.out]; rfl
  have fo : ∀ o, w3.frozen? ⟨w.heap.size + 2, o, none⟩ = false := Go.Joins.unfrozen_of_block HO3.out
  have cr0 : w3.cell? ⟨w.heap.size + 1, 0, none⟩ = some (.string ⟨#[]⟩) := by rw [Go.Joins.cell_of_block HR3.out]; rfl
  have cr1 : w3.cell? ⟨w.heap.size + 1, 1, none⟩ = some (.int .i64 0) := by rw [Go.Joins.cell_of_block HR3.out]; rfl
  have cr2 : w3.cell? ⟨w.heap.size + 1, 2, none⟩ = some (.int .i64 0) := by rw [Go.Joins.cell_of_block HR3.out]; rfl
  have cr3 : w3.cell? ⟨w.heap.size + 1, 3, none⟩ = some (.slice none 0 0) := by rw [Go.Joins.cell_of_block HR3.out]; rfl
  have cr4 : w3.cell? ⟨w.heap.size + 1, 4, none⟩ = some (.slice none 0 0) := by rw [Go.Joins.cell_of_block HR3.out]; rfl
  have cr5 : w3.cell? ⟨w.heap.size + 1, 5, none⟩ = some (.slice none 0 0) := by rw [Go.Joins.cell_of_block HR3.out]; rfl
  have cr6 : w3.cell? ⟨w.heap.size + 1, 6, none⟩ = some (.string ⟨#[]⟩) := by rw [Go.Joins.cell_of_block HR3.out]; rfl
  have fr : ∀ o, w3.frozen? ⟨w.heap.size + 1, o, none⟩ = false := Go.Joins.unfrozen_of_block HR3.out
  clear hb3
  go_wp2_with fail
  have hfin : ∀ W', SameB (w.heap.size + 3) w3.heap.size w3 W' → w3.heap.size ≤ W'.heap.size → GlRd W' w.heap.size W'.heap.size d ⟨⟨A1, h.out.n, c1⟩, ⟨A2, h.parts.n, c2⟩, ⟨A3, h.anchors.n, c3⟩⟩ := fun W' hs hz => ⟨(rd1.out.frame good_loop hs).wide good_loop (by omega) hz, (rd2.out.frame (good_flat _) hs).wide (good_flat _) (by omega) hz, (rd3.out.frame (good_flat _) hs).wide (good_flat _) (by omega) hz⟩
  refine bodyPost_ret (v := .agg #[.string d.name, .int .i64 d.code, .int .i64 d.adv, .slice A1 h.out.n c1, .slice A2 h.parts.n c2, .slice A3 h.anchors.n c3, .string d.hints]) (by simp [results, Tryz.results23, go_sem, cr0, cr1, cr2, cr3, cr4, cr5, cr6]) rfl ⟨⟨⟨A1, h.out.n, c1⟩, ⟨A2, h.parts.n, c2⟩, ⟨A3, h.anchors.n, c3⟩⟩, rfl, hfin _ ?_ (by simp), (by repeat (first | refine Below.setCell ?_ (by first | omega | (simp <;> omega)) _ | refine Below.alloc ?_ (by first | omega | (simp <;> omega)) _ | exact hB3)), hcap⟩
  repeat (first | refine SameB.setCell ?_ (.inl (by first | omega | (simp <;> omega))) _ | exact SameB.refl _ _ _)

set_option maxHeartbeats 4000000 in
theorem eqGlyph_any (d : Gl) (h h' : GlH) (lo hi lo' hi' : Nat) (w : World) (hr : GlRd w lo hi d h) (hr' : GlRd w lo' hi' d h') (hhi : hi ≤ w.heap.size) (hhi' : hi' ≤ w.heap.size) (hm : d.small 100000000) :
    Calls Tryz.prog 39 #[glV d h, glV d h'] w fun e w' => e = .returned (.bool true) ∧ Below w.heap.size w w' := by
  obtain ⟨hr0, hr1, hr2⟩ := hr
  obtain ⟨hq0, hq1, hq2⟩ := hr'
  have hm0 := Lib.hid (hm.out (n := h.out.n) hr0.1)
  have hm1 := Lib.hid (hm.parts (n := h.parts.n) hr1.1)
  have hm2 := Lib.hid (hm.anchors (n := h.anchors.n) hr2.1)
  clear hm
  replace hr0 := Lib.hid hr0
  replace hq0 := Lib.hid hq0
  replace hr1 := Lib.hid hr1
  replace hq1 := Lib.hid hq1
  replace hr2 := Lib.hid hr2
  replace hq2 := Lib.hid hq2
  go_enter Tryz.func39, Tryz.ntmps39
  go_wp2_with fail
  refine (eqOutline_rd _ _ _ _ _ _ lo hi lo' hi' d.out _ (hr0.out.frame good_loop (Below.sameB (B := w.heap.size) (w := w) (by repeat (first | refine Below.setCell ?_ (by first | omega | (simp <;> omega)) _ | refine Below.alloc ?_ (by first | omega | (simp <;> omega)) _ | exact Below.refl _ _)) hhi)) (hq0.out.frame good_loop (Below.sameB (B := w.heap.size) (w := w) (by repeat (first | refine Below.setCell ?_ (by first | omega | (simp <;> omega)) _ | refine Below.alloc ?_ (by first | omega | (simp <;> omega)) _ | exact Below.refl _ _)) hhi')) (by first | omega | (simp <;> omega)) (by first | omega | (simp <;> omega)) hm0.out).mono ?_
  rintro e w1 ⟨rfl, hb1⟩
  have hz1 := hb1.size
  try simp at hz1
  have hB1 : Below w.heap.size w w1 := Below.trans (by repeat (first | refine Below.setCell ?_ (by first | omega | (simp <;> omega)) _ | refine Below.alloc ?_ (by first | omega | (simp <;> omega)) _ | exact Below.refl _ _)) (hb1.mono (by first | omega | (simp <;> omega)))
  have hnew := heap_new2 w (.cells #[.string d.name, .int .i64 d.code, .int .i64 d.adv, .slice h.out.A h.out.n h.out.c, .slice h.parts.A h.parts.n h.parts.c, .slice h.anchors.A h.anchors.n h.anchors.c, .string d.hints] 58 (0, 0)) (.cells #[.string d.name, .int .i64 d.code, .int .i64 d.adv, .slice h'.out.A h'.out.n h'.out.c, .slice h'.parts.A h'.parts.n h'.parts.c, .slice h'.anchors.A h'.anchors.n h'.anchors.c, .string d.hints] 58 (0, 0))
  have HX1 : Hid (w1.heap[w.heap.size]? = some (.cells #[.string d.name, .int .i64 d.code, .int .i64 d.adv, .slice h.out.A h.out.n h.out.c, .slice h.parts.A h.parts.n h.parts.c, .slice h.anchors.A h.anchors.n h.anchors.c, .string d.hints] 58 (0, 0))) := (hb1.block _ (by first | omega | (simp <;> omega))).trans hnew.1
  have HY1 : Hid (w1.heap[w.heap.size + 1]? = some (.cells #[.string d.name, .int .i64 d.code, .int .i64 d.adv, .slice h'.out.A h'.out.n h'.out.c, .slice h'.parts.A h'.parts.n h'.parts.c, .slice h'.anchors.A h'.anchors.n h'.anchors.c, .string d.hints] 58 (0, 0))) := (hb1.block _ (by first | omega | (simp <;> omega))).trans hnew.2
  clear hnew
  have cx4 : w1.cell? ⟨w.heap.size, 4, none⟩ = some (.slice h.parts.A h.parts.n h.parts.c) := by rw [Go.Joins.cell_of_block HX1.out]; rfl
  have cy4 : w1.cell? ⟨w.heap.size + 1, 4, none⟩ = some (.slice h'.parts.A h'.parts.n h'.parts.c) := by rw [Go.Joins.cell_of_block HY1.out]; rfl
  clear hb1
  go_wp2_with fail
  refine (eqPartS_rd _ _ _ _ _ _ lo hi lo' hi' d.parts _ (hr1.out.frame (good_flat _) (Below.sameB (B := w.heap.size) (w := w) (by repeat (first | refine Below.setCell ?_ (by first | omega | (simp <;> omega)) _ | refine Below.alloc ?_ (by first | omega | (simp <;> omega)) _ | exact hB1)) hhi)) (hq1.out.frame (good_flat _) (Below.sameB (B := w.heap.size) (w := w) (by repeat (first | refine Below.setCell ?_ (by first | omega | (simp <;> omega)) _ | refine Below.alloc ?_ (by first | omega | (simp <;> omega)) _ | exact hB1)) hhi')) (by first | omega | (simp <;> omega)) (by first | omega | (simp <;> omega)) hm1.out).mono ?_
  rintro e w2 ⟨rfl, hb2⟩
  have hz2 := hb2.size
  try simp at hz2
  have hB2 : Below w.heap.size w w2 := Below.trans (by repeat (first | refine Below.setCell ?_ (by first | omega | (simp <;> omega)) _ | refine Below.alloc ?_ (by first | omega | (simp <;> omega)) _ | exact hB1)) (hb2.mono (by first | omega | (simp <;> omega)))
  have HX2 : Hid (w2.heap[w.heap.size]? = some (.cells #[.string d.name, .int .i64 d.code, .int .i64 d.adv, .slice h.out.A h.out.n h.out.c, .slice h.parts.A h.parts.n h.parts.c, .slice h.anchors.A h.anchors.n h.anchors.c, .string d.hints] 58 (0, 0))) := (hb2.block _ (by first | omega | (simp <;> omega))).trans HX1.out
  have HY2 : Hid (w2.heap[w.heap.size + 1]? = some (.cells #[.string d.name, .int .i64 d.code, .int .i64 d.adv, .slice h'.out.A h'.out.n h'.out.c, .slice h'.parts.A h'.parts.n h'.parts.c, .slice h'.anchors.A h'.anchors.n h'.anchors.c, .string d.hints] 58 (0, 0))) := (hb2.block _ (by first | omega | (simp <;> omega))).trans HY1.out
  clear HX1 HY1 cx4 cy4
  have cx5 : w2.cell? ⟨w.heap.size, 5, none⟩ = some (.slice h.anchors.A h.anchors.n h.anchors.c) := by rw [Go.Joins.cell_of_block HX2.out]; rfl
  have cy5 : w2.cell? ⟨w.heap.size + 1, 5, none⟩ = some (.slice h'.anchors.A h'.anchors.n h'.anchors.c) := by rw [Go.Joins.cell_of_block HY2.out]; rfl
  clear hb2
  go_wp2_with fail
  refine (eqAnchorS_rd _ _ _ _ _ _ lo hi lo' hi' d.anchors _ (hr2.out.frame (good_flat _) (Below.sameB (B := w.heap.size) (w := w) (by repeat (first | refine Below.setCell ?_ (by first | omega | (simp <;> omega)) _ | refine Below.alloc ?_ (by first | omega | (simp <;> omega)) _ | exact hB2)) hhi)) (hq2.out.frame (good_flat _) (Below.sameB (B := w.heap.size) (w := w) (by repeat (first | refine Below.setCell ?_ (by first | omega | (simp <;> omega)) _ | refine Below.alloc ?_ (by first | omega | (simp <;> omega)) _ | exact hB2)) hhi')) (by first | omega | (simp <;> omega)) (by first | omega | (simp <;> omega)) hm2.out).mono ?_
  rintro e w3 ⟨rfl, hb3⟩
  have hz3 := hb3.size
  try simp at hz3
  have hB3 : Below w.heap.size w w3 := Below.trans (by repeat (first | refine Below.setCell ?_ (by first | omega | (simp <;> omega)) _ | refine Below.alloc ?_ (by first | omega | (simp <;> omega)) _ | exact hB2)) (hb3.mono (by first | omega | (simp <;> omega)))
  have HX3 : Hid (w3.heap[w.heap.size]? = some (.cells #[.string d.name, .int .i64 d.code, .int .i64 d.adv, .slice h.out.A h.out.n h.out.c, .slice h.parts.A h.parts.n h.parts.c, .slice h.anchors.A h.anchors.n h.anchors.c, .string d.hints] 58 (0, 0))) := (hb3.block _ (by first | omega | (simp <;> omega))).trans HX2.out
  have HY3 : Hid (w3.heap[w.heap.size + 1]? = some (.cells #[.string d.name, .int .i64 d.code, .int .i64 d.adv, .slice h'.out.A h'.out.n h'.out.c, .slice h'.parts.A h'.parts.n h'.parts.c, .slice h'.anchors.A h'.anchors.n h'.anchors.c, .string d.hints] 58 (0, 0))) := (hb3.block _ (by first | omega | (simp <;> omega))).trans HY2.out
  clear HX2 HY2 cx5 cy5
  have cx6 : w3.cell? ⟨w.heap.size, 6, none⟩ = some (.string d.hints) := by rw [Go.Joins.cell_of_block HX3.out]; rfl
  have cy6 : w3.cell? ⟨w.heap.size + 1, 6, none⟩ = some (.string d.hints) := by rw [Go.Joins.cell_of_block HY3.out]; rfl
  clear hb3
  go_wp2_with fail
  go_ret
  exact ⟨rfl, (by repeat (first | refine Below.setCell ?_ (by first | omega | (simp <;> omega)) _ | refine Below.alloc ?_ (by first | omega | (simp <;> omega)) _ | exact hB3))⟩
end Go.Proofs.YtfkidklpjiiclaaGreat

