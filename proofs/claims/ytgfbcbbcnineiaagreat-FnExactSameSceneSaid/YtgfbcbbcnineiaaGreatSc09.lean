/- An outline's copy: the laws' functions that turn an outline of theirs into one of the program's. Conditions: as each states. -/
import Derived.OneCell
import Derived.Test.YtgfbcbbcnineiaaGreatSc08
namespace Go.Proofs.YtgfbcbbcnineiaaGreat
open Go.RowKit
set_option linter.unusedVariables false
set_option maxRecDepth 100000

/-- no block of one is a block of the other -/
def ApartV (u v : Value) : Prop := ∀ g, u.ownBlock = some g → v.ownBlock ≠ some g
/-- an outline of the call's own: its row, its loops' rows, each in a block of its own -/
def OutOwn (w : World) (lo : Nat) (A : Option Addr) (n c : Nat) (Ls : List (List Knot)) : Prop := ∃ ys : List Value, Ls.length = n ∧ w.ownsRow lo 166 1 (.slice A n c) n ys ∧
  (∀ (j : Nat) (K : List Knot), Ls[j]? = some K → ∃ (Aj : Option Addr) (cj : Nat), ys[j]? = some (.slice Aj K.length cj) ∧ w.ownsRow lo 179 3 (.slice Aj K.length cj) K.length (K.flatMap knotC)) ∧
  (∀ (i j : Nat) (u v : Value), i ≠ j → ys[i]? = some u → ys[j]? = some v → ApartV u v)
theorem OutOwn.kept {w w' : World} {lo n c : Nat} {A : Option Addr} {Ls : List (List Knot)} (h : OutOwn w lo A n c Ls) (hb : Below w.heap.size w w') : OutOwn w' lo A n c Ls := by
  obtain ⟨ys, h1, h2, h3, h4⟩ := h
  refine ⟨ys, h1, own_below h2 hb, fun j K hj => ?_, h4⟩
  obtain ⟨Aj, cj, h5, h6⟩ := h3 j K hj
  exact ⟨Aj, cj, h5, own_below h6 hb⟩
theorem OutOwn.rd {w : World} {lo n c : Nat} {A : Option Addr} {Ls : List (List Knot)} (h : OutOwn w lo A n c Ls) (hm : ∀ K ∈ Ls, K.length ≤ maxLen) : OutRd w lo w.heap.size A n Ls := by
  obtain ⟨ys, h1, h2, h3, h4⟩ := h
  refine ⟨h1, fun hn => ?_⟩
  obtain ⟨g, rfl, hg1, hg2, _, hc, _⟩ := own_at h2 hn
  refine ⟨g, 0, rfl, hg1, hg2, fun j K hj => ?_⟩
  obtain ⟨Aj, cj, h5, h6⟩ := h3 j K hj
  refine ⟨[.slice Aj K.length cj], rfl, fun i u hu => ?_, Aj, K.length, cj, rfl, hm K (List.mem_of_getElem? hj), rdS_own knotC_len (by omega) h6 rfl⟩
  match i, hu with
  | 0, hu =>
    injection hu with hu
    subst hu
    have hjl := (List.getElem?_eq_some_iff.1 hj).1
    simp only [Nat.mul_one, Nat.add_zero, Nat.zero_add]
    rw [hc j (by omega), h5]
theorem OutOwn.stored_below {w : World} {lo n c : Nat} {A : Option Addr} {Ls : List (List Knot)} (h : OutOwn w lo A n c Ls) {a : Addr} (ha : a.block < lo) (u : Value) : OutOwn (w.setCell a u) lo A n c Ls := by
  obtain ⟨ys, h1, h2, h3, h4⟩ := h
  refine ⟨ys, h1, ownsRow_setCell_below h2 ha u, fun j K hj => ?_, h4⟩
  obtain ⟨Aj, cj, h5, h6⟩ := h3 j K hj
  exact ⟨Aj, cj, h5, ownsRow_setCell_below h6 ha u⟩
theorem own_lower {w : World} {lo lo' e size n : Nat} {v : Value} {xs : List Value} (h : w.ownsRow lo e size v n xs) (hl : lo' ≤ lo) : w.ownsRow lo' e size v n xs := by
  refine ⟨h.1, ?_⟩
  rcases h.2 with h2 | ⟨g, cap, cur, hv, hg, r⟩
  · exact .inl h2
  · exact .inr ⟨g, cap, cur, hv, Nat.le_trans hl hg, r⟩
theorem OutOwn.base {w : World} {lo lo' n c : Nat} {A : Option Addr} {Ls : List (List Knot)} (h : OutOwn w lo A n c Ls) (hl : lo' ≤ lo) : OutOwn w lo' A n c Ls := by
  obtain ⟨ys, h1, h2, h3, h4⟩ := h
  refine ⟨ys, h1, own_lower h2 hl, fun j K hj => ?_, h4⟩
  obtain ⟨Aj, cj, h5, h6⟩ := h3 j K hj
  exact ⟨Aj, cj, h5, own_lower h6 hl⟩

set_option maxHeartbeats 1000000 in
theorem toLoop_any (A : Option Addr) (n c lo hi : Nat) (K : List Knot) (w : World) (hr : RdS 3 (FlatR knotC) w lo hi A n K) (hhi : hi ≤ w.heap.size) (hn : n ≤ 1048576) :
    Calls Tryz.prog 103 #[.agg #[.slice A n c]] w fun e w' => ∃ g, e = .returned (.agg #[.slice (some ⟨g, 0, none⟩) n n]) ∧ g = w.heap.size + 3 ∧ w'.ownsRow (w.heap.size + 3) 179 3 (.slice (some ⟨g, 0, none⟩) n n) n (K.flatMap knotC) ∧ Below w.heap.size w w' := by
  have hc := Lib.hid (fun a b d => toKnotS_any A n c lo hi K (((w.alloc a).alloc b).alloc d) (hr.frame (good_flat _) (((SameB.refl _ _ w).alloc hhi _).alloc (by simp; omega) _ |>.alloc (by simp; omega) _)) (by simp; omega) hn)
  clear hr
  go_enter Tryz.func103, Tryz.ntmps103
  go_wp2_with fail
  refine (hc.out _ _ _).mono ?_
  rintro e w1 ⟨g, rfl, hg, ho, hb1⟩
  have hnew := heap_new0 w (.cells #[.slice A n c] 188 (0, 0)) (.cells #[.slice none 0 0] 166 (0, 0)) (.cells #[.slice none 0 0] 166 (0, 0))
  have hR := (hb1.block _ (by simp <;> omega)).trans hnew.2.1
  have hO := (hb1.block _ (by simp <;> omega)).trans hnew.2.2
  clear hnew
  have hB1 : Below w.heap.size w w1 := ((((Below.refl _ _).alloc (Nat.le_refl _) _).alloc (by simp) _).alloc (by simp <;> omega) _).trans (hb1.mono (by simp <;> omega))
  have hz := hb1.size
  simp at hz hg
  have r0 : w1.cell? ⟨w.heap.size + 1, 0, none⟩ = some (.slice none 0 0) := by rw [Go.Joins.cell_of_block hR]; rfl
  have o0 : w1.cell? ⟨w.heap.size + 2, 0, none⟩ = some (.slice none 0 0) := by rw [Go.Joins.cell_of_block hO]; rfl
  have fr : ∀ o, w1.frozen? ⟨w.heap.size + 1, o, none⟩ = false := Go.Joins.unfrozen_of_block hR
  have fo : ∀ o, w1.frozen? ⟨w.heap.size + 2, o, none⟩ = false := Go.Joins.unfrozen_of_block hO
  replace ho := Lib.hid ho
  replace hg := Lib.hid hg
  clear hR hO hb1
  go_wp2_with fail
  refine bodyPost_ret (v := .agg #[.slice (some ⟨g, 0, none⟩) n n]) (by simp [results, Tryz.results103, go_sem, r0]) rfl ⟨g, rfl, by rw [hg.out], ?_, ?_⟩
  · refine ownsRow_setCell_other (ownsRow_setCell_other ?_ ?_ _) ?_ _
    · exact own_lower ho.out (by simp)
    · simp [Value.ownBlock]; have := hg.out; omega
    · simp [Value.ownBlock]; have := hg.out; omega
  · exact (hB1.setCell (by simp <;> omega) _).setCell (by simp <;> omega) _

theorem infoLoop : (Tryz.prog.info? 166).map (fun i => (i.zero, i.size, i.bytes)) = some (some (.agg #[.slice none 0 0]), 1, 24) := by kernel_rfl

def updN (gs : Nat → Nat) (k g j : Nat) : Nat := if j = k then g else gs j
theorem updN_same (gs : Nat → Nat) (k g : Nat) : updN gs k g k = g := if_pos rfl
theorem updN_ne (gs : Nat → Nat) {k g j : Nat} (h : j ≠ k) : updN gs k g j = gs j := if_neg h
/-- the loops up to k stand in the row ys, each in a block of its own, in rising order -/
def LoopsTo (w : World) (X : Nat) (Ls : List (List Knot)) (k : Nat) (ys : List Value) (gs : Nat → Nat) : Prop :=
  (∀ (j : Nat) (K : List Knot), j < k → Ls[j]? = some K → ys[j]? = some (.slice (some ⟨gs j, 0, none⟩) K.length K.length) ∧ w.ownsRow (X + 1) 179 3 (.slice (some ⟨gs j, 0, none⟩) K.length K.length) K.length (K.flatMap knotC)) ∧
  (∀ i j : Nat, i < j → j < k → gs i < gs j) ∧ (∀ j : Nat, j < k → gs j < w.heap.size)

set_option maxHeartbeats 2000000 in
theorem toLoopS_any (A : Option Addr) (n c lo hi : Nat) (Ls : List (List Knot)) (w : World) (hr : OutRd w lo hi A n Ls) (hhi : hi ≤ w.heap.size) (hn : n ≤ 1048576) (hK : ∀ K ∈ Ls, K.length ≤ 1048576) :
    Calls Tryz.prog 85 #[.slice A n c] w fun e w' => ∃ A', e = .returned (.slice A' n n) ∧ OutOwn w' w.heap.size A' n n Ls ∧ Below w.heap.size w w' := by
  obtain ⟨i0, hi0, hz0, hs0, hby0⟩ := info_parts infoLoop
  have hll := Lib.hid hr.1
  replace hr := Lib.hid hr
  replace hK := Lib.hid hK
  go_enter Tryz.func85, Tryz.ntmps85
  go_wp2_with (at_make; refine wpList_make_full _ rfl _ _ 52 rfl w.heap.size 166 i0 (.agg #[.slice none 0 0]) 1 Tryz.underlying52 hi0 hz0 hs0 .i64 .i64 _ _ n rfl rfl rfl rfl (by rw [hby0]; omega) (by unfold maxLen; omega) (Nat.le_refl _) ?_; intro w0 hown0 hg0)
  have hb0 : Below w.heap.size w w0 := (Below.refl _ _).grown hg0 (Nat.le_refl _) (by simp)
  have hlt0 := hown0.lt
  clear hg0
  go_loopw [4] (fun i wr => ∃ (k : Nat) (ys : List Value) (gs : Nat → Nat), i = .int .i64 k ∧ k ≤ n ∧ wr.ownsRow w.heap.size 166 1 (.slice (some ⟨w.heap.size, 0, none⟩) n n) n ys ∧ LoopsTo wr w.heap.size Ls k ys gs ∧ Below w.heap.size w wr) (fun i wr => n - (intOf i).toNat)
  case atStart => exact ⟨0, _, fun _ => 0, rfl, Nat.zero_le _, hown0, ⟨fun j K hj => absurd hj (Nat.not_lt_zero j), fun i j _ hj => absurd hj (Nat.not_lt_zero j), fun j hj => absurd hj (Nat.not_lt_zero j)⟩, hb0⟩
  case round =>
    clear hown0 hb0 hlt0
    obtain ⟨k, ys, gs, rfl, hk, ho, hto, hbel⟩ := hrel
    replace hto := Lib.hid hto
    have hX : w.heap.size < wr.heap.size := (ho.lt _ rfl).2
    by_cases hlt : k < n
    · obtain ⟨b, off, K, A2, n2, c2, rfl, hb0, hb, hja, q0, hm, hrk⟩ := out_at (hr.out.frame good_loop (Below.sameB hbel hhi)) hlt
      have hbw : b < wr.heap.size := by omega
      have hlen : n2 ≤ 1048576 := by rw [← hrk.1]; exact hK.out K (List.mem_of_getElem? hja)
      have hn2 := Lib.hid hrk.1
      have hcall := Lib.hid (toLoop_any A2 n2 c2 lo hi K wr hrk (by omega) hlen)
      clear hrk hm hb0 hb
      replace hja := Lib.hid hja
      replace ho := Lib.hid ho
      go_wp2_with (go_at_call 103; refine hcall.out.mono ?_; rintro e w1 ⟨g, rfl, hg, hog, hb1⟩; have ho1 := own_below ho.out hb1; obtain ⟨g0, hg0, _, hglt, _, hcell, hfr⟩ := own_at ho1 (by omega); injection hg0 with hg0; injection hg0 with hg0; subst hg0; have c0 := hcell k (by omega); have hyl := ho1.1; rw [List.getElem?_eq_getElem (by omega)] at c0; have f0 := hfr k; clear hcell hfr; replace ho1 := Lib.hid ho1; replace hyl := Lib.hid hyl; generalize ys[k]'(by have := hyl.out; omega) = v0 at c0; replace hog := Lib.hid hog; replace hg := Lib.hid hg)
      go_roundw
      case rel =>
        have hgv := hg.out
        have hbz := hb1.size
        have hogl := hog.out.lt g rfl
        refine ⟨k + 1, _, updN gs k g, by go_num, by omega, (ho1.out.stored k (.slice (some ⟨g, 0, none⟩) n2 n2)).1, ⟨fun j K' hj hjK => ?_, fun i j hij hj => ?_, fun j hj => ?_⟩, (hbel.trans (hb1.mono hbel.size)).setCell (Nat.le_refl _) _⟩
        · by_cases hjk : j = k
          · subst hjk
            have hKK := Option.some.inj (hja.out.symm.trans hjK)
            subst hKK
            have := hyl.out
            rw [List.getElem?_set_self (by omega), updN_same, hn2.out]
            refine ⟨rfl, ownsRow_setCell_other (own_lower (lo := wr.heap.size + 3) (lo' := w.heap.size + 1) ?_ (by omega)) (by simp [Value.ownBlock]; omega) _⟩
            exact hog.out
          · obtain ⟨h1, h2⟩ := hto.out.1 j K' (by omega) hjK
            have hgj := hto.out.2.2 j (by omega)
            rw [List.getElem?_set_ne (fun e => hjk e.symm), updN_ne gs hjk]
            have h3 : w.heap.size + 1 ≤ gs j := (h2.lt _ rfl).1
            exact ⟨h1, ownsRow_setCell_other (own_below h2 hb1) (by simp [Value.ownBlock]; omega) _⟩
        · by_cases hjk : j = k
          · subst hjk
            rw [updN_same, updN_ne gs (by omega)]
            have := hto.out.2.2 i (by omega)
            omega
          · rw [updN_ne gs hjk, updN_ne gs (by omega)]
            exact hto.out.2.1 i j hij (by omega)
        · by_cases hjk : j = k
          · subst hjk; rw [updN_same]; simp; exact hogl.2
          · rw [updN_ne gs hjk]; simp; have := hto.out.2.2 j (by omega); omega
      case measure => simp [intOf]; omega
    · have hkn : k = n := by omega
      replace hkn := Lib.hid hkn
      replace ho := Lib.hid ho
      go_wp2_with fail
      go_ret
      refine ⟨_, rfl, ⟨ys, hll.out, ho.out, fun j K hj => ?_, fun i j u v hij hu hv => ?_⟩, hbel⟩
      · have hjl := (List.getElem?_eq_some_iff.1 hj).1
        obtain ⟨h1, h2⟩ := hto.out.1 j K (by have := hkn.out; have := hll.out; omega) hj
        exact ⟨_, _, h1, own_lower h2 (by omega)⟩
      · have hil := (List.getElem?_eq_some_iff.1 hu).1
        have hjl := (List.getElem?_eq_some_iff.1 hv).1
        have hyl := ho.out.1
        have hn' := hkn.out
        have hl' := hll.out
        obtain ⟨h1, _⟩ := hto.out.1 i _ (by omega) (List.getElem?_eq_getElem (by omega))
        obtain ⟨h2, _⟩ := hto.out.1 j _ (by omega) (List.getElem?_eq_getElem (by omega))
        have hu' := Option.some.inj (hu.symm.trans h1)
        have hv' := Option.some.inj (hv.symm.trans h2)
        subst hu'
        subst hv'
        intro g hg
        simp only [Value.ownBlock, Option.some.injEq, ne_eq] at hg ⊢
        subst hg
        rcases Nat.lt_or_ge i j with h | h
        · have := hto.out.2.1 i j h (by omega); omega
        · have := hto.out.2.1 j i (by omega) (by omega); omega

set_option maxHeartbeats 1000000 in
theorem toOutline_any (A : Option Addr) (n c lo hi : Nat) (Ls : List (List Knot)) (w : World) (hr : OutRd w lo hi A n Ls) (hhi : hi ≤ w.heap.size) (hn : n ≤ 1048576) (hK : ∀ K ∈ Ls, K.length ≤ 1048576) :
    Calls Tryz.prog 56 #[.agg #[.slice A n c]] w fun e w' => ∃ A', e = .returned (.agg #[.slice A' n n]) ∧ OutOwn w' w.heap.size A' n n Ls ∧ Below w.heap.size w w' := by
  have hc := Lib.hid (fun a b d => toLoopS_any A n c lo hi Ls (((w.alloc a).alloc b).alloc d) (hr.frame good_loop (((SameB.refl _ _ w).alloc hhi _).alloc (by simp; omega) _ |>.alloc (by simp; omega) _)) (by simp; omega) hn hK)
  clear hr
  go_enter Tryz.func56, Tryz.ntmps56
  go_wp2_with fail
  refine (hc.out _ _ _).mono ?_
  rintro e w1 ⟨A', rfl, ho, hb1⟩
  have hnew := heap_new0 w (.cells #[.slice A n c] 32 (0, 0)) (.cells #[.slice none 0 0] 54 (0, 0)) (.cells #[.slice none 0 0] 54 (0, 0))
  have hR := (hb1.block _ (by simp <;> omega)).trans hnew.2.1
  have hO := (hb1.block _ (by simp <;> omega)).trans hnew.2.2
  clear hnew
  have hB1 : Below w.heap.size w w1 := ((((Below.refl _ _).alloc (Nat.le_refl _) _).alloc (by simp) _).alloc (by simp <;> omega) _).trans (hb1.mono (by simp <;> omega))
  have hz := hb1.size
  simp at hz
  have r0 : w1.cell? ⟨w.heap.size + 1, 0, none⟩ = some (.slice none 0 0) := by rw [Go.Joins.cell_of_block hR]; rfl
  have o0 : w1.cell? ⟨w.heap.size + 2, 0, none⟩ = some (.slice none 0 0) := by rw [Go.Joins.cell_of_block hO]; rfl
  have fr : ∀ o, w1.frozen? ⟨w.heap.size + 1, o, none⟩ = false := Go.Joins.unfrozen_of_block hR
  have fo : ∀ o, w1.frozen? ⟨w.heap.size + 2, o, none⟩ = false := Go.Joins.unfrozen_of_block hO
  replace ho := Lib.hid ho
  clear hR hO hb1
  go_wp2_with fail
  refine bodyPost_ret (v := .agg #[.slice A' n n]) (by simp [results, Tryz.results56, go_sem, r0]) rfl ⟨A', rfl, ?_, ?_⟩
  · exact ((ho.out.stored_below (by simp <;> omega) _).stored_below (by simp <;> omega) _).base (by simp; omega)
  · exact (hB1.setCell (by simp <;> omega) _).setCell (by simp <;> omega) _
end Go.Proofs.YtgfbcbbcnineiaaGreat

