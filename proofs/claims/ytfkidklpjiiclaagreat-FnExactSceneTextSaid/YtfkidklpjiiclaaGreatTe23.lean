/- Ordered points: l13Before, l13Put. Conditions: as each states. -/
import Derived.WalkSmall
import Derived.Test.YtfkidklpjiiclaaGreatTe22
import Derived.Test.YtfkidklpjiiclaaGreatTe04
import Derived.Test.YtfkidklpjiiclaaGreatTe08
import Derived.Test.YtfkidklpjiiclaaGreatTe09
import Derived.Test.YtfkidklpjiiclaaGreatTe03
import Derived.Test.YtfkidklpjiiclaaGreatTe01
namespace Go.Proofs.YtfkidklpjiiclaaGreat
open Go.RowKit
set_option linter.unusedVariables false
set_option maxRecDepth 100000

theorem rd_take {w : World} {lo hi n k b off : Nat} {L : List Pn} (h : RdS 2 (FlatR ptC) w lo hi (some ⟨b, off, none⟩) n L) (hk : k ≤ n) : RdS 2 (FlatR ptC) w lo hi (some ⟨b, off, none⟩) k (L.take k) := by
  obtain ⟨hl, h⟩ := h
  refine ⟨by rw [List.length_take]; omega, fun h0 => ?_⟩
  obtain ⟨b', off', hA, h1, h2, h3⟩ := h (by omega)
  refine ⟨b', off', hA, h1, h2, fun j a hj => ?_⟩
  have hjl := (List.getElem?_eq_some_iff.1 hj).1
  rw [List.length_take] at hjl
  rw [List.getElem?_take_of_lt (by omega)] at hj
  exact h3 j a hj
theorem rd_drop {w : World} {lo hi n k b off : Nat} {L : List Pn} (h : RdS 2 (FlatR ptC) w lo hi (some ⟨b, off, none⟩) n L) (hk : k ≤ n) : RdS 2 (FlatR ptC) w lo hi (some ⟨b, off + k * 2, none⟩) (n - k) (L.drop k) := by
  obtain ⟨hl, h⟩ := h
  refine ⟨by rw [List.length_drop]; omega, fun h0 => ?_⟩
  obtain ⟨b', off', hA, h1, h2, h3⟩ := h (by omega)
  injection hA with hA
  injection hA with hA1 hA2
  subst hA1 hA2
  refine ⟨b, off + k * 2, rfl, h1, h2, fun j a hj => ?_⟩
  rw [List.getElem?_drop] at hj
  obtain ⟨es, e1, e2, e3⟩ := h3 (k + j) a hj
  refine ⟨es, e1, fun i u hu => ?_, e3⟩
  have := e2 i u hu
  rw [show off + (k + j) * 2 + i = off + k * 2 + j * 2 + i by omega] at this
  exact this
theorem ptc_one' (a : Pn) : ∀ u ∈ ptC a, u.oneCell' = true := by
  intro u hu
  simp only [ptC, List.mem_cons, List.not_mem_nil, or_false] at hu
  rcases hu with rfl | rfl <;> rfl

theorem src_if {w : World} {k : Nat} {A B : Option Addr} {m : Nat} {news : List Value} {P : Prop} [Decidable P] (h : Src w k B m news) (hz : P → m = 0) : Src w k (if P then A else B) m news := by
  split
  · rename_i hp
    exact ⟨h.1, h.2.1, fun hm => absurd (hz hp) (by omega)⟩
  · exact h
theorem l13Before_any (ax ay bx by_ : Int) (t : Bool) (ht : t = befB (ax, ay) (bx, by_)) (w : World) :
    Calls Tryz.prog 196 #[.agg #[.int .i64 ax, .int .i64 ay], .agg #[.int .i64 bx, .int .i64 by_]] w fun e w' => e = .returned (.bool t) ∧ Below w.heap.size w w' := by
  rcases Int.lt_trichotomy ay by_ with h | h | h
  · have htt : t = true := by rw [ht, bef_iff]; exact .inl h
    subst htt
    clear ht
    go_enter Tryz.func196, Tryz.ntmps196
    go_wp2_with fail
    go_ret
    exact ⟨rfl, Go.Joins.below_alloc2 _ _ _⟩
  · subst h
    have htt : t = decide (ax < bx) := by rw [ht]; unfold befB; simp
    subst htt
    clear ht
    have h1 : ¬ ay < ay := Int.lt_irrefl _
    go_enter Tryz.func196, Tryz.ntmps196
    go_wp2_with fail
    go_ret
    exact ⟨rfl, Go.Joins.below_alloc2 _ _ _⟩
  · have htt : t = false := by
      rw [ht]
      cases hb : befB (ax, ay) (bx, by_)
      · rfl
      · rw [bef_iff] at hb; simp at hb; omega
    subst htt
    clear ht
    have h1 : ¬ ay < by_ := by omega
    have h2 : (ay == by_) = false := by simp; omega
    go_enter Tryz.func196, Tryz.ntmps196
    go_wp2_with fail
    go_ret
    exact ⟨rfl, Go.Joins.below_alloc2 _ _ _⟩

set_option maxHeartbeats 8000000 in
theorem l13Put_any (g n c B : Nat) (S : List Pn) (px py : Int) (w : World) (ho : w.ownsRow B 148 2 (.slice (some ⟨g, 0, none⟩) n c) n (S.flatMap ptC)) (hS : S.length = n) (hB : B ≤ w.heap.size) (hn : n ≤ 1000) :
    Calls Tryz.prog 175 #[.slice (some ⟨g, 0, none⟩) n c, .agg #[.int .i64 px, .int .i64 py]] w fun e w' => ∃ (g' m c' : Nat), e = .returned (.slice (some ⟨g', 0, none⟩) m c') ∧ m = (putP S (px, py)).length ∧ w'.ownsRow B 148 2 (.slice (some ⟨g', 0, none⟩) m c') m ((putP S (px, py)).flatMap ptC) ∧ Below w.heap.size w w' := by
  have hrd := rdS_own ptC_len (by omega) ho hS
  have hgl := (ho.lt g rfl).2
  have hnc : n ≤ c := by
    rcases ho.2 with ⟨h1, _⟩ | ⟨g', cap, cur, hv, _, _, h5, _⟩
    · cases h1
    · injection hv with _ _ h3; omega
  have hB0 := Go.Joins.below_alloc1 w (.cells #[.int .i64 px, .int .i64 py] 148 (0, 0))
  have hX := heap_alloc_new w (.cells #[.int .i64 px, .int .i64 py] 148 (0, 0))
  have t0 : (w.alloc (.cells #[.int .i64 px, .int .i64 py] 148 (0, 0))).cell? ⟨w.heap.size, 0, none⟩ = some (.int .i64 px) := by rw [Go.Joins.cell_of_block hX]; rfl
  have t1 : (w.alloc (.cells #[.int .i64 px, .int .i64 py] 148 (0, 0))).cell? ⟨w.heap.size, 1, none⟩ = some (.int .i64 py) := by rw [Go.Joins.cell_of_block hX]; rfl
  have hp0 : w.heap.size < (w.alloc (.cells #[.int .i64 px, .int .i64 py] 148 (0, 0))).heap.size := by simp
  replace hrd := Lib.hid (hrd.frame (good_flat _) (Below.sameB hB0 (Nat.le_refl _)))
  replace ho := Lib.hid (ho.alloc (.cells #[.int .i64 px, .int .i64 py] 148 (0, 0)))
  replace hS := Lib.hid hS
  clear hX
  go_enter Tryz.func175, Tryz.ntmps175
  go_wp2_with fail
  generalize w.alloc (.cells #[.int .i64 px, .int .i64 py] 148 (0, 0)) = x at *
  have hgx : g < x.heap.size := Nat.lt_of_lt_of_le hgl hB0.size
  go_loopw [5] (fun kv wr => ∃ k : Nat, kv = .int .i64 k ∧ k ≤ n ∧ posP (px, py) S n = posP (px, py) S k ∧ Below x.heap.size x wr) (fun kv wr => (intOf kv).toNat)
  case atStart => exact ⟨n, rfl, Nat.le_refl _, rfl, Below.refl _ _⟩
  case round =>
  obtain ⟨k, rfl, hk, hpos, hbel⟩ := hrel
  have hsz := hbel.size
  have u0 := (hbel.cell (p := ⟨w.heap.size, 0, none⟩) hp0).trans t0
  have u1 := (hbel.cell (p := ⟨w.heap.size, 1, none⟩) hp0).trans t1
  have hgw : g < wr.heap.size := Nat.lt_of_lt_of_le hgx hsz
  have hpw : w.heap.size < wr.heap.size := Nat.lt_of_lt_of_le hp0 hsz
  have how := Lib.hid (own_below ho.out hbel)
  have hrw := Lib.hid (hrd.out.frame (good_flat _) (Below.sameB hbel (Nat.le_of_lt hp0)))
  have hBw := hB0.trans (hbel.mono hB0.size)
  replace hpos := Lib.hid hpos
  have hbwr := hBw
  have u0wr := u0
  have u1wr := u1
  have hrwr := hrw
  have howr := how
  have hpwr := hpw
  clear u0 u1 hrw how hpw
  rcases Nat.eq_zero_or_pos k with hk0 | hk0
  · have hpk : Hid (posP (px, py) S n = k) := Lib.hid (hpos.out.trans (by rw [hk0]; rfl))
    have hne : Hid (¬ (0 < k ∧ S.getD (k - 1) (0, 0) = (px, py))) := Lib.hid (fun h => by omega)
    have hg1 : decide ((0 : Int) < (k : Int)) = false := decide_eq_false (by omega)
    have hg2 : decide (0 < k) = false := decide_eq_false (by omega)
    replace hk0 := Lib.hid hk0
    clear hpos hBw
    go_wp2_with fail
    refine wp_region_quiet_below (by kernel_rfl) (by kernel_rfl) ?_
    repeat (go_big_quiet_step (fail))
    refine wpQuiet_nil ?_
    intro _ hw'
    obtain ⟨⟨dq, osq⟩, hw''⟩ := hw'
    subst hw''
    have hbW := hbwr.trans ((below_regrown wr dq osq).mono hbwr.size)
    have u0W := cell_regrown u0wr dq osq
    have u1W := cell_regrown u1wr dq osq
    have hrW := Lib.hid (hrwr.out.frame (good_flat _) (Below.sameB (below_regrown wr dq osq) (Nat.le_of_lt hpwr)))
    have hoW := Lib.hid (own_below howr.out (below_regrown wr dq osq))
    have hpW := Nat.lt_of_lt_of_le hpwr (below_regrown wr dq osq).size
    generalize Go.Sort.grow (redrawn wr dq) osq = W at *
    clear hbwr u0wr u1wr hrwr howr hpwr
    go_wp2_with fail
    refine wp_region_quiet_below (by kernel_rfl) (by kernel_rfl) ?_
    repeat (go_big_quiet_step (fail))
    refine wpQuiet_nil ?_
    intro _ hw'
    obtain ⟨⟨dq, osq⟩, hw''⟩ := hw'
    subst hw''
    have hbV := hbW.trans ((below_regrown W dq osq).mono hbW.size)
    have u0V := cell_regrown u0W dq osq
    have u1V := cell_regrown u1W dq osq
    have hrV := Lib.hid (hrW.out.frame (good_flat _) (Below.sameB (below_regrown W dq osq) (Nat.le_of_lt hpW)))
    have hoV := Lib.hid (own_below hoW.out (below_regrown W dq osq))
    have hpV := Nat.lt_of_lt_of_le hpW (below_regrown W dq osq).size
    generalize Go.Sort.grow (redrawn W dq) osq = V at *
    clear hbW u0W u1W hrW hoW hpW
    have hs1 := Lib.hid (src_rd ptC_len ptc_one' (rd_take hrV.out hk))
    have hck : (k : Int) ≤ (c : Int) := by omega
    have hkn2 : (k : Int) ≤ (n : Int) := by omega
    go_wp2_with (first | (at_builtin; refine wpApp rfl (.tmp 34) (.tmp 37) elemPt rfl (base := V.heap.size) (v := .slice (some ⟨V.heap.size, 0, none⟩) 0 0) rfl (World.ownsRow_made V #[] 0 (Nat.le_refl _) (Nat.zero_le _) rfl) rfl (src_new0 hs1.out _) (by omega) (by omega) (by simp) k (by omega) ?_; intro A6 c6 w6 ho6 hb6; have hB6 : Below V.heap.size V w6 := ((Below.refl _ _).alloc (Nat.le_refl _) _).trans hb6; have v0 := (hB6.cell (p := ⟨w.heap.size, 0, none⟩) hpV).trans u0V; have v1 := (hB6.cell (p := ⟨w.heap.size, 1, none⟩) hpV).trans u1V; have hz6 := hB6.size; replace ho6 := Lib.hid ho6; clear hb6) | (at_builtin; refine wpApp rfl (.tmp 39) (.tmp 41) elemPt rfl (base := V.heap.size) (v := .slice A6 k c6) (n := k) (xs := [] ++ (S.take k).flatMap ptC) rfl (ho6.out.alloc _) rfl (src_at (cs := [.int .i64 px, .int .i64 py]) rfl (by simp [Value.oneCell']) rfl) (by omega) (by omega) (by simp; omega) (k + 1) rfl ?_; intro A7 c7 w7 ho7 hb7; have hB7 : Below V.heap.size V w7 := (hB6.alloc hz6 _).trans hb7; have hz7 := hB7.size; have hs7 := Lib.hid (src_rd ptC_len ptc_one' ((rd_drop hrV.out hk).frame (good_flat _) (Below.sameB hB7 (Nat.le_of_lt hpV)))); replace ho7 := Lib.hid ho7; clear hb7) | (at_builtin; refine wpApp rfl (.tmp 43) (.tmp 46) elemPt rfl (base := V.heap.size) (v := .slice A7 (k + 1) c7) (n := k + 1) (xs := ([] ++ (S.take k).flatMap ptC) ++ [.int .i64 px, .int .i64 py]) rfl ho7.out rfl (src_if (by have h := hs7.out; simp only [Nat.zero_add] at h; exact h) (fun h => by omega)) (by omega) (by omega) hz7 (n + 1) (by omega) ?_; intro A8 c8 w8 ho8 hb8; replace ho8 := Lib.hid ho8))
    all_goals
      go_ret
      obtain ⟨g8, hg8, _⟩ := own_at ho8.out (by omega)
      subst hg8
      have hput : putP S (px, py) = (S.take k ++ [(px, py)]) ++ S.drop k := by unfold putP; rw [hS.out, hpk.out, if_neg hne.out]
      refine ⟨g8, n + 1, c8, rfl, ?_, ?_, hbV.trans ((hB7.trans hb8).mono hbV.size)⟩
      · rw [hput]; simp only [List.length_append, List.length_take, List.length_drop, List.length_singleton, hS.out]; omega
      · rw [hput, List.flatMap_append, List.flatMap_append]
        have h := own_lower ho8.out (Nat.le_trans hB hbV.size)
        exact h
  · obtain ⟨k', hkk⟩ : ∃ k' : Nat, k = k' + 1 := ⟨k - 1, by omega⟩
    obtain ⟨t, ht⟩ : ∃ t, t = befB (px, py) (S.getD k' (0, 0)) := ⟨_, rfl⟩
    obtain ⟨b', off', hA, hb0', hb1', hcs⟩ := hrwr.out.pts (by omega)
    injection hA with hA
    injection hA with hA1 hA2
    subst hA1 hA2
    obtain ⟨z0, z1⟩ := hcs k' (by omega)
    obtain ⟨⟨qx, qy⟩, hq⟩ : ∃ q, q = S.getD k' (0, 0) := ⟨_, rfl⟩
    have hqa : ptAt S k' = (qx, qy) := hq.symm
    rw [hqa] at z0 z1
    simp only [Nat.zero_add] at z0 z1
    rw [← hq] at ht
    have hstep : posP (px, py) S (k' + 1) = if t = true then posP (px, py) S k' else k' + 1 := by
      show (if befB (px, py) (S.getD k' (0, 0)) then posP (px, py) S k' else k' + 1) = _
      rw [← hq, ← ht]
    have hk1 : k - 1 = k' := by omega
    rw [← hkk] at hstep
    rw [← hk1] at z0 z1 hq hstep
    have hg1 : decide ((0 : Int) < (k : Int)) = true := decide_eq_true (by omega)
    have hg2 : decide (0 < k) = true := decide_eq_true (by omega)
    have e1 : IntKind.i64.wrap ((k : Int) - 1) = (k : Int) - 1 := wi (by omega)
    have e2 : (0 : Int) ≤ (k : Int) - 1 ∧ (k : Int) - 1 < (n : Int) := by omega
    have e3 : ((k : Int) - 1).toNat = k - 1 := by omega
    have hct := Lib.hid (fun dr os => calls_below (fun W => l13Before_any px py qx qy t ht W) wr dr os)
    have kz0 := fun dr os => cell_regrown z0 dr os
    have kz1 := fun dr os => cell_regrown z1 dr os
    have ku0 := fun dr os => cell_regrown u0wr dr os
    have ku1 := fun dr os => cell_regrown u1wr dr os
    replace ht := Lib.hid ht
    replace hq := Lib.hid hq
    replace hkk := Lib.hid hkk
    replace hk1 := Lib.hid hk1
    replace hstep := Lib.hid hstep
    clear hcs hb0' hb1' hqa hBw
    cases t with
    | true =>
      have hpos2 : posP (px, py) S n = posP (px, py) S (k - 1) := by rw [hpos.out, hstep.out]; rfl
      replace hpos2 := Lib.hid hpos2
      go_wp2_with fail
      refine wp_region_quiet_below (by kernel_rfl) (by kernel_rfl) ?_
      repeat (go_big_quiet_step (with_reducible exact hct.out _ _))
      refine wpQuiet_nil ?_
      intro _ hw'
      obtain ⟨⟨dq, osq⟩, hw''⟩ := hw'
      subst hw''
      have hbn := hbel.trans ((below_regrown wr dq osq).mono hsz)
      generalize Go.Sort.grow (redrawn wr dq) osq = W at *
      clear kz0 kz1 ku0 ku1 hct
      go_wp2_with fail
      go_roundw
      case rel => exact ⟨k - 1, by rw [show ((k - 1 : Nat) : Int) = (k : Int) - 1 by have := hkk.out; omega], by omega, hpos2.out, hbn⟩
      case measure => simp [intOf]; have := hkk.out; omega
    | false =>
      have hpk : Hid (posP (px, py) S n = k) := Lib.hid (by rw [hpos.out, hstep.out]; simp)
      go_wp2_with fail
      refine wp_region_quiet_below (by kernel_rfl) (by kernel_rfl) ?_
      repeat (go_big_quiet_step (with_reducible exact hct.out _ _))
      refine wpQuiet_nil ?_
      intro _ hw'
      obtain ⟨⟨dq, osq⟩, hw''⟩ := hw'
      subst hw''
      have z0W := cell_regrown z0 dq osq
      have z1W := cell_regrown z1 dq osq
      have hgW := Nat.lt_of_lt_of_le hgw (below_regrown wr dq osq).size
      have hbW := hbwr.trans ((below_regrown wr dq osq).mono hbwr.size)
      have u0W := cell_regrown u0wr dq osq
      have u1W := cell_regrown u1wr dq osq
      have hrW := Lib.hid (hrwr.out.frame (good_flat _) (Below.sameB (below_regrown wr dq osq) (Nat.le_of_lt hpwr)))
      have hoW := Lib.hid (own_below howr.out (below_regrown wr dq osq))
      have hpW := Nat.lt_of_lt_of_le hpwr (below_regrown wr dq osq).size
      generalize Go.Sort.grow (redrawn wr dq) osq = W at *
      clear hbwr u0wr u1wr hrwr howr hpwr
      clear kz0 kz1 ku0 ku1 hct z0 z1
      have kz0 := fun dr os => cell_regrown z0W dr os
      have kz1 := fun dr os => cell_regrown z1W dr os
      have ku0 := fun dr os => cell_regrown u0W dr os
      have ku1 := fun dr os => cell_regrown u1W dr os
      by_cases hxx : qx = px
      · subst hxx
        by_cases hyy : qy = py
        · subst hyy
          go_wp2_with fail
          refine wp_region_quiet_below (by kernel_rfl) (by kernel_rfl) ?_
          repeat (go_big_quiet_step (fail))
          refine wpQuiet_nil ?_
          intro _ hw'
          obtain ⟨⟨dq, osq⟩, hw''⟩ := hw'
          subst hw''
          have hbV := hbW.trans ((below_regrown W dq osq).mono hbW.size)
          have u0V := cell_regrown u0W dq osq
          have u1V := cell_regrown u1W dq osq
          have hrV := Lib.hid (hrW.out.frame (good_flat _) (Below.sameB (below_regrown W dq osq) (Nat.le_of_lt hpW)))
          have hoV := Lib.hid (own_below hoW.out (below_regrown W dq osq))
          have hpV := Nat.lt_of_lt_of_le hpW (below_regrown W dq osq).size
          generalize Go.Sort.grow (redrawn W dq) osq = V at *
          clear hbW u0W u1W hrW hoW hpW
          clear kz0 kz1 ku0 ku1
          go_wp2_with fail
          go_ret
          have hput : putP S (qx, qy) = S := by unfold putP; rw [hS.out, hpk.out, if_pos ⟨by have := hkk.out; omega, hq.out.symm⟩]
          refine ⟨_, n, c, rfl, by rw [hput, hS.out], by rw [hput]; exact hoV.out, hbV⟩
        · have hne : Hid (¬ (0 < k ∧ S.getD (k - 1) (0, 0) = (qx, py))) := Lib.hid (fun h => by have h2 := hq.out.trans h.2; injection h2 with _ h3; exact hyy h3)
          have hf1 : (qy == py) = false := by simp [hyy]
          clear hyy
          go_wp2_with fail
          refine wp_region_quiet_below (by kernel_rfl) (by kernel_rfl) ?_
          repeat (go_big_quiet_step (fail))
          refine wpQuiet_nil ?_
          intro _ hw'
          obtain ⟨⟨dq, osq⟩, hw''⟩ := hw'
          subst hw''
          have hbV := hbW.trans ((below_regrown W dq osq).mono hbW.size)
          have u0V := cell_regrown u0W dq osq
          have u1V := cell_regrown u1W dq osq
          have hrV := Lib.hid (hrW.out.frame (good_flat _) (Below.sameB (below_regrown W dq osq) (Nat.le_of_lt hpW)))
          have hoV := Lib.hid (own_below hoW.out (below_regrown W dq osq))
          have hpV := Nat.lt_of_lt_of_le hpW (below_regrown W dq osq).size
          generalize Go.Sort.grow (redrawn W dq) osq = V at *
          clear hbW u0W u1W hrW hoW hpW
          clear kz0 kz1 ku0 ku1
          have hs1 := Lib.hid (src_rd ptC_len ptc_one' (rd_take hrV.out hk))
          have hck : (k : Int) ≤ (c : Int) := by omega
          have hkn2 : (k : Int) ≤ (n : Int) := by omega
          go_wp2_with (first | (at_builtin; refine wpApp rfl (.tmp 34) (.tmp 37) elemPt rfl (base := V.heap.size) (v := .slice (some ⟨V.heap.size, 0, none⟩) 0 0) rfl (World.ownsRow_made V #[] 0 (Nat.le_refl _) (Nat.zero_le _) rfl) rfl (src_new0 hs1.out _) (by omega) (by omega) (by simp) k (by omega) ?_; intro A6 c6 w6 ho6 hb6; have hB6 : Below V.heap.size V w6 := ((Below.refl _ _).alloc (Nat.le_refl _) _).trans hb6; have v0 := (hB6.cell (p := ⟨w.heap.size, 0, none⟩) hpV).trans u0V; have v1 := (hB6.cell (p := ⟨w.heap.size, 1, none⟩) hpV).trans u1V; have hz6 := hB6.size; replace ho6 := Lib.hid ho6; clear hb6) | (at_builtin; refine wpApp rfl (.tmp 39) (.tmp 41) elemPt rfl (base := V.heap.size) (v := .slice A6 k c6) (n := k) (xs := [] ++ (S.take k).flatMap ptC) rfl (ho6.out.alloc _) rfl (src_at (cs := [.int .i64 qx, .int .i64 py]) rfl (by simp [Value.oneCell']) rfl) (by omega) (by omega) (by simp; omega) (k + 1) rfl ?_; intro A7 c7 w7 ho7 hb7; have hB7 : Below V.heap.size V w7 := (hB6.alloc hz6 _).trans hb7; have hz7 := hB7.size; have hs7 := Lib.hid (src_rd ptC_len ptc_one' ((rd_drop hrV.out hk).frame (good_flat _) (Below.sameB hB7 (Nat.le_of_lt hpV)))); replace ho7 := Lib.hid ho7; clear hb7) | (at_builtin; refine wpApp rfl (.tmp 43) (.tmp 46) elemPt rfl (base := V.heap.size) (v := .slice A7 (k + 1) c7) (n := k + 1) (xs := ([] ++ (S.take k).flatMap ptC) ++ [.int .i64 qx, .int .i64 py]) rfl ho7.out rfl (src_if (by have h := hs7.out; simp only [Nat.zero_add] at h; exact h) (fun h => by omega)) (by omega) (by omega) hz7 (n + 1) (by omega) ?_; intro A8 c8 w8 ho8 hb8; replace ho8 := Lib.hid ho8))
          all_goals
            go_ret
            obtain ⟨g8, hg8, _⟩ := own_at ho8.out (by omega)
            subst hg8
            have hput : putP S (qx, py) = (S.take k ++ [(qx, py)]) ++ S.drop k := by unfold putP; rw [hS.out, hpk.out, if_neg hne.out]
            refine ⟨g8, n + 1, c8, rfl, ?_, ?_, hbV.trans ((hB7.trans hb8).mono hbV.size)⟩
            · rw [hput]; simp only [List.length_append, List.length_take, List.length_drop, List.length_singleton, hS.out]; omega
            · rw [hput, List.flatMap_append, List.flatMap_append]
              have h := own_lower ho8.out (Nat.le_trans hB hbV.size)
              exact h
      · have hne : Hid (¬ (0 < k ∧ S.getD (k - 1) (0, 0) = (px, py))) := Lib.hid (fun h => by have h2 := hq.out.trans h.2; injection h2 with h3 _; exact hxx h3)
        have hf1 : (qx == px) = false := by simp [hxx]
        clear hxx
        go_wp2_with fail
        refine wp_region_quiet_below (by kernel_rfl) (by kernel_rfl) ?_
        repeat (go_big_quiet_step (fail))
        refine wpQuiet_nil ?_
        intro _ hw'
        obtain ⟨⟨dq, osq⟩, hw''⟩ := hw'
        subst hw''
        have hbV := hbW.trans ((below_regrown W dq osq).mono hbW.size)
        have u0V := cell_regrown u0W dq osq
        have u1V := cell_regrown u1W dq osq
        have hrV := Lib.hid (hrW.out.frame (good_flat _) (Below.sameB (below_regrown W dq osq) (Nat.le_of_lt hpW)))
        have hoV := Lib.hid (own_below hoW.out (below_regrown W dq osq))
        have hpV := Nat.lt_of_lt_of_le hpW (below_regrown W dq osq).size
        generalize Go.Sort.grow (redrawn W dq) osq = V at *
        clear hbW u0W u1W hrW hoW hpW
        clear kz0 kz1 ku0 ku1
        have hs1 := Lib.hid (src_rd ptC_len ptc_one' (rd_take hrV.out hk))
        have hck : (k : Int) ≤ (c : Int) := by omega
        have hkn2 : (k : Int) ≤ (n : Int) := by omega
        go_wp2_with (first | (at_builtin; refine wpApp rfl (.tmp 34) (.tmp 37) elemPt rfl (base := V.heap.size) (v := .slice (some ⟨V.heap.size, 0, none⟩) 0 0) rfl (World.ownsRow_made V #[] 0 (Nat.le_refl _) (Nat.zero_le _) rfl) rfl (src_new0 hs1.out _) (by omega) (by omega) (by simp) k (by omega) ?_; intro A6 c6 w6 ho6 hb6; have hB6 : Below V.heap.size V w6 := ((Below.refl _ _).alloc (Nat.le_refl _) _).trans hb6; have v0 := (hB6.cell (p := ⟨w.heap.size, 0, none⟩) hpV).trans u0V; have v1 := (hB6.cell (p := ⟨w.heap.size, 1, none⟩) hpV).trans u1V; have hz6 := hB6.size; replace ho6 := Lib.hid ho6; clear hb6) | (at_builtin; refine wpApp rfl (.tmp 39) (.tmp 41) elemPt rfl (base := V.heap.size) (v := .slice A6 k c6) (n := k) (xs := [] ++ (S.take k).flatMap ptC) rfl (ho6.out.alloc _) rfl (src_at (cs := [.int .i64 px, .int .i64 py]) rfl (by simp [Value.oneCell']) rfl) (by omega) (by omega) (by simp; omega) (k + 1) rfl ?_; intro A7 c7 w7 ho7 hb7; have hB7 : Below V.heap.size V w7 := (hB6.alloc hz6 _).trans hb7; have hz7 := hB7.size; have hs7 := Lib.hid (src_rd ptC_len ptc_one' ((rd_drop hrV.out hk).frame (good_flat _) (Below.sameB hB7 (Nat.le_of_lt hpV)))); replace ho7 := Lib.hid ho7; clear hb7) | (at_builtin; refine wpApp rfl (.tmp 43) (.tmp 46) elemPt rfl (base := V.heap.size) (v := .slice A7 (k + 1) c7) (n := k + 1) (xs := ([] ++ (S.take k).flatMap ptC) ++ [.int .i64 px, .int .i64 py]) rfl ho7.out rfl (src_if (by have h := hs7.out; simp only [Nat.zero_add] at h; exact h) (fun h => by omega)) (by omega) (by omega) hz7 (n + 1) (by omega) ?_; intro A8 c8 w8 ho8 hb8; replace ho8 := Lib.hid ho8))
        all_goals
          go_ret
          obtain ⟨g8, hg8, _⟩ := own_at ho8.out (by omega)
          subst hg8
          have hput : putP S (px, py) = (S.take k ++ [(px, py)]) ++ S.drop k := by unfold putP; rw [hS.out, hpk.out, if_neg hne.out]
          refine ⟨g8, n + 1, c8, rfl, ?_, ?_, hbV.trans ((hB7.trans hb8).mono hbV.size)⟩
          · rw [hput]; simp only [List.length_append, List.length_take, List.length_drop, List.length_singleton, hS.out]; omega
          · rw [hput, List.flatMap_append, List.flatMap_append]
            have h := own_lower ho8.out (Nat.le_trans hB hbV.size)
            exact h
end Go.Proofs.YtfkidklpjiiclaaGreat

/- The reference's hull, pens. Conditions: as each states. -/
namespace Go.Proofs.YtfkidklpjiiclaaGreat
open Go.RowKit
set_option linter.unusedVariables false
set_option maxRecDepth 100000

theorem sortTo_succ {L : List Pn} {k : Nat} (hk : k < L.length) : (L.take (k + 1)).foldl putP [] = putP ((L.take k).foldl putP []) (L.getD k (0, 0)) := by
  rw [List.take_succ_eq_append_getElem hk, List.foldl_append, List.getD_eq_getElem?_getD, List.getElem?_eq_getElem hk]; rfl
theorem put_len (S : List Pn) (p : Pn) : (putP S p).length ≤ S.length + 1 := by
  unfold putP
  have := pos_le p S S.length
  split
  · omega
  · simp only [List.length_append, List.length_take, List.length_drop, List.length_singleton]; omega
theorem sortTo_len (L : List Pn) : ∀ k, k ≤ L.length → ((L.take k).foldl putP []).length ≤ k
  | 0, _ => by simp
  | k + 1, h => by
    rw [sortTo_succ (by omega)]
    have := sortTo_len L k (by omega)
    have := put_len ((L.take k).foldl putP []) (L.getD k (0, 0))
    omega
theorem chain_pos {L : List Pn} (h : 0 < L.length) : 0 < (chainR L).length := by
  have := chain_next (L := L) (k := L.length - 1) (by omega)
  rw [show L.length - 1 + 1 = L.length by omega, List.take_length] at this
  rw [this]; simp
theorem drop_chain (L : List Pn) : (chainL L).dropLast = (chainR L).tail.reverse := by
  unfold chainL; rw [List.dropLast_reverse]
theorem rev_take {S : List Pn} {j : Nat} (hj : j < S.length) : S.reverse.take (j + 1) = S.reverse.take j ++ [S.getD (S.length - 1 - j) (0, 0)] := by
  rw [List.take_succ_eq_append_getElem (by simp; omega), List.getElem_reverse, List.getD_eq_getElem?_getD, List.getElem?_eq_getElem (by omega)]; rfl
theorem cho_full {w : World} {B c : Nat} {A : Option Addr} {r : List Pn} (h : ChO w B A c r) (h0 : 0 < r.length) : ∃ g, A = some ⟨g, 0, none⟩ ∧ r.length ≤ c ∧ ChO w B (some ⟨g, 0, none⟩) c r.tail := by
  obtain ⟨b, t, rfl⟩ : ∃ b t, r = b :: t := by cases r with | nil => simp at h0 | cons b t => exact ⟨b, t, rfl⟩
  obtain ⟨g, rfl, _, _, hc, _⟩ := own_at h (by simp)
  exact ⟨g, rfl, hc, cho_popAny h⟩

set_option maxHeartbeats 16000000 in
theorem l11Hull_any (A : Option Addr) (n c lo hi : Nat) (L : List Pn) (w : World) (hr : RdS 2 (FlatR ptC) w lo hi A n L) (hhi : hi ≤ w.heap.size) (hn : n ≤ 100) (hok : ∀ p ∈ L, pt2Ok p = true) :
    Calls Tryz.prog 151 #[.slice A n c] w fun e w' => ∃ (A' : Option Addr) (c' : Nat), e = .returned (.slice A' (hullL L).length c') ∧ w'.ownsRow w.heap.size 148 2 (.slice A' (hullL L).length c') (hullL L).length ((hullL L).flatMap ptC) ∧ Below w.heap.size w w' := by
  have hll := Lib.hid hr.1
  replace hr := Lib.hid hr
  replace hok := Lib.hid hok
  go_enter Tryz.func151, Tryz.ntmps151
  go_wp2_with fail
  go_loopw [3, 4] (fun ov iv wr => ∃ (k g m c1 : Nat) (S : List Pn), iv = .int .i64 k ∧ k ≤ n ∧ S = (L.take k).foldl putP [] ∧ m = S.length ∧ ov = .slice (some ⟨g, 0, none⟩) m c1 ∧ wr.ownsRow w.heap.size 148 2 (.slice (some ⟨g, 0, none⟩) m c1) m (S.flatMap ptC) ∧ Below w.heap.size w wr) (fun ov iv wr => n - (intOf iv).toNat)
  case atStart => exact ⟨0, w.heap.size, 0, 0, [], rfl, Nat.zero_le _, rfl, rfl, rfl, World.ownsRow_lit w #[] 0 (Nat.le_refl _) (by decide) (by simp), (Below.refl _ _).alloc (Nat.le_refl _) _⟩
  case round =>
  obtain ⟨k, g, m, c1, S, rfl, hk, hS, hm, rfl, hown, hbel⟩ := hrel
  have hsz := hbel.size
  have hSl : m ≤ k := by rw [hm, hS]; exact sortTo_len L k (by have := hll.out; omega)
  by_cases hlt : k < n
  · obtain ⟨b0, off, rfl, hb0, hb1, hcs⟩ := (hr.out.frame (good_flat _) (Below.sameB hbel hhi)).pts (by omega)
    obtain ⟨x0, x1⟩ := hcs k hlt
    have hnx := sortTo_succ (L := L) (k := k) (by have := hll.out; omega)
    rw [← hS, show L.getD k (0, 0) = ptAt L k from rfl] at hnx
    obtain ⟨⟨px, py⟩, hpe⟩ : ∃ p, p = ptAt L k := ⟨_, rfl⟩
    rw [← hpe] at x0 x1 hnx
    have hki : (0 : Int) ≤ (k : Int) ∧ (k : Int) < (n : Int) := by omega
    have hbw : b0 < wr.heap.size := by omega
    have hc := Lib.hid (l13Put_any g m c1 w.heap.size S px py wr hown hm.symm hsz (by omega))
    replace hnx := Lib.hid hnx
    replace hpe := Lib.hid hpe
    replace hS := Lib.hid hS
    replace hm := Lib.hid hm
    clear hcs hb0 hb1 hown
    go_wp2_with fail
    refine hc.out.mono ?_
    rintro e w1 ⟨g', m', c', rfl, hm', ho', hb'⟩
    have hbel1 := hbel.trans (hb'.mono hsz)
    replace hm' := Lib.hid hm'
    replace ho' := Lib.hid ho'
    go_wp2_with fail
    go_roundw
    case rel => exact ⟨k + 1, g', m', c', putP S (px, py), by go_num, by omega, hnx.out.symm, hm'.out, rfl, ho'.out, hbel1⟩
    case measure => simp [intOf]; omega
  have hkn : k = n := by omega
  have hSU : S = sortU L := by rw [hS, hkn, List.take_of_length_le (by have := hll.out; omega)]; rfl
  have hSm : ∀ p ∈ S, pt2Ok p = true := fun p hp => hok.out p ((sortU_mem L p).1 (by rw [← hSU]; exact hp))
  have hhull : hullL L = if S.length < 3 then S else (chainL S).dropLast ++ (chainL S.reverse).dropLast := by unfold hullL; rw [← hSU]
  have hmn : m ≤ 100 := by omega
  replace hS := Lib.hid hS
  replace hSU := Lib.hid hSU
  replace hkn := Lib.hid hkn
  by_cases h3 : m < 3
  · have hh : hullL L = S := by rw [hhull, if_pos (by omega)]
    have h3i : (m : Int) < 3 := by omega
    have hfin : ∃ (A' : Option Addr) (c' : Nat), Ending.returned (.slice (some ⟨g, 0, none⟩) m c1) = .returned (.slice A' (hullL L).length c') ∧ wr.ownsRow w.heap.size 148 2 (.slice A' (hullL L).length c') (hullL L).length ((hullL L).flatMap ptC) := ⟨_, c1, by rw [hh, ← hm], by rw [hh, ← hm]; exact hown⟩
    replace hfin := Lib.hid hfin
    replace hm := Lib.hid hm
    clear hown hhull hh
    go_wp2_with fail
    go_ret
    obtain ⟨A', c', h1, h2⟩ := hfin.out
    exact ⟨A', c', h1, h2, hbel⟩
  rw [if_neg (by omega)] at hhull
  have h3i : ¬ (m : Int) < 3 := by omega
  have hrS := rdS_own ptC_len (by omega) hown hm.symm
  have e1 : IntKind.i64.wrap ((m : Int) - 1) = (m : Int) - 1 := wi (by omega)
  replace hm := Lib.hid hm
  replace hhull := Lib.hid hhull
  replace hSm := Lib.hid hSm
  replace hrS := Lib.hid hrS
  clear hown
  have hgw : g < wr.heap.size := by
    obtain ⟨b', off', hA, _, h2, _⟩ := hrS.out.pts (by omega)
    injection hA with hA
    injection hA with hA1 hA2
    omega
  go_wp2_with fail
  generalize wr = x at *
  go_loopw [5, 6] (fun ov iv wr => ∃ (j : Nat) (A5 : Option Addr) (c5 : Nat), iv = .int .i64 ((m : Int) - 1 - j) ∧ j ≤ m ∧ ov = .slice A5 j c5 ∧ wr.ownsRow x.heap.size 148 2 (.slice A5 j c5) j ((S.reverse.take j).flatMap ptC) ∧ Below x.heap.size x wr) (fun ov iv wr => (intOf iv + 1).toNat)
  case atStart => exact ⟨0, some ⟨x.heap.size, 0, none⟩, 0, by simp, Nat.zero_le _, rfl, World.ownsRow_lit x #[] 0 (Nat.le_refl _) (by decide) (by simp), (Below.refl _ _).alloc (Nat.le_refl _) _⟩
  case round =>
  obtain ⟨j, A5, c5, rfl, hj, rfl, hown5, hbx⟩ := hrel
  have hzx := hbx.size
  have hrW := Lib.hid (hrS.out.frame (good_flat _) (Below.sameB hbx (Nat.le_refl _)))
  replace hown5 := Lib.hid hown5
  by_cases hjm : j < m
  · obtain ⟨b0, off, hA, hb0, hb1, hcs⟩ := hrW.out.pts (by omega)
    injection hA with hA
    injection hA with hA1 hA2
    subst hA1 hA2
    obtain ⟨x0, x1⟩ := hcs (m - 1 - j) (by omega)
    have hnx := rev_take (S := S) (j := j) (by rw [← hm.out]; exact hjm)
    rw [← hm.out, show S.getD (m - 1 - j) (0, 0) = ptAt S (m - 1 - j) from rfl] at hnx
    obtain ⟨⟨px, py⟩, hpe⟩ : ∃ p, p = ptAt S (m - 1 - j) := ⟨_, rfl⟩
    rw [← hpe] at x0 x1 hnx
    simp only [Nat.zero_add] at x0 x1
    obtain ⟨q, hq⟩ : ∃ q : Nat, q = m - 1 - j := ⟨_, rfl⟩
    have hqi : (m : Int) - 1 - (j : Int) = (q : Int) := by omega
    rw [← hq] at x0 x1
    rw [hqi]
    have hki : (0 : Int) ≤ (q : Int) ∧ (q : Int) < (m : Int) := by omega
    have e2 : IntKind.i64.wrap ((q : Int) - 1) = (q : Int) - 1 := wi (by omega)
    have hgw2 : g < wr.heap.size := Nat.lt_of_lt_of_le hgw hzx
    replace hnx := Lib.hid hnx
    replace hpe := Lib.hid hpe
    replace hq := Lib.hid hq
    replace hqi := Lib.hid hqi
    clear hcs hb0 hb1
    go_wp2_with (at_builtin; refine wpApp rfl (.tmp 35) (.tmp 40) elemPt rfl (base := x.heap.size) (v := .slice A5 j c5) (n := j) (xs := (S.reverse.take j).flatMap ptC) rfl (hown5.out.alloc _) rfl (src_at (cs := [.int .i64 px, .int .i64 py]) rfl (by simp [Value.oneCell']) rfl) (by omega) (by omega) (by simp; omega) (j + 1) rfl ?_; intro A6 c6 w6 hown6 hb6; replace hown6 := Lib.hid hown6)
    have hbel6 := (hbx.alloc hzx _).trans hb6
    clear hb6
    go_roundw
    case rel =>
      refine ⟨j + 1, A6, c6, by rw [show (m : Int) - 1 - ((j + 1 : Nat) : Int) = (q : Int) - 1 by have := hqi.out; omega], by omega, rfl, ?_, hbel6⟩
      rw [hnx.out, List.flatMap_append]
      exact hown6.out
    case measure => simp [intOf]
  have hjm2 : j = m := by omega
  have hneg : (m : Int) - 1 - (j : Int) = -1 := by omega
  subst hjm2
  have hrB : RdS 2 (FlatR ptC) wr x.heap.size wr.heap.size A5 j S.reverse := by
    have h := hown5.out
    rw [List.take_of_length_le (Nat.le_of_eq (by rw [List.length_reverse, hm.out]))] at h
    exact rdS_own ptC_len (by omega) h (by rw [List.length_reverse, hm.out])
  have hBx := hbel.trans (hbx.mono hsz)
  have hc1 := Lib.hid (specChain_any (some ⟨g, 0, none⟩) j c1 w.heap.size x.heap.size S wr hrW.out hzx (by omega) hSm.out)
  rw [hneg]
  replace hrB := Lib.hid hrB
  clear hown5 hrW
  go_wp2_with fail
  refine hc1.out.mono ?_
  rintro e w2 ⟨A7, c7, rfl, ho7, hb7⟩
  have hz7 := hb7.size
  have hc2 := Lib.hid (specChain_any A5 j c5 x.heap.size wr.heap.size S.reverse w2 (hrB.out.frame (good_flat _) (Below.sameB hb7 (Nat.le_refl _))) hz7 (by omega) (fun p hp => hSm.out p (List.mem_reverse.1 hp)))
  replace ho7 := Lib.hid ho7
  clear hc1
  go_wp2_with fail
  refine hc2.out.mono ?_
  rintro e w3 ⟨A8, c8, rfl, ho8, hb8⟩
  have hz8 := hb8.size
  have hB3 := hBx.trans ((hb7.trans (hb8.mono hz7)).mono hBx.size)
  have hp1 : 0 < (chainR S).length := chain_pos (by have := hm.out; omega)
  have hp2 : 0 < (chainR S.reverse).length := chain_pos (by rw [List.length_reverse]; have := hm.out; omega)
  have hl1 : (chainR S).length ≤ 100 := by have := chain_len S; have := hm.out; omega
  have hl2 : (chainR S.reverse).length ≤ 100 := by have := chain_len S.reverse; rw [List.length_reverse] at this; have := hm.out; omega
  obtain ⟨g7, rfl, hc7, ht7⟩ := cho_full (own_below ho7.out hb8) hp1
  obtain ⟨g8, rfl, hc8, ht8⟩ := cho_full ho8 hp2
  have hs7 := src_own (A := some ⟨g7, 0, none⟩) ht7 (by intro u hu; obtain ⟨a, _, ha⟩ := List.mem_flatMap.1 hu; exact ptc_one' a u ha)
  have hs8 := src_own (A := some ⟨g8, 0, none⟩) ht8 (by intro u hu; obtain ⟨a, _, ha⟩ := List.mem_flatMap.1 hu; exact ptc_one' a u ha)
  have hr8 := rdS_own ptC_len (by omega) ht8 (by simp)
  obtain ⟨u, hu⟩ : ∃ u, u = (chainR S).length := ⟨_, rfl⟩
  obtain ⟨v, hv⟩ : ∃ v, v = (chainR S.reverse).length := ⟨_, rfl⟩
  have hut : (chainR S).tail.length = u - 1 := by rw [List.length_tail, hu]
  have hvt : (chainR S.reverse).tail.length = v - 1 := by rw [List.length_tail, hv]
  have hhull2 : hullL L = (chainR S).tail.reverse ++ (chainR S.reverse).tail.reverse := by rw [hhull.out, drop_chain, drop_chain]
  rw [hut] at hs7
  rw [hvt] at hr8
  rw [← hu] at hp1 hl1 hc7 ⊢
  rw [← hv] at hp2 hl2 hc8 ⊢
  have hlen : (hullL L).length = (u - 1) + (v - 1) := by rw [hhull2, List.length_append, List.length_reverse, List.length_reverse, hut, hvt]
  have q1 : IntKind.i64.wrap ((u : Int) - 1) = ((u - 1 : Nat) : Int) := by rw [wi (by omega)]; omega
  have q2 : IntKind.i64.wrap ((v : Int) - 1) = ((v - 1 : Nat) : Int) := by rw [wi (by omega)]; omega
  obtain ⟨u1, hu1⟩ : ∃ x, x = u - 1 := ⟨_, rfl⟩
  obtain ⟨v1, hv1⟩ : ∃ x, x = v - 1 := ⟨_, rfl⟩
  rw [← hu1] at q1 hs7 hlen
  rw [← hv1] at q2 hr8 hlen
  have i1 : (0 : Int) ≤ (u1 : Int) ∧ (u1 : Int) ≤ (c7 : Int) := by omega
  have i2 : (0 : Int) ≤ (v1 : Int) ∧ (v1 : Int) ≤ (c8 : Int) := by omega
  have i3 : u1 ≤ 100 ∧ v1 ≤ 100 := by omega
  replace hs7 := Lib.hid hs7
  replace hr8 := Lib.hid hr8
  replace hu := Lib.hid hu
  replace hv := Lib.hid hv
  replace hu1 := Lib.hid hu1
  replace hv1 := Lib.hid hv1
  replace hlen := Lib.hid hlen
  replace hhull2 := Lib.hid hhull2
  clear ht7 ht8 hs8 hut hvt hc2 ho8 ho7
  go_wp2_with (first | (at_builtin; refine wpApp rfl (.tmp 46) (.tmp 51) elemPt rfl (base := w3.heap.size) (v := .slice (some ⟨w3.heap.size, 0, none⟩) 0 0) rfl (World.ownsRow_made w3 #[] 0 (Nat.le_refl _) (Nat.zero_le _) rfl) rfl (src_new0 hs7.out _) (by omega) (by omega) (by simp) u1 (by omega) ?_; intro A9 c9 w9 ho9 hb9; have hB9 : Below w3.heap.size w3 w9 := ((Below.refl _ _).alloc (Nat.le_refl _) _).trans hb9; have hz9 := hB9.size; have hs9 := Lib.hid (src_rd ptC_len ptc_one' (hr8.out.frame (good_flat _) (Below.sameB hB9 (Nat.le_refl _)))); replace ho9 := Lib.hid ho9; clear hb9) | (at_builtin; refine wpApp rfl (.tmp 53) (.tmp 58) elemPt rfl (base := w3.heap.size) (v := .slice A9 u1 c9) (n := u1) (xs := [] ++ (chainR S).tail.reverse.flatMap ptC) rfl ho9.out rfl hs9.out (by omega) (by omega) hz9 (u1 + v1) rfl ?_; intro A10 c10 w10 ho10 hb10; replace ho10 := Lib.hid ho10))
  go_ret
  refine ⟨A10, c10, by rw [hlen.out]; rfl, ?_, hB3.trans ((hB9.trans hb10).mono hB3.size)⟩
  rw [hlen.out, hhull2.out, List.flatMap_append]
  exact own_lower ho10.out hB3.size
end Go.Proofs.YtfkidklpjiiclaaGreat

/- Pens, the reference's side; the program's order of points. Conditions: as each states. -/
namespace Go.Proofs.YtfkidklpjiiclaaGreat
open Go.RowKit
set_option linter.unusedVariables false
set_option maxRecDepth 100000

def penB (L : List Pn) : Bool := inB L.length 1 16 && (L.all pt2Ok && decide (hullL L = L))
theorem keep_len (L : List Pn) : (sortU L).length ≤ L.length := by
  have := sortTo_len L L.length (Nat.le_refl _)
  rw [List.take_length] at this
  exact this
theorem hull_len (L : List Pn) : (hullL L).length ≤ 2 * L.length := by
  have h0 := keep_len L
  unfold hullL
  split
  · omega
  · have h1 := chain_len (sortU L)
    have h2 := chain_len (sortU L).reverse
    rw [List.length_reverse] at h2
    rw [drop_chain, drop_chain, List.length_append, List.length_reverse, List.length_reverse, List.length_tail, List.length_tail]
    omega

set_option maxHeartbeats 4000000 in
theorem l11Pen_any (A : Option Addr) (n c lo hi : Nat) (L : List Pn) (t : Bool) (ht : t = penB L) (w : World) (hr : RdS 2 (FlatR ptC) w lo hi A n L) (hhi : hi ≤ w.heap.size) (hn : n ≤ 1000000000) :
    Calls Tryz.prog 103 #[.slice A n c] w fun e w' => e = .returned (.bool t) ∧ Below w.heap.size w w' := by
  have hll := hr.1
  obtain ⟨u, hu⟩ : ∃ u, u = inB n 1 16 := ⟨_, rfl⟩
  have hc1 := Lib.hid (l00In_k n 1 16 u hu w)
  have htu : t = (u && (L.all pt2Ok && decide (hullL L = L))) := by rw [ht, hu, penB, hll]
  replace htu := Lib.hid htu
  clear ht
  cases u with
  | false =>
    have htf : t = false := by rw [htu.out]; rfl
    subst htf
    clear hu hr hll
    go_enter Tryz.func103, Tryz.ntmps103
    go_wp2_with fail
    refine hc1.out.mono ?_
    rintro e w1 ⟨rfl, rfl⟩
    go_wp2_with fail
    go_ret
    exact ⟨rfl, Below.refl _ _⟩
  | true =>
  have hb := inB_iff.1 hu.symm
  have hn16 : n ≤ 16 := by omega
  obtain ⟨v, hv⟩ : ∃ v, v = L.all pt2Ok := ⟨_, rfl⟩
  have hc2 := Lib.hid (l13Points_any A n c lo hi L v hv w hr hhi (by omega))
  rw [← hv] at htu
  clear hu hb
  cases v with
  | false =>
    have htf : t = false := by rw [htu.out]; rfl
    subst htf
    clear hv hr hll
    go_enter Tryz.func103, Tryz.ntmps103
    go_wp2_with fail
    refine hc1.out.mono ?_
    rintro e w1 ⟨rfl, rfl⟩
    go_wp2_with fail
    refine hc2.out.mono ?_
    rintro e w2 ⟨rfl, hb2⟩
    go_wp2_with fail
    go_ret
    exact ⟨rfl, hb2⟩
  | true =>
  have hok : ∀ p ∈ L, pt2Ok p = true := List.all_eq_true.1 hv.symm
  replace hr := Lib.hid hr
  replace hok := Lib.hid hok
  replace hll := Lib.hid hll
  clear hv
  go_enter Tryz.func103, Tryz.ntmps103
  go_wp2_with fail
  refine hc1.out.mono ?_
  rintro e w1 ⟨rfl, rfl⟩
  go_wp2_with fail
  refine hc2.out.mono ?_
  rintro e w2 ⟨rfl, hb2⟩
  have hr2 := Lib.hid (hr.out.frame (good_flat _) (Below.sameB hb2 hhi))
  have hc3 := Lib.hid (l11Hull_any A n c lo hi L w2 hr2.out (Nat.le_trans hhi hb2.size) (by omega) hok.out)
  clear hc1 hc2
  go_wp2_with fail
  refine hc3.out.mono ?_
  rintro e w3 ⟨A3, c3, rfl, ho3, hb3⟩
  have hB3 := hb2.trans (hb3.mono hb2.size)
  have hhl := hull_len L
  have hr3 := rdS_own ptC_len (by omega) ho3 rfl
  obtain ⟨m, hm⟩ : ∃ m, m = (hullL L).length := ⟨_, rfl⟩
  rw [← hm] at hr3 hhl ⊢
  obtain ⟨x, hx⟩ : ∃ x, x = decide (hullL L = L) := ⟨_, rfl⟩
  have hc4 := Lib.hid (l13Same_any A3 A m c3 n c w2.heap.size w3.heap.size lo hi (hullL L) L x hx w3 hr3 (hr2.out.frame (good_flat _) (Below.sameB hb3 (Nat.le_trans hhi hb2.size))) (Nat.le_refl _) (Nat.le_trans hhi hB3.size) (by have := hll.out; omega) (by omega))
  have htx : t = x := by rw [htu.out, hx]; rfl
  subst htx
  replace hm := Lib.hid hm
  replace hx := Lib.hid hx
  clear ho3 hr3 hc3
  go_wp2_with fail
  refine hc4.out.mono ?_
  rintro e w4 ⟨rfl, q, rfl⟩
  go_wp2_with fail
  go_ret
  exact ⟨rfl, below_drewN hB3 _⟩

/-! ### the program's order -/
def sgnI (n : Int) : Int := if n < 0 then -1 else if 0 < n then 1 else 0
theorem sign_any (n : Int) (w : World) (v : Int) (hv : v = sgnI n) :
    Calls Tryz.prog 164 #[.int .i64 n] w fun e w' => e = .returned (.int .i64 v) ∧ w' = w := by
  unfold sgnI at hv
  by_cases h : n < 0
  · rw [if_pos h] at hv
    subst hv
    go_enter Tryz.func164, Tryz.ntmps164
    go_wp2_with fail
    go_ret
    exact ⟨rfl, rfl⟩
  · rw [if_neg h] at hv
    by_cases h' : 0 < n
    · rw [if_pos h'] at hv
      subst hv
      go_enter Tryz.func164, Tryz.ntmps164
      go_wp2_with fail
      go_ret
      exact ⟨rfl, rfl⟩
    · rw [if_neg h'] at hv
      subst hv
      go_enter Tryz.func164, Tryz.ntmps164
      go_wp2_with fail
      go_ret
      exact ⟨rfl, rfl⟩
/-- what compareYX says of two points -/
def cmpYX (a b : Pn) : Int := if a.2 = b.2 then sgnI (a.1 - b.1) else sgnI (a.2 - b.2)
theorem cmp_neg_iff (a b : Pn) : cmpYX a b < 0 ↔ befB a b = true := by
  rw [bef_iff]
  unfold cmpYX sgnI
  split
  · split
    · omega
    · split <;> omega
  · split
    · omega
    · split <;> omega
theorem compareYX_any (ax ay bx by_ : Int) (ha : pt2Ok (ax, ay) = true) (hb : pt2Ok (bx, by_) = true) (w : World) :
    Calls Tryz.prog 126 #[.agg #[.int .i64 ax, .int .i64 ay], .agg #[.int .i64 bx, .int .i64 by_]] w fun e w' => e = .returned (.int .i64 (cmpYX (ax, ay) (bx, by_))) ∧ ∃ q os', w' = Go.Sort.grow (w.drewN q) os' := by
  obtain ⟨a1, a2, a3, a4⟩ := pt_bd ha
  obtain ⟨b1, b2, b3, b4⟩ := pt_bd hb
  clear ha hb
  by_cases h : ay = by_
  · subst h
    obtain ⟨v, hv⟩ : ∃ v, v = cmpYX (ax, ay) (bx, ay) := ⟨_, rfl⟩
    have hv2 : v = sgnI (ax - bx) := by rw [hv]; unfold cmpYX; rw [if_pos rfl]
    rw [← hv]
    have hc := Lib.hid (fun W => sign_any (ax - bx) W v hv2)
    have e1 : IntKind.i64.wrap (ax - bx) = ax - bx := wi (by omega)
    clear hv hv2
    go_enter Tryz.func126, Tryz.ntmps126
    go_wp2_with fail
    refine (hc.out _).mono ?_
    rintro e w1 ⟨rfl, rfl⟩
    go_wp2_with fail
    go_ret
    exact ⟨rfl, 0, _, by rw [Go.Sort.alloc_eq_grow, Go.Sort.alloc_eq_grow, Go.Sort.grow_grow]; rfl⟩
  · obtain ⟨v, hv⟩ : ∃ v, v = cmpYX (ax, ay) (bx, by_) := ⟨_, rfl⟩
    have hv2 : v = sgnI (ay - by_) := by rw [hv]; unfold cmpYX; rw [if_neg h]
    rw [← hv]
    have hc := Lib.hid (fun W => sign_any (ay - by_) W v hv2)
    have e1 : IntKind.i64.wrap (ay - by_) = ay - by_ := wi (by omega)
    have t1 : (ay != by_) = true := by simp [h]
    have t2 : (ay == by_) = false := by simp [h]
    clear hv hv2 h
    go_enter Tryz.func126, Tryz.ntmps126
    go_wp2_with fail
    refine (hc.out _).mono ?_
    rintro e w1 ⟨rfl, rfl⟩
    go_wp2_with fail
    go_ret
    exact ⟨rfl, 0, _, by rw [Go.Sort.alloc_eq_grow, Go.Sort.alloc_eq_grow, Go.Sort.grow_grow]; rfl⟩
end Go.Proofs.YtfkidklpjiiclaaGreat

/- Regions, as outlines are: XOut turned. Conditions: as each states. -/
namespace Go.Proofs.YtfkidklpjiiclaaGreat
open Go.RowKit
set_option linter.unusedVariables false
set_option maxRecDepth 100000

/-- a loop is a slice of knots -/
abbrev ringR : Rel (List (Int × Int)) := SliceR 2 (FlatR ptC)
theorem good_ring : Good ringR := good_slice 2 (good_flat _)
/-- the loops of an outline -/
abbrev RegRd (w : World) (lo hi : Nat) (A : Option Addr) (n : Nat) (Ls : List (List (Int × Int))) : Prop := RdS 1 ringR w lo hi A n Ls
theorem reg_at {w : World} {lo hi : Nat} {A : Option Addr} {n : Nat} {Ls : List (List (Int × Int))} (h : RegRd w lo hi A n Ls) {j : Nat} (hj : j < n) :
    ∃ b off K A' n' c', A = some ⟨b, off, none⟩ ∧ lo ≤ b ∧ b < hi ∧ Ls[j]? = some K ∧ w.cell? ⟨b, off + j, none⟩ = some (.slice A' n' c') ∧ n' ≤ maxLen ∧ RdS 2 (FlatR ptC) w lo hi A' n' K := by
  obtain ⟨hl, h⟩ := h
  obtain ⟨b, off, rfl, h1, h2, h3⟩ := h (by omega)
  have hja : Ls[j]? = some (Ls[j]'(by omega)) := List.getElem?_eq_getElem (by omega)
  obtain ⟨es, e1, e2, A', n', c', rfl, hm, hr⟩ := h3 j _ hja
  have := e2 0 _ rfl
  simp only [Nat.mul_one, Nat.add_zero] at this
  exact ⟨b, off, _, A', n', c', rfl, h1, h2, hja, this, hm, hr⟩

/-- how many loops and knots there are -/
def regSize (Ls : List (List (Int × Int))) : Nat := Ls.length + (Ls.map List.length).sum
theorem szRing_any (A : Option Addr) (n c : Nat) (left : Int) (w : World) (hn : n ≤ 9223372036854775807) (h0 : 0 ≤ left) (h1 : left ≤ 1048576) (r : Int) (hr : r = if (n : Int) ≤ left then left - n else -1) :
    Calls Tryz.prog 98 #[.agg #[.slice A n c], .int .i64 left] w fun e w' => e = .returned (.int .i64 r) ∧ Below w.heap.size w w' := by
  have hsz := Lib.hid (fun W => szPtS_any A n c left W hn h0 h1 r hr)
  by_cases h : (n : Int) ≤ left
  · rw [if_pos h] at hr
    have hr0 : 0 ≤ r := by omega
    replace hr := Lib.hid hr
    go_enter Tryz.func98, Tryz.ntmps98
    go_wp2_with fail
    refine (hsz.out _).mono ?_
    rintro e w' ⟨rfl, rfl⟩
    go_wp2_with fail
    go_ret
    exact ⟨rfl, Go.Joins.below_alloc1 _ _⟩
  · rw [if_neg h] at hr
    subst hr
    go_enter Tryz.func98, Tryz.ntmps98
    go_wp2_with fail
    refine (hsz.out _).mono ?_
    rintro e w' ⟨rfl, rfl⟩
    go_wp2_with fail
    go_ret
    exact ⟨rfl, Go.Joins.below_alloc1 _ _⟩

set_option maxHeartbeats 2000000 in
theorem szRingS_any (A : Option Addr) (n c lo hi : Nat) (Ls : List (List (Int × Int))) (left : Int) (w : World) (hr : RegRd w lo hi A n Ls) (hhi : hi ≤ w.heap.size) (hn : n ≤ 9223372036854775807) (h0 : 0 ≤ left) (h1 : left ≤ 1048576) :
    Calls Tryz.prog 50 #[.slice A n c, .int .i64 left] w fun e w' => ∃ r : Int, e = .returned (.int .i64 r) ∧ LeftR left r (regSize Ls) ∧ Below w.heap.size w w' := by
  have hll := Lib.hid hr.1
  replace hr := Lib.hid hr
  by_cases hnl : (n : Int) ≤ left
  rotate_left
  · go_enter Tryz.func50, Tryz.ntmps50
    go_wp2_with fail
    go_ret
    exact ⟨_, rfl, .inl (by omega), Below.refl _ _⟩
  go_enter Tryz.func50, Tryz.ntmps50
  go_wp2_with fail
  go_loopw [1, 5] (fun lv i wr => ∃ (k : Nat) (l : Int), i = .int .i64 k ∧ lv = .int .i64 l ∧ k ≤ n ∧ 0 ≤ l ∧ l = left - n - ((Ls.map List.length).take k).sum ∧ Below w.heap.size w wr) (fun lv i wr => n - (intOf i).toNat)
  case atStart => exact ⟨0, left - n, rfl, rfl, Nat.zero_le _, by omega, by simp, Below.refl _ _⟩
  case round =>
    obtain ⟨k, l, rfl, rfl, hk, hl0, hl, hbel⟩ := hrel
    have hl1 : l ≤ 1048576 := by omega
    replace hl := Lib.hid hl
    by_cases hlt : k < n
    · obtain ⟨b, off, K, A', n', c', rfl, hb0, hb, hja, q0, hm, hrk⟩ := reg_at (hr.out.frame good_ring (Below.sameB hbel hhi)) hlt
      have hbw : b < wr.heap.size := by have := hbel.size; omega
      have hlen : n' = K.length := hrk.1.symm
      have hst := Lib.hid (sum_take_succ (map_at (f := List.length) hja))
      replace hlen := Lib.hid hlen
      replace hja := Lib.hid hja
      unfold maxLen at hm
      obtain ⟨r, hr'⟩ : ∃ r : Int, r = if (n' : Int) ≤ l then l - n' else -1 := ⟨_, rfl⟩
      go_wp2_with fail
      refine (szRing_any A' n' c' l _ (by omega) hl0 hl1 r hr').mono ?_
      rintro e w1 ⟨rfl, hb1⟩
      have hbel1 := hbel.trans (hb1.mono hbel.size)
      by_cases hnl' : (n' : Int) ≤ l
      · rw [if_pos hnl'] at hr'
        have hr0 : 0 ≤ r := by omega
        replace hr' := Lib.hid hr'
        go_wp2_with fail
        go_roundw
        case rel => exact ⟨k + 1, r, by go_num, rfl, by omega, hr0, by rw [hr'.out, hl.out, hst.out, hlen.out]; omega, hbel1⟩
        case measure => simp [intOf]; omega
      · rw [if_neg hnl'] at hr'
        subst hr'
        go_wp2_with fail
        go_ret
        exact ⟨_, rfl, .inl (by omega), hbel1⟩
    · have hkn : k = n := by omega
      have hfin : l = left - regSize Ls := by
        rw [hl.out, List.take_of_length_le (by rw [List.length_map, hll.out]; omega), regSize, hll.out]; omega
      replace hkn := Lib.hid hkn
      replace hfin := Lib.hid hfin
      go_wp2_with fail
      go_ret
      exact ⟨_, rfl, .inr ⟨hl0, hfin.out⟩, hbel⟩

theorem szRegion_any (A : Option Addr) (n c lo hi : Nat) (Ls : List (List (Int × Int))) (left : Int) (w : World) (hr : RegRd w lo hi A n Ls) (hhi : hi ≤ w.heap.size) (hn : n ≤ 9223372036854775807) (h0 : 0 ≤ left) (h1 : left ≤ 1048576) :
    Calls Tryz.prog 17 #[.agg #[.slice A n c], .int .i64 left] w fun e w' => ∃ r : Int, e = .returned (.int .i64 r) ∧ LeftR left r (regSize Ls) ∧ Below w.heap.size w w' := by
  have hc := Lib.hid (fun o => szRingS_any A n c lo hi Ls left (w.alloc o) (hr.frame good_ring (SameB.alloc (SameB.refl _ _ _) hhi _)) (by simp; omega) hn h0 h1)
  clear hr
  go_enter Tryz.func17, Tryz.ntmps17
  go_wp2_with fail
  refine (hc.out _).mono ?_
  rintro e w1 ⟨r, rfl, hl, hb1⟩
  have hB := (Go.Joins.below_alloc1 _ _).trans (hb1.mono (by simp))
  rcases hl with hl | ⟨hl0, hl⟩
  · go_wp2_with fail
    go_ret
    exact ⟨_, rfl, .inl (by omega), hB⟩
  · replace hl := Lib.hid hl
    go_wp2_with fail
    go_ret
    exact ⟨_, rfl, .inr ⟨hl0, hl.out⟩, hB⟩
end Go.Proofs.YtfkidklpjiiclaaGreat

