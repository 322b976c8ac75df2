/- One side of a hull: the reference's chain, the program's. Printed by mk_pen1.py. Conditions: as each states. -/
import Derived.Lib.QuietBelow
import Derived.BigQuiet
import Derived.Test.YtfkidklpjiiclaaGreatTe13
import Derived.Test.YtfkidklpjiiclaaGreatTe15
import Derived.Test.YtfkidklpjiiclaaGreatTe21
import Derived.Test.YtfkidklpjiiclaaGreatTe09
namespace Go.Proofs.YtfkidklpjiiclaaGreat
open Go.RowKit
set_option linter.unusedVariables false
set_option maxRecDepth 100000

/-- a row of the call's own that holds a chain, its last point first -/
abbrev ChO (w : World) (B : Nat) (A : Option Addr) (c : Nat) (r : List Pn) : Prop := w.ownsRow B 148 2 (.slice A r.length c) r.length (r.reverse.flatMap ptC)
theorem cho_popAny {w : World} {B c : Nat} {A : Option Addr} {b : Pn} {t : List Pn} (h : ChO w B A c (b :: t)) : ChO w B A c t := by
  obtain ⟨g, rfl, _⟩ := own_at h (by simp)
  unfold ChO at *
  rw [List.reverse_cons, List.flatMap_append] at h
  exact ownsRow_pop (by rw [flat_length ptC_len, List.length_reverse]) (by simpa using h)
theorem cho_cells {w : World} {B c : Nat} {A : Option Addr} {b a : Pn} {t : List Pn} (h : ChO w B A c (b :: a :: t)) :
    ∃ g, A = some ⟨g, 0, none⟩ ∧ B ≤ g ∧ g < w.heap.size ∧ t.length + 2 ≤ c ∧ w.cell? ⟨g, t.length * 2, none⟩ = some (.int .i64 a.1) ∧ w.cell? ⟨g, t.length * 2 + 1, none⟩ = some (.int .i64 a.2) ∧
      w.cell? ⟨g, (t.length + 1) * 2, none⟩ = some (.int .i64 b.1) ∧ w.cell? ⟨g, (t.length + 1) * 2 + 1, none⟩ = some (.int .i64 b.2) := by
  obtain ⟨g, rfl, h1, h2, hc, hcell, _⟩ := own_at h (by simp)
  have hlen : (b :: a :: t).length = t.length + 2 := by simp
  rw [hlen] at hcell hc
  have e : (b :: a :: t).reverse = t.reverse ++ [a, b] := by simp
  have hg : ∀ (j : Nat) (p : Pn) (i : Nat), (t.reverse ++ [a, b])[j]? = some p → i < 2 → ((t.reverse ++ [a, b]).flatMap ptC)[j * 2 + i]? = (ptC p)[i]? := fun j p i hj hi => flat_get ptC_len _ j p i hj hi
  rw [e] at hcell
  have ha : (t.reverse ++ [a, b])[t.length]? = some a := (List.getElem?_append_right (by simp)).trans (by simp)
  have hb : (t.reverse ++ [a, b])[t.length + 1]? = some b := (List.getElem?_append_right (by simp)).trans (by simp)
  refine ⟨g, rfl, h1, h2, hc, ?_, ?_, ?_, ?_⟩
  · rw [hcell _ (by omega)]; exact hg _ a 0 ha (by omega)
  · rw [hcell _ (by omega)]; exact hg _ a 1 ha (by omega)
  · rw [hcell _ (by omega)]; exact hg _ b 0 hb (by omega)
  · rw [hcell _ (by omega)]; exact hg _ b 1 hb (by omega)
theorem chain_next {L : List Pn} {k : Nat} (hk : k < L.length) : chainR (L.take (k + 1)) = L.getD k (0, 0) :: popR (L.getD k (0, 0)) (chainR (L.take k)) := by
  unfold chainR
  rw [List.take_succ_eq_append_getElem hk, List.foldl_append, List.getD_eq_getElem?_getD, List.getElem?_eq_getElem hk]; rfl
theorem chain_mem : ∀ (L : List Pn), ∀ x ∈ chainR L, x ∈ L := by
  have : ∀ (L : List Pn) (r : List Pn), ∀ x ∈ L.foldl (fun r p => p :: popR p r) r, x ∈ L ∨ x ∈ r := by
    intro L
    induction L with
    | nil => intro r x h; exact .inr h
    | cons p L ih =>
      intro r x h
      rcases ih _ x h with h | h
      · exact .inl (List.mem_cons_of_mem _ h)
      · rcases List.mem_cons.1 h with h | h
        · exact .inl (by rw [h]; simp)
        · exact .inr (pop_mem p r x h)
  intro L x h
  rcases this L [] x h with h | h
  · exact h
  · cases h
theorem chain_len (L : List Pn) : (chainR L).length ≤ L.length := by
  have : ∀ (L : List Pn) (r : List Pn), (L.foldl (fun r p => p :: popR p r) r).length ≤ L.length + r.length := by
    intro L
    induction L with
    | nil => intro r; simp
    | cons p L ih => intro r; have h1 := ih (p :: popR p r); have h2 := pop_len p r; simp at *; omega
  have := this L []
  unfold chainR; simpa using this
theorem pop_two {p a b : Pn} {t : List Pn} : popR p (b :: a :: t) = if turnP a b p ≤ 0 then popR p (a :: t) else b :: a :: t := by
  conv => lhs; unfold popR
def lenOf (v : Value) : Nat := match v with | .slice _ n _ => n | _ => 0

set_option maxHeartbeats 8000000 in
theorem specChain_any (A : Option Addr) (n c lo hi : Nat) (L : List Pn) (w : World) (hr : RdS 2 (FlatR ptC) w lo hi A n L) (hhi : hi ≤ w.heap.size) (hn : n ≤ 1000) (hok : ∀ p ∈ L, pt2Ok p = true) :
    Calls Tryz.prog 176 #[.slice A n c] w fun e w' => ∃ (A' : Option Addr) (c' : Nat), e = .returned (.slice A' (chainR L).length c') ∧ ChO w' w.heap.size A' c' (chainR L) ∧ Below w.heap.size w w' := by
  have hll := Lib.hid hr.1
  replace hr := Lib.hid hr
  replace hok := Lib.hid hok
  go_enter Tryz.func176, Tryz.ntmps176
  go_wp2_with fail
  go_loopw [3, 4] (fun ov iv wr => ∃ (k : Nat) (A1 : Option Addr) (c1 : Nat), iv = .int .i64 k ∧ k ≤ n ∧ ov = .slice A1 (chainR (L.take k)).length c1 ∧ ChO wr w.heap.size A1 c1 (chainR (L.take k)) ∧ Below w.heap.size w wr) (fun ov iv wr => n - (intOf iv).toNat)
  case atStart => exact ⟨0, _, _, rfl, Nat.zero_le _, rfl, (show ChO _ _ _ _ [] from World.ownsRow_lit w #[] 0 (Nat.le_refl _) (by decide) (by simp)), (Below.refl _ _).alloc (Nat.le_refl _) _⟩
  case round =>
    obtain ⟨k, A1, c1, rfl, hk, rfl, hown, hbel⟩ := hrel
    have hsz := hbel.size
    obtain ⟨r0, hr0⟩ : ∃ r, r = chainR (L.take k) := ⟨_, rfl⟩
    rw [← hr0] at hown ⊢
    have hr0l : r0.length ≤ 1000 := by rw [hr0]; have := chain_len (L.take k); rw [List.length_take] at this; omega
    have hr0m : ∀ x ∈ r0, pt2Ok x = true := fun x hx => hok.out x (List.mem_of_mem_take (chain_mem _ x (by rw [← hr0]; exact hx)))
    replace hown := Lib.hid hown
    replace hr0m := Lib.hid hr0m
    by_cases hlt : k < n
    rotate_left
    · have hkn : k = n := by omega
      have he : r0 = chainR L := by rw [hr0, hkn, List.take_of_length_le (by have := hll.out; omega)]
      subst he
      clear hr0
      go_wp2_with fail
      go_ret
      exact ⟨A1, c1, rfl, hown.out, hbel⟩
    have hkl : k < L.length := by rw [hll.out]; exact hlt
    obtain ⟨b0, off, rfl, hb0, hb1, hcs⟩ := (hr.out.frame (good_flat _) (Below.sameB hbel hhi)).pts (by omega)
    obtain ⟨x0, x1⟩ := hcs k hlt
    have hpk : ptAt L k = L.getD k (0, 0) := rfl
    have hnx := chain_next hkl
    rw [← hpk, ← hr0] at hnx
    obtain ⟨⟨px, py⟩, hpe⟩ : ∃ p, p = ptAt L k := ⟨_, rfl⟩
    rw [← hpe] at x0 x1 hnx
    have hpo : ptOk px py = true := hok.out (px, py) (by rw [hpe]; exact List.mem_of_getElem? (ptAt_some hkl))
    have hki : (0 : Int) ≤ (k : Int) ∧ (k : Int) < (n : Int) := by omega
    have hbw : b0 < wr.heap.size := by omega
    replace hnx := Lib.hid hnx
    replace hpe := Lib.hid hpe
    clear hcs hb0 hb1 hpk hr0
    go_wp2_with fail
    generalize wr = xr at *
    have hBX := Below.refl xr.heap.size xr
    go_loopw [3] (fun ov wr => ∃ (r : List Pn) (A2 : Option Addr) (c2 : Nat), ov = .slice A2 r.length c2 ∧ r.length ≤ 1000 ∧ (∀ x ∈ r, pt2Ok x = true) ∧ popR (px, py) r = popR (px, py) r0 ∧ ChO wr w.heap.size A2 c2 r ∧ Below xr.heap.size xr wr) (fun ov wr => lenOf ov)
    case atStart => exact ⟨r0, _, _, rfl, hr0l, hr0m.out, rfl, hown.out, Below.refl _ _⟩
    case round =>
    clear hown hr0m hr0l
    obtain ⟨r, A2, c2, rfl, hrl, hrm, hpop, hown, hbm⟩ := hrel
    replace hrm := Lib.hid hrm
    replace hpop := Lib.hid hpop
    replace hown := Lib.hid hown
    have hszm := hbm.size
    have hBw := hbel.trans (hbm.mono hsz)
    have x0w := (hbm.cell (p := ⟨b0, off + k * 2, none⟩) hbw).trans x0
    have x1w := (hbm.cell (p := ⟨b0, off + k * 2 + 1, none⟩) hbw).trans x1
    have hbw' : b0 < wr.heap.size := Nat.lt_of_lt_of_le hbw hszm
    have kx0 := fun dr os => cell_regrown x0w dr os
    have kx1 := fun dr os => cell_regrown x1w dr os
    obtain ⟨st, hst⟩ : ∃ st : Bool, st = decide (popR (px, py) r = r) := ⟨_, rfl⟩
    cases st with
    | true =>
      have hpr : popR (px, py) r = r := of_decide_eq_true hst.symm
      have hfinal : (px, py) :: r = chainR (L.take (k + 1)) := by rw [hnx.out, ← hpop.out, hpr]
      replace hfinal := Lib.hid hfinal
      replace hst := Lib.hid hst
      -- the loop ends here
      rcases r with _ | ⟨b, _ | ⟨a, t⟩⟩
      · clear hpr hpop
        have hg0 : decide ((1 : Int) < ((0 : Nat) : Int)) = false := rfl
        go_wp2_with fail
        refine wp_region_quiet_below (by kernel_rfl) (by kernel_rfl) ?_
        repeat (go_big_quiet_step (fail))
        refine wpQuiet_nil ?_
        intro _ hw'
        obtain ⟨⟨dq, osq⟩, hw''⟩ := hw'
        subst hw''
        have hbW := hBw.trans ((below_regrown wr dq osq).mono hBw.size)
        have hzW := hbW.size
        have hownW : ChO (Go.Sort.grow (redrawn wr dq) osq) w.heap.size A2 c2 ([] : List Pn) := own_below hown.out (below_regrown wr dq osq)
        have x0W := cell_regrown x0w dq osq
        have x1W := cell_regrown x1w dq osq
        have hbW2 : b0 < (Go.Sort.grow (redrawn wr dq) osq).heap.size := Nat.lt_of_lt_of_le hbw' (below_regrown wr dq osq).size
        generalize Go.Sort.grow (redrawn wr dq) osq = W at *
        have hownV : W.ownsRow w.heap.size 148 2 (.slice A2 0 c2) 0 (([] : List Pn).reverse.flatMap ptC) := hownW
        replace hownV := Lib.hid hownV
        clear kx0 kx1 x0w x1w hown hownW
        go_wp2_with (at_builtin; refine wpApp rfl (.tmp 40) (.tmp 45) elemPt rfl (base := w.heap.size) (v := .slice A2 0 c2) (n := 0) (xs := ([] : List Pn).reverse.flatMap ptC) rfl (hownV.out.alloc _) rfl (src_at (cs := [.int .i64 px, .int .i64 py]) rfl (by simp [Value.oneCell']) rfl) (by omega) (by omega) (by simp; omega) (0 + 1) rfl ?_; intro A5 c5 w5 hown5 hb5; replace hown5 := Lib.hid hown5)
        have hbel5 := (hbW.alloc hzW _).trans hb5
        clear hb5
        go_roundw
        case rel =>
          refine ⟨k + 1, A5, c5, by go_num, by omega, ?_, ?_, hbel5⟩
          · rw [← hfinal.out]; rfl
          · rw [← hfinal.out]
            have h := hown5.out
            unfold ChO
            rw [List.reverse_cons, List.flatMap_append]
            exact h
        case measure => simp [intOf]; omega
      · clear hpr hpop
        have hg0 : decide ((1 : Int) < ((1 : Nat) : Int)) = false := rfl
        go_wp2_with fail
        refine wp_region_quiet_below (by kernel_rfl) (by kernel_rfl) ?_
        repeat (go_big_quiet_step (fail))
        refine wpQuiet_nil ?_
        intro _ hw'
        obtain ⟨⟨dq, osq⟩, hw''⟩ := hw'
        subst hw''
        have hbW := hBw.trans ((below_regrown wr dq osq).mono hBw.size)
        have hzW := hbW.size
        have hownW : ChO (Go.Sort.grow (redrawn wr dq) osq) w.heap.size A2 c2 [b] := own_below hown.out (below_regrown wr dq osq)
        have x0W := cell_regrown x0w dq osq
        have x1W := cell_regrown x1w dq osq
        have hbW2 : b0 < (Go.Sort.grow (redrawn wr dq) osq).heap.size := Nat.lt_of_lt_of_le hbw' (below_regrown wr dq osq).size
        generalize Go.Sort.grow (redrawn wr dq) osq = W at *
        have hownV : W.ownsRow w.heap.size 148 2 (.slice A2 1 c2) 1 ([b].reverse.flatMap ptC) := hownW
        replace hownV := Lib.hid hownV
        clear kx0 kx1 x0w x1w hown hownW
        go_wp2_with (at_builtin; refine wpApp rfl (.tmp 40) (.tmp 45) elemPt rfl (base := w.heap.size) (v := .slice A2 1 c2) (n := 1) (xs := [b].reverse.flatMap ptC) rfl (hownV.out.alloc _) rfl (src_at (cs := [.int .i64 px, .int .i64 py]) rfl (by simp [Value.oneCell']) rfl) (by omega) (by omega) (by simp; omega) (1 + 1) rfl ?_; intro A5 c5 w5 hown5 hb5; replace hown5 := Lib.hid hown5)
        have hbel5 := (hbW.alloc hzW _).trans hb5
        clear hb5
        go_roundw
        case rel =>
          refine ⟨k + 1, A5, c5, by go_num, by omega, ?_, ?_, hbel5⟩
          · rw [← hfinal.out]; rfl
          · rw [← hfinal.out]
            have h := hown5.out
            unfold ChO
            rw [List.reverse_cons, List.flatMap_append]
            exact h
        case measure => simp [intOf]; omega
      · have hnp : ¬ turnP a b (px, py) ≤ 0 := by
          intro h
          have h1 := hpr
          rw [pop_two, if_pos h] at h1
          have h2 := pop_len (px, py) (a :: t)
          rw [h1] at h2
          simp at h2
          omega
        replace hnp := Lib.hid hnp
        clear hpr hpop
        have hlen : (b :: a :: t).length = t.length + 2 := by simp
        obtain ⟨m, hm⟩ : ∃ m, m = t.length := ⟨_, rfl⟩
        rw [hlen, ← hm] at hrl
        have hown2 := hown.out
        obtain ⟨g, hA, hgB, hgw, hcap, z0, z1, z2, z3⟩ := cho_cells hown2
        subst hA
        rw [hlen, ← hm]
        rw [← hm] at hcap z0 z1 z2 z3
        obtain ⟨ax, ay⟩ := a
        obtain ⟨bx, by_⟩ := b
        have hao : ptOk ax ay = true := hrm.out (ax, ay) (by simp)
        have hbo : ptOk bx by_ = true := hrm.out (bx, by_) (by simp)
        obtain ⟨tv, htv⟩ : ∃ v, v = turnI ax ay bx by_ px py := ⟨_, rfl⟩
        have hct := Lib.hid (fun dr os => calls_below (fun W => (show Calls Tryz.prog 197 #[.agg #[.int .i64 ax, .int .i64 ay], .agg #[.int .i64 bx, .int .i64 by_], .agg #[.int .i64 px, .int .i64 py]] W fun e w' => e = .returned (.int .i64 tv) ∧ Below W.heap.size W w' by rw [htv]; exact l03Turn_any ax ay bx by_ px py W hao hbo hpo)) wr dr os)
        have kz0 := fun dr os => cell_regrown z0 dr os
        have kz1 := fun dr os => cell_regrown z1 dr os
        have kz2 := fun dr os => cell_regrown z2 dr os
        have kz3 := fun dr os => cell_regrown z3 dr os
        have hg0 : decide ((1 : Int) < ((m : Int) + 2)) = true := decide_eq_true (by omega)
        have hg1 : decide ((1 : Int) < ((m + 2 : Nat) : Int)) = true := decide_eq_true (by omega)
        have hg2 : decide (1 < m + 2) = true := decide_eq_true (by omega)
        have q1 : IntKind.i64.wrap ((m : Int) + 2 - 2) = (m : Int) := by rw [wi (by omega)]; omega
        have q2 : IntKind.i64.wrap ((m : Int) + 2 - 1) = (m : Int) + 1 := by rw [wi (by omega)]; omega
        have i1 : (0 : Int) ≤ (m : Int) ∧ (m : Int) < (m : Int) + 2 := by omega
        have i2 : (0 : Int) ≤ (m : Int) + 1 ∧ (m : Int) + 1 < (m : Int) + 2 := by omega
        have i3 : (m : Int) + 1 ≤ (c2 : Int) := by omega
        have htp : turnP (ax, ay) (bx, by_) (px, py) = tv := htv.symm
        replace hm := Lib.hid hm
        replace htv := Lib.hid htv
        replace htp := Lib.hid htp
        clear hao hbo hown2
        have hd : decide (tv ≤ 0) = false := decide_eq_false (by have := hnp.out; rw [htp.out] at this; exact this)
        go_wp2_with fail
        refine wp_region_quiet_below (by kernel_rfl) (by kernel_rfl) ?_
        repeat (go_big_quiet_step (with_reducible exact hct.out _ _))
        refine wpQuiet_nil ?_
        intro _ hw'
        obtain ⟨⟨dq, osq⟩, hw''⟩ := hw'
        subst hw''
        clear hct kz0 kz1 kz2 kz3 z0 z1 z2 z3 hd
        have hbW := hBw.trans ((below_regrown wr dq osq).mono hBw.size)
        have hzW := hbW.size
        have hownW : ChO (Go.Sort.grow (redrawn wr dq) osq) w.heap.size (some ⟨g, 0, none⟩) c2 ((bx, by_) :: (ax, ay) :: t) := own_below hown.out (below_regrown wr dq osq)
        have x0W := cell_regrown x0w dq osq
        have x1W := cell_regrown x1w dq osq
        have hbW2 : b0 < (Go.Sort.grow (redrawn wr dq) osq).heap.size := Nat.lt_of_lt_of_le hbw' (below_regrown wr dq osq).size
        generalize Go.Sort.grow (redrawn wr dq) osq = W at *
        have hownV : W.ownsRow w.heap.size 148 2 (.slice (some ⟨g, 0, none⟩) (m + 2) c2) (m + 2) (((bx, by_) :: (ax, ay) :: t).reverse.flatMap ptC) := by have h := hownW; unfold ChO at h; rw [show ((bx, by_) :: (ax, ay) :: t).length = m + 2 by rw [hm.out]; simp] at h; exact h
        replace hownV := Lib.hid hownV
        clear kx0 kx1 x0w x1w hown hownW
        go_wp2_with (at_builtin; refine wpApp rfl (.tmp 40) (.tmp 45) elemPt rfl (base := w.heap.size) (v := .slice (some ⟨g, 0, none⟩) (m + 2) c2) (n := (m + 2)) (xs := ((bx, by_) :: (ax, ay) :: t).reverse.flatMap ptC) rfl (hownV.out.alloc _) rfl (src_at (cs := [.int .i64 px, .int .i64 py]) rfl (by simp [Value.oneCell']) rfl) (by omega) (by omega) (by simp; omega) ((m + 2) + 1) rfl ?_; intro A5 c5 w5 hown5 hb5; replace hown5 := Lib.hid hown5)
        have hbel5 := (hbW.alloc hzW _).trans hb5
        clear hb5
        go_roundw
        case rel =>
          refine ⟨k + 1, A5, c5, by go_num, by omega, ?_, ?_, hbel5⟩
          · rw [← hfinal.out]; show Value.slice A5 (m + 2 + 1) c5 = .slice A5 (((bx, by_) :: (ax, ay) :: t).length + 1) c5; rw [show ((bx, by_) :: (ax, ay) :: t).length = m + 2 by rw [hm.out]; simp]
          · rw [← hfinal.out]
            have h := hown5.out
            unfold ChO
            rw [show ((px, py) :: (bx, by_) :: (ax, ay) :: t).length = m + 2 + 1 by rw [hm.out]; simp, List.reverse_cons, List.flatMap_append]
            exact h
        case measure => simp [intOf]; omega
    | false =>
      have hpr : ¬ popR (px, py) r = r := of_decide_eq_false hst.symm
      replace hst := Lib.hid hst
      rcases r with _ | ⟨b, _ | ⟨a, t⟩⟩
      · exact absurd rfl hpr
      · exact absurd rfl hpr
      · have hyp : turnP a b (px, py) ≤ 0 := by
          refine Decidable.byContradiction fun h => hpr ?_
          rw [pop_two, if_neg h]
        have hpop2 : popR (px, py) (a :: t) = popR (px, py) r0 := by rw [← hpop.out, pop_two, if_pos hyp]
        have hrm2 : ∀ x ∈ a :: t, pt2Ok x = true := fun x hx => hrm.out x (List.mem_cons_of_mem _ hx)
        have hown3 := Lib.hid (cho_popAny hown.out)
        replace hpop2 := Lib.hid hpop2
        replace hrm2 := Lib.hid hrm2
        replace hyp := Lib.hid hyp
        clear hpr hpop
        have hlen : (b :: a :: t).length = t.length + 2 := by simp
        obtain ⟨m, hm⟩ : ∃ m, m = t.length := ⟨_, rfl⟩
        rw [hlen, ← hm] at hrl
        have hown2 := hown.out
        obtain ⟨g, hA, hgB, hgw, hcap, z0, z1, z2, z3⟩ := cho_cells hown2
        subst hA
        rw [hlen, ← hm]
        rw [← hm] at hcap z0 z1 z2 z3
        obtain ⟨ax, ay⟩ := a
        obtain ⟨bx, by_⟩ := b
        have hao : ptOk ax ay = true := hrm.out (ax, ay) (by simp)
        have hbo : ptOk bx by_ = true := hrm.out (bx, by_) (by simp)
        obtain ⟨tv, htv⟩ : ∃ v, v = turnI ax ay bx by_ px py := ⟨_, rfl⟩
        have hct := Lib.hid (fun dr os => calls_below (fun W => (show Calls Tryz.prog 197 #[.agg #[.int .i64 ax, .int .i64 ay], .agg #[.int .i64 bx, .int .i64 by_], .agg #[.int .i64 px, .int .i64 py]] W fun e w' => e = .returned (.int .i64 tv) ∧ Below W.heap.size W w' by rw [htv]; exact l03Turn_any ax ay bx by_ px py W hao hbo hpo)) wr dr os)
        have kz0 := fun dr os => cell_regrown z0 dr os
        have kz1 := fun dr os => cell_regrown z1 dr os
        have kz2 := fun dr os => cell_regrown z2 dr os
        have kz3 := fun dr os => cell_regrown z3 dr os
        have hg0 : decide ((1 : Int) < ((m : Int) + 2)) = true := decide_eq_true (by omega)
        have hg1 : decide ((1 : Int) < ((m + 2 : Nat) : Int)) = true := decide_eq_true (by omega)
        have hg2 : decide (1 < m + 2) = true := decide_eq_true (by omega)
        have q1 : IntKind.i64.wrap ((m : Int) + 2 - 2) = (m : Int) := by rw [wi (by omega)]; omega
        have q2 : IntKind.i64.wrap ((m : Int) + 2 - 1) = (m : Int) + 1 := by rw [wi (by omega)]; omega
        have i1 : (0 : Int) ≤ (m : Int) ∧ (m : Int) < (m : Int) + 2 := by omega
        have i2 : (0 : Int) ≤ (m : Int) + 1 ∧ (m : Int) + 1 < (m : Int) + 2 := by omega
        have i3 : (m : Int) + 1 ≤ (c2 : Int) := by omega
        have htp : turnP (ax, ay) (bx, by_) (px, py) = tv := htv.symm
        replace hm := Lib.hid hm
        replace htv := Lib.hid htv
        replace htp := Lib.hid htp
        clear hao hbo hown2
        have hd : decide (tv ≤ 0) = true := decide_eq_true (by have := hyp.out; rw [htp.out] at this; exact this)
        go_wp2_with fail
        refine wp_region_quiet_below (by kernel_rfl) (by kernel_rfl) ?_
        repeat (go_big_quiet_step (with_reducible exact hct.out _ _))
        refine wpQuiet_nil ?_
        intro _ hw'
        obtain ⟨⟨dq, osq⟩, hw''⟩ := hw'
        subst hw''
        clear hct kz0 kz1 kz2 kz3 z0 z1 z2 z3 hd
        have hbn := hbm.trans ((below_regrown wr dq osq).mono hszm)
        have hownW : ChO (Go.Sort.grow (redrawn wr dq) osq) w.heap.size (some ⟨g, 0, none⟩) c2 ((ax, ay) :: t) := own_below hown3.out (below_regrown wr dq osq)
        generalize Go.Sort.grow (redrawn wr dq) osq = W at *
        replace hownW := Lib.hid hownW
        clear kx0 kx1 x0w x1w hown
        go_wp2_with fail
        go_roundw
        case rel => exact ⟨(ax, ay) :: t, _, c2, by rw [List.length_cons, ← hm.out], by rw [List.length_cons, ← hm.out]; omega, hrm2.out, hpop2.out, hownW.out, hbn⟩
        case measure => simp [lenOf]

set_option maxHeartbeats 8000000 in
theorem implChain_any (A : Option Addr) (n c lo hi : Nat) (L : List Pn) (w : World) (hr : RdS 2 (FlatR ptC) w lo hi A n L) (hhi : hi ≤ w.heap.size) (hn : n ≤ 1000) (hok : ∀ p ∈ L, pt2Ok p = true) (hn1 : 1 ≤ n) :
    Calls Tryz.prog 128 #[.slice A n c] w fun e w' => ∃ (A' : Option Addr) (c' : Nat), e = .returned (.slice A' ((chainR L).length - 1) c') ∧ ChO w' w.heap.size A' c' (chainR L).tail ∧ Below w.heap.size w w' := by
  have hll := Lib.hid hr.1
  replace hr := Lib.hid hr
  replace hok := Lib.hid hok
  go_enter Tryz.func128, Tryz.ntmps128
  go_wp2_with fail
  go_loopw [3, 8] (fun ov iv wr => ∃ (k : Nat) (A1 : Option Addr) (c1 : Nat), iv = .int .i64 k ∧ k ≤ n ∧ ov = .slice A1 (chainR (L.take k)).length c1 ∧ ChO wr w.heap.size A1 c1 (chainR (L.take k)) ∧ Below w.heap.size w wr) (fun ov iv wr => n - (intOf iv).toNat)
  case atStart => exact ⟨0, none, 0, rfl, Nat.zero_le _, rfl, (show ChO _ _ _ _ [] from World.ownsRow_nil _ _ _ _), Below.refl _ _⟩
  case round =>
    obtain ⟨k, A1, c1, rfl, hk, rfl, hown, hbel⟩ := hrel
    have hsz := hbel.size
    obtain ⟨r0, hr0⟩ : ∃ r, r = chainR (L.take k) := ⟨_, rfl⟩
    rw [← hr0] at hown ⊢
    have hr0l : r0.length ≤ 1000 := by rw [hr0]; have := chain_len (L.take k); rw [List.length_take] at this; omega
    have hr0m : ∀ x ∈ r0, pt2Ok x = true := fun x hx => hok.out x (List.mem_of_mem_take (chain_mem _ x (by rw [← hr0]; exact hx)))
    replace hown := Lib.hid hown
    replace hr0m := Lib.hid hr0m
    by_cases hlt : k < n
    rotate_left
    · have hkn : k = n := by omega
      have he : r0 = chainR L := by rw [hr0, hkn, List.take_of_length_le (by have := hll.out; omega)]
      have hne : r0 ≠ [] := by
        rw [he]
        intro e
        cases hL : L with
        | nil => have := hll.out; rw [hL] at this; simp at this; omega
        | cons a l =>
          have hc := chain_next (L := L) (k := L.length - 1) (by have := hll.out; omega)
          rw [show L.length - 1 + 1 = L.length by have := hll.out; omega, List.take_length, e] at hc
          cases hc
      obtain ⟨b, t, hbt⟩ : ∃ b t, r0 = b :: t := by cases r0 with | nil => exact absurd rfl hne | cons b t => exact ⟨b, t, rfl⟩
      have ho2 := hown.out
      rw [hbt] at ho2
      obtain ⟨g, hA, _, _, hcap, _⟩ := own_at ho2 (by simp)
      subst hA
      have hp := Lib.hid (cho_popAny ho2)
      obtain ⟨m, hm⟩ : ∃ m, m = r0.length := ⟨_, rfl⟩
      have hm1 : m = t.length + 1 := by rw [hm, hbt]; simp
      rw [← hm]
      have q1 : IntKind.i64.wrap ((m : Int) - 1) = ((m - 1 : Nat) : Int) := by rw [wi (by omega)]; omega
      have q2 : (0 : Int) ≤ ((m - 1 : Nat) : Int) ∧ ((m - 1 : Nat) : Int) ≤ (c1 : Int) := by rw [List.length_cons] at hcap; omega
      obtain ⟨m1, hm2⟩ : ∃ x, x = m - 1 := ⟨_, rfl⟩
      rw [← hm2] at q1 q2
      have hfin : m1 = (chainR L).length - 1 ∧ t = (chainR L).tail ∧ m1 = t.length := by rw [← he, hbt]; exact ⟨by rw [List.length_cons]; omega, rfl, by omega⟩
      replace hfin := Lib.hid hfin
      replace hm := Lib.hid hm
      replace hm1 := Lib.hid hm1
      replace hm2 := Lib.hid hm2
      replace he := Lib.hid he
      clear hr0 hne hbt ho2 hcap
      go_wp2_with fail
      go_ret
      exact ⟨some ⟨g, 0, none⟩, c1, by rw [← hfin.out.1]; rfl, by rw [← hfin.out.2.1]; exact hp.out, hbel⟩
    have hkl : k < L.length := by rw [hll.out]; exact hlt
    obtain ⟨b0, off, rfl, hb0, hb1, hcs⟩ := (hr.out.frame (good_flat _) (Below.sameB hbel hhi)).pts (by omega)
    obtain ⟨x0, x1⟩ := hcs k hlt
    have hpk : ptAt L k = L.getD k (0, 0) := rfl
    have hnx := chain_next hkl
    rw [← hpk, ← hr0] at hnx
    obtain ⟨⟨px, py⟩, hpe⟩ : ∃ p, p = ptAt L k := ⟨_, rfl⟩
    rw [← hpe] at x0 x1 hnx
    have hpo : ptOk px py = true := hok.out (px, py) (by rw [hpe]; exact List.mem_of_getElem? (ptAt_some hkl))
    have hki : (0 : Int) ≤ (k : Int) ∧ (k : Int) < (n : Int) := by omega
    have hbw : b0 < wr.heap.size := by omega
    replace hnx := Lib.hid hnx
    replace hpe := Lib.hid hpe
    clear hcs hb0 hb1 hpk hr0
    have hB0 := Go.Joins.below_alloc1 wr (.cells #[.int .i64 px, .int .i64 py] 148 (0, 0))
    have hXb := heap_alloc_new wr (.cells #[.int .i64 px, .int .i64 py] 148 (0, 0))
    have t0 : (wr.alloc (.cells #[.int .i64 px, .int .i64 py] 148 (0, 0))).cell? ⟨wr.heap.size, 0, none⟩ = some (.int .i64 px) := by rw [Go.Joins.cell_of_block hXb]; rfl
    have t1 : (wr.alloc (.cells #[.int .i64 px, .int .i64 py] 148 (0, 0))).cell? ⟨wr.heap.size, 1, none⟩ = some (.int .i64 py) := by rw [Go.Joins.cell_of_block hXb]; rfl
    have hown0 := Lib.hid (hown.out.alloc (.cells #[.int .i64 px, .int .i64 py] 148 (0, 0)))
    have hbelA := hbel.alloc hsz (.cells #[.int .i64 px, .int .i64 py] 148 (0, 0))
    have hpX : wr.heap.size < (wr.alloc (.cells #[.int .i64 px, .int .i64 py] 148 (0, 0))).heap.size := by simp
    obtain ⟨pb, hpb⟩ : ∃ x, x = wr.heap.size := ⟨_, rfl⟩
    go_wp2_with fail
    rw [← hpb] at t0 t1 hpX ⊢
    have hbpb : w.heap.size ≤ pb := by omega
    clear hXb x0 x1 hown
    generalize wr.alloc (.cells #[.int .i64 px, .int .i64 py] 148 (0, 0)) = xr at *
    clear hpb hbel hsz hB0
    have hbel := hbelA
    have hsz := hbel.size
    have hown := hown0
    clear hown0 hbelA
    go_loopw [3] (fun ov wr => ∃ (r : List Pn) (A2 : Option Addr) (c2 : Nat), ov = .slice A2 r.length c2 ∧ r.length ≤ 1000 ∧ (∀ x ∈ r, pt2Ok x = true) ∧ popR (px, py) r = popR (px, py) r0 ∧ ChO wr w.heap.size A2 c2 r ∧ Below xr.heap.size xr wr) (fun ov wr => lenOf ov)
    case atStart => exact ⟨r0, _, _, rfl, hr0l, hr0m.out, rfl, hown.out, Below.refl _ _⟩
    case round =>
    clear hown hr0m hr0l
    obtain ⟨r, A2, c2, rfl, hrl, hrm, hpop, hown, hbm⟩ := hrel
    replace hrm := Lib.hid hrm
    replace hpop := Lib.hid hpop
    replace hown := Lib.hid hown
    have hszm := hbm.size
    have hBw := hbel.trans (hbm.mono hsz)
    have x0w := (hbm.cell (p := ⟨pb, 0, none⟩) hpX).trans t0
    have x1w := (hbm.cell (p := ⟨pb, 1, none⟩) hpX).trans t1
    skip
    have kx0 := fun dr os => cell_regrown x0w dr os
    have kx1 := fun dr os => cell_regrown x1w dr os
    obtain ⟨st, hst⟩ : ∃ st : Bool, st = decide (popR (px, py) r = r) := ⟨_, rfl⟩
    cases st with
    | true =>
      have hpr : popR (px, py) r = r := of_decide_eq_true hst.symm
      have hfinal : (px, py) :: r = chainR (L.take (k + 1)) := by rw [hnx.out, ← hpop.out, hpr]
      replace hfinal := Lib.hid hfinal
      replace hst := Lib.hid hst
      -- the loop ends here
      rcases r with _ | ⟨b, _ | ⟨a, t⟩⟩
      · clear hpr hpop
        have hg0 : decide ((1 : Int) < ((0 : Nat) : Int)) = false := rfl
        go_wp2_with fail
        refine wp_region_quiet_below (by kernel_rfl) (by kernel_rfl) ?_
        repeat (go_big_quiet_step (fail))
        refine wpQuiet_nil ?_
        intro _ hw'
        obtain ⟨⟨dq, osq⟩, hw''⟩ := hw'
        subst hw''
        have hbW := hBw.trans ((below_regrown wr dq osq).mono hBw.size)
        have hzW := hbW.size
        have hownW : ChO (Go.Sort.grow (redrawn wr dq) osq) w.heap.size A2 c2 ([] : List Pn) := own_below hown.out (below_regrown wr dq osq)
        have x0W := cell_regrown x0w dq osq
        have x1W := cell_regrown x1w dq osq
        skip
        generalize Go.Sort.grow (redrawn wr dq) osq = W at *
        have hownV : W.ownsRow w.heap.size 148 2 (.slice A2 0 c2) 0 (([] : List Pn).reverse.flatMap ptC) := hownW
        replace hownV := Lib.hid hownV
        clear kx0 kx1 x0w x1w hown hownW
        go_wp2_with (at_builtin; refine wpApp rfl (.tmp 37) (.tmp 39) elemPt rfl (base := w.heap.size) (v := .slice A2 0 c2) (n := 0) (xs := ([] : List Pn).reverse.flatMap ptC) rfl (hownV.out.alloc _) rfl (src_at (cs := [.int .i64 px, .int .i64 py]) rfl (by simp [Value.oneCell']) rfl) (by omega) (by omega) (by simp; omega) (0 + 1) rfl ?_; intro A5 c5 w5 hown5 hb5; replace hown5 := Lib.hid hown5)
        have hbel5 := (hbW.alloc hzW _).trans hb5
        clear hb5
        go_roundw
        case rel =>
          refine ⟨k + 1, A5, c5, by go_num, by omega, ?_, ?_, hbel5⟩
          · rw [← hfinal.out]; rfl
          · rw [← hfinal.out]
            have h := hown5.out
            unfold ChO
            rw [List.reverse_cons, List.flatMap_append]
            exact h
        case measure => simp [intOf]; omega
      · clear hpr hpop
        have hg0 : decide ((1 : Int) < ((1 : Nat) : Int)) = false := rfl
        go_wp2_with fail
        refine wp_region_quiet_below (by kernel_rfl) (by kernel_rfl) ?_
        repeat (go_big_quiet_step (fail))
        refine wpQuiet_nil ?_
        intro _ hw'
        obtain ⟨⟨dq, osq⟩, hw''⟩ := hw'
        subst hw''
        have hbW := hBw.trans ((below_regrown wr dq osq).mono hBw.size)
        have hzW := hbW.size
        have hownW : ChO (Go.Sort.grow (redrawn wr dq) osq) w.heap.size A2 c2 [b] := own_below hown.out (below_regrown wr dq osq)
        have x0W := cell_regrown x0w dq osq
        have x1W := cell_regrown x1w dq osq
        skip
        generalize Go.Sort.grow (redrawn wr dq) osq = W at *
        have hownV : W.ownsRow w.heap.size 148 2 (.slice A2 1 c2) 1 ([b].reverse.flatMap ptC) := hownW
        replace hownV := Lib.hid hownV
        clear kx0 kx1 x0w x1w hown hownW
        go_wp2_with (at_builtin; refine wpApp rfl (.tmp 37) (.tmp 39) elemPt rfl (base := w.heap.size) (v := .slice A2 1 c2) (n := 1) (xs := [b].reverse.flatMap ptC) rfl (hownV.out.alloc _) rfl (src_at (cs := [.int .i64 px, .int .i64 py]) rfl (by simp [Value.oneCell']) rfl) (by omega) (by omega) (by simp; omega) (1 + 1) rfl ?_; intro A5 c5 w5 hown5 hb5; replace hown5 := Lib.hid hown5)
        have hbel5 := (hbW.alloc hzW _).trans hb5
        clear hb5
        go_roundw
        case rel =>
          refine ⟨k + 1, A5, c5, by go_num, by omega, ?_, ?_, hbel5⟩
          · rw [← hfinal.out]; rfl
          · rw [← hfinal.out]
            have h := hown5.out
            unfold ChO
            rw [List.reverse_cons, List.flatMap_append]
            exact h
        case measure => simp [intOf]; omega
      · have hnp : ¬ turnP a b (px, py) ≤ 0 := by
          intro h
          have h1 := hpr
          rw [pop_two, if_pos h] at h1
          have h2 := pop_len (px, py) (a :: t)
          rw [h1] at h2
          simp at h2
          omega
        replace hnp := Lib.hid hnp
        clear hpr hpop
        have hlen : (b :: a :: t).length = t.length + 2 := by simp
        obtain ⟨m, hm⟩ : ∃ m, m = t.length := ⟨_, rfl⟩
        rw [hlen, ← hm] at hrl
        have hown2 := hown.out
        obtain ⟨g, hA, hgB, hgw, hcap, z0, z1, z2, z3⟩ := cho_cells hown2
        subst hA
        rw [hlen, ← hm]
        rw [← hm] at hcap z0 z1 z2 z3
        obtain ⟨ax, ay⟩ := a
        obtain ⟨bx, by_⟩ := b
        have hao : ptOk ax ay = true := hrm.out (ax, ay) (by simp)
        have hbo : ptOk bx by_ = true := hrm.out (bx, by_) (by simp)
        obtain ⟨tv, htv⟩ : ∃ v, v = turnI ax ay bx by_ px py := ⟨_, rfl⟩
        have hct := Lib.hid (fun dr os => calls_below (fun W => (show Calls Tryz.prog 129 #[.agg #[.int .i64 ax, .int .i64 ay], .agg #[.int .i64 bx, .int .i64 by_], .agg #[.int .i64 px, .int .i64 py]] W fun e w' => e = .returned (.int .i64 tv) ∧ Below W.heap.size W w' by rw [htv]; exact turn_any ax ay bx by_ px py W hao hbo hpo)) wr dr os)
        have kz0 := fun dr os => cell_regrown z0 dr os
        have kz1 := fun dr os => cell_regrown z1 dr os
        have kz2 := fun dr os => cell_regrown z2 dr os
        have kz3 := fun dr os => cell_regrown z3 dr os
        have hg0 : decide ((1 : Int) < ((m : Int) + 2)) = true := decide_eq_true (by omega)
        have hg1 : decide ((1 : Int) < ((m + 2 : Nat) : Int)) = true := decide_eq_true (by omega)
        have hg2 : decide (1 < m + 2) = true := decide_eq_true (by omega)
        have q1 : IntKind.i64.wrap ((m : Int) + 2 - 2) = (m : Int) := by rw [wi (by omega)]; omega
        have q2 : IntKind.i64.wrap ((m : Int) + 2 - 1) = (m : Int) + 1 := by rw [wi (by omega)]; omega
        have i1 : (0 : Int) ≤ (m : Int) ∧ (m : Int) < (m : Int) + 2 := by omega
        have i2 : (0 : Int) ≤ (m : Int) + 1 ∧ (m : Int) + 1 < (m : Int) + 2 := by omega
        have i3 : (m : Int) + 1 ≤ (c2 : Int) := by omega
        have htp : turnP (ax, ay) (bx, by_) (px, py) = tv := htv.symm
        replace hm := Lib.hid hm
        replace htv := Lib.hid htv
        replace htp := Lib.hid htp
        clear hao hbo hown2
        have hd : decide (tv ≤ 0) = false := decide_eq_false (by have := hnp.out; rw [htp.out] at this; exact this)
        go_wp2_with fail
        refine wp_region_quiet_below (by kernel_rfl) (by kernel_rfl) ?_
        repeat (go_big_quiet_step (with_reducible exact hct.out _ _))
        refine wpQuiet_nil ?_
        intro _ hw'
        obtain ⟨⟨dq, osq⟩, hw''⟩ := hw'
        subst hw''
        clear hct kz0 kz1 kz2 kz3 z0 z1 z2 z3 hd
        have hbW := hBw.trans ((below_regrown wr dq osq).mono hBw.size)
        have hzW := hbW.size
        have hownW : ChO (Go.Sort.grow (redrawn wr dq) osq) w.heap.size (some ⟨g, 0, none⟩) c2 ((bx, by_) :: (ax, ay) :: t) := own_below hown.out (below_regrown wr dq osq)
        have x0W := cell_regrown x0w dq osq
        have x1W := cell_regrown x1w dq osq
        skip
        generalize Go.Sort.grow (redrawn wr dq) osq = W at *
        have hownV : W.ownsRow w.heap.size 148 2 (.slice (some ⟨g, 0, none⟩) (m + 2) c2) (m + 2) (((bx, by_) :: (ax, ay) :: t).reverse.flatMap ptC) := by have h := hownW; unfold ChO at h; rw [show ((bx, by_) :: (ax, ay) :: t).length = m + 2 by rw [hm.out]; simp] at h; exact h
        replace hownV := Lib.hid hownV
        clear kx0 kx1 x0w x1w hown hownW
        go_wp2_with (at_builtin; refine wpApp rfl (.tmp 37) (.tmp 39) elemPt rfl (base := w.heap.size) (v := .slice (some ⟨g, 0, none⟩) (m + 2) c2) (n := (m + 2)) (xs := ((bx, by_) :: (ax, ay) :: t).reverse.flatMap ptC) rfl (hownV.out.alloc _) rfl (src_at (cs := [.int .i64 px, .int .i64 py]) rfl (by simp [Value.oneCell']) rfl) (by omega) (by omega) (by simp; omega) ((m + 2) + 1) rfl ?_; intro A5 c5 w5 hown5 hb5; replace hown5 := Lib.hid hown5)
        have hbel5 := (hbW.alloc hzW _).trans hb5
        clear hb5
        go_roundw
        case rel =>
          refine ⟨k + 1, A5, c5, by go_num, by omega, ?_, ?_, hbel5⟩
          · rw [← hfinal.out]; show Value.slice A5 (m + 2 + 1) c5 = .slice A5 (((bx, by_) :: (ax, ay) :: t).length + 1) c5; rw [show ((bx, by_) :: (ax, ay) :: t).length = m + 2 by rw [hm.out]; simp]
          · rw [← hfinal.out]
            have h := hown5.out
            unfold ChO
            rw [show ((px, py) :: (bx, by_) :: (ax, ay) :: t).length = m + 2 + 1 by rw [hm.out]; simp, List.reverse_cons, List.flatMap_append]
            exact h
        case measure => simp [intOf]; omega
    | false =>
      have hpr : ¬ popR (px, py) r = r := of_decide_eq_false hst.symm
      replace hst := Lib.hid hst
      rcases r with _ | ⟨b, _ | ⟨a, t⟩⟩
      · exact absurd rfl hpr
      · exact absurd rfl hpr
      · have hyp : turnP a b (px, py) ≤ 0 := by
          refine Decidable.byContradiction fun h => hpr ?_
          rw [pop_two, if_neg h]
        have hpop2 : popR (px, py) (a :: t) = popR (px, py) r0 := by rw [← hpop.out, pop_two, if_pos hyp]
        have hrm2 : ∀ x ∈ a :: t, pt2Ok x = true := fun x hx => hrm.out x (List.mem_cons_of_mem _ hx)
        have hown3 := Lib.hid (cho_popAny hown.out)
        replace hpop2 := Lib.hid hpop2
        replace hrm2 := Lib.hid hrm2
        replace hyp := Lib.hid hyp
        clear hpr hpop
        have hlen : (b :: a :: t).length = t.length + 2 := by simp
        obtain ⟨m, hm⟩ : ∃ m, m = t.length := ⟨_, rfl⟩
        rw [hlen, ← hm] at hrl
        have hown2 := hown.out
        obtain ⟨g, hA, hgB, hgw, hcap, z0, z1, z2, z3⟩ := cho_cells hown2
        subst hA
        rw [hlen, ← hm]
        rw [← hm] at hcap z0 z1 z2 z3
        obtain ⟨ax, ay⟩ := a
        obtain ⟨bx, by_⟩ := b
        have hao : ptOk ax ay = true := hrm.out (ax, ay) (by simp)
        have hbo : ptOk bx by_ = true := hrm.out (bx, by_) (by simp)
        obtain ⟨tv, htv⟩ : ∃ v, v = turnI ax ay bx by_ px py := ⟨_, rfl⟩
        have hct := Lib.hid (fun dr os => calls_below (fun W => (show Calls Tryz.prog 129 #[.agg #[.int .i64 ax, .int .i64 ay], .agg #[.int .i64 bx, .int .i64 by_], .agg #[.int .i64 px, .int .i64 py]] W fun e w' => e = .returned (.int .i64 tv) ∧ Below W.heap.size W w' by rw [htv]; exact turn_any ax ay bx by_ px py W hao hbo hpo)) wr dr os)
        have kz0 := fun dr os => cell_regrown z0 dr os
        have kz1 := fun dr os => cell_regrown z1 dr os
        have kz2 := fun dr os => cell_regrown z2 dr os
        have kz3 := fun dr os => cell_regrown z3 dr os
        have hg0 : decide ((1 : Int) < ((m : Int) + 2)) = true := decide_eq_true (by omega)
        have hg1 : decide ((1 : Int) < ((m + 2 : Nat) : Int)) = true := decide_eq_true (by omega)
        have hg2 : decide (1 < m + 2) = true := decide_eq_true (by omega)
        have q1 : IntKind.i64.wrap ((m : Int) + 2 - 2) = (m : Int) := by rw [wi (by omega)]; omega
        have q2 : IntKind.i64.wrap ((m : Int) + 2 - 1) = (m : Int) + 1 := by rw [wi (by omega)]; omega
        have i1 : (0 : Int) ≤ (m : Int) ∧ (m : Int) < (m : Int) + 2 := by omega
        have i2 : (0 : Int) ≤ (m : Int) + 1 ∧ (m : Int) + 1 < (m : Int) + 2 := by omega
        have i3 : (m : Int) + 1 ≤ (c2 : Int) := by omega
        have htp : turnP (ax, ay) (bx, by_) (px, py) = tv := htv.symm
        replace hm := Lib.hid hm
        replace htv := Lib.hid htv
        replace htp := Lib.hid htp
        clear hao hbo hown2
        have hd : decide (tv ≤ 0) = true := decide_eq_true (by have := hyp.out; rw [htp.out] at this; exact this)
        go_wp2_with fail
        refine wp_region_quiet_below (by kernel_rfl) (by kernel_rfl) ?_
        repeat (go_big_quiet_step (with_reducible exact hct.out _ _))
        refine wpQuiet_nil ?_
        intro _ hw'
        obtain ⟨⟨dq, osq⟩, hw''⟩ := hw'
        subst hw''
        clear hct kz0 kz1 kz2 kz3 z0 z1 z2 z3 hd
        have hbn := hbm.trans ((below_regrown wr dq osq).mono hszm)
        have hownW : ChO (Go.Sort.grow (redrawn wr dq) osq) w.heap.size (some ⟨g, 0, none⟩) c2 ((ax, ay) :: t) := own_below hown3.out (below_regrown wr dq osq)
        generalize Go.Sort.grow (redrawn wr dq) osq = W at *
        replace hownW := Lib.hid hownW
        clear kx0 kx1 x0w x1w hown
        go_wp2_with fail
        go_roundw
        case rel => exact ⟨(ax, ay) :: t, _, c2, by rw [List.length_cons, ← hm.out], by rw [List.length_cons, ← hm.out]; omega, hrm2.out, hpop2.out, hownW.out, hbn⟩
        case measure => simp [lenOf]
end Go.Proofs.YtfkidklpjiiclaaGreat

