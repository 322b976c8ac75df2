/- Marks in an outline of the call's own, and whether they are held. Conditions: as each states. -/
import Derived.Test.YtmpnefjljmdflaaFg05
import Derived.Test.YtmpnefjljmdflaaFg28
namespace Go.Proofs.Ytmpnefjljmdflaa
open Go.RowKit
set_option linter.unusedVariables false
set_option maxRecDepth 100000

theorem own_same {w w' : World} {lo e size n : Nat} {v : Value} {xs : List Value} (h : w.ownsRow lo e size v n xs) (hs : ∀ g, v.ownBlock = some g → w'.heap[g]? = w.heap[g]?) : w'.ownsRow lo e size v n xs := by
  refine ⟨h.1, ?_⟩
  rcases h.2 with h2 | ⟨g, cap, cur, hv, hg, hh, r⟩
  · exact .inl h2
  · exact .inr ⟨g, cap, cur, hv, hg, (hs g (by rw [hv]; rfl)).trans hh, r⟩
theorem own_kind {w : World} {lo e size n : Nat} {v : Value} {xs : List Value} (h : w.ownsRow lo e size v n xs) {g : Nat} (hg : v.ownBlock = some g) : ∃ c, w.heap[g]? = some (.cells c e (0, 0)) := by
  rcases h.2 with ⟨rfl, _⟩ | ⟨g', cap, cur, rfl, _, hh, _⟩
  · simp [Value.ownBlock] at hg
  · simp [Value.ownBlock] at hg; subst hg; exact ⟨_, hh⟩
theorem own_ne_kind {w : World} {lo e size n lo' e' size' n' : Nat} {v v' : Value} {xs xs' : List Value} (h : w.ownsRow lo e size v n xs) (h' : w.ownsRow lo' e' size' v' n' xs') (he : e ≠ e') {g : Nat} (hg : v.ownBlock = some g) : v'.ownBlock ≠ some g := by
  intro hg'
  obtain ⟨c, h1⟩ := own_kind h hg
  obtain ⟨c', h2⟩ := own_kind h' hg'
  rw [h1] at h2
  injection h2 with h2
  injection h2 with _ h2 _
  exact he h2

/-- the same, and its blocks lie from lo to hi -/
def OutIn (w : World) (lo hi : Nat) (A : Option Addr) (n c : Nat) (ys : List Value) (Ls : List (List Knot)) : Prop := Ls.length = n ∧ w.ownsRow lo 57 1 (.slice A n c) n ys ∧
  (∀ (j : Nat) (K : List Knot), Ls[j]? = some K → ∃ (Aj : Option Addr) (cj : Nat), ys[j]? = some (.slice Aj K.length cj) ∧ w.ownsRow lo 127 3 (.slice Aj K.length cj) K.length (K.flatMap knotC)) ∧
  (∀ (i j : Nat) (u v : Value), i ≠ j → ys[i]? = some u → ys[j]? = some v → ApartV u v) ∧
  (∀ g, (Value.slice A n c).ownBlock = some g → g < hi) ∧ (∀ (j : Nat) (v : Value) (g : Nat), ys[j]? = some v → v.ownBlock = some g → g < hi)
theorem OutIn.own {w : World} {lo hi n c : Nat} {A : Option Addr} {ys : List Value} {Ls : List (List Knot)} (h : OutIn w lo hi A n c ys Ls) : OutOwn w lo A n c Ls := ⟨ys, h.1, h.2.1, h.2.2.1, h.2.2.2.1⟩
theorem OutOwn.in {w : World} {lo n c : Nat} {A : Option Addr} {Ls : List (List Knot)} (h : OutOwn w lo A n c Ls) : ∃ ys, OutIn w lo w.heap.size A n c ys Ls := by
  obtain ⟨ys, h1, h2, h3, h4⟩ := h
  refine ⟨ys, h1, h2, h3, h4, fun g hg => (h2.lt g hg).2, fun j v g hj hg => ?_⟩
  have hjl := (List.getElem?_eq_some_iff.1 hj).1
  obtain ⟨Aj, cj, h5, h6⟩ := h3 j _ (List.getElem?_eq_getElem (by have := h2.1; omega))
  rw [hj] at h5
  injection h5 with h5
  subst h5
  exact (h6.lt g hg).2
theorem OutIn.same {w w' : World} {lo hi n c : Nat} {A : Option Addr} {ys : List Value} {Ls : List (List Knot)} (h : OutIn w lo hi A n c ys Ls) (hs : SameB lo hi w w') : OutIn w' lo hi A n c ys Ls := by
  obtain ⟨h1, h2, h3, h4, h5, h6⟩ := h
  refine ⟨h1, own_same h2 fun g hg => hs g (h2.lt g hg).1 (h5 g hg), fun j K hj => ?_, h4, h5, h6⟩
  obtain ⟨Aj, cj, h7, h8⟩ := h3 j K hj
  exact ⟨Aj, cj, h7, own_same h8 fun g hg => hs g (h8.lt g hg).1 (h6 j _ g h7 hg)⟩
theorem OutIn.rd {w : World} {lo hi n c : Nat} {A : Option Addr} {ys : List Value} {Ls : List (List Knot)} (h : OutIn w lo hi A n c ys Ls) (hm : ∀ K ∈ Ls, K.length ≤ maxLen) : OutRd w lo w.heap.size A n Ls := h.own.rd hm

/-- the marks from m on, in loops of these lengths -/
def mkLs (m : Int) : List (List Knot) → List (List Knot)
  | [] => []
  | K :: Ls => mkKnot m K.length :: mkLs (m + 3 * (K.length : Int)) Ls
/-- how many knots -/
def kN (Ls : List (List Knot)) : Nat := (Ls.map List.length).sum
theorem mkLs_length (m : Int) (Ls : List (List Knot)) : (mkLs m Ls).length = Ls.length := by
  induction Ls generalizing m with
  | nil => rfl
  | cons K Ls ih => simp [mkLs, ih]
theorem mkLs_at (m : Int) {Ls : List (List Knot)} {j : Nat} {K : List Knot} (h : Ls[j]? = some K) : (mkLs m Ls)[j]? = some (mkKnot (m + 3 * (((Ls.map List.length).take j).sum : Nat)) K.length) := by
  induction Ls generalizing m j with
  | nil => simp at h
  | cons L Ls ih =>
    cases j with
    | zero => simp at h; subst h; simp [mkLs]
    | succ j =>
      rw [List.getElem?_cons_succ] at h
      rw [mkLs, List.getElem?_cons_succ, ih _ h]
      simp only [List.map_cons, List.take_succ_cons, List.sum_cons]
      congr 2
      push_cast
      omega
theorem mkLs_lens (m : Int) (Ls : List (List Knot)) : (mkLs m Ls).map List.length = Ls.map List.length := by
  induction Ls generalizing m with
  | nil => rfl
  | cons K Ls ih => simp [mkLs, ih, mkKnot_length]

set_option maxHeartbeats 2000000 in
theorem markLoopS_any (A : Option Addr) (n c lo hi : Nat) (ys : List Value) (Ls : List (List Knot)) (m : Int) (w : World) (hr : OutIn w lo hi A n c ys Ls) (hm0 : 0 ≤ m) (hm : m ≤ 10000000) (hn : n ≤ 1048576) (hN : kN Ls ≤ 1048576) :
    Calls Try.prog 97 #[.slice A n c, .int .i64 m] w fun e w' => e = .returned (.int .i64 (m + 3 * (kN Ls : Int))) ∧ Below lo w w' ∧ SameB hi w.heap.size w w' ∧ OutIn w' lo hi A n c ys (mkLs m Ls) ∧ w'.heap.size = w.heap.size := by
  obtain ⟨hll, hrow, hks, hap, hAhi, hyhi⟩ := hr
  have hyl := hrow.1
  replace hll := Lib.hid hll
  replace hks := Lib.hid hks
  replace hap := Lib.hid hap
  replace hAhi := Lib.hid hAhi
  replace hyhi := Lib.hid hyhi
  replace hyl := Lib.hid hyl
  replace hN := Lib.hid hN
  go_enter Try.func97, Try.ntmps97
  go_wp2_with fail
  go_loopw [1, 5] (fun l i wr => ∃ (k : Nat), i = .int .i64 k ∧ l = .int .i64 (m + 3 * ((((Ls.map List.length).take k).sum : Nat) : Int)) ∧ k ≤ n ∧ wr.ownsRow lo 57 1 (.slice A n c) n ys ∧ Below lo w wr ∧ SameB hi w.heap.size w wr ∧ wr.heap.size = w.heap.size ∧
    (∀ (j : Nat) (K : List Knot), Ls[j]? = some K → ∃ (Aj : Option Addr) (cj : Nat), ys[j]? = some (.slice Aj K.length cj) ∧ wr.ownsRow lo 127 3 (.slice Aj K.length cj) K.length ((if j < k then mkKnot (m + 3 * ((((Ls.map List.length).take j).sum : Nat) : Int)) K.length else K).flatMap knotC))) (fun l i wr => n - (intOf i).toNat)
  case atStart => exact ⟨0, rfl, by simp, Nat.zero_le _, hrow, Below.refl _ _, SameB.refl _ _ _, rfl, fun j K hj => by simpa using hks.out j K hj⟩
  case round =>
    obtain ⟨k, rfl, rfl, hk, ho, hbel, hsame, hz, hall⟩ := hrel
    replace hall := Lib.hid hall
    replace hz := Lib.hid hz
    by_cases hlt : k < n
    · obtain ⟨K, hja⟩ : ∃ K, Ls[k]? = some K := ⟨_, List.getElem?_eq_getElem (by have := hll.out; omega)⟩
      obtain ⟨Ak, ck, hyk, hok⟩ := hall.out k K hja
      obtain ⟨g, rfl, hB, hgl, hnc, hcell, hfr⟩ := own_at ho (by omega)
      have q0 := hcell k (by omega)
      rw [hyk] at q0
      clear hcell hfr
      have hst := sum_take_succ (map_at (f := List.length) hja)
      have hle := sum_take_le (Ls.map List.length) (k + 1)
      have hNN : (Ls.map List.length).sum ≤ 1048576 := hN.out
      have hKl : K.length ≤ 1048576 := by omega
      have hcall := Lib.hid (markKnotS_any Ak K.length ck lo _ (m + 3 * ((((Ls.map List.length).take k).sum : Nat) : Int)) wr hok (by omega) (by omega) (by omega))
      replace hok := Lib.hid hok
      replace hst := Lib.hid hst
      replace hja := Lib.hid hja
      replace hyk := Lib.hid hyk
      replace hNN := Lib.hid hNN
      replace hle := Lib.hid hle
      replace ho := Lib.hid ho
      go_wp2_with (go_at_call 79; refine hcall.out.mono ?_; rintro e w1 ⟨rfl, hg1, ho1, hz1⟩; replace ho1 := Lib.hid ho1; replace hz1 := Lib.hid hz1)
      go_roundw
      case rel =>
        have hkb : ∀ g', (Value.slice Ak K.length ck).ownBlock = some g' → lo ≤ g' ∧ g' < hi := fun g' hg' => ⟨(hok.out.lt g' hg').1, hyhi.out k _ g' hyk.out hg'⟩
        have hgr : ∀ b, b < w.heap.size → (Value.slice Ak K.length ck).ownBlock ≠ some b → w1.heap[b]? = wr.heap[b]? := fun b hb hne => hg1.block b (by have := hz.out; omega) (fun e => hne e.symm)
        refine ⟨k + 1, by go_num, ?_, by omega, own_same ho.out fun g' hg' => ?_, hbel.trans ⟨hg1.os, hg1.tape, hg1.output, hg1.size, fun b hb => ?_⟩, hsame.trans fun b hb1 hb2 => ?_, hz1.out.trans hz.out, fun j K' hj => ?_⟩
        · rw [hst.out]; congr 1; push_cast; omega
        · exact hgr g' (by have := (ho.out.lt g' hg').2; have := hz.out; omega) (own_ne_kind ho.out hok.out (by decide) hg')
        · rcases Nat.lt_or_ge b w.heap.size with h | h
          · exact hgr b h fun e => by have := (hkb b e).1; omega
          · rw [Array.getElem?_eq_none (by have := hz.out; have := hz1.out; omega), Array.getElem?_eq_none (by have := hz.out; omega)]
        · exact hgr b hb2 fun e => by have := (hkb b e).2; omega
        · obtain ⟨Aj, cj, h1, h2⟩ := hall.out j K' hj
          by_cases hjk : j = k
          · subst hjk
            have e1 := Option.some.inj (hj.symm.trans hja.out)
            subst e1
            have e2 := Option.some.inj (h1.symm.trans hyk.out)
            injection e2 with e3 e4 e5
            subst e3 e5
            refine ⟨Aj, cj, h1, ?_⟩
            rw [if_pos (by omega)]
            exact ho1.out
          · refine ⟨Aj, cj, h1, ?_⟩
            simp only [show (j < k + 1) ↔ (j < k) by omega]
            refine own_same h2 fun g' hg' => hgr g' (by have := (h2.lt g' hg').2; have := hz.out; omega) ?_
            exact hap.out j k _ _ hjk h1 hyk.out g' hg'
      case measure => simp [intOf]; omega
    · have hkn : k = n := by omega
      have hfin : ((Ls.map List.length).take k).sum = kN Ls := by rw [List.take_of_length_le (by rw [List.length_map, hll.out]; omega)]; rfl
      replace hkn := Lib.hid hkn
      replace ho := Lib.hid ho
      rw [hfin]
      replace hfin := Lib.hid hfin
      have hN' := hN.out
      go_wp2_with fail
      go_ret
      refine ⟨rfl, hbel, hsame, ⟨by rw [mkLs_length]; exact hll.out, ho.out, fun j K hj => ?_, hap.out, hAhi.out, hyhi.out⟩, hz.out⟩
      have hjl := (List.getElem?_eq_some_iff.1 hj).1
      rw [mkLs_length] at hjl
      have hLj : Ls[j]? = some Ls[j] := List.getElem?_eq_getElem hjl
      rw [mkLs_at m hLj] at hj
      injection hj with hj
      obtain ⟨Aj, cj, h1, h2⟩ := hall.out j _ hLj
      rw [if_pos (by have := hkn.out; have := hll.out; omega)] at h2
      subst hj
      rw [mkKnot_length]
      exact ⟨Aj, cj, h1, h2⟩

set_option maxHeartbeats 2000000 in
theorem heldLoopS_any (A : Option Addr) (n c lo hi : Nat) (Ls : List (List Knot)) (m : Int) (w : World) (hr : OutRd w lo hi A n (mkLs m Ls)) (hm0 : 0 ≤ m) (hm : m ≤ 10000000) (hn : n ≤ 1048576) (hN : kN Ls ≤ 1048576) :
    Calls Try.prog 98 #[.slice A n c, .int .i64 m] w fun e w' => e = .returned (.int .i64 (m + 3 * (kN Ls : Int))) ∧ w = w' := by
  have hll := hr.1
  rw [mkLs_length] at hll
  replace hll := Lib.hid hll
  replace hr := Lib.hid hr
  replace hN := Lib.hid hN
  go_enter Try.func98, Try.ntmps98
  go_wp2_with fail
  go_loop [1, 5] (fun l i => ∃ (k : Nat), i = .int .i64 k ∧ l = .int .i64 (m + 3 * ((((Ls.map List.length).take k).sum : Nat) : Int)) ∧ k ≤ n) (fun l i => n - (intOf i).toNat)
  case atStart => exact ⟨0, rfl, by simp, Nat.zero_le _⟩
  case round =>
    obtain ⟨k, rfl, rfl, hk⟩ := hrel
    by_cases hlt : k < n
    · obtain ⟨K, hja⟩ : ∃ K, Ls[k]? = some K := ⟨_, List.getElem?_eq_getElem (by have := hll.out; omega)⟩
      obtain ⟨b, off, K', A2, n2, c2, rfl, hb0, hb, hja', q0, hmx, hrk⟩ := out_at hr.out hlt
      rw [mkLs_at m hja] at hja'
      injection hja' with hja'
      subst hja'
      have hn2 := hrk.1
      rw [mkKnot_length] at hn2
      subst hn2
      have hst := sum_take_succ (map_at (f := List.length) hja)
      have hle := sum_take_le (Ls.map List.length) (k + 1)
      have hNN : (Ls.map List.length).sum ≤ 1048576 := hN.out
      have hKl : K.length ≤ 1048576 := by omega
      have hcall := Lib.hid (heldKnotS_any A2 K.length c2 lo hi (m + 3 * ((((Ls.map List.length).take k).sum : Nat) : Int)) w hrk (by omega) (by omega) (by omega))
      have hpos : (0 : Int) ≤ m + 3 * ((((Ls.map List.length).take k).sum : Nat) : Int) + 3 * (K.length : Int) := by omega
      have hst' : m + 3 * ((((Ls.map List.length).take (k + 1)).sum : Nat) : Int) = m + 3 * ((((Ls.map List.length).take k).sum : Nat) : Int) + 3 * (K.length : Int) := by rw [hst]; push_cast; omega
      clear hrk hmx hb hb0 hle hst hja
      replace hst' := Lib.hid hst'
      replace hNN := Lib.hid hNN
      go_wp2_with (go_at_call 80; refine hcall.out.mono ?_; rintro e w1 ⟨rfl, rfl⟩)
      go_round
      case rel => exact ⟨k + 1, by go_num, by rw [hst'.out], by omega⟩
      case measure => simp [intOf]; omega
    · have hkn : k = n := by omega
      have hfin : ((Ls.map List.length).take k).sum = kN Ls := by rw [List.take_of_length_le (by rw [List.length_map, hll.out]; omega)]; rfl
      replace hkn := Lib.hid hkn
      rw [hfin]
      replace hfin := Lib.hid hfin
      have hN' := hN.out
      go_wp2_with fail
      go_ret
      exact ⟨rfl, rfl⟩

theorem markOutline_any (A : Option Addr) (n c lo hi : Nat) (ys : List Value) (Ls : List (List Knot)) (m : Int) (w : World) (hr : OutIn w lo hi A n c ys Ls) (hlo : lo ≤ w.heap.size) (hhi : hi ≤ w.heap.size) (hm0 : 0 ≤ m) (hm : m ≤ 10000000) (hn : n ≤ 1048576) (hN : kN Ls ≤ 1048576) :
    Calls Try.prog 41 #[.agg #[.slice A n c], .int .i64 m] w fun e w' => e = .returned (.int .i64 (m + 3 * (kN Ls : Int))) ∧ Below lo w w' ∧ SameB hi w.heap.size w w' ∧ OutIn w' lo hi A n c ys (mkLs m Ls) := by
  have hc := Lib.hid (fun a => markLoopS_any A n c lo hi ys Ls m (w.alloc a) (hr.same ((SameB.refl _ _ w).alloc hhi _)) hm0 hm hn hN)
  clear hr
  go_enter Try.func41, Try.ntmps41
  go_wp2_with fail
  refine (hc.out _).mono ?_
  rintro e w1 ⟨rfl, hb1, hs1, ho1, hz1⟩
  replace ho1 := Lib.hid ho1
  replace hs1 := Lib.hid hs1
  clear hz1
  go_wp2_with fail
  go_ret
  exact ⟨rfl, ((Below.refl lo w).alloc hlo _).trans hb1, ((SameB.refl hi w.heap.size w).alloc (Nat.le_refl _) _).trans (hs1.out.mono (Nat.le_refl _) (by simp)), ho1.out⟩

theorem heldOutline_any (A : Option Addr) (n c lo hi : Nat) (Ls : List (List Knot)) (m : Int) (w : World) (hr : OutRd w lo hi A n (mkLs m Ls)) (hhi : hi ≤ w.heap.size) (hm0 : 0 ≤ m) (hm : m ≤ 10000000) (hn : n ≤ 1048576) (hN : kN Ls ≤ 1048576) :
    Calls Try.prog 42 #[.agg #[.slice A n c], .int .i64 m] w fun e w' => e = .returned (.int .i64 (m + 3 * (kN Ls : Int))) ∧ Below w.heap.size w w' := by
  have hc := Lib.hid (fun a => heldLoopS_any A n c lo hi Ls m (w.alloc a) (hr.frame good_loop ((SameB.refl _ _ w).alloc hhi _)) hm0 hm hn hN)
  clear hr
  go_enter Try.func42, Try.ntmps42
  go_wp2_with fail
  refine (hc.out _).mono ?_
  rintro e w1 ⟨rfl, rfl⟩
  go_wp2_with fail
  go_ret
  exact ⟨rfl, Go.Joins.below_alloc1 _ _⟩
end Go.Proofs.Ytmpnefjljmdflaa

