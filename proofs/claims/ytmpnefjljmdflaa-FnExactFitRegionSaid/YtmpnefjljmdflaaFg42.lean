/- Regions, as outlines are: XOutM turned. Conditions: as each states. -/
import Derived.Deep.RegionWith
import Derived.StillTailTactics
import Derived.Test.YtmpnefjljmdflaaFg37
import Derived.Test.YtmpnefjljmdflaaFg29
import Derived.Test.YtmpnefjljmdflaaFg41
import Derived.Test.YtmpnefjljmdflaaFg05
namespace Go.Proofs.Ytmpnefjljmdflaa
open Go.RowKit
set_option linter.unusedVariables false
set_option maxRecDepth 100000

/-- the same, and its blocks lie from lo to hi -/
def RegIn (w : World) (lo hi : Nat) (A : Option Addr) (n c : Nat) (ys : List Value) (Ls : List (List (Int × Int))) : Prop := Ls.length = n ∧ w.ownsRow lo 61 1 (.slice A n c) n ys ∧
  (∀ (j : Nat) (K : List (Int × Int)), Ls[j]? = some K → ∃ (Aj : Option Addr) (cj : Nat), ys[j]? = some (.slice Aj K.length cj) ∧ w.ownsRow lo 24 2 (.slice Aj K.length cj) K.length (K.flatMap ptC)) ∧
  (∀ (i j : Nat) (u v : Value), i ≠ j → ys[i]? = some u → ys[j]? = some v → ApartV u v) ∧
  (∀ g, (Value.slice A n c).ownBlock = some g → g < hi) ∧ (∀ (j : Nat) (v : Value) (g : Nat), ys[j]? = some v → v.ownBlock = some g → g < hi)
theorem RegIn.own {w : World} {lo hi n c : Nat} {A : Option Addr} {ys : List Value} {Ls : List (List (Int × Int))} (h : RegIn w lo hi A n c ys Ls) : RegOwn w lo A n c Ls := ⟨ys, h.1, h.2.1, h.2.2.1, h.2.2.2.1⟩
theorem RegOwn.in {w : World} {lo n c : Nat} {A : Option Addr} {Ls : List (List (Int × Int))} (h : RegOwn w lo A n c Ls) : ∃ ys, RegIn w lo w.heap.size A n c ys Ls := by
  obtain ⟨ys, h1, h2, h3, h4⟩ := h
  refine ⟨ys, h1, h2, h3, h4, fun g hg => (h2.lt g hg).2, fun j v g hj hg => ?_⟩
  have hjl := (List.getElem?_eq_some_iff.1 hj).1
  obtain ⟨Aj, cj, h5, h6⟩ := h3 j _ (List.getElem?_eq_getElem (by have := h2.1; omega))
  rw [hj] at h5
  injection h5 with h5
  subst h5
  exact (h6.lt g hg).2
theorem RegIn.same {w w' : World} {lo hi n c : Nat} {A : Option Addr} {ys : List Value} {Ls : List (List (Int × Int))} (h : RegIn w lo hi A n c ys Ls) (hs : SameB lo hi w w') : RegIn w' lo hi A n c ys Ls := by
  obtain ⟨h1, h2, h3, h4, h5, h6⟩ := h
  refine ⟨h1, own_same h2 fun g hg => hs g (h2.lt g hg).1 (h5 g hg), fun j K hj => ?_, h4, h5, h6⟩
  obtain ⟨Aj, cj, h7, h8⟩ := h3 j K hj
  exact ⟨Aj, cj, h7, own_same h8 fun g hg => hs g (h8.lt g hg).1 (h6 j _ g h7 hg)⟩
theorem RegIn.rd {w : World} {lo hi n c : Nat} {A : Option Addr} {ys : List Value} {Ls : List (List (Int × Int))} (h : RegIn w lo hi A n c ys Ls) (hm : ∀ K ∈ Ls, K.length ≤ maxLen) : RegRd w lo w.heap.size A n Ls := h.own.rd hm

/-- the marks from m on, in loops of these lengths -/
def mkRs (m : Int) : List (List (Int × Int)) → List (List (Int × Int))
  | [] => []
  | K :: Ls => mkPt m K.length :: mkRs (m + 2 * (K.length : Int)) Ls
/-- how many knots -/
def rN (Ls : List (List (Int × Int))) : Nat := (Ls.map List.length).sum
theorem mkRs_length (m : Int) (Ls : List (List (Int × Int))) : (mkRs m Ls).length = Ls.length := by
  induction Ls generalizing m with
  | nil => rfl
  | cons K Ls ih => simp [mkRs, ih]
theorem mkRs_at (m : Int) {Ls : List (List (Int × Int))} {j : Nat} {K : List (Int × Int)} (h : Ls[j]? = some K) : (mkRs m Ls)[j]? = some (mkPt (m + 2 * (((Ls.map List.length).take j).sum : Nat)) K.length) := by
  induction Ls generalizing m j with
  | nil => simp at h
  | cons L Ls ih =>
    cases j with
    | zero => simp at h; subst h; simp [mkRs]
    | succ j =>
      rw [List.getElem?_cons_succ] at h
      rw [mkRs, List.getElem?_cons_succ, ih _ h]
      simp only [List.map_cons, List.take_succ_cons, List.sum_cons]
      congr 2
      push_cast
      omega
set_option maxHeartbeats 2000000 in
theorem markRingS_any (A : Option Addr) (n c lo hi : Nat) (ys : List Value) (Ls : List (List (Int × Int))) (m : Int) (w : World) (hr : RegIn w lo hi A n c ys Ls) (hm0 : 0 ≤ m) (hm : m ≤ 10000000) (hn : n ≤ 1048576) (hN : rN Ls ≤ 1048576) :
    Calls Try.prog 96 #[.slice A n c, .int .i64 m] w fun e w' => e = .returned (.int .i64 (m + 2 * (rN Ls : Int))) ∧ Below lo w w' ∧ SameB hi w.heap.size w w' ∧ RegIn w' lo hi A n c ys (mkRs m Ls) ∧ w'.heap.size = w.heap.size := by
  obtain ⟨hll, hrow, hks, hap, hAhi, hyhi⟩ := hr
  have hyl := hrow.1
  replace hll := Lib.hid hll
  replace hks := Lib.hid hks
  replace hap := Lib.hid hap
  replace hAhi := Lib.hid hAhi
  replace hyhi := Lib.hid hyhi
  replace hyl := Lib.hid hyl
  replace hN := Lib.hid hN
  go_enter Try.func96, Try.ntmps96
  go_wp2_with fail
  go_loopw [1, 5] (fun l i wr => ∃ (k : Nat), i = .int .i64 k ∧ l = .int .i64 (m + 2 * ((((Ls.map List.length).take k).sum : Nat) : Int)) ∧ k ≤ n ∧ wr.ownsRow lo 61 1 (.slice A n c) n ys ∧ Below lo w wr ∧ SameB hi w.heap.size w wr ∧ wr.heap.size = w.heap.size ∧
    (∀ (j : Nat) (K : List (Int × Int)), Ls[j]? = some K → ∃ (Aj : Option Addr) (cj : Nat), ys[j]? = some (.slice Aj K.length cj) ∧ wr.ownsRow lo 24 2 (.slice Aj K.length cj) K.length ((if j < k then mkPt (m + 2 * ((((Ls.map List.length).take j).sum : Nat) : Int)) K.length else K).flatMap ptC))) (fun l i wr => n - (intOf i).toNat)
  case atStart => exact ⟨0, rfl, by simp, Nat.zero_le _, hrow, Below.refl _ _, SameB.refl _ _ _, rfl, fun j K hj => by simpa using hks.out j K hj⟩
  case round =>
    obtain ⟨k, rfl, rfl, hk, ho, hbel, hsame, hz, hall⟩ := hrel
    replace hall := Lib.hid hall
    replace hz := Lib.hid hz
    by_cases hlt : k < n
    · obtain ⟨K, hja⟩ : ∃ K, Ls[k]? = some K := ⟨_, List.getElem?_eq_getElem (by have := hll.out; omega)⟩
      obtain ⟨Ak, ck, hyk, hok⟩ := hall.out k K hja
      obtain ⟨g, rfl, hB, hgl, hnc, hcell, hfr⟩ := own_at ho (by omega)
      have q0 := hcell k (by omega)
      rw [hyk] at q0
      clear hcell hfr
      have hst := sum_take_succ (map_at (f := List.length) hja)
      have hle := sum_take_le (Ls.map List.length) (k + 1)
      have hNN : (Ls.map List.length).sum ≤ 1048576 := hN.out
      have hKl : K.length ≤ 1048576 := by omega
      have hcall := Lib.hid (markPtS_any Ak K.length ck lo _ (m + 2 * ((((Ls.map List.length).take k).sum : Nat) : Int)) wr hok (by omega) (by omega) (by omega))
      replace hok := Lib.hid hok
      replace hst := Lib.hid hst
      replace hja := Lib.hid hja
      replace hyk := Lib.hid hyk
      replace hNN := Lib.hid hNN
      replace hle := Lib.hid hle
      replace ho := Lib.hid ho
      go_wp2_with (go_at_call 78; refine hcall.out.mono ?_; rintro e w1 ⟨rfl, hg1, ho1, hz1⟩; replace ho1 := Lib.hid ho1; replace hz1 := Lib.hid hz1)
      go_roundw
      case rel =>
        have hkb : ∀ g', (Value.slice Ak K.length ck).ownBlock = some g' → lo ≤ g' ∧ g' < hi := fun g' hg' => ⟨(hok.out.lt g' hg').1, hyhi.out k _ g' hyk.out hg'⟩
        have hgr : ∀ b, b < w.heap.size → (Value.slice Ak K.length ck).ownBlock ≠ some b → w1.heap[b]? = wr.heap[b]? := fun b hb hne => hg1.block b (by have := hz.out; omega) (fun e => hne e.symm)
        refine ⟨k + 1, by go_num, ?_, by omega, own_same ho.out fun g' hg' => ?_, hbel.trans ⟨hg1.os, hg1.tape, hg1.output, hg1.size, fun b hb => ?_⟩, hsame.trans fun b hb1 hb2 => ?_, hz1.out.trans hz.out, fun j K' hj => ?_⟩
        · rw [hst.out]; congr 1; push_cast; omega
        · exact hgr g' (by have := (ho.out.lt g' hg').2; have := hz.out; omega) (own_ne_kind ho.out hok.out (by decide) hg')
        · rcases Nat.lt_or_ge b w.heap.size with h | h
          · exact hgr b h fun e => by have := (hkb b e).1; omega
          · rw [Array.getElem?_eq_none (by have := hz.out; have := hz1.out; omega), Array.getElem?_eq_none (by have := hz.out; omega)]
        · exact hgr b hb2 fun e => by have := (hkb b e).2; omega
        · obtain ⟨Aj, cj, h1, h2⟩ := hall.out j K' hj
          by_cases hjk : j = k
          · subst hjk
            have e1 := Option.some.inj (hj.symm.trans hja.out)
            subst e1
            have e2 := Option.some.inj (h1.symm.trans hyk.out)
            injection e2 with e3 e4 e5
            subst e3 e5
            refine ⟨Aj, cj, h1, ?_⟩
            rw [if_pos (by omega)]
            exact ho1.out
          · refine ⟨Aj, cj, h1, ?_⟩
            simp only [show (j < k + 1) ↔ (j < k) by omega]
            refine own_same h2 fun g' hg' => hgr g' (by have := (h2.lt g' hg').2; have := hz.out; omega) ?_
            exact hap.out j k _ _ hjk h1 hyk.out g' hg'
      case measure => simp [intOf]; omega
    · have hkn : k = n := by omega
      have hfin : ((Ls.map List.length).take k).sum = rN Ls := by rw [List.take_of_length_le (by rw [List.length_map, hll.out]; omega)]; rfl
      replace hkn := Lib.hid hkn
      replace ho := Lib.hid ho
      rw [hfin]
      replace hfin := Lib.hid hfin
      have hN' := hN.out
      go_wp2_with fail
      go_ret
      refine ⟨rfl, hbel, hsame, ⟨by rw [mkRs_length]; exact hll.out, ho.out, fun j K hj => ?_, hap.out, hAhi.out, hyhi.out⟩, hz.out⟩
      have hjl := (List.getElem?_eq_some_iff.1 hj).1
      rw [mkRs_length] at hjl
      have hLj : Ls[j]? = some Ls[j] := List.getElem?_eq_getElem hjl
      rw [mkRs_at m hLj] at hj
      injection hj with hj
      obtain ⟨Aj, cj, h1, h2⟩ := hall.out j _ hLj
      rw [if_pos (by have := hkn.out; have := hll.out; omega)] at h2
      subst hj
      rw [mkPt_length]
      exact ⟨Aj, cj, h1, h2⟩

theorem markRegion_any (A : Option Addr) (n c lo hi : Nat) (ys : List Value) (Ls : List (List (Int × Int))) (m : Int) (w : World) (hr : RegIn w lo hi A n c ys Ls) (hlo : lo ≤ w.heap.size) (hhi : hi ≤ w.heap.size) (hm0 : 0 ≤ m) (hm : m ≤ 10000000) (hn : n ≤ 1048576) (hN : rN Ls ≤ 1048576) :
    Calls Try.prog 40 #[.agg #[.slice A n c], .int .i64 m] w fun e w' => e = .returned (.int .i64 (m + 2 * (rN Ls : Int))) ∧ Below lo w w' ∧ SameB hi w.heap.size w w' ∧ RegIn w' lo hi A n c ys (mkRs m Ls) := by
  have hc := Lib.hid (fun a => markRingS_any A n c lo hi ys Ls m (w.alloc a) (hr.same ((SameB.refl _ _ w).alloc hhi _)) hm0 hm hn hN)
  clear hr
  go_enter Try.func40, Try.ntmps40
  go_wp2_with fail
  refine (hc.out _).mono ?_
  rintro e w1 ⟨rfl, hb1, hs1, ho1, hz1⟩
  replace ho1 := Lib.hid ho1
  replace hs1 := Lib.hid hs1
  clear hz1
  go_wp2_with fail
  go_ret
  exact ⟨rfl, ((Below.refl lo w).alloc hlo _).trans hb1, ((SameB.refl hi w.heap.size w).alloc (Nat.le_refl _) _).trans (hs1.out.mono (Nat.le_refl _) (by simp)), ho1.out⟩

end Go.Proofs.Ytmpnefjljmdflaa

/- Two outlines compared by the laws' functions. Conditions: as each states. -/
namespace Go.Proofs.Ytmpnefjljmdflaa
open Go.RowKit
set_option linter.unusedVariables false
set_option maxRecDepth 100000

theorem eqLoop_any (A A' : Option Addr) (n c n' c' lo hi lo' hi' : Nat) (K : List Knot) (w : World) (h1 : RdS 3 (FlatR knotC) w lo hi A n K) (h2 : RdS 3 (FlatR knotC) w lo' hi' A' n' K) (hh1 : hi ≤ w.heap.size) (hh2 : hi' ≤ w.heap.size) (hn : n ≤ 100000000) :
    Calls Try.prog 25 #[.agg #[.slice A n c], .agg #[.slice A' n' c']] w fun e w' => e = .returned (.bool true) ∧ Below w.heap.size w w' := by
  have hc := Lib.hid (fun a b => eqKnotS_any A A' n c n' c' lo hi lo' hi' K ((w.alloc a).alloc b) (h1.frame (good_flat _) (((SameB.refl _ _ w).alloc hh1 _).alloc (by simp; omega) _)) (h2.frame (good_flat _) (((SameB.refl _ _ w).alloc hh2 _).alloc (by simp; omega) _)) (by simp; omega) (by simp; omega) (by omega))
  clear h1 h2
  go_enter Try.func25, Try.ntmps25
  go_wp2_with fail
  refine (hc.out _ _).mono ?_
  rintro e w1 ⟨rfl, hb1⟩
  go_wp2_with fail
  go_ret
  exact ⟨rfl, (Go.Joins.below_alloc2 _ _ _).trans (hb1.mono (by simp; omega))⟩

set_option maxHeartbeats 1000000 in
theorem eqLoopS_any (A A' : Option Addr) (n c n' c' lo hi lo' hi' : Nat) (Ls : List (List Knot)) (w : World) (h1 : OutRd w lo hi A n Ls) (h2 : OutRd w lo' hi' A' n' Ls) (hh1 : hi ≤ w.heap.size) (hh2 : hi' ≤ w.heap.size) (hn : n ≤ 100000000) (hK : ∀ K ∈ Ls, K.length ≤ 100000000) :
    Calls Try.prog 95 #[.slice A n c, .slice A' n' c'] w fun e w' => e = .returned (.bool true) ∧ Below w.heap.size w w' := by
  obtain rfl : n = n' := h1.1.symm.trans h2.1
  replace h1 := Lib.hid h1
  replace h2 := Lib.hid h2
  replace hK := Lib.hid hK
  go_enter Try.func95, Try.ntmps95
  go_wp2_with fail
  go_loopw [5] (fun i wr => ∃ k : Nat, i = .int .i64 k ∧ k ≤ n ∧ Below w.heap.size w wr) (fun i wr => n - (intOf i).toNat)
  case atStart => exact ⟨0, rfl, Nat.zero_le _, Below.refl _ _⟩
  case round =>
    obtain ⟨k, rfl, hk, hbel⟩ := hrel
    have hsz := hbel.size
    by_cases hlt : k < n
    · obtain ⟨b, off, K, A1, n1, c1, rfl, hb0, hb, hja, q0, hm, hr1⟩ := out_at (h1.out.frame good_loop (Below.sameB hbel hh1)) hlt
      obtain ⟨b', off', K', A2, n2, c2, rfl, hb0', hb', hja', q0', hm', hr2⟩ := out_at (h2.out.frame good_loop (Below.sameB hbel hh2)) hlt
      have hKK := Option.some.inj (hja.symm.trans hja')
      subst hKK
      have hlen := hK.out K (List.mem_of_getElem? hja)
      have hcall := Lib.hid (fun W (hB : SameB 0 wr.heap.size wr W) (hs : wr.heap.size ≤ W.heap.size) => eqLoop_any A1 A2 n1 c1 n2 c2 lo hi lo' hi' K W (hr1.frame (good_flat _) (hB.mono (Nat.zero_le _) (by omega))) (hr2.frame (good_flat _) (hB.mono (Nat.zero_le _) (by omega))) (by omega) (by omega) (by rw [← hr1.1]; exact hlen))
      have hbw : b < wr.heap.size := by omega
      have hbw' : b' < wr.heap.size := by omega
      clear hr1 hr2 hm hm' hja hja' hb0 hb0' hb hb' hsz hh1 hh2 h1 h2 hlen
      have hi : (0 : Int) ≤ (k : Int) ∧ (k : Int) < (n : Int) := by omega
      go_wp2_with fail
      go_still_tail 8, (by kernel_rfl)
      go_wp2_with (go_at_call 25; refine (hcall.out _ (SameB.refl _ _ wr).drew (Nat.le_refl _)).mono ?_; rintro e w1 ⟨rfl, hb1⟩)
      go_roundw
      case rel => exact ⟨k + 1, by go_num, by omega, hbel.drew.trans (hb1.mono (by simp; exact hbel.size))⟩
      case measure => simp [intOf]; omega
    · go_wp2_with fail
      go_ret
      exact ⟨rfl, hbel⟩

theorem eqOutline_any (A A' : Option Addr) (n c n' c' lo hi lo' hi' : Nat) (Ls : List (List Knot)) (w : World) (h1 : OutRd w lo hi A n Ls) (h2 : OutRd w lo' hi' A' n' Ls) (hh1 : hi ≤ w.heap.size) (hh2 : hi' ≤ w.heap.size) (hn : n ≤ 100000000) (hK : ∀ K ∈ Ls, K.length ≤ 100000000) :
    Calls Try.prog 37 #[.agg #[.slice A n c], .agg #[.slice A' n' c']] w fun e w' => e = .returned (.bool true) ∧ Below w.heap.size w w' := by
  have hc := Lib.hid (fun a b => eqLoopS_any A A' n c n' c' lo hi lo' hi' Ls ((w.alloc a).alloc b) (h1.frame good_loop (((SameB.refl _ _ w).alloc hh1 _).alloc (by simp; omega) _)) (h2.frame good_loop (((SameB.refl _ _ w).alloc hh2 _).alloc (by simp; omega) _)) (by simp; omega) (by simp; omega) hn hK)
  clear h1 h2
  go_enter Try.func37, Try.ntmps37
  go_wp2_with fail
  refine (hc.out _ _).mono ?_
  rintro e w1 ⟨rfl, hb1⟩
  go_wp2_with fail
  go_ret
  exact ⟨rfl, (Go.Joins.below_alloc2 _ _ _).trans (hb1.mono (by simp; omega))⟩
end Go.Proofs.Ytmpnefjljmdflaa

/- Outlines that are small enough (without the moving of outlines). No walk in sight. Conditions: none. -/
namespace Go.Proofs.Ytmpnefjljmdflaa
set_option linter.unusedVariables false
set_option maxRecDepth 100000
theorem sumMem {L : List Nat} {x : Nat} (h : x ∈ L) : x ≤ L.sum := by
  induction L with
  | nil => simp at h
  | cons a L ih =>
    rcases List.mem_cons.1 h with rfl | h
    · simp
    · have := ih h; simp; omega
def OutSm (R : List (List Knot)) : Prop := R.length ≤ 1048576 ∧ kN R ≤ 1048576
theorem OutSm.k {R : List (List Knot)} (h : OutSm R) : ∀ K ∈ R, K.length ≤ 1048576 := fun K hK => Nat.le_trans (sumMem (List.mem_map_of_mem (f := List.length) hK)) h.2
theorem OutSm.map {R : List (List Knot)} (h : OutSm R) (f : Knot → Knot) : OutSm (R.map (List.map f)) := by
  refine ⟨by rw [List.length_map]; exact h.1, ?_⟩
  have : (R.map (List.map f)).map List.length = R.map List.length := by rw [List.map_map]; apply List.map_congr_left; intro a _; simp
  unfold kN; rw [this]; exact h.2
theorem OutSm.nil : OutSm [] := ⟨by simp, by simp [kN]⟩
theorem RdS.capped {α : Type} {k : Nat} {f : α → List Value} {w : World} {lo hi hi' : Nat} {A : Option Addr} {n : Nat} {L : List α} (h : RdS k (FlatR f) w lo hi A n L) (hb : ∀ b off, A = some ⟨b, off, none⟩ → b < hi') : RdS k (FlatR f) w lo hi' A n L := by
  refine ⟨h.1, fun hn => ?_⟩
  obtain ⟨b, off, h1, h2, h3, h4⟩ := h.2 hn
  exact ⟨b, off, h1, h2, hb b off h1, h4⟩
theorem OutIn.rdIn {w : World} {lo hi n c : Nat} {A : Option Addr} {ys : List Value} {Ls : List (List Knot)} (h : OutIn w lo hi A n c ys Ls) (hm : OutSm Ls) : OutRd w lo hi A n Ls := by
  obtain ⟨h1, h2, h3, h4, h5, h6⟩ := h
  refine ⟨h1, fun hn => ?_⟩
  obtain ⟨g, rfl, hg1, hg2, _, hc, _⟩ := own_at h2 hn
  refine ⟨g, 0, rfl, hg1, h5 g rfl, fun j K hj => ?_⟩
  obtain ⟨Aj, cj, h7, h8⟩ := h3 j K hj
  refine ⟨[.slice Aj K.length cj], rfl, fun i u hu => ?_, Aj, K.length, cj, rfl, by have := hm.k K (List.mem_of_getElem? hj); unfold maxLen; omega, (rdS_own knotC_len (by omega) h8 rfl).capped fun b off e => h6 j _ b h7 (by subst e; rfl)⟩
  match i, hu with
  | 0, hu =>
    injection hu with hu
    subst hu
    have hjl := (List.getElem?_eq_some_iff.1 hj).1
    simp only [Nat.mul_one, Nat.add_zero, Nat.zero_add]
    rw [hc j (by omega), h7]
theorem OutSm.mk {R : List (List Knot)} (h : OutSm R) (m : Int) : OutSm (mkLs m R) := ⟨by rw [mkLs_length]; exact h.1, by unfold kN; rw [mkLs_lens]; exact h.2⟩
end Go.Proofs.Ytmpnefjljmdflaa

