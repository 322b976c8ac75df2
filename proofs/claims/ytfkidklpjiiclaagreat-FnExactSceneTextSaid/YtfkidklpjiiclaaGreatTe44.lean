/- The region along an outline: the program's side. Printed by mk_fo4.py. Conditions: as each states. -/
import Derived.Test.YtfkidklpjiiclaaGreatTe41
import Derived.Test.YtfkidklpjiiclaaGreatTe43
import Derived.Test.YtfkidklpjiiclaaGreatTe32
import Derived.Test.YtfkidklpjiiclaaGreatTe20
import Derived.Test.YtfkidklpjiiclaaGreatTe39
namespace Go.Proofs.YtfkidklpjiiclaaGreat
open Go.RowKit
set_option linter.unusedVariables false
set_option maxRecDepth 100000

end Go.Proofs.YtfkidklpjiiclaaGreat

/- A ring as a path that returns to its first point, both sides. Conditions: as each states. -/
namespace Go.Proofs.YtfkidklpjiiclaaGreat
open Go.RowKit
set_option linter.unusedVariables false
set_option maxRecDepth 100000

theorem ptc_one (a : Int × Int) : ∀ u ∈ ptC a, u.oneCell' = true := by
  intro u hu
  simp only [ptC, List.mem_cons, List.not_mem_nil, or_false] at hu
  rcases hu with rfl | rfl <;> rfl
set_option maxHeartbeats 1000000 in
theorem clonePt_any (A : Option Addr) (n c lo hi : Nat) (K : List Pnt) (w : World) (hr : RdS 2 (FlatR ptC) w lo hi A n K) (hn : n ≤ 1048576) (hz : A = none → n = 0) :
    Calls Tryz.prog 124 #[.slice A n c] w fun e w' => ∃ A' c', e = .returned (.slice A' n c') ∧ w'.ownsRow w.heap.size 148 2 (.slice A' n c') n (K.flatMap ptC) ∧ Below w.heap.size w w' := by
  have hs := src_rd ptC_len ptc_one hr
  have hl := hr.1
  have hu : Tryz.prog.underlying 85 = some (.slice 148) := Tryz.underlying85
  have q22 : ∀ (w : World) (a : Option Addr) (n c n' c' : Nat), (binOp .eql 85 (.slice a n c) (.slice none n' c')).run Tryz.prog w = .ok (.bool a.isNone) w := fun w a n c n' c' => Lib.run_eql_slice_nil w _ _ a n c n' c' hu
  clear hr
  cases A with
  | none =>
    obtain rfl := hz rfl
    have hK : K = [] := List.eq_nil_of_length_eq_zero hl
    subst hK
    clear hs hl hz
    go_enter Tryz.func124, Tryz.ntmps124
    go_wp2_with fail
    go_ret
    exact ⟨none, 0, rfl, World.ownsRow_nil _ _ _ _, Below.refl _ _⟩
  | some a =>
    replace hs := Lib.hid hs
    replace hl := Lib.hid hl
    clear hz
    go_enter Tryz.func124, Tryz.ntmps124
    go_wp2_with (at_builtin; refine wpApp rfl (.tmp 5) (.tmp 6) elemPt rfl (base := w.heap.size) (v := .slice (some ⟨w.heap.size, 0, none⟩) 0 0) rfl (World.ownsRow_made w #[] 0 (Nat.le_refl _) (Nat.zero_le _) rfl) rfl (src_new0 hs.out _) (by omega) (by omega) (by simp) n (by omega) ?_; intro A' c' w1 ho1 hb1; replace ho1 := Lib.hid ho1)
    go_ret
    exact ⟨A', c', rfl, by simpa using ho1.out, ((Below.refl _ _).alloc (Nat.le_refl _) _).trans hb1⟩

end Go.Proofs.YtfkidklpjiiclaaGreat

/- The program's hull, pens. Conditions: as each states. -/
namespace Go.Proofs.YtfkidklpjiiclaaGreat
open Go.RowKit
set_option linter.unusedVariables false
set_option maxRecDepth 100000

theorem own_far {w w' : World} {B : Nat} {e : TypeId} {g n c : Nat} {xs : List Value} (h : w.ownsRow B e 2 (.slice (some ⟨g, 0, none⟩) n c) n xs) (hh : w'.heap[g]? = w.heap[g]?) : w'.ownsRow B e 2 (.slice (some ⟨g, 0, none⟩) n c) n xs := by
  obtain ⟨hl, h2⟩ := h
  rcases h2 with ⟨h0, _⟩ | ⟨g', cap', cur, hv, hg, hx, hn, hcap, hsz, htake⟩
  · cases h0
  · injection hv with e1 e2 e3
    injection e1 with e1
    injection e1 with e1
    subst e1; subst e3
    exact ⟨hl, .inr ⟨g, c, cur, rfl, hg, hh.trans hx, hn, hcap, hsz, htake⟩⟩
theorem revPt_far (g n cap B : Nat) (L : List Pn) (w : World) (ho : w.ownsRow B 148 2 (.slice (some ⟨g, 0, none⟩) n cap) n (L.flatMap ptC)) (hl : L.length = n) (hn : n ≤ 1000000) :
    Calls Tryz.prog 130 #[.slice (some ⟨g, 0, none⟩) n cap] w fun e w' => e = .returned (.tuple #[]) ∧ w'.ownsRow B 148 2 (.slice (some ⟨g, 0, none⟩) n cap) n (L.reverse.flatMap ptC) ∧ Below B w w' ∧ w'.heap.size = w.heap.size ∧ ∀ k, k ≠ g → w'.heap[k]? = w.heap[k]? := by
  obtain ⟨hgB, hgl⟩ := ho.lt g rfl
  have hH : Go.Sort.HoldsK ptC 2 w g 0 L.toArray := holds_own2 ptC ptC_len L.toArray (by simpa using hl) (by rw [show L.toArray.toList = L by simp]; exact ho)
  have hcon := Go.Proofs.AnyQ.slices_Reverse Tryz.revPt 2 Tryz.isAgg148 Tryz.sizeOf148 ptC ptC_len ptc_one' g 0 cap L.toArray w hH (by simp [hl]; omega)
  rw [show L.toArray.size = n by simpa using hl] at hcon
  change Calls Tryz.prog 130 _ _ _ at hcon
  refine hcon.mono ?_
  rintro e w' ⟨rfl, q, rfl⟩
  refine ⟨rfl, ?_, ?_, ?_, fun k hk => ?_⟩
  · have h1 := own_put2 (q := q) ho (F := Go.Sort.flatK ptC 2 L.toArray.reverse) (by simp [hl])
    rw [flatK_list ptC ptC_len, show L.toArray.reverse.toList = L.reverse by simp] at h1
    exact h1
  · have := below_row2 (w := w) (q := q) (F := Go.Sort.flatK ptC 2 L.toArray.reverse) (os := #[]) hgB (by omega)
    rw [Go.Sort.grow_empty] at this
    exact this
  · simp [Go.Sort.putRowK, Go.Sort.putRow, Go.Sort.mapBlock, Go.Sort.ahead]
  · simp [Go.Sort.putRowK, Go.Sort.putRow, Go.Sort.mapBlock, Go.Sort.ahead, Array.getElem?_modify, Ne.symm hk]

set_option maxHeartbeats 16000000 in
theorem hullOf_any (A : Option Addr) (n c lo hi : Nat) (L : List Pn) (w : World) (hr : RdS 2 (FlatR ptC) w lo hi A n L) (hhi : hi ≤ w.heap.size) (hn1 : 1 ≤ n) (hn : n ≤ 100) (hok : ∀ p ∈ L, pt2Ok p = true) :
    Calls Tryz.prog 74 #[.slice A n c] w fun e w' => ∃ (A' : Option Addr) (c' : Nat), e = .returned (.slice A' (hullL L).length c') ∧ w'.ownsRow w.heap.size 148 2 (.slice A' (hullL L).length c') (hullL L).length ((hullL L).flatMap ptC) ∧ Below w.heap.size w w' := by
  have hll := hr.1
  have hA0 : A = none → n = 0 := fun h => by obtain ⟨b, off, hA, _⟩ := hr.pts (by omega); rw [hA] at h; cases h
  have hc1 := Lib.hid (clonePt_any A n c lo hi L w hr (by omega) hA0)
  replace hll := Lib.hid hll
  replace hok := Lib.hid hok
  clear hr hA0
  go_enter Tryz.func74, Tryz.ntmps74
  go_wp2_with fail
  refine hc1.out.mono ?_
  rintro e w1 ⟨A1, c1, rfl, ho1, hb1⟩
  obtain ⟨g, rfl, hgB, hgl, _⟩ := own_at ho1 (by omega)
  have hc2 := Lib.hid (sortPt_any g n c1 w.heap.size L w1 ho1 hll.out (by omega) hok.out)
  clear ho1 hc1
  go_wp2_with fail
  refine hc2.out.mono ?_
  rintro e w2 ⟨rfl, M, hperm, hwr, ho2, hb2⟩
  have hMl : M.length = n := by rw [hperm.length_eq]; exact hll.out
  have hkeep := keep_sortU hperm hwr
  rw [hMl] at hkeep
  have hB2 := hb1.trans hb2
  have hc3 := compactPt_any g n c1 w.heap.size M w2 ho2 hMl (by omega)
  rw [hkeep] at hc3
  replace hc3 := Lib.hid hc3
  have hSl : (sortU L).length ≤ n := by have := keep_len L; have := hll.out; omega
  have hS1 : 1 ≤ (sortU L).length := by
    obtain ⟨p, hp⟩ : ∃ p, p ∈ L := ⟨L[0]'(by have := hll.out; omega), List.getElem_mem _⟩
    have := (sortU_mem L p).2 hp
    exact List.length_pos_of_mem this
  have hSm : ∀ p ∈ sortU L, pt2Ok p = true := fun p hp => hok.out p ((sortU_mem L p).1 hp)
  have hhull : hullL L = if (sortU L).length < 3 then sortU L else (chainL (sortU L)).dropLast ++ (chainL (sortU L).reverse).dropLast := rfl
  obtain ⟨S, hS⟩ : ∃ S, S = sortU L := ⟨_, rfl⟩
  rw [← hS] at hc3 hSl hS1 hSm hhull
  replace hS := Lib.hid hS
  clear hperm hwr ho2 hc2 hkeep hMl
  go_wp2_with fail
  refine hc3.out.mono ?_
  rintro e w3 ⟨rfl, ho3, hb3⟩
  have hB3 := hB2.trans hb3
  obtain ⟨m, hm⟩ : ∃ m, m = S.length := ⟨_, rfl⟩
  rw [← hm] at ho3 hSl hS1 hhull ⊢
  by_cases h3 : m < 3
  · rw [if_pos h3] at hhull
    have h3i : (m : Int) < 3 := by omega
    replace hhull := Lib.hid hhull
    replace hm := Lib.hid hm
    replace ho3 := Lib.hid ho3
    clear hc3
    go_wp2_with fail
    go_ret
    exact ⟨_, c1, by rw [hhull.out, ← hm.out]; rfl, by rw [hhull.out, ← hm.out]; exact ho3.out, hB3⟩
  rw [if_neg h3] at hhull
  have h3i : ¬ (m : Int) < 3 := by omega
  have hr3 := rdS_own ptC_len (by omega) ho3 hm.symm
  have hc4 := Lib.hid (implChain_any (some ⟨g, 0, none⟩) m c1 w.heap.size w3.heap.size S w3 hr3 (Nat.le_refl _) (by omega) hSm hS1)
  replace hhull := Lib.hid hhull
  replace hm := Lib.hid hm
  replace ho3 := Lib.hid ho3
  replace hSm := Lib.hid hSm
  clear hc3 hr3
  go_wp2_with fail
  refine hc4.out.mono ?_
  rintro e w4 ⟨A5, c5, rfl, ho5, hb4⟩
  have hB4 := hB3.trans (hb4.mono hB3.size)
  have hp1 : 0 < (chainR S).length := chain_pos (by have := hm.out; omega)
  have hl1 := chain_len S
  have hu1 : (chainR S).tail.length = (chainR S).length - 1 := List.length_tail
  obtain ⟨u, hu⟩ : ∃ u, u = (chainR S).length - 1 := ⟨_, rfl⟩
  have ho5' : w4.ownsRow w3.heap.size 148 2 (.slice A5 u c5) u ((chainR S).tail.reverse.flatMap ptC) := by
    have h := ho5
    unfold ChO at h
    rw [hu1, ← hu] at h
    exact h
  rw [← hu]
  have hgw4 : g < w3.heap.size := (ho3.out.lt g rfl).2
  have hc6 := Lib.hid (revPt_far g m c1 w.heap.size S w4 (own_below ho3.out hb4) hm.out.symm (by omega))
  replace ho5' := Lib.hid ho5'
  replace hu := Lib.hid hu
  clear ho5 hc4 hu1
  go_wp2_with fail
  refine hc6.out.mono ?_
  rintro e w6 ⟨rfl, ho6, hb6, hz6, hsame⟩
  have hB6 := hB4.trans hb6
  have hz4 := hb4.size
  have ho56 : w6.ownsRow w3.heap.size 148 2 (.slice A5 u c5) u ((chainR S).tail.reverse.flatMap ptC) := by
    rcases Nat.eq_zero_or_pos u with h0 | h0
    · obtain ⟨hl, h2⟩ := ho5'.out
      rcases h2 with h2 | ⟨g', cap', cur, hv, hg, hx, r⟩
      · exact ⟨hl, .inl h2⟩
      · exact ⟨hl, .inr ⟨g', cap', cur, hv, hg, (hsame g' (by omega)).trans hx, r⟩⟩
    · obtain ⟨g5, rfl, h5B, _⟩ := own_at ho5'.out h0
      exact own_far ho5'.out (hsame g5 (by omega))
  have hr6 := rdS_own ptC_len (by omega) ho6 (by rw [List.length_reverse]; exact hm.out.symm)
  have hc7 := Lib.hid (implChain_any (some ⟨g, 0, none⟩) m c1 w.heap.size w6.heap.size S.reverse w6 hr6 (Nat.le_refl _) (by omega) (fun p hp => hSm.out p (List.mem_reverse.1 hp)) hS1)
  replace ho56 := Lib.hid ho56
  clear ho5' hc6 ho6 hr6 hsame
  have hl2 : u ≤ 100 := by have := hu.out; have := hm.out; omega
  have hl3 := chain_len S.reverse
  rw [List.length_reverse] at hl3
  have hu2 : (chainR S.reverse).tail.length = (chainR S.reverse).length - 1 := List.length_tail
  have hfin : hullL L = (chainR S).tail.reverse ++ (chainR S.reverse).tail.reverse := by rw [hhull.out, drop_chain, drop_chain]
  obtain ⟨v, hv⟩ : ∃ v, v = (chainR S.reverse).length - 1 := ⟨_, rfl⟩
  have hl4 : v ≤ 100 := by have := hm.out; omega
  have hlen : (hullL L).length = u + v := by rw [hfin, List.length_append, List.length_reverse, List.length_reverse, List.length_tail, List.length_tail, ← hu.out, ← hv]
  rw [← hv] at hc7
  replace hv := Lib.hid hv
  replace hlen := Lib.hid hlen
  replace hfin := Lib.hid hfin
  clear hl3
  have hz36 : w3.heap.size ≤ w6.heap.size := by omega
  go_wp2_with (first | (go_at_call 128; refine hc7.out.mono ?_; rintro e w7 ⟨A8, c8, rfl, ho8, hb8⟩; have hz8 := hb8.size; have ho58 := Lib.hid (own_below ho56.out hb8); have hs8 := Lib.hid (src_own (A := A8) (by unfold ChO at ho8; rw [hu2, ← hv.out] at ho8; exact ho8) (by intro x hx; obtain ⟨a, _, ha⟩ := List.mem_flatMap.1 hx; exact ptc_one' a x ha)); clear ho8) | (at_builtin; refine wpApp rfl (.tmp 21) (.tmp 24) elemPt rfl (base := w3.heap.size) (v := .slice A5 u c5) (n := u) (xs := (chainR S).tail.reverse.flatMap ptC) rfl ho58.out rfl hs8.out (by omega) (by omega) (Nat.le_trans hz36 hz8) (u + v) rfl ?_; intro A9 c9 w9 ho9 hb9; replace ho9 := Lib.hid ho9))
  go_ret
  have hB8 := hB6.trans (hb8.mono hB6.size)
  have hB9 := hB8.trans (hb9.mono hB3.size)
  refine ⟨A9, c9, by rw [hlen.out]; rfl, ?_, hB9⟩
  rw [hlen.out, hfin.out, List.flatMap_append]
  exact own_lower ho9.out hB3.size

set_option maxHeartbeats 4000000 in
theorem isPen_any (A : Option Addr) (n c lo hi : Nat) (L : List Pn) (t : Bool) (ht : t = penB L) (w : World) (hr : RdS 2 (FlatR ptC) w lo hi A n L) (hhi : hi ≤ w.heap.size) (hn : n ≤ 1000000000) :
    Calls Tryz.prog 29 #[.slice A n c] w fun e w' => e = .returned (.bool t) ∧ Below w.heap.size w w' := by
  have hll := hr.1
  have htu : t = (inB n 1 16 && (L.all pt2Ok && decide (hullL L = L))) := by rw [ht, penB, hll]
  replace htu := Lib.hid htu
  clear ht
  by_cases h1 : 1 ≤ n
  rotate_left
  · have htf : t = false := by rw [htu.out, show inB n 1 16 = false by rw [inB_false]; omega]; rfl
    have h1i : ¬ (1 : Int) ≤ (n : Int) := by omega
    have h1b : decide ((1 : Int) ≤ (n : Int)) = false := decide_eq_false h1i
    have h1c : decide (1 ≤ n) = false := decide_eq_false h1
    subst htf
    clear hr hll
    go_enter Tryz.func29, Tryz.ntmps29
    go_wp2_with fail
    go_ret
    exact ⟨rfl, Below.refl _ _⟩
  have h1i : (1 : Int) ≤ (n : Int) := by omega
  have h1b : decide ((1 : Int) ≤ (n : Int)) = true := decide_eq_true h1i
  have h1c : decide (1 ≤ n) = true := decide_eq_true h1
  by_cases h16 : n ≤ 16
  rotate_left
  · have htf : t = false := by rw [htu.out, show inB n 1 16 = false by rw [inB_false]; omega]; rfl
    have h2i : ¬ (n : Int) ≤ 16 := by omega
    have h2b : decide ((n : Int) ≤ 16) = false := decide_eq_false h2i
    have h2c : decide (n ≤ 16) = false := decide_eq_false h16
    subst htf
    clear hr hll
    go_enter Tryz.func29, Tryz.ntmps29
    go_wp2_with fail
    go_ret
    exact ⟨rfl, Below.refl _ _⟩
  have h2i : (n : Int) ≤ 16 := by omega
  have h2b : decide ((n : Int) ≤ 16) = true := decide_eq_true h2i
  have h2c : decide (n ≤ 16) = true := decide_eq_true h16
  have htv : t = (L.all pt2Ok && decide (hullL L = L)) := by rw [htu.out, show inB n 1 16 = true from inB_iff.2 (by omega)]; rfl
  obtain ⟨v, hv⟩ : ∃ v, v = L.all pt2Ok := ⟨_, rfl⟩
  have hc2 := Lib.hid (validPts_any A n c lo hi L v hv w hr hhi (by omega))
  rw [← hv] at htv
  replace htv := Lib.hid htv
  cases v with
  | false =>
    have htf : t = false := by rw [htv.out]; rfl
    subst htf
    clear hv hr hll
    go_enter Tryz.func29, Tryz.ntmps29
    go_wp2_with fail
    refine hc2.out.mono ?_
    rintro e w2 ⟨rfl, hb2⟩
    go_wp2_with fail
    go_ret
    exact ⟨rfl, hb2⟩
  | true =>
  have hok : ∀ p ∈ L, pt2Ok p = true := List.all_eq_true.1 hv.symm
  replace hr := Lib.hid hr
  replace hok := Lib.hid hok
  replace hll := Lib.hid hll
  clear hv
  go_enter Tryz.func29, Tryz.ntmps29
  go_wp2_with fail
  refine hc2.out.mono ?_
  rintro e w2 ⟨rfl, hb2⟩
  have hr2 := Lib.hid (hr.out.frame (good_flat _) (Below.sameB hb2 hhi))
  have hc3 := Lib.hid (hullOf_any A n c lo hi L w2 hr2.out (Nat.le_trans hhi hb2.size) h1 (by omega) hok.out)
  clear hc2
  go_wp2_with fail
  refine hc3.out.mono ?_
  rintro e w3 ⟨A3, c3, rfl, ho3, hb3⟩
  have hB3 := hb2.trans (hb3.mono hb2.size)
  have hhl := hull_len L
  have hr3 := rdS_own ptC_len (by omega) ho3 rfl
  obtain ⟨m, hm⟩ : ∃ m, m = (hullL L).length := ⟨_, rfl⟩
  rw [← hm] at hr3 hhl ⊢
  obtain ⟨x, hx⟩ : ∃ x, x = decide (hullL L = L) := ⟨_, rfl⟩
  have hc4 := Lib.hid (equalPt_any A3 A m c3 n c w2.heap.size w3.heap.size lo hi (hullL L) L x hx w3 hr3 (hr2.out.frame (good_flat _) (Below.sameB hb3 (Nat.le_trans hhi hb2.size))) (Nat.le_refl _) (Nat.le_trans hhi hB3.size) (by have := hll.out; omega) (by omega))
  have htx : t = x := by rw [htv.out, hx]; rfl
  subst htx
  replace hm := Lib.hid hm
  replace hx := Lib.hid hx
  clear ho3 hr3 hc3
  go_wp2_with fail
  refine hc4.out.mono ?_
  rintro e w4 ⟨rfl, q, rfl⟩
  go_wp2_with fail
  go_ret
  exact ⟨rfl, below_drewN hB3 _⟩
end Go.Proofs.YtfkidklpjiiclaaGreat

