/- The pens and paths of a scene, the reference's side. Printed by mk_vs7.py. Conditions: as each states. -/
import Derived.Test.YtfkidklpjiiclaaGreatTe10
import Derived.Test.YtfkidklpjiiclaaGreatTe12
import Derived.Test.YtfkidklpjiiclaaGreatTe23
import Derived.Test.YtfkidklpjiiclaaGreatTe25
import Derived.Test.YtfkidklpjiiclaaGreatTe01
import Derived.Test.YtfkidklpjiiclaaGreatTe05
import Derived.Test.YtfkidklpjiiclaaGreatTe13
import Derived.Test.YtfkidklpjiiclaaGreatTe09
import Derived.Test.YtfkidklpjiiclaaGreatTe08
namespace Go.Proofs.YtfkidklpjiiclaaGreat
open Go.RowKit
set_option linter.unusedVariables false
set_option maxRecDepth 100000

abbrev zPen : NamedPenD := ⟨ByteArray.empty, []⟩
abbrev zPath : NamedPathD := ⟨ByteArray.empty, [], false⟩
def pathB (L : List Pn) : Bool := inB L.length 1 400 && L.all pt2Ok
def okPen (L : List NamedPenD) (k : Nat) : Bool := nameB (L.getD k zPen).name && (decide (penIdx L (L.getD k zPen).name = k) && penB (L.getD k zPen).L)
def okPath (L : List NamedPathD) (k : Nat) : Bool := nameB (L.getD k zPath).name && (decide (npathIdx L (L.getD k zPath).name = k) && pathB (L.getD k zPath).L)
theorem okPen_at {L : List NamedPenD} {k : Nat} {d : NamedPenD} (h : L[k]? = some d) : okPen L k = (nameB d.name && (decide (penIdx L d.name = k) && penB d.L)) := by unfold okPen; rw [getD_some h]
theorem okPath_at {L : List NamedPathD} {k : Nat} {d : NamedPathD} (h : L[k]? = some d) : okPath L k = (nameB d.name && (decide (npathIdx L d.name = k) && pathB d.L)) := by unfold okPath; rw [getD_some h]
def listsB (P : List NamedPenD) (Q : List NamedPathD) : Bool := ((List.range P.length).all (okPen P) && (List.range Q.length).all (okPath Q)) && (decide (P.length ≤ 12) && decide (Q.length ≤ 24))
theorem lists_no1 {P : List NamedPenD} {Q : List NamedPathD} {k : Nat} (hk : k < P.length) (h : okPen P k = false) : listsB P Q = false := by unfold listsB; rw [all_range_no hk h]; simp
theorem lists_no2 {P : List NamedPenD} {Q : List NamedPathD} {k : Nat} (hk : k < Q.length) (h : okPath Q k = false) : listsB P Q = false := by unfold listsB; rw [all_range_no hk h]; simp
theorem lists_all {P : List NamedPenD} {Q : List NamedPathD} (h : ∀ j, j < P.length → okPen P j = true) (h' : ∀ j, j < Q.length → okPath Q j = true) : listsB P Q = (decide (P.length ≤ 12) && decide (Q.length ≤ 24)) := by
  unfold listsB
  rw [List.all_eq_true.2 fun j hj => h j (List.mem_range.1 hj), List.all_eq_true.2 fun j hj => h' j (List.mem_range.1 hj)]; rfl

set_option maxHeartbeats 16000000 in
theorem l08Lists_any (p o : Nat) (PA QA : Option Addr) (Pn_ Pc Qn Qc lo hi : Nat) (P : List NamedPenD) (Q : List NamedPathD) (t : Bool) (ht : t = listsB P Q) (w : World) (hp : p < w.heap.size)
    (c1 : w.cell? ⟨p, o + 1, none⟩ = some (.slice PA Pn_ Pc)) (c2 : w.cell? ⟨p, o + 2, none⟩ = some (.slice QA Qn Qc)) (hrP : pensRd w lo hi PA Pn_ P) (hrQ : npathsRd w lo hi QA Qn Q) (hhi : hi ≤ w.heap.size)
    (hmP : SmL penLen 1000000000 P) (hmQ : SmL pathLen 1000000000 Q) (hsP : ∀ g ∈ P, g.str) (hsQ : ∀ g ∈ Q, g.str) :
    Calls Tryz.prog 52 #[.pointer (some ⟨p, o, none⟩)] w fun e w' => e = .returned (.bool t) ∧ Below w.heap.size w w' := by
  have hP : Pn_ ≤ 1000000000 := Nat.le_trans (Nat.le_of_eq hrP.1.symm) hmP.1
  have hQ : Qn ≤ 1000000000 := Nat.le_trans (Nat.le_of_eq hrQ.1.symm) hmQ.1
  have hlP := Lib.hid hrP.1
  have hlQ := Lib.hid hrQ.1
  replace hrP := Lib.hid hrP
  replace hrQ := Lib.hid hrQ
  replace hmP := Lib.hid hmP
  replace hmQ := Lib.hid hmQ
  replace hsP := Lib.hid hsP
  replace hsQ := Lib.hid hsQ
  replace ht := Lib.hid ht
  go_enter Tryz.func52, Tryz.ntmps52
  go_wp2_with fail
  go_loopw [3] (fun i wr => ∃ k : Nat, i = .int .i64 k ∧ k ≤ Pn_ ∧ (∀ j, j < k → okPen P j = true) ∧ Below w.heap.size w wr) (fun i wr => Pn_ - (intOf i).toNat)
  case atStart => exact ⟨0, rfl, Nat.zero_le _, fun j hj => absurd hj (Nat.not_lt_zero j), Below.refl _ _⟩
  case round =>
  obtain ⟨k, rfl, hk, hall, hbel⟩ := hrel
  replace hall := Lib.hid hall
  have hsz := hbel.size
  have hbX := hbel
  have k1 := (hbel.cell (p := ⟨p, o + 1, none⟩) hp).trans c1
  have k2 := (hbel.cell (p := ⟨p, o + 2, none⟩) hp).trans c2
  have hpw : p < wr.heap.size := Nat.lt_of_lt_of_le hp hsz
  by_cases hlt : k < Pn_
  rotate_left
  · have hallP := Lib.hid (fun j (hj : j < P.length) => hall.out j (by have := hlP.out; omega))
    have hbP := hbel
    go_wp2_with fail
    generalize wr = xr at *
    clear hbel hall hsz hbX k1 k2 hpw
    go_loopw [4] (fun i wr => ∃ k : Nat, i = .int .i64 k ∧ k ≤ Qn ∧ (∀ j, j < k → okPath Q j = true) ∧ Below w.heap.size w wr) (fun i wr => Qn - (intOf i).toNat)
    case atStart => exact ⟨0, rfl, Nat.zero_le _, fun j hj => absurd hj (Nat.not_lt_zero j), hbP⟩
    case round =>
    obtain ⟨k, rfl, hk, hall, hbel⟩ := hrel
    replace hall := Lib.hid hall
    have hsz := hbel.size
    have hbX := hbel
    have k1 := (hbel.cell (p := ⟨p, o + 1, none⟩) hp).trans c1
    have k2 := (hbel.cell (p := ⟨p, o + 2, none⟩) hp).trans c2
    have hpw : p < wr.heap.size := Nat.lt_of_lt_of_le hp hsz
    by_cases hlt : k < Qn
    rotate_left
    · have htt : t = (decide ((Pn_ : Int) ≤ 12) && decide ((Qn : Int) ≤ 24)) := by
        rw [ht.out, lists_all hallP.out (fun j hj => hall.out j (by have := hlQ.out; omega)), hlP.out, hlQ.out]
        congr 1 <;> rw [decide_eq_decide] <;> omega
      replace htt := Lib.hid htt
      by_cases h12 : Pn_ ≤ 12
      · have h1 : decide ((Pn_ : Int) ≤ 12) = true := decide_eq_true (by omega)
        have h2 : (Pn_ : Int) ≤ 12 := by omega
        have htq : t = decide ((Qn : Int) ≤ 24) := by rw [htt.out, h1]; rfl
        replace htq := Lib.hid htq
        go_wp2_with fail
        go_ret
        exact ⟨by rw [htq.out]; simp, hbel⟩
      · have h1 : decide ((Pn_ : Int) ≤ 12) = false := decide_eq_false (by omega)
        have h2 : ¬ (Pn_ : Int) ≤ 12 := by omega
        have htq : t = false := by rw [htt.out, h1]; rfl
        subst htq
        go_wp2_with fail
        go_ret
        exact ⟨rfl, hbel⟩
    have hkl : k < Q.length := by rw [hlQ.out]; exact hlt
    obtain ⟨b1, f1, ⟨x0, K1, x2⟩, ⟨A1, n1, c1'⟩, rfl, hba, hbx, hja, hcs, hr1⟩ := npath_at (hrQ.out.frame good_npath (Below.sameB hbel hhi)) hlt
    have q0 := hcs 0 _ rfl
    have q1 := hcs 1 _ rfl
    have q2 := hcs 2 _ rfl
    simp only [Nat.add_zero] at q0 q1 q2
    have hbw : b1 < wr.heap.size := by omega
    have hki : (0 : Int) ≤ (k : Int) ∧ (k : Int) < (Qn : Int) := by omega
    have hst := hsQ.out _ (List.mem_of_getElem? hja)
    have hsx : x0.size ≤ 9223372036854775807 := by have := hst.1; unfold maxLen at this; exact this
    have hn1 : n1 ≤ 1000000000 := Nat.le_trans (Nat.le_of_eq hr1.1.symm) (hmQ.out.2 _ (List.mem_of_getElem? hja))
    have hal := okPath_at hja
    obtain ⟨tN, hN⟩ : ∃ u, u = nameB x0 := ⟨_, rfl⟩
    obtain ⟨ix, hix⟩ : ∃ u, u = npathIdx Q x0 := ⟨_, rfl⟩
    have hcn := Lib.hid (specIsName_k x0 tN hN wr hsx)
    have hcx := l08Path_any p o x0 (some ⟨b1, f1, none⟩) Qn _ lo hi Q wr k2 (hrQ.out.frame good_npath (Below.sameB hbel hhi)) (Nat.le_trans hhi hsz) hQ
    rw [← hix] at hcx
    replace hcx := Lib.hid hcx
    have hll1 := Lib.hid hr1.1
    replace hr1 := Lib.hid hr1
    obtain ⟨tB, hB⟩ : ∃ u, u = pathB K1 := ⟨_, rfl⟩
    obtain ⟨tI, hI⟩ : ∃ u, u = inB n1 1 400 := ⟨_, rfl⟩
    have hci := Lib.hid (l00In_k n1 1 400 tI hI wr)
    simp only at hal
    rw [← hN, ← hix, ← hB] at hal
    replace hal := Lib.hid hal
    replace hN := Lib.hid hN
    replace hix := Lib.hid hix
    replace hB := Lib.hid hB
    clear hcs hst hsx hja
    go_wp2_with fail
    refine hcn.out.mono ?_
    rintro e w1 ⟨rfl, rfl⟩
    cases tN with
    | false =>
      have hok : okPath Q k = false := by rw [hal.out]; rfl
      have htf : t = false := by rw [ht.out]; exact lists_no2 hkl hok
      subst htf
      clear hok
      go_wp2_with fail
      go_ret
      exact ⟨rfl, hbX⟩
    | true =>
    go_wp2_with fail
    refine hcx.out.mono ?_
    rintro e w2 ⟨rfl, rfl⟩
    by_cases hxe : ix = (k : Int)
    rotate_left
    · have hok : okPath Q k = false := by rw [hal.out, decide_eq_false hxe]; rfl
      have htf : t = false := by rw [ht.out]; exact lists_no2 hkl hok
      have hx2 : (ix != (k : Int)) = true := by simp [hxe]
      have hx3 : (ix == (k : Int)) = false := by simp [hxe]
      clear hxe
      subst htf
      clear hok
      go_wp2_with fail
      go_ret
      exact ⟨rfl, hbX⟩
    have hx2 : (ix != (k : Int)) = false := by simp [hxe]
    have hx3 : (ix == (k : Int)) = true := by simp [hxe]
    replace hxe := Lib.hid hxe
    go_wp2_with fail
    refine hci.out.mono ?_
    rintro e w3 ⟨rfl, rfl⟩
    cases tI with
    | false =>
      have hok : okPath Q k = false := by rw [hal.out, hB.out, pathB, hll1.out, ← hI]; simp
      have htf : t = false := by rw [ht.out]; exact lists_no2 hkl hok
      clear hI
      subst htf
      clear hok
      go_wp2_with fail
      go_ret
      exact ⟨rfl, hbX⟩
    | true =>
    have hn400 : n1 ≤ 400 := by have := (inB_iff.1 hI.symm).2; omega
    obtain ⟨tV, hV⟩ : ∃ u, u = K1.all pt2Ok := ⟨_, rfl⟩
    have htB : tB = tV := by rw [hB.out, pathB, hll1.out, ← hI, hV]; rfl
    have hcb := Lib.hid (l13Points_any A1 n1 c1' lo hi K1 tV hV _ hr1.out (Nat.le_trans hhi hsz) (by omega))
    replace hI := Lib.hid hI
    replace hV := Lib.hid hV
    subst htB
    go_wp2_with fail
    refine hcb.out.mono ?_
    rintro e w4 ⟨rfl, hb4⟩
    replace hbX := hbel.trans (hb4.mono hsz)
    cases tB with
    | false =>
      have hok : okPath Q k = false := by rw [hal.out]; simp
      have htf : t = false := by rw [ht.out]; exact lists_no2 hkl hok
      subst htf
      clear hok
      go_wp2_with fail
      go_ret
      exact ⟨rfl, hbX⟩
    | true =>
      have hok : okPath Q k = true := by rw [hal.out, hxe.out]; simp
      replace hok := Lib.hid hok
      go_wp2_with fail
      go_roundw
      case rel => exact ⟨k + 1, by go_num, by omega, all_next hall.out hok.out, hbX⟩
      case measure => simp [intOf]; omega

  have hkl : k < P.length := by rw [hlP.out]; exact hlt
  obtain ⟨b1, f1, ⟨x0, K1⟩, ⟨A1, n1, c1'⟩, rfl, hba, hbx, hja, hcs, hr1⟩ := pen_at (hrP.out.frame good_pen (Below.sameB hbel hhi)) hlt
  have q0 := hcs 0 _ rfl
  have q1 := hcs 1 _ rfl
  simp only [Nat.add_zero] at q0 q1
  have hbw : b1 < wr.heap.size := by omega
  have hki : (0 : Int) ≤ (k : Int) ∧ (k : Int) < (Pn_ : Int) := by omega
  have hst := hsP.out _ (List.mem_of_getElem? hja)
  have hsx : x0.size ≤ 9223372036854775807 := by have := hst.1; unfold maxLen at this; exact this
  have hn1 : n1 ≤ 1000000000 := Nat.le_trans (Nat.le_of_eq hr1.1.symm) (hmP.out.2 _ (List.mem_of_getElem? hja))
  have hal := okPen_at hja
  obtain ⟨tN, hN⟩ : ∃ u, u = nameB x0 := ⟨_, rfl⟩
  obtain ⟨ix, hix⟩ : ∃ u, u = penIdx P x0 := ⟨_, rfl⟩
  have hcn := Lib.hid (specIsName_k x0 tN hN wr hsx)
  have hcx := l08Pen_any p o x0 (some ⟨b1, f1, none⟩) Pn_ _ lo hi P wr k1 (hrP.out.frame good_pen (Below.sameB hbel hhi)) (Nat.le_trans hhi hsz) hP
  rw [← hix] at hcx
  replace hcx := Lib.hid hcx
  have hll1 := Lib.hid hr1.1
  replace hr1 := Lib.hid hr1
  obtain ⟨tB, hB⟩ : ∃ u, u = penB K1 := ⟨_, rfl⟩
  have hcb := Lib.hid (l11Pen_any A1 n1 c1' lo hi K1 tB hB wr hr1.out (Nat.le_trans hhi hbel.size) hn1)
  simp only at hal
  rw [← hN, ← hix, ← hB] at hal
  replace hal := Lib.hid hal
  replace hN := Lib.hid hN
  replace hix := Lib.hid hix
  replace hB := Lib.hid hB
  clear hcs hst hsx hja
  go_wp2_with fail
  refine hcn.out.mono ?_
  rintro e w1 ⟨rfl, rfl⟩
  cases tN with
  | false =>
    have hok : okPen P k = false := by rw [hal.out]; rfl
    have htf : t = false := by rw [ht.out]; exact lists_no1 hkl hok
    subst htf
    clear hok
    go_wp2_with fail
    go_ret
    exact ⟨rfl, hbX⟩
  | true =>
  go_wp2_with fail
  refine hcx.out.mono ?_
  rintro e w2 ⟨rfl, rfl⟩
  by_cases hxe : ix = (k : Int)
  rotate_left
  · have hok : okPen P k = false := by rw [hal.out, decide_eq_false hxe]; rfl
    have htf : t = false := by rw [ht.out]; exact lists_no1 hkl hok
    have hx2 : (ix != (k : Int)) = true := by simp [hxe]
    have hx3 : (ix == (k : Int)) = false := by simp [hxe]
    clear hxe
    subst htf
    clear hok
    go_wp2_with fail
    go_ret
    exact ⟨rfl, hbX⟩
  have hx2 : (ix != (k : Int)) = false := by simp [hxe]
  have hx3 : (ix == (k : Int)) = true := by simp [hxe]
  replace hxe := Lib.hid hxe
  go_wp2_with fail
  refine hcb.out.mono ?_
  rintro e w3 ⟨rfl, hb3⟩
  replace hbX := hbel.trans (hb3.mono hsz)
  cases tB with
  | false =>
    have hok : okPen P k = false := by rw [hal.out]; simp
    have htf : t = false := by rw [ht.out]; exact lists_no1 hkl hok
    subst htf
    clear hok
    go_wp2_with fail
    go_ret
    exact ⟨rfl, hbX⟩
  | true =>
    have hok : okPen P k = true := by rw [hal.out, hxe.out]; simp
    replace hok := Lib.hid hok
    go_wp2_with fail
    go_roundw
    case rel => exact ⟨k + 1, by go_num, by omega, all_next hall.out hok.out, hbX⟩
    case measure => simp [intOf]; omega
end Go.Proofs.YtfkidklpjiiclaaGreat

/- Parts before what they are parts of: the order and the depths, in numbers alone. No program in sight. Conditions: as each states. -/
namespace Go.Proofs.YtfkidklpjiiclaaGreat
set_option linter.unusedVariables false
set_option maxRecDepth 100000

def stepO (T : List (List Int)) (out : List Int) (i : Nat) : List Int := match T[i]? with
  | none => out
  | some ps => if (i : Int) ∈ out then out else if ∀ p ∈ ps, p ∈ out then out ++ [(i : Int)] else out
def passK (T : List (List Int)) (out : List Int) : Nat → List Int
  | 0 => out
  | k + 1 => stepO T (passK T out k) k
def orderF (T : List (List Int)) : Nat → List Int → List Int
  | 0, out => out
  | f + 1, out => if (passK T out T.length).length = out.length then out else orderF T f (passK T out T.length)
def order (T : List (List Int)) : List Int := orderF T (T.length + 1) []

structure Ord (T : List (List Int)) (out : List Int) : Prop where
  nodup : out.Nodup
  rng : ∀ x ∈ out, 0 ≤ x ∧ x.toNat < T.length
  ready : ∀ (t : Nat) (x : Int), out[t]? = some x → ∀ ps, T[x.toNat]? = some ps → ∀ p ∈ ps, p ∈ out.take t
theorem Ord.nil (T : List (List Int)) : Ord T [] := ⟨List.nodup_nil, fun x h => by simp at h, fun t x h => by simp at h⟩
theorem stepO_in {T : List (List Int)} {out : List Int} {i : Nat} (h : (i : Int) ∈ out) : stepO T out i = out := by
  unfold stepO; split <;> simp [h]
theorem stepO_wait {T : List (List Int)} {out : List Int} {i : Nat} {ps : List Int} (hi : T[i]? = some ps) (h : ¬ ∀ p ∈ ps, p ∈ out) : stepO T out i = out := by
  unfold stepO; rw [hi]; simp only; rw [if_neg h]; split <;> rfl
theorem stepO_add {T : List (List Int)} {out : List Int} {i : Nat} {ps : List Int} (hi : T[i]? = some ps) (h0 : (i : Int) ∉ out) (h : ∀ p ∈ ps, p ∈ out) : stepO T out i = out ++ [(i : Int)] := by
  unfold stepO; rw [hi]; simp only; rw [if_neg h0, if_pos h]
theorem stepO_cases (T : List (List Int)) (out : List Int) (i : Nat) : stepO T out i = out ∨ ∃ ps, T[i]? = some ps ∧ (i : Int) ∉ out ∧ (∀ p ∈ ps, p ∈ out) ∧ stepO T out i = out ++ [(i : Int)] := by
  cases hi : T[i]? with
  | none => left; unfold stepO; rw [hi]
  | some ps =>
    by_cases h0 : (i : Int) ∈ out
    · exact .inl (stepO_in h0)
    · by_cases h : ∀ p ∈ ps, p ∈ out
      · exact .inr ⟨ps, rfl, h0, h, stepO_add hi h0 h⟩
      · exact .inl (stepO_wait hi h)
theorem Ord.step {T : List (List Int)} {out : List Int} (h : Ord T out) (i : Nat) : Ord T (stepO T out i) := by
  rcases stepO_cases T out i with e | ⟨ps, hi, h0, hp, e⟩
  · rw [e]; exact h
  · rw [e]
    have hil := (List.getElem?_eq_some_iff.1 hi).1
    refine ⟨?_, ?_, ?_⟩
    · rw [List.nodup_append]
      refine ⟨h.nodup, by simp, fun a ha b hb => ?_⟩
      simp at hb; subst hb; rintro rfl; exact h0 ha
    · intro x hx
      rcases List.mem_append.1 hx with hx | hx
      · exact h.rng x hx
      · simp at hx; subst hx; exact ⟨by omega, by simpa using hil⟩
    · intro t x ht ps' hps p hpp
      rcases Nat.lt_or_ge t out.length with hlt | hge
      · rw [List.getElem?_append_left hlt] at ht
        rw [List.take_append_of_le_length (by omega)]
        exact h.ready t x ht ps' hps p hpp
      · rw [List.getElem?_append_right hge] at ht
        have h1 : t - out.length = 0 := by
          rcases Nat.eq_zero_or_pos (t - out.length) with h | h
          · exact h
          · rw [List.getElem?_eq_none (by simp; omega)] at ht; cases ht
        rw [h1] at ht
        simp at ht
        subst ht
        rw [Int.toNat_natCast, hi] at hps
        injection hps with hps
        subst hps
        have : t = out.length := by omega
        subst this
        rw [List.take_left]
        exact hp p hpp
theorem Ord.passK {T : List (List Int)} {out : List Int} (h : Ord T out) (k : Nat) : Ord T (passK T out k) := by
  induction k with
  | zero => exact h
  | succ k ih => exact ih.step k
theorem stepO_pre (T : List (List Int)) (out : List Int) (i : Nat) : ∃ s, stepO T out i = out ++ s := by
  rcases stepO_cases T out i with e | ⟨ps, hi, h0, hp, e⟩
  · exact ⟨[], by rw [e]; simp⟩
  · exact ⟨_, e⟩
theorem passK_pre (T : List (List Int)) (out : List Int) (k : Nat) : ∃ s, passK T out k = out ++ s := by
  induction k with
  | zero => exact ⟨[], by simp [passK]⟩
  | succ k ih =>
    obtain ⟨s, h⟩ := ih
    obtain ⟨s', h'⟩ := stepO_pre T (passK T out k) k
    exact ⟨s ++ s', by rw [passK, h', h, List.append_assoc]⟩
theorem passK_le (T : List (List Int)) (out : List Int) (k : Nat) : out.length ≤ (passK T out k).length := by
  obtain ⟨s, h⟩ := passK_pre T out k
  rw [h, List.length_append]; omega
theorem passK_eq {T : List (List Int)} {out : List Int} {k : Nat} (h : (passK T out k).length = out.length) : passK T out k = out := by
  obtain ⟨s, e⟩ := passK_pre T out k
  rw [e, List.length_append] at h
  have : s = [] := List.eq_nil_of_length_eq_zero (by omega)
  rw [e, this, List.append_nil]
theorem nodup_le {l : List Nat} {n : Nat} (hd : l.Nodup) (h : ∀ x ∈ l, x < n) : l.length ≤ n := by
  induction n generalizing l with
  | zero =>
    cases l with
    | nil => simp
    | cons a l => exact absurd (h a (by simp)) (by omega)
  | succ n ih =>
    have h1 : (l.erase n).length ≤ n := by
      refine ih (hd.erase n) fun x hx => ?_
      have hx' := (hd.mem_erase_iff).1 hx
      have := h x hx'.2
      omega
    by_cases hm : n ∈ l
    · rw [List.length_erase_of_mem hm] at h1; omega
    · rw [List.erase_of_not_mem hm] at h1; omega
theorem Ord.le {T : List (List Int)} {out : List Int} (h : Ord T out) : out.length ≤ T.length := by
  have h1 : (out.map Int.toNat).Nodup := by
    unfold List.Nodup
    rw [List.pairwise_map]
    refine List.Pairwise.imp_of_mem (fun {a b} ha hb hne => ?_) h.nodup
    have := h.rng a ha
    have := h.rng b hb
    omega
  have h2 := nodup_le h1 (n := T.length) fun x hx => by
    obtain ⟨a, ha, rfl⟩ := List.mem_map.1 hx
    exact (h.rng a ha).2
  simpa using h2
/-- what is still to come leads to the order -/
structure OrdTo (T : List (List Int)) (out : List Int) (f : Nat) : Prop where
  ord : Ord T out
  ordEq : order T = orderF T f out
  fuel : T.length + 1 ≤ out.length + f
theorem OrdTo.start (T : List (List Int)) : OrdTo T [] (T.length + 1) := ⟨Ord.nil T, rfl, by simp⟩
theorem OrdTo.done {T : List (List Int)} {out : List Int} {f : Nat} (h : OrdTo T out f) (he : (passK T out T.length).length = out.length) : order T = out := by
  have := h.ord.le
  have := h.fuel
  obtain ⟨g, rfl⟩ : ∃ g, f = g + 1 := ⟨f - 1, by omega⟩
  rw [h.ordEq, orderF, if_pos he]
theorem OrdTo.next {T : List (List Int)} {out : List Int} {f : Nat} (h : OrdTo T out f) (he : (passK T out T.length).length ≠ out.length) : ∃ g, f = g + 1 ∧ OrdTo T (passK T out T.length) g := by
  have := h.ord.le
  have := h.fuel
  have hp := passK_le T out T.length
  obtain ⟨g, rfl⟩ : ∃ g, f = g + 1 := ⟨f - 1, by omega⟩
  exact ⟨g, rfl, h.ord.passK _, by rw [h.ordEq, orderF, if_neg he], by omega⟩
theorem OrdTo.full {T : List (List Int)} {out : List Int} {f : Nat} (h : OrdTo T out f) (hl : out.length = T.length) : order T = out := by
  refine h.done ?_
  have := (h.ord.passK T.length).le
  have := passK_le T out T.length
  omega
theorem orderF_ord {T : List (List Int)} : ∀ (f : Nat) {out : List Int}, Ord T out → Ord T (orderF T f out) := by
  intro f
  induction f with
  | zero => intro out h; exact h
  | succ f ih =>
    intro out h
    unfold orderF
    split
    · exact h
    · exact ih (h.passK _)
theorem order_ord (T : List (List Int)) : Ord T (order T) := orderF_ord _ (Ord.nil T)
/-- each number stands in a full list -/
theorem Ord.mem_of_full {T : List (List Int)} {out : List Int} (h : Ord T out) (hl : out.length = T.length) {i : Nat} (hi : i < T.length) : (i : Int) ∈ out := by
  by_cases hm : (i : Int) ∈ out
  · exact hm
  · have h1 : ((i : Int) :: out).map Int.toNat |>.Nodup := by
      unfold List.Nodup
      rw [List.pairwise_map]
      refine List.Pairwise.imp_of_mem (R := fun a b => a ≠ b) (fun {a b} ha hb hne => ?_) (List.nodup_cons.2 ⟨hm, h.nodup⟩)
      have ha' : 0 ≤ a := by
        rcases List.mem_cons.1 ha with rfl | ha
        · omega
        · exact (h.rng a ha).1
      have hb' : 0 ≤ b := by
        rcases List.mem_cons.1 hb with rfl | hb
        · omega
        · exact (h.rng b hb).1
      omega
    have h2 := nodup_le h1 (n := T.length) fun x hx => by
      obtain ⟨a, ha, rfl⟩ := List.mem_map.1 hx
      rcases List.mem_cons.1 ha with rfl | ha
      · simpa using hi
      · exact (h.rng a ha).2
    simp at h2
    omega
theorem Ord.parts_lt {T : List (List Int)} {out : List Int} (h : Ord T out) (hl : out.length = T.length) {i : Nat} {ps : List Int} (hi : T[i]? = some ps) {p : Int} (hp : p ∈ ps) : 0 ≤ p ∧ p.toNat < T.length := by
  have hil := (List.getElem?_eq_some_iff.1 hi).1
  obtain ⟨t, ht⟩ := List.getElem?_of_mem (h.mem_of_full hl hil)
  exact h.rng p (List.mem_of_mem_take (h.ready t _ ht ps (by rw [Int.toNat_natCast]; exact hi) p hp))

/-! ### depths -/
def dOf (D : Int → Int) (ps : List Int) : Int := ps.foldl (fun m p => max m (D p + 1)) 0
def depF (T : List (List Int)) (out : List Int) : Int → Int := out.foldl (fun D x => fun j => if j = x then dOf D ((T[x.toNat]?).getD []) else D j) (fun _ => -1)
theorem depF_nil (T : List (List Int)) (j : Int) : depF T [] j = -1 := rfl
theorem depF_snoc (T : List (List Int)) (out : List Int) (x j : Int) : depF T (out ++ [x]) j = if j = x then dOf (depF T out) ((T[x.toNat]?).getD []) else depF T out j := by
  unfold depF; rw [List.foldl_append]; rfl
theorem dOf_snoc (D : Int → Int) (ps : List Int) (p : Int) : dOf D (ps ++ [p]) = max (dOf D ps) (D p + 1) := by
  unfold dOf; rw [List.foldl_append]; rfl
theorem list_snoc_ind {α : Type} {motive : List α → Prop} (l : List α) (h0 : motive []) (h1 : ∀ l a, motive l → motive (l ++ [a])) : motive l := by
  have : ∀ n (l : List α), l.length = n → motive l := by
    intro n
    induction n with
    | zero => intro l hl; rw [List.eq_nil_of_length_eq_zero hl]; exact h0
    | succ n ih =>
      intro l hl
      have hne : l ≠ [] := by rintro rfl; simp at hl
      rw [← List.dropLast_concat_getLast hne]
      exact h1 _ _ (ih _ (by rw [List.length_dropLast]; omega))
  exact this _ l rfl
theorem dOf_bd (D : Int → Int) (ps : List Int) (B : Int) (h0 : 0 ≤ B) (h : ∀ p ∈ ps, D p + 1 ≤ B) : 0 ≤ dOf D ps ∧ dOf D ps ≤ B := by
  induction ps using list_snoc_ind with
  | h0 => exact ⟨Int.le_refl _, h0⟩
  | h1 l a ih =>
    rw [dOf_snoc]
    have := ih fun p hp => h p (by simp [hp])
    have := h a (by simp)
    omega
theorem depF_bd (T : List (List Int)) (out : List Int) (j : Int) : -1 ≤ depF T out j ∧ depF T out j + 1 ≤ out.length := by
  induction out using list_snoc_ind generalizing j with
  | h0 => rw [depF_nil]; simp
  | h1 l a ih =>
    rw [depF_snoc]
    split
    · have := dOf_bd (depF T l) ((T[a.toNat]?).getD []) l.length (by omega) fun p _ => (ih p).2
      simp; omega
    · have := ih j
      simp; omega
theorem depF_out {T : List (List Int)} {out : List Int} {j : Int} (h : j ∉ out) : depF T out j = -1 := by
  induction out using list_snoc_ind with
  | h0 => rfl
  | h1 l a ih =>
    rw [depF_snoc, if_neg (by rintro rfl; exact h (by simp))]
    exact ih fun hm => h (by simp [hm])
theorem depF_in {T : List (List Int)} {out : List Int} {j : Int} (h : j ∈ out) : 0 ≤ depF T out j := by
  induction out using list_snoc_ind with
  | h0 => simp at h
  | h1 l a ih =>
    rw [depF_snoc]
    split
    · exact (dOf_bd (depF T l) _ l.length (by omega) fun p _ => (depF_bd T l p).2).1
    · rename_i hne
      rcases List.mem_append.1 h with h | h
      · exact ih h
      · simp at h; exact absurd h hne
theorem depF_iff {T : List (List Int)} {out : List Int} {j : Int} : 0 ≤ depF T out j ↔ j ∈ out := by
  constructor
  · intro h
    by_cases hm : j ∈ out
    · exact hm
    · rw [depF_out hm] at h; omega
  · exact depF_in
end Go.Proofs.YtfkidklpjiiclaaGreat

/- Whether glyphs and sets of glyphs are valid, in data alone. No walk in sight. Conditions: as each states. -/
namespace Go.Proofs.YtfkidklpjiiclaaGreat
set_option linter.unusedVariables false
set_option maxRecDepth 100000

def partOk (p : Part) : Bool := inB p.1 0 39 && ptOk p.2.1 p.2.2
def anchFree (L : List Anch) (a : Anch) : Bool := L.all fun b => decide (b.1 ≠ a.1)
def anchAt (L : List Anch) (j : Nat) : Bool := match L[j]? with
  | some a => nameB a.1 && ptOk a.2.1 a.2.2 && anchFree (L.take j) a
  | none => true
def anchsOk (L : List Anch) : Bool := (List.range L.length).all (anchAt L)
def glyphOk (g : Gl) : Bool := nameB g.name && inB g.code (-1) 65535 && inB g.adv 0 262144 && outOk g.out && decide (g.parts.length ≤ 6) && decide (g.anchors.length ≤ 6) && decide (g.hints.size ≤ 400) &&
  g.parts.all partOk && anchsOk g.anchors && (decide (g.parts.length = 0) || decide (g.out.length = 0))
def clash (a b : Gl) : Bool := decide (a.name = b.name) || (decide (0 ≤ a.code) && decide (a.code = b.code))
def glFree (L : List Gl) (g : Gl) : Bool := L.all fun b => !clash b g
def glAt (L : List Gl) (j : Nat) : Bool := match L[j]? with
  | some g => glyphOk g && glFree (L.take j) g
  | none => true
def tgts (L : List Gl) : List (List Int) := L.map fun g => g.parts.map (·.1)
def setOk (s : GSet) : Bool := inB s.unit 16 16384 && decide (s.gl.length ≤ 40) && (List.range s.gl.length).all (glAt s.gl) && decide ((order (tgts s.gl)).length = s.gl.length)

theorem range_step {f : Nat → Bool} {k : Nat} (h : (List.range k).all f = true) (h1 : f k = true) : (List.range (k + 1)).all f = true := by
  rw [List.range_succ, List.all_append, h]; simp [h1]
theorem range_no {f : Nat → Bool} {n k : Nat} (hk : k < n) (h : f k = false) : (List.range n).all f = false := by
  rw [List.all_eq_false]; exact ⟨k, List.mem_range.2 hk, by simp [h]⟩
theorem range_at {f : Nat → Bool} {n k : Nat} (h : (List.range n).all f = true) (hk : k < n) : f k = true := List.all_eq_true.1 h k (List.mem_range.2 hk)
theorem anchAt_eq {L : List Anch} {j : Nat} {a : Anch} (h : L[j]? = some a) : anchAt L j = (nameB a.1 && ptOk a.2.1 a.2.2 && anchFree (L.take j) a) := by unfold anchAt; rw [h]
theorem glAt_eq {L : List Gl} {j : Nat} {g : Gl} (h : L[j]? = some g) : glAt L j = (glyphOk g && glFree (L.take j) g) := by unfold glAt; rw [h]
theorem anchFree_step {L : List Anch} {k : Nat} {a b : Anch} (h : anchFree (L.take k) a = true) (hb : L[k]? = some b) (hne : b.1 ≠ a.1) : anchFree (L.take (k + 1)) a = true := by
  have hl := (List.getElem?_eq_some_iff.1 hb).1
  rw [List.getElem?_eq_getElem hl] at hb; injection hb with hb
  unfold anchFree at *
  rw [List.take_succ_eq_append_getElem hl, List.all_append, h, hb]; simp [hne]
theorem anchFree_no {L : List Anch} {k j : Nat} {a b : Anch} (hk : k < j) (hb : L[k]? = some b) (he : b.1 = a.1) : anchFree (L.take j) a = false := by
  have hl := (List.getElem?_eq_some_iff.1 hb).1
  unfold anchFree
  rw [List.all_eq_false]
  exact ⟨b, List.mem_of_getElem? (i := k) (by rw [List.getElem?_take_of_lt hk]; exact hb), by simp [he]⟩
theorem glFree_step {L : List Gl} {k : Nat} {a b : Gl} (h : glFree (L.take k) a = true) (hb : L[k]? = some b) (hne : clash b a = false) : glFree (L.take (k + 1)) a = true := by
  have hl := (List.getElem?_eq_some_iff.1 hb).1
  rw [List.getElem?_eq_getElem hl] at hb; injection hb with hb
  unfold glFree at *
  rw [List.take_succ_eq_append_getElem hl, List.all_append, h, hb]; simp [hne]
theorem glFree_no {L : List Gl} {k j : Nat} {a b : Gl} (hk : k < j) (hb : L[k]? = some b) (he : clash b a = true) : glFree (L.take j) a = false := by
  unfold glFree
  rw [List.all_eq_false]
  exact ⟨b, List.mem_of_getElem? (i := k) (by rw [List.getElem?_take_of_lt hk]; exact hb), by simp [he]⟩
theorem tgts_length (L : List Gl) : (tgts L).length = L.length := by simp [tgts]
theorem tgts_at {L : List Gl} {j : Nat} {g : Gl} (h : L[j]? = some g) : (tgts L)[j]? = some (g.parts.map (·.1)) := by unfold tgts; rw [List.getElem?_map, h]; rfl
theorem all_noX {α : Type} {f : α → Bool} {L : List α} {k : Nat} {a : α} (h : L[k]? = some a) (hf : f a = false) : L.all f = false := by
  rw [List.all_eq_false]; exact ⟨a, List.mem_of_getElem? h, by simp [hf]⟩
theorem all_stepX {α : Type} {f : α → Bool} {L : List α} {k : Nat} {a : α} (h0 : (L.take k).all f = true) (h : L[k]? = some a) (hf : f a = true) : (L.take (k + 1)).all f = true := by
  have hl := (List.getElem?_eq_some_iff.1 h).1
  rw [List.getElem?_eq_getElem hl] at h; injection h with h
  rw [List.take_succ_eq_append_getElem hl, List.all_append, h0, h]; simp [hf]

/-! ### a glyph's tests, one by one -/
theorem glyph_f1 {g : Gl} (h : nameB g.name = false) : glyphOk g = false := by simp [glyphOk, h]
theorem glyph_f2 {g : Gl} (h : inB g.code (-1) 65535 = false) : glyphOk g = false := by simp [glyphOk, h]
theorem glyph_f3 {g : Gl} (h : inB g.adv 0 262144 = false) : glyphOk g = false := by simp [glyphOk, h]
theorem glyph_f4 {g : Gl} (h : outOk g.out = false) : glyphOk g = false := by simp [glyphOk, h]
theorem glyph_f5 {g : Gl} (h : 6 < g.parts.length) : glyphOk g = false := by simp [glyphOk, Nat.not_le.2 h]
theorem glyph_f6 {g : Gl} (h : 6 < g.anchors.length) : glyphOk g = false := by simp [glyphOk, Nat.not_le.2 h]
theorem glyph_f7 {g : Gl} (h : 400 < g.hints.size) : glyphOk g = false := by simp [glyphOk, Nat.not_le.2 h]
theorem glyph_f8 {g : Gl} {k : Nat} {p : Part} (h : g.parts[k]? = some p) (hp : partOk p = false) : glyphOk g = false := by simp [glyphOk, all_noX h hp]
theorem glyph_f9 {g : Gl} {k : Nat} (h : k < g.anchors.length) (hp : anchAt g.anchors k = false) : glyphOk g = false := by
  have : anchsOk g.anchors = false := range_no h hp
  simp [glyphOk, this]
theorem glyph_f10 {g : Gl} (h : 0 < g.parts.length) (h1 : 0 < g.out.length) : glyphOk g = false := by
  have e1 : ¬ g.parts.length = 0 := by omega
  have e2 : ¬ g.out.length = 0 := by omega
  simp only [glyphOk, e1, e2, decide_false, Bool.or_self, Bool.and_false]
theorem glyph_t {g : Gl} (h1 : nameB g.name = true) (h2 : inB g.code (-1) 65535 = true) (h3 : inB g.adv 0 262144 = true) (h4 : outOk g.out = true) (h5 : g.parts.length ≤ 6) (h6 : g.anchors.length ≤ 6) (h7 : g.hints.size ≤ 400)
    (h8 : (g.parts.take g.parts.length).all partOk = true) (h9 : (List.range g.anchors.length).all (anchAt g.anchors) = true) (h10 : g.parts.length = 0 ∨ g.out.length = 0) : glyphOk g = true := by
  rw [List.take_length] at h8
  have e9 : anchsOk g.anchors = true := h9
  have e10 : (decide (g.parts.length = 0) || decide (g.out.length = 0)) = true := by simpa using h10
  simp only [glyphOk, h1, h2, h3, h4, h5, h6, h7, h8, e9, e10, decide_true, Bool.and_self]
/-- what a valid glyph is -/
theorem glyph_is {g : Gl} (h : glyphOk g = true) : outOk g.out = true ∧ g.parts.length ≤ 6 ∧ g.anchors.length ≤ 6 ∧ g.hints.size ≤ 400 ∧ (∀ p ∈ g.parts, partOk p = true) ∧ (∀ a ∈ g.anchors, ptOk a.2.1 a.2.2 = true) := by
  simp only [glyphOk, Bool.and_eq_true, decide_eq_true_eq, List.all_eq_true] at h
  obtain ⟨⟨⟨⟨⟨⟨⟨⟨⟨h1, h2⟩, h3⟩, h4⟩, h5⟩, h6⟩, h7⟩, h8⟩, h9⟩, h10⟩ := h
  refine ⟨h4, h5, h6, h7, h8, fun a ha => ?_⟩
  obtain ⟨j, hj⟩ := List.getElem?_of_mem ha
  have := range_at h9 (List.getElem?_eq_some_iff.1 hj).1
  rw [anchAt_eq hj] at this
  simp at this
  exact this.1.2
theorem set_f1 {s : GSet} (h : inB s.unit 16 16384 = false) : setOk s = false := by simp [setOk, h]
theorem set_f2 {s : GSet} (h : 40 < s.gl.length) : setOk s = false := by simp [setOk, Nat.not_le.2 h]
theorem set_f3 {s : GSet} {k : Nat} (hk : k < s.gl.length) (h : glAt s.gl k = false) : setOk s = false := by simp [setOk, range_no hk h]
theorem set_f4 {s : GSet} (h : (order (tgts s.gl)).length ≠ s.gl.length) : setOk s = false := by simp [setOk, h]
theorem set_f5 {s : GSet} {k : Nat} {g : Gl} {p : Part} (hg : s.gl[k]? = some g) (hp : p ∈ g.parts) (h : (s.gl.length : Int) ≤ p.1) : setOk s = false := by
  refine set_f4 fun he => ?_
  have := ((order_ord (tgts s.gl)).parts_lt (by rw [he, tgts_length]) (tgts_at hg) (List.mem_map_of_mem (f := (·.1)) hp))
  rw [tgts_length] at this
  omega
theorem set_eq {s : GSet} (h1 : inB s.unit 16 16384 = true) (h2 : s.gl.length ≤ 40) (h3 : (List.range s.gl.length).all (glAt s.gl) = true) : setOk s = decide ((order (tgts s.gl)).length = s.gl.length) := by
  simp only [setOk, h1, h2, h3, decide_true, Bool.true_and]
end Go.Proofs.YtfkidklpjiiclaaGreat

/- The index of an anchor with a name: the program's side. Conditions: as each states. -/
namespace Go.Proofs.YtfkidklpjiiclaaGreat
open Go.RowKit
set_option linter.unusedVariables false
set_option maxRecDepth 100000

/-- the first place of an anchor with a name, or -1 -/
def AnchAt (K : List Anch) (nm : ByteArray) (r : Int) : Prop := (r = -1 ∧ ∀ b ∈ K, b.1 ≠ nm) ∨ ∃ (k : Nat) (a : Anch), r = (k : Int) ∧ K[k]? = some a ∧ a.1 = nm ∧ ∀ b ∈ K.take k, b.1 ≠ nm
theorem AnchAt.free {K : List Anch} {a : Anch} {r : Int} (h : AnchAt K a.1 r) : decide (0 ≤ r) = !anchFree K a := by
  rcases h with ⟨rfl, h⟩ | ⟨k, b, rfl, hb, hn, h⟩
  · have : anchFree K a = true := by unfold anchFree; rw [List.all_eq_true]; intro b hb; simpa using h b hb
    rw [this]; rfl
  · have : anchFree K a = false := by unfold anchFree; rw [List.all_eq_false]; exact ⟨b, List.mem_of_getElem? hb, by simp [hn]⟩
    rw [this]; simp
theorem free_step {K : List Anch} {nm : ByteArray} {k : Nat} {a : Anch} (h : ∀ b ∈ K.take k, b.1 ≠ nm) (hk : K[k]? = some a) (ha : a.1 ≠ nm) : ∀ b ∈ K.take (k + 1), b.1 ≠ nm := by
  have hl := (List.getElem?_eq_some_iff.1 hk).1
  rw [List.getElem?_eq_getElem hl] at hk; injection hk with hk
  intro b hb
  rw [List.take_succ_eq_append_getElem hl, List.mem_append] at hb
  rcases hb with hb | hb
  · exact h b hb
  · simp [hk] at hb; rw [hb]; exact ha

theorem anchName_any (bb : Nat) (s nm : ByteArray) (x y : Int) (t : Bool) (ht : t = decide (s = nm)) (w : World) (hc : w.cell? ⟨bb, 0, none⟩ = some (.string nm)) (hb : bb < w.heap.size) :
    Calls Tryz.prog 135 #[.agg #[.string s, .int .i64 x, .int .i64 y], .pointer (some ⟨bb, 0, none⟩)] w fun e w' => e = .returned (.bool t) ∧ Below w.heap.size w w' := by
  cases t
  · have u : (s.toList == nm.toList) = false := bytes_neq (of_decide_eq_false ht.symm)
    clear ht
    go_enter Tryz.func135, Tryz.ntmps135
    go_wp2_with fail
    go_ret
    exact ⟨rfl, Go.Joins.below_alloc1 _ _⟩
  · obtain rfl := of_decide_eq_true ht.symm
    clear ht
    go_enter Tryz.func135, Tryz.ntmps135
    go_wp2_with fail
    go_ret
    exact ⟨rfl, Go.Joins.below_alloc1 _ _⟩

set_option maxHeartbeats 2000000 in
theorem anchIndex_any (A : Option Addr) (n c lo hi : Nat) (K : List Anch) (bb : Nat) (nm : ByteArray) (w : World) (hr : RdS 3 (FlatR anchC) w lo hi A n K) (hhi : hi ≤ w.heap.size) (hn : n ≤ 1000000000) (hc : w.cell? ⟨bb, 0, none⟩ = some (.string nm)) (hb : bb < w.heap.size) :
    Calls Tryz.prog 134 #[.slice A n c, .func (.func 135) #[] #[.pointer (some ⟨bb, 0, none⟩)]] w fun e w' => ∃ r : Int, e = .returned (.int .i64 r) ∧ AnchAt K nm r ∧ Below w.heap.size w w' := by
  replace hr := Lib.hid hr
  replace hc := Lib.hid hc
  go_enter Tryz.func134, Tryz.ntmps134
  go_wp2_with fail
  go_loopw [8] (fun i wr => ∃ k : Nat, i = .int .i64 k ∧ k ≤ n ∧ (∀ b ∈ K.take k, b.1 ≠ nm) ∧ Below w.heap.size w wr) (fun i wr => n - (intOf i).toNat)
  case atStart => exact ⟨0, rfl, Nat.zero_le _, by simp, Below.refl _ _⟩
  case round =>
    obtain ⟨k, rfl, hk, hall, hbel⟩ := hrel
    replace hall := Lib.hid hall
    have hsz := hbel.size
    by_cases hlt : k < n
    · obtain ⟨b1, o1, ⟨x0, x1, x2⟩, rfl, _, hbw, hja, hcs⟩ := (hr.out.frame (good_flat _) (Below.sameB hbel hhi)).at hlt
      have q0 := hcs 0 _ rfl
      have q1 := hcs 1 _ rfl
      have q2 := hcs 2 _ rfl
      simp only [Nat.add_zero] at q0 q1 q2
      clear hcs
      replace hja := Lib.hid hja
      obtain ⟨t, ht⟩ : ∃ t, t = decide (x0 = nm) := ⟨_, rfl⟩
      have hcall := Lib.hid (anchName_any bb x0 nm x1 x2 t ht wr ((hbel.cell hb).trans hc.out) (by omega))
      replace ht := Lib.hid ht
      have hbw' : b1 < wr.heap.size := by omega
      go_wp2_with fail
      refine hcall.out.mono ?_
      rintro e w1 ⟨rfl, hb1⟩
      cases t
      · go_wp2_with fail
        go_roundw
        case rel => exact ⟨k + 1, by go_num, by omega, free_step hall.out hja.out (of_decide_eq_false ht.out.symm), hbel.trans (hb1.mono hbel.size)⟩
        case measure => simp [intOf]; omega
      · go_wp2_with fail
        go_ret
        exact ⟨k, rfl, .inr ⟨k, _, rfl, hja.out, of_decide_eq_true ht.out.symm, hall.out⟩, hbel.trans (hb1.mono hbel.size)⟩
    · have hkn : k = n := by omega
      have hfin := Lib.hid (show ∀ b ∈ K, b.1 ≠ nm from by have := hall.out; rwa [hkn, List.take_of_length_le (Nat.le_of_eq hr.out.1)] at this)
      replace hkn := Lib.hid hkn
      go_wp2_with fail
      go_ret
      exact ⟨-1, rfl, .inl ⟨rfl, hfin.out⟩, hbel⟩

theorem anchorAt_any (A : Option Addr) (n c lo hi : Nat) (K : List Anch) (nm : ByteArray) (w : World) (hr : RdS 3 (FlatR anchC) w lo hi A n K) (hhi : hi ≤ w.heap.size) (hn : n ≤ 1000000000) :
    Calls Tryz.prog 81 #[.slice A n c, .string nm] w fun e w' => ∃ r : Int, e = .returned (.int .i64 r) ∧ AnchAt K nm r ∧ Below w.heap.size w w' := by
  have hc := Lib.hid (anchIndex_any A n c lo hi K w.heap.size nm (w.alloc (.cells #[.string nm] 9 (0, 0))) (hr.frame (good_flat _) ((SameB.refl _ _ w).alloc hhi _)) (by simp; omega) hn (by rw [Go.Joins.cell_of_block (heap_alloc_new w _)]; rfl) (by simp))
  clear hr
  go_enter Tryz.func81, Tryz.ntmps81
  go_wp2_with fail
  refine hc.out.mono ?_
  rintro e w1 ⟨r, rfl, hr, hb1⟩
  go_wp2_with fail
  go_ret
  exact ⟨r, rfl, hr, (Go.Joins.below_alloc1 _ _).trans (hb1.mono (by simp))⟩
end Go.Proofs.YtfkidklpjiiclaaGreat

