/- The first corner of a ring, parts of a path: the reference's side. Conditions: as each states. -/
import Derived.Test.YtmpnefjljmdflaaFg23
import Derived.Test.YtmpnefjljmdflaaFg24
import Derived.Test.YtmpnefjljmdflaaFg26
namespace Go.Proofs.Ytmpnefjljmdflaa
open Go.RowKit
set_option linter.unusedVariables false
set_option maxRecDepth 100000

theorem RdS.pts {w : World} {lo hi : Nat} {A : Option Addr} {n : Nat} {L : List (Int × Int)} (h : RdS 2 (FlatR ptC) w lo hi A n L) (hn : 0 < n) :
    ∃ b off, A = some ⟨b, off, none⟩ ∧ lo ≤ b ∧ b < hi ∧ ∀ j, j < n → w.cell? ⟨b, off + j * 2, none⟩ = some (.int .i64 (ptAt L j).1) ∧ w.cell? ⟨b, off + j * 2 + 1, none⟩ = some (.int .i64 (ptAt L j).2) := by
  obtain ⟨b, off, a, hA, h1, h2, _, _⟩ := h.at hn
  refine ⟨b, off, hA, h1, h2, fun j hj => ?_⟩
  obtain ⟨b', off', a', hA', _, _, h3, h4⟩ := h.at hj
  rw [hA] at hA'
  injection hA' with hA'
  injection hA' with e1 e2
  subst e1 e2
  rw [ptAt_eq h3]
  exact ⟨by have := h4 0 _ rfl; simpa using this, h4 1 _ rfl⟩
theorem mod_i {a n : Nat} : ((a : Nat) : Int).tmod (n : Int) = ((a % n : Nat) : Int) := (Int.ofNat_tmod a n).symm
theorem pts_ok {L : List (Int × Int)} (h : ∀ p ∈ L, ptOk p.1 p.2 = true) {j : Nat} (hj : j < L.length) : ptOk (ptAt L j).1 (ptAt L j).2 = true := h _ (List.mem_of_getElem? (ptAt_some hj))

set_option maxHeartbeats 2000000 in
theorem l16First_any (A : Option Addr) (n c lo hi : Nat) (L : List (Int × Int)) (w : World) (hr : RdS 2 (FlatR ptC) w lo hi A n L) (hhi : hi ≤ w.heap.size) (hn1 : 1 ≤ n) (hn : n ≤ 1000) (hL : ∀ p ∈ L, ptOk p.1 p.2 = true) :
    Calls Try.prog 116 #[.slice A n c] w fun e w' => e = .returned (.int .i64 (firstC L : Nat)) ∧ Below w.heap.size w w' := by
  have hl := hr.1
  obtain ⟨F, hF⟩ : ∃ F, F = firstC L := ⟨_, rfl⟩
  rw [← hF]
  replace hF := Lib.hid hF
  replace hr := Lib.hid hr
  have hll := Lib.hid hl
  replace hL := Lib.hid hL
  go_enter Try.func116, Try.ntmps116
  go_wp2_with fail
  go_loopw [4] (fun i wr => ∃ k : Nat, i = .int .i64 k ∧ k ≤ n ∧ (∀ j, j < k → cornL L j = false) ∧ Below w.heap.size w wr) (fun i wr => n - (intOf i).toNat)
  case atStart => exact ⟨0, rfl, Nat.zero_le _, fun j hj => absurd hj (Nat.not_lt_zero j), Below.refl _ _⟩
  case round =>
    obtain ⟨k, rfl, hk, hno, hbel⟩ := hrel
    have hsz := hbel.size
    replace hno := Lib.hid hno
    by_cases hlt : k < n
    · obtain ⟨b, off, rfl, hb0, hb, hcs⟩ := (hr.out.frame (good_flat _) (Below.sameB hbel hhi)).pts (by omega)
      obtain ⟨m, hm⟩ : ∃ m, m = (k + n - 1) % n := ⟨_, rfl⟩
      obtain ⟨p, hp⟩ : ∃ p, p = (k + 1) % n := ⟨_, rfl⟩
      have hmn : m < n := by rw [hm]; exact Nat.mod_lt _ (by omega)
      have hpn : p < n := by rw [hp]; exact Nat.mod_lt _ (by omega)
      have c1 := hcs m hmn
      have c2 := hcs k hlt
      have c3 := hcs p hpn
      have hcall := Lib.hid (fun W => l16Corner_any (ptAt L m).1 (ptAt L m).2 (ptAt L k).1 (ptAt L k).2 (ptAt L p).1 (ptAt L p).2 (cornL L k) (by unfold cornL; rw [hl, ← hm, ← hp]) W (pts_ok hL.out (by omega)) (pts_ok hL.out (by omega)) (pts_ok hL.out (by omega)))
      obtain ⟨t, ht⟩ : ∃ t, t = cornL L k := ⟨_, rfl⟩
      rw [← ht] at hcall
      generalize (ptAt L m).1 = ax at *
      generalize (ptAt L m).2 = ay at *
      generalize (ptAt L k).1 = px at *
      generalize (ptAt L k).2 = py at *
      generalize (ptAt L p).1 = bx at *
      generalize (ptAt L p).2 = by' at *
      obtain ⟨c10, c11⟩ := c1
      obtain ⟨c20, c21⟩ := c2
      obtain ⟨c30, c31⟩ := c3
      have hbw : b < wr.heap.size := by omega
      have hki : (k : Int) < (n : Int) := by omega
      have i1 : (0 : Int) ≤ (m : Int) ∧ (m : Int) < (n : Int) := by omega
      have i2 : (0 : Int) ≤ (k : Int) ∧ (k : Int) < (n : Int) := by omega
      have i3 : (0 : Int) ≤ (p : Int) ∧ (p : Int) < (n : Int) := by omega
      have q1 : IntKind.i64.wrap ((k : Int) + (n : Int)) = (k : Int) + (n : Int) := wi (by omega)
      obtain ⟨y1, hy1⟩ : ∃ y1, y1 = k + n - 1 := ⟨_, rfl⟩
      obtain ⟨y2, hy2⟩ : ∃ y2, y2 = k + 1 := ⟨_, rfl⟩
      have q2 : IntKind.i64.wrap ((k : Int) + (n : Int) - 1) = (y1 : Int) := by rw [wi (by omega)]; omega
      have q3 : (y1 : Int).tmod (n : Int) = (m : Int) := by rw [mod_i, hy1, hm]
      have q4 : IntKind.i64.wrap ((k : Int) + 1) = (y2 : Int) := by rw [wi (by omega)]; omega
      have q5 : (y2 : Int).tmod (n : Int) = (p : Int) := by rw [mod_i, hy2, hp]
      have q6 : ¬ n = 0 := by omega
      replace hy1 := Lib.hid hy1
      replace hy2 := Lib.hid hy2
      have q7 : IntKind.i64.wrap (m : Int) = (m : Int) := wi (by omega)
      have q8 : IntKind.i64.wrap (p : Int) = (p : Int) := wi (by omega)
      replace ht := Lib.hid ht
      replace hm := Lib.hid hm
      replace hp := Lib.hid hp
      clear hcs hb0 hb hl hr
      go_wp2_with fail
      go_still_tail 20, (by kernel_rfl)
      change wpList _ _ _ _ _ wr.drew
      have hbd : Below w.heap.size w wr.drew := hbel.drew
      clear c10 c11 c20 c21 c30 c31 q1 q2 q3 q4 q5 q6 q7 q8 i1 i2 i3 hbw
      generalize wr.drew = w1 at *
      go_wp2_with fail
      refine (hcall.out _).mono ?_
      rintro e w2 ⟨rfl, hb2⟩
      have hB2 := hbd.trans (hb2.mono hbd.size)
      clear hcall hb2
      cases t with
      | true =>
        go_wp2_with fail
        go_ret
        exact ⟨ret_int (by rw [hF.out, firstC_hit (by rw [hll.out]; exact hlt) ht.out.symm hno.out]), hB2⟩
      | false =>
        go_wp2_with fail
        go_roundw
        case rel => exact ⟨k + 1, by go_num, by omega, fun j hj => by
          rcases Nat.lt_or_ge j k with h | h
          · exact hno.out j h
          · rw [show j = k by omega]; exact ht.out.symm, hB2⟩
        case measure => simp [intOf]; omega
    · have hkn : k = n := by omega
      have hF0 : F = 0 := by rw [hF.out]; exact firstC_none fun j hj => hno.out j (by rw [hll.out] at hj; omega)
      have hki : ¬ (k : Int) < (n : Int) := by omega
      replace hF0 := Lib.hid hF0
      replace hkn := Lib.hid hkn
      go_wp2_with fail
      go_ret
      exact ⟨ret_int (by rw [hF0.out]; rfl), hbel⟩

set_option maxHeartbeats 2000000 in
/-- a path's part, made by the call -/
theorem l16Run_any (A : Option Addr) (n c lo hi i count : Nat) (L : List (Int × Int)) (w : World) (hr : RdS 2 (FlatR ptC) w lo hi A n L) (hhi : hi ≤ w.heap.size) (hn : n ≤ 1000) (hic : i + count < n) :
    Calls Try.prog 118 #[.slice A n c, .int .i64 i, .int .i64 count] w fun e w' => ∃ (A' : Option Addr) (c' : Nat), e = .returned (.slice A' (count + 1) c') ∧ RdS 2 (FlatR ptC) w' w.heap.size w'.heap.size A' (count + 1) (partP L i count) ∧ Below w.heap.size w w' := by
  have hl := hr.1
  have hpl : (partP L i count).length = count + 1 := partP_len (by omega)
  have hpa : ∀ k, k ≤ count → (partP L i count).take (k + 1) = (partP L i count).take k ++ [ptAt L (i + k)] := fun k hk => by
    rw [List.take_succ_eq_append_getElem (by omega)]
    congr 2
    have := partP_at (P := L) (i := i) (count := count) (j := k) hk
    rw [List.getElem?_eq_getElem (by omega), ptAt_some (by omega)] at this
    injection this
  generalize hPP : partP L i count = PP at *
  clear hPP
  replace hr := Lib.hid hr
  replace hpl := Lib.hid hpl
  replace hpa := Lib.hid hpa
  have hll := Lib.hid hl
  clear hl
  go_enter Try.func118, Try.ntmps118
  go_wp2_with fail
  go_loopw [7, 8] (fun out kv wr => ∃ (k : Nat) (A1 : Option Addr) (c1 : Nat), kv = .int .i64 k ∧ k ≤ count + 1 ∧ out = .slice A1 k c1 ∧ wr.ownsRow w.heap.size 24 2 (.slice A1 k c1) k ((PP.take k).flatMap ptC) ∧ Below w.heap.size w wr) (fun out kv wr => count + 1 - (intOf kv).toNat)
  case atStart => exact ⟨0, _, _, rfl, Nat.zero_le _, rfl, World.ownsRow_lit w _ _ (Nat.le_refl _) (by decide) (by simp), (Below.refl _ _).alloc (Nat.le_refl _) _⟩
  case round =>
    obtain ⟨k, A1, c1, rfl, hk, rfl, hown, hbel⟩ := hrel
    have hz := hbel.size
    replace hown := Lib.hid hown
    by_cases hlt : k ≤ count
    · obtain ⟨b, off, rfl, hb0, hb, hcs⟩ := (hr.out.frame (good_flat _) (Below.sameB hbel hhi)).pts (by omega)
      obtain ⟨x0, x1⟩ := hcs (i + k) (by omega)
      have hst := Lib.hid (hpa.out k hlt)
      generalize hpe : ptAt L (i + k) = pt at *
      obtain ⟨px, py⟩ := pt
      simp only at x0 x1
      have hki : (k : Int) ≤ (count : Int) := by omega
      have q1 : IntKind.i64.wrap ((i : Int) + (k : Int)) = ((i + k : Nat) : Int) := by rw [wi (by omega)]; omega
      have i1 : (0 : Int) ≤ ((i + k : Nat) : Int) ∧ ((i + k : Nat) : Int) < (n : Int) := by omega
      have hbw : b < wr.heap.size := by omega
      clear hcs hb0 hb hpe
      obtain ⟨j, hj⟩ : ∃ j, j = i + k := ⟨_, rfl⟩
      rw [← hj] at x0 x1 q1 i1
      replace hj := Lib.hid hj
      go_wp2_with (at_builtin; refine wpApp rfl (.tmp 15) (.tmp 22) elemPt rfl (v := .slice A1 k c1) (n := k) (xs := (PP.take k).flatMap ptC) rfl (hown.out.alloc _) rfl (src_at (cs := [.int .i64 px, .int .i64 py]) rfl (by simp [Value.oneCell']) rfl) (by omega) (by omega) (by simp; omega) (k + 1) rfl ?_; intro A' c' w5 hown5 hb5; replace hown5 := Lib.hid hown5)
      have hbel5 := (hbel.alloc hz _).trans hb5
      clear hb5
      go_roundw
      case rel => exact ⟨k + 1, A', c', by go_num, by omega, rfl, by rw [hst.out, ptC_flat_snoc]; exact hown5.out, hbel5⟩
      case measure => simp [intOf]; omega
    · have hkn : k = count + 1 := by omega
      subst hkn
      have hki : ¬ (((count + 1 : Nat) : Int) ≤ (count : Int)) := by omega
      have hrd : RdS 2 (FlatR ptC) wr w.heap.size wr.heap.size A1 (count + 1) PP := by
        have h := hown.out
        rw [List.take_of_length_le (by rw [hpl.out]; omega)] at h
        exact rdS_own ptC_len (by omega) h hpl.out
      replace hrd := Lib.hid hrd
      go_wp2_with fail
      go_ret
      exact ⟨A1, ⟨c1, rfl⟩, hrd.out, hbel⟩
end Go.Proofs.Ytmpnefjljmdflaa

