/- Whether a path is near a point: both sides, walked; the law on NearPath. Conditions: as each states. -/
import Derived.StillTailTactics
import Derived.Test.YtpmpbfkpiocleaaQv09
namespace Go.Proofs.Ytpmpbfkpiocleaa
open Go.RowKit
set_option linter.unusedVariables false
set_option maxRecDepth 100000

def pt2Ok (p : Int × Int) : Bool := ptOk p.1 p.2
theorem pts_no {L : List (Int × Int)} {k : Nat} {a : Int × Int} (h : L[k]? = some a) (hf : ptOk a.1 a.2 = false) : L.all pt2Ok = false := by
  rw [List.all_eq_false]; exact ⟨a, List.mem_of_getElem? h, by simp [pt2Ok, hf]⟩
theorem pts_step {L : List (Int × Int)} {k : Nat} {a : Int × Int} (h0 : (L.take k).all pt2Ok = true) (h : L[k]? = some a) (hf : ptOk a.1 a.2 = true) : (L.take (k + 1)).all pt2Ok = true := by
  have hl := (List.getElem?_eq_some_iff.1 h).1
  rw [List.getElem?_eq_getElem hl] at h; injection h with h
  rw [List.take_succ_eq_append_getElem hl, List.all_append, h0, h]; simp [pt2Ok, hf]
theorem far_step {L : List (Int × Int)} {px py r : Int} {k : Nat} {a b : Int × Int} (h : farTo L px py r k) (ha : L[k]? = some a) (hb : L[k + 1]? = some b) (hn : nearB a.1 a.2 b.1 b.2 px py r = false) : farTo L px py r (k + 1) := by
  intro i a' b' hi h1 h2
  by_cases hik : i = k
  · subst hik
    have e1 := Option.some.inj (ha.symm.trans h1)
    have e2 := Option.some.inj (hb.symm.trans h2)
    subst e1 e2; exact hn
  · exact h i a' b' (by omega) h1 h2
theorem one_of {α : Type} {L : List α} (h : L.length = 1) {a : α} (ha : L[0]? = some a) : L = [a] := by
  match L, h with
  | [x], _ => simp at ha; rw [ha]

set_option maxHeartbeats 1000000 in
theorem l13Points_any (A : Option Addr) (n c lo hi : Nat) (L : List (Int × Int)) (v : Bool) (hv : v = L.all pt2Ok) (w : World) (hr : RdS 2 (FlatR ptC) w lo hi A n L) (hhi : hi ≤ w.heap.size) (hn : n ≤ 1048576) :
    Calls Try.prog 48 #[.slice A n c] w fun e w' => e = .returned (.bool v) ∧ Below w.heap.size w w' := by
  have hl := Lib.hid hr.1
  replace hr := Lib.hid hr
  replace hv := Lib.hid hv
  go_enter Try.func48, Try.ntmps48
  go_wp2_with fail
  go_loopw [3] (fun i wr => ∃ k : Nat, i = .int .i64 k ∧ k ≤ n ∧ (L.take k).all pt2Ok = true ∧ Below w.heap.size w wr) (fun i wr => n - (intOf i).toNat)
  case atStart => exact ⟨0, rfl, Nat.zero_le _, rfl, Below.refl _ _⟩
  case round =>
    obtain ⟨k, rfl, hk, hall, hbel⟩ := hrel
    replace hall := Lib.hid hall
    have hsz := hbel.size
    by_cases hlt : k < n
    · obtain ⟨b, off, ⟨x0, x1⟩, rfl, hb0, hb, hja, hcs⟩ := (hr.out.frame (good_flat _) (Below.sameB hbel hhi)).at hlt
      have q0 := hcs 0 _ rfl
      have q1 := hcs 1 _ rfl
      simp only [Nat.add_zero] at q0 q1
      have hbw : b < wr.heap.size := by omega
      replace hja := Lib.hid hja
      clear hcs hb0 hb
      cases t : ptOk x0 x1
      · have hvf : v = false := by rw [hv.out]; exact pts_no hja.out t
        subst hvf
        go_wp2_with (go_at_call 30; refine (l03Ok_any _ _ _).mono ?_; rintro e w1 ⟨rfl, hb1⟩)
        go_ret
        exact ⟨rfl, hbel.trans (hb1.mono hbel.size)⟩
      · go_wp2_with (go_at_call 30; refine (l03Ok_any _ _ _).mono ?_; rintro e w1 ⟨rfl, hb1⟩)
        go_roundw
        case rel => exact ⟨k + 1, by go_num, by omega, pts_step hall.out hja.out t, hbel.trans (hb1.mono hbel.size)⟩
        case measure => simp [intOf]; omega
    · have hkn : k = n := by omega
      have hvt : v = true := by rw [hv.out, ← List.take_of_length_le (l := L) (i := k) (by rw [hl.out]; omega)]; exact hall.out
      subst hvt
      replace hkn := Lib.hid hkn
      go_wp2_with fail
      go_ret
      exact ⟨rfl, hbel⟩

set_option maxHeartbeats 1000000 in
theorem validPts_any (A : Option Addr) (n c lo hi : Nat) (L : List (Int × Int)) (v : Bool) (hv : v = L.all pt2Ok) (w : World) (hr : RdS 2 (FlatR ptC) w lo hi A n L) (hhi : hi ≤ w.heap.size) (hn : n ≤ 1048576) :
    Calls Try.prog 44 #[.slice A n c] w fun e w' => e = .returned (.bool v) ∧ Below w.heap.size w w' := by
  have hl := Lib.hid hr.1
  replace hr := Lib.hid hr
  replace hv := Lib.hid hv
  go_enter Try.func44, Try.ntmps44
  go_wp2_with fail
  go_loopw [7] (fun i wr => ∃ k : Nat, i = .int .i64 k ∧ k ≤ n ∧ (L.take k).all pt2Ok = true ∧ Below w.heap.size w wr) (fun i wr => n - (intOf i).toNat)
  case atStart => exact ⟨0, rfl, Nat.zero_le _, rfl, Below.refl _ _⟩
  case round =>
    obtain ⟨k, rfl, hk, hall, hbel⟩ := hrel
    replace hall := Lib.hid hall
    have hsz := hbel.size
    by_cases hlt : k < n
    · obtain ⟨b, off, ⟨x0, x1⟩, rfl, hb0, hb, hja, hcs⟩ := (hr.out.frame (good_flat _) (Below.sameB hbel hhi)).at hlt
      have q0 := hcs 0 _ rfl
      have q1 := hcs 1 _ rfl
      simp only [Nat.add_zero] at q0 q1
      have hbw : b < wr.heap.size := by omega
      replace hja := Lib.hid hja
      clear hcs hb0 hb
      cases t : ptOk x0 x1
      · have hvf : v = false := by rw [hv.out]; exact pts_no hja.out t
        subst hvf
        go_wp2_with (go_at_call 24; refine (validPt_any _ _ _).mono ?_; rintro e w1 ⟨rfl, hb1⟩)
        go_ret
        exact ⟨rfl, (hbel.alloc hbel.size _).trans (hb1.mono (by simp; omega))⟩
      · go_wp2_with (go_at_call 24; refine (validPt_any _ _ _).mono ?_; rintro e w1 ⟨rfl, hb1⟩)
        go_roundw
        case rel => exact ⟨k + 1, by go_num, by omega, pts_step hall.out hja.out t, (hbel.alloc hbel.size _).trans (hb1.mono (by simp; omega))⟩
        case measure => simp [intOf]; omega
    · have hkn : k = n := by omega
      have hvt : v = true := by rw [hv.out, ← List.take_of_length_le (l := L) (i := k) (by rw [hl.out]; omega)]; exact hall.out
      subst hvt
      replace hkn := Lib.hid hkn
      go_wp2_with fail
      go_ret
      exact ⟨rfl, hbel⟩

set_option maxHeartbeats 4000000 in
theorem l16Near_any (A : Option Addr) (n c lo hi : Nat) (L : List (Int × Int)) (px py r : Int) (v : Bool) (hv : v = nearP L px py r) (w : World) (hr : RdS 2 (FlatR ptC) w lo hi A n L) (hhi : hi ≤ w.heap.size) (hn1 : 1 ≤ n) (hn : n ≤ 1048576) (hall : ∀ p ∈ L, ptOk p.1 p.2 = true) (hp : ptOk px py = true) (h0 : 0 ≤ r) (h1 : r ≤ 262144) :
    Calls Try.prog 32 #[.slice A n c, .agg #[.int .i64 px, .int .i64 py], .int .i64 r] w fun e w' => e = .returned (.bool v) ∧ Below w.heap.size w w' := by
  have hl := Lib.hid hr.1
  have hB0 : Below w.heap.size w (w.alloc (.cells #[.int .i64 px, .int .i64 py] 24 (0, 0))) := Go.Joins.below_alloc1 _ _
  have hc0 : Hid ((w.alloc (.cells #[.int .i64 px, .int .i64 py] 24 (0, 0))).cell? ⟨w.heap.size, 0, none⟩ = some (.int .i64 px) ∧ (w.alloc (.cells #[.int .i64 px, .int .i64 py] 24 (0, 0))).cell? ⟨w.heap.size, 1, none⟩ = some (.int .i64 py)) := ⟨by rw [Go.Joins.cell_of_block (heap_alloc_new w _)]; rfl, by rw [Go.Joins.cell_of_block (heap_alloc_new w _)]; rfl⟩
  by_cases hone : n = 1
  · subst hone
    obtain ⟨b, off, ⟨x0, x1⟩, rfl, hb0, hb, hja, hcs⟩ := (hr.frame (good_flat _) (Below.sameB hB0 hhi)).at (j := 0) (by omega)
    have q0 := hcs 0 _ rfl
    have q1 := hcs 1 _ rfl
    simp only [Nat.zero_mul, Nat.add_zero] at q0 q1
    have hL := one_of hl.out hja
    have hv' : v = nearB x0 x1 x0 x1 px py r := by rw [hv, hL]; rfl
    have hok := hall _ (List.mem_of_getElem? hja)
    have hcall := Lib.hid (fun W => l03Near_any x0 x1 x0 x1 px py r v hv' W hok hok hp h0 h1)
    have hbw : b < (w.alloc (.cells #[.int .i64 px, .int .i64 py] 24 (0, 0))).heap.size := by simp; omega
    have hww : w.heap.size < (w.alloc (.cells #[.int .i64 px, .int .i64 py] 24 (0, 0))).heap.size := by simp
    obtain ⟨c0, c1⟩ := hc0.out
    clear hcs hb0 hb hja hL hv hv' hok hall hp hr hc0
    go_enter Try.func32, Try.ntmps32
    go_wp2_with fail
    generalize w.alloc (.cells #[.int .i64 px, .int .i64 py] 24 (0, 0)) = w0 at *
    go_still_tail 8, (by kernel_rfl)
    go_wp2_with fail
    refine (hcall.out _).mono ?_
    rintro e w1 ⟨rfl, hb1⟩
    go_wp2_with fail
    go_ret
    exact ⟨rfl, hB0.drew.trans (hb1.mono (by simp; omega))⟩
  have e1 : ((n : Int) == 1) = false := by simp; omega
  replace hr := Lib.hid hr
  replace hv := Lib.hid hv
  replace hall := Lib.hid hall
  replace hp := Lib.hid hp
  replace hone := Lib.hid hone
  go_enter Try.func32, Try.ntmps32
  go_wp2_with fail
  go_loopw [7] (fun i wr => ∃ k : Nat, i = .int .i64 k ∧ k + 1 ≤ n ∧ farTo L px py r k ∧ Below w.heap.size w wr ∧ w.heap.size + 1 ≤ wr.heap.size ∧ Hid (wr.cell? ⟨w.heap.size, 0, none⟩ = some (.int .i64 px) ∧ wr.cell? ⟨w.heap.size, 1, none⟩ = some (.int .i64 py))) (fun i wr => n - (intOf i).toNat)
  case atStart => exact ⟨0, rfl, by omega, fun i a b hi => absurd hi (Nat.not_lt_zero i), hB0, by simp, hc0⟩
  case round =>
    obtain ⟨k, rfl, hk, hfar, hbel, hsz, hcp⟩ := hrel
    obtain ⟨c0, c1⟩ := hcp.out
    replace hfar := Lib.hid hfar
    clear hc0 e1
    by_cases hlt : k + 1 < n
    · obtain ⟨b, off, ⟨x0, x1⟩, rfl, hb0, hb, hja, hcs⟩ := (hr.out.frame (good_flat _) (Below.sameB hbel hhi)).at (j := k) (by omega)
      obtain ⟨b', off', ⟨y0, y1⟩, hbb, hb0', hb', hjb, hcs'⟩ := (hr.out.frame (good_flat _) (Below.sameB hbel hhi)).at hlt
      injection hbb with hbb
      injection hbb with hbb1 hbb2
      subst hbb1 hbb2
      have q0 := hcs 0 _ rfl
      have q1 := hcs 1 _ rfl
      have p0 := hcs' 0 _ rfl
      have p1 := hcs' 1 _ rfl
      simp only [Nat.add_zero] at q0 q1 p0 p1
      have ok1 := hall.out _ (List.mem_of_getElem? hja)
      have ok2 := hall.out _ (List.mem_of_getElem? hjb)
      obtain ⟨t, ht⟩ : ∃ t, t = nearB x0 x1 y0 y1 px py r := ⟨_, rfl⟩
      have hcall := Lib.hid (fun W => l03Near_any x0 x1 y0 y1 px py r t ht W ok1 ok2 hp.out h0 h1)
      have hbw : b < wr.heap.size := by omega
      have f1 : IntKind.i64.wrap ((k : Int) + 1) = (k : Int) + 1 := IntWalk.i64_in _ (by omega)
      have f2 : IntKind.i64.wrap (k : Int) = (k : Int) := IntWalk.i64_in _ (by omega)
      have f3 : ((k : Int) + 1).toNat = k + 1 := by omega
      have f4 : (0 : Int) ≤ (k : Int) + 1 := by omega
      have f5 : (k : Int) + 1 < (n : Int) := by omega
      have f6 : (0 : Int) ≤ (k : Int) := by omega
      have f7 : (k : Int) < (n : Int) := by omega
      have hwn : w.heap.size < wr.heap.size := by omega
      replace hja := Lib.hid hja
      replace hjb := Lib.hid hjb
      replace ht := Lib.hid ht
      replace hcs := Lib.hid hcs
      clear hcs hcs' hb0 hb hb0' hb' ok1 ok2
      go_wp2_with fail
      go_still_tail 11, (by kernel_rfl)
      clear f1 f2 f3
      go_wp2_with fail
      refine (hcall.out _).mono ?_
      rintro e w1 ⟨rfl, hb1⟩
      have hbel1 : Below w.heap.size w w1 := hbel.drew.trans (hb1.mono (by simp; omega))
      have hz1 : wr.heap.size ≤ w1.heap.size := hb1.size
      cases t with
      | true =>
        have hvt : v = true := by rw [hv.out]; exact nearP_yes hja.out hjb.out ht.out.symm
        subst hvt
        go_wp2_with fail
        go_ret
        exact ⟨rfl, hbel1⟩
      | false =>
        go_wp2_with fail
        go_roundw
        case rel => exact ⟨k + 1, by go_num, by omega, far_step hfar.out hja.out hjb.out ht.out.symm, hbel1, by omega, ⟨(hb1.cell (by simp; omega)).trans c0, (hb1.cell (by simp; omega)).trans c1⟩⟩
        case measure => simp [intOf]; omega
    · have hkn : k + 1 = n := by omega
      have hvf : v = false := by rw [hv.out]; exact nearP_no (by have := hone.out; rw [hl.out]; omega) (by rw [hl.out, ← hkn]; exact hfar.out)
      subst hvf
      replace hkn := Lib.hid hkn
      go_wp2_with fail
      go_ret
      exact ⟨rfl, hbel⟩

end Go.Proofs.Ytpmpbfkpiocleaa

