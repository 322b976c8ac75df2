/- Whether a path is near a point: both sides, walked; the law on NearPath. Conditions: as each states. -/
import Derived.StillTailTactics
import Derived.Deep.RegionHeld3
import Derived.Test.YtfkidklpjiiclaaGreatTe14
namespace Go.Proofs.YtfkidklpjiiclaaGreat
open Go.RowKit
set_option linter.unusedVariables false
set_option maxRecDepth 100000

def pt2Ok (p : Int × Int) : Bool := ptOk p.1 p.2
theorem pts_no {L : List (Int × Int)} {k : Nat} {a : Int × Int} (h : L[k]? = some a) (hf : ptOk a.1 a.2 = false) : L.all pt2Ok = false := by
  rw [List.all_eq_false]; exact ⟨a, List.mem_of_getElem? h, by simp [pt2Ok, hf]⟩
theorem pts_step {L : List (Int × Int)} {k : Nat} {a : Int × Int} (h0 : (L.take k).all pt2Ok = true) (h : L[k]? = some a) (hf : ptOk a.1 a.2 = true) : (L.take (k + 1)).all pt2Ok = true := by
  have hl := (List.getElem?_eq_some_iff.1 h).1
  rw [List.getElem?_eq_getElem hl] at h; injection h with h
  rw [List.take_succ_eq_append_getElem hl, List.all_append, h0, h]; simp [pt2Ok, hf]
set_option maxHeartbeats 1000000 in
theorem l13Points_any (A : Option Addr) (n c lo hi : Nat) (L : List (Int × Int)) (v : Bool) (hv : v = L.all pt2Ok) (w : World) (hr : RdS 2 (FlatR ptC) w lo hi A n L) (hhi : hi ≤ w.heap.size) (hn : n ≤ 1048576) :
    Calls Tryz.prog 106 #[.slice A n c] w fun e w' => e = .returned (.bool v) ∧ Below w.heap.size w w' := by
  have hl := Lib.hid hr.1
  replace hr := Lib.hid hr
  replace hv := Lib.hid hv
  go_enter Tryz.func106, Tryz.ntmps106
  go_wp2_with fail
  go_loopw [3] (fun i wr => ∃ k : Nat, i = .int .i64 k ∧ k ≤ n ∧ (L.take k).all pt2Ok = true ∧ Below w.heap.size w wr) (fun i wr => n - (intOf i).toNat)
  case atStart => exact ⟨0, rfl, Nat.zero_le _, rfl, Below.refl _ _⟩
  case round =>
    obtain ⟨k, rfl, hk, hall, hbel⟩ := hrel
    replace hall := Lib.hid hall
    have hsz := hbel.size
    by_cases hlt : k < n
    · obtain ⟨b, off, ⟨x0, x1⟩, rfl, hb0, hb, hja, hcs⟩ := (hr.out.frame (good_flat _) (Below.sameB hbel hhi)).at hlt
      have q0 := hcs 0 _ rfl
      have q1 := hcs 1 _ rfl
      simp only [Nat.add_zero] at q0 q1
      have hbw : b < wr.heap.size := by omega
      replace hja := Lib.hid hja
      clear hcs hb0 hb
      cases t : ptOk x0 x1
      · have hvf : v = false := by rw [hv.out]; exact pts_no hja.out t
        subst hvf
        go_wp2_with (go_at_call 112; refine (l03Ok_any _ _ _).mono ?_; rintro e w1 ⟨rfl, hb1⟩)
        go_ret
        exact ⟨rfl, hbel.trans (hb1.mono hbel.size)⟩
      · go_wp2_with (go_at_call 112; refine (l03Ok_any _ _ _).mono ?_; rintro e w1 ⟨rfl, hb1⟩)
        go_roundw
        case rel => exact ⟨k + 1, by go_num, by omega, pts_step hall.out hja.out t, hbel.trans (hb1.mono hbel.size)⟩
        case measure => simp [intOf]; omega
    · have hkn : k = n := by omega
      have hvt : v = true := by rw [hv.out, ← List.take_of_length_le (l := L) (i := k) (by rw [hl.out]; omega)]; exact hall.out
      subst hvt
      replace hkn := Lib.hid hkn
      go_wp2_with fail
      go_ret
      exact ⟨rfl, hbel⟩

set_option maxHeartbeats 1000000 in
theorem validPts_any (A : Option Addr) (n c lo hi : Nat) (L : List (Int × Int)) (v : Bool) (hv : v = L.all pt2Ok) (w : World) (hr : RdS 2 (FlatR ptC) w lo hi A n L) (hhi : hi ≤ w.heap.size) (hn : n ≤ 1048576) :
    Calls Tryz.prog 72 #[.slice A n c] w fun e w' => e = .returned (.bool v) ∧ Below w.heap.size w w' := by
  have hl := Lib.hid hr.1
  replace hr := Lib.hid hr
  replace hv := Lib.hid hv
  go_enter Tryz.func72, Tryz.ntmps72
  go_wp2_with fail
  go_loopw [7] (fun i wr => ∃ k : Nat, i = .int .i64 k ∧ k ≤ n ∧ (L.take k).all pt2Ok = true ∧ Below w.heap.size w wr) (fun i wr => n - (intOf i).toNat)
  case atStart => exact ⟨0, rfl, Nat.zero_le _, rfl, Below.refl _ _⟩
  case round =>
    obtain ⟨k, rfl, hk, hall, hbel⟩ := hrel
    replace hall := Lib.hid hall
    have hsz := hbel.size
    by_cases hlt : k < n
    · obtain ⟨b, off, ⟨x0, x1⟩, rfl, hb0, hb, hja, hcs⟩ := (hr.out.frame (good_flat _) (Below.sameB hbel hhi)).at hlt
      have q0 := hcs 0 _ rfl
      have q1 := hcs 1 _ rfl
      simp only [Nat.add_zero] at q0 q1
      have hbw : b < wr.heap.size := by omega
      replace hja := Lib.hid hja
      clear hcs hb0 hb
      cases t : ptOk x0 x1
      · have hvf : v = false := by rw [hv.out]; exact pts_no hja.out t
        subst hvf
        go_wp2_with (go_at_call 80; refine (validPt_any _ _ _).mono ?_; rintro e w1 ⟨rfl, hb1⟩)
        go_ret
        exact ⟨rfl, (hbel.alloc hbel.size _).trans (hb1.mono (by simp; omega))⟩
      · go_wp2_with (go_at_call 80; refine (validPt_any _ _ _).mono ?_; rintro e w1 ⟨rfl, hb1⟩)
        go_roundw
        case rel => exact ⟨k + 1, by go_num, by omega, pts_step hall.out hja.out t, (hbel.alloc hbel.size _).trans (hb1.mono (by simp; omega))⟩
        case measure => simp [intOf]; omega
    · have hkn : k = n := by omega
      have hvt : v = true := by rw [hv.out, ← List.take_of_length_le (l := L) (i := k) (by rw [hl.out]; omega)]; exact hall.out
      subst hvt
      replace hkn := Lib.hid hkn
      go_wp2_with fail
      go_ret
      exact ⟨rfl, hbel⟩

end Go.Proofs.YtfkidklpjiiclaaGreat

/- The laws on NearPath and PathWithin. Conditions: as each states. -/
namespace Go.Proofs.YtfkidklpjiiclaaGreat
open Go.RowKit
set_option linter.unusedVariables false
set_option maxRecDepth 100000

def pathOk (L : List (Int × Int)) : Bool := inB L.length 1 400 && L.all pt2Ok
theorem pathOk_is {L : List (Int × Int)} (h : pathOk L = true) : 1 ≤ L.length ∧ L.length ≤ 400 ∧ ∀ p ∈ L, ptOk p.1 p.2 = true := by
  simp only [pathOk, Bool.and_eq_true, inB_iff, List.all_eq_true] at h
  obtain ⟨⟨h1, h2⟩, h3⟩ := h
  exact ⟨by omega, by omega, h3⟩
theorem isPath_any (A : Option Addr) (n c lo hi : Nat) (L : List (Int × Int)) (v : Bool) (hv : v = pathOk L) (w : World) (hr : RdS 2 (FlatR ptC) w lo hi A n L) (hhi : hi ≤ w.heap.size) (hn : n ≤ 1048576) :
    Calls Tryz.prog 31 #[.slice A n c] w fun e w' => e = .returned (.bool v) ∧ Below w.heap.size w w' := by
  have hl := hr.1
  unfold pathOk at hv
  rw [hl] at hv
  clear hl
  by_cases h1 : 1 ≤ n
  rotate_left
  · have hvf : v = false := by rw [hv, inB_false.2 (by omega)]; rfl
    subst hvf
    clear hv hr
    go_enter Tryz.func31, Tryz.ntmps31
    go_wp2_with fail
    go_ret
    exact ⟨rfl, Below.refl _ _⟩
  by_cases h2 : n ≤ 400
  rotate_left
  · have hvf : v = false := by rw [hv, inB_false.2 (by omega)]; rfl
    subst hvf
    clear hv hr
    go_enter Tryz.func31, Tryz.ntmps31
    go_wp2_with fail
    go_ret
    exact ⟨rfl, Below.refl _ _⟩
  have hv' : v = L.all pt2Ok := by rw [hv, inB_iff.2 ⟨by omega, by omega⟩]; simp
  have hc := Lib.hid (validPts_any A n c lo hi L v hv' w hr hhi hn)
  clear hv hv' hr
  go_enter Tryz.func31, Tryz.ntmps31
  go_wp2_with (go_at_call 72; refine hc.out.mono ?_; rintro e w1 ⟨rfl, hb1⟩)
  all_goals
    go_ret
    exact ⟨rfl, hb1⟩
end Go.Proofs.YtfkidklpjiiclaaGreat

