/- The start of the hint machine: the small functions. Conditions: as each states. -/
import Derived.Test.YtgngcllodofimaaOutK
import Derived.Test.YtgngcllodofimaaFInt64
import Derived.Test.YtgngcllodofimaaFPt
import Derived.Test.YtgngcllodofimaaRound
import Derived.Test.YtgngcllodofimaaHVal
import Derived.Lib.QuietBelow
import Derived.Deep.RegionHeld3
namespace Go.Proofs.Ytgngcllodofimaa
open Go.RowKit
set_option linter.unusedVariables false
set_option maxRecDepth 100000

/-- how many knots the first k loops have -/
def sumK (Ls : List (List Knot)) (k : Nat) : Nat := ((Ls.take k).map List.length).sum
theorem sumK_step {Ls : List (List Knot)} {k : Nat} {K : List Knot} (h : Ls[k]? = some K) : sumK Ls (k + 1) = sumK Ls k + K.length := by
  unfold sumK
  rw [List.take_add_one, h]
  simp
theorem sumK_le {Ls : List (List Knot)} (hK : ∀ K ∈ Ls, K.length ≤ 60) (k : Nat) : sumK Ls k ≤ 60 * k := by
  induction k with
  | zero => simp [sumK]
  | succ k ih =>
    cases h : Ls[k]? with
    | none =>
      have e : sumK Ls (k + 1) = sumK Ls k := by unfold sumK; rw [List.take_add_one, h]; simp
      omega
    | some K =>
      have := hK K (List.mem_of_getElem? h)
      rw [sumK_step h]; omega
def endsL (Ls : List (List Knot)) : List Int := (List.range Ls.length).map fun i => (sumK Ls (i + 1) : Int)
theorem endsL_len (Ls : List (List Knot)) : (endsL Ls).length = Ls.length := by simp [endsL]
theorem endsL_take {Ls : List (List Knot)} {k : Nat} (hk : k < Ls.length) : (endsL Ls).take (k + 1) = (endsL Ls).take k ++ [(sumK Ls (k + 1) : Int)] := by
  rw [List.take_succ_eq_append_getElem (by rw [endsL_len]; exact hk)]
  congr 2
  simp [endsL]

set_option maxHeartbeats 2000000 in
theorem endsOf_any (A : Option Addr) (n c lo hi : Nat) (Ls : List (List Knot)) (w : World) (hr : OutRd w lo hi A n Ls) (hhi : hi ≤ w.heap.size) (hn : n ≤ 12) (hK : ∀ K ∈ Ls, K.length ≤ 60) :
    Calls Try.prog 93 #[.agg #[.slice A n c]] w fun e w' => ∃ A' c', e = .returned (.slice A' n c') ∧ w'.ownsRow w.heap.size 2 1 (.slice A' n c') n ((endsL Ls).flatMap intC) ∧ Below w.heap.size w w' := by
  have hll := Lib.hid hr.1
  have hnew := heap_alloc_new w (.cells #[.slice A n c] 46 (0, 0))
  have hB0 : Below w.heap.size w (w.alloc (.cells #[.slice A n c] 46 (0, 0))) := Go.Joins.below_alloc1 _ _
  replace hr := Lib.hid hr
  go_enter Try.func93, Try.ntmps93
  go_wp2_with fail
  generalize w.alloc (.cells #[.slice A n c] 46 (0, 0)) = W at *
  clear hnew
  go_loopw [3, 4, 10] (fun ev nv i wr => ∃ (k : Nat) (B : Option Addr) (cb : Nat), i = .int .i64 k ∧ k ≤ n ∧ nv = .int .i64 (sumK Ls k : Int) ∧ ev = .slice B k cb ∧ wr.ownsRow w.heap.size 2 1 (.slice B k cb) k (((endsL Ls).take k).flatMap intC) ∧ Below w.heap.size w wr) (fun ev nv i wr => n - (intOf i).toNat)
  case atStart => exact ⟨0, none, 0, rfl, Nat.zero_le _, rfl, rfl, World.ownsRow_nil _ _ _ _, hB0⟩
  case round =>
    obtain ⟨k, B, cb, rfl, hk, rfl, rfl, hown, hbel⟩ := hrel
    have hz := hbel.size
    replace hown := Lib.hid hown
    by_cases hlt : k < n
    · obtain ⟨b, off, K, A2, n2, c2, rfl, hb0, hb, hja, q0, hm, hrk⟩ := out_at (hr.out.frame good_loop (Below.sameB hbel hhi)) hlt
      have hbw : b < wr.heap.size := by omega
      have hkl : k < Ls.length := by have := hll.out; omega
      have hst := Lib.hid (endsL_take hkl)
      have hs1 := sumK_step hja
      have hs0 := sumK_le hK k
      have hn2 : n2 = K.length := hrk.1.symm
      have hn60 : n2 ≤ 60 := by rw [hn2]; exact hK K (List.mem_of_getElem? hja)
      have q1 : IntKind.i64.wrap ((sumK Ls k : Int) + (n2 : Int)) = (sumK Ls (k + 1) : Int) := by
        rw [IntWalk.i64_in _ (by omega)]; omega
      obtain ⟨s1, hs1'⟩ : ∃ s1, s1 = sumK Ls (k + 1) := ⟨_, rfl⟩
      rw [← hs1'] at q1 hst
      replace hs1' := Lib.hid hs1'
      replace hn2 := Lib.hid hn2
      clear hs1 hs0 hja hrk hm hb0
      go_wp2_with (at_builtin; refine wpApp rfl (.tmp 19) (.tmp 21) elemInt64 rfl (v := .slice B k cb) (n := k) (xs := ((endsL Ls).take k).flatMap intC) rfl ((hown.out.alloc _).alloc _) rfl (src_at (cs := [.int .i64 (s1 : Int)]) rfl (by simp [Value.oneCell']) (by simp)) (by omega) (by omega) (by simp; omega) (k + 1) rfl ?_; intro A' c' w5 hown5 hb5; replace hown5 := Lib.hid hown5)
      have hbel5 := ((hbel.alloc hz _).alloc (by simp; omega) _).trans hb5
      clear hb5
      go_roundw
      case rel => exact ⟨k + 1, A', c', by go_num, by omega, by rw [hs1'.out], rfl, by rw [hst.out, List.flatMap_append]; exact hown5.out, hbel5⟩
      case measure => simp [intOf]; omega
    · have hkn : k = n := by omega
      subst hkn
      have hfin := hown.out
      rw [List.take_of_length_le (by rw [endsL_len, hll.out]; exact Nat.le_refl _)] at hfin
      replace hfin := Lib.hid hfin
      go_wp2_with fail
      go_ret
      exact ⟨B, cb, rfl, hfin.out, hbel⟩

/-- a control value lies in its range -/
def cvB (v : Int) : Bool := inB v (-262144) 262144
theorem badValue_any (v : Int) (w : World) : Calls Try.prog 167 #[.int .i64 v] w fun e w' => e = .returned (.bool (!cvB v)) ∧ w = w' := by
  by_cases h : v < -262144 <;> by_cases h2 : 262144 < v
  all_goals try (exfalso; omega)
  all_goals
    go_enter Try.func167, Try.ntmps167
    go_wp2_with fail
    go_ret
    exact ⟨ret_bool (by simp [cvB, inB]; omega), rfl⟩
theorem valueIndex_any (A : Option Addr) (n c lo hi : Nat) (L : List (Int)) (w : World) (hr : RdS 1 (FlatR intC) w lo hi A n L) (hhi : hi ≤ w.heap.size) (hn : n ≤ 1000000000) :
    Calls Try.prog 207 #[.slice A n c, .func (.func 167) #[] #[]] w fun e w' => ∃ r : Int, e = .returned (.int .i64 r) ∧ decide (0 ≤ r) = !(L.all cvB) ∧ Below w.heap.size w w' := by
  replace hr := Lib.hid hr
  go_enter Try.func207, Try.ntmps207
  go_wp2_with fail
  go_loopw [8] (fun i wr => ∃ k : Nat, i = .int .i64 k ∧ k ≤ n ∧ (L.take k).all cvB = true ∧ Below w.heap.size w wr) (fun i wr => n - (intOf i).toNat)
  case atStart => exact ⟨0, rfl, Nat.zero_le _, rfl, Below.refl _ _⟩
  case round =>
    obtain ⟨k, rfl, hk, hall, hbel⟩ := hrel
    replace hall := Lib.hid hall
    by_cases hlt : k < n
    · obtain ⟨b1, o1, x0, rfl, _, _, hja, hcs⟩ := (hr.out.frame (good_flat _) (Below.sameB hbel hhi)).at hlt
      have q0 := hcs 0 _ rfl
      simp only [Nat.add_zero, Nat.mul_one] at q0
      clear hcs
      replace hja := Lib.hid hja
      cases hv : cvB x0
      · go_wp2_with (go_at_call 167; refine (badValue_any _ _).mono ?_; rintro e w' ⟨rfl, rfl⟩)
        go_ret
        exact ⟨k, rfl, by rw [all_no hja.out hv]; simp, hbel⟩
      · go_wp2_with (go_at_call 167; refine (badValue_any _ _).mono ?_; rintro e w' ⟨rfl, rfl⟩)
        go_roundw
        case rel => exact ⟨k + 1, by go_num, by omega, all_take_step hall.out hja.out hv, hbel⟩
        case measure => simp [intOf]; omega
    · have hkn : k = n := by omega
      have hfin := Lib.hid (all_done (by rw [← hkn]; exact hall.out) hr.out.1)
      replace hkn := Lib.hid hkn
      go_wp2_with fail
      go_ret
      exact ⟨-1, rfl, by rw [hfin.out]; rfl, hbel⟩
theorem valueContains_any (A : Option Addr) (n c lo hi : Nat) (L : List (Int)) (b : Bool) (hb : b = !(L.all cvB)) (w : World) (hr : RdS 1 (FlatR intC) w lo hi A n L) (hhi : hi ≤ w.heap.size) (hn : n ≤ 1000000000) :
    Calls Try.prog 166 #[.slice A n c, .func (.func 167) #[] #[]] w fun e w' => e = .returned (.bool b) ∧ Below w.heap.size w w' := by
  have hi := Lib.hid (valueIndex_any A n c lo hi L w hr hhi hn)
  replace hb := Lib.hid hb
  go_enter Try.func166, Try.ntmps166
  go_wp2_with fail
  refine hi.out.mono ?_
  rintro e w1 ⟨r, rfl, hd, hb1⟩
  replace hd := Lib.hid hd
  go_wp2_with fail
  go_ret
  exact ⟨ret_bool (by rw [hb.out]; exact hd.out), hb1⟩
def valsB (L : List Int) : Bool := decide (L.length ≤ 16) && L.all cvB
theorem hintValues_any (A : Option Addr) (n c lo hi : Nat) (L : List Int) (v : Bool) (hv : v = valsB L) (w : World) (hr : RdS 1 (FlatR intC) w lo hi A n L) (hhi : hi ≤ w.heap.size) (hn : n ≤ 1000000000) :
    Calls Try.prog 92 #[.slice A n c] w fun e w' => e = .returned (.bool v) ∧ Below w.heap.size w w' := by
  have hll := hr.1
  by_cases h16 : n ≤ 16
  · obtain ⟨t, ht⟩ : ∃ t, t = !(L.all cvB) := ⟨_, rfl⟩
    have hc := Lib.hid (valueContains_any A n c lo hi L t ht w hr hhi hn)
    have hvt : v = !t := by rw [hv, ht]; unfold valsB; rw [hll, decide_eq_true h16]; simp
    have h16i : (n : Int) ≤ 16 := by omega
    subst hvt
    clear hv ht hr
    go_enter Try.func92, Try.ntmps92
    go_wp2_with fail
    refine hc.out.mono ?_
    rintro e w1 ⟨rfl, hb1⟩
    go_wp2_with fail
    go_ret
    exact ⟨rfl, hb1⟩
  · have hvf : v = false := by rw [hv]; unfold valsB; rw [hll, decide_eq_false h16]; rfl
    have h16i : ¬ ((n : Int) ≤ 16) := by omega
    subst hvf
    clear hv hr
    go_enter Try.func92, Try.ntmps92
    go_wp2_with fail
    go_ret
    exact ⟨rfl, Below.refl _ _⟩
theorem l20Values_any (A : Option Addr) (n c lo hi : Nat) (L : List Int) (v : Bool) (hv : v = valsB L) (w : World) (hr : RdS 1 (FlatR intC) w lo hi A n L) (hhi : hi ≤ w.heap.size) (hn : n ≤ 1000000000) :
    Calls Try.prog 87 #[.slice A n c] w fun e w' => e = .returned (.bool v) ∧ Below w.heap.size w w' := by
  have hll := Lib.hid hr.1
  replace hv := Lib.hid hv
  replace hr := Lib.hid hr
  go_enter Try.func87, Try.ntmps87
  go_wp2_with fail
  go_loopw [3] (fun i wr => ∃ k : Nat, i = .int .i64 k ∧ k ≤ n ∧ (L.take k).all cvB = true ∧ Below w.heap.size w wr) (fun i wr => n - (intOf i).toNat)
  case atStart => exact ⟨0, rfl, Nat.zero_le _, rfl, Below.refl _ _⟩
  case round =>
    obtain ⟨k, rfl, hk, hall, hbel⟩ := hrel
    replace hall := Lib.hid hall
    by_cases hlt : k < n
    · obtain ⟨b1, o1, x0, rfl, _, hb1w, hja, hcs⟩ := (hr.out.frame (good_flat _) (Below.sameB hbel hhi)).at hlt
      have q0 := hcs 0 _ rfl
      simp only [Nat.add_zero, Nat.mul_one] at q0
      clear hcs
      replace hja := Lib.hid hja
      obtain ⟨t, ht⟩ : ∃ t, inB x0 (-262144) 262144 = t := ⟨_, rfl⟩
      have hz := hbel.size
      have hbw : b1 < wr.heap.size := by omega
      cases t
      · have hvf : v = false := by rw [hv.out]; unfold valsB; rw [all_no hja.out ht]; simp
        subst hvf
        go_wp2_with (go_at_call 155; refine (l00In_any _ _ _ _).mono ?_; rintro e w' ⟨rfl, rfl⟩)
        go_ret
        exact ⟨rfl, hbel⟩
      · go_wp2_with (go_at_call 155; refine (l00In_any _ _ _ _).mono ?_; rintro e w' ⟨rfl, rfl⟩)
        go_roundw
        case rel => exact ⟨k + 1, by go_num, by omega, all_take_step hall.out hja.out ht, hbel⟩
        case measure => simp [intOf]; omega
    · have hkn : k = n := by omega
      have hfin : v = decide (n ≤ 16) := by rw [hv.out]; unfold valsB; rw [all_done (n := n) (by rw [← hkn]; exact hall.out) hll.out, hll.out]; simp
      replace hkn := Lib.hid hkn
      replace hfin := Lib.hid hfin
      by_cases h16 : n ≤ 16
      all_goals
        go_wp2_with fail
        go_ret
        exact ⟨ret_bool (by rw [hfin.out]; simp; omega), hbel⟩
end Go.Proofs.Ytgngcllodofimaa
