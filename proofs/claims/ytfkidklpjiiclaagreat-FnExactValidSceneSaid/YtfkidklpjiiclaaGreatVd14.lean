/- Whether all numbers and all points of a list are small: both sides. Conditions: as each states. -/
import Derived.WalkSmall
import Derived.Test.YtfkidklpjiiclaaGreatVd02
import Derived.Test.YtfkidklpjiiclaaGreatVd13
import Derived.Test.YtfkidklpjiiclaaGreatVd08
import Derived.Test.YtfkidklpjiiclaaGreatVd03
namespace Go.Proofs.YtfkidklpjiiclaaGreat
open Go.RowKit
set_option linter.unusedVariables false
set_option maxRecDepth 100000

theorem all_take_step {α : Type} {f : α → Bool} {L : List α} {k : Nat} {a : α} (h : (L.take k).all f = true) (ha : L[k]? = some a) (hf : f a = true) : (L.take (k + 1)).all f = true := by
  have hl := (List.getElem?_eq_some_iff.1 ha).1
  rw [List.take_succ_eq_append_getElem hl, List.all_append, h]
  rw [List.getElem?_eq_getElem hl] at ha
  injection ha with ha
  simp [ha, hf]
theorem all_no {α : Type} {f : α → Bool} {L : List α} {k : Nat} {a : α} (ha : L[k]? = some a) (hf : f a = false) : L.all f = false := by
  rw [List.all_eq_false]
  exact ⟨a, List.mem_of_getElem? ha, by simp [hf]⟩
theorem all_done {α : Type} {f : α → Bool} {L : List α} {n : Nat} (h : (L.take n).all f = true) (hl : L.length = n) : L.all f = true := by
  rwa [List.take_of_length_le (by omega)] at h

end Go.Proofs.YtfkidklpjiiclaaGreat

/- Whether loops and outlines are valid: both sides. Conditions: as each states. -/
namespace Go.Proofs.YtfkidklpjiiclaaGreat
open Go.RowKit
set_option linter.unusedVariables false
set_option maxRecDepth 100000

def ptOk (x y : Int) : Bool := inB x (-262144) 262144 && inB y (-262144) 262144
def knotOk (k : Knot) : Bool := ptOk k.1 k.2.1
def headOn (K : List Knot) : Bool := match K with | [] => false | k :: _ => k.2.2
def loopOk (K : List Knot) : Bool := inB K.length 1 60 && headOn K && K.all knotOk
def outOk (Ls : List (List Knot)) : Bool := Ls.all loopOk && decide (Ls.length ≤ 12)
theorem ptOk_iff {x y : Int} : ptOk x y = true ↔ (-262144 ≤ x ∧ x ≤ 262144) ∧ (-262144 ≤ y ∧ y ≤ 262144) := by simp [ptOk, inB_iff]

theorem l03Ok_any (x y : Int) (w : World) : Calls Tryz.prog 112 #[.agg #[.int .i64 x, .int .i64 y]] w fun e w' => e = .returned (.bool (ptOk x y)) ∧ Below w.heap.size w w' := by
  cases t0 : inB x (-262144) 262144
  all_goals
    go_enter Tryz.func112, Tryz.ntmps112
    go_wp2_with (go_at_call 105; refine (l00In_any _ _ _ _).mono ?_; rintro e w' ⟨rfl, rfl⟩)
    go_ret
    exact ⟨ret_bool (by simp [ptOk, t0]), Go.Joins.below_alloc1 _ _⟩
theorem validPt_any (x y : Int) (w : World) : Calls Tryz.prog 80 #[.agg #[.int .i64 x, .int .i64 y]] w fun e w' => e = .returned (.bool (ptOk x y)) ∧ Below w.heap.size w w' := by
  by_cases h1 : -262144 ≤ x <;> by_cases h2 : x ≤ 262144 <;> by_cases h3 : -262144 ≤ y
  all_goals try (exfalso; omega)
  all_goals
    go_enter Tryz.func80, Tryz.ntmps80
    go_wp2
    go_ret
    exact ⟨ret_bool (by first | (simp [ptOk, inB, h1, h2, h3]; done) | (rw [Bool.eq_iff_iff]; simp [ptOk, inB]; omega)), Go.Joins.below_alloc1 _ _⟩

theorem headOn_at {K : List Knot} {k : Knot} (h : K[0]? = some k) : headOn K = k.2.2 := by
  cases K with
  | nil => simp at h
  | cons a K => simp at h; rw [h]; rfl

set_option maxHeartbeats 2000000 in
theorem l10Loop_any (b off : Nat) (A : Option Addr) (n c lo hi : Nat) (K : List Knot) (v : Bool) (hv : v = loopOk K) (w : World) (hb : b < w.heap.size) (hcell : w.cell? ⟨b, off, none⟩ = some (.slice A n c)) (hr : RdS 3 (FlatR knotC) w lo hi A n K) (hhi : hi ≤ w.heap.size) (hn : n ≤ 1000000000) :
    Calls Tryz.prog 154 #[.pointer (some ⟨b, off, none⟩)] w fun e w' => e = .returned (.bool v) ∧ Below w.heap.size w w' := by
  have hl := Lib.hid hr.1
  replace hv := Lib.hid hv
  have hIN : ∀ x : Bool, x = inB (n : Int) 1 60 → inB (K.length : Int) 1 60 = x := fun x h => by rw [h, hl.out]
  cases t0 : inB (n : Int) 1 60
  · have hvf : v = false := by rw [hv.out, loopOk, hIN _ t0.symm]; rfl
    subst hvf
    replace hr := Lib.hid hr
    clear hIN
    go_enter Tryz.func154, Tryz.ntmps154
    go_wp2_with (go_at_call 105; refine (l00In_any _ _ _ _).mono ?_; rintro e w' ⟨rfl, rfl⟩)
    go_ret
    exact ⟨rfl, Below.refl _ _⟩
  obtain ⟨hn1, hn60⟩ := inB_iff.1 t0
  obtain ⟨b1, o1, ⟨x0, x1, x2⟩, rfl, hb0, hbw, hja, hcs⟩ := hr.at (j := 0) (by omega)
  have q2 := hcs 2 _ rfl
  simp only [Nat.zero_mul, Nat.add_zero] at q2
  clear hcs
  have hho := headOn_at hja
  have hb1w : b1 < w.heap.size := by omega
  replace hr := Lib.hid hr
  cases x2
  · have hvf : v = false := by rw [hv.out, loopOk, hIN _ t0.symm, hho]; rfl
    subst hvf
    clear hIN hho hja hb0 hbw
    go_enter Tryz.func154, Tryz.ntmps154
    go_wp2_with (go_at_call 105; refine (l00In_any _ _ _ _).mono ?_; rintro e w' ⟨rfl, rfl⟩)
    go_ret
    exact ⟨rfl, Below.refl _ _⟩
  have hvr : v = K.all knotOk := by rw [hv.out, loopOk, hIN _ t0.symm, hho]; simp
  replace hvr := Lib.hid hvr
  clear hIN hho hja hb0 hbw hv
  go_enter Tryz.func154, Tryz.ntmps154
  go_wp2_with (go_at_call 105; refine (l00In_any _ _ _ _).mono ?_; rintro e w' ⟨rfl, rfl⟩)
  clear q2
  go_loopw [3] (fun i wr => ∃ k : Nat, i = .int .i64 k ∧ k ≤ n ∧ (K.take k).all knotOk = true ∧ Below w.heap.size w wr) (fun i wr => n - (intOf i).toNat)
  case atStart => exact ⟨0, rfl, Nat.zero_le _, rfl, Below.refl _ _⟩
  case round =>
    obtain ⟨k, rfl, hk, hall, hbel⟩ := hrel
    replace hall := Lib.hid hall
    have hcw : wr.cell? ⟨b, off, none⟩ = some (.slice (some ⟨b1, o1, none⟩) n c) := (hbel.cell (p := ⟨b, off, none⟩) hb).trans hcell
    have hbr : b < wr.heap.size := by have := hbel.size; omega
    by_cases hlt : k < n
    · obtain ⟨b2, o2, ⟨y0, y1, y2⟩, hA, _, hbw, hja, hcs⟩ := (hr.out.frame (good_flat _) (Below.sameB hbel hhi)).at hlt
      injection hA with hA
      injection hA with hA1 hA2
      subst hA1 hA2
      have q0 := hcs 0 _ rfl
      have q1 := hcs 1 _ rfl
      simp only [Nat.add_zero] at q0 q1
      clear hcs
      have hb2 : b1 < wr.heap.size := by have := hbel.size; omega
      replace hja := Lib.hid hja
      cases t1 : ptOk y0 y1
      · have hvf : v = false := by rw [hvr.out]; exact all_no hja.out t1
        subst hvf
        go_wp2_with (go_at_call 112; refine (l03Ok_any _ _ _).mono ?_; rintro e w1 ⟨rfl, hb1⟩)
        go_ret
        exact ⟨rfl, hbel.trans (hb1.mono hbel.size)⟩
      · go_wp2_with (go_at_call 112; refine (l03Ok_any _ _ _).mono ?_; rintro e w1 ⟨rfl, hb1⟩)
        go_roundw
        case rel => exact ⟨k + 1, by go_num, by omega, all_take_step hall.out hja.out t1, hbel.trans (hb1.mono hbel.size)⟩
        case measure => simp [intOf]; omega
    · have hkn : k = n := by omega
      have hvt : v = true := by rw [hvr.out]; exact all_done (by rw [← hkn]; exact hall.out) hl.out
      subst hvt
      replace hkn := Lib.hid hkn
      go_wp2_with fail
      go_ret
      exact ⟨rfl, hbel⟩

set_option maxHeartbeats 2000000 in
theorem l10OkAt_any (x xo : Nat) (A : Option Addr) (n c lo hi : Nat) (Ls : List (List Knot)) (v : Bool) (hv : v = outOk Ls) (w : World) (hx : x < w.heap.size) (hcell : w.cell? ⟨x, xo, none⟩ = some (.slice A n c)) (hr : OutRd w lo hi A n Ls) (hhi : hi ≤ w.heap.size) (hn : n ≤ 1000000000) (hK : ∀ K ∈ Ls, K.length ≤ 1000000000) :
    Calls Tryz.prog 111 #[.pointer (some ⟨x, xo, none⟩)] w fun e w' => e = .returned (.bool v) ∧ Below w.heap.size w w' := by
  have hl := Lib.hid hr.1
  replace hv := Lib.hid hv
  replace hr := Lib.hid hr
  replace hK := Lib.hid hK
  go_enter Tryz.func111, Tryz.ntmps111
  go_wp2_with fail
  go_loopw [3] (fun i wr => ∃ k : Nat, i = .int .i64 k ∧ k ≤ n ∧ (Ls.take k).all loopOk = true ∧ Below w.heap.size w wr) (fun i wr => n - (intOf i).toNat)
  case atStart => exact ⟨0, rfl, Nat.zero_le _, rfl, Below.refl _ _⟩
  case round =>
    obtain ⟨k, rfl, hk, hall, hbel⟩ := hrel
    replace hall := Lib.hid hall
    have hcw : wr.cell? ⟨x, xo, none⟩ = some (.slice A n c) := (hbel.cell (p := ⟨x, xo, none⟩) hx).trans hcell
    have hxr : x < wr.heap.size := by have := hbel.size; omega
    by_cases hlt : k < n
    · obtain ⟨b1, o1, K, A1, n1, c1, hA, hb0, hb, hja, q0, hm, hr1⟩ := out_at (hr.out.frame good_loop (Below.sameB hbel hhi)) hlt
      rw [hA] at hcw
      have hbw : b1 < wr.heap.size := by have := hbel.size; omega
      have hsz := hbel.size
      obtain ⟨t, ht⟩ : ∃ t, t = loopOk K := ⟨_, rfl⟩
      have hcall := Lib.hid (l10Loop_any b1 (o1 + k) A1 n1 c1 lo hi K t ht wr hbw q0 hr1 (by omega) (by rw [← hr1.1]; exact hK.out K (List.mem_of_getElem? hja)))
      clear hr1 hm hb0 hb
      replace hja := Lib.hid hja
      replace ht := Lib.hid ht
      replace hA := Lib.hid hA
      go_wp2_with fail
      refine hcall.out.mono ?_
      rintro e w1 ⟨rfl, hb1⟩
      have hbel1 := hbel.trans (hb1.mono hbel.size)
      cases t
      · have hvf : v = false := by rw [hv.out, outOk, all_no hja.out ht.out.symm]; rfl
        subst hvf
        go_wp2_with fail
        go_ret
        exact ⟨rfl, hbel1⟩
      · go_wp2_with fail
        go_roundw
        case rel => exact ⟨k + 1, by go_num, by omega, all_take_step hall.out hja.out ht.out.symm, hbel1⟩
        case measure => simp [intOf]; omega
    · have hkn : k = n := by omega
      have hvt : v = decide (n ≤ 12) := by rw [hv.out, outOk, all_done (n := n) (by rw [← hkn]; exact hall.out) hl.out, hl.out]; simp
      replace hkn := Lib.hid hkn
      replace hvt := Lib.hid hvt
      by_cases h12 : n ≤ 12
      all_goals
        go_wp2_with fail
        go_ret
        exact ⟨ret_bool (by rw [hvt.out]; simp; omega), hbel⟩

/-! ### the program's side -/
theorem badKnot_any (x y : Int) (z : Bool) (w : World) : Calls Tryz.prog 167 #[.agg #[.int .i64 x, .int .i64 y, .bool z]] w fun e w' => e = .returned (.bool (!knotOk (x, y, z))) ∧ Below w.heap.size w w' := by
  go_enter Tryz.func167, Tryz.ntmps167
  go_wp2_with (go_at_call 80; refine (validPt_any _ _ _).mono ?_; rintro e w1 ⟨rfl, hb1⟩)
  go_ret
  exact ⟨rfl, (Go.Joins.below_alloc1 _ _).trans (hb1.mono (by simp))⟩

set_option maxHeartbeats 1000000 in
theorem knotIndex_any (A : Option Addr) (n c lo hi : Nat) (K : List Knot) (w : World) (hr : RdS 3 (FlatR knotC) w lo hi A n K) (hhi : hi ≤ w.heap.size) (hn : n ≤ 1000000000) :
    Calls Tryz.prog 191 #[.slice A n c, .func (.func 167) #[] #[]] w fun e w' => ∃ r : Int, e = .returned (.int .i64 r) ∧ decide (0 ≤ r) = !(K.all knotOk) ∧ Below w.heap.size w w' := by
  replace hr := Lib.hid hr
  go_enter Tryz.func191, Tryz.ntmps191
  go_wp2_with fail
  go_loopw [8] (fun i wr => ∃ k : Nat, i = .int .i64 k ∧ k ≤ n ∧ (K.take k).all knotOk = true ∧ Below w.heap.size w wr) (fun i wr => n - (intOf i).toNat)
  case atStart => exact ⟨0, rfl, Nat.zero_le _, rfl, Below.refl _ _⟩
  case round =>
    obtain ⟨k, rfl, hk, hall, hbel⟩ := hrel
    replace hall := Lib.hid hall
    by_cases hlt : k < n
    · obtain ⟨b1, o1, ⟨x0, x1, x2⟩, rfl, _, hbw, hja, hcs⟩ := (hr.out.frame (good_flat _) (Below.sameB hbel hhi)).at hlt
      have q0 := hcs 0 _ rfl
      have q1 := hcs 1 _ rfl
      have q2 := hcs 2 _ rfl
      simp only [Nat.add_zero] at q0 q1 q2
      clear hcs
      replace hja := Lib.hid hja
      cases hv : knotOk (x0, x1, x2)
      · go_wp2_with (go_at_call 167; refine (badKnot_any _ _ _ _).mono ?_; rintro e w1 ⟨rfl, hb1⟩)
        go_ret
        exact ⟨k, rfl, by rw [all_no hja.out hv]; simp, hbel.trans (hb1.mono hbel.size)⟩
      · go_wp2_with (go_at_call 167; refine (badKnot_any _ _ _ _).mono ?_; rintro e w1 ⟨rfl, hb1⟩)
        go_roundw
        case rel => exact ⟨k + 1, by go_num, by omega, all_take_step hall.out hja.out hv, hbel.trans (hb1.mono hbel.size)⟩
        case measure => simp [intOf]; omega
    · have hkn : k = n := by omega
      have hfin := Lib.hid (all_done (by rw [← hkn]; exact hall.out) hr.out.1)
      replace hkn := Lib.hid hkn
      go_wp2_with fail
      go_ret
      exact ⟨-1, rfl, by rw [hfin.out]; rfl, hbel⟩
theorem knotContains_any (A : Option Addr) (n c lo hi : Nat) (K : List Knot) (b : Bool) (hb : b = !(K.all knotOk)) (w : World) (hr : RdS 3 (FlatR knotC) w lo hi A n K) (hhi : hi ≤ w.heap.size) (hn : n ≤ 1000000000) :
    Calls Tryz.prog 166 #[.slice A n c, .func (.func 167) #[] #[]] w fun e w' => e = .returned (.bool b) ∧ Below w.heap.size w w' := by
  have hi := Lib.hid (knotIndex_any A n c lo hi K w hr hhi hn)
  replace hb := Lib.hid hb
  go_enter Tryz.func166, Tryz.ntmps166
  go_wp2_with fail
  refine hi.out.mono ?_
  rintro e w1 ⟨r, rfl, hd, hb1⟩
  replace hd := Lib.hid hd
  go_wp2_with fail
  go_ret
  exact ⟨ret_bool (by rw [hb.out]; exact hd.out), hb1⟩

set_option maxHeartbeats 2000000 in
theorem validLoop_any (A : Option Addr) (n c lo hi : Nat) (K : List Knot) (v : Bool) (hv : v = loopOk K) (w : World) (hr : RdS 3 (FlatR knotC) w lo hi A n K) (hhi : hi ≤ w.heap.size) (hn : n ≤ 1000000000) :
    Calls Tryz.prog 133 #[.agg #[.slice A n c]] w fun e w' => e = .returned (.bool v) ∧ Below w.heap.size w w' := by
  have hl := Lib.hid hr.1
  replace hv := Lib.hid hv
  by_cases hn1 : 1 ≤ n
  rotate_left
  · have hvf : v = false := by
      rw [hv.out, loopOk]
      have : inB (K.length : Int) 1 60 = false := inB_false.2 (by have := hl.out; omega)
      rw [this]; rfl
    subst hvf
    clear hr
    go_enter Tryz.func133, Tryz.ntmps133
    go_wp2_with fail
    go_ret
    exact ⟨rfl, Go.Joins.below_alloc1 _ _⟩
  by_cases hn60 : n ≤ 60
  rotate_left
  · have hvf : v = false := by
      rw [hv.out, loopOk]
      have : inB (K.length : Int) 1 60 = false := inB_false.2 (by have := hl.out; omega)
      rw [this]; rfl
    subst hvf
    clear hr
    go_enter Tryz.func133, Tryz.ntmps133
    go_wp2_with fail
    go_ret
    exact ⟨rfl, Go.Joins.below_alloc1 _ _⟩
  have hin : inB (K.length : Int) 1 60 = true := inB_iff.2 (by have := hl.out; omega)
  obtain ⟨b1, o1, ⟨x0, x1, x2⟩, rfl, hb0, hbw, hja, hcs⟩ := hr.at (j := 0) (by omega)
  have q2 := hcs 2 _ rfl
  simp only [Nat.zero_mul, Nat.add_zero] at q2
  clear hcs
  have hho := headOn_at hja
  have hb1w : b1 < w.heap.size := by omega
  replace hr := Lib.hid hr
  cases x2
  · have hvf : v = false := by rw [hv.out, loopOk, hin, hho]; rfl
    subst hvf
    clear hho hja hb0 hbw hin
    go_enter Tryz.func133, Tryz.ntmps133
    go_wp2_with fail
    go_ret
    exact ⟨rfl, Go.Joins.below_alloc1 _ _⟩
  have hvr : v = K.all knotOk := by rw [hv.out, loopOk, hin, hho]; simp
  obtain ⟨t, ht⟩ : ∃ t, t = !(K.all knotOk) := ⟨_, rfl⟩
  have hcall := Lib.hid (fun o => knotContains_any (some ⟨b1, o1, none⟩) n c lo hi K t ht (w.alloc o) (hr.out.frame (good_flat _) (SameB.alloc (SameB.refl _ _ _) hhi _)) (by simp; omega) hn)
  have hvt : v = !t := by rw [hvr, ht]; simp
  subst hvt
  replace ht := Lib.hid ht
  replace hvr := Lib.hid hvr
  clear hho hja hb0 hbw hv hin
  go_enter Tryz.func133, Tryz.ntmps133
  go_wp2_with fail
  refine (hcall.out _).mono ?_
  rintro e w1 ⟨rfl, hb1⟩
  go_wp2_with fail
  go_ret
  exact ⟨rfl, (Go.Joins.below_alloc1 _ _).trans (hb1.mono (by simp))⟩

theorem badLoop_any (A : Option Addr) (n c lo hi : Nat) (K : List Knot) (v : Bool) (hv : v = loopOk K) (w : World) (hr : RdS 3 (FlatR knotC) w lo hi A n K) (hhi : hi ≤ w.heap.size) (hn : n ≤ 1000000000) :
    Calls Tryz.prog 132 #[.agg #[.slice A n c]] w fun e w' => e = .returned (.bool (!v)) ∧ Below w.heap.size w w' := by
  have hcall := Lib.hid (fun o => validLoop_any A n c lo hi K v hv (w.alloc o) (hr.frame (good_flat _) (SameB.alloc (SameB.refl _ _ _) hhi _)) (by simp; omega) hn)
  replace hv := Lib.hid hv
  clear hr
  go_enter Tryz.func132, Tryz.ntmps132
  go_wp2_with fail
  refine (hcall.out _).mono ?_
  rintro e w1 ⟨rfl, hb1⟩
  go_wp2_with fail
  go_ret
  exact ⟨rfl, (Go.Joins.below_alloc1 _ _).trans (hb1.mono (by simp))⟩

set_option maxHeartbeats 1000000 in
theorem loopIndex_any (A : Option Addr) (n c lo hi : Nat) (Ls : List (List Knot)) (w : World) (hr : OutRd w lo hi A n Ls) (hhi : hi ≤ w.heap.size) (hn : n ≤ 1000000000) (hK : ∀ K ∈ Ls, K.length ≤ 1000000000) :
    Calls Tryz.prog 165 #[.slice A n c, .func (.func 132) #[] #[]] w fun e w' => ∃ r : Int, e = .returned (.int .i64 r) ∧ decide (0 ≤ r) = !(Ls.all loopOk) ∧ Below w.heap.size w w' := by
  have hl := Lib.hid hr.1
  replace hr := Lib.hid hr
  replace hK := Lib.hid hK
  go_enter Tryz.func165, Tryz.ntmps165
  go_wp2_with fail
  go_loopw [8] (fun i wr => ∃ k : Nat, i = .int .i64 k ∧ k ≤ n ∧ (Ls.take k).all loopOk = true ∧ Below w.heap.size w wr) (fun i wr => n - (intOf i).toNat)
  case atStart => exact ⟨0, rfl, Nat.zero_le _, rfl, Below.refl _ _⟩
  case round =>
    obtain ⟨k, rfl, hk, hall, hbel⟩ := hrel
    replace hall := Lib.hid hall
    by_cases hlt : k < n
    · obtain ⟨b1, o1, K, A1, n1, c1, rfl, hb0, hb, hja, q0, hm, hr1⟩ := out_at (hr.out.frame good_loop (Below.sameB hbel hhi)) hlt
      have hbw : b1 < wr.heap.size := by have := hbel.size; omega
      have hsz := hbel.size
      obtain ⟨t, ht⟩ : ∃ t, t = loopOk K := ⟨_, rfl⟩
      have hcall := Lib.hid (badLoop_any A1 n1 c1 lo hi K t ht wr hr1 (by omega) (by rw [← hr1.1]; exact hK.out K (List.mem_of_getElem? hja)))
      clear hr1 hm hb0 hb
      replace hja := Lib.hid hja
      replace ht := Lib.hid ht
      go_wp2_with fail
      refine hcall.out.mono ?_
      rintro e w1 ⟨rfl, hb1⟩
      have hbel1 := hbel.trans (hb1.mono hbel.size)
      cases t
      · go_wp2_with fail
        go_ret
        exact ⟨k, rfl, by rw [all_no hja.out ht.out.symm]; simp, hbel1⟩
      · go_wp2_with fail
        go_roundw
        case rel => exact ⟨k + 1, by go_num, by omega, all_take_step hall.out hja.out ht.out.symm, hbel1⟩
        case measure => simp [intOf]; omega
    · have hkn : k = n := by omega
      have hfin := Lib.hid (all_done (by rw [← hkn]; exact hall.out) hl.out)
      replace hkn := Lib.hid hkn
      go_wp2_with fail
      go_ret
      exact ⟨-1, rfl, by rw [hfin.out]; rfl, hbel⟩
theorem loopContains_any (A : Option Addr) (n c lo hi : Nat) (Ls : List (List Knot)) (b : Bool) (hb : b = !(Ls.all loopOk)) (w : World) (hr : OutRd w lo hi A n Ls) (hhi : hi ≤ w.heap.size) (hn : n ≤ 1000000000) (hK : ∀ K ∈ Ls, K.length ≤ 1000000000) :
    Calls Tryz.prog 131 #[.slice A n c, .func (.func 132) #[] #[]] w fun e w' => e = .returned (.bool b) ∧ Below w.heap.size w w' := by
  have hi := Lib.hid (loopIndex_any A n c lo hi Ls w hr hhi hn hK)
  replace hb := Lib.hid hb
  go_enter Tryz.func131, Tryz.ntmps131
  go_wp2_with fail
  refine hi.out.mono ?_
  rintro e w1 ⟨r, rfl, hd, hb1⟩
  replace hd := Lib.hid hd
  go_wp2_with fail
  go_ret
  exact ⟨ret_bool (by rw [hb.out]; exact hd.out), hb1⟩

set_option maxHeartbeats 1000000 in
theorem validOutline_any (A : Option Addr) (n c lo hi : Nat) (Ls : List (List Knot)) (v : Bool) (hv : v = outOk Ls) (w : World) (hr : OutRd w lo hi A n Ls) (hhi : hi ≤ w.heap.size) (hn : n ≤ 1000000000) (hK : ∀ K ∈ Ls, K.length ≤ 1000000000) :
    Calls Tryz.prog 79 #[.agg #[.slice A n c]] w fun e w' => e = .returned (.bool v) ∧ Below w.heap.size w w' := by
  have hl := Lib.hid hr.1
  by_cases h12 : n ≤ 12
  rotate_left
  · have hvf : v = false := by rw [hv, outOk, decide_eq_false (by rw [hl.out]; exact h12)]; simp
    subst hvf
    clear hr hv
    go_enter Tryz.func79, Tryz.ntmps79
    go_wp2_with fail
    go_ret
    exact ⟨rfl, Go.Joins.below_alloc1 _ _⟩
  obtain ⟨t, ht⟩ : ∃ t, t = !(Ls.all loopOk) := ⟨_, rfl⟩
  have hcall := Lib.hid (fun o => loopContains_any A n c lo hi Ls t ht (w.alloc o) (hr.frame good_loop (SameB.alloc (SameB.refl _ _ _) hhi _)) (by simp; omega) hn hK)
  have hvt : v = !t := by rw [hv, ht, outOk, decide_eq_true (by rw [hl.out]; exact h12)]; simp
  subst hvt
  replace ht := Lib.hid ht
  clear hv hr
  go_enter Tryz.func79, Tryz.ntmps79
  go_wp2_with fail
  refine (hcall.out _).mono ?_
  rintro e w1 ⟨rfl, hb1⟩
  go_wp2_with fail
  go_ret
  exact ⟨rfl, (Go.Joins.below_alloc1 _ _).trans (hb1.mono (by simp))⟩
end Go.Proofs.YtfkidklpjiiclaaGreat

