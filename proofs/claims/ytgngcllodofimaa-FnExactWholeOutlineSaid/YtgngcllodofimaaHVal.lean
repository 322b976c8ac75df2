/- Whether all numbers and all points of a list are small: both sides. Conditions: as each states. -/
import Derived.Test.YtgngcllodofimaaHinter
import Derived.Test.YtgngcllodofimaaBoxH
import Derived.Test.YtgngcllodofimaaInt
import Derived.WalkSmall
namespace Go.Proofs.Ytgngcllodofimaa
open Go.RowKit
set_option linter.unusedVariables false
set_option maxRecDepth 100000

theorem not_f {x : Bool} (h : false = !x) : x = true := by cases x <;> simp_all
def smN (x : Int) : Bool := inB x (-1073741824) 1073741824
def smP (p : Int × Int) : Bool := smN p.1 && smN p.2

theorem all_take_step {α : Type} {f : α → Bool} {L : List α} {k : Nat} {a : α} (h : (L.take k).all f = true) (ha : L[k]? = some a) (hf : f a = true) : (L.take (k + 1)).all f = true := by
  have hl := (List.getElem?_eq_some_iff.1 ha).1
  rw [List.take_succ_eq_append_getElem hl, List.all_append, h]
  rw [List.getElem?_eq_getElem hl] at ha
  injection ha with ha
  simp [ha, hf]
theorem all_no {α : Type} {f : α → Bool} {L : List α} {k : Nat} {a : α} (ha : L[k]? = some a) (hf : f a = false) : L.all f = false := by
  rw [List.all_eq_false]
  exact ⟨a, List.mem_of_getElem? ha, by simp [hf]⟩
theorem all_done {α : Type} {f : α → Bool} {L : List α} {n : Nat} (h : (L.take n).all f = true) (hl : L.length = n) : L.all f = true := by
  rwa [List.take_of_length_le (by omega)] at h

set_option maxHeartbeats 1000000 in
theorem l20Small_any (A : Option Addr) (n c lo hi : Nat) (L : List (Int)) (b : Bool) (hb : b = L.all smN) (w : World) (hr : RdS 1 (FlatR intC) w lo hi A n L) (hn : n ≤ 1000000000) :
    Calls Try.prog 172 #[.slice A n c] w fun e w' => e = .returned (.bool b) ∧ w = w' := by
  replace hb := Lib.hid hb
  replace hr := Lib.hid hr
  go_enter Try.func172, Try.ntmps172
  go_wp2_with fail
  go_loop [3] (fun i => ∃ k : Nat, i = .int .i64 k ∧ k ≤ n ∧ (L.take k).all smN = true) (fun i => n - (intOf i).toNat)
  case atStart => exact ⟨0, rfl, Nat.zero_le _, rfl⟩
  case round =>
    obtain ⟨k, rfl, hk, hall⟩ := hrel
    replace hall := Lib.hid hall
    by_cases hlt : k < n
    · obtain ⟨b1, o1, x0, rfl, _, _, hja, hcs⟩ := hr.out.at hlt
      have q0 := hcs 0 _ rfl
      simp only [Nat.add_zero, Nat.mul_one] at q0
      clear hcs
      replace hja := Lib.hid hja
      cases t0 : inB x0 (-1073741824) 1073741824
      · have hbf : b = false := by rw [hb.out]; exact all_no hja.out (by simp [smN, t0])
        subst hbf
        go_wp2_with (go_at_call 155; refine (l00In_any _ _ _ _).mono ?_; rintro e w' ⟨rfl, rfl⟩)
        go_ret
        exact ⟨rfl, rfl⟩
      go_wp2_with (go_at_call 155; refine (l00In_any _ _ _ _).mono ?_; rintro e w' ⟨rfl, rfl⟩)
      go_round
      case rel => exact ⟨k + 1, by go_num, by omega, all_take_step hall.out hja.out (by simp [smN, t0])⟩
      case measure => simp [intOf]; omega
    · have hkn : k = n := by omega
      have hbt : b = true := by rw [hb.out]; exact all_done (by rw [← hkn]; exact hall.out) hr.out.1
      subst hbt
      replace hkn := Lib.hid hkn
      go_wp2_with fail
      go_ret
      exact ⟨rfl, rfl⟩

set_option maxHeartbeats 1000000 in
theorem l20Points_any (A : Option Addr) (n c lo hi : Nat) (L : List (Int × Int)) (b : Bool) (hb : b = L.all smP) (w : World) (hr : RdS 2 (FlatR ptC) w lo hi A n L) (hn : n ≤ 1000000000) :
    Calls Try.prog 171 #[.slice A n c] w fun e w' => e = .returned (.bool b) ∧ w = w' := by
  replace hb := Lib.hid hb
  replace hr := Lib.hid hr
  go_enter Try.func171, Try.ntmps171
  go_wp2_with fail
  go_loop [3] (fun i => ∃ k : Nat, i = .int .i64 k ∧ k ≤ n ∧ (L.take k).all smP = true) (fun i => n - (intOf i).toNat)
  case atStart => exact ⟨0, rfl, Nat.zero_le _, rfl⟩
  case round =>
    obtain ⟨k, rfl, hk, hall⟩ := hrel
    replace hall := Lib.hid hall
    by_cases hlt : k < n
    · obtain ⟨b1, o1, ⟨x0, x1⟩, rfl, _, _, hja, hcs⟩ := hr.out.at hlt
      have q0 := hcs 0 _ rfl
      have q1 := hcs 1 _ rfl
      simp only [Nat.add_zero] at q0 q1
      clear hcs
      replace hja := Lib.hid hja
      cases t0 : inB x0 (-1073741824) 1073741824
      · have hbf : b = false := by rw [hb.out]; exact all_no hja.out (by simp [smP, smN, t0])
        subst hbf
        go_wp2_with (go_at_call 155; refine (l00In_any _ _ _ _).mono ?_; rintro e w' ⟨rfl, rfl⟩)
        go_ret
        exact ⟨rfl, rfl⟩
      cases t1 : inB x1 (-1073741824) 1073741824
      · have hbf : b = false := by rw [hb.out]; exact all_no hja.out (by simp [smP, smN, t1])
        subst hbf
        go_wp2_with (go_at_call 155; refine (l00In_any _ _ _ _).mono ?_; rintro e w' ⟨rfl, rfl⟩)
        go_ret
        exact ⟨rfl, rfl⟩
      go_wp2_with (go_at_call 155; refine (l00In_any _ _ _ _).mono ?_; rintro e w' ⟨rfl, rfl⟩)
      go_round
      case rel => exact ⟨k + 1, by go_num, by omega, all_take_step hall.out hja.out (by simp [smP, smN, t0, t1])⟩
      case measure => simp [intOf]; omega
    · have hkn : k = n := by omega
      have hbt : b = true := by rw [hb.out]; exact all_done (by rw [← hkn]; exact hall.out) hr.out.1
      subst hbt
      replace hkn := Lib.hid hkn
      go_wp2_with fail
      go_ret
      exact ⟨rfl, rfl⟩

theorem isSmall_any (x : Int) (w : World) : Calls Try.prog 210 #[.int .i64 x] w fun e w' => e = .returned (.bool (smN x)) ∧ w = w' := by
  by_cases h : -1073741824 ≤ x
  all_goals
    go_enter Try.func210, Try.ntmps210
    go_wp2
    go_ret
    exact ⟨ret_bool (by simp [smN, inB]; omega), rfl⟩
theorem smallPt_any (x y : Int) (w : World) : Calls Try.prog 212 #[.agg #[.int .i64 x, .int .i64 y]] w fun e w' => e = .returned (.bool (smP (x, y))) ∧ Below w.heap.size w w' := by
  cases t0 : smN x
  all_goals
    go_enter Try.func212, Try.ntmps212
    go_wp2_with (go_at_call 210; refine (isSmall_any _ _).mono ?_; rintro e w' ⟨rfl, rfl⟩)
    go_ret
    exact ⟨ret_bool (by simp [smP, t0]), Go.Joins.below_alloc1 _ _⟩
theorem large_any (x : Int) (w : World) : Calls Try.prog 209 #[.int .i64 x] w fun e w' => e = .returned (.bool (!smN x)) ∧ w = w' := by
  go_enter Try.func209, Try.ntmps209
  go_wp2_with (go_at_call 210; refine (isSmall_any _ _).mono ?_; rintro e w' ⟨rfl, rfl⟩)
  go_ret
  exact ⟨rfl, rfl⟩
theorem wide_any (x y : Int) (w : World) : Calls Try.prog 211 #[.agg #[.int .i64 x, .int .i64 y]] w fun e w' => e = .returned (.bool (!smP (x, y))) ∧ Below w.heap.size w w' := by
  go_enter Try.func211, Try.ntmps211
  go_wp2_with (go_at_call 212; refine (smallPt_any _ _ _).mono ?_; rintro e w1 ⟨rfl, hb1⟩)
  go_ret
  exact ⟨rfl, (Go.Joins.below_alloc1 _ _).trans (hb1.mono (by simp))⟩

set_option maxHeartbeats 1000000 in
theorem largeIndex_any (A : Option Addr) (n c lo hi : Nat) (L : List (Int)) (w : World) (hr : RdS 1 (FlatR intC) w lo hi A n L) (hhi : hi ≤ w.heap.size) (hn : n ≤ 1000000000) :
    Calls Try.prog 207 #[.slice A n c, .func (.func 209) #[] #[]] w fun e w' => ∃ r : Int, e = .returned (.int .i64 r) ∧ decide (0 ≤ r) = !(L.all smN) ∧ Below w.heap.size w w' := by
  replace hr := Lib.hid hr
  go_enter Try.func207, Try.ntmps207
  go_wp2_with fail
  go_loopw [8] (fun i wr => ∃ k : Nat, i = .int .i64 k ∧ k ≤ n ∧ (L.take k).all smN = true ∧ Below w.heap.size w wr) (fun i wr => n - (intOf i).toNat)
  case atStart => exact ⟨0, rfl, Nat.zero_le _, rfl, Below.refl _ _⟩
  case round =>
    obtain ⟨k, rfl, hk, hall, hbel⟩ := hrel
    replace hall := Lib.hid hall
    by_cases hlt : k < n
    · obtain ⟨b1, o1, x0, rfl, _, _, hja, hcs⟩ := (hr.out.frame (good_flat _) (Below.sameB hbel hhi)).at hlt
      have q0 := hcs 0 _ rfl
      simp only [Nat.add_zero, Nat.mul_one] at q0
      clear hcs
      replace hja := Lib.hid hja
      cases hv : smN x0
      · go_wp2_with (go_at_call 209; refine (large_any _ _).mono ?_; rintro e w' ⟨rfl, rfl⟩)
        go_ret
        exact ⟨k, rfl, by rw [all_no hja.out hv]; simp, hbel⟩
      · go_wp2_with (go_at_call 209; refine (large_any _ _).mono ?_; rintro e w' ⟨rfl, rfl⟩)
        go_roundw
        case rel => exact ⟨k + 1, by go_num, by omega, all_take_step hall.out hja.out hv, hbel⟩
        case measure => simp [intOf]; omega
    · have hkn : k = n := by omega
      have hfin := Lib.hid (all_done (by rw [← hkn]; exact hall.out) hr.out.1)
      replace hkn := Lib.hid hkn
      go_wp2_with fail
      go_ret
      exact ⟨-1, rfl, by rw [hfin.out]; rfl, hbel⟩
theorem largeContains_any (A : Option Addr) (n c lo hi : Nat) (L : List (Int)) (b : Bool) (hb : b = !(L.all smN)) (w : World) (hr : RdS 1 (FlatR intC) w lo hi A n L) (hhi : hi ≤ w.heap.size) (hn : n ≤ 1000000000) :
    Calls Try.prog 166 #[.slice A n c, .func (.func 209) #[] #[]] w fun e w' => e = .returned (.bool b) ∧ Below w.heap.size w w' := by
  have hi := Lib.hid (largeIndex_any A n c lo hi L w hr hhi hn)
  replace hb := Lib.hid hb
  go_enter Try.func166, Try.ntmps166
  go_wp2_with fail
  refine hi.out.mono ?_
  rintro e w1 ⟨r, rfl, hd, hb1⟩
  replace hd := Lib.hid hd
  go_wp2_with fail
  go_ret
  exact ⟨ret_bool (by rw [hb.out]; exact hd.out), hb1⟩

set_option maxHeartbeats 1000000 in
theorem wideIndex_any (A : Option Addr) (n c lo hi : Nat) (L : List (Int × Int)) (w : World) (hr : RdS 2 (FlatR ptC) w lo hi A n L) (hhi : hi ≤ w.heap.size) (hn : n ≤ 1000000000) :
    Calls Try.prog 224 #[.slice A n c, .func (.func 211) #[] #[]] w fun e w' => ∃ r : Int, e = .returned (.int .i64 r) ∧ decide (0 ≤ r) = !(L.all smP) ∧ Below w.heap.size w w' := by
  replace hr := Lib.hid hr
  go_enter Try.func224, Try.ntmps224
  go_wp2_with fail
  go_loopw [8] (fun i wr => ∃ k : Nat, i = .int .i64 k ∧ k ≤ n ∧ (L.take k).all smP = true ∧ Below w.heap.size w wr) (fun i wr => n - (intOf i).toNat)
  case atStart => exact ⟨0, rfl, Nat.zero_le _, rfl, Below.refl _ _⟩
  case round =>
    obtain ⟨k, rfl, hk, hall, hbel⟩ := hrel
    replace hall := Lib.hid hall
    by_cases hlt : k < n
    · obtain ⟨b1, o1, ⟨x0, x1⟩, rfl, _, _, hja, hcs⟩ := (hr.out.frame (good_flat _) (Below.sameB hbel hhi)).at hlt
      have q0 := hcs 0 _ rfl
      have q1 := hcs 1 _ rfl
      simp only [Nat.add_zero] at q0 q1
      clear hcs
      replace hja := Lib.hid hja
      cases hv : smP (x0, x1)
      · go_wp2_with (go_at_call 211; refine (wide_any _ _ _).mono ?_; rintro e w1 ⟨rfl, hb1⟩)
        go_ret
        exact ⟨k, rfl, by rw [all_no hja.out hv]; simp, hbel.trans (hb1.mono hbel.size)⟩
      · go_wp2_with (go_at_call 211; refine (wide_any _ _ _).mono ?_; rintro e w1 ⟨rfl, hb1⟩)
        go_roundw
        case rel => exact ⟨k + 1, by go_num, by omega, all_take_step hall.out hja.out hv, hbel.trans (hb1.mono hbel.size)⟩
        case measure => simp [intOf]; omega
    · have hkn : k = n := by omega
      have hfin := Lib.hid (all_done (by rw [← hkn]; exact hall.out) hr.out.1)
      replace hkn := Lib.hid hkn
      go_wp2_with fail
      go_ret
      exact ⟨-1, rfl, by rw [hfin.out]; rfl, hbel⟩
theorem wideContains_any (A : Option Addr) (n c lo hi : Nat) (L : List (Int × Int)) (b : Bool) (hb : b = !(L.all smP)) (w : World) (hr : RdS 2 (FlatR ptC) w lo hi A n L) (hhi : hi ≤ w.heap.size) (hn : n ≤ 1000000000) :
    Calls Try.prog 213 #[.slice A n c, .func (.func 211) #[] #[]] w fun e w' => e = .returned (.bool b) ∧ Below w.heap.size w w' := by
  have hi := Lib.hid (wideIndex_any A n c lo hi L w hr hhi hn)
  replace hb := Lib.hid hb
  go_enter Try.func213, Try.ntmps213
  go_wp2_with fail
  refine hi.out.mono ?_
  rintro e w1 ⟨r, rfl, hd, hb1⟩
  replace hd := Lib.hid hd
  go_wp2_with fail
  go_ret
  exact ⟨ret_bool (by rw [hb.out]; exact hd.out), hb1⟩

/-- all numbers of a state are small -/
def smH (d : HinterD) : Bool := d.values.all smN && d.stack.all smN && d.orig.all smP && d.now.all smP
theorem box_new (w : World) (d : HinterD) (h : HinterH) (t : TypeId) : BoxH (w.alloc (.cells #[.int .i64 d.size, .slice h.orig.A h.orig.n h.orig.c, .slice h.now.A h.now.n h.now.c, .slice h.tx.A h.tx.n h.tx.c, .slice h.ty.A h.ty.n h.ty.c, .slice h.ends.A h.ends.n h.ends.c, .slice h.values.A h.values.n h.values.c, .slice h.stack.A h.stack.n h.stack.c, .bool d.axisY, .int .i64 d.ref, .int .i64 d.state, .int .i64 d.cut, .int .i64 d.least] t (0, 0))) w.heap.size d h := boxH_new (heap_alloc_new w _) rfl
set_option maxHeartbeats 2000000 in
theorem smallHinter_any (d : HinterD) (h : HinterH) (b : Bool) (hb : b = smH d) (lo hi : Nat) (w : World) (hr : HinterRd w lo hi d h) (hhi : hi ≤ w.heap.size) (hm : h.small 1000000000) :
    Calls Try.prog 174 #[hinV d h] w fun e w' => e = .returned (.bool b) ∧ Below w.heap.size w w' := by
  replace hb := Lib.hid hb
  obtain ⟨r1, r2, r3, r4, r5, r6, r7⟩ := hr
  obtain ⟨m1, m2, m3, m4, m5, m6, m7⟩ := hm
  replace r1 := Lib.hid r1
  replace r2 := Lib.hid r2
  replace r6 := Lib.hid r6
  replace r7 := Lib.hid r7
  clear r3 r4 r5
  have hx0 := Lib.hid (box_new w d h 65)
  have hB0 : Below w.heap.size w (w.alloc (.cells #[.int .i64 d.size, .slice h.orig.A h.orig.n h.orig.c, .slice h.now.A h.now.n h.now.c, .slice h.tx.A h.tx.n h.tx.c, .slice h.ty.A h.ty.n h.ty.c, .slice h.ends.A h.ends.n h.ends.c, .slice h.values.A h.values.n h.values.c, .slice h.stack.A h.stack.n h.stack.c, .bool d.axisY, .int .i64 d.ref, .int .i64 d.state, .int .i64 d.cut, .int .i64 d.least] 65 (0, 0))) := Go.Joins.below_alloc1 _ _
  have hz0 : w.heap.size < (w.alloc (.cells #[.int .i64 d.size, .slice h.orig.A h.orig.n h.orig.c, .slice h.now.A h.now.n h.now.c, .slice h.tx.A h.tx.n h.tx.c, .slice h.ty.A h.ty.n h.ty.c, .slice h.ends.A h.ends.n h.ends.c, .slice h.values.A h.values.n h.values.c, .slice h.stack.A h.stack.n h.stack.c, .bool d.axisY, .int .i64 d.ref, .int .i64 d.state, .int .i64 d.cut, .int .i64 d.least] 65 (0, 0))).heap.size := by simp
  generalize hw0 : w.alloc (.cells #[.int .i64 d.size, .slice h.orig.A h.orig.n h.orig.c, .slice h.now.A h.now.n h.now.c, .slice h.tx.A h.tx.n h.tx.c, .slice h.ty.A h.ty.n h.ty.c, .slice h.ends.A h.ends.n h.ends.c, .slice h.values.A h.values.n h.values.c, .slice h.stack.A h.stack.n h.stack.c, .bool d.axisY, .int .i64 d.ref, .int .i64 d.state, .int .i64 d.cut, .int .i64 d.least] 65 (0, 0)) = w0 at hx0 hB0 hz0
  replace hw0 := Lib.hid hw0
  go_enter Try.func174, Try.ntmps174
  go_wp2_with fail
  rw [hw0.out]
  clear hw0
  obtain ⟨v1, e0⟩ : ∃ v, v = !(d.values.all smN) := ⟨_, rfl⟩
  replace e0 := Lib.hid e0
  refine (largeContains_any _ _ _ lo hi d.values v1 e0.out _ (r6.out.frame (good_flat _) (Below.sameB hB0 hhi)) (Nat.le_trans hhi hB0.size) m6).mono ?_
  rintro e w1 ⟨rfl, hb1⟩
  have hB1 := hB0.trans (hb1.mono hB0.size)
  have hz1 : w.heap.size < w1.heap.size := Nat.lt_of_lt_of_le hz0 hb1.size
  have hx1 := Lib.hid (hx0.out.below hb1 hz0)
  clear hx0 hb1 
  cases v1
  rotate_left
  · have hbf : b = false := by
      have := e0.out
      rw [hb.out]
      cases ha : d.values.all smN
      · simp [smH, ha]
      · rw [ha] at this; cases this
    subst hbf
    go_wp2_with fail
    go_ret
    exact ⟨rfl, hB1⟩
  obtain ⟨_, _, _, _, _, _, _, s7, _, _, _, _, _⟩ := hx1.out
  go_wp2_with fail
  obtain ⟨v2, e1⟩ : ∃ v, v = !(d.stack.all smN) := ⟨_, rfl⟩
  replace e1 := Lib.hid e1
  refine (largeContains_any _ _ _ lo hi d.stack v2 e1.out _ (r7.out.frame (good_flat _) (Below.sameB hB1 hhi)) (Nat.le_trans hhi hB1.size) m7).mono ?_
  rintro e w2 ⟨rfl, hb2⟩
  have hB2 := hB1.trans (hb2.mono hB1.size)
  have hz2 : w.heap.size < w2.heap.size := Nat.lt_of_lt_of_le hz1 hb2.size
  have hx2 := Lib.hid (hx1.out.below hb2 hz1)
  clear hx1 hb2 s7
  cases v2
  rotate_left
  · have hbf : b = false := by
      have := e1.out
      rw [hb.out]
      cases ha : d.stack.all smN
      · simp [smH, ha]
      · rw [ha] at this; cases this
    subst hbf
    go_wp2_with fail
    go_ret
    exact ⟨rfl, hB2⟩
  obtain ⟨_, s1, _, _, _, _, _, _, _, _, _, _, _⟩ := hx2.out
  go_wp2_with fail
  obtain ⟨v3, e2⟩ : ∃ v, v = !(d.orig.all smP) := ⟨_, rfl⟩
  replace e2 := Lib.hid e2
  refine (wideContains_any _ _ _ lo hi d.orig v3 e2.out _ (r1.out.frame (good_flat _) (Below.sameB hB2 hhi)) (Nat.le_trans hhi hB2.size) m1).mono ?_
  rintro e w3 ⟨rfl, hb3⟩
  have hB3 := hB2.trans (hb3.mono hB2.size)
  have hz3 : w.heap.size < w3.heap.size := Nat.lt_of_lt_of_le hz2 hb3.size
  have hx3 := Lib.hid (hx2.out.below hb3 hz2)
  clear hx2 hb3 s1
  cases v3
  rotate_left
  · have hbf : b = false := by
      have := e2.out
      rw [hb.out]
      cases ha : d.orig.all smP
      · simp [smH, ha]
      · rw [ha] at this; cases this
    subst hbf
    go_wp2_with fail
    go_ret
    exact ⟨rfl, hB3⟩
  obtain ⟨_, _, s2, _, _, _, _, _, _, _, _, _, _⟩ := hx3.out
  go_wp2_with fail
  obtain ⟨v4, e3⟩ : ∃ v, v = !(d.now.all smP) := ⟨_, rfl⟩
  replace e3 := Lib.hid e3
  refine (wideContains_any _ _ _ lo hi d.now v4 e3.out _ (r2.out.frame (good_flat _) (Below.sameB hB3 hhi)) (Nat.le_trans hhi hB3.size) m2).mono ?_
  rintro e w4 ⟨rfl, hb4⟩
  have hB4 := hB3.trans (hb4.mono hB3.size)
  have hz4 : w.heap.size < w4.heap.size := Nat.lt_of_lt_of_le hz3 hb4.size
  have hx4 := Lib.hid (hx3.out.below hb4 hz3)
  clear hx3 hb4 s2
  cases v4
  rotate_left
  · have hbf : b = false := by
      have := e3.out
      rw [hb.out]
      cases ha : d.now.all smP
      · simp [smH, ha]
      · rw [ha] at this; cases this
    subst hbf
    go_wp2_with fail
    go_ret
    exact ⟨rfl, hB4⟩
  have hbt : b = true := by
    rw [hb.out]
    simp only [smH, not_f e0.out, not_f e1.out, not_f e2.out, not_f e3.out, Bool.and_self]
  subst hbt
  go_wp2_with fail
  go_ret
  exact ⟨rfl, hB4⟩
end Go.Proofs.Ytgngcllodofimaa
