/- The two functions that compare two states of the hint machine. Conditions: as each states. -/
import Derived.Test.YtjcjmjcgeojhiaaHinter
import Derived.Test.YtjcjmjcgeojhiaaEqD
namespace Go.Proofs.Ytjcjmjcgeojhiaa
open Go.RowKit
set_option linter.unusedVariables false
set_option maxRecDepth 100000

set_option maxHeartbeats 4000000 in
theorem specSameHinter_any (d d' : HinterD) (h h' : HinterH) (b : Bool) (hb : b = decide (d = d')) (lo hi lo' hi' : Nat) (w : World) (hr : HinterRd w lo hi d h) (hr' : HinterRd w lo' hi' d' h') (hhi : hi ≤ w.heap.size) (hhi' : hi' ≤ w.heap.size) (hm : h.small 1000000000) (hm' : h'.small 1000000000) :
    Calls Try.prog 13 #[hinV d h, hinV d' h'] w fun e w' => e = .returned (.bool b) ∧ Below w.heap.size w w' := by
  replace hb := Lib.hid hb
  have hne : Hid (∀ q : Prop, [Decidable q] → false = decide q → (d = d' → q) → b = false) := fun q _ h1 h2 => by
    rw [hb.out, decide_eq_false_iff_not]; intro e; have := h2 e; simp [this] at h1
  obtain ⟨hr0, hr1, hr2, hr3, hr4, hr5, hr6⟩ := hr
  obtain ⟨hq0, hq1, hq2, hq3, hq4, hq5, hq6⟩ := hr'
  obtain ⟨m0, m1, m2, m3, m4, m5, m6⟩ := hm
  obtain ⟨n0, n1, n2, n3, n4, n5, n6⟩ := hm'
  replace hr0 := Lib.hid hr0
  replace hq0 := Lib.hid hq0
  replace hr1 := Lib.hid hr1
  replace hq1 := Lib.hid hq1
  replace hr2 := Lib.hid hr2
  replace hq2 := Lib.hid hq2
  replace hr3 := Lib.hid hr3
  replace hq3 := Lib.hid hq3
  replace hr4 := Lib.hid hr4
  replace hq4 := Lib.hid hq4
  replace hr5 := Lib.hid hr5
  replace hq5 := Lib.hid hq5
  replace hr6 := Lib.hid hr6
  replace hq6 := Lib.hid hq6
  obtain ⟨b0, e0⟩ : ∃ b, b = decide (d.orig = d'.orig) := ⟨_, rfl⟩
  replace e0 := Lib.hid e0
  obtain ⟨b1, e1⟩ : ∃ b, b = decide (d.now = d'.now) := ⟨_, rfl⟩
  replace e1 := Lib.hid e1
  obtain ⟨b2, e2⟩ : ∃ b, b = decide (d.tx = d'.tx) := ⟨_, rfl⟩
  replace e2 := Lib.hid e2
  obtain ⟨b3, e3⟩ : ∃ b, b = decide (d.ty = d'.ty) := ⟨_, rfl⟩
  replace e3 := Lib.hid e3
  obtain ⟨b4, e4⟩ : ∃ b, b = decide (d.ends = d'.ends) := ⟨_, rfl⟩
  replace e4 := Lib.hid e4
  obtain ⟨b5, e5⟩ : ∃ b, b = decide (d.values = d'.values) := ⟨_, rfl⟩
  replace e5 := Lib.hid e5
  obtain ⟨b6, e6⟩ : ∃ b, b = decide (d.stack = d'.stack) := ⟨_, rfl⟩
  replace e6 := Lib.hid e6
  obtain ⟨b7, e7⟩ : ∃ b, b = decide (d.size = d'.size) := ⟨_, rfl⟩
  replace e7 := Lib.hid e7
  obtain ⟨b8, e8⟩ : ∃ b, b = decide (d.axisY = d'.axisY) := ⟨_, rfl⟩
  replace e8 := Lib.hid e8
  obtain ⟨b9, e9⟩ : ∃ b, b = decide (d.ref = d'.ref) := ⟨_, rfl⟩
  replace e9 := Lib.hid e9
  obtain ⟨b10, e10⟩ : ∃ b, b = decide (d.state = d'.state) := ⟨_, rfl⟩
  replace e10 := Lib.hid e10
  obtain ⟨b11, e11⟩ : ∃ b, b = decide (d.cut = d'.cut) := ⟨_, rfl⟩
  replace e11 := Lib.hid e11
  obtain ⟨b12, e12⟩ : ∃ b, b = decide (d.least = d'.least) := ⟨_, rfl⟩
  replace e12 := Lib.hid e12
  go_enter Try.func13, Try.ntmps13
  go_wp2_with fail
  refine (l13Same_any _ _ _ _ _ _ lo hi lo' hi' d.orig d'.orig b0 e0.out _ (hr0.out.frame (good_flat _) (Below.sameB (B := w.heap.size) (w := w) (by first | exact below_drewN (Go.Joins.below_alloc2 _ _ _) _ | exact Go.Joins.below_alloc2 _ _ _) hhi)) (hq0.out.frame (good_flat _) (Below.sameB (B := w.heap.size) (w := w) (by first | exact below_drewN (Go.Joins.below_alloc2 _ _ _) _ | exact Go.Joins.below_alloc2 _ _ _) hhi')) (by first | omega | (simp <;> omega)) (by first | omega | (simp <;> omega)) m0 n0).mono ?_
  rintro e w' ⟨rfl, q0, rfl⟩
  cases b0
  · have hbf := hne.out _ e0.out (fun e => by rw [e])
    subst hbf
    go_wp2_with fail
    go_ret
    exact ⟨rfl, (by first | exact below_drewN (Go.Joins.below_alloc2 _ _ _) _ | exact Go.Joins.below_alloc2 _ _ _)⟩
  go_wp2_with fail
  refine (l13Same_any _ _ _ _ _ _ lo hi lo' hi' d.now d'.now b1 e1.out _ (hr1.out.frame (good_flat _) (Below.sameB (B := w.heap.size) (w := w) (by first | exact below_drewN (Go.Joins.below_alloc2 _ _ _) _ | exact Go.Joins.below_alloc2 _ _ _) hhi)) (hq1.out.frame (good_flat _) (Below.sameB (B := w.heap.size) (w := w) (by first | exact below_drewN (Go.Joins.below_alloc2 _ _ _) _ | exact Go.Joins.below_alloc2 _ _ _) hhi')) (by first | omega | (simp <;> omega)) (by first | omega | (simp <;> omega)) m1 n1).mono ?_
  rintro e w' ⟨rfl, q1, rfl⟩
  cases b1
  · have hbf := hne.out _ e1.out (fun e => by rw [e])
    subst hbf
    go_wp2_with fail
    go_ret
    exact ⟨rfl, (by first | exact below_drewN (Go.Joins.below_alloc2 _ _ _) _ | exact Go.Joins.below_alloc2 _ _ _)⟩
  go_wp2_with fail
  refine (l20Flags_any _ _ _ _ _ _ lo hi lo' hi' d.tx d'.tx b2 e2.out _ (hr2.out.frame (good_flat _) (Below.sameB (B := w.heap.size) (w := w) (by first | exact below_drewN (Go.Joins.below_alloc2 _ _ _) _ | exact Go.Joins.below_alloc2 _ _ _) hhi)) (hq2.out.frame (good_flat _) (Below.sameB (B := w.heap.size) (w := w) (by first | exact below_drewN (Go.Joins.below_alloc2 _ _ _) _ | exact Go.Joins.below_alloc2 _ _ _) hhi')) (by first | omega | (simp <;> omega)) (by first | omega | (simp <;> omega)) m2 n2).mono ?_
  rintro e w' ⟨rfl, q2, rfl⟩
  cases b2
  · have hbf := hne.out _ e2.out (fun e => by rw [e])
    subst hbf
    go_wp2_with fail
    go_ret
    exact ⟨rfl, (by first | exact below_drewN (Go.Joins.below_alloc2 _ _ _) _ | exact Go.Joins.below_alloc2 _ _ _)⟩
  go_wp2_with fail
  refine (l20Flags_any _ _ _ _ _ _ lo hi lo' hi' d.ty d'.ty b3 e3.out _ (hr3.out.frame (good_flat _) (Below.sameB (B := w.heap.size) (w := w) (by first | exact below_drewN (Go.Joins.below_alloc2 _ _ _) _ | exact Go.Joins.below_alloc2 _ _ _) hhi)) (hq3.out.frame (good_flat _) (Below.sameB (B := w.heap.size) (w := w) (by first | exact below_drewN (Go.Joins.below_alloc2 _ _ _) _ | exact Go.Joins.below_alloc2 _ _ _) hhi')) (by first | omega | (simp <;> omega)) (by first | omega | (simp <;> omega)) m3 n3).mono ?_
  rintro e w' ⟨rfl, q3, rfl⟩
  cases b3
  · have hbf := hne.out _ e3.out (fun e => by rw [e])
    subst hbf
    go_wp2_with fail
    go_ret
    exact ⟨rfl, (by first | exact below_drewN (Go.Joins.below_alloc2 _ _ _) _ | exact Go.Joins.below_alloc2 _ _ _)⟩
  go_wp2_with fail
  refine (l20Numbers_any _ _ _ _ _ _ lo hi lo' hi' d.ends d'.ends b4 e4.out _ (hr4.out.frame (good_flat _) (Below.sameB (B := w.heap.size) (w := w) (by first | exact below_drewN (Go.Joins.below_alloc2 _ _ _) _ | exact Go.Joins.below_alloc2 _ _ _) hhi)) (hq4.out.frame (good_flat _) (Below.sameB (B := w.heap.size) (w := w) (by first | exact below_drewN (Go.Joins.below_alloc2 _ _ _) _ | exact Go.Joins.below_alloc2 _ _ _) hhi')) (by first | omega | (simp <;> omega)) (by first | omega | (simp <;> omega)) m4 n4).mono ?_
  rintro e w' ⟨rfl, q4, rfl⟩
  cases b4
  · have hbf := hne.out _ e4.out (fun e => by rw [e])
    subst hbf
    go_wp2_with fail
    go_ret
    exact ⟨rfl, (by first | exact below_drewN (Go.Joins.below_alloc2 _ _ _) _ | exact Go.Joins.below_alloc2 _ _ _)⟩
  go_wp2_with fail
  refine (l20Numbers_any _ _ _ _ _ _ lo hi lo' hi' d.values d'.values b5 e5.out _ (hr5.out.frame (good_flat _) (Below.sameB (B := w.heap.size) (w := w) (by first | exact below_drewN (Go.Joins.below_alloc2 _ _ _) _ | exact Go.Joins.below_alloc2 _ _ _) hhi)) (hq5.out.frame (good_flat _) (Below.sameB (B := w.heap.size) (w := w) (by first | exact below_drewN (Go.Joins.below_alloc2 _ _ _) _ | exact Go.Joins.below_alloc2 _ _ _) hhi')) (by first | omega | (simp <;> omega)) (by first | omega | (simp <;> omega)) m5 n5).mono ?_
  rintro e w' ⟨rfl, q5, rfl⟩
  cases b5
  · have hbf := hne.out _ e5.out (fun e => by rw [e])
    subst hbf
    go_wp2_with fail
    go_ret
    exact ⟨rfl, (by first | exact below_drewN (Go.Joins.below_alloc2 _ _ _) _ | exact Go.Joins.below_alloc2 _ _ _)⟩
  go_wp2_with fail
  refine (l20Numbers_any _ _ _ _ _ _ lo hi lo' hi' d.stack d'.stack b6 e6.out _ (hr6.out.frame (good_flat _) (Below.sameB (B := w.heap.size) (w := w) (by first | exact below_drewN (Go.Joins.below_alloc2 _ _ _) _ | exact Go.Joins.below_alloc2 _ _ _) hhi)) (hq6.out.frame (good_flat _) (Below.sameB (B := w.heap.size) (w := w) (by first | exact below_drewN (Go.Joins.below_alloc2 _ _ _) _ | exact Go.Joins.below_alloc2 _ _ _) hhi')) (by first | omega | (simp <;> omega)) (by first | omega | (simp <;> omega)) m6 n6).mono ?_
  rintro e w' ⟨rfl, q6, rfl⟩
  cases b6
  · have hbf := hne.out _ e6.out (fun e => by rw [e])
    subst hbf
    go_wp2_with fail
    go_ret
    exact ⟨rfl, (by first | exact below_drewN (Go.Joins.below_alloc2 _ _ _) _ | exact Go.Joins.below_alloc2 _ _ _)⟩
  have s7 : (d.size == d'.size) = b7 := by rw [e7.out]; rfl
  cases b7
  · have hbf := hne.out _ e7.out (fun e => by rw [e])
    subst hbf
    go_wp2_with fail
    go_ret
    exact ⟨rfl, (by first | exact below_drewN (Go.Joins.below_alloc2 _ _ _) _ | exact Go.Joins.below_alloc2 _ _ _)⟩
  have s8 : (d.axisY == d'.axisY) = b8 := by rw [e8.out]; rfl
  cases b8
  · have hbf := hne.out _ e8.out (fun e => by rw [e])
    subst hbf
    go_wp2_with fail
    go_ret
    exact ⟨rfl, (by first | exact below_drewN (Go.Joins.below_alloc2 _ _ _) _ | exact Go.Joins.below_alloc2 _ _ _)⟩
  have s9 : (d.ref == d'.ref) = b9 := by rw [e9.out]; rfl
  cases b9
  · have hbf := hne.out _ e9.out (fun e => by rw [e])
    subst hbf
    go_wp2_with fail
    go_ret
    exact ⟨rfl, (by first | exact below_drewN (Go.Joins.below_alloc2 _ _ _) _ | exact Go.Joins.below_alloc2 _ _ _)⟩
  have s10 : (d.state == d'.state) = b10 := by rw [e10.out]; rfl
  cases b10
  · have hbf := hne.out _ e10.out (fun e => by rw [e])
    subst hbf
    go_wp2_with fail
    go_ret
    exact ⟨rfl, (by first | exact below_drewN (Go.Joins.below_alloc2 _ _ _) _ | exact Go.Joins.below_alloc2 _ _ _)⟩
  have s11 : (d.cut == d'.cut) = b11 := by rw [e11.out]; rfl
  cases b11
  · have hbf := hne.out _ e11.out (fun e => by rw [e])
    subst hbf
    go_wp2_with fail
    go_ret
    exact ⟨rfl, (by first | exact below_drewN (Go.Joins.below_alloc2 _ _ _) _ | exact Go.Joins.below_alloc2 _ _ _)⟩
  have s12 : (d.least == d'.least) = b12 := by rw [e12.out]; rfl
  cases b12
  · have hbf := hne.out _ e12.out (fun e => by rw [e])
    subst hbf
    go_wp2_with fail
    go_ret
    exact ⟨rfl, (by first | exact below_drewN (Go.Joins.below_alloc2 _ _ _) _ | exact Go.Joins.below_alloc2 _ _ _)⟩
  have hbt : b = true := by
    rw [hb.out, decide_eq_true_iff]
    have h := fun (q : Prop) [Decidable q] (h : true = decide q) => of_decide_eq_true h.symm
    cases d; cases d'
    simp only [HinterD.mk.injEq]
    exact ⟨h _ e7.out, h _ e0.out, h _ e1.out, h _ e2.out, h _ e3.out, h _ e4.out, h _ e5.out, h _ e6.out, h _ e8.out, h _ e9.out, h _ e10.out, h _ e11.out, h _ e12.out⟩
  subst hbt
  go_wp2_with fail
  go_ret
  exact ⟨rfl, (by first | exact below_drewN (Go.Joins.below_alloc2 _ _ _) _ | exact Go.Joins.below_alloc2 _ _ _)⟩

set_option maxHeartbeats 4000000 in
theorem implSameHinter_any (d d' : HinterD) (h h' : HinterH) (b : Bool) (hb : b = decide (d = d')) (lo hi lo' hi' : Nat) (w : World) (hr : HinterRd w lo hi d h) (hr' : HinterRd w lo' hi' d' h') (hhi : hi ≤ w.heap.size) (hhi' : hi' ≤ w.heap.size) (hm : h.small 1000000000) (hm' : h'.small 1000000000) :
    Calls Try.prog 15 #[hinV d h, hinV d' h'] w fun e w' => e = .returned (.bool b) ∧ Below w.heap.size w w' := by
  replace hb := Lib.hid hb
  have hne : Hid (∀ q : Prop, [Decidable q] → false = decide q → (d = d' → q) → b = false) := fun q _ h1 h2 => by
    rw [hb.out, decide_eq_false_iff_not]; intro e; have := h2 e; simp [this] at h1
  obtain ⟨hr0, hr1, hr2, hr3, hr4, hr5, hr6⟩ := hr
  obtain ⟨hq0, hq1, hq2, hq3, hq4, hq5, hq6⟩ := hr'
  obtain ⟨m0, m1, m2, m3, m4, m5, m6⟩ := hm
  obtain ⟨n0, n1, n2, n3, n4, n5, n6⟩ := hm'
  replace hr0 := Lib.hid hr0
  replace hq0 := Lib.hid hq0
  replace hr1 := Lib.hid hr1
  replace hq1 := Lib.hid hq1
  replace hr2 := Lib.hid hr2
  replace hq2 := Lib.hid hq2
  replace hr3 := Lib.hid hr3
  replace hq3 := Lib.hid hq3
  replace hr4 := Lib.hid hr4
  replace hq4 := Lib.hid hq4
  replace hr5 := Lib.hid hr5
  replace hq5 := Lib.hid hq5
  replace hr6 := Lib.hid hr6
  replace hq6 := Lib.hid hq6
  obtain ⟨b0, e0⟩ : ∃ b, b = decide (d.size = d'.size) := ⟨_, rfl⟩
  replace e0 := Lib.hid e0
  obtain ⟨b1, e1⟩ : ∃ b, b = decide (d.orig = d'.orig) := ⟨_, rfl⟩
  replace e1 := Lib.hid e1
  obtain ⟨b2, e2⟩ : ∃ b, b = decide (d.now = d'.now) := ⟨_, rfl⟩
  replace e2 := Lib.hid e2
  obtain ⟨b3, e3⟩ : ∃ b, b = decide (d.tx = d'.tx) := ⟨_, rfl⟩
  replace e3 := Lib.hid e3
  obtain ⟨b4, e4⟩ : ∃ b, b = decide (d.ty = d'.ty) := ⟨_, rfl⟩
  replace e4 := Lib.hid e4
  obtain ⟨b5, e5⟩ : ∃ b, b = decide (d.ends = d'.ends) := ⟨_, rfl⟩
  replace e5 := Lib.hid e5
  obtain ⟨b6, e6⟩ : ∃ b, b = decide (d.values = d'.values) := ⟨_, rfl⟩
  replace e6 := Lib.hid e6
  obtain ⟨b7, e7⟩ : ∃ b, b = decide (d.stack = d'.stack) := ⟨_, rfl⟩
  replace e7 := Lib.hid e7
  obtain ⟨b8, e8⟩ : ∃ b, b = decide (d.axisY = d'.axisY) := ⟨_, rfl⟩
  replace e8 := Lib.hid e8
  obtain ⟨b9, e9⟩ : ∃ b, b = decide (d.ref = d'.ref) := ⟨_, rfl⟩
  replace e9 := Lib.hid e9
  obtain ⟨b10, e10⟩ : ∃ b, b = decide (d.state = d'.state) := ⟨_, rfl⟩
  replace e10 := Lib.hid e10
  obtain ⟨b11, e11⟩ : ∃ b, b = decide (d.cut = d'.cut) := ⟨_, rfl⟩
  replace e11 := Lib.hid e11
  obtain ⟨b12, e12⟩ : ∃ b, b = decide (d.least = d'.least) := ⟨_, rfl⟩
  replace e12 := Lib.hid e12
  have s0 : (d.size == d'.size) = b0 := by rw [e0.out]; rfl
  cases b0
  · have hbf := hne.out _ e0.out (fun e => by rw [e])
    subst hbf
    go_enter Try.func15, Try.ntmps15
    go_wp2_with fail
    go_ret
    exact ⟨rfl, (by first | exact below_drewN (Go.Joins.below_alloc2 _ _ _) _ | exact Go.Joins.below_alloc2 _ _ _)⟩
  go_enter Try.func15, Try.ntmps15
  go_wp2_with fail
  refine (equalPt_any _ _ _ _ _ _ lo hi lo' hi' d.orig d'.orig b1 e1.out _ (hr0.out.frame (good_flat _) (Below.sameB (B := w.heap.size) (w := w) (by first | exact below_drewN (Go.Joins.below_alloc2 _ _ _) _ | exact Go.Joins.below_alloc2 _ _ _) hhi)) (hq0.out.frame (good_flat _) (Below.sameB (B := w.heap.size) (w := w) (by first | exact below_drewN (Go.Joins.below_alloc2 _ _ _) _ | exact Go.Joins.below_alloc2 _ _ _) hhi')) (by first | omega | (simp <;> omega)) (by first | omega | (simp <;> omega)) m0 n0).mono ?_
  rintro e w' ⟨rfl, q1, rfl⟩
  cases b1
  · have hbf := hne.out _ e1.out (fun e => by rw [e])
    subst hbf
    go_wp2_with fail
    go_ret
    exact ⟨rfl, (by first | exact below_drewN (Go.Joins.below_alloc2 _ _ _) _ | exact Go.Joins.below_alloc2 _ _ _)⟩
  go_wp2_with fail
  refine (equalPt_any _ _ _ _ _ _ lo hi lo' hi' d.now d'.now b2 e2.out _ (hr1.out.frame (good_flat _) (Below.sameB (B := w.heap.size) (w := w) (by first | exact below_drewN (Go.Joins.below_alloc2 _ _ _) _ | exact Go.Joins.below_alloc2 _ _ _) hhi)) (hq1.out.frame (good_flat _) (Below.sameB (B := w.heap.size) (w := w) (by first | exact below_drewN (Go.Joins.below_alloc2 _ _ _) _ | exact Go.Joins.below_alloc2 _ _ _) hhi')) (by first | omega | (simp <;> omega)) (by first | omega | (simp <;> omega)) m1 n1).mono ?_
  rintro e w' ⟨rfl, q2, rfl⟩
  cases b2
  · have hbf := hne.out _ e2.out (fun e => by rw [e])
    subst hbf
    go_wp2_with fail
    go_ret
    exact ⟨rfl, (by first | exact below_drewN (Go.Joins.below_alloc2 _ _ _) _ | exact Go.Joins.below_alloc2 _ _ _)⟩
  go_wp2_with fail
  refine (equalBool_any _ _ _ _ _ _ lo hi lo' hi' d.tx d'.tx b3 e3.out _ (hr2.out.frame (good_flat _) (Below.sameB (B := w.heap.size) (w := w) (by first | exact below_drewN (Go.Joins.below_alloc2 _ _ _) _ | exact Go.Joins.below_alloc2 _ _ _) hhi)) (hq2.out.frame (good_flat _) (Below.sameB (B := w.heap.size) (w := w) (by first | exact below_drewN (Go.Joins.below_alloc2 _ _ _) _ | exact Go.Joins.below_alloc2 _ _ _) hhi')) (by first | omega | (simp <;> omega)) (by first | omega | (simp <;> omega)) m2 n2).mono ?_
  rintro e w' ⟨rfl, q3, rfl⟩
  cases b3
  · have hbf := hne.out _ e3.out (fun e => by rw [e])
    subst hbf
    go_wp2_with fail
    go_ret
    exact ⟨rfl, (by first | exact below_drewN (Go.Joins.below_alloc2 _ _ _) _ | exact Go.Joins.below_alloc2 _ _ _)⟩
  go_wp2_with fail
  refine (equalBool_any _ _ _ _ _ _ lo hi lo' hi' d.ty d'.ty b4 e4.out _ (hr3.out.frame (good_flat _) (Below.sameB (B := w.heap.size) (w := w) (by first | exact below_drewN (Go.Joins.below_alloc2 _ _ _) _ | exact Go.Joins.below_alloc2 _ _ _) hhi)) (hq3.out.frame (good_flat _) (Below.sameB (B := w.heap.size) (w := w) (by first | exact below_drewN (Go.Joins.below_alloc2 _ _ _) _ | exact Go.Joins.below_alloc2 _ _ _) hhi')) (by first | omega | (simp <;> omega)) (by first | omega | (simp <;> omega)) m3 n3).mono ?_
  rintro e w' ⟨rfl, q4, rfl⟩
  cases b4
  · have hbf := hne.out _ e4.out (fun e => by rw [e])
    subst hbf
    go_wp2_with fail
    go_ret
    exact ⟨rfl, (by first | exact below_drewN (Go.Joins.below_alloc2 _ _ _) _ | exact Go.Joins.below_alloc2 _ _ _)⟩
  go_wp2_with fail
  refine (equalInt_any _ _ _ _ _ _ lo hi lo' hi' d.ends d'.ends b5 e5.out _ (hr4.out.frame (good_flat _) (Below.sameB (B := w.heap.size) (w := w) (by first | exact below_drewN (Go.Joins.below_alloc2 _ _ _) _ | exact Go.Joins.below_alloc2 _ _ _) hhi)) (hq4.out.frame (good_flat _) (Below.sameB (B := w.heap.size) (w := w) (by first | exact below_drewN (Go.Joins.below_alloc2 _ _ _) _ | exact Go.Joins.below_alloc2 _ _ _) hhi')) (by first | omega | (simp <;> omega)) (by first | omega | (simp <;> omega)) m4 n4).mono ?_
  rintro e w' ⟨rfl, q5, rfl⟩
  cases b5
  · have hbf := hne.out _ e5.out (fun e => by rw [e])
    subst hbf
    go_wp2_with fail
    go_ret
    exact ⟨rfl, (by first | exact below_drewN (Go.Joins.below_alloc2 _ _ _) _ | exact Go.Joins.below_alloc2 _ _ _)⟩
  go_wp2_with fail
  refine (equalInt_any _ _ _ _ _ _ lo hi lo' hi' d.values d'.values b6 e6.out _ (hr5.out.frame (good_flat _) (Below.sameB (B := w.heap.size) (w := w) (by first | exact below_drewN (Go.Joins.below_alloc2 _ _ _) _ | exact Go.Joins.below_alloc2 _ _ _) hhi)) (hq5.out.frame (good_flat _) (Below.sameB (B := w.heap.size) (w := w) (by first | exact below_drewN (Go.Joins.below_alloc2 _ _ _) _ | exact Go.Joins.below_alloc2 _ _ _) hhi')) (by first | omega | (simp <;> omega)) (by first | omega | (simp <;> omega)) m5 n5).mono ?_
  rintro e w' ⟨rfl, q6, rfl⟩
  cases b6
  · have hbf := hne.out _ e6.out (fun e => by rw [e])
    subst hbf
    go_wp2_with fail
    go_ret
    exact ⟨rfl, (by first | exact below_drewN (Go.Joins.below_alloc2 _ _ _) _ | exact Go.Joins.below_alloc2 _ _ _)⟩
  go_wp2_with fail
  refine (equalInt_any _ _ _ _ _ _ lo hi lo' hi' d.stack d'.stack b7 e7.out _ (hr6.out.frame (good_flat _) (Below.sameB (B := w.heap.size) (w := w) (by first | exact below_drewN (Go.Joins.below_alloc2 _ _ _) _ | exact Go.Joins.below_alloc2 _ _ _) hhi)) (hq6.out.frame (good_flat _) (Below.sameB (B := w.heap.size) (w := w) (by first | exact below_drewN (Go.Joins.below_alloc2 _ _ _) _ | exact Go.Joins.below_alloc2 _ _ _) hhi')) (by first | omega | (simp <;> omega)) (by first | omega | (simp <;> omega)) m6 n6).mono ?_
  rintro e w' ⟨rfl, q7, rfl⟩
  cases b7
  · have hbf := hne.out _ e7.out (fun e => by rw [e])
    subst hbf
    go_wp2_with fail
    go_ret
    exact ⟨rfl, (by first | exact below_drewN (Go.Joins.below_alloc2 _ _ _) _ | exact Go.Joins.below_alloc2 _ _ _)⟩
  have s8 : (d.axisY == d'.axisY) = b8 := by rw [e8.out]; rfl
  cases b8
  · have hbf := hne.out _ e8.out (fun e => by rw [e])
    subst hbf
    go_wp2_with fail
    go_ret
    exact ⟨rfl, (by first | exact below_drewN (Go.Joins.below_alloc2 _ _ _) _ | exact Go.Joins.below_alloc2 _ _ _)⟩
  have s9 : (d.ref == d'.ref) = b9 := by rw [e9.out]; rfl
  cases b9
  · have hbf := hne.out _ e9.out (fun e => by rw [e])
    subst hbf
    go_wp2_with fail
    go_ret
    exact ⟨rfl, (by first | exact below_drewN (Go.Joins.below_alloc2 _ _ _) _ | exact Go.Joins.below_alloc2 _ _ _)⟩
  have s10 : (d.state == d'.state) = b10 := by rw [e10.out]; rfl
  cases b10
  · have hbf := hne.out _ e10.out (fun e => by rw [e])
    subst hbf
    go_wp2_with fail
    go_ret
    exact ⟨rfl, (by first | exact below_drewN (Go.Joins.below_alloc2 _ _ _) _ | exact Go.Joins.below_alloc2 _ _ _)⟩
  have s11 : (d.cut == d'.cut) = b11 := by rw [e11.out]; rfl
  cases b11
  · have hbf := hne.out _ e11.out (fun e => by rw [e])
    subst hbf
    go_wp2_with fail
    go_ret
    exact ⟨rfl, (by first | exact below_drewN (Go.Joins.below_alloc2 _ _ _) _ | exact Go.Joins.below_alloc2 _ _ _)⟩
  have s12 : (d.least == d'.least) = b12 := by rw [e12.out]; rfl
  cases b12
  · have hbf := hne.out _ e12.out (fun e => by rw [e])
    subst hbf
    go_wp2_with fail
    go_ret
    exact ⟨rfl, (by first | exact below_drewN (Go.Joins.below_alloc2 _ _ _) _ | exact Go.Joins.below_alloc2 _ _ _)⟩
  have hbt : b = true := by
    rw [hb.out, decide_eq_true_iff]
    have h := fun (q : Prop) [Decidable q] (h : true = decide q) => of_decide_eq_true h.symm
    cases d; cases d'
    simp only [HinterD.mk.injEq]
    exact ⟨h _ e0.out, h _ e1.out, h _ e2.out, h _ e3.out, h _ e4.out, h _ e5.out, h _ e6.out, h _ e7.out, h _ e8.out, h _ e9.out, h _ e10.out, h _ e11.out, h _ e12.out⟩
  subst hbt
  go_wp2_with fail
  go_ret
  exact ⟨rfl, (by first | exact below_drewN (Go.Joins.below_alloc2 _ _ _) _ | exact Go.Joins.below_alloc2 _ _ _)⟩

end Go.Proofs.Ytjcjmjcgeojhiaa
