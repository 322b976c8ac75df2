/- A Hinter: its datum, how it lies in memory, the laws' own functions on it. Conditions: as each states. -/
import Derived.Test.YtgngcllodofimaaFBool
import Derived.Test.YtgngcllodofimaaFInt64
import Derived.Test.YtgngcllodofimaaFPt
import Derived.OneCell
namespace Go.Proofs.Ytgngcllodofimaa
open Go.RowKit
set_option linter.unusedVariables false
set_option maxRecDepth 100000

structure HinterD where
  size : Int
  orig : List (Int × Int)
  now : List (Int × Int)
  tx : List (Bool)
  ty : List (Bool)
  ends : List (Int)
  values : List (Int)
  stack : List (Int)
  axisY : Bool
  ref : Int
  state : Int
  cut : Int
  least : Int
  deriving DecidableEq

structure HinterH where
  orig : Hd
  now : Hd
  tx : Hd
  ty : Hd
  ends : Hd
  values : Hd
  stack : Hd

abbrev hinV (d : HinterD) (h : HinterH) : Value := .agg #[.int .i64 d.size, .slice h.orig.A h.orig.n h.orig.c, .slice h.now.A h.now.n h.now.c, .slice h.tx.A h.tx.n h.tx.c, .slice h.ty.A h.ty.n h.ty.c, .slice h.ends.A h.ends.n h.ends.c, .slice h.values.A h.values.n h.values.c, .slice h.stack.A h.stack.n h.stack.c, .bool d.axisY, .int .i64 d.ref, .int .i64 d.state, .int .i64 d.cut, .int .i64 d.least]
def HinterRd (w : World) (lo hi : Nat) (d : HinterD) (h : HinterH) : Prop := RdS 2 (FlatR ptC) w lo hi h.orig.A h.orig.n d.orig ∧ RdS 2 (FlatR ptC) w lo hi h.now.A h.now.n d.now ∧ RdS 1 (FlatR boolC) w lo hi h.tx.A h.tx.n d.tx ∧ RdS 1 (FlatR boolC) w lo hi h.ty.A h.ty.n d.ty ∧ RdS 1 (FlatR intC) w lo hi h.ends.A h.ends.n d.ends ∧ RdS 1 (FlatR intC) w lo hi h.values.A h.values.n d.values ∧ RdS 1 (FlatR intC) w lo hi h.stack.A h.stack.n d.stack
theorem HinterRd.frame {w w' : World} {lo hi : Nat} {d : HinterD} {h : HinterH} (r : HinterRd w lo hi d h) (s : SameB lo hi w w') : HinterRd w' lo hi d h := by
  obtain ⟨r0, r1, r2, r3, r4, r5, r6⟩ := r
  exact ⟨r0.frame (good_flat _) s, r1.frame (good_flat _) s, r2.frame (good_flat _) s, r3.frame (good_flat _) s, r4.frame (good_flat _) s, r5.frame (good_flat _) s, r6.frame (good_flat _) s⟩
theorem HinterRd.wide {w : World} {lo hi lo' hi' : Nat} {d : HinterD} {h : HinterH} (r : HinterRd w lo hi d h) (h1 : lo' ≤ lo) (h2 : hi ≤ hi') : HinterRd w lo' hi' d h := by
  obtain ⟨r0, r1, r2, r3, r4, r5, r6⟩ := r
  exact ⟨r0.wide (good_flat _) h1 h2, r1.wide (good_flat _) h1 h2, r2.wide (good_flat _) h1 h2, r3.wide (good_flat _) h1 h2, r4.wide (good_flat _) h1 h2, r5.wide (good_flat _) h1 h2, r6.wide (good_flat _) h1 h2⟩
def HinterH.small (h : HinterH) (b : Nat) : Prop := h.orig.n ≤ b ∧ h.now.n ≤ b ∧ h.tx.n ≤ b ∧ h.ty.n ≤ b ∧ h.ends.n ≤ b ∧ h.values.n ≤ b ∧ h.stack.n ≤ b

theorem HinterH.small.mono {h : HinterH} {a b : Nat} (r : h.small a) (hab : a ≤ b) : h.small b := by
  obtain ⟨r0, r1, r2, r3, r4, r5, r6⟩ := r
  exact ⟨Nat.le_trans r0 hab, Nat.le_trans r1 hab, Nat.le_trans r2 hab, Nat.le_trans r3 hab, Nat.le_trans r4 hab, Nat.le_trans r5 hab, Nat.le_trans r6 hab⟩

set_option maxHeartbeats 1000000 in
theorem szHinter_any (d : HinterD) (h : HinterH) (left : Int) (w : World) (hm : h.small 9223372036854775807) (h0 : 0 ≤ left) (h1 : left ≤ 1048576) :
    Calls Try.prog 40 #[hinV d h, .int .i64 left] w fun e w' => ∃ r : Int, e = .returned (.int .i64 r) ∧ (r < 0 ∨ (0 ≤ r ∧ r ≤ left ∧ h.small 1048576)) ∧ Below w.heap.size w w' := by
  obtain ⟨m0, m1, m2, m3, m4, m5, m6⟩ := hm
  have hB1 := (Below.refl w.heap.size w).alloc (Nat.le_refl _) (.cells #[.int .i64 d.size, .slice h.orig.A h.orig.n h.orig.c, .slice h.now.A h.now.n h.now.c, .slice h.tx.A h.tx.n h.tx.c, .slice h.ty.A h.ty.n h.ty.c, .slice h.ends.A h.ends.n h.ends.c, .slice h.values.A h.values.n h.values.c, .slice h.stack.A h.stack.n h.stack.c, .bool d.axisY, .int .i64 d.ref, .int .i64 d.state, .int .i64 d.cut, .int .i64 d.least] 79 (0, 0))
  go_enter Try.func40, Try.ntmps40
  go_wp2_with fail
  obtain ⟨r0, hr0⟩ : ∃ r : Int, r = if (h.orig.n : Int) ≤ left then left - h.orig.n else -1 := ⟨_, rfl⟩
  refine (szPtS_any _ _ _ left _ m0 (by omega) (by omega) r0 hr0).mono ?_
  rintro e w' ⟨rfl, rfl⟩
  by_cases g0 : (h.orig.n : Int) ≤ left
  rotate_left
  · rw [if_neg g0] at hr0
    subst hr0
    go_wp2_with fail
    go_ret
    exact ⟨_, rfl, .inl (by omega), hB1⟩
  rw [if_pos g0] at hr0
  have b0 : 0 ≤ r0 ∧ r0 ≤ left ∧ (h.orig.n : Int) ≤ left := by omega
  replace hr0 := Lib.hid hr0
  go_wp2_with fail
  obtain ⟨r1, hr1⟩ : ∃ r : Int, r = if (h.now.n : Int) ≤ r0 then r0 - h.now.n else -1 := ⟨_, rfl⟩
  refine (szPtS_any _ _ _ r0 _ m1 (by omega) (by omega) r1 hr1).mono ?_
  rintro e w' ⟨rfl, rfl⟩
  by_cases g1 : (h.now.n : Int) ≤ r0
  rotate_left
  · rw [if_neg g1] at hr1
    subst hr1
    go_wp2_with fail
    go_ret
    exact ⟨_, rfl, .inl (by omega), hB1⟩
  rw [if_pos g1] at hr1
  have b1 : 0 ≤ r1 ∧ r1 ≤ r0 ∧ (h.now.n : Int) ≤ r0 := by omega
  replace hr1 := Lib.hid hr1
  go_wp2_with fail
  obtain ⟨r2, hr2⟩ : ∃ r : Int, r = if (h.tx.n : Int) ≤ r1 then r1 - h.tx.n else -1 := ⟨_, rfl⟩
  refine (szBoolS_any _ _ _ r1 _ m2 (by omega) (by omega) r2 hr2).mono ?_
  rintro e w' ⟨rfl, rfl⟩
  by_cases g2 : (h.tx.n : Int) ≤ r1
  rotate_left
  · rw [if_neg g2] at hr2
    subst hr2
    go_wp2_with fail
    go_ret
    exact ⟨_, rfl, .inl (by omega), hB1⟩
  rw [if_pos g2] at hr2
  have b2 : 0 ≤ r2 ∧ r2 ≤ r1 ∧ (h.tx.n : Int) ≤ r1 := by omega
  replace hr2 := Lib.hid hr2
  go_wp2_with fail
  obtain ⟨r3, hr3⟩ : ∃ r : Int, r = if (h.ty.n : Int) ≤ r2 then r2 - h.ty.n else -1 := ⟨_, rfl⟩
  refine (szBoolS_any _ _ _ r2 _ m3 (by omega) (by omega) r3 hr3).mono ?_
  rintro e w' ⟨rfl, rfl⟩
  by_cases g3 : (h.ty.n : Int) ≤ r2
  rotate_left
  · rw [if_neg g3] at hr3
    subst hr3
    go_wp2_with fail
    go_ret
    exact ⟨_, rfl, .inl (by omega), hB1⟩
  rw [if_pos g3] at hr3
  have b3 : 0 ≤ r3 ∧ r3 ≤ r2 ∧ (h.ty.n : Int) ≤ r2 := by omega
  replace hr3 := Lib.hid hr3
  go_wp2_with fail
  obtain ⟨r4, hr4⟩ : ∃ r : Int, r = if (h.ends.n : Int) ≤ r3 then r3 - h.ends.n else -1 := ⟨_, rfl⟩
  refine (szInt64S_any _ _ _ r3 _ m4 (by omega) (by omega) r4 hr4).mono ?_
  rintro e w' ⟨rfl, rfl⟩
  by_cases g4 : (h.ends.n : Int) ≤ r3
  rotate_left
  · rw [if_neg g4] at hr4
    subst hr4
    go_wp2_with fail
    go_ret
    exact ⟨_, rfl, .inl (by omega), hB1⟩
  rw [if_pos g4] at hr4
  have b4 : 0 ≤ r4 ∧ r4 ≤ r3 ∧ (h.ends.n : Int) ≤ r3 := by omega
  replace hr4 := Lib.hid hr4
  go_wp2_with fail
  obtain ⟨r5, hr5⟩ : ∃ r : Int, r = if (h.values.n : Int) ≤ r4 then r4 - h.values.n else -1 := ⟨_, rfl⟩
  refine (szInt64S_any _ _ _ r4 _ m5 (by omega) (by omega) r5 hr5).mono ?_
  rintro e w' ⟨rfl, rfl⟩
  by_cases g5 : (h.values.n : Int) ≤ r4
  rotate_left
  · rw [if_neg g5] at hr5
    subst hr5
    go_wp2_with fail
    go_ret
    exact ⟨_, rfl, .inl (by omega), hB1⟩
  rw [if_pos g5] at hr5
  have b5 : 0 ≤ r5 ∧ r5 ≤ r4 ∧ (h.values.n : Int) ≤ r4 := by omega
  replace hr5 := Lib.hid hr5
  go_wp2_with fail
  obtain ⟨r6, hr6⟩ : ∃ r : Int, r = if (h.stack.n : Int) ≤ r5 then r5 - h.stack.n else -1 := ⟨_, rfl⟩
  refine (szInt64S_any _ _ _ r5 _ m6 (by omega) (by omega) r6 hr6).mono ?_
  rintro e w' ⟨rfl, rfl⟩
  by_cases g6 : (h.stack.n : Int) ≤ r5
  rotate_left
  · rw [if_neg g6] at hr6
    subst hr6
    go_wp2_with fail
    go_ret
    exact ⟨_, rfl, .inl (by omega), hB1⟩
  rw [if_pos g6] at hr6
  have b6 : 0 ≤ r6 ∧ r6 ≤ r5 ∧ (h.stack.n : Int) ≤ r5 := by omega
  replace hr6 := Lib.hid hr6
  go_wp2_with fail
  go_ret
  exact ⟨_, rfl, .inr ⟨by omega, by omega, by omega, by omega, by omega, by omega, by omega, by omega, by omega⟩, hB1⟩

set_option maxHeartbeats 4000000 in
theorem toHinter_any (d : HinterD) (h : HinterH) (lo hi : Nat) (w : World) (hr : HinterRd w lo hi d h) (hhi : hi ≤ w.heap.size) (hm : h.small 1048576) :
    Calls Try.prog 42 #[hinV d h] w fun e w' => ∃ h' : HinterH, e = .returned (hinV d h') ∧ HinterRd w' w.heap.size w'.heap.size d h' ∧ h'.small 1048576 ∧ Below w.heap.size w w' := by
  obtain ⟨hr0, hr1, hr2, hr3, hr4, hr5, hr6⟩ := hr
  obtain ⟨m0, m1, m2, m3, m4, m5, m6⟩ := hm
  replace hr0 := Lib.hid hr0
  replace hr1 := Lib.hid hr1
  replace hr2 := Lib.hid hr2
  replace hr3 := Lib.hid hr3
  replace hr4 := Lib.hid hr4
  replace hr5 := Lib.hid hr5
  replace hr6 := Lib.hid hr6
  go_enter Try.func42, Try.ntmps42
  go_wp2_with fail
  refine (toPtS_any _ _ _ lo hi d.orig _ (hr0.out.frame (good_flat _) (Below.sameB (B := w.heap.size) (w := w) (by repeat (first | refine Below.setCell ?_ (by first | omega | (simp <;> omega)) _ | refine Below.alloc ?_ (by first | omega | (simp <;> omega)) _ | exact Below.refl _ _)) hhi)) (by first | omega | (simp <;> omega)) m0).mono ?_
  rintro e w1 ⟨g1, rfl, hg1, ho1, hb1⟩
  have hz1 := hb1.size
  try simp at hz1
  have hB1 : Below w.heap.size w w1 := Below.trans (by repeat (first | refine Below.setCell ?_ (by first | omega | (simp <;> omega)) _ | refine Below.alloc ?_ (by first | omega | (simp <;> omega)) _ | exact Below.refl _ _)) (hb1.mono (by first | omega | (simp <;> omega)))
  have rd1 := Lib.hid (RdS.wide (good_flat _) (rdS_own ptC_len (by omega) ho1 hr0.out.1) (lo' := w.heap.size + 3) (hi' := w1.heap.size) (by first | omega | (simp <;> omega)) (Nat.le_refl _))
  clear ho1 hg1
  have hnew := heap_new0 w (.cells #[.int .i64 d.size, .slice h.orig.A h.orig.n h.orig.c, .slice h.now.A h.now.n h.now.c, .slice h.tx.A h.tx.n h.tx.c, .slice h.ty.A h.ty.n h.ty.c, .slice h.ends.A h.ends.n h.ends.c, .slice h.values.A h.values.n h.values.c, .slice h.stack.A h.stack.n h.stack.c, .bool d.axisY, .int .i64 d.ref, .int .i64 d.state, .int .i64 d.cut, .int .i64 d.least] 79 (0, 0)) (.cells #[.int .i64 0, .slice none 0 0, .slice none 0 0, .slice none 0 0, .slice none 0 0, .slice none 0 0, .slice none 0 0, .slice none 0 0, .bool false, .int .i64 0, .int .i64 0, .int .i64 0, .int .i64 0] 65 (0, 0)) (.cells #[.int .i64 d.size, .slice none 0 0, .slice none 0 0, .slice none 0 0, .slice none 0 0, .slice none 0 0, .slice none 0 0, .slice none 0 0, .bool false, .int .i64 0, .int .i64 0, .int .i64 0, .int .i64 0] 65 (0, 0))
  have HX1 : Hid (w1.heap[w.heap.size]? = some (.cells #[.int .i64 d.size, .slice h.orig.A h.orig.n h.orig.c, .slice h.now.A h.now.n h.now.c, .slice h.tx.A h.tx.n h.tx.c, .slice h.ty.A h.ty.n h.ty.c, .slice h.ends.A h.ends.n h.ends.c, .slice h.values.A h.values.n h.values.c, .slice h.stack.A h.stack.n h.stack.c, .bool d.axisY, .int .i64 d.ref, .int .i64 d.state, .int .i64 d.cut, .int .i64 d.least] 79 (0, 0))) := (hb1.block _ (by first | omega | (simp <;> omega))).trans hnew.1
  have HR1 : Hid (w1.heap[w.heap.size + 1]? = some (.cells #[.int .i64 0, .slice none 0 0, .slice none 0 0, .slice none 0 0, .slice none 0 0, .slice none 0 0, .slice none 0 0, .slice none 0 0, .bool false, .int .i64 0, .int .i64 0, .int .i64 0, .int .i64 0] 65 (0, 0))) := (hb1.block _ (by first | omega | (simp <;> omega))).trans hnew.2.1
  have HO1 : Hid (w1.heap[w.heap.size + 2]? = some (.cells #[.int .i64 d.size, .slice none 0 0, .slice none 0 0, .slice none 0 0, .slice none 0 0, .slice none 0 0, .slice none 0 0, .slice none 0 0, .bool false, .int .i64 0, .int .i64 0, .int .i64 0, .int .i64 0] 65 (0, 0))) := (hb1.block _ (by first | omega | (simp <;> omega))).trans hnew.2.2
  clear hnew
  have cx2 : w1.cell? ⟨w.heap.size, 2, none⟩ = some (.slice h.now.A h.now.n h.now.c) := by rw [Go.Joins.cell_of_block HX1.out]; rfl
  have co1 : w1.cell? ⟨w.heap.size + 2, 1, none⟩ = some (.slice none 0 0) := by rw [Go.Joins.cell_of_block HO1.out]; rfl
  have fo : ∀ o, w1.frozen? ⟨w.heap.size + 2, o, none⟩ = false := Go.Joins.unfrozen_of_block HO1.out
  clear hb1
  go_wp2_with fail
  refine (toPtS_any _ _ _ lo hi d.now _ (hr1.out.frame (good_flat _) (Below.sameB (B := w.heap.size) (w := w) (by repeat (first | refine Below.setCell ?_ (by first | omega | (simp <;> omega)) _ | refine Below.alloc ?_ (by first | omega | (simp <;> omega)) _ | exact hB1)) hhi)) (by first | omega | (simp <;> omega)) m1).mono ?_
  rintro e w2 ⟨g2, rfl, hg2, ho2, hb2⟩
  have hz2 := hb2.size
  try simp at hz2
  have hB2 : Below w.heap.size w w2 := Below.trans (by repeat (first | refine Below.setCell ?_ (by first | omega | (simp <;> omega)) _ | refine Below.alloc ?_ (by first | omega | (simp <;> omega)) _ | exact hB1)) (hb2.mono (by first | omega | (simp <;> omega)))
  have rd2 := Lib.hid (RdS.wide (good_flat _) (rdS_own ptC_len (by omega) ho2 hr1.out.1) (lo' := w.heap.size + 3) (hi' := w2.heap.size) (by first | omega | (simp <;> omega)) (Nat.le_refl _))
  clear ho2 hg2
  have hs : SameB (w.heap.size + 3) w1.heap.size w1 w2 := SameB.trans (SameB.setCell (SameB.refl _ _ w1) (.inl (by simp)) _) (Below.sameB hb2 (by simp))
  replace rd1 := Lib.hid ((rd1.out.frame (good_flat _) hs).wide (good_flat _) (lo' := w.heap.size + 3) (hi' := w2.heap.size) (Nat.le_refl _) (by omega))
  clear hs
  have HX2 : Hid (w2.heap[w.heap.size]? = some (.cells #[.int .i64 d.size, .slice h.orig.A h.orig.n h.orig.c, .slice h.now.A h.now.n h.now.c, .slice h.tx.A h.tx.n h.tx.c, .slice h.ty.A h.ty.n h.ty.c, .slice h.ends.A h.ends.n h.ends.c, .slice h.values.A h.values.n h.values.c, .slice h.stack.A h.stack.n h.stack.c, .bool d.axisY, .int .i64 d.ref, .int .i64 d.state, .int .i64 d.cut, .int .i64 d.least] 79 (0, 0))) := (hb2.block _ (by first | omega | (simp <;> omega))).trans ((Below.heap_setCell _ _ _ _ (by simp <;> omega)).trans (HX1.out))
  have HR2 : Hid (w2.heap[w.heap.size + 1]? = some (.cells #[.int .i64 0, .slice none 0 0, .slice none 0 0, .slice none 0 0, .slice none 0 0, .slice none 0 0, .slice none 0 0, .slice none 0 0, .bool false, .int .i64 0, .int .i64 0, .int .i64 0, .int .i64 0] 65 (0, 0))) := (hb2.block _ (by first | omega | (simp <;> omega))).trans ((Below.heap_setCell _ _ _ _ (by simp <;> omega)).trans (HR1.out))
  have HO2 : Hid (w2.heap[w.heap.size + 2]? = some (.cells #[.int .i64 d.size, .slice (some ⟨g1, 0, none⟩) h.orig.n h.orig.n, .slice none 0 0, .slice none 0 0, .slice none 0 0, .slice none 0 0, .slice none 0 0, .slice none 0 0, .bool false, .int .i64 0, .int .i64 0, .int .i64 0, .int .i64 0] 65 (0, 0))) := (hb2.block _ (by first | omega | (simp <;> omega))).trans (Go.Joins.block_setCell (HO1.out) (.slice (some ⟨g1, 0, none⟩) h.orig.n h.orig.n))
  clear HX1 HR1 HO1 cx2 co1 fo
  have cx3 : w2.cell? ⟨w.heap.size, 3, none⟩ = some (.slice h.tx.A h.tx.n h.tx.c) := by rw [Go.Joins.cell_of_block HX2.out]; rfl
  have co2 : w2.cell? ⟨w.heap.size + 2, 2, none⟩ = some (.slice none 0 0) := by rw [Go.Joins.cell_of_block HO2.out]; rfl
  have fo : ∀ o, w2.frozen? ⟨w.heap.size + 2, o, none⟩ = false := Go.Joins.unfrozen_of_block HO2.out
  clear hb2
  go_wp2_with fail
  refine (toBoolS_any _ _ _ lo hi d.tx _ (hr2.out.frame (good_flat _) (Below.sameB (B := w.heap.size) (w := w) (by repeat (first | refine Below.setCell ?_ (by first | omega | (simp <;> omega)) _ | refine Below.alloc ?_ (by first | omega | (simp <;> omega)) _ | exact hB2)) hhi)) (by first | omega | (simp <;> omega)) m2).mono ?_
  rintro e w3 ⟨g3, rfl, hg3, ho3, hb3⟩
  have hz3 := hb3.size
  try simp at hz3
  have hB3 : Below w.heap.size w w3 := Below.trans (by repeat (first | refine Below.setCell ?_ (by first | omega | (simp <;> omega)) _ | refine Below.alloc ?_ (by first | omega | (simp <;> omega)) _ | exact hB2)) (hb3.mono (by first | omega | (simp <;> omega)))
  have rd3 := Lib.hid (RdS.wide (good_flat _) (rdS_own boolC_len (by omega) ho3 hr2.out.1) (lo' := w.heap.size + 3) (hi' := w3.heap.size) (by first | omega | (simp <;> omega)) (Nat.le_refl _))
  clear ho3 hg3
  have hs : SameB (w.heap.size + 3) w2.heap.size w2 w3 := SameB.trans (SameB.setCell (SameB.refl _ _ w2) (.inl (by simp)) _) (Below.sameB hb3 (by simp))
  replace rd1 := Lib.hid ((rd1.out.frame (good_flat _) hs).wide (good_flat _) (lo' := w.heap.size + 3) (hi' := w3.heap.size) (Nat.le_refl _) (by omega))
  replace rd2 := Lib.hid ((rd2.out.frame (good_flat _) hs).wide (good_flat _) (lo' := w.heap.size + 3) (hi' := w3.heap.size) (Nat.le_refl _) (by omega))
  clear hs
  have HX3 : Hid (w3.heap[w.heap.size]? = some (.cells #[.int .i64 d.size, .slice h.orig.A h.orig.n h.orig.c, .slice h.now.A h.now.n h.now.c, .slice h.tx.A h.tx.n h.tx.c, .slice h.ty.A h.ty.n h.ty.c, .slice h.ends.A h.ends.n h.ends.c, .slice h.values.A h.values.n h.values.c, .slice h.stack.A h.stack.n h.stack.c, .bool d.axisY, .int .i64 d.ref, .int .i64 d.state, .int .i64 d.cut, .int .i64 d.least] 79 (0, 0))) := (hb3.block _ (by first | omega | (simp <;> omega))).trans ((Below.heap_setCell _ _ _ _ (by simp <;> omega)).trans (HX2.out))
  have HR3 : Hid (w3.heap[w.heap.size + 1]? = some (.cells #[.int .i64 0, .slice none 0 0, .slice none 0 0, .slice none 0 0, .slice none 0 0, .slice none 0 0, .slice none 0 0, .slice none 0 0, .bool false, .int .i64 0, .int .i64 0, .int .i64 0, .int .i64 0] 65 (0, 0))) := (hb3.block _ (by first | omega | (simp <;> omega))).trans ((Below.heap_setCell _ _ _ _ (by simp <;> omega)).trans (HR2.out))
  have HO3 : Hid (w3.heap[w.heap.size + 2]? = some (.cells #[.int .i64 d.size, .slice (some ⟨g1, 0, none⟩) h.orig.n h.orig.n, .slice (some ⟨g2, 0, none⟩) h.now.n h.now.n, .slice none 0 0, .slice none 0 0, .slice none 0 0, .slice none 0 0, .slice none 0 0, .bool false, .int .i64 0, .int .i64 0, .int .i64 0, .int .i64 0] 65 (0, 0))) := (hb3.block _ (by first | omega | (simp <;> omega))).trans (Go.Joins.block_setCell (HO2.out) (.slice (some ⟨g2, 0, none⟩) h.now.n h.now.n))
  clear HX2 HR2 HO2 cx3 co2 fo
  have cx4 : w3.cell? ⟨w.heap.size, 4, none⟩ = some (.slice h.ty.A h.ty.n h.ty.c) := by rw [Go.Joins.cell_of_block HX3.out]; rfl
  have co3 : w3.cell? ⟨w.heap.size + 2, 3, none⟩ = some (.slice none 0 0) := by rw [Go.Joins.cell_of_block HO3.out]; rfl
  have fo : ∀ o, w3.frozen? ⟨w.heap.size + 2, o, none⟩ = false := Go.Joins.unfrozen_of_block HO3.out
  clear hb3
  go_wp2_with fail
  refine (toBoolS_any _ _ _ lo hi d.ty _ (hr3.out.frame (good_flat _) (Below.sameB (B := w.heap.size) (w := w) (by repeat (first | refine Below.setCell ?_ (by first | omega | (simp <;> omega)) _ | refine Below.alloc ?_ (by first | omega | (simp <;> omega)) _ | exact hB3)) hhi)) (by first | omega | (simp <;> omega)) m3).mono ?_
  rintro e w4 ⟨g4, rfl, hg4, ho4, hb4⟩
  have hz4 := hb4.size
  try simp at hz4
  have hB4 : Below w.heap.size w w4 := Below.trans (by repeat (first | refine Below.setCell ?_ (by first | omega | (simp <;> omega)) _ | refine Below.alloc ?_ (by first | omega | (simp <;> omega)) _ | exact hB3)) (hb4.mono (by first | omega | (simp <;> omega)))
  have rd4 := Lib.hid (RdS.wide (good_flat _) (rdS_own boolC_len (by omega) ho4 hr3.out.1) (lo' := w.heap.size + 3) (hi' := w4.heap.size) (by first | omega | (simp <;> omega)) (Nat.le_refl _))
  clear ho4 hg4
  have hs : SameB (w.heap.size + 3) w3.heap.size w3 w4 := SameB.trans (SameB.setCell (SameB.refl _ _ w3) (.inl (by simp)) _) (Below.sameB hb4 (by simp))
  replace rd1 := Lib.hid ((rd1.out.frame (good_flat _) hs).wide (good_flat _) (lo' := w.heap.size + 3) (hi' := w4.heap.size) (Nat.le_refl _) (by omega))
  replace rd2 := Lib.hid ((rd2.out.frame (good_flat _) hs).wide (good_flat _) (lo' := w.heap.size + 3) (hi' := w4.heap.size) (Nat.le_refl _) (by omega))
  replace rd3 := Lib.hid ((rd3.out.frame (good_flat _) hs).wide (good_flat _) (lo' := w.heap.size + 3) (hi' := w4.heap.size) (Nat.le_refl _) (by omega))
  clear hs
  have HX4 : Hid (w4.heap[w.heap.size]? = some (.cells #[.int .i64 d.size, .slice h.orig.A h.orig.n h.orig.c, .slice h.now.A h.now.n h.now.c, .slice h.tx.A h.tx.n h.tx.c, .slice h.ty.A h.ty.n h.ty.c, .slice h.ends.A h.ends.n h.ends.c, .slice h.values.A h.values.n h.values.c, .slice h.stack.A h.stack.n h.stack.c, .bool d.axisY, .int .i64 d.ref, .int .i64 d.state, .int .i64 d.cut, .int .i64 d.least] 79 (0, 0))) := (hb4.block _ (by first | omega | (simp <;> omega))).trans ((Below.heap_setCell _ _ _ _ (by simp <;> omega)).trans (HX3.out))
  have HR4 : Hid (w4.heap[w.heap.size + 1]? = some (.cells #[.int .i64 0, .slice none 0 0, .slice none 0 0, .slice none 0 0, .slice none 0 0, .slice none 0 0, .slice none 0 0, .slice none 0 0, .bool false, .int .i64 0, .int .i64 0, .int .i64 0, .int .i64 0] 65 (0, 0))) := (hb4.block _ (by first | omega | (simp <;> omega))).trans ((Below.heap_setCell _ _ _ _ (by simp <;> omega)).trans (HR3.out))
  have HO4 : Hid (w4.heap[w.heap.size + 2]? = some (.cells #[.int .i64 d.size, .slice (some ⟨g1, 0, none⟩) h.orig.n h.orig.n, .slice (some ⟨g2, 0, none⟩) h.now.n h.now.n, .slice (some ⟨g3, 0, none⟩) h.tx.n h.tx.n, .slice none 0 0, .slice none 0 0, .slice none 0 0, .slice none 0 0, .bool false, .int .i64 0, .int .i64 0, .int .i64 0, .int .i64 0] 65 (0, 0))) := (hb4.block _ (by first | omega | (simp <;> omega))).trans (Go.Joins.block_setCell (HO3.out) (.slice (some ⟨g3, 0, none⟩) h.tx.n h.tx.n))
  clear HX3 HR3 HO3 cx4 co3 fo
  have cx5 : w4.cell? ⟨w.heap.size, 5, none⟩ = some (.slice h.ends.A h.ends.n h.ends.c) := by rw [Go.Joins.cell_of_block HX4.out]; rfl
  have co4 : w4.cell? ⟨w.heap.size + 2, 4, none⟩ = some (.slice none 0 0) := by rw [Go.Joins.cell_of_block HO4.out]; rfl
  have fo : ∀ o, w4.frozen? ⟨w.heap.size + 2, o, none⟩ = false := Go.Joins.unfrozen_of_block HO4.out
  clear hb4
  go_wp2_with fail
  refine (toInt64S_any _ _ _ lo hi d.ends _ (hr4.out.frame (good_flat _) (Below.sameB (B := w.heap.size) (w := w) (by repeat (first | refine Below.setCell ?_ (by first | omega | (simp <;> omega)) _ | refine Below.alloc ?_ (by first | omega | (simp <;> omega)) _ | exact hB4)) hhi)) (by first | omega | (simp <;> omega)) m4).mono ?_
  rintro e w5 ⟨g5, rfl, hg5, ho5, hb5⟩
  have hz5 := hb5.size
  try simp at hz5
  have hB5 : Below w.heap.size w w5 := Below.trans (by repeat (first | refine Below.setCell ?_ (by first | omega | (simp <;> omega)) _ | refine Below.alloc ?_ (by first | omega | (simp <;> omega)) _ | exact hB4)) (hb5.mono (by first | omega | (simp <;> omega)))
  have rd5 := Lib.hid (RdS.wide (good_flat _) (rdS_own intC_len (by omega) ho5 hr4.out.1) (lo' := w.heap.size + 3) (hi' := w5.heap.size) (by first | omega | (simp <;> omega)) (Nat.le_refl _))
  clear ho5 hg5
  have hs : SameB (w.heap.size + 3) w4.heap.size w4 w5 := SameB.trans (SameB.setCell (SameB.refl _ _ w4) (.inl (by simp)) _) (Below.sameB hb5 (by simp))
  replace rd1 := Lib.hid ((rd1.out.frame (good_flat _) hs).wide (good_flat _) (lo' := w.heap.size + 3) (hi' := w5.heap.size) (Nat.le_refl _) (by omega))
  replace rd2 := Lib.hid ((rd2.out.frame (good_flat _) hs).wide (good_flat _) (lo' := w.heap.size + 3) (hi' := w5.heap.size) (Nat.le_refl _) (by omega))
  replace rd3 := Lib.hid ((rd3.out.frame (good_flat _) hs).wide (good_flat _) (lo' := w.heap.size + 3) (hi' := w5.heap.size) (Nat.le_refl _) (by omega))
  replace rd4 := Lib.hid ((rd4.out.frame (good_flat _) hs).wide (good_flat _) (lo' := w.heap.size + 3) (hi' := w5.heap.size) (Nat.le_refl _) (by omega))
  clear hs
  have HX5 : Hid (w5.heap[w.heap.size]? = some (.cells #[.int .i64 d.size, .slice h.orig.A h.orig.n h.orig.c, .slice h.now.A h.now.n h.now.c, .slice h.tx.A h.tx.n h.tx.c, .slice h.ty.A h.ty.n h.ty.c, .slice h.ends.A h.ends.n h.ends.c, .slice h.values.A h.values.n h.values.c, .slice h.stack.A h.stack.n h.stack.c, .bool d.axisY, .int .i64 d.ref, .int .i64 d.state, .int .i64 d.cut, .int .i64 d.least] 79 (0, 0))) := (hb5.block _ (by first | omega | (simp <;> omega))).trans ((Below.heap_setCell _ _ _ _ (by simp <;> omega)).trans (HX4.out))
  have HR5 : Hid (w5.heap[w.heap.size + 1]? = some (.cells #[.int .i64 0, .slice none 0 0, .slice none 0 0, .slice none 0 0, .slice none 0 0, .slice none 0 0, .slice none 0 0, .slice none 0 0, .bool false, .int .i64 0, .int .i64 0, .int .i64 0, .int .i64 0] 65 (0, 0))) := (hb5.block _ (by first | omega | (simp <;> omega))).trans ((Below.heap_setCell _ _ _ _ (by simp <;> omega)).trans (HR4.out))
  have HO5 : Hid (w5.heap[w.heap.size + 2]? = some (.cells #[.int .i64 d.size, .slice (some ⟨g1, 0, none⟩) h.orig.n h.orig.n, .slice (some ⟨g2, 0, none⟩) h.now.n h.now.n, .slice (some ⟨g3, 0, none⟩) h.tx.n h.tx.n, .slice (some ⟨g4, 0, none⟩) h.ty.n h.ty.n, .slice none 0 0, .slice none 0 0, .slice none 0 0, .bool false, .int .i64 0, .int .i64 0, .int .i64 0, .int .i64 0] 65 (0, 0))) := (hb5.block _ (by first | omega | (simp <;> omega))).trans (Go.Joins.block_setCell (HO4.out) (.slice (some ⟨g4, 0, none⟩) h.ty.n h.ty.n))
  clear HX4 HR4 HO4 cx5 co4 fo
  have cx6 : w5.cell? ⟨w.heap.size, 6, none⟩ = some (.slice h.values.A h.values.n h.values.c) := by rw [Go.Joins.cell_of_block HX5.out]; rfl
  have co5 : w5.cell? ⟨w.heap.size + 2, 5, none⟩ = some (.slice none 0 0) := by rw [Go.Joins.cell_of_block HO5.out]; rfl
  have fo : ∀ o, w5.frozen? ⟨w.heap.size + 2, o, none⟩ = false := Go.Joins.unfrozen_of_block HO5.out
  clear hb5
  go_wp2_with fail
  refine (toInt64S_any _ _ _ lo hi d.values _ (hr5.out.frame (good_flat _) (Below.sameB (B := w.heap.size) (w := w) (by repeat (first | refine Below.setCell ?_ (by first | omega | (simp <;> omega)) _ | refine Below.alloc ?_ (by first | omega | (simp <;> omega)) _ | exact hB5)) hhi)) (by first | omega | (simp <;> omega)) m5).mono ?_
  rintro e w6 ⟨g6, rfl, hg6, ho6, hb6⟩
  have hz6 := hb6.size
  try simp at hz6
  have hB6 : Below w.heap.size w w6 := Below.trans (by repeat (first | refine Below.setCell ?_ (by first | omega | (simp <;> omega)) _ | refine Below.alloc ?_ (by first | omega | (simp <;> omega)) _ | exact hB5)) (hb6.mono (by first | omega | (simp <;> omega)))
  have rd6 := Lib.hid (RdS.wide (good_flat _) (rdS_own intC_len (by omega) ho6 hr5.out.1) (lo' := w.heap.size + 3) (hi' := w6.heap.size) (by first | omega | (simp <;> omega)) (Nat.le_refl _))
  clear ho6 hg6
  have hs : SameB (w.heap.size + 3) w5.heap.size w5 w6 := SameB.trans (SameB.setCell (SameB.refl _ _ w5) (.inl (by simp)) _) (Below.sameB hb6 (by simp))
  replace rd1 := Lib.hid ((rd1.out.frame (good_flat _) hs).wide (good_flat _) (lo' := w.heap.size + 3) (hi' := w6.heap.size) (Nat.le_refl _) (by omega))
  replace rd2 := Lib.hid ((rd2.out.frame (good_flat _) hs).wide (good_flat _) (lo' := w.heap.size + 3) (hi' := w6.heap.size) (Nat.le_refl _) (by omega))
  replace rd3 := Lib.hid ((rd3.out.frame (good_flat _) hs).wide (good_flat _) (lo' := w.heap.size + 3) (hi' := w6.heap.size) (Nat.le_refl _) (by omega))
  replace rd4 := Lib.hid ((rd4.out.frame (good_flat _) hs).wide (good_flat _) (lo' := w.heap.size + 3) (hi' := w6.heap.size) (Nat.le_refl _) (by omega))
  replace rd5 := Lib.hid ((rd5.out.frame (good_flat _) hs).wide (good_flat _) (lo' := w.heap.size + 3) (hi' := w6.heap.size) (Nat.le_refl _) (by omega))
  clear hs
  have HX6 : Hid (w6.heap[w.heap.size]? = some (.cells #[.int .i64 d.size, .slice h.orig.A h.orig.n h.orig.c, .slice h.now.A h.now.n h.now.c, .slice h.tx.A h.tx.n h.tx.c, .slice h.ty.A h.ty.n h.ty.c, .slice h.ends.A h.ends.n h.ends.c, .slice h.values.A h.values.n h.values.c, .slice h.stack.A h.stack.n h.stack.c, .bool d.axisY, .int .i64 d.ref, .int .i64 d.state, .int .i64 d.cut, .int .i64 d.least] 79 (0, 0))) := (hb6.block _ (by first | omega | (simp <;> omega))).trans ((Below.heap_setCell _ _ _ _ (by simp <;> omega)).trans (HX5.out))
  have HR6 : Hid (w6.heap[w.heap.size + 1]? = some (.cells #[.int .i64 0, .slice none 0 0, .slice none 0 0, .slice none 0 0, .slice none 0 0, .slice none 0 0, .slice none 0 0, .slice none 0 0, .bool false, .int .i64 0, .int .i64 0, .int .i64 0, .int .i64 0] 65 (0, 0))) := (hb6.block _ (by first | omega | (simp <;> omega))).trans ((Below.heap_setCell _ _ _ _ (by simp <;> omega)).trans (HR5.out))
  have HO6 : Hid (w6.heap[w.heap.size + 2]? = some (.cells #[.int .i64 d.size, .slice (some ⟨g1, 0, none⟩) h.orig.n h.orig.n, .slice (some ⟨g2, 0, none⟩) h.now.n h.now.n, .slice (some ⟨g3, 0, none⟩) h.tx.n h.tx.n, .slice (some ⟨g4, 0, none⟩) h.ty.n h.ty.n, .slice (some ⟨g5, 0, none⟩) h.ends.n h.ends.n, .slice none 0 0, .slice none 0 0, .bool false, .int .i64 0, .int .i64 0, .int .i64 0, .int .i64 0] 65 (0, 0))) := (hb6.block _ (by first | omega | (simp <;> omega))).trans (Go.Joins.block_setCell (HO5.out) (.slice (some ⟨g5, 0, none⟩) h.ends.n h.ends.n))
  clear HX5 HR5 HO5 cx6 co5 fo
  have cx7 : w6.cell? ⟨w.heap.size, 7, none⟩ = some (.slice h.stack.A h.stack.n h.stack.c) := by rw [Go.Joins.cell_of_block HX6.out]; rfl
  have co6 : w6.cell? ⟨w.heap.size + 2, 6, none⟩ = some (.slice none 0 0) := by rw [Go.Joins.cell_of_block HO6.out]; rfl
  have fo : ∀ o, w6.frozen? ⟨w.heap.size + 2, o, none⟩ = false := Go.Joins.unfrozen_of_block HO6.out
  clear hb6
  go_wp2_with fail
  refine (toInt64S_any _ _ _ lo hi d.stack _ (hr6.out.frame (good_flat _) (Below.sameB (B := w.heap.size) (w := w) (by repeat (first | refine Below.setCell ?_ (by first | omega | (simp <;> omega)) _ | refine Below.alloc ?_ (by first | omega | (simp <;> omega)) _ | exact hB6)) hhi)) (by first | omega | (simp <;> omega)) m6).mono ?_
  rintro e w7 ⟨g7, rfl, hg7, ho7, hb7⟩
  have hz7 := hb7.size
  try simp at hz7
  have hB7 : Below w.heap.size w w7 := Below.trans (by repeat (first | refine Below.setCell ?_ (by first | omega | (simp <;> omega)) _ | refine Below.alloc ?_ (by first | omega | (simp <;> omega)) _ | exact hB6)) (hb7.mono (by first | omega | (simp <;> omega)))
  have rd7 := Lib.hid (RdS.wide (good_flat _) (rdS_own intC_len (by omega) ho7 hr6.out.1) (lo' := w.heap.size + 3) (hi' := w7.heap.size) (by first | omega | (simp <;> omega)) (Nat.le_refl _))
  clear ho7 hg7
  have hs : SameB (w.heap.size + 3) w6.heap.size w6 w7 := SameB.trans (SameB.setCell (SameB.refl _ _ w6) (.inl (by simp)) _) (Below.sameB hb7 (by simp))
  replace rd1 := Lib.hid ((rd1.out.frame (good_flat _) hs).wide (good_flat _) (lo' := w.heap.size + 3) (hi' := w7.heap.size) (Nat.le_refl _) (by omega))
  replace rd2 := Lib.hid ((rd2.out.frame (good_flat _) hs).wide (good_flat _) (lo' := w.heap.size + 3) (hi' := w7.heap.size) (Nat.le_refl _) (by omega))
  replace rd3 := Lib.hid ((rd3.out.frame (good_flat _) hs).wide (good_flat _) (lo' := w.heap.size + 3) (hi' := w7.heap.size) (Nat.le_refl _) (by omega))
  replace rd4 := Lib.hid ((rd4.out.frame (good_flat _) hs).wide (good_flat _) (lo' := w.heap.size + 3) (hi' := w7.heap.size) (Nat.le_refl _) (by omega))
  replace rd5 := Lib.hid ((rd5.out.frame (good_flat _) hs).wide (good_flat _) (lo' := w.heap.size + 3) (hi' := w7.heap.size) (Nat.le_refl _) (by omega))
  replace rd6 := Lib.hid ((rd6.out.frame (good_flat _) hs).wide (good_flat _) (lo' := w.heap.size + 3) (hi' := w7.heap.size) (Nat.le_refl _) (by omega))
  clear hs
  have HX7 : Hid (w7.heap[w.heap.size]? = some (.cells #[.int .i64 d.size, .slice h.orig.A h.orig.n h.orig.c, .slice h.now.A h.now.n h.now.c, .slice h.tx.A h.tx.n h.tx.c, .slice h.ty.A h.ty.n h.ty.c, .slice h.ends.A h.ends.n h.ends.c, .slice h.values.A h.values.n h.values.c, .slice h.stack.A h.stack.n h.stack.c, .bool d.axisY, .int .i64 d.ref, .int .i64 d.state, .int .i64 d.cut, .int .i64 d.least] 79 (0, 0))) := (hb7.block _ (by first | omega | (simp <;> omega))).trans ((Below.heap_setCell _ _ _ _ (by simp <;> omega)).trans (HX6.out))
  have HR7 : Hid (w7.heap[w.heap.size + 1]? = some (.cells #[.int .i64 0, .slice none 0 0, .slice none 0 0, .slice none 0 0, .slice none 0 0, .slice none 0 0, .slice none 0 0, .slice none 0 0, .bool false, .int .i64 0, .int .i64 0, .int .i64 0, .int .i64 0] 65 (0, 0))) := (hb7.block _ (by first | omega | (simp <;> omega))).trans ((Below.heap_setCell _ _ _ _ (by simp <;> omega)).trans (HR6.out))
  have HO7 : Hid (w7.heap[w.heap.size + 2]? = some (.cells #[.int .i64 d.size, .slice (some ⟨g1, 0, none⟩) h.orig.n h.orig.n, .slice (some ⟨g2, 0, none⟩) h.now.n h.now.n, .slice (some ⟨g3, 0, none⟩) h.tx.n h.tx.n, .slice (some ⟨g4, 0, none⟩) h.ty.n h.ty.n, .slice (some ⟨g5, 0, none⟩) h.ends.n h.ends.n, .slice (some ⟨g6, 0, none⟩) h.values.n h.values.n, .slice none 0 0, .bool false, .int .i64 0, .int .i64 0, .int .i64 0, .int .i64 0] 65 (0, 0))) := (hb7.block _ (by first | omega | (simp <;> omega))).trans (Go.Joins.block_setCell (HO6.out) (.slice (some ⟨g6, 0, none⟩) h.values.n h.values.n))
  clear HX6 HR6 HO6 cx7 co6 fo
  have cx8 : w7.cell? ⟨w.heap.size, 8, none⟩ = some (.bool d.axisY) := by rw [Go.Joins.cell_of_block HX7.out]; rfl
  have cx9 : w7.cell? ⟨w.heap.size, 9, none⟩ = some (.int .i64 d.ref) := by rw [Go.Joins.cell_of_block HX7.out]; rfl
  have cx10 : w7.cell? ⟨w.heap.size, 10, none⟩ = some (.int .i64 d.state) := by rw [Go.Joins.cell_of_block HX7.out]; rfl
  have cx11 : w7.cell? ⟨w.heap.size, 11, none⟩ = some (.int .i64 d.cut) := by rw [Go.Joins.cell_of_block HX7.out]; rfl
  have cx12 : w7.cell? ⟨w.heap.size, 12, none⟩ = some (.int .i64 d.least) := by rw [Go.Joins.cell_of_block HX7.out]; rfl
  have co0 : w7.cell? ⟨w.heap.size + 2, 0, none⟩ = some (.int .i64 d.size) := by rw [Go.Joins.cell_of_block HO7.out]; rfl
  have co1 : w7.cell? ⟨w.heap.size + 2, 1, none⟩ = some (.slice (some ⟨g1, 0, none⟩) h.orig.n h.orig.n) := by rw [Go.Joins.cell_of_block HO7.out]; rfl
  have co2 : w7.cell? ⟨w.heap.size + 2, 2, none⟩ = some (.slice (some ⟨g2, 0, none⟩) h.now.n h.now.n) := by rw [Go.Joins.cell_of_block HO7.out]; rfl
  have co3 : w7.cell? ⟨w.heap.size + 2, 3, none⟩ = some (.slice (some ⟨g3, 0, none⟩) h.tx.n h.tx.n) := by rw [Go.Joins.cell_of_block HO7.out]; rfl
  have co4 : w7.cell? ⟨w.heap.size + 2, 4, none⟩ = some (.slice (some ⟨g4, 0, none⟩) h.ty.n h.ty.n) := by rw [Go.Joins.cell_of_block HO7.out]; rfl
  have co5 : w7.cell? ⟨w.heap.size + 2, 5, none⟩ = some (.slice (some ⟨g5, 0, none⟩) h.ends.n h.ends.n) := by rw [Go.Joins.cell_of_block HO7.out]; rfl
  have co6 : w7.cell? ⟨w.heap.size + 2, 6, none⟩ = some (.slice (some ⟨g6, 0, none⟩) h.values.n h.values.n) := by rw [Go.Joins.cell_of_block HO7.out]; rfl
  have co7 : w7.cell? ⟨w.heap.size + 2, 7, none⟩ = some (.slice none 0 0) := by rw [Go.Joins.cell_of_block HO7.out]; rfl
  have co8 : w7.cell? ⟨w.heap.size + 2, 8, none⟩ = some (.bool false) := by rw [Go.Joins.cell_of_block HO7.out]; rfl
  have co9 : w7.cell? ⟨w.heap.size + 2, 9, none⟩ = some (.int .i64 0) := by rw [Go.Joins.cell_of_block HO7.out]; rfl
  have co10 : w7.cell? ⟨w.heap.size + 2, 10, none⟩ = some (.int .i64 0) := by rw [Go.Joins.cell_of_block HO7.out]; rfl
  have co11 : w7.cell? ⟨w.heap.size + 2, 11, none⟩ = some (.int .i64 0) := by rw [Go.Joins.cell_of_block HO7.out]; rfl
  have co12 : w7.cell? ⟨w.heap.size + 2, 12, none⟩ = some (.int .i64 0) := by rw [Go.Joins.cell_of_block HO7.out]; rfl
  have fo : ∀ o, w7.frozen? ⟨w.heap.size + 2, o, none⟩ = false := Go.Joins.unfrozen_of_block HO7.out
  have cr0 : w7.cell? ⟨w.heap.size + 1, 0, none⟩ = some (.int .i64 0) := by rw [Go.Joins.cell_of_block HR7.out]; rfl
  have cr1 : w7.cell? ⟨w.heap.size + 1, 1, none⟩ = some (.slice none 0 0) := by rw [Go.Joins.cell_of_block HR7.out]; rfl
  have cr2 : w7.cell? ⟨w.heap.size + 1, 2, none⟩ = some (.slice none 0 0) := by rw [Go.Joins.cell_of_block HR7.out]; rfl
  have cr3 : w7.cell? ⟨w.heap.size + 1, 3, none⟩ = some (.slice none 0 0) := by rw [Go.Joins.cell_of_block HR7.out]; rfl
  have cr4 : w7.cell? ⟨w.heap.size + 1, 4, none⟩ = some (.slice none 0 0) := by rw [Go.Joins.cell_of_block HR7.out]; rfl
  have cr5 : w7.cell? ⟨w.heap.size + 1, 5, none⟩ = some (.slice none 0 0) := by rw [Go.Joins.cell_of_block HR7.out]; rfl
  have cr6 : w7.cell? ⟨w.heap.size + 1, 6, none⟩ = some (.slice none 0 0) := by rw [Go.Joins.cell_of_block HR7.out]; rfl
  have cr7 : w7.cell? ⟨w.heap.size + 1, 7, none⟩ = some (.slice none 0 0) := by rw [Go.Joins.cell_of_block HR7.out]; rfl
  have cr8 : w7.cell? ⟨w.heap.size + 1, 8, none⟩ = some (.bool false) := by rw [Go.Joins.cell_of_block HR7.out]; rfl
  have cr9 : w7.cell? ⟨w.heap.size + 1, 9, none⟩ = some (.int .i64 0) := by rw [Go.Joins.cell_of_block HR7.out]; rfl
  have cr10 : w7.cell? ⟨w.heap.size + 1, 10, none⟩ = some (.int .i64 0) := by rw [Go.Joins.cell_of_block HR7.out]; rfl
  have cr11 : w7.cell? ⟨w.heap.size + 1, 11, none⟩ = some (.int .i64 0) := by rw [Go.Joins.cell_of_block HR7.out]; rfl
  have cr12 : w7.cell? ⟨w.heap.size + 1, 12, none⟩ = some (.int .i64 0) := by rw [Go.Joins.cell_of_block HR7.out]; rfl
  have fr : ∀ o, w7.frozen? ⟨w.heap.size + 1, o, none⟩ = false := Go.Joins.unfrozen_of_block HR7.out
  clear hb7
  go_wp2_with fail
  have hfin : ∀ W', SameB (w.heap.size + 3) w7.heap.size w7 W' → w7.heap.size ≤ W'.heap.size → HinterRd W' w.heap.size W'.heap.size d ⟨⟨some ⟨g1, 0, none⟩, h.orig.n, h.orig.n⟩, ⟨some ⟨g2, 0, none⟩, h.now.n, h.now.n⟩, ⟨some ⟨g3, 0, none⟩, h.tx.n, h.tx.n⟩, ⟨some ⟨g4, 0, none⟩, h.ty.n, h.ty.n⟩, ⟨some ⟨g5, 0, none⟩, h.ends.n, h.ends.n⟩, ⟨some ⟨g6, 0, none⟩, h.values.n, h.values.n⟩, ⟨some ⟨g7, 0, none⟩, h.stack.n, h.stack.n⟩⟩ := fun W' hs hz => ⟨(rd1.out.frame (good_flat _) hs).wide (good_flat _) (by omega) hz, (rd2.out.frame (good_flat _) hs).wide (good_flat _) (by omega) hz, (rd3.out.frame (good_flat _) hs).wide (good_flat _) (by omega) hz, (rd4.out.frame (good_flat _) hs).wide (good_flat _) (by omega) hz, (rd5.out.frame (good_flat _) hs).wide (good_flat _) (by omega) hz, (rd6.out.frame (good_flat _) hs).wide (good_flat _) (by omega) hz, (rd7.out.frame (good_flat _) hs).wide (good_flat _) (by omega) hz⟩
  refine bodyPost_ret (v := .agg #[.int .i64 d.size, .slice (some ⟨g1, 0, none⟩) h.orig.n h.orig.n, .slice (some ⟨g2, 0, none⟩) h.now.n h.now.n, .slice (some ⟨g3, 0, none⟩) h.tx.n h.tx.n, .slice (some ⟨g4, 0, none⟩) h.ty.n h.ty.n, .slice (some ⟨g5, 0, none⟩) h.ends.n h.ends.n, .slice (some ⟨g6, 0, none⟩) h.values.n h.values.n, .slice (some ⟨g7, 0, none⟩) h.stack.n h.stack.n, .bool d.axisY, .int .i64 d.ref, .int .i64 d.state, .int .i64 d.cut, .int .i64 d.least]) (by simp [results, Try.results42, go_sem, cr0, cr1, cr2, cr3, cr4, cr5, cr6, cr7, cr8, cr9, cr10, cr11, cr12]) rfl ⟨⟨⟨some ⟨g1, 0, none⟩, h.orig.n, h.orig.n⟩, ⟨some ⟨g2, 0, none⟩, h.now.n, h.now.n⟩, ⟨some ⟨g3, 0, none⟩, h.tx.n, h.tx.n⟩, ⟨some ⟨g4, 0, none⟩, h.ty.n, h.ty.n⟩, ⟨some ⟨g5, 0, none⟩, h.ends.n, h.ends.n⟩, ⟨some ⟨g6, 0, none⟩, h.values.n, h.values.n⟩, ⟨some ⟨g7, 0, none⟩, h.stack.n, h.stack.n⟩⟩, rfl, hfin _ ?_ (by simp), ⟨m0, m1, m2, m3, m4, m5, m6⟩, (by repeat (first | refine Below.setCell ?_ (by first | omega | (simp <;> omega)) _ | refine Below.alloc ?_ (by first | omega | (simp <;> omega)) _ | exact hB7))⟩
  repeat (first | refine SameB.setCell ?_ (.inl (by first | omega | (simp <;> omega))) _ | exact SameB.refl _ _ _)

theorem heap_new2 (w : World) (a b : Obj) : ((w.alloc a).alloc b).heap[w.heap.size]? = some a ∧ ((w.alloc a).alloc b).heap[w.heap.size + 1]? = some b := by
  have h1 := heap_alloc_new w a
  have h2 := heap_alloc_new (w.alloc a) b
  have s1 : (w.alloc a).heap.size = w.heap.size + 1 := by simp
  rw [s1] at h2
  exact ⟨(Below.heap_alloc _ b _ (by omega)).trans h1, h2⟩
set_option maxHeartbeats 4000000 in
theorem eqHinter_any (d : HinterD) (h h' : HinterH) (lo hi lo' hi' : Nat) (w : World) (hr : HinterRd w lo hi d h) (hr' : HinterRd w lo' hi' d h') (hhi : hi ≤ w.heap.size) (hhi' : hi' ≤ w.heap.size) (hm : h.small 1000000000) :
    Calls Try.prog 33 #[hinV d h, hinV d h'] w fun e w' => e = .returned (.bool true) ∧ Below w.heap.size w w' := by
  obtain ⟨hr0, hr1, hr2, hr3, hr4, hr5, hr6⟩ := hr
  obtain ⟨hq0, hq1, hq2, hq3, hq4, hq5, hq6⟩ := hr'
  obtain ⟨m0, m1, m2, m3, m4, m5, m6⟩ := hm
  replace hr0 := Lib.hid hr0
  replace hq0 := Lib.hid hq0
  replace hr1 := Lib.hid hr1
  replace hq1 := Lib.hid hq1
  replace hr2 := Lib.hid hr2
  replace hq2 := Lib.hid hq2
  replace hr3 := Lib.hid hr3
  replace hq3 := Lib.hid hq3
  replace hr4 := Lib.hid hr4
  replace hq4 := Lib.hid hq4
  replace hr5 := Lib.hid hr5
  replace hq5 := Lib.hid hq5
  replace hr6 := Lib.hid hr6
  replace hq6 := Lib.hid hq6
  go_enter Try.func33, Try.ntmps33
  go_wp2_with fail
  refine (eqPtS_any _ _ _ _ _ _ lo hi lo' hi' d.orig _ (hr0.out.frame (good_flat _) (Below.sameB (B := w.heap.size) (w := w) (by repeat (first | refine Below.setCell ?_ (by first | omega | (simp <;> omega)) _ | refine Below.alloc ?_ (by first | omega | (simp <;> omega)) _ | exact Below.refl _ _)) hhi)) (hq0.out.frame (good_flat _) (Below.sameB (B := w.heap.size) (w := w) (by repeat (first | refine Below.setCell ?_ (by first | omega | (simp <;> omega)) _ | refine Below.alloc ?_ (by first | omega | (simp <;> omega)) _ | exact Below.refl _ _)) hhi')) (by first | omega | (simp <;> omega)) (by first | omega | (simp <;> omega)) m0).mono ?_
  rintro e w1 ⟨rfl, hb1⟩
  have hz1 := hb1.size
  try simp at hz1
  have hB1 : Below w.heap.size w w1 := Below.trans (by repeat (first | refine Below.setCell ?_ (by first | omega | (simp <;> omega)) _ | refine Below.alloc ?_ (by first | omega | (simp <;> omega)) _ | exact Below.refl _ _)) (hb1.mono (by first | omega | (simp <;> omega)))
  have hnew := heap_new2 w (.cells #[.int .i64 d.size, .slice h.orig.A h.orig.n h.orig.c, .slice h.now.A h.now.n h.now.c, .slice h.tx.A h.tx.n h.tx.c, .slice h.ty.A h.ty.n h.ty.c, .slice h.ends.A h.ends.n h.ends.c, .slice h.values.A h.values.n h.values.c, .slice h.stack.A h.stack.n h.stack.c, .bool d.axisY, .int .i64 d.ref, .int .i64 d.state, .int .i64 d.cut, .int .i64 d.least] 65 (0, 0)) (.cells #[.int .i64 d.size, .slice h'.orig.A h'.orig.n h'.orig.c, .slice h'.now.A h'.now.n h'.now.c, .slice h'.tx.A h'.tx.n h'.tx.c, .slice h'.ty.A h'.ty.n h'.ty.c, .slice h'.ends.A h'.ends.n h'.ends.c, .slice h'.values.A h'.values.n h'.values.c, .slice h'.stack.A h'.stack.n h'.stack.c, .bool d.axisY, .int .i64 d.ref, .int .i64 d.state, .int .i64 d.cut, .int .i64 d.least] 65 (0, 0))
  have HX1 : Hid (w1.heap[w.heap.size]? = some (.cells #[.int .i64 d.size, .slice h.orig.A h.orig.n h.orig.c, .slice h.now.A h.now.n h.now.c, .slice h.tx.A h.tx.n h.tx.c, .slice h.ty.A h.ty.n h.ty.c, .slice h.ends.A h.ends.n h.ends.c, .slice h.values.A h.values.n h.values.c, .slice h.stack.A h.stack.n h.stack.c, .bool d.axisY, .int .i64 d.ref, .int .i64 d.state, .int .i64 d.cut, .int .i64 d.least] 65 (0, 0))) := (hb1.block _ (by first | omega | (simp <;> omega))).trans hnew.1
  have HY1 : Hid (w1.heap[w.heap.size + 1]? = some (.cells #[.int .i64 d.size, .slice h'.orig.A h'.orig.n h'.orig.c, .slice h'.now.A h'.now.n h'.now.c, .slice h'.tx.A h'.tx.n h'.tx.c, .slice h'.ty.A h'.ty.n h'.ty.c, .slice h'.ends.A h'.ends.n h'.ends.c, .slice h'.values.A h'.values.n h'.values.c, .slice h'.stack.A h'.stack.n h'.stack.c, .bool d.axisY, .int .i64 d.ref, .int .i64 d.state, .int .i64 d.cut, .int .i64 d.least] 65 (0, 0))) := (hb1.block _ (by first | omega | (simp <;> omega))).trans hnew.2
  clear hnew
  have cx2 : w1.cell? ⟨w.heap.size, 2, none⟩ = some (.slice h.now.A h.now.n h.now.c) := by rw [Go.Joins.cell_of_block HX1.out]; rfl
  have cy2 : w1.cell? ⟨w.heap.size + 1, 2, none⟩ = some (.slice h'.now.A h'.now.n h'.now.c) := by rw [Go.Joins.cell_of_block HY1.out]; rfl
  clear hb1
  go_wp2_with fail
  refine (eqPtS_any _ _ _ _ _ _ lo hi lo' hi' d.now _ (hr1.out.frame (good_flat _) (Below.sameB (B := w.heap.size) (w := w) (by repeat (first | refine Below.setCell ?_ (by first | omega | (simp <;> omega)) _ | refine Below.alloc ?_ (by first | omega | (simp <;> omega)) _ | exact hB1)) hhi)) (hq1.out.frame (good_flat _) (Below.sameB (B := w.heap.size) (w := w) (by repeat (first | refine Below.setCell ?_ (by first | omega | (simp <;> omega)) _ | refine Below.alloc ?_ (by first | omega | (simp <;> omega)) _ | exact hB1)) hhi')) (by first | omega | (simp <;> omega)) (by first | omega | (simp <;> omega)) m1).mono ?_
  rintro e w2 ⟨rfl, hb2⟩
  have hz2 := hb2.size
  try simp at hz2
  have hB2 : Below w.heap.size w w2 := Below.trans (by repeat (first | refine Below.setCell ?_ (by first | omega | (simp <;> omega)) _ | refine Below.alloc ?_ (by first | omega | (simp <;> omega)) _ | exact hB1)) (hb2.mono (by first | omega | (simp <;> omega)))
  have HX2 : Hid (w2.heap[w.heap.size]? = some (.cells #[.int .i64 d.size, .slice h.orig.A h.orig.n h.orig.c, .slice h.now.A h.now.n h.now.c, .slice h.tx.A h.tx.n h.tx.c, .slice h.ty.A h.ty.n h.ty.c, .slice h.ends.A h.ends.n h.ends.c, .slice h.values.A h.values.n h.values.c, .slice h.stack.A h.stack.n h.stack.c, .bool d.axisY, .int .i64 d.ref, .int .i64 d.state, .int .i64 d.cut, .int .i64 d.least] 65 (0, 0))) := (hb2.block _ (by first | omega | (simp <;> omega))).trans HX1.out
  have HY2 : Hid (w2.heap[w.heap.size + 1]? = some (.cells #[.int .i64 d.size, .slice h'.orig.A h'.orig.n h'.orig.c, .slice h'.now.A h'.now.n h'.now.c, .slice h'.tx.A h'.tx.n h'.tx.c, .slice h'.ty.A h'.ty.n h'.ty.c, .slice h'.ends.A h'.ends.n h'.ends.c, .slice h'.values.A h'.values.n h'.values.c, .slice h'.stack.A h'.stack.n h'.stack.c, .bool d.axisY, .int .i64 d.ref, .int .i64 d.state, .int .i64 d.cut, .int .i64 d.least] 65 (0, 0))) := (hb2.block _ (by first | omega | (simp <;> omega))).trans HY1.out
  clear HX1 HY1 cx2 cy2
  have cx3 : w2.cell? ⟨w.heap.size, 3, none⟩ = some (.slice h.tx.A h.tx.n h.tx.c) := by rw [Go.Joins.cell_of_block HX2.out]; rfl
  have cy3 : w2.cell? ⟨w.heap.size + 1, 3, none⟩ = some (.slice h'.tx.A h'.tx.n h'.tx.c) := by rw [Go.Joins.cell_of_block HY2.out]; rfl
  clear hb2
  go_wp2_with fail
  refine (eqBoolS_any _ _ _ _ _ _ lo hi lo' hi' d.tx _ (hr2.out.frame (good_flat _) (Below.sameB (B := w.heap.size) (w := w) (by repeat (first | refine Below.setCell ?_ (by first | omega | (simp <;> omega)) _ | refine Below.alloc ?_ (by first | omega | (simp <;> omega)) _ | exact hB2)) hhi)) (hq2.out.frame (good_flat _) (Below.sameB (B := w.heap.size) (w := w) (by repeat (first | refine Below.setCell ?_ (by first | omega | (simp <;> omega)) _ | refine Below.alloc ?_ (by first | omega | (simp <;> omega)) _ | exact hB2)) hhi')) (by first | omega | (simp <;> omega)) (by first | omega | (simp <;> omega)) m2).mono ?_
  rintro e w3 ⟨rfl, hb3⟩
  have hz3 := hb3.size
  try simp at hz3
  have hB3 : Below w.heap.size w w3 := Below.trans (by repeat (first | refine Below.setCell ?_ (by first | omega | (simp <;> omega)) _ | refine Below.alloc ?_ (by first | omega | (simp <;> omega)) _ | exact hB2)) (hb3.mono (by first | omega | (simp <;> omega)))
  have HX3 : Hid (w3.heap[w.heap.size]? = some (.cells #[.int .i64 d.size, .slice h.orig.A h.orig.n h.orig.c, .slice h.now.A h.now.n h.now.c, .slice h.tx.A h.tx.n h.tx.c, .slice h.ty.A h.ty.n h.ty.c, .slice h.ends.A h.ends.n h.ends.c, .slice h.values.A h.values.n h.values.c, .slice h.stack.A h.stack.n h.stack.c, .bool d.axisY, .int .i64 d.ref, .int .i64 d.state, .int .i64 d.cut, .int .i64 d.least] 65 (0, 0))) := (hb3.block _ (by first | omega | (simp <;> omega))).trans HX2.out
  have HY3 : Hid (w3.heap[w.heap.size + 1]? = some (.cells #[.int .i64 d.size, .slice h'.orig.A h'.orig.n h'.orig.c, .slice h'.now.A h'.now.n h'.now.c, .slice h'.tx.A h'.tx.n h'.tx.c, .slice h'.ty.A h'.ty.n h'.ty.c, .slice h'.ends.A h'.ends.n h'.ends.c, .slice h'.values.A h'.values.n h'.values.c, .slice h'.stack.A h'.stack.n h'.stack.c, .bool d.axisY, .int .i64 d.ref, .int .i64 d.state, .int .i64 d.cut, .int .i64 d.least] 65 (0, 0))) := (hb3.block _ (by first | omega | (simp <;> omega))).trans HY2.out
  clear HX2 HY2 cx3 cy3
  have cx4 : w3.cell? ⟨w.heap.size, 4, none⟩ = some (.slice h.ty.A h.ty.n h.ty.c) := by rw [Go.Joins.cell_of_block HX3.out]; rfl
  have cy4 : w3.cell? ⟨w.heap.size + 1, 4, none⟩ = some (.slice h'.ty.A h'.ty.n h'.ty.c) := by rw [Go.Joins.cell_of_block HY3.out]; rfl
  clear hb3
  go_wp2_with fail
  refine (eqBoolS_any _ _ _ _ _ _ lo hi lo' hi' d.ty _ (hr3.out.frame (good_flat _) (Below.sameB (B := w.heap.size) (w := w) (by repeat (first | refine Below.setCell ?_ (by first | omega | (simp <;> omega)) _ | refine Below.alloc ?_ (by first | omega | (simp <;> omega)) _ | exact hB3)) hhi)) (hq3.out.frame (good_flat _) (Below.sameB (B := w.heap.size) (w := w) (by repeat (first | refine Below.setCell ?_ (by first | omega | (simp <;> omega)) _ | refine Below.alloc ?_ (by first | omega | (simp <;> omega)) _ | exact hB3)) hhi')) (by first | omega | (simp <;> omega)) (by first | omega | (simp <;> omega)) m3).mono ?_
  rintro e w4 ⟨rfl, hb4⟩
  have hz4 := hb4.size
  try simp at hz4
  have hB4 : Below w.heap.size w w4 := Below.trans (by repeat (first | refine Below.setCell ?_ (by first | omega | (simp <;> omega)) _ | refine Below.alloc ?_ (by first | omega | (simp <;> omega)) _ | exact hB3)) (hb4.mono (by first | omega | (simp <;> omega)))
  have HX4 : Hid (w4.heap[w.heap.size]? = some (.cells #[.int .i64 d.size, .slice h.orig.A h.orig.n h.orig.c, .slice h.now.A h.now.n h.now.c, .slice h.tx.A h.tx.n h.tx.c, .slice h.ty.A h.ty.n h.ty.c, .slice h.ends.A h.ends.n h.ends.c, .slice h.values.A h.values.n h.values.c, .slice h.stack.A h.stack.n h.stack.c, .bool d.axisY, .int .i64 d.ref, .int .i64 d.state, .int .i64 d.cut, .int .i64 d.least] 65 (0, 0))) := (hb4.block _ (by first | omega | (simp <;> omega))).trans HX3.out
  have HY4 : Hid (w4.heap[w.heap.size + 1]? = some (.cells #[.int .i64 d.size, .slice h'.orig.A h'.orig.n h'.orig.c, .slice h'.now.A h'.now.n h'.now.c, .slice h'.tx.A h'.tx.n h'.tx.c, .slice h'.ty.A h'.ty.n h'.ty.c, .slice h'.ends.A h'.ends.n h'.ends.c, .slice h'.values.A h'.values.n h'.values.c, .slice h'.stack.A h'.stack.n h'.stack.c, .bool d.axisY, .int .i64 d.ref, .int .i64 d.state, .int .i64 d.cut, .int .i64 d.least] 65 (0, 0))) := (hb4.block _ (by first | omega | (simp <;> omega))).trans HY3.out
  clear HX3 HY3 cx4 cy4
  have cx5 : w4.cell? ⟨w.heap.size, 5, none⟩ = some (.slice h.ends.A h.ends.n h.ends.c) := by rw [Go.Joins.cell_of_block HX4.out]; rfl
  have cy5 : w4.cell? ⟨w.heap.size + 1, 5, none⟩ = some (.slice h'.ends.A h'.ends.n h'.ends.c) := by rw [Go.Joins.cell_of_block HY4.out]; rfl
  clear hb4
  go_wp2_with fail
  refine (eqInt64S_any _ _ _ _ _ _ lo hi lo' hi' d.ends _ (hr4.out.frame (good_flat _) (Below.sameB (B := w.heap.size) (w := w) (by repeat (first | refine Below.setCell ?_ (by first | omega | (simp <;> omega)) _ | refine Below.alloc ?_ (by first | omega | (simp <;> omega)) _ | exact hB4)) hhi)) (hq4.out.frame (good_flat _) (Below.sameB (B := w.heap.size) (w := w) (by repeat (first | refine Below.setCell ?_ (by first | omega | (simp <;> omega)) _ | refine Below.alloc ?_ (by first | omega | (simp <;> omega)) _ | exact hB4)) hhi')) (by first | omega | (simp <;> omega)) (by first | omega | (simp <;> omega)) m4).mono ?_
  rintro e w5 ⟨rfl, hb5⟩
  have hz5 := hb5.size
  try simp at hz5
  have hB5 : Below w.heap.size w w5 := Below.trans (by repeat (first | refine Below.setCell ?_ (by first | omega | (simp <;> omega)) _ | refine Below.alloc ?_ (by first | omega | (simp <;> omega)) _ | exact hB4)) (hb5.mono (by first | omega | (simp <;> omega)))
  have HX5 : Hid (w5.heap[w.heap.size]? = some (.cells #[.int .i64 d.size, .slice h.orig.A h.orig.n h.orig.c, .slice h.now.A h.now.n h.now.c, .slice h.tx.A h.tx.n h.tx.c, .slice h.ty.A h.ty.n h.ty.c, .slice h.ends.A h.ends.n h.ends.c, .slice h.values.A h.values.n h.values.c, .slice h.stack.A h.stack.n h.stack.c, .bool d.axisY, .int .i64 d.ref, .int .i64 d.state, .int .i64 d.cut, .int .i64 d.least] 65 (0, 0))) := (hb5.block _ (by first | omega | (simp <;> omega))).trans HX4.out
  have HY5 : Hid (w5.heap[w.heap.size + 1]? = some (.cells #[.int .i64 d.size, .slice h'.orig.A h'.orig.n h'.orig.c, .slice h'.now.A h'.now.n h'.now.c, .slice h'.tx.A h'.tx.n h'.tx.c, .slice h'.ty.A h'.ty.n h'.ty.c, .slice h'.ends.A h'.ends.n h'.ends.c, .slice h'.values.A h'.values.n h'.values.c, .slice h'.stack.A h'.stack.n h'.stack.c, .bool d.axisY, .int .i64 d.ref, .int .i64 d.state, .int .i64 d.cut, .int .i64 d.least] 65 (0, 0))) := (hb5.block _ (by first | omega | (simp <;> omega))).trans HY4.out
  clear HX4 HY4 cx5 cy5
  have cx6 : w5.cell? ⟨w.heap.size, 6, none⟩ = some (.slice h.values.A h.values.n h.values.c) := by rw [Go.Joins.cell_of_block HX5.out]; rfl
  have cy6 : w5.cell? ⟨w.heap.size + 1, 6, none⟩ = some (.slice h'.values.A h'.values.n h'.values.c) := by rw [Go.Joins.cell_of_block HY5.out]; rfl
  clear hb5
  go_wp2_with fail
  refine (eqInt64S_any _ _ _ _ _ _ lo hi lo' hi' d.values _ (hr5.out.frame (good_flat _) (Below.sameB (B := w.heap.size) (w := w) (by repeat (first | refine Below.setCell ?_ (by first | omega | (simp <;> omega)) _ | refine Below.alloc ?_ (by first | omega | (simp <;> omega)) _ | exact hB5)) hhi)) (hq5.out.frame (good_flat _) (Below.sameB (B := w.heap.size) (w := w) (by repeat (first | refine Below.setCell ?_ (by first | omega | (simp <;> omega)) _ | refine Below.alloc ?_ (by first | omega | (simp <;> omega)) _ | exact hB5)) hhi')) (by first | omega | (simp <;> omega)) (by first | omega | (simp <;> omega)) m5).mono ?_
  rintro e w6 ⟨rfl, hb6⟩
  have hz6 := hb6.size
  try simp at hz6
  have hB6 : Below w.heap.size w w6 := Below.trans (by repeat (first | refine Below.setCell ?_ (by first | omega | (simp <;> omega)) _ | refine Below.alloc ?_ (by first | omega | (simp <;> omega)) _ | exact hB5)) (hb6.mono (by first | omega | (simp <;> omega)))
  have HX6 : Hid (w6.heap[w.heap.size]? = some (.cells #[.int .i64 d.size, .slice h.orig.A h.orig.n h.orig.c, .slice h.now.A h.now.n h.now.c, .slice h.tx.A h.tx.n h.tx.c, .slice h.ty.A h.ty.n h.ty.c, .slice h.ends.A h.ends.n h.ends.c, .slice h.values.A h.values.n h.values.c, .slice h.stack.A h.stack.n h.stack.c, .bool d.axisY, .int .i64 d.ref, .int .i64 d.state, .int .i64 d.cut, .int .i64 d.least] 65 (0, 0))) := (hb6.block _ (by first | omega | (simp <;> omega))).trans HX5.out
  have HY6 : Hid (w6.heap[w.heap.size + 1]? = some (.cells #[.int .i64 d.size, .slice h'.orig.A h'.orig.n h'.orig.c, .slice h'.now.A h'.now.n h'.now.c, .slice h'.tx.A h'.tx.n h'.tx.c, .slice h'.ty.A h'.ty.n h'.ty.c, .slice h'.ends.A h'.ends.n h'.ends.c, .slice h'.values.A h'.values.n h'.values.c, .slice h'.stack.A h'.stack.n h'.stack.c, .bool d.axisY, .int .i64 d.ref, .int .i64 d.state, .int .i64 d.cut, .int .i64 d.least] 65 (0, 0))) := (hb6.block _ (by first | omega | (simp <;> omega))).trans HY5.out
  clear HX5 HY5 cx6 cy6
  have cx7 : w6.cell? ⟨w.heap.size, 7, none⟩ = some (.slice h.stack.A h.stack.n h.stack.c) := by rw [Go.Joins.cell_of_block HX6.out]; rfl
  have cy7 : w6.cell? ⟨w.heap.size + 1, 7, none⟩ = some (.slice h'.stack.A h'.stack.n h'.stack.c) := by rw [Go.Joins.cell_of_block HY6.out]; rfl
  clear hb6
  go_wp2_with fail
  refine (eqInt64S_any _ _ _ _ _ _ lo hi lo' hi' d.stack _ (hr6.out.frame (good_flat _) (Below.sameB (B := w.heap.size) (w := w) (by repeat (first | refine Below.setCell ?_ (by first | omega | (simp <;> omega)) _ | refine Below.alloc ?_ (by first | omega | (simp <;> omega)) _ | exact hB6)) hhi)) (hq6.out.frame (good_flat _) (Below.sameB (B := w.heap.size) (w := w) (by repeat (first | refine Below.setCell ?_ (by first | omega | (simp <;> omega)) _ | refine Below.alloc ?_ (by first | omega | (simp <;> omega)) _ | exact hB6)) hhi')) (by first | omega | (simp <;> omega)) (by first | omega | (simp <;> omega)) m6).mono ?_
  rintro e w7 ⟨rfl, hb7⟩
  have hz7 := hb7.size
  try simp at hz7
  have hB7 : Below w.heap.size w w7 := Below.trans (by repeat (first | refine Below.setCell ?_ (by first | omega | (simp <;> omega)) _ | refine Below.alloc ?_ (by first | omega | (simp <;> omega)) _ | exact hB6)) (hb7.mono (by first | omega | (simp <;> omega)))
  have HX7 : Hid (w7.heap[w.heap.size]? = some (.cells #[.int .i64 d.size, .slice h.orig.A h.orig.n h.orig.c, .slice h.now.A h.now.n h.now.c, .slice h.tx.A h.tx.n h.tx.c, .slice h.ty.A h.ty.n h.ty.c, .slice h.ends.A h.ends.n h.ends.c, .slice h.values.A h.values.n h.values.c, .slice h.stack.A h.stack.n h.stack.c, .bool d.axisY, .int .i64 d.ref, .int .i64 d.state, .int .i64 d.cut, .int .i64 d.least] 65 (0, 0))) := (hb7.block _ (by first | omega | (simp <;> omega))).trans HX6.out
  have HY7 : Hid (w7.heap[w.heap.size + 1]? = some (.cells #[.int .i64 d.size, .slice h'.orig.A h'.orig.n h'.orig.c, .slice h'.now.A h'.now.n h'.now.c, .slice h'.tx.A h'.tx.n h'.tx.c, .slice h'.ty.A h'.ty.n h'.ty.c, .slice h'.ends.A h'.ends.n h'.ends.c, .slice h'.values.A h'.values.n h'.values.c, .slice h'.stack.A h'.stack.n h'.stack.c, .bool d.axisY, .int .i64 d.ref, .int .i64 d.state, .int .i64 d.cut, .int .i64 d.least] 65 (0, 0))) := (hb7.block _ (by first | omega | (simp <;> omega))).trans HY6.out
  clear HX6 HY6 cx7 cy7
  have cx8 : w7.cell? ⟨w.heap.size, 8, none⟩ = some (.bool d.axisY) := by rw [Go.Joins.cell_of_block HX7.out]; rfl
  have cy8 : w7.cell? ⟨w.heap.size + 1, 8, none⟩ = some (.bool d.axisY) := by rw [Go.Joins.cell_of_block HY7.out]; rfl
  have cx9 : w7.cell? ⟨w.heap.size, 9, none⟩ = some (.int .i64 d.ref) := by rw [Go.Joins.cell_of_block HX7.out]; rfl
  have cy9 : w7.cell? ⟨w.heap.size + 1, 9, none⟩ = some (.int .i64 d.ref) := by rw [Go.Joins.cell_of_block HY7.out]; rfl
  have cx10 : w7.cell? ⟨w.heap.size, 10, none⟩ = some (.int .i64 d.state) := by rw [Go.Joins.cell_of_block HX7.out]; rfl
  have cy10 : w7.cell? ⟨w.heap.size + 1, 10, none⟩ = some (.int .i64 d.state) := by rw [Go.Joins.cell_of_block HY7.out]; rfl
  have cx11 : w7.cell? ⟨w.heap.size, 11, none⟩ = some (.int .i64 d.cut) := by rw [Go.Joins.cell_of_block HX7.out]; rfl
  have cy11 : w7.cell? ⟨w.heap.size + 1, 11, none⟩ = some (.int .i64 d.cut) := by rw [Go.Joins.cell_of_block HY7.out]; rfl
  have cx12 : w7.cell? ⟨w.heap.size, 12, none⟩ = some (.int .i64 d.least) := by rw [Go.Joins.cell_of_block HX7.out]; rfl
  have cy12 : w7.cell? ⟨w.heap.size + 1, 12, none⟩ = some (.int .i64 d.least) := by rw [Go.Joins.cell_of_block HY7.out]; rfl
  clear hb7
  go_wp2_with fail
  go_ret
  exact ⟨rfl, (by repeat (first | refine Below.setCell ?_ (by first | omega | (simp <;> omega)) _ | refine Below.alloc ?_ (by first | omega | (simp <;> omega)) _ | exact hB7))⟩
end Go.Proofs.Ytgngcllodofimaa
