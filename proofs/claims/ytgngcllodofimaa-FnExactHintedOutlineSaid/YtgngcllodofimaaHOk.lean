/- Whether a state of the hint machine is valid: both sides. Conditions: as each states. -/
import Derived.Test.YtgngcllodofimaaHVal
namespace Go.Proofs.Ytgngcllodofimaa
open Go.RowKit
set_option linter.unusedVariables false
set_option maxRecDepth 100000

/-- the last of numbers that rise from l, if they do -/
def risesF (l : Int) : List Int → Option Int
  | [] => some l
  | e :: t => if e ≤ l then none else risesF e t
def HinOk (d : HinterD) : Prop := 2 ≤ d.now.length ∧ d.now.length ≤ 242 ∧ d.orig.length = d.now.length ∧ d.tx.length = d.now.length ∧ d.ty.length = d.now.length ∧ risesF 0 d.ends = some ((d.now.length : Int) - 2) ∧
  d.stack.length ≤ 32 ∧ d.values.length ≤ 16 ∧ smH d = true ∧ (1 ≤ d.size ∧ d.size ≤ 128) ∧ (0 ≤ d.ref ∧ d.ref < d.now.length) ∧ (0 ≤ d.state ∧ d.state ≤ 5) ∧ (0 ≤ d.cut ∧ d.cut ≤ 32767) ∧ (0 ≤ d.least ∧ d.least ≤ 32767)
theorem bool_no {b : Bool} {P : Prop} (h : b = true ↔ P) (hn : ¬ P) : b = false := by
  cases b
  · rfl
  · exact absurd (h.1 rfl) hn
theorem drop_at {α : Type} {L : List α} {k : Nat} {a : α} (h : L[k]? = some a) : L.drop k = a :: L.drop (k + 1) := by
  have hl := (List.getElem?_eq_some_iff.1 h).1
  rw [List.getElem?_eq_getElem hl] at h
  injection h with h
  rw [List.drop_eq_getElem_cons hl, h]

set_option maxHeartbeats 8000000 in
theorem l20Ok_any (d : HinterD) (h : HinterH) (b : Bool) (hb : b = true ↔ HinOk d) (lo hi : Nat) (x : Nat) (w : World) (hr : HinterRd w lo hi d h) (hhi : hi ≤ w.heap.size) (hm : h.small 1000000000) (hbx : BoxH w x d h) :
    Calls Try.prog 107 #[.pointer (some ⟨x, 0, none⟩)] w fun e w' => e = .returned (.bool b) ∧ w = w' := by
  replace hb := Lib.hid hb
  have hsm := Lib.hid hm
  have hrd := Lib.hid hr
  obtain ⟨r1, r2, r3, r4, r5, r6, r7⟩ := hr
  obtain ⟨m1, m2, m3, m4, m5, m6, m7⟩ := hm
  have l1 := Lib.hid r1.1
  have l2 := Lib.hid r2.1
  have l3 := Lib.hid r3.1
  have l4 := Lib.hid r4.1
  have l5 := Lib.hid r5.1
  have l6 := Lib.hid r6.1
  have l7 := Lib.hid r7.1
  replace r1 := Lib.hid r1
  replace r2 := Lib.hid r2
  replace r5 := Lib.hid r5
  replace r6 := Lib.hid r6
  replace r7 := Lib.hid r7
  clear r3 r4
  obtain ⟨s0, s1, s2, s3, s4, s5, s6, s7, s8, s9, s10, s11, s12⟩ := hbx
  by_cases a1 : 2 ≤ h.now.n
  rotate_left
  · have hbf : b = false := bool_no hb.out (fun ⟨p1, p2, p3, p4, p5, p6, p7, p8, p9, p10, p11, p12, p13, p14⟩ => by have := l1.out; have := l2.out; have := l3.out; have := l4.out; have := l5.out; have := l6.out; have := l7.out; omega)
    subst hbf
    go_enter Try.func107, Try.ntmps107
    go_wp2_with fail
    go_ret
    exact ⟨rfl, rfl⟩
  by_cases a2 : h.now.n ≤ 242
  rotate_left
  · have hbf : b = false := bool_no hb.out (fun ⟨p1, p2, p3, p4, p5, p6, p7, p8, p9, p10, p11, p12, p13, p14⟩ => by have := l1.out; have := l2.out; have := l3.out; have := l4.out; have := l5.out; have := l6.out; have := l7.out; omega)
    subst hbf
    go_enter Try.func107, Try.ntmps107
    go_wp2_with fail
    go_ret
    exact ⟨rfl, rfl⟩
  by_cases a3 : h.orig.n = h.now.n
  rotate_left
  · have hbf : b = false := bool_no hb.out (fun ⟨p1, p2, p3, p4, p5, p6, p7, p8, p9, p10, p11, p12, p13, p14⟩ => by have := l1.out; have := l2.out; have := l3.out; have := l4.out; have := l5.out; have := l6.out; have := l7.out; omega)
    subst hbf
    have t1 : ((h.orig.n : Int) != (h.now.n : Int)) = true := by simp; omega
    clear a3
    go_enter Try.func107, Try.ntmps107
    go_wp2_with fail
    go_ret
    exact ⟨rfl, rfl⟩
  have t3 : ((h.orig.n : Int) != (h.now.n : Int)) = false := by simp; omega
  by_cases a4 : h.tx.n = h.now.n
  rotate_left
  · have hbf : b = false := bool_no hb.out (fun ⟨p1, p2, p3, p4, p5, p6, p7, p8, p9, p10, p11, p12, p13, p14⟩ => by have := l1.out; have := l2.out; have := l3.out; have := l4.out; have := l5.out; have := l6.out; have := l7.out; omega)
    subst hbf
    have t1 : ((h.tx.n : Int) != (h.now.n : Int)) = true := by simp; omega
    clear a3 a4
    go_enter Try.func107, Try.ntmps107
    go_wp2_with fail
    go_ret
    exact ⟨rfl, rfl⟩
  have t4 : ((h.tx.n : Int) != (h.now.n : Int)) = false := by simp; omega
  by_cases a5 : h.ty.n = h.now.n
  rotate_left
  · have hbf : b = false := bool_no hb.out (fun ⟨p1, p2, p3, p4, p5, p6, p7, p8, p9, p10, p11, p12, p13, p14⟩ => by have := l1.out; have := l2.out; have := l3.out; have := l4.out; have := l5.out; have := l6.out; have := l7.out; omega)
    subst hbf
    have t1 : ((h.ty.n : Int) != (h.now.n : Int)) = true := by simp; omega
    clear a3 a4 a5
    go_enter Try.func107, Try.ntmps107
    go_wp2_with fail
    go_ret
    exact ⟨rfl, rfl⟩
  have t5 : ((h.ty.n : Int) != (h.now.n : Int)) = false := by simp; omega
  replace a3 := Lib.hid a3
  replace a4 := Lib.hid a4
  replace a5 := Lib.hid a5
  go_enter Try.func107, Try.ntmps107
  go_wp2_with fail
  go_loop [4, 5] (fun lv i => ∃ (k : Nat) (l : Int), i = .int .i64 k ∧ lv = .int .i64 l ∧ k ≤ h.ends.n ∧ risesF 0 d.ends = risesF l (d.ends.drop k)) (fun lv i => h.ends.n - (intOf i).toNat)
  case atStart => exact ⟨0, 0, rfl, rfl, Nat.zero_le _, by simp⟩
  case round =>
    obtain ⟨k, l, rfl, rfl, hk, hri⟩ := hrel
    replace hri := Lib.hid hri
    by_cases hlt : k < h.ends.n
    · obtain ⟨b1, o1, x0, hA, _, _, hja, hcs⟩ := r5.out.at hlt
      have q0 := hcs 0 _ rfl
      simp only [Nat.add_zero, Nat.mul_one] at q0
      clear hcs
      rw [hA] at s5
      have hdr := Lib.hid (drop_at hja)
      replace hja := Lib.hid hja
      replace hA := Lib.hid hA
      by_cases hle : x0 ≤ l
      · have hbf : b = false := bool_no hb.out (fun ⟨p1, p2, p3, p4, p5, p6, p7, p8, p9, p10, p11, p12, p13, p14⟩ => by rw [hri.out, hdr.out, risesF, if_pos hle] at p6; cases p6)
        subst hbf
        go_wp2_with fail
        go_ret
        exact ⟨rfl, rfl⟩
      · go_wp2_with fail
        go_round
        case rel => exact ⟨k + 1, x0, by go_num, rfl, by omega, by rw [hri.out, hdr.out, risesF, if_neg hle]⟩
        case measure => simp [intOf]; omega
    · have hfin : risesF 0 d.ends = some l := by
        rw [hri.out, List.drop_of_length_le (by rw [l5.out]; omega)]; rfl
      replace hfin := Lib.hid hfin
      by_cases a6 : l = (h.now.n : Int) - 2
      rotate_left
      · have t6 : (l != (h.now.n : Int) - 2) = true := by simp; omega
        have hbf : b = false := bool_no hb.out (fun ⟨p1, p2, p3, p4, p5, p6, p7, p8, p9, p10, p11, p12, p13, p14⟩ => by rw [hfin.out] at p6; injection p6 with p6; have := l2.out; omega)
        subst hbf
        clear a6
        go_wp2_with fail
        go_ret
        exact ⟨rfl, rfl⟩
      have t6 : (l != (h.now.n : Int) - 2) = false := by simp; omega
      replace a6 := Lib.hid a6
      by_cases a7 : h.stack.n ≤ 32
      rotate_left
      · have hbf : b = false := bool_no hb.out (fun ⟨p1, p2, p3, p4, p5, p6, p7, p8, p9, p10, p11, p12, p13, p14⟩ => by have := l7.out; omega)
        subst hbf
        go_wp2_with fail
        go_ret
        exact ⟨rfl, rfl⟩
      by_cases a8 : h.values.n ≤ 16
      rotate_left
      · have hbf : b = false := bool_no hb.out (fun ⟨p1, p2, p3, p4, p5, p6, p7, p8, p9, p10, p11, p12, p13, p14⟩ => by have := l6.out; omega)
        subst hbf
        go_wp2_with fail
        go_ret
        exact ⟨rfl, rfl⟩
      go_wp2_with fail
      obtain ⟨vorig, eorig⟩ : ∃ v, v = d.orig.all smP := ⟨_, rfl⟩
      replace eorig := Lib.hid eorig
      refine (l20Points_any _ _ _ lo hi d.orig vorig eorig.out _ r1.out m1).mono ?_
      rintro e w' ⟨rfl, rfl⟩
      cases vorig
      · have hbf : b = false := bool_no hb.out (fun ⟨p1, p2, p3, p4, p5, p6, p7, p8, p9, p10, p11, p12, p13, p14⟩ => by simp [smH, ← eorig.out] at p9)
        subst hbf
        go_wp2_with fail
        go_ret
        exact ⟨rfl, rfl⟩
      go_wp2_with fail
      obtain ⟨vnow, enow⟩ : ∃ v, v = d.now.all smP := ⟨_, rfl⟩
      replace enow := Lib.hid enow
      refine (l20Points_any _ _ _ lo hi d.now vnow enow.out _ r2.out m2).mono ?_
      rintro e w' ⟨rfl, rfl⟩
      cases vnow
      · have hbf : b = false := bool_no hb.out (fun ⟨p1, p2, p3, p4, p5, p6, p7, p8, p9, p10, p11, p12, p13, p14⟩ => by simp [smH, ← enow.out] at p9)
        subst hbf
        go_wp2_with fail
        go_ret
        exact ⟨rfl, rfl⟩
      go_wp2_with fail
      obtain ⟨vstack, estack⟩ : ∃ v, v = d.stack.all smN := ⟨_, rfl⟩
      replace estack := Lib.hid estack
      refine (l20Small_any _ _ _ lo hi d.stack vstack estack.out _ r7.out m7).mono ?_
      rintro e w' ⟨rfl, rfl⟩
      cases vstack
      · have hbf : b = false := bool_no hb.out (fun ⟨p1, p2, p3, p4, p5, p6, p7, p8, p9, p10, p11, p12, p13, p14⟩ => by simp [smH, ← estack.out] at p9)
        subst hbf
        go_wp2_with fail
        go_ret
        exact ⟨rfl, rfl⟩
      go_wp2_with fail
      obtain ⟨vvalues, evalues⟩ : ∃ v, v = d.values.all smN := ⟨_, rfl⟩
      replace evalues := Lib.hid evalues
      refine (l20Small_any _ _ _ lo hi d.values vvalues evalues.out _ r6.out m6).mono ?_
      rintro e w' ⟨rfl, rfl⟩
      cases vvalues
      · have hbf : b = false := bool_no hb.out (fun ⟨p1, p2, p3, p4, p5, p6, p7, p8, p9, p10, p11, p12, p13, p14⟩ => by simp [smH, ← evalues.out] at p9)
        subst hbf
        go_wp2_with fail
        go_ret
        exact ⟨rfl, rfl⟩
      have hsmt : smH d = true := by simp only [smH, ← eorig.out, ← enow.out, ← estack.out, ← evalues.out, Bool.and_self]
      replace hsmt := Lib.hid hsmt
      cases isize : inB d.size 1 128
      · have hbf : b = false := bool_no hb.out (fun ⟨p1, p2, p3, p4, p5, p6, p7, p8, p9, p10, p11, p12, p13, p14⟩ => by have h1 := inB_false.1 isize; have := l2.out; omega)
        subst hbf
        go_wp2_with (go_at_call 155; refine (l00In_any _ _ _ _).mono ?_; rintro e w' ⟨rfl, rfl⟩)
        go_ret
        exact ⟨rfl, rfl⟩
      cases iref : inB d.ref 0 ((h.now.n : Int) - 1)
      · have hbf : b = false := bool_no hb.out (fun ⟨p1, p2, p3, p4, p5, p6, p7, p8, p9, p10, p11, p12, p13, p14⟩ => by have h1 := inB_false.1 iref; have := l2.out; omega)
        subst hbf
        go_wp2_with (go_at_call 155; refine (l00In_any _ _ _ _).mono ?_; rintro e w' ⟨rfl, rfl⟩)
        go_ret
        exact ⟨rfl, rfl⟩
      cases istate : inB d.state 0 5
      · have hbf : b = false := bool_no hb.out (fun ⟨p1, p2, p3, p4, p5, p6, p7, p8, p9, p10, p11, p12, p13, p14⟩ => by have h1 := inB_false.1 istate; have := l2.out; omega)
        subst hbf
        go_wp2_with (go_at_call 155; refine (l00In_any _ _ _ _).mono ?_; rintro e w' ⟨rfl, rfl⟩)
        go_ret
        exact ⟨rfl, rfl⟩
      cases icut : inB d.cut 0 32767
      · have hbf : b = false := bool_no hb.out (fun ⟨p1, p2, p3, p4, p5, p6, p7, p8, p9, p10, p11, p12, p13, p14⟩ => by have h1 := inB_false.1 icut; have := l2.out; omega)
        subst hbf
        go_wp2_with (go_at_call 155; refine (l00In_any _ _ _ _).mono ?_; rintro e w' ⟨rfl, rfl⟩)
        go_ret
        exact ⟨rfl, rfl⟩
      cases ileast : inB d.least 0 32767
      · have hbf : b = false := bool_no hb.out (fun ⟨p1, p2, p3, p4, p5, p6, p7, p8, p9, p10, p11, p12, p13, p14⟩ => by have h1 := inB_false.1 ileast; have := l2.out; omega)
        subst hbf
        go_wp2_with (go_at_call 155; refine (l00In_any _ _ _ _).mono ?_; rintro e w' ⟨rfl, rfl⟩)
        go_ret
        exact ⟨rfl, rfl⟩
      have hbt : b = true := hb.out.2 (by
        have x1 := l1.out
        have x2 := l2.out
        have x3 := l3.out
        have x4 := l4.out
        have x6 := l6.out
        have x7 := l7.out
        have y3 := a3.out
        have y4 := a4.out
        have y5 := a5.out
        have j1 := inB_iff.1 isize
        have j2 := inB_iff.1 iref
        have j3 := inB_iff.1 istate
        have j4 := inB_iff.1 icut
        have j5 := inB_iff.1 ileast
        exact ⟨by omega, by omega, by omega, by omega, by omega, by rw [hfin.out, a6.out, x2], by omega, by omega, hsmt.out, j1, by omega, j3, j4, j5⟩)
      subst hbt
      go_wp2_with (go_at_call 155; refine (l00In_any _ _ _ _).mono ?_; rintro e w' ⟨rfl, rfl⟩)
      go_ret
      exact ⟨rfl, rfl⟩

set_option maxHeartbeats 8000000 in
theorem implValidHinter_any (d : HinterD) (h : HinterH) (b : Bool) (hb : b = true ↔ HinOk d) (lo hi : Nat) (w : World) (hr : HinterRd w lo hi d h) (hhi : hi ≤ w.heap.size) (hm : h.small 1000000000) :
    Calls Try.prog 113 #[hinV d h] w fun e w' => e = .returned (.bool b) ∧ Below w.heap.size w w' := by
  obtain ⟨⟨A1, n1, c1⟩, ⟨A2, n2, c2⟩, ⟨A3, n3, c3⟩, ⟨A4, n4, c4⟩, ⟨A5, n5, c5⟩, ⟨A6, n6, c6⟩, ⟨A7, n7, c7⟩⟩ := h
  replace hb := Lib.hid hb
  have hsm := Lib.hid hm
  have hrd := Lib.hid hr
  obtain ⟨r1, r2, r3, r4, r5, r6, r7⟩ := hr
  obtain ⟨m1, m2, m3, m4, m5, m6, m7⟩ := hm
  have l1 := Lib.hid (show d.orig.length = n1 from r1.1)
  have l2 := Lib.hid (show d.now.length = n2 from r2.1)
  have l3 := Lib.hid (show d.tx.length = n3 from r3.1)
  have l4 := Lib.hid (show d.ty.length = n4 from r4.1)
  have l5 := Lib.hid (show d.ends.length = n5 from r5.1)
  have l6 := Lib.hid (show d.values.length = n6 from r6.1)
  have l7 := Lib.hid (show d.stack.length = n7 from r7.1)
  replace r1 := Lib.hid r1
  replace r2 := Lib.hid r2
  replace r5 := Lib.hid (show RdS 1 (FlatR intC) w lo hi A5 n5 d.ends from r5)
  replace r6 := Lib.hid r6
  replace r7 := Lib.hid r7
  clear r3 r4
  have hB0 : Below w.heap.size w (w.alloc (.cells #[.int .i64 d.size, .slice A1 n1 c1, .slice A2 n2 c2, .slice A3 n3 c3, .slice A4 n4 c4, .slice A5 n5 c5, .slice A6 n6 c6, .slice A7 n7 c7, .bool d.axisY, .int .i64 d.ref, .int .i64 d.state, .int .i64 d.cut, .int .i64 d.least] 65 (0, 0))) := Go.Joins.below_alloc1 _ _
  have hx0 := Lib.hid (box_new w d ⟨⟨A1, n1, c1⟩, ⟨A2, n2, c2⟩, ⟨A3, n3, c3⟩, ⟨A4, n4, c4⟩, ⟨A5, n5, c5⟩, ⟨A6, n6, c6⟩, ⟨A7, n7, c7⟩⟩ 65)
  have hz0 : w.heap.size < (w.alloc (.cells #[.int .i64 d.size, .slice A1 n1 c1, .slice A2 n2 c2, .slice A3 n3 c3, .slice A4 n4 c4, .slice A5 n5 c5, .slice A6 n6 c6, .slice A7 n7 c7, .bool d.axisY, .int .i64 d.ref, .int .i64 d.state, .int .i64 d.cut, .int .i64 d.least] 65 (0, 0))).heap.size := by simp
  by_cases a1 : 2 ≤ n1
  rotate_left
  · have hbf : b = false := bool_no hb.out (fun ⟨p1, p2, p3, p4, p5, p6, p7, p8, p9, p10, p11, p12, p13, p14⟩ => by have := l1.out; have := l2.out; have := l3.out; have := l4.out; have := l5.out; have := l6.out; have := l7.out; omega)
    subst hbf
    go_enter Try.func113, Try.ntmps113
    go_wp2_with fail
    go_ret
    exact ⟨rfl, hB0⟩
  by_cases a2 : n1 ≤ 242
  rotate_left
  · have hbf : b = false := bool_no hb.out (fun ⟨p1, p2, p3, p4, p5, p6, p7, p8, p9, p10, p11, p12, p13, p14⟩ => by have := l1.out; have := l2.out; have := l3.out; have := l4.out; have := l5.out; have := l6.out; have := l7.out; omega)
    subst hbf
    go_enter Try.func113, Try.ntmps113
    go_wp2_with fail
    go_ret
    exact ⟨rfl, hB0⟩
  by_cases a3 : n2 = n1
  rotate_left
  · have hbf : b = false := bool_no hb.out (fun ⟨p1, p2, p3, p4, p5, p6, p7, p8, p9, p10, p11, p12, p13, p14⟩ => by have := l1.out; have := l2.out; have := l3.out; have := l4.out; have := l5.out; have := l6.out; have := l7.out; omega)
    subst hbf
    have t1 : ((n2 : Int) != (n1 : Int)) = true := by simp; omega
    clear a3
    go_enter Try.func113, Try.ntmps113
    go_wp2_with fail
    go_ret
    exact ⟨rfl, hB0⟩
  have t3 : ((n2 : Int) != (n1 : Int)) = false := by simp; omega
  by_cases a4 : n3 = n1
  rotate_left
  · have hbf : b = false := bool_no hb.out (fun ⟨p1, p2, p3, p4, p5, p6, p7, p8, p9, p10, p11, p12, p13, p14⟩ => by have := l1.out; have := l2.out; have := l3.out; have := l4.out; have := l5.out; have := l6.out; have := l7.out; omega)
    subst hbf
    have t1 : ((n3 : Int) != (n1 : Int)) = true := by simp; omega
    clear a3 a4
    go_enter Try.func113, Try.ntmps113
    go_wp2_with fail
    go_ret
    exact ⟨rfl, hB0⟩
  have t4 : ((n3 : Int) != (n1 : Int)) = false := by simp; omega
  by_cases a5 : n4 = n1
  rotate_left
  · have hbf : b = false := bool_no hb.out (fun ⟨p1, p2, p3, p4, p5, p6, p7, p8, p9, p10, p11, p12, p13, p14⟩ => by have := l1.out; have := l2.out; have := l3.out; have := l4.out; have := l5.out; have := l6.out; have := l7.out; omega)
    subst hbf
    have t1 : ((n4 : Int) != (n1 : Int)) = true := by simp; omega
    clear a3 a4 a5
    go_enter Try.func113, Try.ntmps113
    go_wp2_with fail
    go_ret
    exact ⟨rfl, hB0⟩
  have t5 : ((n4 : Int) != (n1 : Int)) = false := by simp; omega
  replace a3 := Lib.hid a3
  replace a4 := Lib.hid a4
  replace a5 := Lib.hid a5
  go_enter Try.func113, Try.ntmps113
  go_wp2_with fail
  go_loop [4, 40] (fun lv i => ∃ (k : Nat) (l : Int), i = .int .i64 k ∧ lv = .int .i64 l ∧ k ≤ n5 ∧ risesF 0 d.ends = risesF l (d.ends.drop k)) (fun lv i => n5 - (intOf i).toNat)
  case atStart => exact ⟨0, 0, rfl, rfl, Nat.zero_le _, by simp⟩
  case round =>
    obtain ⟨k, l, rfl, rfl, hk, hri⟩ := hrel
    replace hri := Lib.hid hri
    by_cases hlt : k < n5
    · obtain ⟨b1, o1, x0, rfl, hb1, hb2, hja, hcs⟩ := r5.out.at hlt
      have q0 := hcs 0 _ rfl
      simp only [Nat.add_zero, Nat.mul_one] at q0
      have hbw : b1 < w.heap.size := by omega
      clear hcs hb1 hb2
      have hdr := Lib.hid (drop_at hja)
      replace hja := Lib.hid hja
      by_cases hle : x0 ≤ l
      · have hbf : b = false := bool_no hb.out (fun ⟨p1, p2, p3, p4, p5, p6, p7, p8, p9, p10, p11, p12, p13, p14⟩ => by rw [hri.out, hdr.out, risesF, if_pos hle] at p6; cases p6)
        subst hbf
        go_wp2_with fail
        go_ret
        exact ⟨rfl, hB0⟩
      · go_wp2_with fail
        go_round
        case rel => exact ⟨k + 1, x0, by go_num, rfl, by omega, by rw [hri.out, hdr.out, risesF, if_neg hle]⟩
        case measure => simp [intOf]; omega
    · have hfin : risesF 0 d.ends = some l := by
        rw [hri.out, List.drop_of_length_le (by rw [l5.out]; omega)]; rfl
      replace hfin := Lib.hid hfin
      by_cases a6 : l = (n1 : Int) - 2
      rotate_left
      · have t6 : (l != (n1 : Int) - 2) = true := by simp; omega
        have hbf : b = false := bool_no hb.out (fun ⟨p1, p2, p3, p4, p5, p6, p7, p8, p9, p10, p11, p12, p13, p14⟩ => by rw [hfin.out] at p6; injection p6 with p6; have := l1.out; omega)
        subst hbf
        clear a6
        go_wp2_with fail
        go_ret
        exact ⟨rfl, hB0⟩
      have t6 : (l != (n1 : Int) - 2) = false := by simp; omega
      replace a6 := Lib.hid a6
      by_cases a8 : n6 ≤ 16
      rotate_left
      · have hbf : b = false := bool_no hb.out (fun ⟨p1, p2, p3, p4, p5, p6, p7, p8, p9, p10, p11, p12, p13, p14⟩ => by have := l6.out; omega)
        subst hbf
        go_wp2_with fail
        go_ret
        exact ⟨rfl, hB0⟩
      by_cases a7 : n7 ≤ 32
      rotate_left
      · have hbf : b = false := bool_no hb.out (fun ⟨p1, p2, p3, p4, p5, p6, p7, p8, p9, p10, p11, p12, p13, p14⟩ => by have := l7.out; omega)
        subst hbf
        go_wp2_with fail
        go_ret
        exact ⟨rfl, hB0⟩
      obtain ⟨v, ev⟩ : ∃ v, v = smH d := ⟨_, rfl⟩
      replace ev := Lib.hid ev
      go_wp2_with fail
      refine (smallHinter_any d ⟨⟨A1, n1, c1⟩, ⟨A2, n2, c2⟩, ⟨A3, n3, c3⟩, ⟨A4, n4, c4⟩, ⟨A5, n5, c5⟩, ⟨A6, n6, c6⟩, ⟨A7, n7, c7⟩⟩ v ev.out lo hi _ (hrd.out.frame (SameB.alloc (SameB.refl _ _ _) hhi _)) (by simp; omega) hsm.out).mono ?_
      rintro e w1 ⟨rfl, hb1⟩
      have hB1 := hB0.trans (hb1.mono (by simp))
      have hz1 : w.heap.size < w1.heap.size := Nat.lt_of_lt_of_le hz0 hb1.size
      have hx1 := hx0.out.below hb1 hz0
      clear hx0 hb1 hB0 hz0
      cases v
      · have hbf : b = false := bool_no hb.out (fun ⟨p1, p2, p3, p4, p5, p6, p7, p8, p9, p10, p11, p12, p13, p14⟩ => by rw [← ev.out] at p9; cases p9)
        subst hbf
        clear hx1
        go_wp2_with fail
        go_ret
        exact ⟨by first | rfl | exact ret_bool (decide_eq_true (by omega)) | exact ret_bool (decide_eq_false (by omega)), hB1⟩
      obtain ⟨s0, s1, s2, s3, s4, s5, s6, s7, s8, s9, s10, s11, s12⟩ := hx1
      clear s1 s2 s3 s4 s5 s6 s7 s8
      by_cases c1 : 1 ≤ d.size
      rotate_left
      · have hbf : b = false := bool_no hb.out (fun ⟨p1, p2, p3, p4, p5, p6, p7, p8, p9, p10, p11, p12, p13, p14⟩ => by have := l1.out; omega)
        subst hbf
        go_wp2_with fail
        go_ret
        exact ⟨by first | rfl | exact ret_bool (decide_eq_true (by omega)) | exact ret_bool (decide_eq_false (by omega)), hB1⟩
      by_cases c2 : d.size ≤ 128
      rotate_left
      · have hbf : b = false := bool_no hb.out (fun ⟨p1, p2, p3, p4, p5, p6, p7, p8, p9, p10, p11, p12, p13, p14⟩ => by have := l1.out; omega)
        subst hbf
        go_wp2_with fail
        go_ret
        exact ⟨by first | rfl | exact ret_bool (decide_eq_true (by omega)) | exact ret_bool (decide_eq_false (by omega)), hB1⟩
      by_cases c3 : 0 ≤ d.ref
      rotate_left
      · have hbf : b = false := bool_no hb.out (fun ⟨p1, p2, p3, p4, p5, p6, p7, p8, p9, p10, p11, p12, p13, p14⟩ => by have := l1.out; omega)
        subst hbf
        go_wp2_with fail
        go_ret
        exact ⟨by first | rfl | exact ret_bool (decide_eq_true (by omega)) | exact ret_bool (decide_eq_false (by omega)), hB1⟩
      by_cases c4 : d.ref < (n1 : Int)
      rotate_left
      · have hbf : b = false := bool_no hb.out (fun ⟨p1, p2, p3, p4, p5, p6, p7, p8, p9, p10, p11, p12, p13, p14⟩ => by have := l1.out; omega)
        subst hbf
        go_wp2_with fail
        go_ret
        exact ⟨by first | rfl | exact ret_bool (decide_eq_true (by omega)) | exact ret_bool (decide_eq_false (by omega)), hB1⟩
      by_cases c5 : 0 ≤ d.state
      rotate_left
      · have hbf : b = false := bool_no hb.out (fun ⟨p1, p2, p3, p4, p5, p6, p7, p8, p9, p10, p11, p12, p13, p14⟩ => by have := l1.out; omega)
        subst hbf
        go_wp2_with fail
        go_ret
        exact ⟨by first | rfl | exact ret_bool (decide_eq_true (by omega)) | exact ret_bool (decide_eq_false (by omega)), hB1⟩
      by_cases c6 : d.state ≤ 5
      rotate_left
      · have hbf : b = false := bool_no hb.out (fun ⟨p1, p2, p3, p4, p5, p6, p7, p8, p9, p10, p11, p12, p13, p14⟩ => by have := l1.out; omega)
        subst hbf
        go_wp2_with fail
        go_ret
        exact ⟨by first | rfl | exact ret_bool (decide_eq_true (by omega)) | exact ret_bool (decide_eq_false (by omega)), hB1⟩
      by_cases c7 : 0 ≤ d.cut
      rotate_left
      · have hbf : b = false := bool_no hb.out (fun ⟨p1, p2, p3, p4, p5, p6, p7, p8, p9, p10, p11, p12, p13, p14⟩ => by have := l1.out; omega)
        subst hbf
        go_wp2_with fail
        go_ret
        exact ⟨by first | rfl | exact ret_bool (decide_eq_true (by omega)) | exact ret_bool (decide_eq_false (by omega)), hB1⟩
      by_cases c8 : d.cut ≤ 32767
      rotate_left
      · have hbf : b = false := bool_no hb.out (fun ⟨p1, p2, p3, p4, p5, p6, p7, p8, p9, p10, p11, p12, p13, p14⟩ => by have := l1.out; omega)
        subst hbf
        go_wp2_with fail
        go_ret
        exact ⟨by first | rfl | exact ret_bool (decide_eq_true (by omega)) | exact ret_bool (decide_eq_false (by omega)), hB1⟩
      by_cases c9 : 0 ≤ d.least
      rotate_left
      · have hbf : b = false := bool_no hb.out (fun ⟨p1, p2, p3, p4, p5, p6, p7, p8, p9, p10, p11, p12, p13, p14⟩ => by have := l1.out; omega)
        subst hbf
        go_wp2_with fail
        go_ret
        exact ⟨by first | rfl | exact ret_bool (decide_eq_true (by omega)) | exact ret_bool (decide_eq_false (by omega)), hB1⟩
      by_cases c10 : d.least ≤ 32767
      rotate_left
      · have hbf : b = false := bool_no hb.out (fun ⟨p1, p2, p3, p4, p5, p6, p7, p8, p9, p10, p11, p12, p13, p14⟩ => by have := l1.out; omega)
        subst hbf
        go_wp2_with fail
        go_ret
        exact ⟨by first | rfl | exact ret_bool (decide_eq_true (by omega)) | exact ret_bool (decide_eq_false (by omega)), hB1⟩
      have hbt : b = true := hb.out.2 (by
        have x1 := l1.out
        have x2 := l2.out
        have x3 := l3.out
        have x4 := l4.out
        have x6 := l6.out
        have x7 := l7.out
        have y3 := a3.out
        have y4 := a4.out
        have y5 := a5.out
        exact ⟨by omega, by omega, by omega, by omega, by omega, by rw [hfin.out, a6.out]; congr 1; omega, by omega, by omega, ev.out.symm, by omega, by omega, by omega, by omega, by omega⟩)
      subst hbt
      go_wp2_with fail
      go_ret
      exact ⟨by first | rfl | exact ret_bool (decide_eq_true (by omega)) | exact ret_bool (decide_eq_false (by omega)), hB1⟩

end Go.Proofs.Ytgngcllodofimaa
