/- The code of a glyph of a set: both sides. Conditions: as each states. -/
import Derived.Test.YtgngcllodofimaaOkI
namespace Go.Proofs.Ytgngcllodofimaa
open Go.RowKit
set_option linter.unusedVariables false
set_option maxRecDepth 100000

/-- 1: not valid; 2: no such glyph; 0: fine -/
def askR (d : GSet) (x : Int) : Int := if setOk d = true then (if 0 ≤ x ∧ x < d.gl.length then 0 else 2) else 1
theorem ask_1 {d : GSet} {x : Int} (h : setOk d = false) : askR d x = 1 := if_neg (by rw [h]; simp)
theorem ask_2 {d : GSet} {x : Int} (h : setOk d = true) (h1 : ¬ (0 ≤ x ∧ x < d.gl.length)) : askR d x = 2 := by unfold askR; rw [if_pos h, if_neg h1]
theorem ask_0 {d : GSet} {x : Int} (h : setOk d = true) (h1 : 0 ≤ x ∧ x < d.gl.length) : askR d x = 0 := by unfold askR; rw [if_pos h, if_pos h1]
theorem ask_cases (d : GSet) (x : Int) : askR d x = 1 ∨ askR d x = 2 ∨ (askR d x = 0 ∧ setOk d = true ∧ 0 ≤ x ∧ x < d.gl.length) := by
  cases h : setOk d
  · exact .inl (ask_1 h)
  · by_cases h1 : 0 ≤ x ∧ x < d.gl.length
    · exact .inr (.inr ⟨ask_0 h h1, rfl, h1.1, h1.2⟩)
    · exact .inr (.inl (ask_2 h h1))

set_option maxHeartbeats 2000000 in
theorem l17Ask_any (p o : Nat) (d : GSet) (h : GSetH) (x : Int) (r : Int) (hrr : r = askR d x) (lo hi : Nat) (w : World) (hp0 : p < w.heap.size) (k0 : w.cell? ⟨p, o, none⟩ = some (.int .i64 d.unit)) (k1 : w.cell? ⟨p, o + 1, none⟩ = some (.slice h.gl.A h.gl.n h.gl.c)) (hr : GSetRd w lo hi d h) (hhi : hi ≤ w.heap.size) (hm : d.small 1000000000) (hs : ∀ g ∈ d.gl, g.str) :
    Calls Try.prog 118 #[.pointer (some ⟨p, o, none⟩), .int .i64 x] w fun e w' => e = .returned (.int .i64 r) ∧ Below w.heap.size w w' := by
  obtain ⟨v, hv⟩ : ∃ v, v = setOk d := ⟨_, rfl⟩
  have hl := hr.1
  have hn := (hm.gl hr.1).1
  have hc := Lib.hid (l17Ok_any p o d.unit h.gl.A h.gl.n h.gl.c lo hi d.gl v hv w hp0 k0 k1 hr hhi hn hm.g hs)
  cases v with
  | false =>
    rw [ask_1 hv.symm] at hrr
    subst hrr
    clear hr hm hs hv hl
    go_enter Try.func118, Try.ntmps118
    go_wp2_with fail
    refine hc.out.mono ?_
    rintro e w1 ⟨rfl, hb1⟩
    go_wp2_with fail
    go_ret
    exact ⟨rfl, hb1⟩
  | true =>
    have hin : inB x 0 ((h.gl.n : Int) - 1) = decide (r = 0) := by
      rw [Bool.eq_iff_iff, inB_iff, decide_eq_true_iff]
      constructor
      · intro h1; rw [hrr]; exact ask_0 hv.symm (by omega)
      · intro h1
        by_cases h2 : 0 ≤ x ∧ x < d.gl.length
        · omega
        · rw [hrr, ask_2 hv.symm h2] at h1; omega
    have hcs : r = 0 ∨ r = 2 := by
      rcases ask_cases d x with h1 | h1 | h1
      · by_cases h2 : 0 ≤ x ∧ x < d.gl.length
        · rw [ask_0 hv.symm h2] at hrr; exact .inl hrr
        · rw [ask_2 hv.symm h2] at hrr; exact .inr hrr
      · exact .inr (hrr.trans h1)
      · exact .inl (hrr.trans h1.1)
    have hll := Lib.hid hl
    replace hrr := Lib.hid hrr
    clear hr hm hs hv hl
    rcases hcs with rfl | rfl
    · replace hin : inB x 0 ((h.gl.n : Int) - 1) = true := hin
      go_enter Try.func118, Try.ntmps118
      go_wp2_with fail
      refine hc.out.mono ?_
      rintro e w1 ⟨rfl, hb1⟩
      have k2 := (hb1.cell (p := ⟨p, o + 1, none⟩) hp0).trans k1
      have hp1 : p < w1.heap.size := Nat.lt_of_lt_of_le hp0 hb1.size
      go_wp2_with (go_at_call 155; refine (l00In_any _ _ _ _).mono ?_; rintro e w' ⟨rfl, rfl⟩)
      go_ret
      exact ⟨rfl, hb1⟩
    · replace hin : inB x 0 ((h.gl.n : Int) - 1) = false := hin
      go_enter Try.func118, Try.ntmps118
      go_wp2_with fail
      refine hc.out.mono ?_
      rintro e w1 ⟨rfl, hb1⟩
      have k2 := (hb1.cell (p := ⟨p, o + 1, none⟩) hp0).trans k1
      have hp1 : p < w1.heap.size := Nat.lt_of_lt_of_le hp0 hb1.size
      go_wp2_with (go_at_call 155; refine (l00In_any _ _ _ _).mono ?_; rintro e w' ⟨rfl, rfl⟩)
      go_ret
      exact ⟨rfl, hb1⟩

set_option maxHeartbeats 2000000 in
theorem checkGlyph_any (d : GSet) (h : GSetH) (x : Int) (r : Int) (hrr : r = askR d x) (lo hi : Nat) (w : World) (hr : GSetRc w lo hi d h) (hhi : hi ≤ w.heap.size) (hm : d.small 1000000000) (hs : ∀ g ∈ d.gl, g.str) :
    Calls Try.prog 82 #[gsV d h, .int .i64 x] w fun e w' => e = .returned (.int .i64 r) ∧ Below w.heap.size w w' := by
  have hB0 : Below w.heap.size w (w.alloc (.cells #[.int .i64 d.unit, .slice h.gl.A h.gl.n h.gl.c] 39 (0, 0))) := Go.Joins.below_alloc1 _ _
  obtain ⟨v, hv⟩ : ∃ v, v = setOk d := ⟨_, rfl⟩
  have hl := hr.1
  have hn := (hm.gl hr.1).1
  have hc := Lib.hid (implValidGS_any d h v hv lo hi (w.alloc (.cells #[.int .i64 d.unit, .slice h.gl.A h.gl.n h.gl.c] 39 (0, 0))) (hr.frame good_glyphc (Below.sameB hB0 hhi)) (Nat.le_trans hhi hB0.size) hm hs)
  have k1 : (w.alloc (.cells #[.int .i64 d.unit, .slice h.gl.A h.gl.n h.gl.c] 39 (0, 0))).cell? ⟨w.heap.size, 1, none⟩ = some (.slice h.gl.A h.gl.n h.gl.c) := by rw [Go.Joins.cell_of_block (heap_alloc_new w _)]; rfl
  have hz : w.heap.size < (w.alloc (.cells #[.int .i64 d.unit, .slice h.gl.A h.gl.n h.gl.c] 39 (0, 0))).heap.size := by simp
  cases v with
  | false =>
    rw [ask_1 hv.symm] at hrr
    subst hrr
    clear hr hm hs hv hl k1
    go_enter Try.func82, Try.ntmps82
    go_wp2_with fail
    refine hc.out.mono ?_
    rintro e w1 ⟨rfl, hb1⟩
    go_wp2_with fail
    go_ret
    exact ⟨rfl, hB0.trans (hb1.mono hB0.size)⟩
  | true =>
    have hcs : (r = 0 ∧ 0 ≤ x ∧ x < (h.gl.n : Int)) ∨ (r = 2 ∧ x < 0) ∨ (r = 2 ∧ 0 ≤ x ∧ ¬ x < (h.gl.n : Int)) := by
      by_cases h2 : 0 ≤ x ∧ x < d.gl.length
      · rw [ask_0 hv.symm h2] at hrr; exact .inl ⟨hrr, by omega⟩
      · rw [ask_2 hv.symm h2] at hrr; by_cases h3 : x < 0
        · exact .inr (.inl ⟨hrr, h3⟩)
        · exact .inr (.inr ⟨hrr, by omega, by omega⟩)
    replace hrr := Lib.hid hrr
    replace hl := Lib.hid hl
    clear hr hm hs hv
    rcases hcs with ⟨rfl, h0, h1⟩ | ⟨rfl, h0⟩ | ⟨rfl, h0, h1⟩
    all_goals
      go_enter Try.func82, Try.ntmps82
      go_wp2_with fail
      refine hc.out.mono ?_
      rintro e w1 ⟨rfl, hb1⟩
      have k2 := (hb1.cell (p := ⟨w.heap.size, 1, none⟩) hz).trans k1
      have hz1 : w.heap.size < w1.heap.size := Nat.lt_of_lt_of_le hz hb1.size
      clear k1
      go_wp2_with fail
      go_ret
      exact ⟨rfl, hB0.trans (hb1.mono hB0.size)⟩
end Go.Proofs.Ytgngcllodofimaa
