/- The depth of a glyph: the program's side. Conditions: as it states. -/
import Derived.Test.YtpjmpbdbfldnaaaDepS
namespace Go.Proofs.Ytpjmpbdbfldnaaa
open Go.RowKit
set_option linter.unusedVariables false
set_option maxRecDepth 100000

theorem set_parts {d : GSet} (h : setOk d = true) : ∀ g ∈ d.gl, g.parts.length ≤ 6 ∧ ∀ q ∈ g.parts, 0 ≤ q.1 ∧ q.1 < (d.gl.length : Int) := fun g hg => by
  obtain ⟨h1, h2, h3⟩ := set_is h
  refine ⟨(glyph_is (h2 g hg)).2.1, fun q hq => ?_⟩
  obtain ⟨j, hj⟩ := List.getElem?_of_mem hg
  have := (order_ord (tgts d.gl)).parts_lt (by rw [h3, tgts_length]) (tgts_at hj) (List.mem_map_of_mem (f := (·.1)) hq)
  rw [tgts_length] at this
  omega

set_option maxHeartbeats 2000000 in
theorem implGlyphDepth_any (d : GSet) (h : GSetH) (x0 : Int) (r0 r1 : Int) (heq : (r0, r1) = depR d x0) (lo hi : Nat) (w : World) (hr : GSetRc w lo hi d h) (hhi : hi ≤ w.heap.size) (hm : d.small 1000000000) (hs : ∀ g ∈ d.gl, g.str) :
    Calls Try.prog 67 #[gsV d h, .int .i64 x0] w fun e w' => e = .returned (.tuple #[.int .i64 r0, .int .i64 r1]) ∧ Below w.heap.size w w' := by
  have hB0 : Below w.heap.size w (w.alloc (.cells #[.int .i64 d.unit, .slice h.gl.A h.gl.n h.gl.c] 84 (0, 0))) := Go.Joins.below_alloc1 _ _
  have k1 : (w.alloc (.cells #[.int .i64 d.unit, .slice h.gl.A h.gl.n h.gl.c] 84 (0, 0))).cell? ⟨w.heap.size, 1, none⟩ = some (.slice h.gl.A h.gl.n h.gl.c) := by rw [Go.Joins.cell_of_block (heap_alloc_new w _)]; rfl
  have hz : w.heap.size < (w.alloc (.cells #[.int .i64 d.unit, .slice h.gl.A h.gl.n h.gl.c] 84 (0, 0))).heap.size := by simp
  obtain ⟨q, hq⟩ : ∃ q, q = askR d x0 := ⟨_, rfl⟩
  have hc := Lib.hid (checkGlyph_any d h x0 q hq lo hi (w.alloc (.cells #[.int .i64 d.unit, .slice h.gl.A h.gl.n h.gl.c] 84 (0, 0))) (hr.frame good_glyphc (Below.sameB hB0 hhi)) (Nat.le_trans hhi hB0.size) hm hs)
  have hcs := ask_cases d x0
  unfold depR at heq
  rw [← hq] at hcs heq
  injection heq with e0 e1
  by_cases hq0 : q = 0
  rotate_left
  · rw [if_neg hq0] at e0
    subst e0 e1
    have hq1 : r1 = 1 ∨ r1 = 2 := by omega
    replace hq := Lib.hid hq
    clear hr hm hs hcs k1 hq0
    rcases hq1 with rfl | rfl
    all_goals
      go_enter Try.func67, Try.ntmps67
      go_wp2_with fail
      refine hc.out.mono ?_
      rintro e w1 ⟨rfl, hb1⟩
      go_wp2_with fail
      go_ret2
      exact ⟨rfl, hB0.trans (hb1.mono hB0.size)⟩
  · rw [if_pos hq0] at e0
    obtain ⟨_, hok, hx0, hxn⟩ : q = 0 ∧ setOk d = true ∧ 0 ≤ x0 ∧ x0 < d.gl.length := by rcases hcs with h1 | h1 | h1; omega; omega; exact h1
    subst hq0
    subst e1
    have hl := hr.1
    have hps := set_parts hok
    rw [hl] at hps hxn
    have hfull : true = decide ((order (tgts d.gl)).length = h.gl.n) := by rw [(set_is hok).2.2, hl]; simp
    have hn40 : h.gl.n ≤ 40 := by rw [← hl]; exact (set_is hok).1
    have hcd := Lib.hid (fun (W : World) (hB : Below w.heap.size w W) => depthsOf_any h.gl.A h.gl.n h.gl.c lo hi d.gl true hfull W (GsRc.rd (hr.frame good_glyphc (Below.sameB hB hhi))) (Nat.le_trans hhi hB.size) hn40 hps)
    replace e0 := Lib.hid e0
    replace hl := Lib.hid hl
    replace hq := Lib.hid hq
    clear hr hm hs hcs hok hps hfull
    go_enter Try.func67, Try.ntmps67
    go_wp2_with fail
    refine hc.out.mono ?_
    rintro e w1 ⟨rfl, hb1⟩
    have hB1 := hB0.trans (hb1.mono hB0.size)
    have k2 := (hb1.cell (p := ⟨w.heap.size, 1, none⟩) hz).trans k1
    have hz1 : w.heap.size < w1.heap.size := Nat.lt_of_lt_of_le hz hb1.size
    clear hc k1
    go_wp2_with fail
    refine (hcd.out _ hB1).mono ?_
    rintro e w2 ⟨A', m, c', rfl, hyes, hb2⟩
    obtain ⟨rfl, rfl, rfl, hdep⟩ := hyes rfl
    obtain ⟨c1, _, _⟩ := hdep.at (j := x0.toNat) (by omega)
    rw [show ((x0.toNat : Nat) : Int) = x0 by omega, ← e0.out] at c1
    have hX := hdep.lt
    clear hdep hyes
    go_wp2_with fail
    go_ret2
    exact ⟨rfl, hB1.trans (hb2.mono hB1.size)⟩
end Go.Proofs.Ytpjmpbdbfldnaaa
