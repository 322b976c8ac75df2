/- The number of loops of a glyph: the program's side. Conditions: as each states. -/
import Derived.Test.YtpjmpbdbfldnaaaLcJ
namespace Go.Proofs.Ytpjmpbdbfldnaaa
open Go.RowKit Go.Maps
set_option linter.unusedVariables false
set_option maxRecDepth 100000

theorem ord_at {L : List Gl} (hfull : (order (tgts L)).length = L.length) {x : Int} (h0 : 0 ≤ x) (h1 : x < L.length) : ∃ t : Nat, (order (tgts L))[t]? = some x := by
  have := (order_ord (tgts L)).mem_of_full (by rw [hfull, tgts_length]) (i := x.toNat) (by rw [tgts_length]; omega)
  rw [show ((x.toNat : Nat) : Int) = x by omega] at this
  exact List.getElem?_of_mem this
theorem set_loops {d : GSet} (h : setOk d = true) : ∀ g ∈ d.gl, g.out.length ≤ 12 ∧ g.parts.length ≤ 6 := fun g hg => by
  have h1 := glyph_is ((set_is h).2.1 g hg)
  have h2 := h1.1
  simp [outOk] at h2
  exact ⟨h2.2, h1.2.1⟩

set_option maxHeartbeats 2000000 in
theorem implLoopCount_any (d : GSet) (h : GSetH) (x0 : Int) (r0 r1 : Int) (heq : (r0, r1) = cntR d x0) (lo hi : Nat) (w : World) (hr : GSetRc w lo hi d h) (hhi : hi ≤ w.heap.size) (hm : d.small 1000000000) (hs : ∀ g ∈ d.gl, g.str) :
    Calls Try.prog 69 #[gsV d h, .int .i64 x0] w fun e w' => e = .returned (.tuple #[.int .i64 r0, .int .i64 r1]) ∧ Below w.heap.size w w' := by
  have hB0 : Below w.heap.size w (w.alloc (.cells #[.int .i64 d.unit, .slice h.gl.A h.gl.n h.gl.c] 84 (0, 0))) := Go.Joins.below_alloc1 _ _
  have k0 : (w.alloc (.cells #[.int .i64 d.unit, .slice h.gl.A h.gl.n h.gl.c] 84 (0, 0))).cell? ⟨w.heap.size, 0, none⟩ = some (.int .i64 d.unit) := by rw [Go.Joins.cell_of_block (heap_alloc_new w _)]; rfl
  have k1 : (w.alloc (.cells #[.int .i64 d.unit, .slice h.gl.A h.gl.n h.gl.c] 84 (0, 0))).cell? ⟨w.heap.size, 1, none⟩ = some (.slice h.gl.A h.gl.n h.gl.c) := by rw [Go.Joins.cell_of_block (heap_alloc_new w _)]; rfl
  have hz : w.heap.size < (w.alloc (.cells #[.int .i64 d.unit, .slice h.gl.A h.gl.n h.gl.c] 84 (0, 0))).heap.size := by simp
  obtain ⟨q, hq⟩ : ∃ q, q = askR d x0 := ⟨_, rfl⟩
  have hc := Lib.hid (checkGlyph_any d h x0 q hq lo hi (w.alloc (.cells #[.int .i64 d.unit, .slice h.gl.A h.gl.n h.gl.c] 84 (0, 0))) (hr.frame good_glyphc (Below.sameB hB0 hhi)) (Nat.le_trans hhi hB0.size) hm hs)
  have hcs := ask_cases d x0
  unfold cntR at heq
  rw [← hq] at hcs heq
  injection heq with e0 e1
  by_cases hq0 : q = 0
  rotate_left
  · rw [if_neg hq0] at e0
    subst e0 e1
    have hq1 : r1 = 1 ∨ r1 = 2 := by omega
    replace hq := Lib.hid hq
    clear hr hm hs hcs k1 hq0
    rcases hq1 with rfl | rfl
    all_goals
      go_enter Try.func69, Try.ntmps69
      go_wp2_with fail
      refine hc.out.mono ?_
      rintro e w1 ⟨rfl, hb1⟩
      go_wp2_with fail
      go_ret2
      exact ⟨rfl, hB0.trans (hb1.mono hB0.size)⟩
  · rw [if_pos hq0] at e0
    obtain ⟨_, hok, hx0, hxn⟩ : q = 0 ∧ setOk d = true ∧ 0 ≤ x0 ∧ x0 < d.gl.length := by rcases hcs with h1 | h1 | h1; omega; omega; exact h1
    subst hq0
    subst e1
    have hl := hr.1
    obtain ⟨t, ht⟩ := ord_at (set_is hok).2.2 hx0 hxn
    have hn40 : h.gl.n ≤ 40 := by rw [← hl]; exact (set_is hok).1
    have hcc := Lib.hid (fun (W : World) (hB : Below w.heap.size w W) => loopCount_any d.unit h.gl.A h.gl.n h.gl.c lo hi W.heap.size d.gl (order (tgts d.gl)) (order_ord _) hl hn40 (set_loops hok) (Nat.le_trans hhi hB.size) t x0 (fun _ => none) (W.alloc (.map #[] 0)) ht ((MapF.made intE W Try.prog 2).mono (by omega)) (MemOk.none _ _) ((GsRc.rd (hr.frame good_glyphc (Below.sameB hB hhi))).frame good_glyph (SameB.alloc (SameB.refl _ _ _) (Nat.le_trans hhi hB.size) _)) (by simp; have := hB.size; omega))
    have hmm := fun (t : TypeId) (W : World) => run_makeMap (P := Try.prog) t W
    replace e0 := Lib.hid e0
    replace hl := Lib.hid hl
    replace hq := Lib.hid hq
    replace ht := Lib.hid ht
    clear hr hm hs hcs hok
    go_enter Try.func69, Try.ntmps69
    go_wp2_with fail
    refine hc.out.mono ?_
    rintro e w1 ⟨rfl, hb1⟩
    have hB1 := hB0.trans (hb1.mono hB0.size)
    have j0 := (hb1.cell (p := ⟨w.heap.size, 0, none⟩) hz).trans k0
    have j1 := (hb1.cell (p := ⟨w.heap.size, 1, none⟩) hz).trans k1
    have hz1 : w.heap.size < w1.heap.size := Nat.lt_of_lt_of_le hz hb1.size
    clear hc k0 k1
    go_wp2_with fail
    refine (hcc.out _ hB1).mono ?_
    rintro e w2 ⟨f2, rfl, _, _, hg2⟩
    have hB2 : Below w.heap.size w w2 := (hB1.alloc hB1.size _).grown hg2 (by simp; have := hB1.size; omega) (fun j hj => by cases hj; exact hB1.size)
    rw [← e0.out]
    go_wp2_with fail
    go_ret2
    exact ⟨rfl, hB2⟩
end Go.Proofs.Ytpjmpbdbfldnaaa
