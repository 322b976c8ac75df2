
import Derived.Deep.RegionHeld3
import Derived.Test.YtpjmpbdbfldnaaaGl
import Derived.Test.YtpjmpbdbfldnaaaAncAll
import Derived.Test.YtpjmpbdbfldnaaaTGlyphSet
/- A state of the hint machine in its box: thirteen cells. Conditions: none. -/
namespace Go.Proofs.Ytpjmpbdbfldnaaa
open Go.RowKit
set_option linter.unusedVariables false
set_option maxRecDepth 100000


def BoxS (w : World) (x : Nat) (d : GSet) (h : GSetH) : Prop := w.cell? ⟨x, 0, none⟩ = some (.int .i64 d.unit) ∧ w.cell? ⟨x, 1, none⟩ = some (.slice h.gl.A h.gl.n h.gl.c)
def BoxesS (w : World) (x y : Nat) (d : GSet) (h : GSetH) (d' : GSet) (h' : GSetH) : Prop := w.cell? ⟨x, 0, none⟩ = some (.int .i64 d.unit) ∧ w.cell? ⟨x, 1, none⟩ = some (.slice h.gl.A h.gl.n h.gl.c) ∧ w.cell? ⟨y, 0, none⟩ = some (.int .i64 d'.unit) ∧ w.cell? ⟨y, 1, none⟩ = some (.slice h'.gl.A h'.gl.n h'.gl.c)
theorem BoxS.below {w w' : World} {x B : Nat} {d : GSet} {h : GSetH} (s : BoxS w x d h) (hb : Below B w w') (hB : x + 1 ≤ B) : BoxS w' x d h := by
  obtain ⟨s0, s1⟩ := s
  exact ⟨(hb.cell (p := ⟨x, 0, none⟩) (by show _ < B; simp; omega)).trans s0, (hb.cell (p := ⟨x, 1, none⟩) (by show _ < B; simp; omega)).trans s1⟩
theorem BoxS.drew {w : World} {x : Nat} {d : GSet} {h : GSetH} (s : BoxS w x d h) : BoxS w.drew x d h := s
theorem BoxS.alloc {w : World} {x : Nat} {d : GSet} {h : GSetH} (s : BoxS w x d h) (hx : x < w.heap.size) (o : Obj) : BoxS (w.alloc o) x d h :=
  s.below (Go.Joins.below_alloc1 w o) hx
theorem BoxS.two {w : World} {x y : Nat} {d : GSet} {h : GSetH} {d' : GSet} {h' : GSetH} (s : BoxS w x d h) (t : BoxS w y d' h') : BoxesS w x y d h d' h' := by
  obtain ⟨s0, s1⟩ := s
  obtain ⟨t0, t1⟩ := t
  exact ⟨s0, s1, t0, t1⟩
theorem boxS_new {w : World} {d : GSet} {h : GSetH} {x : Nat} {t : TypeId} {cs : Array Value} (hx : w.heap[x]? = some (.cells cs t (0, 0))) (hc : cs = #[.int .i64 d.unit, .slice h.gl.A h.gl.n h.gl.c]) : BoxS w x d h := by
  subst hc
  exact ⟨by rw [Go.Joins.cell_of_block hx]; rfl, by rw [Go.Joins.cell_of_block hx]; rfl⟩

end Go.Proofs.Ytpjmpbdbfldnaaa

/- The law FnExactAnchorOf: its walk. Conditions: as it states. -/
namespace Go.Proofs.Ytpjmpbdbfldnaaa
open Go.RowKit
set_option linter.unusedVariables false

theorem bS_newA (w : World) (d : GSet) (h : GSetH) (t : TypeId) : BoxS (w.alloc (.cells #[.int .i64 d.unit, .slice h.gl.A h.gl.n h.gl.c] t (0, 0))) w.heap.size d h := boxS_new (heap_alloc_new w _) rfl

theorem eqPtA_any (x0 : Int) (x1 : Int) (w : World) :
    Calls Try.prog 72 #[.agg #[.int .i64 x0, .int .i64 x1], .agg #[.int .i64 x0, .int .i64 x1]] w fun e w' => e = .returned (.bool true) ∧ Below w.heap.size w w' := by
  go_enter Try.func72, Try.ntmps72
  go_wp2
  go_ret
  exact ⟨rfl, Go.Joins.below_alloc2 _ _ _⟩

set_option maxHeartbeats 8000000 in
theorem lawAnchorOf_walk (d : GSet) (h : GSetH) (x0 : Int) (nm : ByteArray) {w : World} (hr : GSetRd w 0 w.heap.size d h) (hm : d.small maxLen) (hst : ∀ g ∈ d.gl, g.str) (wx0 : (Lit.int .i64 x0).wf = true) (wnm : nm.size ≤ maxLen) :
    Calls Try.prog 16 #[gsV d h, .int .i64 x0, .string nm] w fun e w' => e = .returned (.bool true) ∧ Below w.heap.size w w' := by
  obtain ⟨r0, r1, r2, hb⟩ : ∃ (r0 : Int) (r1 : Int) (r2 : Int), (r0, r1, r2) = ancR d x0 nm := ⟨_, _, _, rfl⟩
  replace hb := Lib.hid hb
  replace hr := Lib.hid hr
  replace hm := Lib.hid hm
  unfold maxLen at wnm
  by_cases hznm : (1048576 : Int) < (nm.size : Int)
  · go_enter Try.func16, Try.ntmps16
    go_wp2_with fail
    go_ret
    exact ⟨rfl, by first | exact Below.refl _ _ | exact Go.Joins.below_alloc1 _ _ | exact Go.Joins.below_alloc2 _ _ _⟩
  replace hst := Lib.hid hst
  have hs0 := Lib.hid (bS_newA w d h 79)
  go_enter Try.func16, Try.ntmps16
  go_wp2_with fail
  refine (szGlyphSet_any d h 1048576 0 w.heap.size _ (hr.out.frame good_glyph (Below.sameB (Go.Joins.below_alloc1 _ _) (Nat.le_refl _))) (Go.Joins.below_alloc1 _ _).size hm.out hst.out (by omega) (by omega)).mono ?_
  rintro e w1 ⟨rz, rfl, hrz, hb1⟩
  have hz1 := hb1.size
  simp at hz1
  have hB1 : Below w.heap.size w w1 := (Go.Joins.below_alloc1 _ _).trans (hb1.mono (by first | omega | (simp <;> omega)))
  have hs1 := Lib.hid (hs0.out.below hb1 (by first | omega | (simp <;> omega)))
  clear hs0 hb1
  rcases hrz with hn1 | ⟨hn1, hl1, hm1⟩
  · clear hs1
    go_wp2_with fail
    go_ret
    exact ⟨rfl, hB1⟩
  replace hm1 := Lib.hid hm1
  have hya : w.heap.size < w1.heap.size := by omega
  clear hl1
  obtain ⟨s0, s1⟩ := hs1.out
  go_wp2_with fail
  refine (toGlyphSet_any d h 0 w.heap.size _ (hr.out.frame good_glyph (Below.sameB hB1 (Nat.le_refl _))) hB1.size hm1.out).mono ?_
  rintro e w2 ⟨k2, rfl, rd2, hb2⟩
  have hB2 := hB1.trans (hb2.mono hB1.size)
  have hyb : w.heap.size < w2.heap.size := Nat.lt_of_lt_of_le hya hb2.size
  have hs2 := Lib.hid (hs1.out.below hb2 (by first | omega | (simp <;> omega)))
  clear s0 s1 hs1 hb2
  replace rd2 := Lib.hid rd2
  go_wp2_with fail
  refine (specAnchorOf_any d k2 x0 nm r0 r1 r2 hb.out _ _ _ (GsRc.rd rd2.out) (Nat.le_refl _) (hm1.out.mono (by omega)) hst.out).mono ?_
  rintro e w5 ⟨rfl, hb5⟩
  have hB5 := hB2.trans (hb5.mono hB2.size)
  have hyc : w.heap.size < w5.heap.size := Nat.lt_of_lt_of_le hyb hb5.size
  have hs5 := Lib.hid (hs2.out.below hb5 (by first | omega | (simp <;> omega)))
  clear hs2 hb5 rd2
  obtain ⟨s0, s1⟩ := hs5.out
  obtain ⟨V5, hV5⟩ : ∃ V5, V5 = w5.alloc (.cells #[.int .i64 r0, .int .i64 r1] 29 (0, 0)) := ⟨_, rfl⟩
  have hbA : Below w5.heap.size w5 V5 := by rw [hV5]; exact Go.Joins.below_alloc1 _ _
  have hpx := Lib.hid (show Box2 V5 w5.heap.size r0 r1 by rw [hV5]; exact Box2.of (heap_alloc_new _ _))
  have hBV := hB5.trans (hbA.mono hB5.size)
  have hsV := Lib.hid (hs5.out.below hbA (by first | omega | (simp <;> omega)))
  have hyv : w.heap.size < V5.heap.size := Nat.lt_of_lt_of_le hyc hbA.size
  go_wp2_with fail
  rw [← hV5]
  refine (toGlyphSet_any d h 0 w.heap.size _ (hr.out.frame good_glyph (Below.sameB hBV (Nat.le_refl _))) hBV.size hm1.out).mono ?_
  rintro e w6 ⟨k6, rfl, rd6, hb6⟩
  have hB6 := hBV.trans (hb6.mono hBV.size)
  have hyd : w.heap.size < w6.heap.size := Nat.lt_of_lt_of_le hyv hb6.size
  have hs6 := Lib.hid (hsV.out.below hb6 (by first | omega | (simp <;> omega)))
  have hp6 := hpx.out.keep (hb6.block _ hpx.out.lt) hb6.size
  have hq6 : w5.heap.size < w6.heap.size := hp6.lt
  replace hV5 := Lib.hid hV5
  replace hp6 := Lib.hid hp6
  clear s0 s1 hs5 hb6 hsV hbA
  replace rd6 := Lib.hid rd6
  go_wp2_with fail
  refine (implAnchorOf_any d k6 x0 nm r0 r1 r2 hb.out _ _ _ (rd6.out.frame good_glyphc (SameB.alloc (SameB.refl _ _ _) (Nat.le_refl _) _)) (by simp) (hm1.out.mono (by omega)) hst.out).mono ?_
  rintro e w7 ⟨rfl, hb7⟩
  have g67 : w6.heap.size < w7.heap.size := by have := hb7.size; simp at this; omega
  have hB7 : Below w.heap.size w w7 := (hB6.alloc hB6.size _).trans (hb7.mono (by simp; exact Nat.le_succ_of_le hB6.size))
  have hs7 := Lib.hid ((hs6.out.alloc (by omega) _).below hb7 (by first | omega | (simp <;> omega)))
  have hx7 := Lib.hid (boxS_new (d := d) (h := k6) ((hb7.block _ (by simp)).trans (heap_alloc_new w6 _)) rfl)
  have hp7 : Box2 w7 w5.heap.size r0 r1 := hp6.out.keep ((hb7.block _ (by simp; omega)).trans ((Go.Joins.below_alloc1 w6 _).block _ hq6)) (by omega)
  replace rd6 := Lib.hid (rd6.out.frame good_glyphc ((SameB.alloc (SameB.refl _ _ _) (Nat.le_refl _) _).trans (Below.sameB hb7 (by simp))))
  have hye7 : w.heap.size < w7.heap.size := by omega
  clear hs6 hb7
  obtain ⟨p0, p1, _, p3⟩ := hp7
  go_wp2_with fail
  refine (eqPtA_any _ _ _).mono ?_
  rintro e w8 ⟨rfl, hb8⟩
  clear p0 p1 p3
  have g78 : w7.heap.size < w8.heap.size := by have := hb8.size; simp at this; omega
  have g68 : w6.heap.size < w8.heap.size := by omega
  have hB8 : Below w.heap.size w w8 := (hB7.alloc hB7.size _).trans (hb8.mono (by simp; exact Nat.le_succ_of_le hB7.size))
  have hs8 := Lib.hid ((hs7.out.alloc (by omega) _).below hb8 (by first | omega | (simp <;> omega)))
  have hx8 := Lib.hid ((hx7.out.alloc (by omega) _).below hb8 (by first | omega | (simp <;> omega)))
  replace rd6 := Lib.hid (rd6.out.frame good_glyphc ((SameB.alloc (SameB.refl _ _ _) (Nat.le_of_lt g67) _).trans (Below.sameB hb8 (by simp; omega))))
  have hye : w.heap.size < w8.heap.size := by omega
  clear hs7 hx7 hb8
  go_wp2_with fail
  go_region_held3 (fun w' => w'.cell? ⟨w6.heap.size, 0, none⟩ = some (.int .i64 d.unit) ∧ w'.cell? ⟨w6.heap.size, 1, none⟩ = some (.slice k6.gl.A k6.gl.n k6.gl.c) ∧ w'.cell? ⟨w.heap.size, 0, none⟩ = some (.int .i64 d.unit) ∧ w'.cell? ⟨w.heap.size, 1, none⟩ = some (.slice h.gl.A h.gl.n h.gl.c)) (first | exact (hx8.out.two hs8.out) | exact (hx9.out.two hs9.out) | exact (hx10.out.two hs10.out))
    (first | (go_at_call 57; (with_reducible refine (toGlyphSet_any d h 0 w.heap.size _ ?_ ?_ hm1.out).mono ?_); exact (hr.out.frame good_glyph (Below.sameB hB8.drew (Nat.le_refl _))); exact hB8.size; rintro e w9 ⟨k9, rfl, rd9, hb9⟩; have hB9 := hB8.drew.trans (hb9.mono hB8.size); have hz9 : w8.heap.size ≤ w9.heap.size := hb9.size; have hs9 := Lib.hid (hs8.out.drew.below hb9 (by first | omega | (simp <;> omega))); have hx9 := Lib.hid (hx8.out.drew.below hb9 (by first | omega | (simp <;> omega))); replace rd6 := Lib.hid (rd6.out.frame good_glyphc ((SameB.refl _ _ w8).drew.trans (Below.sameB hb9 (by show _ ≤ w8.heap.size; omega)))); replace rd9 := Lib.hid rd9; clear hb9) | (go_at_call 59; (with_reducible refine (eqGlyphSet_any d k6 k9 _ _ _ _ _ (GsRc.rd rd6.out) (GsRc.rd rd9.out) ?_ ?_ ?_).mono ?_); (omega); (exact Nat.le_refl _); exact hm1.out.mono (by omega); rintro e w10 ⟨rfl, hb10⟩; have hB10 := hB9.trans (hb10.mono hB9.size); have hz10 : w9.heap.size ≤ w10.heap.size := hb10.size; have hs10 := Lib.hid (hs9.out.below hb10 (by first | omega | (simp <;> omega))); have hx10 := Lib.hid (hx9.out.below hb10 (by first | omega | (simp <;> omega))); clear hb10))
  go_wp2_with fail
  go_ret
  exact ⟨rfl, hB10⟩
end Go.Proofs.Ytpjmpbdbfldnaaa

