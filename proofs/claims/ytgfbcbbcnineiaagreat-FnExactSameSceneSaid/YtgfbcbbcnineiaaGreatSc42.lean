/- A scene: its datum, how it lies in memory, opened, counted. Printed by mk_scene.py. Conditions: as each states. -/
import Derived.Test.YtgfbcbbcnineiaaGreatSc35
import Derived.Test.YtgfbcbbcnineiaaGreatSc41
namespace Go.Proofs.YtgfbcbbcnineiaaGreat
open Go.RowKit Go.ChangeShapes Go.WideShapes Go.Deep
set_option linter.unusedVariables false
set_option maxRecDepth 100000

structure ScD where
  rows : List RowD
  pens : List NamedPenD
  paths : List NamedPathD
  set : GSet
  isOpen : Bool
  now : Gl
  shape : List (List (Int × Int))
  deriving DecidableEq
structure ScH where
  rows : Hd
  pens : Hd
  paths : Hd
  set : GSetH
  now : GlH
  shape : Hd
def scC (d : ScD) (h : ScH) : List Value := [.slice h.rows.A h.rows.n h.rows.c, .slice h.pens.A h.pens.n h.pens.c, .slice h.paths.A h.paths.n h.paths.c, .int .i64 d.set.unit, .slice h.set.gl.A h.set.gl.n h.set.gl.c, .bool d.isOpen, .string d.now.name, .int .i64 d.now.code, .int .i64 d.now.adv, .slice h.now.out.A h.now.out.n h.now.out.c, .slice h.now.parts.A h.now.parts.n h.now.parts.c, .slice h.now.anchors.A h.now.anchors.n h.now.anchors.c, .string d.now.hints, .slice h.shape.A h.shape.n h.shape.c]
abbrev scV (d : ScD) (h : ScH) : Value := .agg #[.slice h.rows.A h.rows.n h.rows.c, .slice h.pens.A h.pens.n h.pens.c, .slice h.paths.A h.paths.n h.paths.c, .int .i64 d.set.unit, .slice h.set.gl.A h.set.gl.n h.set.gl.c, .bool d.isOpen, .string d.now.name, .int .i64 d.now.code, .int .i64 d.now.adv, .slice h.now.out.A h.now.out.n h.now.out.c, .slice h.now.parts.A h.now.parts.n h.now.parts.c, .slice h.now.anchors.A h.now.anchors.n h.now.anchors.c, .string d.now.hints, .slice h.shape.A h.shape.n h.shape.c]
def ScRd (w : World) (lo hi : Nat) (d : ScD) (h : ScH) : Prop := rowsRd w lo hi h.rows.A h.rows.n d.rows ∧ pensRd w lo hi h.pens.A h.pens.n d.pens ∧ npathsRd w lo hi h.paths.A h.paths.n d.paths ∧ GSetRd w lo hi d.set h.set ∧ GlRd w lo hi d.now h.now ∧ RegRd w lo hi h.shape.A h.shape.n d.shape
theorem ScRd.frame {w w' : World} {lo hi : Nat} {d : ScD} {h : ScH} (r : ScRd w lo hi d h) (s : SameB lo hi w w') : ScRd w' lo hi d h := ⟨(r.1).frame good_row s, (r.2.1).frame good_pen s, (r.2.2.1).frame good_npath s, (r.2.2.2.1).frame good_glyph s, (r.2.2.2.2.1).frame s, (r.2.2.2.2.2).frame good_ring s⟩
theorem ScRd.wide {w : World} {lo hi lo' hi' : Nat} {d : ScD} {h : ScH} (r : ScRd w lo hi d h) (h1 : lo' ≤ lo) (h2 : hi ≤ hi') : ScRd w lo' hi' d h := ⟨(r.1).wide good_row h1 h2, (r.2.1).wide good_pen h1 h2, (r.2.2.1).wide good_npath h1 h2, (r.2.2.2.1).wide good_glyph h1 h2, (r.2.2.2.2.1).wide h1 h2, (r.2.2.2.2.2).wide good_ring h1 h2⟩
structure ScD.small (d : ScD) (b : Nat) : Prop where
  rows : SmL rowLen b d.rows
  pens : SmL penLen b d.pens
  paths : SmL pathLen b d.paths
  set : d.set.small b
  now : d.now.small b
  shape : SmL ringLen b d.shape
theorem ScD.small.mono {d : ScD} {a b : Nat} (h : d.small a) (hab : a ≤ b) : d.small b := ⟨h.rows.mono hab, h.pens.mono hab, h.paths.mono hab, h.set.mono hab, h.now.mono hab, h.shape.mono hab⟩
/-- its texts can be read -/
structure ScD.str (d : ScD) : Prop where
  rows : ∀ g ∈ d.rows, g.str
  pens : ∀ g ∈ d.pens, g.str
  paths : ∀ g ∈ d.paths, g.str
  set : ∀ g ∈ d.set.gl, g.str
  now : d.now.str

theorem regRd_small {w : World} {lo hi : Nat} {A : Option Addr} {n : Nat} {Ls : List (List (Int × Int))} (h : RegRd w lo hi A n Ls) : ∀ K ∈ Ls, K.length ≤ maxLen := fun K hK => by
  obtain ⟨j, hj⟩ := List.getElem?_of_mem hK
  have hjl := (List.getElem?_eq_some_iff.1 hj).1
  obtain ⟨b, off, K', A', n', c', _, _, _, hj', _, hm, hr⟩ := reg_at h (j := j) (by rw [← h.1]; exact hjl)
  have e := Option.some.inj (hj.symm.trans hj')
  subst e
  rw [hr.1]; exact hm
theorem opens_Scene {H : Type} {enc : TypeId × Value → H} {w : World} {fuel : Nat} {cs : List Value} {x : DataW H × List MemPlace} (h : DataW.trod enc Tryz.prog w 0 (fun _ => true) true fuel 41 cs = some x) :
    ∃ d hh, cs = scC d hh ∧ ScRd w 0 w.heap.size d hh ∧ d.small maxLen ∧ d.str := by
  obtain ⟨hl, hf⟩ := struct_fields Tryz.underlying41 h
  have hc : Tryz.prog.cellsOf 41 = 14 := by kernel_rfl
  have k0 : Tryz.prog.cellsOf 24 = 1 := by kernel_rfl
  have k1 : Tryz.prog.cellsOf 25 = 1 := by kernel_rfl
  have k2 : Tryz.prog.cellsOf 26 = 1 := by kernel_rfl
  have k3 : Tryz.prog.cellsOf 29 = 2 := by kernel_rfl
  have k4 : Tryz.prog.cellsOf 4 = 1 := by kernel_rfl
  have k5 : Tryz.prog.cellsOf 36 = 7 := by kernel_rfl
  have k6 : Tryz.prog.cellsOf 39 = 1 := by kernel_rfl
  have k7 : Tryz.prog.cellsOf 22 = 1 := by kernel_rfl
  have l0 : Tryz.prog.cellsOf 150 = 4 := by kernel_rfl
  have l1 : Tryz.prog.cellsOf 102 = 2 := by kernel_rfl
  have l2 : Tryz.prog.cellsOf 105 = 3 := by kernel_rfl
  rw [hc] at hl
  match cs, hl with
  | [c0, c1, c2, c3, c4, c5, c6, c7, c8, c9, c10, c11, c12, c13], _ =>
    obtain ⟨n0, y0, h0⟩ := struct_field hf 0 24 0 1 rfl rfl rfl k0
    obtain ⟨n1, y1, h1⟩ := struct_field hf 1 25 1 1 rfl rfl rfl k1
    obtain ⟨n2, y2, h2⟩ := struct_field hf 2 26 2 1 rfl rfl rfl k2
    obtain ⟨n3, y3, h3⟩ := struct_field hf 3 29 3 2 rfl rfl rfl k3
    obtain ⟨n4, y4, h4⟩ := struct_field hf 4 4 5 1 rfl rfl rfl k4
    obtain ⟨n5, y5, h5⟩ := struct_field hf 5 36 6 7 rfl rfl rfl k5
    obtain ⟨n6, y6, h6⟩ := struct_field hf 6 39 13 1 rfl rfl rfl k6
    obtain ⟨hl0, hf0⟩ := struct_fields Tryz.underlying24 h0
    obtain ⟨n7, y7, h7⟩ := struct_field hf0 0 22 0 1 rfl rfl rfl k7
    obtain ⟨x0, A0, m0, j0, e0, b0, r0⟩ := opens_slice Tryz.underlying22 l0 (by omega) opens_lRow (good_and good_row _) h7
    obtain ⟨r0, s0⟩ := r0.parted
    obtain ⟨x1, A1, m1, j1, e1, b1, r1⟩ := opens_slice Tryz.underlying25 l1 (by omega) opens_lNamedPen (good_and good_pen _) h1
    obtain ⟨r1, s1⟩ := r1.parted
    obtain ⟨x2, A2, m2, j2, e2, b2, r2⟩ := opens_slice Tryz.underlying26 l2 (by omega) opens_lNamedPath (good_and good_npath _) h2
    obtain ⟨r2, s2⟩ := r2.parted
    obtain ⟨x3, H3, e3, r3, b3, s3⟩ := opens_GlyphSet h3
    obtain ⟨x4, e4⟩ := opens_bool Tryz.underlying4 h4
    obtain ⟨x5, H5, e5, r5, b5, s5⟩ := opens_Glyph h5
    obtain ⟨A6, m6, j6, x6, e6, r6, b6⟩ := opens_Region h6
    simp [FlatR, gsC, glC] at e0 e1 e2 e3 e4 e5 e6
    obtain ⟨e30, e31⟩ := e3
    obtain ⟨e50, e51, e52, e53, e54, e55, e56⟩ := e5
    subst e0 e1 e2 e30 e31 e4 e50 e51 e52 e53 e54 e55 e56 e6
    refine ⟨⟨x0, x1, x2, x3, x4, x5, x6⟩, ⟨⟨A0, m0, j0⟩, ⟨A1, m1, j1⟩, ⟨A2, m2, j2⟩, H3, H5, ⟨A6, m6, j6⟩⟩, rfl, ⟨r0, r1, r2, r3, r5, r6⟩, ⟨⟨?_, fun g hg => (s0 g hg).2.1⟩, ⟨?_, fun g hg => (s1 g hg).2⟩, ⟨?_, fun g hg => (s2 g hg).2⟩, b3, b5, ⟨?_, ?_⟩⟩, ⟨s0, s1, s2, s3, s5⟩⟩
    · show x0.length ≤ maxLen; rw [r0.1]; exact b0
    · show x1.length ≤ maxLen; rw [r1.1]; exact b1
    · show x2.length ≤ maxLen; rw [r2.1]; exact b2
    · show x6.length ≤ maxLen; rw [r6.1]; exact b6
    · exact regRd_small r6

theorem regSize_k {Ls : List (List (Int × Int))} {K : List (Int × Int)} (h : K ∈ Ls) : K.length ≤ regSize Ls := by
  have := sum_mem_le (List.mem_map_of_mem (f := List.length) h)
  unfold regSize; omega
set_option maxHeartbeats 4000000 in
theorem szScene_any (d : ScD) (h : ScH) (left : Int) (lo hi : Nat) (w : World) (hr : ScRd w lo hi d h) (hhi : hi ≤ w.heap.size) (hm : d.small maxLen) (hs : d.str) (h0 : 0 ≤ left) (h1 : left ≤ 1048576) :
    Calls Tryz.prog 4 #[scV d h, .int .i64 left] w fun e w' => ∃ r : Int, e = .returned (.int .i64 r) ∧ (r < 0 ∨ (0 ≤ r ∧ r ≤ left ∧ d.small 1048576)) ∧ Below w.heap.size w w' := by
  obtain ⟨r0, r1, r2, r3, r4, r5⟩ := hr
  have m0 : h.rows.n ≤ 9223372036854775807 := by have := hm.rows.1; unfold maxLen at this; rw [← r0.1]; exact this
  have m1 : h.pens.n ≤ 9223372036854775807 := by have := hm.pens.1; unfold maxLen at this; rw [← r1.1]; exact this
  have m2 : h.paths.n ≤ 9223372036854775807 := by have := hm.paths.1; unfold maxLen at this; rw [← r2.1]; exact this
  have m5 : h.shape.n ≤ 9223372036854775807 := by have := hm.shape.1; unfold maxLen at this; rw [← r5.1]; exact this
  have l1 := Lib.hid r1.1
  have l2 := Lib.hid r2.1
  replace r0 := Lib.hid r0
  replace r1 := Lib.hid r1
  replace r2 := Lib.hid r2
  replace r3 := Lib.hid r3
  replace r4 := Lib.hid r4
  replace r5 := Lib.hid r5
  replace hs := Lib.hid hs
  replace hm := Lib.hid hm
  have hB0 := Go.Joins.below_alloc1 w (.cells #[.slice h.rows.A h.rows.n h.rows.c, .slice h.pens.A h.pens.n h.pens.c, .slice h.paths.A h.paths.n h.paths.c, .int .i64 d.set.unit, .slice h.set.gl.A h.set.gl.n h.set.gl.c, .bool d.isOpen, .string d.now.name, .int .i64 d.now.code, .int .i64 d.now.adv, .slice h.now.out.A h.now.out.n h.now.out.c, .slice h.now.parts.A h.now.parts.n h.now.parts.c, .slice h.now.anchors.A h.now.anchors.n h.now.anchors.c, .string d.now.hints, .slice h.shape.A h.shape.n h.shape.c] 41 (0, 0))
  have hX0 := Lib.hid (heap_alloc_new w (.cells #[.slice h.rows.A h.rows.n h.rows.c, .slice h.pens.A h.pens.n h.pens.c, .slice h.paths.A h.paths.n h.paths.c, .int .i64 d.set.unit, .slice h.set.gl.A h.set.gl.n h.set.gl.c, .bool d.isOpen, .string d.now.name, .int .i64 d.now.code, .int .i64 d.now.adv, .slice h.now.out.A h.now.out.n h.now.out.c, .slice h.now.parts.A h.now.parts.n h.now.parts.c, .slice h.now.anchors.A h.now.anchors.n h.now.anchors.c, .string d.now.hints, .slice h.shape.A h.shape.n h.shape.c] 41 (0, 0)))
  go_enter Tryz.func4, Tryz.ntmps4
  go_wp2_with fail
  refine (szSystem_any h.rows lo hi d.rows left _ (r0.out.frame good_row (Below.sameB hB0 hhi)) (by simp; omega) hs.out.rows m0 h0 h1).mono ?_
  rintro e w1 ⟨q0, rfl, t0, hb1⟩
  have hB1 := hB0.trans (hb1.mono hB0.size)
  have hz1 := hB1.size
  rcases t0 with t0 | ⟨u0, v0, o0⟩
  · clear hb1
    go_wp2_with fail
    go_ret
    exact ⟨_, rfl, .inl (by omega), hB1⟩
  replace o0 := Lib.hid o0
  have hX1 := Lib.hid ((hb1.block w.heap.size (by simp)).trans hX0.out)
  have hbx : w.heap.size < w1.heap.size := (Array.getElem?_eq_some_iff.1 hX1.out).1
  have cx1 : w1.cell? ⟨w.heap.size, 1, none⟩ = some (.slice h.pens.A h.pens.n h.pens.c) := by rw [Go.Joins.cell_of_block hX1.out]; rfl
  clear hb1 hX0
  go_wp2_with fail
  refine (szNamedPenS_any _ _ _ lo hi d.pens q0 _ (r1.out.frame good_pen (Below.sameB hB1 hhi)) (by omega) hs.out.pens m1 (by omega) (by omega)).mono ?_
  rintro e w2 ⟨q1, rfl, t1, hb2⟩
  have hB2 := hB1.trans (hb2.mono hB1.size)
  have hz2 := hB2.size
  rcases t1 with t1 | ⟨u1, v1, o1, p1⟩
  · clear hb2
    go_wp2_with fail
    go_ret
    exact ⟨_, rfl, .inl (by omega), hB2⟩
  replace p1 := Lib.hid p1
  have hX2 := Lib.hid ((hb2.block w.heap.size (by omega)).trans hX1.out)
  replace hbx : w.heap.size < w2.heap.size := (Array.getElem?_eq_some_iff.1 hX2.out).1
  have cx2 : w2.cell? ⟨w.heap.size, 2, none⟩ = some (.slice h.paths.A h.paths.n h.paths.c) := by rw [Go.Joins.cell_of_block hX2.out]; rfl
  clear hb2 hX1
  go_wp2_with fail
  refine (szNamedPathS_any _ _ _ lo hi d.paths q1 _ (r2.out.frame good_npath (Below.sameB hB2 hhi)) (by omega) hs.out.paths m2 (by omega) (by omega)).mono ?_
  rintro e w3 ⟨q2, rfl, t2, hb3⟩
  have hB3 := hB2.trans (hb3.mono hB2.size)
  have hz3 := hB3.size
  rcases t2 with t2 | ⟨u2, v2, o2, p2⟩
  · clear hb3
    go_wp2_with fail
    go_ret
    exact ⟨_, rfl, .inl (by omega), hB3⟩
  replace p2 := Lib.hid p2
  have hX3 := Lib.hid ((hb3.block w.heap.size (by omega)).trans hX2.out)
  replace hbx : w.heap.size < w3.heap.size := (Array.getElem?_eq_some_iff.1 hX3.out).1
  have cx3 : w3.cell? ⟨w.heap.size, 3, none⟩ = some (.int .i64 d.set.unit) := by rw [Go.Joins.cell_of_block hX3.out]; rfl
  have cx4 : w3.cell? ⟨w.heap.size, 4, none⟩ = some (.slice h.set.gl.A h.set.gl.n h.set.gl.c) := by rw [Go.Joins.cell_of_block hX3.out]; rfl
  clear hb3 hX2
  go_wp2_with fail
  refine (szGlyphSet_any d.set h.set q2 lo hi _ (r3.out.frame good_glyph (Below.sameB hB3 hhi)) (by omega) hm.out.set hs.out.set (by omega) (by omega)).mono ?_
  rintro e w4 ⟨q3, rfl, t3, hb4⟩
  have hB4 := hB3.trans (hb4.mono hB3.size)
  have hz4 := hB4.size
  rcases t3 with t3 | ⟨u3, v3, o3⟩
  · clear hb4
    go_wp2_with fail
    go_ret
    exact ⟨_, rfl, .inl (by omega), hB4⟩
  replace o3 := Lib.hid o3
  have hX4 := Lib.hid ((hb4.block w.heap.size (by omega)).trans hX3.out)
  replace hbx : w.heap.size < w4.heap.size := (Array.getElem?_eq_some_iff.1 hX4.out).1
  have cx6 : w4.cell? ⟨w.heap.size, 6, none⟩ = some (.string d.now.name) := by rw [Go.Joins.cell_of_block hX4.out]; rfl
  have cx7 : w4.cell? ⟨w.heap.size, 7, none⟩ = some (.int .i64 d.now.code) := by rw [Go.Joins.cell_of_block hX4.out]; rfl
  have cx8 : w4.cell? ⟨w.heap.size, 8, none⟩ = some (.int .i64 d.now.adv) := by rw [Go.Joins.cell_of_block hX4.out]; rfl
  have cx9 : w4.cell? ⟨w.heap.size, 9, none⟩ = some (.slice h.now.out.A h.now.out.n h.now.out.c) := by rw [Go.Joins.cell_of_block hX4.out]; rfl
  have cx10 : w4.cell? ⟨w.heap.size, 10, none⟩ = some (.slice h.now.parts.A h.now.parts.n h.now.parts.c) := by rw [Go.Joins.cell_of_block hX4.out]; rfl
  have cx11 : w4.cell? ⟨w.heap.size, 11, none⟩ = some (.slice h.now.anchors.A h.now.anchors.n h.now.anchors.c) := by rw [Go.Joins.cell_of_block hX4.out]; rfl
  have cx12 : w4.cell? ⟨w.heap.size, 12, none⟩ = some (.string d.now.hints) := by rw [Go.Joins.cell_of_block hX4.out]; rfl
  clear hb4 hX3
  go_wp2_with fail
  refine (szGlyph_any d.now h.now q3 lo hi _ (r4.out.frame (Below.sameB hB4 hhi)) (by omega) hm.out.now hs.out.now (by omega) (by omega)).mono ?_
  rintro e w5 ⟨q4, rfl, t4, hb5⟩
  have hB5 := hB4.trans (hb5.mono hB4.size)
  have hz5 := hB5.size
  rcases t4 with t4 | ⟨u4, v4, o4⟩
  · clear hb5
    go_wp2_with fail
    go_ret
    exact ⟨_, rfl, .inl (by omega), hB5⟩
  replace o4 := Lib.hid o4
  have hX5 := Lib.hid ((hb5.block w.heap.size (by omega)).trans hX4.out)
  replace hbx : w.heap.size < w5.heap.size := (Array.getElem?_eq_some_iff.1 hX5.out).1
  have cx13 : w5.cell? ⟨w.heap.size, 13, none⟩ = some (.slice h.shape.A h.shape.n h.shape.c) := by rw [Go.Joins.cell_of_block hX5.out]; rfl
  clear hb5 hX4
  go_wp2_with fail
  refine (szRegion_any _ _ _ lo hi d.shape q4 _ (r5.out.frame good_ring (Below.sameB hB5 hhi)) (by omega) m5 (by omega) (by omega)).mono ?_
  rintro e w6 ⟨q5, rfl, t5, hb6⟩
  have hB6 := hB5.trans (hb6.mono hB5.size)
  have hz6 := hB6.size
  rcases t5 with t5 | ⟨u5, v5⟩
  · clear hb6
    go_wp2_with fail
    go_ret
    exact ⟨_, rfl, .inl (by omega), hB6⟩
  replace v5 := Lib.hid v5
  clear hb6
  go_wp2_with fail
  go_ret
  have hsz : regSize d.shape ≤ 1048576 := by have := v5.out; omega
  refine ⟨_, rfl, .inr ⟨by omega, by have := v5.out; omega, ⟨o0.out, ⟨by rw [l1.out]; exact o1, p1.out⟩, ⟨by rw [l2.out]; exact o2, p2.out⟩, o3.out, o4.out, ⟨?_, fun K hK => Nat.le_trans (regSize_k hK) hsz⟩⟩⟩, hB6⟩
  show d.shape.length ≤ 1048576
  unfold regSize at hsz; omega
end Go.Proofs.YtgfbcbbcnineiaaGreat

