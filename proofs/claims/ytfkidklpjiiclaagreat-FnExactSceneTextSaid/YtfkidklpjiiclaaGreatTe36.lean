/- A ring and a region that came in, opened. No walk in sight. Conditions: none. -/
import Derived.Test.YtfkidklpjiiclaaGreatTe03
import Derived.Test.YtfkidklpjiiclaaGreatTe23
import Derived.Test.YtfkidklpjiiclaaGreatTe25
import Derived.Test.YtfkidklpjiiclaaGreatTe26
import Derived.Test.YtfkidklpjiiclaaGreatTe29
import Derived.Test.YtfkidklpjiiclaaGreatTe34
import Derived.Test.YtfkidklpjiiclaaGreatTe35
namespace Go.Proofs.YtfkidklpjiiclaaGreat
open Go.RowKit Go.ChangeShapes Go.WideShapes Go.Deep
set_option linter.unusedVariables false
set_option maxRecDepth 100000

theorem opens_lRing : Opens Tryz.prog 196 ringR := by
  have hk : Tryz.prog.cellsOf 191 = 2 := by kernel_rfl
  intro H enc w fuel cs x h
  exact opens_struct1 (k := 1) Tryz.underlying196 (by kernel_rfl) (opens_slice Tryz.underlying112 hk (by omega) opens_lPt (good_flat _)) h
theorem opens_Region {H : Type} {enc : TypeId × Value → H} {w : World} {fuel : Nat} {cs : List Value} {x : DataW H × List MemPlace} (h : DataW.trod enc Tryz.prog w 0 (fun _ => true) true fuel 39 cs = some x) :
    ∃ A n c Rs, cs = [.slice A n c] ∧ RegRd w 0 w.heap.size A n Rs ∧ n ≤ maxLen := by
  have hk : Tryz.prog.cellsOf 196 = 1 := by kernel_rfl
  obtain ⟨Ls, A, n, c, h1, h2, h3⟩ := opens_struct1 (k := 1) Tryz.underlying39 (by kernel_rfl) (opens_slice Tryz.underlying37 hk (by omega) opens_lRing good_ring) h
  exact ⟨A, n, c, Ls, h1, h3, h2⟩
end Go.Proofs.YtfkidklpjiiclaaGreat

/- A scene: its datum, how it lies in memory, opened, counted. Printed by mk_scene.py. Conditions: as each states. -/
namespace Go.Proofs.YtfkidklpjiiclaaGreat
open Go.RowKit Go.ChangeShapes Go.WideShapes Go.Deep
set_option linter.unusedVariables false
set_option maxRecDepth 100000

structure ScD where
  rows : List RowD
  pens : List NamedPenD
  paths : List NamedPathD
  set : GSet
  isOpen : Bool
  now : Gl
  shape : List (List (Int × Int))
  deriving DecidableEq
structure ScH where
  rows : Hd
  pens : Hd
  paths : Hd
  set : GSetH
  now : GlH
  shape : Hd
def scC (d : ScD) (h : ScH) : List Value := [.slice h.rows.A h.rows.n h.rows.c, .slice h.pens.A h.pens.n h.pens.c, .slice h.paths.A h.paths.n h.paths.c, .int .i64 d.set.unit, .slice h.set.gl.A h.set.gl.n h.set.gl.c, .bool d.isOpen, .string d.now.name, .int .i64 d.now.code, .int .i64 d.now.adv, .slice h.now.out.A h.now.out.n h.now.out.c, .slice h.now.parts.A h.now.parts.n h.now.parts.c, .slice h.now.anchors.A h.now.anchors.n h.now.anchors.c, .string d.now.hints, .slice h.shape.A h.shape.n h.shape.c]
abbrev scV (d : ScD) (h : ScH) : Value := .agg #[.slice h.rows.A h.rows.n h.rows.c, .slice h.pens.A h.pens.n h.pens.c, .slice h.paths.A h.paths.n h.paths.c, .int .i64 d.set.unit, .slice h.set.gl.A h.set.gl.n h.set.gl.c, .bool d.isOpen, .string d.now.name, .int .i64 d.now.code, .int .i64 d.now.adv, .slice h.now.out.A h.now.out.n h.now.out.c, .slice h.now.parts.A h.now.parts.n h.now.parts.c, .slice h.now.anchors.A h.now.anchors.n h.now.anchors.c, .string d.now.hints, .slice h.shape.A h.shape.n h.shape.c]
def ScRd (w : World) (lo hi : Nat) (d : ScD) (h : ScH) : Prop := rowsRd w lo hi h.rows.A h.rows.n d.rows ∧ pensRd w lo hi h.pens.A h.pens.n d.pens ∧ npathsRd w lo hi h.paths.A h.paths.n d.paths ∧ GSetRd w lo hi d.set h.set ∧ GlRd w lo hi d.now h.now ∧ RegRd w lo hi h.shape.A h.shape.n d.shape
theorem ScRd.frame {w w' : World} {lo hi : Nat} {d : ScD} {h : ScH} (r : ScRd w lo hi d h) (s : SameB lo hi w w') : ScRd w' lo hi d h := ⟨(r.1).frame good_row s, (r.2.1).frame good_pen s, (r.2.2.1).frame good_npath s, (r.2.2.2.1).frame good_glyph s, (r.2.2.2.2.1).frame s, (r.2.2.2.2.2).frame good_ring s⟩
theorem ScRd.wide {w : World} {lo hi lo' hi' : Nat} {d : ScD} {h : ScH} (r : ScRd w lo hi d h) (h1 : lo' ≤ lo) (h2 : hi ≤ hi') : ScRd w lo' hi' d h := ⟨(r.1).wide good_row h1 h2, (r.2.1).wide good_pen h1 h2, (r.2.2.1).wide good_npath h1 h2, (r.2.2.2.1).wide good_glyph h1 h2, (r.2.2.2.2.1).wide h1 h2, (r.2.2.2.2.2).wide good_ring h1 h2⟩
structure ScD.small (d : ScD) (b : Nat) : Prop where
  rows : SmL rowLen b d.rows
  pens : SmL penLen b d.pens
  paths : SmL pathLen b d.paths
  set : d.set.small b
  now : d.now.small b
  shape : SmL ringLen b d.shape
theorem ScD.small.mono {d : ScD} {a b : Nat} (h : d.small a) (hab : a ≤ b) : d.small b := ⟨h.rows.mono hab, h.pens.mono hab, h.paths.mono hab, h.set.mono hab, h.now.mono hab, h.shape.mono hab⟩
/-- its texts can be read -/
structure ScD.str (d : ScD) : Prop where
  rows : ∀ g ∈ d.rows, g.str
  pens : ∀ g ∈ d.pens, g.str
  paths : ∀ g ∈ d.paths, g.str
  set : ∀ g ∈ d.set.gl, g.str
  now : d.now.str

theorem regRd_small {w : World} {lo hi : Nat} {A : Option Addr} {n : Nat} {Ls : List (List (Int × Int))} (h : RegRd w lo hi A n Ls) : ∀ K ∈ Ls, K.length ≤ maxLen := fun K hK => by
  obtain ⟨j, hj⟩ := List.getElem?_of_mem hK
  have hjl := (List.getElem?_eq_some_iff.1 hj).1
  obtain ⟨b, off, K', A', n', c', _, _, _, hj', _, hm, hr⟩ := reg_at h (j := j) (by rw [← h.1]; exact hjl)
  have e := Option.some.inj (hj.symm.trans hj')
  subst e
  rw [hr.1]; exact hm
theorem opens_Scene {H : Type} {enc : TypeId × Value → H} {w : World} {fuel : Nat} {cs : List Value} {x : DataW H × List MemPlace} (h : DataW.trod enc Tryz.prog w 0 (fun _ => true) true fuel 41 cs = some x) :
    ∃ d hh, cs = scC d hh ∧ ScRd w 0 w.heap.size d hh ∧ d.small maxLen ∧ d.str := by
  obtain ⟨hl, hf⟩ := struct_fields Tryz.underlying41 h
  have hc : Tryz.prog.cellsOf 41 = 14 := by kernel_rfl
  have k0 : Tryz.prog.cellsOf 24 = 1 := by kernel_rfl
  have k1 : Tryz.prog.cellsOf 25 = 1 := by kernel_rfl
  have k2 : Tryz.prog.cellsOf 26 = 1 := by kernel_rfl
  have k3 : Tryz.prog.cellsOf 29 = 2 := by kernel_rfl
  have k4 : Tryz.prog.cellsOf 4 = 1 := by kernel_rfl
  have k5 : Tryz.prog.cellsOf 36 = 7 := by kernel_rfl
  have k6 : Tryz.prog.cellsOf 39 = 1 := by kernel_rfl
  have k7 : Tryz.prog.cellsOf 22 = 1 := by kernel_rfl
  have l0 : Tryz.prog.cellsOf 187 = 4 := by kernel_rfl
  have l1 : Tryz.prog.cellsOf 114 = 2 := by kernel_rfl
  have l2 : Tryz.prog.cellsOf 117 = 3 := by kernel_rfl
  rw [hc] at hl
  match cs, hl with
  | [c0, c1, c2, c3, c4, c5, c6, c7, c8, c9, c10, c11, c12, c13], _ =>
    obtain ⟨n0, y0, h0⟩ := struct_field hf 0 24 0 1 rfl rfl rfl k0
    obtain ⟨n1, y1, h1⟩ := struct_field hf 1 25 1 1 rfl rfl rfl k1
    obtain ⟨n2, y2, h2⟩ := struct_field hf 2 26 2 1 rfl rfl rfl k2
    obtain ⟨n3, y3, h3⟩ := struct_field hf 3 29 3 2 rfl rfl rfl k3
    obtain ⟨n4, y4, h4⟩ := struct_field hf 4 4 5 1 rfl rfl rfl k4
    obtain ⟨n5, y5, h5⟩ := struct_field hf 5 36 6 7 rfl rfl rfl k5
    obtain ⟨n6, y6, h6⟩ := struct_field hf 6 39 13 1 rfl rfl rfl k6
    obtain ⟨hl0, hf0⟩ := struct_fields Tryz.underlying24 h0
    obtain ⟨n7, y7, h7⟩ := struct_field hf0 0 22 0 1 rfl rfl rfl k7
    obtain ⟨x0, A0, m0, j0, e0, b0, r0⟩ := opens_slice Tryz.underlying22 l0 (by omega) opens_lRow (good_and good_row _) h7
    obtain ⟨r0, s0⟩ := r0.parted
    obtain ⟨x1, A1, m1, j1, e1, b1, r1⟩ := opens_slice Tryz.underlying25 l1 (by omega) opens_lNamedPen (good_and good_pen _) h1
    obtain ⟨r1, s1⟩ := r1.parted
    obtain ⟨x2, A2, m2, j2, e2, b2, r2⟩ := opens_slice Tryz.underlying26 l2 (by omega) opens_lNamedPath (good_and good_npath _) h2
    obtain ⟨r2, s2⟩ := r2.parted
    obtain ⟨x3, H3, e3, r3, b3, s3⟩ := opens_GlyphSet h3
    obtain ⟨x4, e4⟩ := opens_bool Tryz.underlying4 h4
    obtain ⟨x5, H5, e5, r5, b5, s5⟩ := opens_Glyph h5
    obtain ⟨A6, m6, j6, x6, e6, r6, b6⟩ := opens_Region h6
    simp [FlatR, gsC, glC] at e0 e1 e2 e3 e4 e5 e6
    obtain ⟨e30, e31⟩ := e3
    obtain ⟨e50, e51, e52, e53, e54, e55, e56⟩ := e5
    subst e0 e1 e2 e30 e31 e4 e50 e51 e52 e53 e54 e55 e56 e6
    refine ⟨⟨x0, x1, x2, x3, x4, x5, x6⟩, ⟨⟨A0, m0, j0⟩, ⟨A1, m1, j1⟩, ⟨A2, m2, j2⟩, H3, H5, ⟨A6, m6, j6⟩⟩, rfl, ⟨r0, r1, r2, r3, r5, r6⟩, ⟨⟨?_, fun g hg => (s0 g hg).2.1⟩, ⟨?_, fun g hg => (s1 g hg).2⟩, ⟨?_, fun g hg => (s2 g hg).2⟩, b3, b5, ⟨?_, ?_⟩⟩, ⟨s0, s1, s2, s3, s5⟩⟩
    · show x0.length ≤ maxLen; rw [r0.1]; exact b0
    · show x1.length ≤ maxLen; rw [r1.1]; exact b1
    · show x2.length ≤ maxLen; rw [r2.1]; exact b2
    · show x6.length ≤ maxLen; rw [r6.1]; exact b6
    · exact regRd_small r6

theorem regSize_k {Ls : List (List (Int × Int))} {K : List (Int × Int)} (h : K ∈ Ls) : K.length ≤ regSize Ls := by
  have := sum_mem_le (List.mem_map_of_mem (f := List.length) h)
  unfold regSize; omega
set_option maxHeartbeats 4000000 in
theorem szScene_any (d : ScD) (h : ScH) (left : Int) (lo hi : Nat) (w : World) (hr : ScRd w lo hi d h) (hhi : hi ≤ w.heap.size) (hm : d.small maxLen) (hs : d.str) (h0 : 0 ≤ left) (h1 : left ≤ 1048576) :
    Calls Tryz.prog 5 #[scV d h, .int .i64 left] w fun e w' => ∃ r : Int, e = .returned (.int .i64 r) ∧ (r < 0 ∨ (0 ≤ r ∧ r ≤ left ∧ d.small 1048576)) ∧ Below w.heap.size w w' := by
  obtain ⟨r0, r1, r2, r3, r4, r5⟩ := hr
  have m0 : h.rows.n ≤ 9223372036854775807 := by have := hm.rows.1; unfold maxLen at this; rw [← r0.1]; exact this
  have m1 : h.pens.n ≤ 9223372036854775807 := by have := hm.pens.1; unfold maxLen at this; rw [← r1.1]; exact this
  have m2 : h.paths.n ≤ 9223372036854775807 := by have := hm.paths.1; unfold maxLen at this; rw [← r2.1]; exact this
  have m5 : h.shape.n ≤ 9223372036854775807 := by have := hm.shape.1; unfold maxLen at this; rw [← r5.1]; exact this
  have l1 := Lib.hid r1.1
  have l2 := Lib.hid r2.1
  replace r0 := Lib.hid r0
  replace r1 := Lib.hid r1
  replace r2 := Lib.hid r2
  replace r3 := Lib.hid r3
  replace r4 := Lib.hid r4
  replace r5 := Lib.hid r5
  replace hs := Lib.hid hs
  replace hm := Lib.hid hm
  have hB0 := Go.Joins.below_alloc1 w (.cells #[.slice h.rows.A h.rows.n h.rows.c, .slice h.pens.A h.pens.n h.pens.c, .slice h.paths.A h.paths.n h.paths.c, .int .i64 d.set.unit, .slice h.set.gl.A h.set.gl.n h.set.gl.c, .bool d.isOpen, .string d.now.name, .int .i64 d.now.code, .int .i64 d.now.adv, .slice h.now.out.A h.now.out.n h.now.out.c, .slice h.now.parts.A h.now.parts.n h.now.parts.c, .slice h.now.anchors.A h.now.anchors.n h.now.anchors.c, .string d.now.hints, .slice h.shape.A h.shape.n h.shape.c] 41 (0, 0))
  have hX0 := Lib.hid (heap_alloc_new w (.cells #[.slice h.rows.A h.rows.n h.rows.c, .slice h.pens.A h.pens.n h.pens.c, .slice h.paths.A h.paths.n h.paths.c, .int .i64 d.set.unit, .slice h.set.gl.A h.set.gl.n h.set.gl.c, .bool d.isOpen, .string d.now.name, .int .i64 d.now.code, .int .i64 d.now.adv, .slice h.now.out.A h.now.out.n h.now.out.c, .slice h.now.parts.A h.now.parts.n h.now.parts.c, .slice h.now.anchors.A h.now.anchors.n h.now.anchors.c, .string d.now.hints, .slice h.shape.A h.shape.n h.shape.c] 41 (0, 0)))
  go_enter Tryz.func5, Tryz.ntmps5
  go_wp2_with fail
  refine (szSystem_any h.rows lo hi d.rows left _ (r0.out.frame good_row (Below.sameB hB0 hhi)) (by simp; omega) hs.out.rows m0 h0 h1).mono ?_
  rintro e w1 ⟨q0, rfl, t0, hb1⟩
  have hB1 := hB0.trans (hb1.mono hB0.size)
  have hz1 := hB1.size
  rcases t0 with t0 | ⟨u0, v0, o0⟩
  · clear hb1
    go_wp2_with fail
    go_ret
    exact ⟨_, rfl, .inl (by omega), hB1⟩
  replace o0 := Lib.hid o0
  have hX1 := Lib.hid ((hb1.block w.heap.size (by simp)).trans hX0.out)
  have hbx : w.heap.size < w1.heap.size := (Array.getElem?_eq_some_iff.1 hX1.out).1
  have cx1 : w1.cell? ⟨w.heap.size, 1, none⟩ = some (.slice h.pens.A h.pens.n h.pens.c) := by rw [Go.Joins.cell_of_block hX1.out]; rfl
  clear hb1 hX0
  go_wp2_with fail
  refine (szNamedPenS_any _ _ _ lo hi d.pens q0 _ (r1.out.frame good_pen (Below.sameB hB1 hhi)) (by omega) hs.out.pens m1 (by omega) (by omega)).mono ?_
  rintro e w2 ⟨q1, rfl, t1, hb2⟩
  have hB2 := hB1.trans (hb2.mono hB1.size)
  have hz2 := hB2.size
  rcases t1 with t1 | ⟨u1, v1, o1, p1⟩
  · clear hb2
    go_wp2_with fail
    go_ret
    exact ⟨_, rfl, .inl (by omega), hB2⟩
  replace p1 := Lib.hid p1
  have hX2 := Lib.hid ((hb2.block w.heap.size (by omega)).trans hX1.out)
  replace hbx : w.heap.size < w2.heap.size := (Array.getElem?_eq_some_iff.1 hX2.out).1
  have cx2 : w2.cell? ⟨w.heap.size, 2, none⟩ = some (.slice h.paths.A h.paths.n h.paths.c) := by rw [Go.Joins.cell_of_block hX2.out]; rfl
  clear hb2 hX1
  go_wp2_with fail
  refine (szNamedPathS_any _ _ _ lo hi d.paths q1 _ (r2.out.frame good_npath (Below.sameB hB2 hhi)) (by omega) hs.out.paths m2 (by omega) (by omega)).mono ?_
  rintro e w3 ⟨q2, rfl, t2, hb3⟩
  have hB3 := hB2.trans (hb3.mono hB2.size)
  have hz3 := hB3.size
  rcases t2 with t2 | ⟨u2, v2, o2, p2⟩
  · clear hb3
    go_wp2_with fail
    go_ret
    exact ⟨_, rfl, .inl (by omega), hB3⟩
  replace p2 := Lib.hid p2
  have hX3 := Lib.hid ((hb3.block w.heap.size (by omega)).trans hX2.out)
  replace hbx : w.heap.size < w3.heap.size := (Array.getElem?_eq_some_iff.1 hX3.out).1
  have cx3 : w3.cell? ⟨w.heap.size, 3, none⟩ = some (.int .i64 d.set.unit) := by rw [Go.Joins.cell_of_block hX3.out]; rfl
  have cx4 : w3.cell? ⟨w.heap.size, 4, none⟩ = some (.slice h.set.gl.A h.set.gl.n h.set.gl.c) := by rw [Go.Joins.cell_of_block hX3.out]; rfl
  clear hb3 hX2
  go_wp2_with fail
  refine (szGlyphSet_any d.set h.set q2 lo hi _ (r3.out.frame good_glyph (Below.sameB hB3 hhi)) (by omega) hm.out.set hs.out.set (by omega) (by omega)).mono ?_
  rintro e w4 ⟨q3, rfl, t3, hb4⟩
  have hB4 := hB3.trans (hb4.mono hB3.size)
  have hz4 := hB4.size
  rcases t3 with t3 | ⟨u3, v3, o3⟩
  · clear hb4
    go_wp2_with fail
    go_ret
    exact ⟨_, rfl, .inl (by omega), hB4⟩
  replace o3 := Lib.hid o3
  have hX4 := Lib.hid ((hb4.block w.heap.size (by omega)).trans hX3.out)
  replace hbx : w.heap.size < w4.heap.size := (Array.getElem?_eq_some_iff.1 hX4.out).1
  have cx6 : w4.cell? ⟨w.heap.size, 6, none⟩ = some (.string d.now.name) := by rw [Go.Joins.cell_of_block hX4.out]; rfl
  have cx7 : w4.cell? ⟨w.heap.size, 7, none⟩ = some (.int .i64 d.now.code) := by rw [Go.Joins.cell_of_block hX4.out]; rfl
  have cx8 : w4.cell? ⟨w.heap.size, 8, none⟩ = some (.int .i64 d.now.adv) := by rw [Go.Joins.cell_of_block hX4.out]; rfl
  have cx9 : w4.cell? ⟨w.heap.size, 9, none⟩ = some (.slice h.now.out.A h.now.out.n h.now.out.c) := by rw [Go.Joins.cell_of_block hX4.out]; rfl
  have cx10 : w4.cell? ⟨w.heap.size, 10, none⟩ = some (.slice h.now.parts.A h.now.parts.n h.now.parts.c) := by rw [Go.Joins.cell_of_block hX4.out]; rfl
  have cx11 : w4.cell? ⟨w.heap.size, 11, none⟩ = some (.slice h.now.anchors.A h.now.anchors.n h.now.anchors.c) := by rw [Go.Joins.cell_of_block hX4.out]; rfl
  have cx12 : w4.cell? ⟨w.heap.size, 12, none⟩ = some (.string d.now.hints) := by rw [Go.Joins.cell_of_block hX4.out]; rfl
  clear hb4 hX3
  go_wp2_with fail
  refine (szGlyph_any d.now h.now q3 lo hi _ (r4.out.frame (Below.sameB hB4 hhi)) (by omega) hm.out.now hs.out.now (by omega) (by omega)).mono ?_
  rintro e w5 ⟨q4, rfl, t4, hb5⟩
  have hB5 := hB4.trans (hb5.mono hB4.size)
  have hz5 := hB5.size
  rcases t4 with t4 | ⟨u4, v4, o4⟩
  · clear hb5
    go_wp2_with fail
    go_ret
    exact ⟨_, rfl, .inl (by omega), hB5⟩
  replace o4 := Lib.hid o4
  have hX5 := Lib.hid ((hb5.block w.heap.size (by omega)).trans hX4.out)
  replace hbx : w.heap.size < w5.heap.size := (Array.getElem?_eq_some_iff.1 hX5.out).1
  have cx13 : w5.cell? ⟨w.heap.size, 13, none⟩ = some (.slice h.shape.A h.shape.n h.shape.c) := by rw [Go.Joins.cell_of_block hX5.out]; rfl
  clear hb5 hX4
  go_wp2_with fail
  refine (szRegion_any _ _ _ lo hi d.shape q4 _ (r5.out.frame good_ring (Below.sameB hB5 hhi)) (by omega) m5 (by omega) (by omega)).mono ?_
  rintro e w6 ⟨q5, rfl, t5, hb6⟩
  have hB6 := hB5.trans (hb6.mono hB5.size)
  have hz6 := hB6.size
  rcases t5 with t5 | ⟨u5, v5⟩
  · clear hb6
    go_wp2_with fail
    go_ret
    exact ⟨_, rfl, .inl (by omega), hB6⟩
  replace v5 := Lib.hid v5
  clear hb6
  go_wp2_with fail
  go_ret
  have hsz : regSize d.shape ≤ 1048576 := by have := v5.out; omega
  refine ⟨_, rfl, .inr ⟨by omega, by have := v5.out; omega, ⟨o0.out, ⟨by rw [l1.out]; exact o1, p1.out⟩, ⟨by rw [l2.out]; exact o2, p2.out⟩, o3.out, o4.out, ⟨?_, fun K hK => Nat.le_trans (regSize_k hK) hsz⟩⟩⟩, hB6⟩
  show d.shape.length ≤ 1048576
  unfold regSize at hsz; omega
end Go.Proofs.YtfkidklpjiiclaaGreat

/- A state of the hint machine in its box: thirteen cells. Conditions: none. -/
namespace Go.Proofs.YtfkidklpjiiclaaGreat
open Go.RowKit
set_option linter.unusedVariables false
set_option maxRecDepth 100000


def BoxC (w : World) (x : Nat) (d : ScD) (h : ScH) : Prop := w.cell? ⟨x, 0, none⟩ = some (.slice h.rows.A h.rows.n h.rows.c) ∧ w.cell? ⟨x, 1, none⟩ = some (.slice h.pens.A h.pens.n h.pens.c) ∧ w.cell? ⟨x, 2, none⟩ = some (.slice h.paths.A h.paths.n h.paths.c) ∧ w.cell? ⟨x, 3, none⟩ = some (.int .i64 d.set.unit) ∧ w.cell? ⟨x, 4, none⟩ = some (.slice h.set.gl.A h.set.gl.n h.set.gl.c) ∧ w.cell? ⟨x, 5, none⟩ = some (.bool d.isOpen) ∧ w.cell? ⟨x, 6, none⟩ = some (.string d.now.name) ∧ w.cell? ⟨x, 7, none⟩ = some (.int .i64 d.now.code) ∧ w.cell? ⟨x, 8, none⟩ = some (.int .i64 d.now.adv) ∧ w.cell? ⟨x, 9, none⟩ = some (.slice h.now.out.A h.now.out.n h.now.out.c) ∧ w.cell? ⟨x, 10, none⟩ = some (.slice h.now.parts.A h.now.parts.n h.now.parts.c) ∧ w.cell? ⟨x, 11, none⟩ = some (.slice h.now.anchors.A h.now.anchors.n h.now.anchors.c) ∧ w.cell? ⟨x, 12, none⟩ = some (.string d.now.hints) ∧ w.cell? ⟨x, 13, none⟩ = some (.slice h.shape.A h.shape.n h.shape.c)
def BoxesC (w : World) (x y : Nat) (d : ScD) (h : ScH) (d' : ScD) (h' : ScH) : Prop := w.cell? ⟨x, 0, none⟩ = some (.slice h.rows.A h.rows.n h.rows.c) ∧ w.cell? ⟨x, 1, none⟩ = some (.slice h.pens.A h.pens.n h.pens.c) ∧ w.cell? ⟨x, 2, none⟩ = some (.slice h.paths.A h.paths.n h.paths.c) ∧ w.cell? ⟨x, 3, none⟩ = some (.int .i64 d.set.unit) ∧ w.cell? ⟨x, 4, none⟩ = some (.slice h.set.gl.A h.set.gl.n h.set.gl.c) ∧ w.cell? ⟨x, 5, none⟩ = some (.bool d.isOpen) ∧ w.cell? ⟨x, 6, none⟩ = some (.string d.now.name) ∧ w.cell? ⟨x, 7, none⟩ = some (.int .i64 d.now.code) ∧ w.cell? ⟨x, 8, none⟩ = some (.int .i64 d.now.adv) ∧ w.cell? ⟨x, 9, none⟩ = some (.slice h.now.out.A h.now.out.n h.now.out.c) ∧ w.cell? ⟨x, 10, none⟩ = some (.slice h.now.parts.A h.now.parts.n h.now.parts.c) ∧ w.cell? ⟨x, 11, none⟩ = some (.slice h.now.anchors.A h.now.anchors.n h.now.anchors.c) ∧ w.cell? ⟨x, 12, none⟩ = some (.string d.now.hints) ∧ w.cell? ⟨x, 13, none⟩ = some (.slice h.shape.A h.shape.n h.shape.c) ∧ w.cell? ⟨y, 0, none⟩ = some (.slice h'.rows.A h'.rows.n h'.rows.c) ∧ w.cell? ⟨y, 1, none⟩ = some (.slice h'.pens.A h'.pens.n h'.pens.c) ∧ w.cell? ⟨y, 2, none⟩ = some (.slice h'.paths.A h'.paths.n h'.paths.c) ∧ w.cell? ⟨y, 3, none⟩ = some (.int .i64 d'.set.unit) ∧ w.cell? ⟨y, 4, none⟩ = some (.slice h'.set.gl.A h'.set.gl.n h'.set.gl.c) ∧ w.cell? ⟨y, 5, none⟩ = some (.bool d'.isOpen) ∧ w.cell? ⟨y, 6, none⟩ = some (.string d'.now.name) ∧ w.cell? ⟨y, 7, none⟩ = some (.int .i64 d'.now.code) ∧ w.cell? ⟨y, 8, none⟩ = some (.int .i64 d'.now.adv) ∧ w.cell? ⟨y, 9, none⟩ = some (.slice h'.now.out.A h'.now.out.n h'.now.out.c) ∧ w.cell? ⟨y, 10, none⟩ = some (.slice h'.now.parts.A h'.now.parts.n h'.now.parts.c) ∧ w.cell? ⟨y, 11, none⟩ = some (.slice h'.now.anchors.A h'.now.anchors.n h'.now.anchors.c) ∧ w.cell? ⟨y, 12, none⟩ = some (.string d'.now.hints) ∧ w.cell? ⟨y, 13, none⟩ = some (.slice h'.shape.A h'.shape.n h'.shape.c)
theorem BoxC.below {w w' : World} {x B : Nat} {d : ScD} {h : ScH} (s : BoxC w x d h) (hb : Below B w w') (hB : x + 1 ≤ B) : BoxC w' x d h := by
  obtain ⟨s0, s1, s2, s3, s4, s5, s6, s7, s8, s9, s10, s11, s12, s13⟩ := s
  exact ⟨(hb.cell (p := ⟨x, 0, none⟩) (by show _ < B; simp; omega)).trans s0, (hb.cell (p := ⟨x, 1, none⟩) (by show _ < B; simp; omega)).trans s1, (hb.cell (p := ⟨x, 2, none⟩) (by show _ < B; simp; omega)).trans s2, (hb.cell (p := ⟨x, 3, none⟩) (by show _ < B; simp; omega)).trans s3, (hb.cell (p := ⟨x, 4, none⟩) (by show _ < B; simp; omega)).trans s4, (hb.cell (p := ⟨x, 5, none⟩) (by show _ < B; simp; omega)).trans s5, (hb.cell (p := ⟨x, 6, none⟩) (by show _ < B; simp; omega)).trans s6, (hb.cell (p := ⟨x, 7, none⟩) (by show _ < B; simp; omega)).trans s7, (hb.cell (p := ⟨x, 8, none⟩) (by show _ < B; simp; omega)).trans s8, (hb.cell (p := ⟨x, 9, none⟩) (by show _ < B; simp; omega)).trans s9, (hb.cell (p := ⟨x, 10, none⟩) (by show _ < B; simp; omega)).trans s10, (hb.cell (p := ⟨x, 11, none⟩) (by show _ < B; simp; omega)).trans s11, (hb.cell (p := ⟨x, 12, none⟩) (by show _ < B; simp; omega)).trans s12, (hb.cell (p := ⟨x, 13, none⟩) (by show _ < B; simp; omega)).trans s13⟩
theorem BoxC.drew {w : World} {x : Nat} {d : ScD} {h : ScH} (s : BoxC w x d h) : BoxC w.drew x d h := s
theorem BoxC.alloc {w : World} {x : Nat} {d : ScD} {h : ScH} (s : BoxC w x d h) (hx : x < w.heap.size) (o : Obj) : BoxC (w.alloc o) x d h :=
  s.below (Go.Joins.below_alloc1 w o) hx
theorem BoxC.two {w : World} {x y : Nat} {d : ScD} {h : ScH} {d' : ScD} {h' : ScH} (s : BoxC w x d h) (t : BoxC w y d' h') : BoxesC w x y d h d' h' := by
  obtain ⟨s0, s1, s2, s3, s4, s5, s6, s7, s8, s9, s10, s11, s12, s13⟩ := s
  obtain ⟨t0, t1, t2, t3, t4, t5, t6, t7, t8, t9, t10, t11, t12, t13⟩ := t
  exact ⟨s0, s1, s2, s3, s4, s5, s6, s7, s8, s9, s10, s11, s12, s13, t0, t1, t2, t3, t4, t5, t6, t7, t8, t9, t10, t11, t12, t13⟩
theorem boxC_new {w : World} {d : ScD} {h : ScH} {x : Nat} {t : TypeId} {cs : Array Value} (hx : w.heap[x]? = some (.cells cs t (0, 0))) (hc : cs = #[.slice h.rows.A h.rows.n h.rows.c, .slice h.pens.A h.pens.n h.pens.c, .slice h.paths.A h.paths.n h.paths.c, .int .i64 d.set.unit, .slice h.set.gl.A h.set.gl.n h.set.gl.c, .bool d.isOpen, .string d.now.name, .int .i64 d.now.code, .int .i64 d.now.adv, .slice h.now.out.A h.now.out.n h.now.out.c, .slice h.now.parts.A h.now.parts.n h.now.parts.c, .slice h.now.anchors.A h.now.anchors.n h.now.anchors.c, .string d.now.hints, .slice h.shape.A h.shape.n h.shape.c]) : BoxC w x d h := by
  subst hc
  exact ⟨by rw [Go.Joins.cell_of_block hx]; rfl, by rw [Go.Joins.cell_of_block hx]; rfl, by rw [Go.Joins.cell_of_block hx]; rfl, by rw [Go.Joins.cell_of_block hx]; rfl, by rw [Go.Joins.cell_of_block hx]; rfl, by rw [Go.Joins.cell_of_block hx]; rfl, by rw [Go.Joins.cell_of_block hx]; rfl, by rw [Go.Joins.cell_of_block hx]; rfl, by rw [Go.Joins.cell_of_block hx]; rfl, by rw [Go.Joins.cell_of_block hx]; rfl, by rw [Go.Joins.cell_of_block hx]; rfl, by rw [Go.Joins.cell_of_block hx]; rfl, by rw [Go.Joins.cell_of_block hx]; rfl, by rw [Go.Joins.cell_of_block hx]; rfl⟩

end Go.Proofs.YtfkidklpjiiclaaGreat

/- A scene's validity, the reference's side. Printed by mk_vs8.py. Conditions: as each states. -/
namespace Go.Proofs.YtfkidklpjiiclaaGreat
open Go.RowKit
set_option linter.unusedVariables false
set_option maxRecDepth 100000

abbrev zGl : Gl := ⟨⟨#[]⟩, 0, 0, [], [], [], ⟨#[]⟩⟩
abbrev zGlH : GlH := ⟨⟨none, 0, 0⟩, ⟨none, 0, 0⟩, ⟨none, 0, 0⟩⟩
theorem zGl_rd (w : World) (lo hi : Nat) : GlRd w lo hi zGl zGlH := ⟨⟨rfl, fun h => absurd h (by simp)⟩, ⟨rfl, fun h => absurd h (by simp)⟩, ⟨rfl, fun h => absurd h (by simp)⟩⟩
def sceneT (d : ScD) : Bool := if d.isOpen = true then glyphOk d.now && decide (d.now.out.length = 0) else decide (d.now = zGl) && decide (d.shape.length = 0)
def sceneB (d : ScD) : Bool := (sysB d.rows && (listsB d.pens d.paths && (setOk d.set && regOk d.shape))) && sceneT d
theorem BoxC.now {w : World} {p : Nat} {d : ScD} {h : ScH} (s : BoxC w p d h) : ∀ i u, (glC d.now h.now)[i]? = some u → w.cell? ⟨p, 6 + i, none⟩ = some u := by
  obtain ⟨s0, s1, s2, s3, s4, s5, s6, s7, s8, s9, s10, s11, s12, s13⟩ := s
  intro i u hu
  match i, hu with
  | 0, hu => exact s6.trans hu
  | 1, hu => exact s7.trans hu
  | 2, hu => exact s8.trans hu
  | 3, hu => exact s9.trans hu
  | 4, hu => exact s10.trans hu
  | 5, hu => exact s11.trans hu
  | 6, hu => exact s12.trans hu
theorem glC_cells {w : World} {b : Nat} {d : Gl} {h : GlH} {t : TypeId} {cs : Array Value} (hx : w.heap[b]? = some (.cells cs t (0, 0))) (hc : cs = (glC d h).toArray) : ∀ i u, (glC d h)[i]? = some u → w.cell? ⟨b, 0 + i, none⟩ = some u := by
  intro i u hu
  subst hc
  rw [Go.Joins.cell_of_block hx]
  simpa using hu

set_option maxHeartbeats 16000000 in
theorem l08Ok_any (p : Nat) (d : ScD) (h : ScH) (t : Bool) (ht : t = sceneB d) (lo hi : Nat) (w : World) (hp : p < w.heap.size) (hbox : BoxC w p d h) (hr : ScRd w lo hi d h) (hhi : hi ≤ w.heap.size) (hm : d.small 1048576) (hs : d.str) :
    Calls Tryz.prog 18 #[.pointer (some ⟨p, 0, none⟩)] w fun e w' => e = .returned (.bool t) ∧ Below w.heap.size w w' := by
  obtain ⟨tS, hS⟩ : ∃ u, u = sysB d.rows := ⟨_, rfl⟩
  obtain ⟨tL, hL⟩ : ∃ u, u = listsB d.pens d.paths := ⟨_, rfl⟩
  obtain ⟨tG, hG⟩ : ∃ u, u = setOk d.set := ⟨_, rfl⟩
  obtain ⟨tR, hR⟩ : ∃ u, u = regOk d.shape := ⟨_, rfl⟩
  rw [sceneB, ← hS, ← hL, ← hG, ← hR] at ht
  have m0 : h.rows.n ≤ 1048576 := by rw [← hr.1.1]; exact hm.rows.1
  have m1 : h.shape.n ≤ 1048576 := by rw [← hr.2.2.2.2.2.1]; exact hm.shape.1
  have hcap : ∀ k, k ≤ 1048576 → k ≤ 1000000000 := fun k hk => Nat.le_trans hk (by omega)
  replace hS := Lib.hid hS
  replace hL := Lib.hid hL
  replace hG := Lib.hid hG
  replace hR := Lib.hid hR
  replace ht := Lib.hid ht
  replace hr := Lib.hid hr
  replace hm := Lib.hid hm
  replace hs := Lib.hid hs
  replace hcap := Lib.hid hcap
  have hB0 := Go.Joins.below_alloc1 w (.cells #[.string ⟨#[]⟩, .int .i64 0, .int .i64 0, .slice none 0 0, .slice none 0 0, .slice none 0 0, .string ⟨#[]⟩] 58 (0, 0))
  have hz0 := Lib.hid (heap_alloc_new w (.cells #[.string ⟨#[]⟩, .int .i64 0, .int .i64 0, .slice none 0 0, .slice none 0 0, .slice none 0 0, .string ⟨#[]⟩] 58 (0, 0)))
  have hx0 := Lib.hid (hbox.alloc hp (.cells #[.string ⟨#[]⟩, .int .i64 0, .int .i64 0, .slice none 0 0, .slice none 0 0, .slice none 0 0, .string ⟨#[]⟩] 58 (0, 0)))
  have hzl0 : w.heap.size < (w.alloc (.cells #[.string ⟨#[]⟩, .int .i64 0, .int .i64 0, .slice none 0 0, .slice none 0 0, .slice none 0 0, .string ⟨#[]⟩] 58 (0, 0))).heap.size := by simp
  clear hbox
  go_enter Tryz.func18, Tryz.ntmps18
  go_wp2_with fail
  refine (specSysOk_any p 0 _ _ _ lo hi d.rows tS hS.out _ (Nat.lt_of_lt_of_le hp hB0.size) hx0.out.1 (hr.out.1.frame good_row (Below.sameB hB0 hhi)) (Nat.le_trans hhi hB0.size) (hcap.out _ m0) (fun g hg => hcap.out _ (hm.out.rows.2 g hg)) hs.out.rows).mono ?_
  rintro e w1 ⟨rfl, hb1⟩
  have hB1 := hB0.trans (hb1.mono hB0.size)
  have hz1 := Lib.hid ((hb1.block _ hzl0).trans hz0.out)
  have hx1 := Lib.hid (hx0.out.below hb1 (Nat.lt_of_lt_of_le hp hB0.size))
  have hzl1 : w.heap.size < w1.heap.size := Nat.lt_of_lt_of_le hzl0 hb1.size
  clear hb1 hx0 hz0 hzl0
  cases tS with
  | false =>
    have htf : t = false := by rw [ht.out]; simp
    subst htf
    go_wp2_with fail
    go_ret
    exact ⟨rfl, hB1⟩
  | true =>
  go_wp2_with fail
  refine (l08Lists_any p 0 _ _ _ _ _ _ lo hi d.pens d.paths tL hL.out _ (Nat.lt_of_lt_of_le hp hB1.size) hx1.out.2.1 hx1.out.2.2.1 (hr.out.2.1.frame good_pen (Below.sameB hB1 hhi)) (hr.out.2.2.1.frame good_npath (Below.sameB hB1 hhi)) (Nat.le_trans hhi hB1.size) (hm.out.pens.mono (by omega)) (hm.out.paths.mono (by omega)) hs.out.pens hs.out.paths).mono ?_
  rintro e w2 ⟨rfl, hb2⟩
  have hB2 := hB1.trans (hb2.mono hB1.size)
  have hz2 := Lib.hid ((hb2.block _ hzl1).trans hz1.out)
  have hx2 := Lib.hid (hx1.out.below hb2 (Nat.lt_of_lt_of_le hp hB1.size))
  have hzl2 : w.heap.size < w2.heap.size := Nat.lt_of_lt_of_le hzl1 hb2.size
  clear hb2 hx1 hz1 hzl1
  cases tL with
  | false =>
    have htf : t = false := by rw [ht.out]; simp
    subst htf
    go_wp2_with fail
    go_ret
    exact ⟨rfl, hB2⟩
  | true =>
  go_wp2_with fail
  refine (l17Ok_any p 3 d.set.unit _ _ _ lo hi d.set.gl tG hG.out _ (Nat.lt_of_lt_of_le hp hB2.size) hx2.out.2.2.2.1 hx2.out.2.2.2.2.1 (hr.out.2.2.2.1.frame good_glyph (Below.sameB hB2 hhi)) (Nat.le_trans hhi hB2.size) ((hm.out.set.mono (by omega)).gl hr.out.2.2.2.1.1).1 (hm.out.set.mono (by omega)).g hs.out.set).mono ?_
  rintro e w3 ⟨rfl, hb3⟩
  have hB3 := hB2.trans (hb3.mono hB2.size)
  have hz3 := Lib.hid ((hb3.block _ hzl2).trans hz2.out)
  have hx3 := Lib.hid (hx2.out.below hb3 (Nat.lt_of_lt_of_le hp hB2.size))
  have hzl3 : w.heap.size < w3.heap.size := Nat.lt_of_lt_of_le hzl2 hb3.size
  clear hb3 hx2 hz2 hzl2
  cases tG with
  | false =>
    have htf : t = false := by rw [ht.out]; simp
    subst htf
    go_wp2_with fail
    go_ret
    exact ⟨rfl, hB3⟩
  | true =>
  go_wp2_with fail
  refine (l13Ok_any p 13 _ _ _ lo hi d.shape tR hR.out _ hx3.out.2.2.2.2.2.2.2.2.2.2.2.2.2 (hr.out.2.2.2.2.2.frame good_ring (Below.sameB hB3 hhi)) (Nat.le_trans hhi hB3.size) m1 hm.out.shape.2).mono ?_
  rintro e w4 ⟨rfl, hb4⟩
  have hB4 := hB3.trans (hb4.mono hB3.size)
  have hz4 := Lib.hid ((hb4.block _ hzl3).trans hz3.out)
  have hx4 := Lib.hid (hx3.out.below hb4 (Nat.lt_of_lt_of_le hp hB3.size))
  have hzl4 : w.heap.size < w4.heap.size := Nat.lt_of_lt_of_le hzl3 hb4.size
  clear hb4 hx3 hz3 hzl3
  cases tR with
  | false =>
    have htf : t = false := by rw [ht.out]; simp
    subst htf
    go_wp2_with fail
    go_ret
    exact ⟨rfl, hB4⟩
  | true =>
  have htt : t = sceneT d := by rw [ht.out]; rfl
  clear ht
  replace htt := Lib.hid htt
  have c5 : w4.cell? ⟨p, 5, none⟩ = some (.bool d.isOpen) := hx4.out.2.2.2.2.2.1
  have c9 : w4.cell? ⟨p, 9, none⟩ = some (.slice h.now.out.A h.now.out.n h.now.out.c) := hx4.out.2.2.2.2.2.2.2.2.2.1
  have c13 : w4.cell? ⟨p, 13, none⟩ = some (.slice h.shape.A h.shape.n h.shape.c) := hx4.out.2.2.2.2.2.2.2.2.2.2.2.2.2
  have hpw : p < w4.heap.size := Nat.lt_of_lt_of_le hp hB4.size
  have hlo := Lib.hid hr.out.2.2.2.2.1.1.1
  have hls := Lib.hid hr.out.2.2.2.2.2.1
  by_cases ho : d.isOpen = true
  · have hts : t = (glyphOk d.now && decide (d.now.out.length = 0)) := by rw [htt.out, sceneT, if_pos ho]
    obtain ⟨tN, hN⟩ : ∃ u, u = glyphOk d.now := ⟨_, rfl⟩
    rw [← hN, hlo.out] at hts
    replace hts := Lib.hid hts
    rw [ho] at c5
    have hcall := Lib.hid (l17Glyph_any p 6 d.now h.now tN hN lo hi w4 hpw hx4.out.now (hr.out.2.2.2.2.1.frame (Below.sameB hB4 hhi)) (Nat.le_trans hhi hB4.size) (hm.out.now.mono (by omega)) ⟨hs.out.now.1, hs.out.now.2.1, hs.out.now.2.2⟩)
    replace hN := Lib.hid hN
    clear ho
    go_wp2_with fail
    refine hcall.out.mono ?_
    rintro e w5 ⟨rfl, hb5⟩
    have hB5 := hB4.trans (hb5.mono hB4.size)
    have d9 := (hb5.cell (p := ⟨p, 9, none⟩) hpw).trans c9
    have hpx : p < w5.heap.size := Nat.lt_of_lt_of_le hpw hb5.size
    clear hb5
    cases tN with
    | false =>
      have htf : t = false := by rw [hts.out]; rfl
      subst htf
      go_wp2_with fail
      go_ret
      exact ⟨rfl, hB5⟩
    | true =>
      have htq : t = decide (h.now.out.n = 0) := by rw [hts.out]; rfl
      replace htq := Lib.hid htq
      go_wp2_with fail
      go_ret
      exact ⟨by rw [htq.out]; simp; rw [Bool.eq_iff_iff]; simp, hB5⟩
  · have ho' : d.isOpen = false := by simpa using ho
    have hts : t = (decide (d.now = zGl) && decide (d.shape.length = 0)) := by rw [htt.out, sceneT, if_neg ho]
    obtain ⟨tN, hN⟩ : ∃ u, u = decide (d.now = zGl) := ⟨_, rfl⟩
    rw [← hN, hls.out] at hts
    replace hts := Lib.hid hts
    rw [ho'] at c5
    have hcall := Lib.hid (l17Same_gl p 6 w.heap.size 0 d.now zGl h.now zGlH tN hN lo hi 0 0 w4 hpw hzl4 hx4.out.now (glC_cells hz4.out rfl) (hr.out.2.2.2.2.1.frame (Below.sameB hB4 hhi)) (zGl_rd _ _ _) (Nat.le_trans hhi hB4.size) (Nat.zero_le _) (hm.out.now.mono (by omega)) (by constructor <;> simp))
    replace hN := Lib.hid hN
    clear ho ho'
    go_wp2_with fail
    refine hcall.out.mono ?_
    rintro e w5 ⟨rfl, hb5⟩
    have hB5 := hB4.trans (hb5.mono hB4.size)
    have d13 := (hb5.cell (p := ⟨p, 13, none⟩) hpw).trans c13
    have hpx : p < w5.heap.size := Nat.lt_of_lt_of_le hpw hb5.size
    clear hb5
    cases tN with
    | false =>
      have htf : t = false := by rw [hts.out]; rfl
      subst htf
      go_wp2_with fail
      go_ret
      exact ⟨rfl, hB5⟩
    | true =>
      have htq : t = decide (h.shape.n = 0) := by rw [hts.out]; rfl
      replace htq := Lib.hid htq
      go_wp2_with fail
      go_ret
      exact ⟨by rw [htq.out]; simp; rw [Bool.eq_iff_iff]; simp, hB5⟩

end Go.Proofs.YtfkidklpjiiclaaGreat

