/- The law FnGlyphs: its walk. Printed by lawgs.py. Conditions: as it states. -/
import Derived.Deep.RegionHeld3
import Derived.Lib.QuietBelow
import Derived.Deep.CutRange
import Derived.Test.YtgdkabljgabjoaaGreatDoorGw21
import Derived.Test.YtgdkabljgabjoaaGreatDoorGw38
import Derived.Test.YtgdkabljgabjoaaGreatDoorGw42
import Derived.Test.YtgdkabljgabjoaaGreatDoorGw43
import Derived.Test.YtgdkabljgabjoaaGreatDoorGw18
import Derived.Test.YtgdkabljgabjoaaGreatDoorGw19
import Derived.Test.YtgdkabljgabjoaaGreatDoorGw45
namespace Go.Proofs.YtgdkabljgabjoaaGreatDoor
open Go.RowKit
set_option linter.unusedVariables false
set_option maxRecDepth 100000
set_option maxRecDepth 100000

theorem a2LongG_any (A0 : Option Addr) (n0 c0 : Nat) (b : Bool) (hb : b = decide ((3000 : Int) < (n0 : Int))) (w : World) (h0 : n0 ≤ 9223372036854775807) :
    Calls Tryz.prog 16 #[.slice A0 n0 c0, .slice none 0 0] w fun e w' => e = .returned (.bool b) ∧ w = w' := by
  replace hb := Lib.hid hb
  by_cases h2 : (3000 : Int) < (n0 : Int)
  all_goals
    go_enter Tryz.func16, Tryz.ntmps16
    go_wp2_with fail
    go_ret
    exact ⟨ret_bool (by rw [hb.out]; simp [h2]), rfl⟩
theorem flat_int (U : List Int) : U.flatMap intC = U.map (.int .i64) := by
  induction U with
  | nil => rfl
  | cons a U ih => rw [List.flatMap_cons, List.map_cons, ih]; rfl
theorem drawn_text {d : GSet} (h : setOk d = true) (hl : d.gl.length ≤ 7) : (bS (setT d)).size ≤ 1048576 := by
  have h1 := setOk_is h
  rw [bS_size, setT_cut]
  have h2 : (d.gl.flatMap glyphT).length ≤ 7 * 33000 := by
    have h3 : ∀ L : List Gl, (∀ g ∈ L, (glyphT g).length ≤ 33000) → (L.flatMap glyphT).length ≤ L.length * 33000 := fun L hL => by
      induction L with
      | nil => simp
      | cons a L ih =>
        have h4 := ih fun g hg => hL g (by simp [hg])
        have h5 := hL a (by simp)
        rw [List.flatMap_cons, List.length_append, List.length_cons]
        omega
    have := h3 d.gl fun g hg => glyphT_max (glyphOk_is (h1.g g hg))
    have : d.gl.length * 33000 ≤ 7 * 33000 := Nat.mul_le_mul_right _ hl
    omega
  have h6 := decL_len (n := d.unit) (by have := h1.unit; omega) (by have := h1.unit; omega)
  rw [List.length_append, List.length_cons]
  unfold unitW
  rw [List.length_append, List.length_cons, List.length_cons, List.length_cons, List.length_cons, List.length_cons, List.length_nil]
  omega
set_option maxHeartbeats 16000000 in
theorem lawGlyphs_walk (A0 : Option Addr) (n0 c0 : Nat) (L0 : List Int) {w : World} (hr0 : RdS 1 u8R w 0 w.heap.size A0 n0 L0) (hm0 : n0 ≤ maxLen) (hm : MaxI w) :
    Calls Tryz.prog 5 #[.slice A0 n0 c0] w fun e w' => e = .returned (.bool true) ∧ Below w.heap.size w w' := by
  unfold maxLen at hm0
  have hml := hm.lt
  obtain ⟨b, hb⟩ : ∃ b : Bool, b = decide ((3000 : Int) < (n0 : Int)) := ⟨_, rfl⟩
  have hlong := Lib.hid (a2LongG_any A0 n0 c0 b hb w (by omega))
  cases b
  rotate_left
  · clear hb hr0
    go_enter Tryz.func5, Tryz.ntmps5
    go_wp2_with fail
    refine hlong.out.mono ?_
    rintro e w' ⟨rfl, rfl⟩
    go_wp2_with fail
    go_ret
    exact ⟨rfl, Below.refl _ _⟩
  have hn0 : n0 ≤ 3000 := by simp at hb; omega
  clear hb
  have hset := Lib.hid (A2Set_any A0 n0 c0 0 w.heap.size L0 w hr0 (Nat.le_refl _) (by omega))
  clear hr0
  replace hm := Lib.hid hm
  go_enter Tryz.func5, Tryz.ntmps5
  go_wp2_with fail
  refine hlong.out.mono ?_
  rintro e w' ⟨rfl, rfl⟩
  go_wp2_with fail
  refine hset.out.mono ?_
  rintro e w1 ⟨d, A, n, c, ys, hs, iv, rfl, hok, hl, hdr, hx, hB1⟩
  have hlen : d.gl.length = n := hx.1
  have hn7 : n ≤ 7 := by omega
  have hz1 := hB1.size
  have hbb : Below w1.heap.size w1 (w1.alloc (.cells #[.int .i64 d.unit, .slice A n c] 36 (0, 0))) := Go.Joins.below_alloc1 _ _
  have hS2 := Lib.hid (heap_alloc_new w1 (.cells #[.int .i64 d.unit, .slice A n c] 36 (0, 0)))
  have hB2 := Lib.hid (hB1.trans (hbb.mono hz1))
  have hz2 := Lib.hid (show w1.heap.size + 1 = (w1.alloc (.cells #[.int .i64 d.unit, .slice A n c] 36 (0, 0))).heap.size by simp)
  have hrc2 := Lib.hid ((hx.rdc fun g hg => (hdr g hg).outSm).frame good_glyphc (Below.sameB hbb (Nat.le_refl _)))
  have hsm : d.small 1000000000 := ⟨by omega, fun g hg => (hdr g hg).small⟩
  have hst : ∀ g ∈ d.gl, g.str := fun g hg => (hdr g hg).str
  have hsmG := Lib.hid (fun g (hg : g ∈ d.gl) => (hdr g hg).small)
  have hsmO := Lib.hid (fun g (hg : g ∈ d.gl) => (hdr g hg).outSm)
  have htx := drawn_text hok hl
  have hsr : setR d = bS (setT d) := by unfold setR; rw [if_pos hok]
  clear hB1 hbb hx hlong hset hdr
  replace hok := Lib.hid hok
  replace hsm := Lib.hid hsm
  replace hst := Lib.hid hst
  replace hlen := Lib.hid hlen
  obtain ⟨TX, hTX⟩ : ∃ TX, TX = bS (setT d) := ⟨_, rfl⟩
  rw [← hTX] at htx hsr
  replace hTX := Lib.hid hTX
  go_upto_region 4 with fail
  generalize w1.alloc (.cells #[.int .i64 d.unit, .slice A n c] 36 (0, 0)) = w2 at *
  obtain ⟨S, hSe⟩ : ∃ S, S = w1.heap.size := ⟨_, rfl⟩
  rw [← hSe] at hS2 hz2 hrc2 hz1 ⊢
  clear hSe
  have hz2' := hz2.out
  have hset : ∀ W, Below w2.heap.size w2 W → (W.cell? ⟨S, 0, none⟩ = some (.int .i64 d.unit) ∧ W.cell? ⟨S, 1, none⟩ = some (.slice A n c)) ∧ GSetRc W w.heap.size S d ⟨⟨A, n, c⟩⟩ ∧ S < W.heap.size ∧ S ≤ W.heap.size ∧ MaxI W ∧ Below w.heap.size w W := fun W hW => by
    have h1 := (hW.block S (by omega)).trans hS2.out
    have h2 := hW.size
    exact ⟨⟨by rw [Go.Joins.cell_of_block h1]; rfl, by rw [Go.Joins.cell_of_block h1]; rfl⟩, hrc2.out.frame good_glyphc (Below.sameB hW (by omega)), by omega, by omega, hm.out.kept (hB2.out.trans (hW.mono hB2.out.size)) hml, hB2.out.trans (hW.mono hB2.out.size)⟩
  replace hset := Lib.hid hset
  clear hS2 hB2 hrc2 hz2
  -- region 4: the text, and the set read from it
  obtain ⟨⟨s0, s1⟩, src, sl, sl', smx, sbw⟩ := hset.out w2 (Below.refl _ _)
  have hcl := Lib.hid (implSetText_any d ⟨⟨A, n, c⟩⟩ TX hsr.symm w.heap.size S w2 src sl' hsm.out hst.out)
  replace sbw := Lib.hid sbw
  replace smx := Lib.hid smx
  clear src
  go_wp2_with fail
  refine hcl.out.mono ?_
  rintro e w3 ⟨rfl, hb3⟩
  obtain ⟨⟨-, -⟩, -, -, -, hm3, -⟩ := hset.out w3 hb3
  have hz3 := hb3.size
  clear hcl s0 s1 sl sl'
  go_wp2_with fail
  refine (implReadSet_any TX w3 hm3 htx).mono ?_
  rintro e w4 ⟨u, L, A4, n4, c4, ys4, hs4, iv4, t4, rfl, -, huniq, hx4, hb4⟩
  obtain ⟨rfl, rfl, rfl⟩ := huniq d hok.out (by rw [hTX.out, bS_data])
  have hz4 := hb4.size
  have hb24 := hb3.trans (hb4.mono hz3)
  have hbb : Below w4.heap.size w4 (w4.alloc (.cells #[.int .i64 d.unit, .slice A4 n4 c4] 36 (0, 0))) := Go.Joins.below_alloc1 _ _
  have hb5 := Lib.hid (hb24.trans (hbb.mono (by omega)))
  have hK5 := Lib.hid (heap_alloc_new w4 (.cells #[.int .i64 d.unit, .slice A4 n4 c4] 36 (0, 0)))
  have hz5 := Lib.hid (show w4.heap.size + 1 = (w4.alloc (.cells #[.int .i64 d.unit, .slice A4 n4 c4] 36 (0, 0))).heap.size by simp)
  have hx5 := Lib.hid ((hx4.rdc fun g hg => (hsmO.out g hg)).frame good_glyphc (Below.sameB hbb (Nat.le_refl _)))
  clear hx4 hb4 hb24 hbb hb3 huniq sbw smx hm3
  go_upto_region 5 with fail
  generalize w4.alloc (.cells #[.int .i64 d.unit, .slice A4 n4 c4] 36 (0, 0)) = w5 at *
  obtain ⟨K, hKe⟩ : ∃ K, K = w4.heap.size := ⟨_, rfl⟩
  rw [← hKe] at hK5 hz5 hx5 hz4 ⊢
  clear hKe
  have hz5' := hz5.out
  obtain ⟨⟨s0, s1⟩, src, sl, sl', -, -⟩ := hset.out w5 hb5.out
  have k0 : w5.cell? ⟨K, 0, none⟩ = some (.int .i64 d.unit) := by rw [Go.Joins.cell_of_block hK5.out]; rfl
  have k1 : w5.cell? ⟨K, 1, none⟩ = some (.slice A4 n4 c4) := by rw [Go.Joins.cell_of_block hK5.out]; rfl
  have kl : K < w5.heap.size := by omega
  have hn4 : n4 ≤ 7 := by have := hx5.out.1; have := hlen.out; omega
  have hcl := Lib.hid (specSameGS_any d.unit d.unit A4 A n4 c4 n c w3.heap.size K w.heap.size S d.gl d.gl true (by simp) w5 (GsRc.rd hx5.out) (GsRc.rd src) (by omega) sl' (by omega) (by omega) hsmG.out hsmG.out)
  replace src := Lib.hid src
  go_wp2_with fail
  refine hcl.out.mono ?_
  rintro e w6 ⟨rfl, hb6⟩
  have hz6 := hb6.size
  have hb26 := Lib.hid (hb5.out.trans (hb6.mono hb5.out.size))
  clear s0 s1 sl sl' k0 k1 kl hcl src hb6 hK5 hx5 hb5
  have hz26 := hb26.out.size
  obtain ⟨⟨s0, s1⟩, -, sl, -, -, -⟩ := hset.out w6 hb26.out
  go_wp2_with fail
  clear s0 s1 sl
  go_loopw [6] (fun iv wr => ∃ k : Nat, iv = .int .i64 k ∧ k ≤ n ∧ Below w2.heap.size w2 wr) (fun iv wr => n - (intOf iv).toNat)
  case atStart => exact ⟨0, rfl, Nat.zero_le _, hb26.out⟩
  case round =>
    clear hb26
    obtain ⟨k, rfl, hk, hbr⟩ := hrel
    obtain ⟨⟨s0, s1⟩, src, sl, sl', -, sbw⟩ := hset.out wr hbr
    replace hbr := Lib.hid hbr
    by_cases hlt : k < n
    rotate_left
    · have hti : ¬ (k : Int) < (n : Int) := by omega
      replace sbw := Lib.hid sbw
      clear src
      go_wp2_with fail
      go_ret
      exact ⟨rfl, sbw.out⟩
    have hti : (k : Int) < (n : Int) := by omega
    have hti0 : (0 : Int) ≤ (k : Int) ∧ (k : Int) < (n : Int) := by omega
    obtain ⟨bA, oA, g, hh, rfl, _, hbA, hg, hgc, hgr, hga⟩ := gs_atc src hlt
    have e0 := hgc 0 _ rfl
    have e1 := hgc 1 _ rfl
    have e2 := hgc 2 _ rfl
    have e3 := hgc 3 _ rfl
    have e4 := hgc 4 _ rfl
    have e5 := hgc 5 _ rfl
    have e6 := hgc 6 _ rfl
    simp only [Nat.add_zero] at e0
    have hbAl : bA < wr.heap.size := by omega
    have hgok : glyphOk g = true := (set_is hok.out).2.1 g (List.mem_of_getElem? hg)
    replace hg := Lib.hid hg
    replace hgr := Lib.hid hgr
    clear hgc src sbw
    -- the glyph's box
    have hbb : Below wr.heap.size wr (wr.alloc (.cells #[.string g.name, .int .i64 g.code, .int .i64 g.adv, .slice hh.out.A hh.out.n hh.out.c, .slice hh.parts.A hh.parts.n hh.parts.c, .slice hh.anchors.A hh.anchors.n hh.anchors.c, .string g.hints] 28 (0, 0))) := Go.Joins.below_alloc1 _ _
    have hG1 := Lib.hid (heap_alloc_new wr (.cells #[.string g.name, .int .i64 g.code, .int .i64 g.adv, .slice hh.out.A hh.out.n hh.out.c, .slice hh.parts.A hh.parts.n hh.parts.c, .slice hh.anchors.A hh.anchors.n hh.anchors.c, .string g.hints] 28 (0, 0)))
    have hz1g := Lib.hid (show wr.heap.size + 1 = (wr.alloc (.cells #[.string g.name, .int .i64 g.code, .int .i64 g.adv, .slice hh.out.A hh.out.n hh.out.c, .slice hh.parts.A hh.parts.n hh.parts.c, .slice hh.anchors.A hh.anchors.n hh.anchors.c, .string g.hints] 28 (0, 0))).heap.size by simp)
    have hb1 := Lib.hid (hbr.out.trans (hbb.mono hbr.out.size))
    have hgr1 := Lib.hid (hgr.out.frame (Below.sameB hbb sl'))
    clear hbb hgr
    go_upto_region 11 with fail
    have hSG : S < wr.heap.size := sl
    clear s0 s1 sl sl' e0 e1 e2 e3 e4 e5 e6
    generalize wr.alloc (.cells #[.string g.name, .int .i64 g.code, .int .i64 g.adv, .slice hh.out.A hh.out.n hh.out.c, .slice hh.parts.A hh.parts.n hh.parts.c, .slice hh.anchors.A hh.anchors.n hh.anchors.c, .string g.hints] 28 (0, 0)) = x1 at *
    obtain ⟨G, hGe⟩ : ∃ G, G = wr.heap.size := ⟨_, rfl⟩
    rw [← hGe] at hG1 hz1g hSG ⊢
    replace hGe := Lib.hid hGe
    have hzG := hz1g.out
    have hk7i : askR d (k : Int) = 0 := gs_ask hok.out (by have := hlen.out; omega)
    obtain ⟨hc2, hwz, hw5⟩ := gs_whole hok.out hg.out
    obtain ⟨hd2, hd0, hdz, _⟩ := gs_dep hok.out hg.out
    have hnm := gs_named hok.out hg.out
    obtain ⟨C, hC⟩ : ∃ C, C = (cntR d (k : Int)).1 := ⟨_, rfl⟩
    obtain ⟨D, hD⟩ : ∃ D, D = (depR d (k : Int)).1 := ⟨_, rfl⟩
    have hcr : cntR d (k : Int) = (C, 0) := by rw [hC, ← hc2]
    have hdr : depR d (k : Int) = (D, 0) := by rw [hD, ← hd2]
    rw [← hC] at hwz hw5
    rw [← hD] at hd0 hdz
    have hD41 : D ≤ 100 := by
      have := (depF_bd (tgts d.gl) (order (tgts d.gl)) (k : Int)).2
      have h2 := (set_is hok.out).2.2
      have h3 := hlen.out
      rw [hD]; unfold depR; rw [if_pos hk7i]; omega
    have hC13 : C ≤ 13 := by
      rw [hC]; unfold cntR; rw [if_pos hk7i]; exact (cntF_bd _ _ _).2
    have hC0 : 0 ≤ C := by
      rw [hC]; unfold cntR; rw [if_pos hk7i]; exact (cntF_bd _ _ _).1
    obtain ⟨R, hR⟩ : ∃ R, R = whoR d (k : Int) := ⟨_, rfl⟩
    rw [← hR] at hwz hw5
    obtain ⟨U, hU⟩ : ∃ U, U = useU d (k : Int) := ⟨_, rfl⟩
    have hus : Hid (∀ y ∈ U, (depR d y).2 = 0 ∧ D < (depR d y).1) := fun y hy => by
      rw [hU] at hy
      have := gs_user hok.out hy
      rw [hD]; exact this
    have hUl : U.length ≤ 40 := by
      rw [hU]; unfold useU; rw [if_pos hk7i]
      have h1 := usersT_len (L := d.gl) (x := (k : Int)) (k := d.gl.length)
      have h2 := hlen.out
      omega
    replace hC := Lib.hid hC
    replace hD := Lib.hid hD
    replace hR := Lib.hid hR
    replace hU := Lib.hid hU
    replace hcr := Lib.hid hcr
    replace hdr := Lib.hid hdr
    replace hwz := Lib.hid hwz
    replace hw5 := Lib.hid hw5
    replace hdz := Lib.hid hdz
    replace hnm := Lib.hid hnm
    clear hc2 hd2
    -- the count
    have hG := hG1
    clear hG1
    obtain ⟨⟨s0, s1⟩, src, sl, sl', smx, -⟩ := hset.out x1 hb1.out
    replace src := Lib.hid src
    have hcl := Lib.hid (implLoopCount_any d ⟨⟨some ⟨bA, oA, none⟩, n, c⟩⟩ (k : Int) C 0 hcr.out.symm w.heap.size S x1 src.out sl' hsm.out hst.out)
    go_wp2_with fail
    refine hcl.out.mono ?_
    rintro e x2 ⟨rfl, hb⟩
    have hz2g := hb.size
    have hb2 := Lib.hid (hb1.out.trans (hb.mono hb1.out.size))
    replace hG := Lib.hid ((hb.block G (by omega)).trans hG.out)
    replace hgr1 := Lib.hid (hgr1.out.frame (Below.sameB hb (by omega)))
    clear s0 s1 sl sl' smx hcl hb hb1
    -- the depth
    obtain ⟨⟨s0, s1⟩, src, sl, sl', smx, -⟩ := hset.out x2 hb2.out
    replace src := Lib.hid src
    have hcl := Lib.hid (implGlyphDepth_any d ⟨⟨some ⟨bA, oA, none⟩, n, c⟩⟩ (k : Int) D 0 hdr.out.symm w.heap.size S x2 src.out sl' hsm.out hst.out)
    go_wp2_with fail
    refine hcl.out.mono ?_
    rintro e x3 ⟨rfl, hb⟩
    have hz3g := hb.size
    have hb3 := Lib.hid (hb2.out.trans (hb.mono hb2.out.size))
    replace hG := Lib.hid ((hb.block G (by omega)).trans hG.out)
    replace hgr1 := Lib.hid (hgr1.out.frame (Below.sameB hb (by omega)))
    clear s0 s1 sl sl' smx hcl hb hb2
    -- the whole outline
    obtain ⟨⟨s0, s1⟩, src, sl, sl', smx, -⟩ := hset.out x3 hb3.out
    replace src := Lib.hid src
    have hcl := Lib.hid (implWhole_any d ⟨⟨some ⟨bA, oA, none⟩, n, c⟩⟩ (k : Int) R hR.out w.heap.size S x3 src.out sl' hsm.out hst.out)
    go_wp2_with fail
    refine hcl.out.mono ?_
    rintro e x4 ⟨Ao, no, co, rfl, hown, hb⟩
    have hz4g := hb.size
    have hb4 := Lib.hid (hb3.out.trans (hb.mono hb3.out.size))
    replace hG := Lib.hid ((hb.block G (by omega)).trans hG.out)
    replace hgr1 := Lib.hid (hgr1.out.frame (Below.sameB hb (by omega)))
    have hnoR : R.1.length = no := (by obtain ⟨_, h, _⟩ := hown; exact h)
    clear hown
    clear s0 s1 sl sl' smx hcl hb hb3
    have hb : Below x4.heap.size x4 (x4.alloc (.cells #[.slice Ao no co] 24 (0, 0))) := Go.Joins.below_alloc1 _ _
    have hO := Lib.hid (heap_alloc_new x4 (.cells #[.slice Ao no co] 24 (0, 0)))
    have hq5 := Lib.hid (show x4.heap.size + 1 = (x4.alloc (.cells #[.slice Ao no co] 24 (0, 0))).heap.size by simp)
    have hb5 := Lib.hid (hb4.out.trans (hb.mono hb4.out.size))
    replace hG := Lib.hid ((hb.block G (by omega)).trans hG.out)
    replace hgr1 := Lib.hid (hgr1.out.frame (Below.sameB hb (by omega)))
    clear hb hb4
    go_upto_region 14 with fail
    generalize x4.alloc (.cells #[.slice Ao no co] 24 (0, 0)) = x5 at *
    obtain ⟨O, hOe⟩ : ∃ B, B = x4.heap.size := ⟨_, rfl⟩
    rw [← hOe] at hO hq5 hz4g ⊢
    have hq5' := hq5.out
    replace hOe := Lib.hid hOe
    -- the users
    obtain ⟨⟨s0, s1⟩, src, sl, sl', smx, -⟩ := hset.out x5 hb5.out
    replace src := Lib.hid src
    have hcl := Lib.hid (implGlyphUsers_any d ⟨⟨some ⟨bA, oA, none⟩, n, c⟩⟩ (k : Int) U 0 hU.out hk7i.symm w.heap.size S x5 src.out sl' hsm.out hst.out)
    go_wp2_with fail
    refine hcl.out.mono ?_
    rintro e x6 ⟨Au, cu, rfl, hu, hb⟩
    have hz6g := hb.size
    have hb6 := Lib.hid (hb5.out.trans (hb.mono hb5.out.size))
    replace hG := Lib.hid ((hb.block G (by omega)).trans hG.out)
    replace hO := Lib.hid ((hb.block O (by omega)).trans hO.out)
    replace hgr1 := Lib.hid (hgr1.out.frame (Below.sameB hb (by omega)))
    replace hu := Lib.hid hu
    clear s0 s1 sl sl' smx hcl hb hb5
    -- the name
    obtain ⟨⟨s0, s1⟩, src, sl, sl', smx, -⟩ := hset.out x6 hb6.out
    replace src := Lib.hid src
    have g0 : x6.cell? ⟨G, 0, none⟩ = some (.string g.name) := by rw [Go.Joins.cell_of_block hG.out]; rfl
    have gl : G < x6.heap.size := by omega
    have hcl := Lib.hid (implGlyphNamed_any d ⟨⟨some ⟨bA, oA, none⟩, n, c⟩⟩ g.name (k : Int) true hnm.out.symm w.heap.size S x6 src.out sl' hsm.out hst.out)
    go_wp2_with fail
    refine hcl.out.mono ?_
    rintro e x7 ⟨rfl, hb⟩
    have hz7g := hb.size
    have hb7 := Lib.hid (hb6.out.trans (hb.mono hb6.out.size))
    replace hG := Lib.hid ((hb.block G (by omega)).trans hG.out)
    replace hO := Lib.hid ((hb.block O (by omega)).trans hO.out)
    replace hgr1 := Lib.hid (hgr1.out.frame (Below.sameB hb (by omega)))
    replace hu := Lib.hid (own_below hu.out hb)
    clear g0 gl
    clear s0 s1 sl sl' smx hcl hb hb6
    -- the glyph's text and what is read from it
    obtain ⟨⟨s0, s1⟩, src, sl, sl', smx, -⟩ := hset.out x7 hb7.out
    replace src := Lib.hid src
    have g0 : x7.cell? ⟨G, 0, none⟩ = some (.string g.name) := by rw [Go.Joins.cell_of_block hG.out]; rfl
    have g1 : x7.cell? ⟨G, 1, none⟩ = some (.int .i64 g.code) := by rw [Go.Joins.cell_of_block hG.out]; rfl
    have g2 : x7.cell? ⟨G, 2, none⟩ = some (.int .i64 g.adv) := by rw [Go.Joins.cell_of_block hG.out]; rfl
    have g3 : x7.cell? ⟨G, 3, none⟩ = some (.slice hh.out.A hh.out.n hh.out.c) := by rw [Go.Joins.cell_of_block hG.out]; rfl
    have g4 : x7.cell? ⟨G, 4, none⟩ = some (.slice hh.parts.A hh.parts.n hh.parts.c) := by rw [Go.Joins.cell_of_block hG.out]; rfl
    have g5 : x7.cell? ⟨G, 5, none⟩ = some (.slice hh.anchors.A hh.anchors.n hh.anchors.c) := by rw [Go.Joins.cell_of_block hG.out]; rfl
    have g6 : x7.cell? ⟨G, 6, none⟩ = some (.string g.hints) := by rw [Go.Joins.cell_of_block hG.out]; rfl
    have gl : G < x7.heap.size := by omega
    have hcl := Lib.hid (implGlyphText_any g hh w.heap.size S x7 hgr1.out sl' (hsmG.out g (List.mem_of_getElem? hg.out)) (hst.out g (List.mem_of_getElem? hg.out)) hga)
    obtain ⟨TG, hTG⟩ : ∃ TG, TG = glR g := ⟨_, rfl⟩
    have hTG2 : TG = bS (glyphT g) := by rw [hTG]; unfold glR; rw [if_pos hgok]
    have hTGs : TG.size ≤ 1048576 := by rw [hTG2, bS_size]; exact Nat.le_trans (glyphT_max (glyphOk_is hgok)) (by decide)
    rw [← hTG] at hcl
    replace hTG := Lib.hid hTG
    replace hTG2 := Lib.hid hTG2
    go_wp2_with fail
    refine hcl.out.mono ?_
    rintro e x8 ⟨rfl, hb⟩
    have hz8g := hb.size
    have hb8 := Lib.hid (hb7.out.trans (hb.mono hb7.out.size))
    replace hG := Lib.hid ((hb.block G (by omega)).trans hG.out)
    replace hO := Lib.hid ((hb.block O (by omega)).trans hO.out)
    replace hgr1 := Lib.hid (hgr1.out.frame (Below.sameB hb (by omega)))
    replace hu := Lib.hid (own_below hu.out hb)
    clear g0 g1 g2 g3 g4 g5 g6 gl
    clear s0 s1 sl sl' smx hcl hb hb7
    obtain ⟨⟨s0, s1⟩, src, sl, sl', smx, -⟩ := hset.out x8 hb8.out
    replace src := Lib.hid src
    have hcl := Lib.hid (implReadGlyph_any TG x8 smx hTGs)
    go_wp2_with fail
    refine hcl.out.mono ?_
    rintro e x9 ⟨g', hT, tT, rfl, -, huq, hxT, hb⟩
    have hz9g := hb.size
    have hb9 := Lib.hid (hb8.out.trans (hb.mono hb8.out.size))
    replace hG := Lib.hid ((hb.block G (by omega)).trans hG.out)
    replace hO := Lib.hid ((hb.block O (by omega)).trans hO.out)
    replace hgr1 := Lib.hid (hgr1.out.frame (Below.sameB hb (by omega)))
    replace hu := Lib.hid (own_below hu.out hb)
    obtain ⟨rfl, he⟩ := huq g hgok (by rw [hTG2.out, bS_data])
    obtain rfl := he.symm
    have hgT := Lib.hid (hxT.rd (hsmO.out _ (List.mem_of_getElem? hg.out)))
    clear huq hxT
    clear s0 s1 sl sl' smx hcl hb hb8
    have hb : Below x9.heap.size x9 (x9.alloc (.cells #[.string g.name, .int .i64 g.code, .int .i64 g.adv, .slice hT.out.A hT.out.n hT.out.c, .slice hT.parts.A hT.parts.n hT.parts.c, .slice hT.anchors.A hT.anchors.n hT.anchors.c, .string g.hints] 28 (0, 0))) := Go.Joins.below_alloc1 _ _
    have hTb := Lib.hid (heap_alloc_new x9 (.cells #[.string g.name, .int .i64 g.code, .int .i64 g.adv, .slice hT.out.A hT.out.n hT.out.c, .slice hT.parts.A hT.parts.n hT.parts.c, .slice hT.anchors.A hT.anchors.n hT.anchors.c, .string g.hints] 28 (0, 0)))
    have hq10 := Lib.hid (show x9.heap.size + 1 = (x9.alloc (.cells #[.string g.name, .int .i64 g.code, .int .i64 g.adv, .slice hT.out.A hT.out.n hT.out.c, .slice hT.parts.A hT.parts.n hT.parts.c, .slice hT.anchors.A hT.anchors.n hT.anchors.c, .string g.hints] 28 (0, 0))).heap.size by simp)
    have hb10 := Lib.hid (hb9.out.trans (hb.mono hb9.out.size))
    replace hG := Lib.hid ((hb.block G (by omega)).trans hG.out)
    replace hO := Lib.hid ((hb.block O (by omega)).trans hO.out)
    replace hgr1 := Lib.hid (hgr1.out.frame (Below.sameB hb (by omega)))
    replace hu := Lib.hid (own_below hu.out hb)
    replace hgT := Lib.hid (hgT.out.frame (Below.sameB hb (by omega)))
    clear hb hb9
    go_upto_region 17 with fail
    generalize x9.alloc (.cells #[.string g.name, .int .i64 g.code, .int .i64 g.adv, .slice hT.out.A hT.out.n hT.out.c, .slice hT.parts.A hT.parts.n hT.parts.c, .slice hT.anchors.A hT.anchors.n hT.anchors.c, .string g.hints] 28 (0, 0)) = x10 at *
    obtain ⟨T, hTe⟩ : ∃ B, B = x9.heap.size := ⟨_, rfl⟩
    rw [← hTe] at hTb hq10 hz9g hgT ⊢
    have hq10' := hq10.out
    replace hTe := Lib.hid hTe
    have hpn : g.parts.length = hh.parts.n := hgr1.out.2.1.1
    have hZ : ((D == 0) = true ∧ ((hh.parts.n : Int) == 0) = true) ∨ ((D == 0) = false ∧ ((hh.parts.n : Int) == 0) = false) := by
      by_cases h0 : g.parts.length = 0
      · exact .inl ⟨by rw [hdz.out.2 h0]; rfl, by rw [← hpn, h0]; rfl⟩
      · exact .inr ⟨by rw [beq_eq_false_iff_ne]; exact fun e => h0 (hdz.out.1 e), by rw [beq_eq_false_iff_ne]; omega⟩
    have g0 : x10.cell? ⟨G, 0, none⟩ = some (.string g.name) := by rw [Go.Joins.cell_of_block hG.out]; rfl
    have g1 : x10.cell? ⟨G, 1, none⟩ = some (.int .i64 g.code) := by rw [Go.Joins.cell_of_block hG.out]; rfl
    have g2 : x10.cell? ⟨G, 2, none⟩ = some (.int .i64 g.adv) := by rw [Go.Joins.cell_of_block hG.out]; rfl
    have g3 : x10.cell? ⟨G, 3, none⟩ = some (.slice hh.out.A hh.out.n hh.out.c) := by rw [Go.Joins.cell_of_block hG.out]; rfl
    have g4 : x10.cell? ⟨G, 4, none⟩ = some (.slice hh.parts.A hh.parts.n hh.parts.c) := by rw [Go.Joins.cell_of_block hG.out]; rfl
    have g5 : x10.cell? ⟨G, 5, none⟩ = some (.slice hh.anchors.A hh.anchors.n hh.anchors.c) := by rw [Go.Joins.cell_of_block hG.out]; rfl
    have g6 : x10.cell? ⟨G, 6, none⟩ = some (.string g.hints) := by rw [Go.Joins.cell_of_block hG.out]; rfl
    have t0 : x10.cell? ⟨T, 0, none⟩ = some (.string g.name) := by rw [Go.Joins.cell_of_block hTb.out]; rfl
    have t1 : x10.cell? ⟨T, 1, none⟩ = some (.int .i64 g.code) := by rw [Go.Joins.cell_of_block hTb.out]; rfl
    have t2 : x10.cell? ⟨T, 2, none⟩ = some (.int .i64 g.adv) := by rw [Go.Joins.cell_of_block hTb.out]; rfl
    have t3 : x10.cell? ⟨T, 3, none⟩ = some (.slice hT.out.A hT.out.n hT.out.c) := by rw [Go.Joins.cell_of_block hTb.out]; rfl
    have t4 : x10.cell? ⟨T, 4, none⟩ = some (.slice hT.parts.A hT.parts.n hT.parts.c) := by rw [Go.Joins.cell_of_block hTb.out]; rfl
    have t5 : x10.cell? ⟨T, 5, none⟩ = some (.slice hT.anchors.A hT.anchors.n hT.anchors.c) := by rw [Go.Joins.cell_of_block hTb.out]; rfl
    have t6 : x10.cell? ⟨T, 6, none⟩ = some (.string g.hints) := by rw [Go.Joins.cell_of_block hTb.out]; rfl
    have gl : G < x10.heap.size := by omega
    have tl : T < x10.heap.size := by omega
    have ol : O < x10.heap.size := by omega
    have o0 : x10.cell? ⟨O, 0, none⟩ = some (.slice Ao no co) := by rw [Go.Joins.cell_of_block hO.out]; rfl
    have hcl := Lib.hid (specSameG_any g g hT hh true (by simp) x8.heap.size T w.heap.size S x10 hgT.out hgr1.out (by omega) (by omega) (hsmG.out g (List.mem_of_getElem? hg.out)) (hsmG.out g (List.mem_of_getElem? hg.out)))
    have hthree : ((R.2 == 0) = true ∧ ((no : Int) != C) = false ∧ (R.2 == 5) = false) ∨ ((R.2 == 0) = false ∧ (R.2 == 5) = true ∧ ¬ C ≤ 12) ∨ ((R.2 == 0) = false ∧ (R.2 == 5) = false) := by
      by_cases h0 : R.2 = 0
      · left
        refine ⟨by rw [h0]; rfl, ?_, by rw [h0]; rfl⟩
        rw [← hnoR, hwz.out h0]; simp
      · right
        by_cases h5 : R.2 = 5
        · left
          exact ⟨by rw [h5]; rfl, by rw [h5]; rfl, by have := hw5.out h5; omega⟩
        · right
          exact ⟨by rw [beq_eq_false_iff_ne]; exact h0, by rw [beq_eq_false_iff_ne]; exact h5⟩
    clear hwz hw5 hpn hnoR hdz
    go_cut [127] from 41 to 166 (fun s127 wx => s127 = .bool false ∧ Below x10.heap.size x10 wx)
    case first =>
      rcases hZ with ⟨hZ1, hZ2⟩ | ⟨hZ1, hZ2⟩
      all_goals
        go_wp2_with (refine hcl.out.mono ?_; rintro e x11 ⟨rfl, hb⟩; have g4' : x11.cell? ⟨G, 4, none⟩ = some (.slice hh.parts.A hh.parts.n hh.parts.c) := (hb.cell (p := ⟨G, 4, none⟩) gl).trans g4; have gl' : G < x11.heap.size := Nat.lt_of_lt_of_le gl hb.size)
        go_meet
        exact ⟨rfl, hb⟩
    case rest =>
    obtain ⟨rfl, hbc⟩ := hcut
    generalize wc = x11 at *
    have hz11 := hbc.size
    have hb11 := Lib.hid (hb10.out.trans (hbc.mono hb10.out.size))
    have hu11 := Lib.hid (own_below hu.out hbc)
    replace o0 := (hbc.cell (p := ⟨O, 0, none⟩) ol).trans o0
    replace ol : O < x11.heap.size := by omega
    clear hcl g0 g1 g2 g3 g4 g5 g6 t0 t1 t2 t3 t4 t5 t6 gl tl hG hO hTb hgT hgr1 hu hb10 hZ hbc
    go_upto_region 19 with fail
    go_cut [144] from 41 to 166 (fun s144 wx => s144 = .bool false ∧ Below x11.heap.size x11 wx)
    case first =>
      rcases hthree with ⟨u1, u2, u3⟩ | ⟨u1, u2, u3⟩ | ⟨u1, u2⟩
      all_goals
        go_wp2_with fail
        go_meet
        exact ⟨rfl, Below.refl _ _⟩
    case rest =>
    obtain ⟨rfl, hbc⟩ := hcut
    generalize wc = x12 at *
    have hz12 := hbc.size
    have hb12 := Lib.hid (hb11.out.trans (hbc.mono hb11.out.size))
    have hu12 := Lib.hid (own_below hu11.out hbc)
    clear hthree o0 ol hb11 hu11 hbc
    go_wp2_with fail
    go_loopw [20] (fun iv xr => ∃ i : Nat, iv = .int .i64 i ∧ i ≤ U.length ∧ Below x12.heap.size x12 xr) (fun iv xr => U.length - (intOf iv).toNat)
    case atStart => exact ⟨0, rfl, Nat.zero_le _, Below.refl _ _⟩
    case round =>
      generalize wr = xr at *
      obtain ⟨i, rfl, hi, hbx⟩ := hrel
      have hbxr := Lib.hid (hb12.out.trans (hbx.mono hb12.out.size))
      obtain ⟨⟨s0, s1⟩, src, sl, sl', -, sbw⟩ := hset.out xr hbxr.out
      replace sbw := Lib.hid sbw
      by_cases hlu : i < U.length
      rotate_left
      · have htu : ¬ (i : Int) < (U.length : Int) := by omega
        clear src
        go_wp2_with fail
        go_roundw
        case rel => exact ⟨k + 1, by go_num, by omega, hbxr.out⟩
        case measure => simp [intOf]; omega
      have htu : (i : Int) < (U.length : Int) := by omega
      have htu0 : (0 : Int) ≤ (i : Int) ∧ (i : Int) < (U.length : Int) := by omega
      have hux := own_below hu12.out hbx
      obtain ⟨ub, rfl, hub1, hub2, _, hcell, _⟩ := own_at hux (by omega)
      obtain ⟨y, hy⟩ : ∃ y, U[i]? = some y := ⟨_, List.getElem?_eq_getElem hlu⟩
      have cu0 : xr.cell? ⟨ub, i, none⟩ = some (.int .i64 y) := by
        rw [hcell i (by omega)]
        have e : U.flatMap intC = U.map (.int .i64) := flat_int U
        rw [e]; simp [hy]
      obtain ⟨hy2, hyD⟩ := hus.out y (List.mem_of_getElem? hy)
      obtain ⟨D2, hD2⟩ : ∃ D2, D2 = (depR d y).1 := ⟨_, rfl⟩
      rw [← hD2] at hyD
      have hdy : (D2, (0 : Int)) = depR d y := by rw [hD2, ← hy2]
      replace src := Lib.hid src
      have hcall := Lib.hid (fun dr os => Calls.regrown_of (implGlyphDepth_any d ⟨⟨some ⟨bA, oA, none⟩, n, c⟩⟩ y D2 0 hdy w.heap.size S (Go.Sort.grow (redrawn xr dr) os) (src.out.frame good_glyphc (Below.sameB (below_regrown xr dr os) sl')) (Nat.le_trans sl' (below_regrown xr dr os).size) hsm.out hst.out))
      have sg0 : ∀ dr os, (Go.Sort.grow (redrawn xr dr) os).cell? ⟨S, 0, none⟩ = some (.int .i64 d.unit) := cell_regrown s0
      have sg1 : ∀ dr os, (Go.Sort.grow (redrawn xr dr) os).cell? ⟨S, 1, none⟩ = some (.slice (some ⟨bA, oA, none⟩) n c) := cell_regrown s1
      have sgu : ∀ dr os, (Go.Sort.grow (redrawn xr dr) os).cell? ⟨ub, i, none⟩ = some (.int .i64 y) := cell_regrown cu0
      replace hD2 := Lib.hid hD2
      replace hdy := Lib.hid hdy
      replace hy := Lib.hid hy
      replace hy2 := Lib.hid hy2
      clear hux hcell
      go_wp2_with fail
      refine wp_region_quiet_below (by kernel_rfl) (by kernel_rfl) ?_
      repeat (go_big_quiet_step (exact hcall.out _ _))
      refine wpQuiet_nil ?_
      intro _ hw'
      obtain ⟨⟨dq, osq⟩, hw2⟩ := hw'
      subst hw2
      have hb13 := Lib.hid (hbx.trans ((below_regrown xr dq osq).mono hbx.size))
      generalize Go.Sort.grow (redrawn xr dq) osq = x13 at hb13 ⊢
      have hyD2 : ¬ D2 ≤ D := by omega
      clear sg0 sg1 sgu hcall s0 s1 cu0
      go_wp2_with fail
      go_roundw
      case rel => exact ⟨i + 1, by go_num, by omega, hb13.out⟩
      case measure => simp [intOf]; omega
end Go.Proofs.YtgdkabljgabjoaaGreatDoor

