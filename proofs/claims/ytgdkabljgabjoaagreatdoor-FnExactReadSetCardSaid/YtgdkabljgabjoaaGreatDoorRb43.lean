/- Whether marks in sets of glyphs are held; the marks of a set of the call's own; weak marks of a glyph. Printed by mk_held.py. Conditions: as each states. -/
import Derived.Lib.QuietBelow
import Derived.StillTailTactics
import Derived.Test.YtgdkabljgabjoaaGreatDoorRb20
import Derived.Test.YtgdkabljgabjoaaGreatDoorRb17
namespace Go.Proofs.YtgdkabljgabjoaaGreatDoor
open Go.RowKit
set_option linter.unusedVariables false
set_option maxRecDepth 100000

set_option maxHeartbeats 1000000 in
theorem heldAnchorS_any (A : Option Addr) (n c lo hi : Nat) (m : Int) (w : World) (hr : RdS 3 (FlatR anchC) w lo hi A n (mkAnchor m n)) (hhi : hi ≤ w.heap.size) (hm0 : 0 ≤ m) (hm : m ≤ 4000000000000000000) (hn : n ≤ 1000000000) :
    Calls Tryz.prog 40 #[.slice A n c, .int .i64 m] w fun e w' => e = .returned (.int .i64 (m + 3 * (n : Int))) ∧ Below w.heap.size w w' := by
  replace hr := Lib.hid hr
  go_enter Tryz.func40, Tryz.ntmps40
  go_wp2_with fail
  go_loopw [1, 5] (fun k i wr => ∃ (q : Nat), i = .int .i64 q ∧ k = .int .i64 (m + 3 * q) ∧ q ≤ n ∧ Below w.heap.size w wr) (fun k i wr => n - (intOf i).toNat)
  case atStart => exact ⟨0, rfl, by go_num, Nat.zero_le _, Below.refl _ _⟩
  case round =>
    obtain ⟨q, rfl, rfl, hq, hbel⟩ := hrel
    have hsz := hbel.size
    by_cases hlt : q < n
    · obtain ⟨b, off, a, rfl, _, hb, ha, hc⟩ := (hr.out.frame (good_flat _) (Below.sameB hbel hhi)).at hlt
      rw [mkAnchor_at m hlt] at ha
      injection ha with ha
      subst ha
      have c0 : wr.cell? ⟨b, off + q * 3, none⟩ = some (.string (mText (m + 3 * q))) := hc 0 _ rfl
      have c1 : wr.cell? ⟨b, off + q * 3 + 1, none⟩ = some (.int .i64 ((m + 3 * q) + 1)) := hc 1 _ rfl
      have c2 : wr.cell? ⟨b, off + q * 3 + 2, none⟩ = some (.int .i64 ((m + 3 * q) + 1 + 1)) := hc 2 _ rfl
      have hcM := Lib.hid (fun dr os => Calls.regrown_of (markText_any (m + 3 * q) (Go.Sort.grow (redrawn wr dr) os) (by omega) (by omega)))
      have k0 : ∀ dr os, (Go.Sort.grow (redrawn wr dr) os).cell? ⟨b, off + q * 3, none⟩ = some (.string (mText (m + 3 * q))) := cell_regrown c0
      have k1 : ∀ dr os, (Go.Sort.grow (redrawn wr dr) os).cell? ⟨b, off + q * 3 + 1, none⟩ = some (.int .i64 ((m + 3 * q) + 1)) := cell_regrown c1
      have k2 : ∀ dr os, (Go.Sort.grow (redrawn wr dr) os).cell? ⟨b, off + q * 3 + 2, none⟩ = some (.int .i64 ((m + 3 * q) + 1 + 1)) := cell_regrown c2
      have hbw : b < wr.heap.size := by omega
      clear hc c0 c1 c2
      go_wp2_with fail
      refine wp_region_quiet_below (by kernel_rfl) (by kernel_rfl) ?_
      repeat (go_big_quiet_step (exact hcM.out _ _))
      refine wpQuiet_nil ?_
      intro _ hw'
      obtain ⟨⟨dq, osq⟩, hw''⟩ := hw'
      subst hw''
      have hb3 := hbel.trans ((below_regrown wr dq osq).mono hsz)
      have d1 := k1 dq osq
      have d2 := k2 dq osq
      clear k0 k1 k2 hcM
      generalize Go.Sort.grow (redrawn wr dq) osq = w1 at *
      go_wp2_with fail
      go_roundw
      case rel => exact ⟨q + 1, by go_num, by go_num, by omega, hb3⟩
      case measure => simp [intOf]; omega
    · have hqn : q = n := by omega
      replace hqn := Lib.hid hqn
      go_wp2_with fail
      go_ret
      exact ⟨ret_int (by have := hqn.out; omega), hbel⟩
end Go.Proofs.YtgdkabljgabjoaaGreatDoor
namespace Go.Proofs.YtgdkabljgabjoaaGreatDoor
open Go.RowKit
set_option linter.unusedVariables false

set_option maxHeartbeats 4000000 in
theorem heldGlyphS_any (A : Option Addr) (n c lo hi : Nat) (L : List Gl) (m : Int) (w : World) (hr : GsRd w lo hi A n (mkGs m L)) (hL : ∀ g ∈ L, GlSm g) (hhi : hi ≤ w.heap.size) (hm0 : 0 ≤ m) (hm : m ≤ 100) (hn : n ≤ 100) :
    Calls Tryz.prog 51 #[.slice A n c, .int .i64 m] w fun e w' => e = .returned (.int .i64 (m + (gsN L : Int))) ∧ Below w.heap.size w w' := by
  have hll : L.length = n := by rw [← mkGs_length m L]; exact hr.1
  replace hr := Lib.hid hr
  replace hL := Lib.hid hL
  go_enter Tryz.func51, Tryz.ntmps51
  go_wp2_with fail
  go_loopw [1, 5] (fun l i wr => ∃ (k : Nat), i = .int .i64 k ∧ l = .int .i64 (m + (((L.map glN).take k).sum : Nat)) ∧ k ≤ n ∧ Below w.heap.size w wr) (fun l i wr => n - (intOf i).toNat)
  case atStart => exact ⟨0, rfl, by simp, Nat.zero_le _, Below.refl _ _⟩
  case round =>
    obtain ⟨k, rfl, rfl, hk, hbel⟩ := hrel
    have hsz := hbel.size
    by_cases hlt : k < n
    · obtain ⟨b, off, dg, hh, rfl, hb0, hb, hja, hcs, hrd⟩ := gs_at (hr.out.frame good_glyph (Below.sameB hbel hhi)) hlt
      obtain ⟨d, hd⟩ : ∃ d, L[k]? = some d := ⟨_, List.getElem?_eq_getElem (by omega)⟩
      rw [mkGs_at m hd] at hja
      injection hja with hja
      subst hja
      have hsm := hL.out d (List.mem_of_getElem? hd)
      have hgn := hsm.n
      obtain ⟨o1, o2, o3, o4⟩ := hsm
      have hst := sum_take_succ (map_at (f := glN) hd)
      have hle := gs_sum_le hL.out k
      have hle2 : ((L.map glN).take k).sum ≤ 3100000 := Nat.le_trans hle (by omega)
      obtain ⟨r, hr0⟩ : ∃ r : Int, r = m + (((L.map glN).take k).sum : Nat) := ⟨_, rfl⟩
      have hrl : 0 ≤ r := by omega
      have hru : r ≤ 3200000 := by omega
      have hnx : r + 4 + 3 * (kN d.out : Int) + 3 * (d.parts.length : Int) + 3 * (d.anchors.length : Int) = m + (((L.map glN).take (k + 1)).sum : Nat) := by
        rw [hst, hr0]; unfold glN; push_cast; omega
      rw [← hr0] at hrd hcs ⊢
      replace hnx := Lib.hid hnx
      replace hst := Lib.hid hst
      replace hr0 := Lib.hid hr0
      have c0 : wr.cell? ⟨b, off + k * 7, none⟩ = some (.string (mText r)) := hcs 0 _ rfl
      have c1 : wr.cell? ⟨b, off + k * 7 + 1, none⟩ = some (.int .i64 (r + 1)) := hcs 1 _ rfl
      have c2 : wr.cell? ⟨b, off + k * 7 + 2, none⟩ = some (.int .i64 (r + 1 + 1)) := (hcs 2 _ rfl).trans (by show some (Value.int .i64 (r + 2)) = _; rw [show r + 2 = r + 1 + 1 by omega])
      have c3 : wr.cell? ⟨b, off + k * 7 + 3, none⟩ = some (.slice hh.out.A hh.out.n hh.out.c) := hcs 3 _ rfl
      have c4 : wr.cell? ⟨b, off + k * 7 + 4, none⟩ = some (.slice hh.parts.A hh.parts.n hh.parts.c) := hcs 4 _ rfl
      have c5 : wr.cell? ⟨b, off + k * 7 + 5, none⟩ = some (.slice hh.anchors.A hh.anchors.n hh.anchors.c) := hcs 5 _ rfl
      have c6 : wr.cell? ⟨b, off + k * 7 + 6, none⟩ = some (.string (mText (r + 1 + 1 + 1 + 3 * (kN d.out : Int) + 3 * (hh.parts.n : Int) + 3 * (hh.anchors.n : Int)))) := by
        have h4 : (mkPart (r + 3 + 3 * (kN d.out : Int)) d.parts.length).length = hh.parts.n := hrd.2.1.1
        have h5 : (mkAnchor (r + 3 + 3 * (kN d.out : Int) + 3 * (d.parts.length : Int)) d.anchors.length).length = hh.anchors.n := hrd.2.2.1
        rw [mkPart_length] at h4
        rw [mkAnchor_length] at h5
        rw [← h4, ← h5, show r + 1 + 1 + 1 = r + 3 by omega]
        exact hcs 6 _ rfl
      obtain ⟨hro, hrp, hra⟩ := hrd
      have hon : hh.out.n ≤ 100 := by rw [← hro.1]; show (mkLs _ _).length ≤ _; rw [mkLs_length]; exact o1
      have hpn : d.parts.length = hh.parts.n := by have := hrp.1; rw [show (mkGl r d).parts = mkPart (r + 3 + 3 * (kN d.out : Int)) d.parts.length from rfl, mkPart_length] at this; exact this
      have han : d.anchors.length = hh.anchors.n := by have := hra.1; rw [show (mkGl r d).anchors = mkAnchor (r + 3 + 3 * (kN d.out : Int) + 3 * (d.parts.length : Int)) d.anchors.length from rfl, mkAnchor_length] at this; exact this
      replace hro := Lib.hid (show OutRd wr lo hi hh.out.A hh.out.n (mkLs (r + 1 + 1 + 1) d.out) by rw [show r + 1 + 1 + 1 = r + 3 by omega]; exact hro)
      replace hrp := Lib.hid (show RdS 3 (FlatR partC) wr lo hi hh.parts.A hh.parts.n (mkPart (r + 1 + 1 + 1 + 3 * (kN d.out : Int)) hh.parts.n) by rw [← hpn, show r + 1 + 1 + 1 = r + 3 by omega]; rw [← hpn] at hrp; exact hrp)
      replace hra := Lib.hid (show RdS 3 (FlatR anchC) wr lo hi hh.anchors.A hh.anchors.n (mkAnchor (r + 1 + 1 + 1 + 3 * (kN d.out : Int) + 3 * (hh.parts.n : Int)) hh.anchors.n) by rw [← han, ← hpn, show r + 1 + 1 + 1 = r + 3 by omega]; rw [← han] at hra; exact hra)
      rw [hpn, han] at hnx
      rw [hpn] at o3
      rw [han] at o4
      have hcM := Lib.hid (fun dr os => Calls.regrown_of (markText_any r (Go.Sort.grow (redrawn wr dr) os) (by omega) (by omega)))
      have k0 : ∀ dr os, (Go.Sort.grow (redrawn wr dr) os).cell? ⟨b, off + k * 7, none⟩ = some (.string (mText r)) := cell_regrown c0
      have hbw : b < wr.heap.size := by omega
      have hhw : hi ≤ wr.heap.size := by omega
      clear hcs hb0 hb
      go_wp2_with fail
      refine wp_region_quiet_below (by kernel_rfl) (by kernel_rfl) ?_
      repeat (go_big_quiet_step (exact hcM.out _ _))
      refine wpQuiet_nil ?_
      intro _ hw'
      obtain ⟨⟨dq, osq⟩, hw''⟩ := hw'
      subst hw''
      have hbg := below_regrown wr dq osq
      have hb3 := hbel.trans (hbg.mono hsz)
      have d1 := (hbg.cell hbw).trans c1
      have d2 := (hbg.cell hbw).trans c2
      have d3 := (hbg.cell hbw).trans c3
      have d4 := (hbg.cell hbw).trans c4
      have d5 := (hbg.cell hbw).trans c5
      have d6 := (hbg.cell hbw).trans c6
      replace hro := Lib.hid (hro.out.frame good_loop (Below.sameB hbg hhw))
      replace hrp := Lib.hid (hrp.out.frame (good_flat _) (Below.sameB hbg hhw))
      replace hra := Lib.hid (hra.out.frame (good_flat _) (Below.sameB hbg hhw))
      have hz1 := hbg.size
      clear k0 hcM c0 c1 c2 c3 c4 c5 c6 hbg hbel
      generalize Go.Sort.grow (redrawn wr dq) osq = w1 at *
      have hbw1 : b < w1.heap.size := by omega
      have hcl := Lib.hid (heldLoopS_any hh.out.A hh.out.n hh.out.c lo hi d.out (r + 1 + 1 + 1) w1 hro.out (by omega) (by omega) (by omega) (by omega))
      have hcp := Lib.hid (heldPartS_any hh.parts.A hh.parts.n hh.parts.c lo hi (r + 1 + 1 + 1 + 3 * (kN d.out : Int)) w1 hrp.out (by omega) (by omega) (by omega))
      have hca := Lib.hid (heldAnchorS_any hh.anchors.A hh.anchors.n hh.anchors.c lo hi (r + 1 + 1 + 1 + 3 * (kN d.out : Int) + 3 * (hh.parts.n : Int)) w1 hra.out (by omega) (by omega) (by omega) (by omega))
      clear hro hrp hra
      go_wp2_with fail
      refine hcl.out.mono ?_
      rintro e w' ⟨rfl, rfl⟩
      clear hcl
      go_wp2_with fail
      refine hcp.out.mono ?_
      rintro e w' ⟨rfl, rfl⟩
      clear hcp
      go_wp2_with fail
      refine hca.out.mono ?_
      rintro e w2 ⟨rfl, hb2⟩
      clear hca
      have hb4 := hb3.trans (hb2.mono hb3.size)
      have e6 := (hb2.cell hbw1).trans d6
      have hz2 := hb2.size
      clear d1 d2 d3 d4 d5 d6 hb2
      have hbw2 : b < w2.heap.size := by omega
      have hcM := Lib.hid (fun dr os => Calls.regrown_of (markText_any (r + 1 + 1 + 1 + 3 * (kN d.out : Int) + 3 * (hh.parts.n : Int) + 3 * (hh.anchors.n : Int)) (Go.Sort.grow (redrawn w2 dr) os) (by omega) (by omega)))
      have k6 : ∀ dr os, (Go.Sort.grow (redrawn w2 dr) os).cell? ⟨b, off + k * 7 + 6, none⟩ = some (.string (mText (r + 1 + 1 + 1 + 3 * (kN d.out : Int) + 3 * (hh.parts.n : Int) + 3 * (hh.anchors.n : Int)))) := cell_regrown e6
      clear e6
      go_wp2_with fail
      refine wp_region_quiet_below (by kernel_rfl) (by kernel_rfl) ?_
      repeat (go_big_quiet_step (exact hcM.out _ _))
      refine wpQuiet_nil ?_
      intro _ hw'
      obtain ⟨⟨dq2, osq2⟩, hw''⟩ := hw'
      subst hw''
      have hb5 := hb4.trans ((below_regrown w2 dq2 osq2).mono hb4.size)
      clear k6 hcM
      generalize Go.Sort.grow (redrawn w2 dq2) osq2 = w3 at *
      go_wp2_with fail
      go_roundw
      case rel => exact ⟨k + 1, by go_num, by rw [← hnx.out]; congr 1; omega, by omega, hb5⟩
      case measure => simp [intOf]; omega
    · have hkn : k = n := by omega
      have hfin : ((L.map glN).take k).sum = gsN L := by rw [List.take_of_length_le (by rw [List.length_map]; omega)]; rfl
      rw [hfin]
      replace hfin := Lib.hid hfin
      replace hkn := Lib.hid hkn
      go_wp2_with fail
      go_ret
      exact ⟨rfl, hbel⟩
theorem heldGlyphSet_any (d : GSet) (A : Option Addr) (n c lo hi : Nat) (u m : Int) (w : World) (hr : GsRd w lo hi A n (mkGs m d.gl)) (hL : ∀ g ∈ d.gl, GlSm g) (hhi : hi ≤ w.heap.size) (hm0 : 0 ≤ m) (hm : m ≤ 100) (hn : n ≤ 100) :
    Calls Tryz.prog 15 #[.agg #[.int .i64 u, .slice A n c], .int .i64 m] w fun e w' => e = .returned (.int .i64 (m + (gsN d.gl : Int))) ∧ Below w.heap.size w w' := by
  have hc := Lib.hid (fun a => heldGlyphS_any A n c lo hi d.gl m (w.alloc a) (hr.frame good_glyph ((SameB.refl _ _ w).alloc hhi _)) hL (by simp; omega) hm0 hm hn)
  clear hr hL
  have h0 : 0 ≤ m + (gsN d.gl : Int) := by omega
  go_enter Tryz.func15, Tryz.ntmps15
  go_wp2_with fail
  refine (hc.out _).mono ?_
  rintro e w1 ⟨rfl, hb⟩
  go_wp2_with fail
  go_ret
  exact ⟨rfl, (Go.Joins.below_alloc1 _ _).trans (hb.mono (by simp))⟩
theorem markGlyphSet_x (A : Option Addr) (n c lo hi : Nat) (L : List Gl) (ys0 : List Value) (hs : Nat → GlH) (iv : Nat → Nat × Nat) (u m : Int) (w : World) (hr : GsX w lo hi A n c L ys0 hs iv) (hL : ∀ g ∈ L, GlSm g) (hn : n ≤ 100) (hhi : hi ≤ w.heap.size) (hm0 : 0 ≤ m) (hm : m ≤ 100) :
    Calls Tryz.prog 14 #[.agg #[.int .i64 u, .slice A n c], .int .i64 m] w fun e w' => e = .returned (.int .i64 (m + (gsN L : Int))) ∧ MarkW notL lo hi w w' ∧ ∃ ys, GsX w' lo hi A n c (mkGs m L) ys hs iv := by
  have hc := Lib.hid (fun a => markGlyphS_x A n c lo hi L ys0 hs iv m (w.alloc a) (hr.same ((SameB.refl _ _ w).alloc hhi _)) hL hn (by simp; omega) hm0 hm)
  clear hr hL
  go_enter Tryz.func14, Tryz.ntmps14
  go_wp2_with fail
  refine (hc.out _).mono ?_
  rintro e w1 ⟨rfl, hM, ys, hx⟩
  replace hM := Lib.hid hM
  replace hx := Lib.hid hx
  go_wp2_with fail
  go_ret
  exact ⟨rfl, (MarkW.ofBelow (Go.Joins.below_alloc1 _ _)).trans hM.out, ys, hx.out⟩
theorem markGlyphSet_wb (d : GSet) (h : GSetH) (lo hi : Nat) (m : Int) (w : World) (hr : GsMk w lo hi h.gl.A h.gl.n h.gl.c) (hhi : hi ≤ w.heap.size) (hm0 : 0 ≤ m) (hm : m ≤ 100) (hn : h.gl.n ≤ 1048576) :
    Calls Tryz.prog 14 #[gsV d h, .int .i64 m] w fun e w' => ∃ r : Int, e = .returned (.int .i64 r) ∧ m ≤ r ∧ r ≤ 3500000000000000000 ∧ MarkW notL lo hi w w' := by
  have hc := Lib.hid (fun a => markGlyphS_wb h.gl.A h.gl.n h.gl.c lo hi m (w.alloc a) (hr.frame ((SameB.refl _ _ w).alloc hhi _)) hm0 hm hn)
  clear hr
  go_enter Tryz.func14, Tryz.ntmps14
  go_wp2_with fail
  refine (hc.out _).mono ?_
  rintro e w1 ⟨r, rfl, hr, hr2, hM⟩
  replace hM := Lib.hid hM
  go_wp2_with fail
  go_ret
  exact ⟨r, rfl, hr, by omega, (MarkW.ofBelow (Go.Joins.below_alloc1 _ _)).trans hM.out⟩
theorem markOutline_w (A : Option Addr) (n c lo hi : Nat) (m : Int) (w : World) (hr : MkL w lo hi A n c) (hhi : hi ≤ w.heap.size) (hm0 : 0 ≤ m) (hm : m ≤ 3900000000000000000) (hn : n ≤ 1048576) :
    Calls Tryz.prog 35 #[.agg #[.slice A n c], .int .i64 m] w fun e w' => ∃ r : Int, e = .returned (.int .i64 r) ∧ m ≤ r ∧ r ≤ m + 3145728 * (n : Int) ∧ MarkW knotK lo hi w w' := by
  have hc := Lib.hid (fun a => markLoopS_w A n c lo hi m (w.alloc a) (hr.frame ((SameB.refl _ _ w).alloc hhi _)) hm0 hm hn)
  clear hr
  go_enter Tryz.func35, Tryz.ntmps35
  go_wp2_with fail
  refine (hc.out _).mono ?_
  rintro e w1 ⟨r, rfl, hr, hr2, hM⟩
  replace hM := Lib.hid hM
  go_wp2_with fail
  go_ret
  exact ⟨r, rfl, hr, hr2, (MarkW.ofBelow (Go.Joins.below_alloc1 _ _)).trans hM.out⟩
set_option maxHeartbeats 2000000 in
theorem markGlyph_w (d : Gl) (h : GlH) (lo hi : Nat) (m : Int) (w : World) (hr : GlMk w lo hi h) (hhi : hi ≤ w.heap.size) (hm0 : 0 ≤ m) (hm : m ≤ 3600000000000000000) :
    Calls Tryz.prog 9 #[glV d h, .int .i64 m] w fun e w' => ∃ r : Int, e = .returned (.int .i64 r) ∧ m ≤ r ∧ MarkW notL lo hi w w' := by
  have hon := hr.on
  have hpn := hr.pn
  have han := hr.an
  have hr0 := Lib.hid (hr.frame ((SameB.refl _ _ w).alloc hhi (.cells #[.string d.name, .int .i64 d.code, .int .i64 d.adv, .slice h.out.A h.out.n h.out.c, .slice h.parts.A h.parts.n h.parts.c, .slice h.anchors.A h.anchors.n h.anchors.c, .string d.hints] 28 (0, 0))))
  have HB := Lib.hid (heap_alloc_new w (.cells #[.string d.name, .int .i64 d.code, .int .i64 d.adv, .slice h.out.A h.out.n h.out.c, .slice h.parts.A h.parts.n h.parts.c, .slice h.anchors.A h.anchors.n h.anchors.c, .string d.hints] 28 (0, 0)))
  have hM0 := Lib.hid (MarkW.ofBelow (P := notL) (lo := lo) (hi := hi) (Go.Joins.below_alloc1 w (.cells #[.string d.name, .int .i64 d.code, .int .i64 d.adv, .slice h.out.A h.out.n h.out.c, .slice h.parts.A h.parts.n h.parts.c, .slice h.anchors.A h.anchors.n h.anchors.c, .string d.hints] 28 (0, 0))))
  have hzz : (w.alloc (.cells #[.string d.name, .int .i64 d.code, .int .i64 d.adv, .slice h.out.A h.out.n h.out.c, .slice h.parts.A h.parts.n h.parts.c, .slice h.anchors.A h.anchors.n h.anchors.c, .string d.hints] 28 (0, 0))).heap.size = w.heap.size + 1 := by simp
  clear hr
  go_enter Tryz.func9, Tryz.ntmps9
  go_wp2_with fail
  generalize w.alloc (.cells #[.string d.name, .int .i64 d.code, .int .i64 d.adv, .slice h.out.A h.out.n h.out.c, .slice h.parts.A h.parts.n h.parts.c, .slice h.anchors.A h.anchors.n h.anchors.c, .string d.hints] 28 (0, 0)) = w0 at *
  refine (markOutline_w h.out.A h.out.n h.out.c lo hi m w0 hr0.out.o (by omega) hm0 (by omega) hon).mono ?_
  rintro e w1 ⟨r1, rfl, h1, h2, hM1⟩
  have hz1 := hM1.size
  have hr1 := Lib.hid (hr0.out.marks (by unfold knotK; decide) hM1)
  have HB1 := Lib.hid ((hM1.sameB (lo' := hi) (hi' := w0.heap.size) (.inr (Nat.le_refl _)) (Nat.le_refl _) w.heap.size hhi (by omega)).trans HB.out)
  have hMM1 := Lib.hid (hM0.out.trans (hM1.mono (Nat.le_refl _) (Nat.le_refl _) knot_notL))
  have b4 : w1.cell? ⟨w.heap.size, 4, none⟩ = some (.slice h.parts.A h.parts.n h.parts.c) := by rw [Go.Joins.cell_of_block HB1.out]; rfl
  have bl1 : w.heap.size < w1.heap.size := by omega
  clear hM1 hr0 HB hM0
  go_wp2_with fail
  obtain ⟨⟨xp, hxp⟩, hph⟩ := hr1.out.p
  refine (markPartS_any h.parts.A h.parts.n h.parts.c lo xp r1 w1 hxp (by omega) (by omega) (by omega)).mono ?_
  rintro e w2 ⟨rfl, hg2, hp2, hz2⟩
  have hM2 := MarkW.ofOwn hxp hg2 hp2 (show partK 106 from rfl) hph
  have hr2 := Lib.hid (hr1.out.marks (by unfold partK; decide) hM2)
  have HB2 := Lib.hid ((hM2.sameB (lo' := hi) (hi' := w1.heap.size) (.inr (Nat.le_refl _)) (Nat.le_refl _) w.heap.size hhi (by omega)).trans HB1.out)
  have hMM2 := Lib.hid (hMM1.out.trans (hM2.mono (Nat.le_refl _) (Nat.le_refl _) part_notL))
  have b5 : w2.cell? ⟨w.heap.size, 5, none⟩ = some (.slice h.anchors.A h.anchors.n h.anchors.c) := by rw [Go.Joins.cell_of_block HB2.out]; rfl
  have bl2 : w.heap.size < w2.heap.size := by omega
  clear hM2 hr1 HB1 hMM1 b4 bl1 hxp hph hg2 hp2
  go_wp2_with fail
  obtain ⟨⟨xa, hxa⟩, hah⟩ := hr2.out.a
  refine (markAnchorS_any h.anchors.A h.anchors.n h.anchors.c lo xa (r1 + 3 * (h.parts.n : Int)) w2 hxa (by omega) (by omega) (by omega)).mono ?_
  rintro e w3 ⟨rfl, hg3, hp3, hz3⟩
  have hM3 := MarkW.ofOwn hxa hg3 hp3 (show anchK 117 from rfl) hah
  have hMM3 := Lib.hid (hMM2.out.trans (hM3.mono (Nat.le_refl _) (Nat.le_refl _) anch_notL))
  clear hM3 hr2 HB2 hMM2 b5 bl2 hxa hah hg3 hp3
  go_wp2_with fail
  go_ret
  exact ⟨_, rfl, by omega, hMM3.out⟩
end Go.Proofs.YtgdkabljgabjoaaGreatDoor

