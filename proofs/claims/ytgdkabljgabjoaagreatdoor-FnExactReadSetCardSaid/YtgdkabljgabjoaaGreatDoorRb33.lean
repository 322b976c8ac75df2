/- The text of a glyph, the program's. Conditions: as each states. -/
import Derived.Test.YtgdkabljgabjoaaGreatDoorRb32
import Derived.Test.YtgdkabljgabjoaaGreatDoorRb30
namespace Go.Proofs.YtgdkabljgabjoaaGreatDoor
open Go.RowKit
set_option linter.unusedVariables false
set_option maxRecDepth 100000

theorem bS_data (l : List UInt8) : (bS l).data.toList = l := rfl

set_option maxHeartbeats 8000000 in
theorem implGlyphText_flat (d : Gl) (A3 A4 A5 : Option Addr) (n3 c3 n4 c4 n5 c5 lo hi : Nat) (w : World)
    (hr0 : OutRd w lo hi A3 n3 d.out) (hr1 : RdS 3 (FlatR partC) w lo hi A4 n4 d.parts) (hr2 : RdS 3 (FlatR anchC) w lo hi A5 n5 d.anchors) (hhi : hi ≤ w.heap.size) (hm : d.small 1000000000) (hs : d.str) (hcap : n5 ≤ c5) :
    Calls Tryz.prog 25 #[.agg #[.string d.name, .int .i64 d.code, .int .i64 d.adv, .slice A3 n3 c3, .slice A4 n4 c4, .slice A5 n5 c5, .string d.hints]] w fun e w' => e = .returned (.string (glR d)) ∧ Below w.heap.size w w' := by
  have hol := hr0.1
  have hpl := hr1.1
  have hal := hr2.1
  have hb0 : Below w.heap.size w (w.alloc (.cells #[.string d.name, .int .i64 d.code, .int .i64 d.adv, .slice A3 n3 c3, .slice A4 n4 c4, .slice A5 n5 c5, .string d.hints] 28 (0, 0))) := Go.Joins.below_alloc1 _ _
  have hz0 : w.heap.size < (w.alloc (.cells #[.string d.name, .int .i64 d.code, .int .i64 d.adv, .slice A3 n3 c3, .slice A4 n4 c4, .slice A5 n5 c5, .string d.hints] 28 (0, 0))).heap.size := by simp
  have HB := Lib.hid (heap_alloc_new w (.cells #[.string d.name, .int .i64 d.code, .int .i64 d.adv, .slice A3 n3 c3, .slice A4 n4 c4, .slice A5 n5 c5, .string d.hints] 28 (0, 0)))
  have hcv := Lib.hid (fun W (hS : SameB lo hi w W) (hz : hi ≤ W.heap.size) => implValidG_any d ⟨⟨A3, n3, c3⟩, ⟨A4, n4, c4⟩, ⟨A5, n5, c5⟩⟩ _ rfl lo hi W ⟨hr0.frame good_loop hS, hr1.frame (good_flat _) hS, hr2.frame (good_flat _) hS⟩ hz hm (by unfold Gl.str maxLen at hs; exact ⟨by omega, by omega, fun a ha => by have := hs.2.2 a ha; omega⟩) hcap)
  replace hr0 := Lib.hid hr0
  replace hr1 := Lib.hid hr1
  replace hr2 := Lib.hid hr2
  have hgt := Lib.hid (fun h => glyphOk_is (g := d) h)
  clear hm hs
  go_enter Tryz.func25, Tryz.ntmps25
  go_wp2_with fail
  generalize (w.alloc (.cells #[.string d.name, .int .i64 d.code, .int .i64 d.adv, .slice A3 n3 c3, .slice A4 n4 c4, .slice A5 n5 c5, .string d.hints] 28 (0, 0))) = w0 at *
  refine (hcv.out w0 (Below.sameB hb0 hhi) (by omega)).mono ?_
  rintro e w1 ⟨rfl, hb1⟩
  have hB1 := hb0.trans (hb1.mono hb0.size)
  have hz1 := hB1.size
  have HB1 := Lib.hid ((hb1.block _ hz0).trans HB.out)
  have hz1' : w.heap.size < w1.heap.size := by have := hb1.size; omega
  clear hb1 HB hcv
  cases hv : glyphOk d
  · have hR : Hid (glR d = ⟨#[]⟩) := by show glR d = _; unfold glR; rw [if_neg (by rw [hv]; simp)]
    replace hv := Lib.hid hv
    go_wp2_with fail
    go_ret
    exact ⟨ret_string hR.out.symm, hB1⟩
  have hR : Hid (glR d = bS (glyphT d)) := by show glR d = _; unfold glR; rw [if_pos hv]
  have hg := hgt.out hv
  have hp6 := hg.pl
  have ha6 := hg.al
  have hh400 := hg.hl
  have hnm := hg.nm
  have hout := Lib.hid hg.out
  obtain ⟨hc1, hc2⟩ := hg.code
  obtain ⟨ha1, ha2⟩ := hg.adv
  have hdc := decS_sz (n := d.code) (by omega) (by omega)
  have hda := decS_sz (n := d.adv) (by omega) (by omega)
  have hHl := headT_len hg
  have hLm := Lib.hid (loops_max hg)
  have hPm := Lib.hid (parts_max hg)
  have hAm := Lib.hid (anchs_max hg)
  have hHm := hintL_len hg.hl
  have hps := Lib.hid hg.ps
  have has := Lib.hid hg.ans
  obtain ⟨ho12, _⟩ := outOk_is hg.out
  replace hg := Lib.hid hg
  replace hv := Lib.hid hv
  have hbn := Lib.hid (bld_new w1)
  have hb2 : Below w1.heap.size w1 (w1.alloc (.cells #[.pointer none, .slice none 0 0] 87 (0, 0))) := Go.Joins.below_alloc1 _ _
  have HB2 := Lib.hid ((hb2.block _ hz1').trans HB1.out)
  have hz2 : w1.heap.size < (w1.alloc (.cells #[.pointer none, .slice none 0 0] 87 (0, 0))).heap.size := by simp
  clear HB1 hgt
  go_wp2_with fail
  generalize (w1.alloc (.cells #[.pointer none, .slice none 0 0] 87 (0, 0))) = w2 at *
  have hz21 : w1.heap.size ≤ w2.heap.size := by omega
  have k0 : ∀ dr os, (Go.Sort.grow (redrawn w2 dr) os).cell? ⟨w.heap.size, 0, none⟩ = some (.string d.name) := cell_regrown (by rw [Go.Joins.cell_of_block HB2.out]; rfl)
  have k1 : ∀ dr os, (Go.Sort.grow (redrawn w2 dr) os).cell? ⟨w.heap.size, 1, none⟩ = some (.int .i64 d.code) := cell_regrown (by rw [Go.Joins.cell_of_block HB2.out]; rfl)
  have k2 : ∀ dr os, (Go.Sort.grow (redrawn w2 dr) os).cell? ⟨w.heap.size, 2, none⟩ = some (.int .i64 d.adv) := cell_regrown (by rw [Go.Joins.cell_of_block HB2.out]; rfl)
  have hcN := Lib.hid (fun dr os => Calls.regrown_of (implDec_any d.code (Go.Sort.grow (redrawn w2 dr) os) (by omega) (by omega)))
  have hcD := Lib.hid (fun dr os => Calls.regrown_of (implDec_any d.adv (Go.Sort.grow (redrawn w2 dr) os) (by omega) (by omega)))
  refine wp_region_headq 14 (by kernel_rfl) (by kernel_rfl) (by kernel_rfl) ?_
  simp only [List.take_succ_cons, List.take_zero, List.drop_succ_cons, List.drop_zero]
  repeat (go_big_quiet_step (first | (with_reducible exact hcN.out _ _) | (with_reducible exact hcD.out _ _)))
  refine wpQuiet_nil ?_
  intro _ hw'
  obtain ⟨⟨dq, osq⟩, hw''⟩ := hw'
  subst hw''
  have hg3 := below_regrown w2 dq osq
  clear k0 k1 k2 hcN hcD
  generalize Go.Sort.grow (redrawn w2 dq) osq = w3 at hg3 ⊢
  have hz3 := hg3.size
  have hbd3 := Lib.hid (hbn.out.kept hg3)
  obtain ⟨S0, hS0⟩ : ∃ S : ByteArray, S = ((((((⟨#[103, 108, 121, 112, 104, 32]⟩ : ByteArray) ++ d.name) ++ ⟨#[32]⟩) ++ decS d.code) ++ ⟨#[32]⟩) ++ decS d.adv) ++ ⟨#[10]⟩ := ⟨_, rfl⟩
  rw [← hS0]
  rw [head_text] at hS0
  have hS0z : S0.size ≤ 61 := by rw [hS0]; exact hHl
  replace hS0 := Lib.hid hS0
  go_wp2_with fail
  refine (writeString_any w1.heap.size w1.heap.size [] S0 w3 hbd3.out (by simp; omega) (by omega)).mono ?_
  rintro e w4 ⟨rfl, hbd4, hc4, _⟩
  have hB24 : Below w1.heap.size w2 w4 := (hg3.mono hz21).trans hc4
  have hBox : Hid (∀ W : World, Below w1.heap.size w2 W → W.heap[w.heap.size]? = some (.cells #[.string d.name, .int .i64 d.code, .int .i64 d.adv, .slice A3 n3 c3, .slice A4 n4 c4, .slice A5 n5 c5, .string d.hints] 28 (0, 0))) := fun W h => (h.block _ hz1').trans HB2.out
  have hWd : Hid (∀ W : World, Below w1.heap.size w2 W → Below w.heap.size w W) := fun W h => hB1.trans ((hb2.trans h).mono hz1)
  obtain ⟨H, hH⟩ : ∃ H, H = headT d.name.data.toList d.code d.adv := ⟨_, rfl⟩
  rw [← hH] at hHl hS0
  have hbd4' : Hid (Bld w4 w1.heap.size w1.heap.size H) := by
    show Bld _ _ _ _
    have h1 := hbd4
    rw [hS0.out, bS_data, List.nil_append] at h1
    exact h1
  have hfinal : Hid (glyphT d = H ++ d.out.flatMap loopL ++ d.parts.flatMap partL ++ d.anchors.flatMap anchL ++ hintL d.hints.data.toList ++ [101, 110, 100, 10]) := by rw [hH]; rfl
  replace hH := Lib.hid hH
  have hz4 : w1.heap.size < w4.heap.size := by have := hB24.size; omega
  clear hbd4 hbd3 hbn hc4 hg3 HB2 hS0 hS0z hz3
  have gc3 : w4.cell? ⟨w.heap.size, 3, none⟩ = some (.slice A3 n3 c3) := by rw [Go.Joins.cell_of_block (hBox.out w4 hB24)]; rfl
  have gl4 : w.heap.size < w4.heap.size := by omega
  go_wp2_with fail
  clear gc3 gl4
  go_loopw [32] (fun i wr => ∃ (k : Nat) (ds : List UInt8), i = .int .i64 k ∧ k ≤ n3 ∧ ds = H ++ (d.out.take k).flatMap loopL ∧ Bld wr w1.heap.size w1.heap.size ds ∧ Below w1.heap.size w2 wr) (fun i wr => n3 - (intOf i).toNat)
  case atStart => exact ⟨0, H, rfl, Nat.zero_le _, by simp, hbd4'.out, hB24⟩
  case round =>
    clear hbd4' hB24 hz4
    obtain ⟨k, ds, rfl, hk, hds, hbld, hbel⟩ := hrel
    have hdz : ds.length ≤ 31093 := by
      rw [hds, List.length_append]
      have := hLm.out k
      omega
    have hwb := hWd.out wr hbel
    have hsz := hwb.size
    have hXw := (hbld.lt).2
    replace hds := Lib.hid hds
    by_cases hlt : k < n3
    · obtain ⟨b, off, K, A2, n2, c2, rfl, hb0', hbh, hja, qk, hmx, hrk⟩ := out_at (hr0.out.frame good_loop (Below.sameB hwb hhi)) hlt
      have hKok := (outOk_is hout.out).2 K (List.mem_of_getElem? hja)
      have hn2 := hrk.1
      subst hn2
      have hKz : (loopT K).length ≤ 2580 := loopT_max hKok
      have hbw : b < wr.heap.size := by omega
      have hcall := Lib.hid (fun W (hS : SameB 0 wr.heap.size wr W) (hzW : wr.heap.size ≤ W.heap.size) => loopText_any A2 K.length c2 lo hi K hKok W (hrk.frame (good_flat _) (hS.mono (Nat.zero_le _) (by omega))) (by omega))
      have hnext : Hid (ds ++ ((({ data := #[108, 111, 111, 112, 32] } : ByteArray) ++ bS (loopT K)) ++ { data := #[10] }).data.toList = H ++ (d.out.take (k + 1)).flatMap loopL) := by
        show ds ++ _ = _
        rw [loop_text, bS_data, hds.out, flat_take loopL hja, List.append_assoc]
      have hsz9 : ((({ data := #[108, 111, 111, 112, 32] } : ByteArray) ++ bS (loopT K)) ++ { data := #[10] }).size ≤ 2590 := by
        rw [loop_text, bS_size]; have := loopL_len hKok; omega
      replace hsz9 := Lib.hid hsz9
      have hKz2 : (bS (loopT K)).size ≤ 2580 := hKz
      replace hbld := Lib.hid hbld
      clear hja hKok hrk hmx hb0' hbh
      go_wp2_with fail
      refine (hcall.out _ ((SameB.refl _ _ wr).alloc (Nat.le_refl _) _) (by simp)).mono ?_
      rintro e w5 ⟨rfl, hc5⟩
      have hb5 : Below wr.heap.size wr w5 := (Go.Joins.below_alloc1 wr _).trans (hc5.mono (by simp))
      have hbd5 := hbld.out.kept hb5
      have hz5 := hb5.size
      clear hc5
      go_wp2_with fail
      refine (writeString_any w1.heap.size w1.heap.size ds _ w5 hbd5 (by have := hsz9.out; omega) (by omega)).mono ?_
      rintro e w6 ⟨rfl, hbd6, hc6, _⟩
      have hb6 : Below w1.heap.size w2 w6 := (hbel.trans (hb5.mono (by omega))).trans hc6
      replace hbd6 := Lib.hid hbd6
      clear hc6 hbd5
      go_wp2_with fail
      go_roundw
      case rel => exact ⟨k + 1, _, by go_num, by omega, hnext.out, hbd6.out, hb6⟩
      case measure => simp [intOf]; omega
    · have hkn : k = n3 := by omega
      obtain ⟨H2, hH2⟩ : ∃ H2, H2 = H ++ d.out.flatMap loopL := ⟨_, rfl⟩
      have hfin1 : ds = H2 := by rw [hds.out, hH2, List.take_of_length_le (by omega)]
      rw [hfin1] at hbld
      rw [← hH2] at hfinal
      have hH2l : H2.length ≤ 31093 := by rw [← hfin1]; exact hdz
      replace hH2 := Lib.hid hH2
      obtain ⟨w5, hw5⟩ : ∃ v, v = wr := ⟨_, rfl⟩
      subst hw5
      have hB25 := hbel
      have hbd5 := Lib.hid hbld
      have gl5 : w.heap.size < w5.heap.size := by omega
      have gc4 : w5.cell? ⟨w.heap.size, 4, none⟩ = some (.slice A4 n4 c4) := by rw [Go.Joins.cell_of_block (hBox.out w5 hB25)]; rfl
      clear hbel hbld hds hdz hfin1 hwb hsz
      replace hkn := Lib.hid hkn
      go_wp2_with fail
      clear gc4 gl5
      go_loopw [45] (fun i wr => ∃ (k : Nat) (ds : List UInt8), i = .int .i64 k ∧ k ≤ n4 ∧ ds = H2 ++ (d.parts.take k).flatMap partL ∧ Bld wr w1.heap.size w1.heap.size ds ∧ Below w1.heap.size w2 wr) (fun i wr => n4 - (intOf i).toNat)
      case atStart => exact ⟨0, H2, rfl, Nat.zero_le _, by simp, hbd5.out, hB25⟩
      case round =>
        clear hbd5 hB25 hXw
        obtain ⟨q, es, rfl, hq, hes, hbld, hbel⟩ := hrel
        have hez : es.length ≤ 31501 := by
          rw [hes, List.length_append]
          have := hPm.out q
          omega
        have hwb := hWd.out wr hbel
        have hsz := hwb.size
        have hXw := (hbld.lt).2
        replace hes := Lib.hid hes
        by_cases hql : q < n4
        · obtain ⟨b, off, x, rfl, _, hb, hx, hcs⟩ := (hr1.out.frame (good_flat _) (Below.sameB hwb hhi)).at hql
          obtain ⟨⟨hx1, hx2⟩, hxv⟩ := hps.out x (List.mem_of_getElem? hx)
          have p0 := hcs 0 _ rfl
          have p1 := hcs 1 _ rfl
          have p2 := hcs 2 _ rfl
          simp only [Nat.add_zero] at p0
          have hbw : b < wr.heap.size := by omega
          have hd20 := decS_sz (n := x.1) (by omega) (by omega)
          have hpz := ptS_size hxv
          have hnext : Hid (es ++ ((((({ data := #[112, 97, 114, 116, 32] } : ByteArray) ++ decS x.1) ++ { data := #[32] }) ++ bS (ptT x.2.1 x.2.2)) ++ { data := #[10] }).data.toList = H2 ++ (d.parts.take (q + 1)).flatMap partL) := by
            show es ++ _ = _
            rw [part_text, bS_data, hes.out, flat_take partL hx, List.append_assoc]
          have hsz9 : Hid (((((({ data := #[112, 97, 114, 116, 32] } : ByteArray) ++ decS x.1) ++ { data := #[32] }) ++ bS (ptT x.2.1 x.2.2)) ++ { data := #[10] }).size ≤ 68) := by
            show _ ≤ _
            rw [part_text, bS_size]; exact partL_len ⟨⟨hx1, hx2⟩, hxv⟩
          have hcN := Lib.hid (fun W => implDec_any x.1 W (by omega) (by omega))
          have hcD := Lib.hid (fun W => ptText_any x.2.1 x.2.2 hxv W)
          clear hcs hx hxv
          obtain ⟨x1, x2, x3⟩ := x
          dsimp only at p0 p1 p2 hd20 hpz hcN hcD hnext hx1 hx2 hsz9
          have ha5 : Below wr.heap.size wr (wr.alloc (.cells #[.int .i64 x1, .int .i64 x2, .int .i64 x3] 106 (0, 0))) := Go.Joins.below_alloc1 _ _
          have HP := Lib.hid (heap_alloc_new wr (.cells #[.int .i64 x1, .int .i64 x2, .int .i64 x3] 106 (0, 0)))
          have hza : (wr.alloc (.cells #[.int .i64 x1, .int .i64 x2, .int .i64 x3] 106 (0, 0))).heap.size = wr.heap.size + 1 := by simp
          replace hbld := Lib.hid hbld
          go_wp2_with fail
          clear p0 p1 p2
          generalize wr.alloc (.cells #[.int .i64 x1, .int .i64 x2, .int .i64 x3] 106 (0, 0)) = w6 at *
          have k0 : ∀ dr os, (Go.Sort.grow (redrawn w6 dr) os).cell? ⟨wr.heap.size, 0, none⟩ = some (.int .i64 x1) := cell_regrown (by rw [Go.Joins.cell_of_block HP.out]; rfl)
          have k1 : ∀ dr os, (Go.Sort.grow (redrawn w6 dr) os).cell? ⟨wr.heap.size, 1, none⟩ = some (.int .i64 x2) := cell_regrown (by rw [Go.Joins.cell_of_block HP.out]; rfl)
          have k2 : ∀ dr os, (Go.Sort.grow (redrawn w6 dr) os).cell? ⟨wr.heap.size, 2, none⟩ = some (.int .i64 x3) := cell_regrown (by rw [Go.Joins.cell_of_block HP.out]; rfl)
          have hcN' := Lib.hid (fun dr os => Calls.regrown_of (hcN.out (Go.Sort.grow (redrawn w6 dr) os)))
          have hcD' := Lib.hid (fun dr os => Calls.regrown_of (hcD.out (Go.Sort.grow (redrawn w6 dr) os)))
          clear HP hcN hcD
          refine wp_region_headq 10 (by kernel_rfl) (by kernel_rfl) (by kernel_rfl) ?_
          simp only [List.take_succ_cons, List.take_zero, List.drop_succ_cons, List.drop_zero]
          repeat (go_big_quiet_step (first | (with_reducible exact hcN'.out _ _) | (with_reducible exact hcD'.out _ _)))
          refine wpQuiet_nil ?_
          intro _ hw'
          obtain ⟨⟨dq, osq⟩, hw''⟩ := hw'
          subst hw''
          have hg7 := ha5.trans ((below_regrown w6 dq osq).mono (by omega))
          clear k0 k1 k2 hcN' hcD' ha5 hza
          generalize Go.Sort.grow (redrawn w6 dq) osq = w7 at hg7 ⊢
          have hz7 := hg7.size
          have hbd7 := hbld.out.kept hg7
          go_wp2_with fail
          refine (writeString_any w1.heap.size w1.heap.size es _ w7 hbd7 (by have := hsz9.out; omega) (by omega)).mono ?_
          rintro e w8 ⟨rfl, hbd8, hc8, _⟩
          have hb8 : Below w1.heap.size w2 w8 := (hbel.trans (hg7.mono (by omega))).trans hc8
          replace hbd8 := Lib.hid hbd8
          clear hc8 hbd7
          go_wp2_with fail
          go_roundw
          case rel => exact ⟨q + 1, _, by go_num, by omega, hnext.out, hbd8.out, hb8⟩
          case measure => simp [intOf]; omega
        · have hqn : q = n4 := by omega
          obtain ⟨H3, hH3⟩ : ∃ H3, H3 = H2 ++ d.parts.flatMap partL := ⟨_, rfl⟩
          have hfin2 : es = H3 := by rw [hes.out, hH3, List.take_of_length_le (by omega)]
          rw [hfin2] at hbld
          rw [← hH3] at hfinal
          have hH3l : H3.length ≤ 31501 := by rw [← hfin2]; exact hez
          replace hH3 := Lib.hid hH3
          obtain ⟨w6, hw6⟩ : ∃ v, v = wr := ⟨_, rfl⟩
          subst hw6
          have hB26 := hbel
          have hbd6 := Lib.hid hbld
          have gl6 : w.heap.size < w6.heap.size := by omega
          have gc5 : w6.cell? ⟨w.heap.size, 5, none⟩ = some (.slice A5 n5 c5) := by rw [Go.Joins.cell_of_block (hBox.out w6 hB26)]; rfl
          clear hbel hbld hes hez hfin2 hwb hsz
          replace hqn := Lib.hid hqn
          go_wp2_with fail
          clear gc5 gl6
          go_loopw [64] (fun i wr => ∃ (k : Nat) (ds : List UInt8), i = .int .i64 k ∧ k ≤ n5 ∧ ds = H3 ++ (d.anchors.take k).flatMap anchL ∧ Bld wr w1.heap.size w1.heap.size ds ∧ Below w1.heap.size w2 wr) (fun i wr => n5 - (intOf i).toNat)
          case atStart => exact ⟨0, H3, rfl, Nat.zero_le _, by simp, hbd6.out, hB26⟩
          case round =>
            clear hbd6 hB26 hXw
            obtain ⟨t, fs, rfl, ht, hfs, hbld, hbel⟩ := hrel
            have hfz : fs.length ≤ 31873 := by
              rw [hfs, List.length_append]
              have := hAm.out t
              omega
            have hwb := hWd.out wr hbel
            have hsz := hwb.size
            have hXw := (hbld.lt).2
            replace hfs := Lib.hid hfs
            by_cases htl : t < n5
            · obtain ⟨b, off, x, rfl, _, hb, hx, hcs⟩ := (hr2.out.frame (good_flat _) (Below.sameB hwb hhi)).at htl
              obtain ⟨hx1, hxv⟩ := has.out x (List.mem_of_getElem? hx)
              have p0 := hcs 0 _ rfl
              have p1 := hcs 1 _ rfl
              have p2 := hcs 2 _ rfl
              simp only [Nat.add_zero] at p0
              have hbw : b < wr.heap.size := by omega
              have hpz := ptS_size hxv
              have hnext : Hid (fs ++ ((((({ data := #[97, 110, 99, 104, 111, 114, 32] } : ByteArray) ++ x.1) ++ { data := #[32] }) ++ bS (ptT x.2.1 x.2.2)) ++ { data := #[10] }).data.toList = H3 ++ (d.anchors.take (t + 1)).flatMap anchL) := by
                show fs ++ _ = _
                rw [anch_text, bS_data, hfs.out, flat_take anchL hx, List.append_assoc]
              have hsz9 : Hid (((((({ data := #[97, 110, 99, 104, 111, 114, 32] } : ByteArray) ++ x.1) ++ { data := #[32] }) ++ bS (ptT x.2.1 x.2.2)) ++ { data := #[10] }).size ≤ 62) := by
                show _ ≤ _
                rw [anch_text, bS_size]; exact anchL_len ⟨hx1, hxv⟩
              have hcD := Lib.hid (fun W => ptText_any x.2.1 x.2.2 hxv W)
              clear hcs hx hxv
              obtain ⟨x1, x2, x3⟩ := x
              dsimp only at p0 p1 p2 hpz hcD hnext hx1 hsz9
              have ha5 : Below wr.heap.size wr (wr.alloc (.cells #[.string x1, .int .i64 x2, .int .i64 x3] 117 (0, 0))) := Go.Joins.below_alloc1 _ _
              have HP := Lib.hid (heap_alloc_new wr (.cells #[.string x1, .int .i64 x2, .int .i64 x3] 117 (0, 0)))
              have hza : (wr.alloc (.cells #[.string x1, .int .i64 x2, .int .i64 x3] 117 (0, 0))).heap.size = wr.heap.size + 1 := by simp
              replace hbld := Lib.hid hbld
              go_wp2_with fail
              clear p0 p1 p2
              generalize wr.alloc (.cells #[.string x1, .int .i64 x2, .int .i64 x3] 117 (0, 0)) = w7 at *
              have k0 : ∀ dr os, (Go.Sort.grow (redrawn w7 dr) os).cell? ⟨wr.heap.size, 0, none⟩ = some (.string x1) := cell_regrown (by rw [Go.Joins.cell_of_block HP.out]; rfl)
              have k1 : ∀ dr os, (Go.Sort.grow (redrawn w7 dr) os).cell? ⟨wr.heap.size, 1, none⟩ = some (.int .i64 x2) := cell_regrown (by rw [Go.Joins.cell_of_block HP.out]; rfl)
              have k2 : ∀ dr os, (Go.Sort.grow (redrawn w7 dr) os).cell? ⟨wr.heap.size, 2, none⟩ = some (.int .i64 x3) := cell_regrown (by rw [Go.Joins.cell_of_block HP.out]; rfl)
              have hcD' := Lib.hid (fun dr os => Calls.regrown_of (hcD.out (Go.Sort.grow (redrawn w7 dr) os)))
              clear HP hcD
              refine wp_region_headq 9 (by kernel_rfl) (by kernel_rfl) (by kernel_rfl) ?_
              simp only [List.take_succ_cons, List.take_zero, List.drop_succ_cons, List.drop_zero]
              repeat (go_big_quiet_step (with_reducible exact hcD'.out _ _))
              refine wpQuiet_nil ?_
              intro _ hw'
              obtain ⟨⟨dq, osq⟩, hw''⟩ := hw'
              subst hw''
              have hg8 := ha5.trans ((below_regrown w7 dq osq).mono (by omega))
              clear k0 k1 k2 hcD' ha5 hza
              generalize Go.Sort.grow (redrawn w7 dq) osq = w8 at hg8 ⊢
              have hz8 := hg8.size
              have hbd8 := hbld.out.kept hg8
              go_wp2_with fail
              refine (writeString_any w1.heap.size w1.heap.size fs _ w8 hbd8 (by have := hsz9.out; omega) (by omega)).mono ?_
              rintro e w9 ⟨rfl, hbd9, hc9, _⟩
              have hb9 : Below w1.heap.size w2 w9 := (hbel.trans (hg8.mono (by omega))).trans hc9
              replace hbd9 := Lib.hid hbd9
              clear hc9 hbd8
              go_wp2_with fail
              go_roundw
              case rel => exact ⟨t + 1, _, by go_num, by omega, hnext.out, hbd9.out, hb9⟩
              case measure => simp [intOf]; omega
            · have htn : t = n5 := by omega
              obtain ⟨H4, hH4⟩ : ∃ H4, H4 = H3 ++ d.anchors.flatMap anchL := ⟨_, rfl⟩
              have hfin3 : fs = H4 := by rw [hfs.out, hH4, List.take_of_length_le (by omega)]
              rw [hfin3] at hbld
              rw [← hH4] at hfinal
              have hH4l : H4.length ≤ 31873 := by rw [← hfin3]; exact hfz
              replace hH4 := Lib.hid hH4
              have hbd7 := Lib.hid hbld
              have gl7 : w.heap.size < wr.heap.size := by omega
              have gc6 : wr.cell? ⟨w.heap.size, 6, none⟩ = some (.string d.hints) := by rw [Go.Joins.cell_of_block (hBox.out wr hbel)]; rfl
              clear hbld hfs hfz hfin3 hsz
              replace htn := Lib.hid htn
              by_cases hh0 : d.hints = ⟨#[]⟩
              · rw [hh0] at gc6
                rw [hh0, hint_none, List.append_nil] at hfinal
                replace hh0 := Lib.hid hh0
                go_wp2_with fail
                refine (writeString_any w1.heap.size w1.heap.size H4 ⟨#[101, 110, 100, 10]⟩ wr hbd7.out (by show _ + 4 ≤ _; omega) (by omega)).mono ?_
                rintro e w8 ⟨rfl, hbd8, hc8, _⟩
                have hb8 : Below w1.heap.size w2 w8 := hbel.trans hc8
                have hbd8' : Hid (Bld w8 w1.heap.size w1.heap.size (glyphT d)) := by show Bld _ _ _ _; rw [hfinal.out]; exact hbd8
                have hz8 : w1.heap.size ≤ w8.heap.size := by have := hc8.size; omega
                clear hbd8 hc8
                go_wp2_with fail
                refine (Tryz.Builder_String_any w1.heap.size w1.heap.size (glyphT d) w8 hbd8'.out hz8).mono ?_
                rintro e w9 ⟨rfl, hb9⟩
                have hb10 := hWd.out w9 (hb8.trans hb9)
                go_wp2_with fail
                go_ret
                exact ⟨ret_string hR.out.symm, hb10⟩
              · have hne : d.hints.toList.isEmpty = false := str_ne hh0
                have hhx := hexT_len d.hints.data.toList
                rw [data_len] at hhx
                have hhz : (bS (hexT d.hints.data.toList)).size ≤ 800 := by rw [bS_size]; omega
                have hht := hint_text hh0
                have hsz9 : Hid (((({ data := #[104, 105, 110, 116, 115, 32] } : ByteArray) ++ bS (hexT d.hints.data.toList)) ++ { data := #[10] }).size ≤ 807) := by
                  show _ ≤ _
                  rw [hht, bS_size]; exact hHm
                have hnext : Hid (H4 ++ ((({ data := #[104, 105, 110, 116, 115, 32] } : ByteArray) ++ bS (hexT d.hints.data.toList)) ++ { data := #[10] }).data.toList = H4 ++ hintL d.hints.data.toList) := by
                  show _ = _
                  rw [hht, bS_data]
                have hcall := Lib.hid (hexText_any d.hints wr (by omega))
                clear hhx hh0 hht
                go_wp2_with fail
                refine hcall.out.mono ?_
                rintro e w7 ⟨rfl, hc7⟩
                have hbd7' := hbd7.out.kept hc7
                have hz7 := hc7.size
                go_wp2_with fail
                refine (writeString_any w1.heap.size w1.heap.size H4 _ w7 hbd7' (by have := hsz9.out; omega) (by omega)).mono ?_
                rintro e w8 ⟨rfl, hbd8, hc8, _⟩
                rw [hnext.out] at hbd8
                have hb8 : Below w1.heap.size w2 w8 := (hbel.trans (hc7.mono (by omega))).trans hc8
                have hz8 : w1.heap.size ≤ w8.heap.size := by have := hc8.size; omega
                have hl8 : (H4 ++ hintL d.hints.data.toList).length ≤ 40000 := by rw [List.length_append]; omega
                clear hc8 hc7 hbd7'
                go_wp2_with fail
                refine (writeString_any w1.heap.size w1.heap.size (H4 ++ hintL d.hints.data.toList) ⟨#[101, 110, 100, 10]⟩ w8 hbd8 (by show _ + 4 ≤ _; omega) (by omega)).mono ?_
                rintro e w9 ⟨rfl, hbd9, hc9, _⟩
                have hb9 : Below w1.heap.size w2 w9 := hb8.trans hc9
                have hbd9' : Hid (Bld w9 w1.heap.size w1.heap.size (glyphT d)) := by show Bld _ _ _ _; rw [hfinal.out]; exact hbd9
                have hz9 : w1.heap.size ≤ w9.heap.size := by have := hc9.size; omega
                clear hbd9 hc9 hbd8
                go_wp2_with fail
                refine (Tryz.Builder_String_any w1.heap.size w1.heap.size (glyphT d) w9 hbd9'.out hz9).mono ?_
                rintro e w10 ⟨rfl, hb10⟩
                have hb11 := hWd.out w10 (hb9.trans hb10)
                go_wp2_with fail
                go_ret
                exact ⟨ret_string hR.out.symm, hb11⟩
theorem implGlyphText_any (d : Gl) (h : GlH) (lo hi : Nat) (w : World) (hr : GlRd w lo hi d h) (hhi : hi ≤ w.heap.size) (hm : d.small 1000000000) (hs : d.str) (hcap : h.anchors.n ≤ h.anchors.c) :
    Calls Tryz.prog 25 #[glV d h] w fun e w' => e = .returned (.string (glR d)) ∧ Below w.heap.size w w' :=
  implGlyphText_flat d h.out.A h.parts.A h.anchors.A h.out.n h.out.c h.parts.n h.parts.c h.anchors.n h.anchors.c lo hi w hr.1 hr.2.1 hr.2.2 hhi hm hs hcap
end Go.Proofs.YtgdkabljgabjoaaGreatDoor

