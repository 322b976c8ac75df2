/- The text of a glyph, the program's. Conditions: as each states. -/
import Derived.Test.YtgdkabljgabjoaaGreatDoorGw33
import Derived.Test.YtgdkabljgabjoaaGreatDoorGw13
import Derived.Test.YtgdkabljgabjoaaGreatDoorGw31
import Derived.Test.YtgdkabljgabjoaaGreatDoorGw32
namespace Go.Proofs.YtgdkabljgabjoaaGreatDoor
open Go.RowKit
set_option linter.unusedVariables false
set_option maxRecDepth 100000

theorem bS_data (l : List UInt8) : (bS l).data.toList = l := rfl

set_option maxHeartbeats 8000000 in
theorem implGlyphText_flat (d : Gl) (A3 A4 A5 : Option Addr) (n3 c3 n4 c4 n5 c5 lo hi : Nat) (w : World)
    (hr0 : OutRd w lo hi A3 n3 d.out) (hr1 : RdS 3 (FlatR partC) w lo hi A4 n4 d.parts) (hr2 : RdS 3 (FlatR anchC) w lo hi A5 n5 d.anchors) (hhi : hi ≤ w.heap.size) (hm : d.small 1000000000) (hs : d.str) (hcap : n5 ≤ c5) :
    Calls Tryz.prog 25 #[.agg #[.string d.name, .int .i64 d.code, .int .i64 d.adv, .slice A3 n3 c3, .slice A4 n4 c4, .slice A5 n5 c5, .string d.hints]] w fun e w' => e = .returned (.string (glR d)) ∧ Below w.heap.size w w' := by
  have hol := hr0.1
  have hpl := hr1.1
  have hal := hr2.1
  have hb0 : Below w.heap.size w (w.alloc (.cells #[.string d.name, .int .i64 d.code, .int .i64 d.adv, .slice A3 n3 c3, .slice A4 n4 c4, .slice A5 n5 c5, .string d.hints] 28 (0, 0))) := Go.Joins.below_alloc1 _ _
  have hz0 : w.heap.size < (w.alloc (.cells #[.string d.name, .int .i64 d.code, .int .i64 d.adv, .slice A3 n3 c3, .slice A4 n4 c4, .slice A5 n5 c5, .string d.hints] 28 (0, 0))).heap.size := by simp
  have HB := Lib.hid (heap_alloc_new w (.cells #[.string d.name, .int .i64 d.code, .int .i64 d.adv, .slice A3 n3 c3, .slice A4 n4 c4, .slice A5 n5 c5, .string d.hints] 28 (0, 0)))
  have hcv := Lib.hid (fun W (hS : SameB lo hi w W) (hz : hi ≤ W.heap.size) => implValidG_any d ⟨⟨A3, n3, c3⟩, ⟨A4, n4, c4⟩, ⟨A5, n5, c5⟩⟩ _ rfl lo hi W ⟨hr0.frame good_loop hS, hr1.frame (good_flat _) hS, hr2.frame (good_flat _) hS⟩ hz hm (by unfold Gl.str maxLen at hs; exact ⟨by omega, by omega, fun a ha => by have := hs.2.2 a ha; omega⟩) hcap)
  replace hr0 := Lib.hid hr0
  replace hr1 := Lib.hid hr1
  replace hr2 := Lib.hid hr2
  have hgt := Lib.hid (fun h => glyphOk_is (g := d) h)
  clear hm hs
  go_enter Tryz.func25, Tryz.ntmps25
  go_wp2_with fail
  generalize (w.alloc (.cells #[.string d.name, .int .i64 d.code, .int .i64 d.adv, .slice A3 n3 c3, .slice A4 n4 c4, .slice A5 n5 c5, .string d.hints] 28 (0, 0))) = w0 at *
  refine (hcv.out w0 (Below.sameB hb0 hhi) (by omega)).mono ?_
  rintro e w1 ⟨rfl, hb1⟩
  have hB1 := hb0.trans (hb1.mono hb0.size)
  have hz1 := hB1.size
  have HB1 := Lib.hid ((hb1.block _ hz0).trans HB.out)
  have hz1' : w.heap.size < w1.heap.size := by have := hb1.size; omega
  clear hb1 HB hcv
  cases hv : glyphOk d
  · have hR : Hid (glR d = ⟨#[]⟩) := by show glR d = _; unfold glR; rw [if_neg (by rw [hv]; simp)]
    replace hv := Lib.hid hv
    go_wp2_with fail
    go_ret
    exact ⟨ret_string hR.out.symm, hB1⟩
  have hR : Hid (glR d = bS (glyphT d)) := by show glR d = _; unfold glR; rw [if_pos hv]
  have hg := hgt.out hv
  have hp6 := hg.pl
  have ha6 := hg.al
  have hh400 := hg.hl
  have hnm := hg.nm
  have hout := Lib.hid hg.out
  obtain ⟨hc1, hc2⟩ := hg.code
  obtain ⟨ha1, ha2⟩ := hg.adv
  have hdc := decS_sz (n := d.code) (by omega) (by omega)
  have hda := decS_sz (n := d.adv) (by omega) (by omega)
  have hHl := headT_len hg
  have hLm := Lib.hid (loops_max hg)
  have hPm := Lib.hid (parts_max hg)
  have hAm := Lib.hid (anchs_max hg)
  have hHm := hintL_len hg.hl
  have hps := Lib.hid hg.ps
  have has := Lib.hid hg.ans
  obtain ⟨ho12, _⟩ := outOk_is hg.out
  replace hg := Lib.hid hg
  replace hv := Lib.hid hv
  have hbn := Lib.hid (bld_new w1)
  have hb2 : Below w1.heap.size w1 (w1.alloc (.cells #[.pointer none, .slice none 0 0] 87 (0, 0))) := Go.Joins.below_alloc1 _ _
  have HB2 := Lib.hid ((hb2.block _ hz1').trans HB1.out)
  have hz2 : w1.heap.size < (w1.alloc (.cells #[.pointer none, .slice none 0 0] 87 (0, 0))).heap.size := by simp
  clear HB1 hgt
  go_wp2_with fail
  generalize (w1.alloc (.cells #[.pointer none, .slice none 0 0] 87 (0, 0))) = w2 at *
  have hz21 : w1.heap.size ≤ w2.heap.size := by omega
  have k0 : ∀ dr os, (Go.Sort.grow (redrawn w2 dr) os).cell? ⟨w.heap.size, 0, none⟩ = some (.string d.name) := cell_regrown (by rw [Go.Joins.cell_of_block HB2.out]; rfl)
  have k1 : ∀ dr os, (Go.Sort.grow (redrawn w2 dr) os).cell? ⟨w.heap.size, 1, none⟩ = some (.int .i64 d.code) := cell_regrown (by rw [Go.Joins.cell_of_block HB2.out]; rfl)
  have k2 : ∀ dr os, (Go.Sort.grow (redrawn w2 dr) os).cell? ⟨w.heap.size, 2, none⟩ = some (.int .i64 d.adv) := cell_regrown (by rw [Go.Joins.cell_of_block HB2.out]; rfl)
  have hcN := Lib.hid (fun dr os => Calls.regrown_of (implDec_any d.code (Go.Sort.grow (redrawn w2 dr) os) (by omega) (by omega)))
  have hcD := Lib.hid (fun dr os => Calls.regrown_of (implDec_any d.adv (Go.Sort.grow (redrawn w2 dr) os) (by omega) (by omega)))
  refine wp_region_headq 14 (by kernel_rfl) (by kernel_rfl) (by kernel_rfl) ?_
  simp only [List.take_succ_cons, List.take_zero, List.drop_succ_cons, List.drop_zero]
  repeat (go_big_quiet_step (first | (with_reducible exact hcN.out _ _) | (with_reducible exact hcD.out _ _)))
  refine wpQuiet_nil ?_
  intro _ hw'
  obtain ⟨⟨dq, osq⟩, hw''⟩ := hw'
  subst hw''
  have hg3 := below_regrown w2 dq osq
  clear k0 k1 k2 hcN hcD
  generalize Go.Sort.grow (redrawn w2 dq) osq = w3 at hg3 ⊢
  have hz3 := hg3.size
  have hbd3 := Lib.hid (hbn.out.kept hg3)
  obtain ⟨S0, hS0⟩ : ∃ S : ByteArray, S = ((((((⟨#[103, 108, 121, 112, 104, 32]⟩ : ByteArray) ++ d.name) ++ ⟨#[32]⟩) ++ decS d.code) ++ ⟨#[32]⟩) ++ decS d.adv) ++ ⟨#[10]⟩ := ⟨_, rfl⟩
  rw [← hS0]
  rw [head_text] at hS0
  have hS0z : S0.size ≤ 61 := by rw [hS0]; exact hHl
  replace hS0 := Lib.hid hS0
  go_wp2_with fail
  refine (writeString_any w1.heap.size w1.heap.size [] S0 w3 hbd3.out (by simp; omega) (by omega)).mono ?_
  rintro e w4 ⟨rfl, hbd4, hc4, _⟩
  have hB24 : Below w1.heap.size w2 w4 := (hg3.mono hz21).trans hc4
  have hBox : Hid (∀ W : World, Below w1.heap.size w2 W → W.heap[w.heap.size]? = some (.cells #[.string d.name, .int .i64 d.code, .int .i64 d.adv, .slice A3 n3 c3, .slice A4 n4 c4, .slice A5 n5 c5, .string d.hints] 28 (0, 0))) := fun W h => (h.block _ hz1').trans HB2.out
  have hWd : Hid (∀ W : World, Below w1.heap.size w2 W → Below w.heap.size w W) := fun W h => hB1.trans ((hb2.trans h).mono hz1)
  obtain ⟨H, hH⟩ : ∃ H, H = headT d.name.data.toList d.code d.adv := ⟨_, rfl⟩
  rw [← hH] at hHl hS0
  have hbd4' : Hid (Bld w4 w1.heap.size w1.heap.size H) := by
    show Bld _ _ _ _
    have h1 := hbd4
    rw [hS0.out, bS_data, List.nil_append] at h1
    exact h1
  have hfinal : Hid (glyphT d = H ++ d.out.flatMap loopL ++ d.parts.flatMap partL ++ d.anchors.flatMap anchL ++ hintL d.hints.data.toList ++ [101, 110, 100, 10]) := by rw [hH]; rfl
  replace hH := Lib.hid hH
  have hz4 : w1.heap.size < w4.heap.size := by have := hB24.size; omega
  clear hbd4 hbd3 hbn hc4 hg3 HB2 hS0 hS0z hz3
  have gc3 : w4.cell? ⟨w.heap.size, 3, none⟩ = some (.slice A3 n3 c3) := by rw [Go.Joins.cell_of_block (hBox.out w4 hB24)]; rfl
  have gl4 : w.heap.size < w4.heap.size := by omega
  go_wp2_with fail
  clear gc3 gl4
  go_loopw [32] (fun i wr => ∃ (k : Nat) (ds : List UInt8), i = .int .i64 k ∧ k ≤ n3 ∧ ds = H ++ (d.out.take k).flatMap loopL ∧ Bld wr w1.heap.size w1.heap.size ds ∧ Below w1.heap.size w2 wr) (fun i wr => n3 - (intOf i).toNat)
  case atStart => exact ⟨0, H, rfl, Nat.zero_le _, by simp, hbd4'.out, hB24⟩
  case round =>
    clear hbd4' hB24 hz4
    obtain ⟨k, ds, rfl, hk, hds, hbld, hbel⟩ := hrel
    have hdz : ds.length ≤ 31093 := by
      rw [hds, List.length_append]
      have := hLm.out k
      omega
    have hwb := hWd.out wr hbel
    have hsz := hwb.size
    have hXw := (hbld.lt).2
    replace hds := Lib.hid hds
    by_cases hlt : k < n3
    · obtain ⟨b, off, K, A2, n2, c2, rfl, hb0', hbh, hja, qk, hmx, hrk⟩ := out_at (hr0.out.frame good_loop (Below.sameB hwb hhi)) hlt
      have hKok := (outOk_is hout.out).2 K (List.mem_of_getElem? hja)
      have hn2 := hrk.1
      subst hn2
      have hKz : (loopT K).length ≤ 2580 := loopT_max hKok
      have hbw : b < wr.heap.size := by omega
      have hcall := Lib.hid (fun W (hS : SameB 0 wr.heap.size wr W) (hzW : wr.heap.size ≤ W.heap.size) => loopText_any A2 K.length c2 lo hi K hKok W (hrk.frame (good_flat _) (hS.mono (Nat.zero_le _) (by omega))) (by omega))
      have hnext : Hid (ds ++ ((({ data := #[108, 111, 111, 112, 32] } : ByteArray) ++ bS (loopT K)) ++ { data := #[10] }).data.toList = H ++ (d.out.take (k + 1)).flatMap loopL) := by
        show ds ++ _ = _
        rw [loop_text, bS_data, hds.out, flat_take loopL hja, List.append_assoc]
      have hsz9 : ((({ data := #[108, 111, 111, 112, 32] } : ByteArray) ++ bS (loopT K)) ++ { data := #[10] }).size ≤ 2590 := by
        rw [loop_text, bS_size]; have := loopL_len hKok; omega
      replace hsz9 := Lib.hid hsz9
      have hKz2 : (bS (loopT K)).size ≤ 2580 := hKz
      replace hbld := Lib.hid hbld
      clear hja hKok hrk hmx hb0' hbh
      go_wp2_with fail
      refine (hcall.out _ ((SameB.refl _ _ wr).alloc (Nat.le_refl _) _) (by simp)).mono ?_
      rintro e w5 ⟨rfl, hc5⟩
      have hb5 : Below wr.heap.size wr w5 := (Go.Joins.below_alloc1 wr _).trans (hc5.mono (by simp))
      have hbd5 := hbld.out.kept hb5
      have hz5 := hb5.size
      clear hc5
      go_wp2_with fail
      refine (writeString_any w1.heap.size w1.heap.size ds _ w5 hbd5 (by have := hsz9.out; omega) (by omega)).mono ?_
      rintro e w6 ⟨rfl, hbd6, hc6, _⟩
      have hb6 : Below w1.heap.size w2 w6 := (hbel.trans (hb5.mono (by omega))).trans hc6
      replace hbd6 := Lib.hid hbd6
      clear hc6 hbd5
      go_wp2_with fail
      go_roundw
      case rel => exact ⟨k + 1, _, by go_num, by omega, hnext.out, hbd6.out, hb6⟩
      case measure => simp [intOf]; omega
    · have hkn : k = n3 := by omega
      obtain ⟨H2, hH2⟩ : ∃ H2, H2 = H ++ d.out.flatMap loopL := ⟨_, rfl⟩
      have hfin1 : ds = H2 := by rw [hds.out, hH2, List.take_of_length_le (by omega)]
      rw [hfin1] at hbld
      rw [← hH2] at hfinal
      have hH2l : H2.length ≤ 31093 := by rw [← hfin1]; exact hdz
      replace hH2 := Lib.hid hH2
      obtain ⟨w5, hw5⟩ : ∃ v, v = wr := ⟨_, rfl⟩
      subst hw5
      have hB25 := hbel
      have hbd5 := Lib.hid hbld
      have gl5 : w.heap.size < w5.heap.size := by omega
      have gc4 : w5.cell? ⟨w.heap.size, 4, none⟩ = some (.slice A4 n4 c4) := by rw [Go.Joins.cell_of_block (hBox.out w5 hB25)]; rfl
      clear hbel hbld hds hdz hfin1 hwb hsz
      replace hkn := Lib.hid hkn
      go_wp2_with fail
      clear gc4 gl5
      go_loopw [45] (fun i wr => ∃ (k : Nat) (ds : List UInt8), i = .int .i64 k ∧ k ≤ n4 ∧ ds = H2 ++ (d.parts.take k).flatMap partL ∧ Bld wr w1.heap.size w1.heap.size ds ∧ Below w1.heap.size w2 wr) (fun i wr => n4 - (intOf i).toNat)
      case atStart => exact ⟨0, H2, rfl, Nat.zero_le _, by simp, hbd5.out, hB25⟩
      case round =>
        clear hbd5 hB25 hXw
        obtain ⟨q, es, rfl, hq, hes, hbld, hbel⟩ := hrel
        have hez : es.length ≤ 31501 := by
          rw [hes, List.length_append]
          have := hPm.out q
          omega
        have hwb := hWd.out wr hbel
        have hsz := hwb.size
        have hXw := (hbld.lt).2
        replace hes := Lib.hid hes
        by_cases hql : q < n4
        · obtain ⟨b, off, x, rfl, _, hb, hx, hcs⟩ := (hr1.out.frame (good_flat _) (Below.sameB hwb hhi)).at hql
          obtain ⟨⟨hx1, hx2⟩, hxv⟩ := hps.out x (List.mem_of_getElem? hx)
          have p0 := hcs 0 _ rfl
          have p1 := hcs 1 _ rfl
          have p2 := hcs 2 _ rfl
          simp only [Nat.add_zero] at p0
          have hbw : b < wr.heap.size := by omega
          have hd20 := decS_sz (n := x.1) (by omega) (by omega)
          have hpz := ptS_size hxv
          have hnext : Hid (es ++ ((((({ data := #[112, 97, 114, 116, 32] } : ByteArray) ++ decS x.1) ++ { data := #[32] }) ++ bS (ptT x.2.1 x.2.2)) ++ { data := #[10] }).data.toList = H2 ++ (d.parts.take (q + 1)).flatMap partL) := by
            show es ++ _ = _
            rw [part_text, bS_data, hes.out, flat_take partL hx, List.append_assoc]
          have hsz9 : Hid (((((({ data := #[112, 97, 114, 116, 32] } : ByteArray) ++ decS x.1) ++ { data := #[32] }) ++ bS (ptT x.2.1 x.2.2)) ++ { data := #[10] }).size ≤ 68) := by
            show _ ≤ _
            rw [part_text, bS_size]; exact partL_len ⟨⟨hx1, hx2⟩, hxv⟩
          have hcN := Lib.hid (fun W => implDec_any x.1 W (by omega) (by omega))
          have hcD := Lib.hid (fun W => ptText_any x.2.1 x.2.2 hxv W)
          clear hcs hx hxv
          obtain ⟨x1, x2, x3⟩ := x
          dsimp only at p0 p1 p2 hd20 hpz hcN hcD hnext hx1 hx2 hsz9
          have ha5 : Below wr.heap.size wr (wr.alloc (.cells #[.int .i64 x1, .int .i64 x2, .int .i64 x3] 106 (0, 0))) := Go.Joins.below_alloc1 _ _
          have HP := Lib.hid (heap_alloc_new wr (.cells #[.int .i64 x1, .int .i64 x2, .int .i64 x3] 106 (0, 0)))
          have hza : (wr.alloc (.cells #[.int .i64 x1, .int .i64 x2, .int .i64 x3] 106 (0, 0))).heap.size = wr.heap.size + 1 := by simp
          replace hbld := Lib.hid hbld
          go_wp2_with fail
          clear p0 p1 p2
          generalize wr.alloc (.cells #[.int .i64 x1, .int .i64 x2, .int .i64 x3] 106 (0, 0)) = w6 at *
          have k0 : ∀ dr os, (Go.Sort.grow (redrawn w6 dr) os).cell? ⟨wr.heap.size, 0, none⟩ = some (.int .i64 x1) := cell_regrown (by rw [Go.Joins.cell_of_block HP.out]; rfl)
          have k1 : ∀ dr os, (Go.Sort.grow (redrawn w6 dr) os).cell? ⟨wr.heap.size, 1, none⟩ = some (.int .i64 x2) := cell_regrown (by rw [Go.Joins.cell_of_block HP.out]; rfl)
          have k2 : ∀ dr os, (Go.Sort.grow (redrawn w6 dr) os).cell? ⟨wr.heap.size, 2, none⟩ = some (.int .i64 x3) := cell_regrown (by rw [Go.Joins.cell_of_block HP.out]; rfl)
          have hcN' := Lib.hid (fun dr os => Calls.regrown_of (hcN.out (Go.Sort.grow (redrawn w6 dr) os)))
          have hcD' := Lib.hid (fun dr os => Calls.regrown_of (hcD.out (Go.Sort.grow (redrawn w6 dr) os)))
          clear HP hcN hcD
          refine wp_region_headq 10 (by kernel_rfl) (by kernel_rfl) (by kernel_rfl) ?_
          simp only [List.take_succ_cons, List.take_zero, List.drop_succ_cons, List.drop_zero]
          repeat (go_big_quiet_step (first | (with_reducible exact hcN'.out _ _) | (with_reducible exact hcD'.out _ _)))
          refine wpQuiet_nil ?_
          intro _ hw'
          obtain ⟨⟨dq, osq⟩, hw''⟩ := hw'
          subst hw''
          have hg7 := ha5.trans ((below_regrown w6 dq osq).mono (by omega))
          clear k0 k1 k2 hcN' hcD' ha5 hza
          generalize Go.Sort.grow (redrawn w6 dq) osq = w7 at hg7 ⊢
          have hz7 := hg7.size
          have hbd7 := hbld.out.kept hg7
          go_wp2_with fail
          refine (writeString_any w1.heap.size w1.heap.size es _ w7 hbd7 (by have := hsz9.out; omega) (by omega)).mono ?_
          rintro e w8 ⟨rfl, hbd8, hc8, _⟩
          have hb8 : Below w1.heap.size w2 w8 := (hbel.trans (hg7.mono (by omega))).trans hc8
          replace hbd8 := Lib.hid hbd8
          clear hc8 hbd7
          go_wp2_with fail
          go_roundw
          case rel => exact ⟨q + 1, _, by go_num, by omega, hnext.out, hbd8.out, hb8⟩
          case measure => simp [intOf]; omega
        · have hqn : q = n4 := by omega
          obtain ⟨H3, hH3⟩ : ∃ H3, H3 = H2 ++ d.parts.flatMap partL := ⟨_, rfl⟩
          have hfin2 : es = H3 := by rw [hes.out, hH3, List.take_of_length_le (by omega)]
          rw [hfin2] at hbld
          rw [← hH3] at hfinal
          have hH3l : H3.length ≤ 31501 := by rw [← hfin2]; exact hez
          replace hH3 := Lib.hid hH3
          obtain ⟨w6, hw6⟩ : ∃ v, v = wr := ⟨_, rfl⟩
          subst hw6
          have hB26 := hbel
          have hbd6 := Lib.hid hbld
          have gl6 : w.heap.size < w6.heap.size := by omega
          have gc5 : w6.cell? ⟨w.heap.size, 5, none⟩ = some (.slice A5 n5 c5) := by rw [Go.Joins.cell_of_block (hBox.out w6 hB26)]; rfl
          clear hbel hbld hes hez hfin2 hwb hsz
          replace hqn := Lib.hid hqn
          go_wp2_with fail
          clear gc5 gl6
          go_loopw [64] (fun i wr => ∃ (k : Nat) (ds : List UInt8), i = .int .i64 k ∧ k ≤ n5 ∧ ds = H3 ++ (d.anchors.take k).flatMap anchL ∧ Bld wr w1.heap.size w1.heap.size ds ∧ Below w1.heap.size w2 wr) (fun i wr => n5 - (intOf i).toNat)
          case atStart => exact ⟨0, H3, rfl, Nat.zero_le _, by simp, hbd6.out, hB26⟩
          case round =>
            clear hbd6 hB26 hXw
            obtain ⟨t, fs, rfl, ht, hfs, hbld, hbel⟩ := hrel
            have hfz : fs.length ≤ 31873 := by
              rw [hfs, List.length_append]
              have := hAm.out t
              omega
            have hwb := hWd.out wr hbel
            have hsz := hwb.size
            have hXw := (hbld.lt).2
            replace hfs := Lib.hid hfs
            by_cases htl : t < n5
            · obtain ⟨b, off, x, rfl, _, hb, hx, hcs⟩ := (hr2.out.frame (good_flat _) (Below.sameB hwb hhi)).at htl
              obtain ⟨hx1, hxv⟩ := has.out x (List.mem_of_getElem? hx)
              have p0 := hcs 0 _ rfl
              have p1 := hcs 1 _ rfl
              have p2 := hcs 2 _ rfl
              simp only [Nat.add_zero] at p0
              have hbw : b < wr.heap.size := by omega
              have hpz := ptS_size hxv
              have hnext : Hid (fs ++ ((((({ data := #[97, 110, 99, 104, 111, 114, 32] } : ByteArray) ++ x.1) ++ { data := #[32] }) ++ bS (ptT x.2.1 x.2.2)) ++ { data := #[10] }).data.toList = H3 ++ (d.anchors.take (t + 1)).flatMap anchL) := by
                show fs ++ _ = _
                rw [anch_text, bS_data, hfs.out, flat_take anchL hx, List.append_assoc]
              have hsz9 : Hid (((((({ data := #[97, 110, 99, 104, 111, 114, 32] } : ByteArray) ++ x.1) ++ { data := #[32] }) ++ bS (ptT x.2.1 x.2.2)) ++ { data := #[10] }).size ≤ 62) := by
                show _ ≤ _
                rw [anch_text, bS_size]; exact anchL_len ⟨hx1, hxv⟩
              have hcD := Lib.hid (fun W => ptText_any x.2.1 x.2.2 hxv W)
              clear hcs hx hxv
              obtain ⟨x1, x2, x3⟩ := x
              dsimp only at p0 p1 p2 hpz hcD hnext hx1 hsz9
              have ha5 : Below wr.heap.size wr (wr.alloc (.cells #[.string x1, .int .i64 x2, .int .i64 x3] 117 (0, 0))) := Go.Joins.below_alloc1 _ _
              have HP := Lib.hid (heap_alloc_new wr (.cells #[.string x1, .int .i64 x2, .int .i64 x3] 117 (0, 0)))
              have hza : (wr.alloc (.cells #[.string x1, .int .i64 x2, .int .i64 x3] 117 (0, 0))).heap.size = wr.heap.size + 1 := by simp
              replace hbld := Lib.hid hbld
              go_wp2_with fail
              clear p0 p1 p2
              generalize wr.alloc (.cells #[.string x1, .int .i64 x2, .int .i64 x3] 117 (0, 0)) = w7 at *
              have k0 : ∀ dr os, (Go.Sort.grow (redrawn w7 dr) os).cell? ⟨wr.heap.size, 0, none⟩ = some (.string x1) := cell_regrown (by rw [Go.Joins.cell_of_block HP.out]; rfl)
              have k1 : ∀ dr os, (Go.Sort.grow (redrawn w7 dr) os).cell? ⟨wr.heap.size, 1, none⟩ = some (.int .i64 x2) := cell_regrown (by rw [Go.Joins.cell_of_block HP.out]; rfl)
              have k2 : ∀ dr os, (Go.Sort.grow (redrawn w7 dr) os).cell? ⟨wr.heap.size, 2, none⟩ = some (.int .i64 x3) := cell_regrown (by rw [Go.Joins.cell_of_block HP.out]; rfl)
              have hcD' := Lib.hid (fun dr os => Calls.regrown_of (hcD.out (Go.Sort.grow (redrawn w7 dr) os)))
              clear HP hcD
              refine wp_region_headq 9 (by kernel_rfl) (by kernel_rfl) (by kernel_rfl) ?_
              simp only [List.take_succ_cons, List.take_zero, List.drop_succ_cons, List.drop_zero]
              repeat (go_big_quiet_step (with_reducible exact hcD'.out _ _))
              refine wpQuiet_nil ?_
              intro _ hw'
              obtain ⟨⟨dq, osq⟩, hw''⟩ := hw'
              subst hw''
              have hg8 := ha5.trans ((below_regrown w7 dq osq).mono (by omega))
              clear k0 k1 k2 hcD' ha5 hza
              generalize Go.Sort.grow (redrawn w7 dq) osq = w8 at hg8 ⊢
              have hz8 := hg8.size
              have hbd8 := hbld.out.kept hg8
              go_wp2_with fail
              refine (writeString_any w1.heap.size w1.heap.size fs _ w8 hbd8 (by have := hsz9.out; omega) (by omega)).mono ?_
              rintro e w9 ⟨rfl, hbd9, hc9, _⟩
              have hb9 : Below w1.heap.size w2 w9 := (hbel.trans (hg8.mono (by omega))).trans hc9
              replace hbd9 := Lib.hid hbd9
              clear hc9 hbd8
              go_wp2_with fail
              go_roundw
              case rel => exact ⟨t + 1, _, by go_num, by omega, hnext.out, hbd9.out, hb9⟩
              case measure => simp [intOf]; omega
            · have htn : t = n5 := by omega
              obtain ⟨H4, hH4⟩ : ∃ H4, H4 = H3 ++ d.anchors.flatMap anchL := ⟨_, rfl⟩
              have hfin3 : fs = H4 := by rw [hfs.out, hH4, List.take_of_length_le (by omega)]
              rw [hfin3] at hbld
              rw [← hH4] at hfinal
              have hH4l : H4.length ≤ 31873 := by rw [← hfin3]; exact hfz
              replace hH4 := Lib.hid hH4
              have hbd7 := Lib.hid hbld
              have gl7 : w.heap.size < wr.heap.size := by omega
              have gc6 : wr.cell? ⟨w.heap.size, 6, none⟩ = some (.string d.hints) := by rw [Go.Joins.cell_of_block (hBox.out wr hbel)]; rfl
              clear hbld hfs hfz hfin3 hsz
              replace htn := Lib.hid htn
              by_cases hh0 : d.hints = ⟨#[]⟩
              · rw [hh0] at gc6
                rw [hh0, hint_none, List.append_nil] at hfinal
                replace hh0 := Lib.hid hh0
                go_wp2_with fail
                refine (writeString_any w1.heap.size w1.heap.size H4 ⟨#[101, 110, 100, 10]⟩ wr hbd7.out (by show _ + 4 ≤ _; omega) (by omega)).mono ?_
                rintro e w8 ⟨rfl, hbd8, hc8, _⟩
                have hb8 : Below w1.heap.size w2 w8 := hbel.trans hc8
                have hbd8' : Hid (Bld w8 w1.heap.size w1.heap.size (glyphT d)) := by show Bld _ _ _ _; rw [hfinal.out]; exact hbd8
                have hz8 : w1.heap.size ≤ w8.heap.size := by have := hc8.size; omega
                clear hbd8 hc8
                go_wp2_with fail
                refine (Tryz.Builder_String_any w1.heap.size w1.heap.size (glyphT d) w8 hbd8'.out hz8).mono ?_
                rintro e w9 ⟨rfl, hb9⟩
                have hb10 := hWd.out w9 (hb8.trans hb9)
                go_wp2_with fail
                go_ret
                exact ⟨ret_string hR.out.symm, hb10⟩
              · have hne : d.hints.toList.isEmpty = false := str_ne hh0
                have hhx := hexT_len d.hints.data.toList
                rw [data_len] at hhx
                have hhz : (bS (hexT d.hints.data.toList)).size ≤ 800 := by rw [bS_size]; omega
                have hht := hint_text hh0
                have hsz9 : Hid (((({ data := #[104, 105, 110, 116, 115, 32] } : ByteArray) ++ bS (hexT d.hints.data.toList)) ++ { data := #[10] }).size ≤ 807) := by
                  show _ ≤ _
                  rw [hht, bS_size]; exact hHm
                have hnext : Hid (H4 ++ ((({ data := #[104, 105, 110, 116, 115, 32] } : ByteArray) ++ bS (hexT d.hints.data.toList)) ++ { data := #[10] }).data.toList = H4 ++ hintL d.hints.data.toList) := by
                  show _ = _
                  rw [hht, bS_data]
                have hcall := Lib.hid (hexText_any d.hints wr (by omega))
                clear hhx hh0 hht
                go_wp2_with fail
                refine hcall.out.mono ?_
                rintro e w7 ⟨rfl, hc7⟩
                have hbd7' := hbd7.out.kept hc7
                have hz7 := hc7.size
                go_wp2_with fail
                refine (writeString_any w1.heap.size w1.heap.size H4 _ w7 hbd7' (by have := hsz9.out; omega) (by omega)).mono ?_
                rintro e w8 ⟨rfl, hbd8, hc8, _⟩
                rw [hnext.out] at hbd8
                have hb8 : Below w1.heap.size w2 w8 := (hbel.trans (hc7.mono (by omega))).trans hc8
                have hz8 : w1.heap.size ≤ w8.heap.size := by have := hc8.size; omega
                have hl8 : (H4 ++ hintL d.hints.data.toList).length ≤ 40000 := by rw [List.length_append]; omega
                clear hc8 hc7 hbd7'
                go_wp2_with fail
                refine (writeString_any w1.heap.size w1.heap.size (H4 ++ hintL d.hints.data.toList) ⟨#[101, 110, 100, 10]⟩ w8 hbd8 (by show _ + 4 ≤ _; omega) (by omega)).mono ?_
                rintro e w9 ⟨rfl, hbd9, hc9, _⟩
                have hb9 : Below w1.heap.size w2 w9 := hb8.trans hc9
                have hbd9' : Hid (Bld w9 w1.heap.size w1.heap.size (glyphT d)) := by show Bld _ _ _ _; rw [hfinal.out]; exact hbd9
                have hz9 : w1.heap.size ≤ w9.heap.size := by have := hc9.size; omega
                clear hbd9 hc9 hbd8
                go_wp2_with fail
                refine (Tryz.Builder_String_any w1.heap.size w1.heap.size (glyphT d) w9 hbd9'.out hz9).mono ?_
                rintro e w10 ⟨rfl, hb10⟩
                have hb11 := hWd.out w10 (hb9.trans hb10)
                go_wp2_with fail
                go_ret
                exact ⟨ret_string hR.out.symm, hb11⟩
theorem implGlyphText_any (d : Gl) (h : GlH) (lo hi : Nat) (w : World) (hr : GlRd w lo hi d h) (hhi : hi ≤ w.heap.size) (hm : d.small 1000000000) (hs : d.str) (hcap : h.anchors.n ≤ h.anchors.c) :
    Calls Tryz.prog 25 #[glV d h] w fun e w' => e = .returned (.string (glR d)) ∧ Below w.heap.size w w' :=
  implGlyphText_flat d h.out.A h.parts.A h.anchors.A h.out.n h.out.c h.parts.n h.parts.c h.anchors.n h.anchors.c lo hi w hr.1 hr.2.1 hr.2.2 hhi hm hs hcap
end Go.Proofs.YtgdkabljgabjoaaGreatDoor

/- A glyph's text read, the program's side. Conditions: as each states. -/
namespace Go.Proofs.YtgdkabljgabjoaaGreatDoor
open Go.RowKit
set_option linter.unusedVariables false
set_option maxRecDepth 100000
set_option maxRecDepth 100000

theorem MkG.rd {W : World} {Y lo i : Nat} {d : Gl} {h : GlH} (r : MkG W Y lo d h) (hb : RB d i) : GlRd W lo W.heap.size d h := by
  obtain ⟨ys, h1, h2, h3⟩ := r.o
  refine ⟨OutOwn.rd (⟨ys, r.on, h1, fun j K hj => h2 j K (by have := (List.getElem?_eq_some_iff.1 hj).1; have := r.on; omega) hj, h3⟩ : OutOwn W lo h.out.A h.out.n h.out.c d.out) (fun K hK => Nat.le_trans (hb.k K hK) (by decide)), rdS_own partC_len (by omega) r.p r.pn, rdS_own anchC_len (by omega) r.a r.an⟩
def gl0 : Gl := ⟨⟨#[]⟩, 0, 0, [], [], [], ⟨#[]⟩⟩
/-- what reading a glyph comes to -/
def RGPost (s : ByteArray) (w : World) (e : Ending) (w' : World) : Prop :=
  ∃ (d : Gl) (h : GlH) (t : Bool), e = .returned (.tuple #[glV d h, .bool t]) ∧ (t = true ∧ glyphOk d = true ∧ s.data.toList = glyphT d ∨ t = false ∧ d = gl0 ∧ ∀ g, glyphOk g = true → s.data.toList ≠ glyphT g) ∧ (∀ g, glyphOk g = true → s.data.toList = glyphT g → t = true ∧ d = g) ∧ GlX w' w.heap.size w'.heap.size d h ∧ Below w.heap.size w w'
theorem glX_0 (w : World) (lo hi : Nat) : GlX w lo hi gl0 nilH0 :=
  ⟨⟨[], rfl, World.ownsRow_nil _ _ _ _, fun j K hj => (by simp [gl0] at hj), fun i j u v _ hu => (by simp at hu), fun g hg => (by cases hg), fun j v g hj => (by simp at hj)⟩, World.ownsRow_nil _ _ _ _, rfl, fun g hg => (by cases hg), World.ownsRow_nil _ _ _ _, rfl, fun g hg => (by cases hg), Nat.le_refl _⟩
theorem glLines_two (g : Gl) : 2 ≤ (glLines g).length := by simp [glLines]; omega
theorem gl_split {g : Gl} (h : glyphOk g = true) : splitF 10 (glyphT g) = glLines g ++ [[]] := by
  obtain ⟨h1, _, _, _, _, h6⟩ := glyphOk_parts h
  rw [glyphT_lines]
  exact split_lines _ (glLines_no h1 fun a ha => (h6 a ha).1)
theorem glyphT_ne {g : Gl} : glyphT g ≠ [] := by
  rw [glyphT_lines]; simp [glLines, endl]
theorem gl_last {s : ByteArray} {g : Gl} (h : glyphOk g = true) (hs : s.data.toList = glyphT g) : (splitF 10 s.data.toList).getLast? = some [] := by
  rw [hs, gl_split h]; simp
theorem gl_lines {s : ByteArray} {Ls : List (List UInt8)} {g : Gl} (h : glyphOk g = true) (hsp : splitF 10 s.data.toList = Ls ++ [[]]) (hs : s.data.toList = glyphT g) : Ls = glLines g := by
  rw [hs, gl_split h] at hsp
  exact (List.append_inj_left' hsp rfl).symm
/-- the cells of a glyph's box that holds nothing -/
theorem mk_r7 {w : World} {B : Nat} (h : w.heap[B]? = some (.cells #[.string ⟨#[]⟩, .int .i64 0, .int .i64 0, .slice none 0 0, .slice none 0 0, .slice none 0 0, .string ⟨#[]⟩] 28 (0, 0))) : w.cell? ⟨B, 0, none⟩ = some (.string ⟨#[]⟩) ∧ w.cell? ⟨B, 1, none⟩ = some (.int .i64 0) ∧ w.cell? ⟨B, 2, none⟩ = some (.int .i64 0) ∧ w.cell? ⟨B, 3, none⟩ = some (.slice none 0 0) ∧ w.cell? ⟨B, 4, none⟩ = some (.slice none 0 0) ∧ w.cell? ⟨B, 5, none⟩ = some (.slice none 0 0) ∧ w.cell? ⟨B, 6, none⟩ = some (.string ⟨#[]⟩) ∧ (∀ o, w.frozen? ⟨B, o, none⟩ = false) ∧ B < w.heap.size :=
  ⟨by rw [Go.Joins.cell_of_block h]; rfl, by rw [Go.Joins.cell_of_block h]; rfl, by rw [Go.Joins.cell_of_block h]; rfl, by rw [Go.Joins.cell_of_block h]; rfl, by rw [Go.Joins.cell_of_block h]; rfl, by rw [Go.Joins.cell_of_block h]; rfl, by rw [Go.Joins.cell_of_block h]; rfl, Go.Joins.unfrozen_of_block h, (Array.getElem?_eq_some_iff.1 h).1⟩
theorem sevenB {w w' : World} {B : Nat} (h : Below B w w') (v0 v1 v2 v3 v4 v5 v6 : Value) : Below B w (((((((w'.setCell ⟨B, 0, none⟩ v0).setCell ⟨B, 1, none⟩ v1).setCell ⟨B, 2, none⟩ v2).setCell ⟨B, 3, none⟩ v3).setCell ⟨B, 4, none⟩ v4).setCell ⟨B, 5, none⟩ v5).setCell ⟨B, 6, none⟩ v6) :=
  ((((((h.setCell (p := ⟨B, 0, none⟩) (Nat.le_refl _) _).setCell (p := ⟨B, 1, none⟩) (Nat.le_refl _) _).setCell (p := ⟨B, 2, none⟩) (Nat.le_refl _) _).setCell (p := ⟨B, 3, none⟩) (Nat.le_refl _) _).setCell (p := ⟨B, 4, none⟩) (Nat.le_refl _) _).setCell (p := ⟨B, 5, none⟩) (Nat.le_refl _) _).setCell (p := ⟨B, 6, none⟩) (Nat.le_refl _) _
theorem sevenS {w : World} {B lo hi : Nat} (h : B < lo) (v0 v1 v2 v3 v4 v5 v6 : Value) : SameB lo hi w (((((((w.setCell ⟨B, 0, none⟩ v0).setCell ⟨B, 1, none⟩ v1).setCell ⟨B, 2, none⟩ v2).setCell ⟨B, 3, none⟩ v3).setCell ⟨B, 4, none⟩ v4).setCell ⟨B, 5, none⟩ v5).setCell ⟨B, 6, none⟩ v6) :=
  (((((((SameB.refl _ _ w).setCell (.inl h) _).setCell (.inl h) _).setCell (.inl h) _).setCell (.inl h) _).setCell (.inl h) _).setCell (.inl h) _).setCell (.inl h) _
theorem rg_no {s : ByteArray} {w w' : World} (hno : ∀ g, glyphOk g = true → s.data.toList ≠ glyphT g) (hb : Below w.heap.size w w') : RGPost s w (.returned (.tuple #[glV gl0 nilH0, .bool false])) w' :=
  ⟨gl0, nilH0, false, rfl, .inr ⟨rfl, rfl, hno⟩, fun g h1 h2 => absurd h2 (hno g h1), glX_0 _ _ _, hb⟩
set_option maxHeartbeats 8000000 in
theorem implReadGlyph_any (s : ByteArray) (w : World) (hm : MaxI w) (hs : s.size ≤ 1048576) :
    Calls Tryz.prog 7 #[.string s] w fun e w' => RGPost s w e w' := by
  have hml := hm.lt
  have hbb : Below w.heap.size w (w.alloc (.cells #[.string ⟨#[]⟩, .int .i64 0, .int .i64 0, .slice none 0 0, .slice none 0 0, .slice none 0 0, .string ⟨#[]⟩] 28 (0, 0))) := Go.Joins.below_alloc1 _ _
  have hm0 := hm.kept hbb hml
  have hR0 := Lib.hid (heap_alloc_new w (.cells #[.string ⟨#[]⟩, .int .i64 0, .int .i64 0, .slice none 0 0, .slice none 0 0, .slice none 0 0, .string ⟨#[]⟩] 28 (0, 0)))
  have hz0 : w.heap.size < (w.alloc (.cells #[.string ⟨#[]⟩, .int .i64 0, .int .i64 0, .slice none 0 0, .slice none 0 0, .slice none 0 0, .string ⟨#[]⟩] 28 (0, 0))).heap.size := by simp
  have hB0 := Lib.hid hbb
  have htl := Lib.hid (fun W h => textLines_any s W h hs)
  have hsub := Lib.hid (fun a (h : a ∈ splitF 10 s.data.toList) => bytes_subB hs h)
  have hcnt := (split_len 10 _ s.data.toList (Nat.le_refl _)).1
  have hsl : s.data.toList.length = s.size := by simp
  rw [hsl] at hcnt
  clear hm hsl hbb
  go_enter Tryz.func7, Tryz.ntmps7
  go_upto_region 1 with fail
  generalize w.alloc (.cells #[.string ⟨#[]⟩, .int .i64 0, .int .i64 0, .slice none 0 0, .slice none 0 0, .slice none 0 0, .string ⟨#[]⟩] 28 (0, 0)) = w0 at *
  go_wp2_with fail
  refine (htl.out _ hm0).mono ?_
  rintro e w1 (⟨rfl, hl, hb1⟩ | ⟨A, n, cp, Ls, rfl, hsp, hla, hb1⟩)
  · have hno : Hid (∀ g, glyphOk g = true → s.data.toList ≠ glyphT g) := fun g hg e => hl (gl_last hg e)
    have hR1 := (hb1.block _ hz0).trans hR0.out
    have hB1 := Lib.hid (hB0.out.trans (hb1.mono (Nat.le_of_lt hz0)))
    obtain ⟨r0, r1, r2, r3, r4, r5, r6, rf, rl⟩ := mk_r7 hR1
    clear hl hb1 hR0 hB0 hR1 hm0 htl hsub hcnt
    go_wp2_with fail
    exact bodyPost_ret (v := .tuple #[glV gl0 nilH0, .bool false]) (by simp [results, Tryz.results7, go_sem, r0, r1, r2, r3, r4, r5, r6, gl0, nilH0]) rfl (rg_no hno.out (sevenB hB1.out _ _ _ _ _ _ _))
  have hR1 := Lib.hid ((hb1.block _ hz0).trans hR0.out)
  have hB1 := Lib.hid (hB0.out.trans (hb1.mono (Nat.le_of_lt hz0)))
  have hz1 := hb1.size
  have hml0 := hm0.lt
  have hm1 := hm0.kept hb1 hml0
  have hnl := hla.1
  have hn1 : n ≤ 1048577 := by rw [hsp, List.length_append] at hcnt; simp at hcnt; omega
  have hmem : Hid (∀ a ∈ Ls, (bytesOf a).size ≤ 1048576) := fun a ha => hsub.out a (by rw [hsp]; exact List.mem_append_left _ ha)
  have hgl : Hid (∀ g, glyphOk g = true → s.data.toList = glyphT g → Ls = glLines g) := fun g hg e => gl_lines hg hsp e
  have hrr := mk_r7 hR1.out
  by_cases hn2 : n < 2
  · have t1 : (n : Int) < 2 := by omega
    have hno : Hid (∀ g, glyphOk g = true → s.data.toList ≠ glyphT g) := fun g hg e => by
      have h1 := hgl.out g hg e
      have h2 := glLines_two g
      rw [← h1] at h2
      omega
    obtain ⟨r0, r1, r2, r3, r4, r5, r6, rf, rl⟩ := hrr
    clear hla hsp hb1 hR0 hB0 hm0 hm1 htl hsub hcnt hnl hmem hgl
    go_wp2_with fail
    exact bodyPost_ret (v := .tuple #[glV gl0 nilH0, .bool false]) (by simp [results, Tryz.results7, go_sem, r0, r1, r2, r3, r4, r5, r6, gl0, nilH0]) rfl (rg_no hno.out (sevenB hB1.out _ _ _ _ _ _ _))
  have t1 : ¬ (n : Int) < 2 := by omega
  have hs0 : Hid (s.data.toList ≠ []) := fun e => by
    have h1 := hsp
    rw [e] at h1
    have h2 := congrArg List.length h1
    simp [splitF] at h2
    rw [h2] at hnl
    simp at hnl
    omega
  have hbb : Below w1.heap.size w1 (w1.alloc (.cells #[.string ⟨#[]⟩, .int .i64 0, .int .i64 0, .slice none 0 0, .slice none 0 0, .slice none 0 0, .string ⟨#[]⟩] 28 (0, 0))) := Go.Joins.below_alloc1 _ _
  have hY2 := Lib.hid (heap_alloc_new w1 (.cells #[.string ⟨#[]⟩, .int .i64 0, .int .i64 0, .slice none 0 0, .slice none 0 0, .slice none 0 0, .string ⟨#[]⟩] 28 (0, 0)))
  have hm2 := Lib.hid (hm1.kept hbb hm1.lt)
  have hla2 := hla.below hbb
  obtain ⟨bL, rfl, hbL, hLc⟩ := hla2.2 (by omega)
  have hbL1 : bL < w1.heap.size := by
    obtain ⟨b', e1, h1, _⟩ := hla.2 (by omega)
    injection e1 with e1
    injection e1 with e1
    rw [e1]; exact h1
  have hR2 := Lib.hid ((hbb.block w.heap.size (by omega)).trans hR1.out)
  have hB2 := Lib.hid (hB1.out.trans (hbb.mono (by omega)))
  have hz2 := Lib.hid (show w1.heap.size + 1 = (w1.alloc (.cells #[.string ⟨#[]⟩, .int .i64 0, .int .i64 0, .slice none 0 0, .slice none 0 0, .slice none 0 0, .string ⟨#[]⟩] 28 (0, 0))).heap.size by simp)
  replace hLc := Lib.hid hLc
  replace hnl := Lib.hid hnl
  replace hm1 := Lib.hid hm1
  have hrw : w.heap.size < w1.heap.size := by omega
  have hmx1 := hm1.out.lt
  clear hla hla2 hsp hb1 hR0 hB0 hm0 htl hsub hcnt hR1 hB1 hbb hrr
  go_upto_region 5 with fail
  generalize w1.alloc (.cells #[.string ⟨#[]⟩, .int .i64 0, .int .i64 0, .slice none 0 0, .slice none 0 0, .slice none 0 0, .string ⟨#[]⟩] 28 (0, 0)) = w2 at *
  obtain ⟨Y, hY⟩ : ∃ Y, Y = w1.heap.size := ⟨_, rfl⟩
  rw [← hY] at hY2 hz2 hrw hbL1 hz1 hmx1 ⊢
  replace hY := Lib.hid hY
  go_wp2_with fail
  have hmY : 0 < Y := by omega
  go_loopw [24] (fun iv wr => ∃ (i : Nat) (d : Gl) (h : GlH), iv = .int .i64 i ∧ i ≤ n ∧ MkG wr Y (Y + 1) d h ∧ RB d i ∧ (∀ g, glyphOk g = true → s.data.toList = glyphT g → d = glSt g i) ∧ Y + 1 ≤ wr.heap.size ∧ Below Y w2 wr) (fun iv wr => n - (intOf iv).toNat)
  case atStart => exact ⟨0, gl0, nilH0, rfl, Nat.zero_le _, MkG.start (Nat.lt_succ_self _) hY2.out, ⟨by simp [gl0], fun K hK => by simp [gl0] at hK, by simp [gl0], by simp [gl0], Nat.zero_le _, Nat.zero_le _, fun a ha => by simp [gl0] at ha⟩, fun g _ _ => rfl, by rw [← hz2.out]; exact Nat.le_refl _, Below.refl _ _⟩
  case round =>
    clear hY2
    obtain ⟨i, d, h, rfl, hi, hmk, hrb, hinv, hzr, hbr⟩ := hrel
    have hRr := (hbr.block w.heap.size hrw).trans hR2.out
    have hmr := hm2.out.kept hbr hmY
    by_cases hlt : i < n
    · have hti : (i : Int) < (n : Int) := by omega
      have hti0 : (0 : Int) ≤ (i : Int) ∧ (i : Int) < (n : Int) := by omega
      obtain ⟨l, hl⟩ : ∃ l, Ls[i]? = some l := ⟨_, List.getElem?_eq_getElem (by have := hnl.out; omega)⟩
      have q0 : wr.cell? ⟨bL, i, none⟩ = some (.string (bytesOf l)) := (hbr.cell (p := ⟨bL, i, none⟩) hbL1).trans (hLc.out i l hl)
      have hcl := Lib.hid (readGlyphLine_any (bytesOf l) wr Y (Y + 1) i d h hmk hzr hmr hmY (hmem.out l (List.mem_of_getElem? hl)) (by omega) hrb)
      have hlin : Hid (∀ g, glyphOk g = true → s.data.toList = glyphT g → LineTo d l (glSt g (i + 1))) := fun g hg e => by
        have h1 := hgl.out g hg e
        rw [hinv g hg e]
        exact gl_step hg (by rw [← h1]; exact hl)
      replace hbr := Lib.hid hbr
      have hbLr : bL < wr.heap.size := by omega
      clear hinv hmk hrb hRr hmr hl
      go_wp2_with fail
      refine hcl.out.mono ?_
      rintro e w3 ⟨d', h', t, rfl, hmk3, hrb3, hst, hb3⟩
      have hst' : ∀ d0, LineTo d l d0 → t = true ∧ d' = d0 := fun d0 h0 => hst d0 (by rwa [show (bytesOf l).data.toList = l by simp [bytesOf]])
      have hbr3 := Lib.hid (hbr.out.trans hb3)
      have hz3 := hb3.size
      have hRr := (hbr3.out.block w.heap.size hrw).trans hR2.out
      obtain ⟨r0, r1, r2, r3, r4, r5, r6, rf, rl⟩ := mk_r7 hRr
      cases t
      · have hno : Hid (∀ g, glyphOk g = true → s.data.toList ≠ glyphT g) := fun g hg e => by
          have := (hst' _ (hlin.out g hg e)).1
          cases this
        have hBf := Lib.hid (hB2.out.trans (hbr3.out.mono (by omega)))
        clear hst hst' hlin hcl hmk3 hrb3 hb3
        go_wp2_with fail
        exact bodyPost_ret (v := .tuple #[glV gl0 nilH0, .bool false]) (by simp [results, Tryz.results7, go_sem, r0, r1, r2, r3, r4, r5, r6, gl0, nilH0]) rfl (rg_no hno.out (sevenB hBf.out _ _ _ _ _ _ _))
      · have hinv3 : Hid (∀ g, glyphOk g = true → s.data.toList = glyphT g → d' = glSt g (i + 1)) := fun g hg e => (hst' _ (hlin.out g hg e)).2
        replace hmk3 := Lib.hid hmk3
        replace hrb3 := Lib.hid hrb3
        clear hst hst' hlin hcl hb3 r0 r1 r2 r3 r4 r5 r6 rf rl hRr
        go_wp2_with fail
        go_roundw
        case rel => exact ⟨i + 1, d', h', by go_num, by omega, hmk3.out, hrb3.out, hinv3.out, by omega, hbr3.out⟩
        case measure => simp [intOf]; omega
    · have hin : i = n := by omega
      have hti : ¬ (i : Int) < (n : Int) := by omega
      have hend : Hid (∀ g, glyphOk g = true → s.data.toList = glyphT g → d = g) := fun g hg e => by
        have h1 := hgl.out g hg e
        rw [hinv g hg e, hin, hnl.out, h1]
        exact gl_end
      have hcl := Lib.hid (implGlyphText_any d h (Y + 1) wr.heap.size wr (hmk.rd hrb) (Nat.le_refl _) (hrb.small (by omega)) hrb.str (own_nc hmk.a))
      have hx := Lib.hid hmk.glx
      obtain ⟨y0, y1, y2, y3, y4, y5, y6, yf, yl⟩ := hmk.cellsY
      obtain ⟨r0, r1, r2, r3, r4, r5, r6, rf, rl⟩ := mk_r7 hRr
      have hBr := Lib.hid (hB2.out.trans (hbr.mono (by omega)))
      replace hmk := Lib.hid hmk
      clear hinv hrb hbr hmr hin
      go_upto_region 11 with fail
      have hG : Hid (glR d = if glyphOk d = true then bS (glyphT d) else ⟨#[]⟩) := (rfl : glR d = _)
      generalize glR d = G at *
      go_wp2_with fail
      refine hcl.out.mono ?_
      rintro e w3 ⟨rfl, hb3⟩
      have hBf := Lib.hid (hBr.out.trans (hb3.mono hBr.out.size))
      have hk3 := hmk.out.below hb3
      have hR3 := (hb3.block _ rl).trans hRr
      have hx3 := Lib.hid hk3.glx
      clear y0 y1 y2 y3 y4 y5 y6 yf yl r0 r1 r2 r3 r4 r5 r6 rf rl hcl hRr hx
      obtain ⟨y0, y1, y2, y3, y4, y5, y6, yf, yl⟩ := hk3.cellsY
      obtain ⟨r0, r1, r2, r3, r4, r5, r6, rf, rl⟩ := mk_r7 hR3
      have hne1 : ¬ Y = w.heap.size := by omega
      have hne2 : ¬ w.heap.size = Y := by omega
      by_cases hGs : G = s
      · have t9 : (G.toList == s.toList) = true := by rw [hGs]; simp
        have hyes : Hid (glyphOk d = true ∧ s.data.toList = glyphT d) := by
          have h1 := hG.out
          split at h1
          · next h2 => exact ⟨h2, by rw [← hGs, h1]; simp [bS]⟩
          · exact absurd (by rw [← hGs, h1]) hs0.out
        clear hG hs0 hk3 hR3 hb3 hmk
        go_wp2_with fail
        refine bodyPost_ret (v := .tuple #[glV d h, .bool true]) (by simp [results, Tryz.results7, go_sem, r0, r1, r2, r3, r4, r5, r6]) rfl ⟨d, h, true, rfl, .inl ⟨rfl, hyes.out⟩, fun g h1 h2 => ⟨rfl, hend.out g h1 h2⟩, ?_, sevenB hBf.out _ _ _ _ _ _ _⟩
        exact (hx3.out.same (sevenS (by omega) _ _ _ _ _ _ _)).wide (by omega) (by simp)
      · have t9 : (G.toList == s.toList) = false := by
          rw [beq_eq_false_iff_ne]
          intro h1
          rw [ByteArray.toList_eq, ByteArray.toList_eq] at h1
          exact hGs (by rw [mk_bytes (nm := G), mk_bytes (nm := s), h1])
        have hno : Hid (∀ g, glyphOk g = true → s.data.toList ≠ glyphT g) := fun g hg e => by
          have h1 := hend.out g hg e
          subst h1
          have h2 := hG.out
          rw [if_pos hg] at h2
          exact hGs (by rw [h2, mk_bytes (nm := s), e]; rfl)
        clear hG hk3 hR3 hb3 hmk hGs
        go_wp2_with fail
        exact bodyPost_ret (v := .tuple #[glV gl0 nilH0, .bool false]) (by simp [results, Tryz.results7, go_sem, r0, r1, r2, r3, r4, r5, r6, gl0, nilH0]) rfl (rg_no hno.out (sevenB hBf.out _ _ _ _ _ _ _))
end Go.Proofs.YtgdkabljgabjoaaGreatDoor

