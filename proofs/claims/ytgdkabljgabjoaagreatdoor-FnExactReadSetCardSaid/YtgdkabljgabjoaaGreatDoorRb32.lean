/- The text of a glyph, the reference's. Conditions: as each states. -/
import Derived.Lib.QuietBelow
import Derived.Test.YtgdkabljgabjoaaGreatDoorRb28
import Derived.Test.YtgdkabljgabjoaaGreatDoorRb08
import Derived.Test.YtgdkabljgabjoaaGreatDoorRb31
import Derived.Test.YtgdkabljgabjoaaGreatDoorRb25
namespace Go.Proofs.YtgdkabljgabjoaaGreatDoor
open Go.RowKit
set_option linter.unusedVariables false
set_option maxRecDepth 100000

theorem str_ne {s : ByteArray} (h : ¬ s = ⟨#[]⟩) : s.toList.isEmpty = false := by
  rw [ByteArray.toList_eq]
  cases hl : s.data.toList with
  | nil => exact absurd (by rw [bS_of s, hl]; rfl) h
  | cons a l => rfl
set_option maxHeartbeats 8000000 in
theorem l17Text_flat (p o : Nat) (d : Gl) (A3 A4 A5 : Option Addr) (n3 c3 n4 c4 n5 c5 lo hi : Nat) (hg : GlT d) (w : World) (hp : p < w.heap.size)
    (g0 : w.cell? ⟨p, o, none⟩ = some (.string d.name)) (g1 : w.cell? ⟨p, o + 1, none⟩ = some (.int .i64 d.code)) (g2 : w.cell? ⟨p, o + 2, none⟩ = some (.int .i64 d.adv)) (g3 : w.cell? ⟨p, o + 3, none⟩ = some (.slice A3 n3 c3)) (g4 : w.cell? ⟨p, o + 4, none⟩ = some (.slice A4 n4 c4)) (g5 : w.cell? ⟨p, o + 5, none⟩ = some (.slice A5 n5 c5)) (g6 : w.cell? ⟨p, o + 6, none⟩ = some (.string d.hints))
    (hr0 : OutRd w lo hi A3 n3 d.out) (hr1 : RdS 3 (FlatR partC) w lo hi A4 n4 d.parts) (hr2 : RdS 3 (FlatR anchC) w lo hi A5 n5 d.anchors) (hhi : hi ≤ w.heap.size) :
    Calls Tryz.prog 29 #[.pointer (some ⟨p, o, none⟩)] w fun e w' => e = .returned (.string (bS (glyphT d))) ∧ Below w.heap.size w w' := by
  have hol := hr0.1
  have hpl := hr1.1
  have hal := hr2.1
  have hp6 := hg.pl
  have ha6 := hg.al
  have hh400 := hg.hl
  have hnm := hg.nm
  have hout := Lib.hid hg.out
  obtain ⟨hc1, hc2⟩ := hg.code
  obtain ⟨ha1, ha2⟩ := hg.adv
  have hdc := decS_sz (n := d.code) (by omega) (by omega)
  have hda := decS_sz (n := d.adv) (by omega) (by omega)
  have hHl := headT_len hg
  have hLm := Lib.hid (loops_max hg)
  have hPm := Lib.hid (parts_max hg)
  have hAm := Lib.hid (anchs_max hg)
  have hHm := hintL_len hg.hl
  have hps := Lib.hid hg.ps
  have has := Lib.hid hg.ans
  have hot := outT_max hg.out
  obtain ⟨ho12, _⟩ := outOk_is hg.out
  replace hr0 := Lib.hid hr0
  replace hr1 := Lib.hid hr1
  replace hr2 := Lib.hid hr2
  replace hg := Lib.hid hg
  have hcN := Lib.hid (fun dr os => Calls.regrown_of (l01Dec_any d.code (Go.Sort.grow (redrawn w dr) os) (by omega) (by omega)))
  have hcD := Lib.hid (fun dr os => Calls.regrown_of (l01Dec_any d.adv (Go.Sort.grow (redrawn w dr) os) (by omega) (by omega)))
  have k0 : ∀ dr os, (Go.Sort.grow (redrawn w dr) os).cell? ⟨p, o, none⟩ = some (.string d.name) := cell_regrown g0
  have k1 : ∀ dr os, (Go.Sort.grow (redrawn w dr) os).cell? ⟨p, o + 1, none⟩ = some (.int .i64 d.code) := cell_regrown g1
  have k2 : ∀ dr os, (Go.Sort.grow (redrawn w dr) os).cell? ⟨p, o + 2, none⟩ = some (.int .i64 d.adv) := cell_regrown g2
  go_enter Tryz.func29, Tryz.ntmps29
  go_wp2_with fail
  refine wp_region_quiet_below (by kernel_rfl) (by kernel_rfl) ?_
  repeat (go_big_quiet_step (first | (with_reducible exact hcN.out _ _) | (with_reducible exact hcD.out _ _)))
  refine wpQuiet_nil ?_
  intro _ hw'
  obtain ⟨⟨dq, osq⟩, hw''⟩ := hw'
  subst hw''
  have hb1 := below_regrown w dq osq
  clear hcN hcD k0 k1 k2
  generalize Go.Sort.grow (redrawn w dq) osq = w1 at hb1 ⊢
  have hz1 := hb1.size
  have e3 : w1.cell? ⟨p, o + 3, none⟩ = some (.slice A3 n3 c3) := (hb1.cell hp).trans g3
  have hpw1 : p < w1.heap.size := by omega
  obtain ⟨S0, hS0⟩ : ∃ S : ByteArray, S = ((((((⟨#[103, 108, 121, 112, 104, 32]⟩ : ByteArray) ++ d.name) ++ ⟨#[32]⟩) ++ decS d.code) ++ ⟨#[32]⟩) ++ decS d.adv) ++ ⟨#[10]⟩ := ⟨_, rfl⟩
  rw [← hS0]
  rw [head_text] at hS0
  have hS0z : S0.size ≤ 61 := by rw [hS0]; exact hHl
  replace hS0 := Lib.hid hS0
  go_wp2_with fail
  refine (l10Text_any p (o + 3) A3 n3 c3 lo hi d.out hout.out w1 hpw1 e3 (hr0.out.frame good_loop (Below.sameB hb1 hhi)) (by omega)).mono ?_
  rintro e w2 ⟨rfl, hb2⟩
  have hB2 := hb1.trans (hb2.mono hz1)
  clear e3 hb2
  go_wp2_with fail
  refine (l01Split_any (bS (outT d.out)) 10 w2 (by rw [bS_size]; omega)).mono ?_
  rintro e w3 ⟨Al, cl, nl, hnl, rfl, hrow, hb3⟩
  have hB3 := hB2.trans (hb3.mono hB2.size)
  have hsp : splitF 10 (bS (outT d.out)).data.toList = d.out.map loopT ++ [[]] := outT_split d.out
  rw [hsp] at hnl hrow
  rw [List.length_append, List.length_map] at hnl
  simp only [List.length_cons, List.length_nil] at hnl
  obtain ⟨g, rfl, hgB, hgl, hgc, hcell, _⟩ := own_at hrow (by omega)
  have hline : Hid (∀ (k : Nat) (K : List Knot), d.out[k]? = some K → w3.cell? ⟨g, k, none⟩ = some (.string (bS (loopT K)))) := fun k K hk => by
    have hkl := (List.getElem?_eq_some_iff.1 hk).1
    rw [hcell k (by omega)]
    unfold strV
    rw [List.getElem?_map, List.getElem?_append_left (by rw [List.length_map]; exact hkl), List.getElem?_map, hk]
    rfl
  have hz3 := hB3.size
  clear hcell hrow hgc hb3 hsp
  obtain ⟨H, hH⟩ : ∃ H, H = headT d.name.data.toList d.code d.adv := ⟨_, rfl⟩
  rw [← hH] at hS0 hHl
  have hfinal : Hid (glyphT d = H ++ d.out.flatMap loopL ++ d.parts.flatMap partL ++ d.anchors.flatMap anchL ++ hintL d.hints.data.toList ++ [101, 110, 100, 10]) := by rw [hH]; rfl
  replace hH := Lib.hid hH
  go_wp2_with fail
  go_loopw [3, 5] (fun out i wr => ∃ (k : Nat) (ds : ByteArray), i = .int .i64 k ∧ k ≤ n3 ∧ out = .string ds ∧ ds = bS (H ++ (d.out.take k).flatMap loopL) ∧ Below w3.heap.size w3 wr) (fun out i wr => n3 - (intOf i).toNat)
  case atStart => exact ⟨0, S0, rfl, Nat.zero_le _, rfl, by rw [hS0.out]; simp, Below.refl _ _⟩
  case round =>
    obtain ⟨k, ds, rfl, hk, rfl, hds, hbel⟩ := hrel
    have hdz : ds.size ≤ 31093 := by
      rw [hds, bS_size, List.length_append]
      have := hLm.out k
      omega
    have hsz := hbel.size
    replace hds := Lib.hid hds
    by_cases hlt : k < n3
    · obtain ⟨K, hja⟩ : ∃ K, d.out[k]? = some K := ⟨_, List.getElem?_eq_getElem (by omega)⟩
      have hKok := (outOk_is hout.out).2 K (List.mem_of_getElem? hja)
      have hKz : (bS (loopT K)).size ≤ 2580 := loopT_max hKok
      have q0 : wr.cell? ⟨g, k, none⟩ = some (.string (bS (loopT K))) := (hbel.cell hgl).trans (hline.out k K hja)
      have hgw : g < wr.heap.size := by omega
      have hki : (k : Int) + 1 < (nl : Int) := by omega
      have hki2 : (k : Int) < (nl : Int) := by omega
      have hnext : Hid (ds ++ ((({ data := #[108, 111, 111, 112, 32] } : ByteArray) ++ bS (loopT K)) ++ { data := #[10] }) = bS (H ++ (d.out.take (k + 1)).flatMap loopL)) := by
        show ds ++ _ = _
        rw [loop_text, hds.out, bS_app, flat_take loopL hja, List.append_assoc]
      clear hja hKok
      go_wp2_with fail
      go_roundw
      case rel => exact ⟨k + 1, _, by go_num, by omega, rfl, hnext.out, hbel⟩
      case measure => simp [intOf]; omega
    · have hkn : k = n3 := by omega
      have hfin1 : ds = bS (H ++ d.out.flatMap loopL) := by rw [hds.out, List.take_of_length_le (by omega)]
      have hki : ¬ (k : Int) + 1 < (nl : Int) := by omega
      have hB4 : Below w.heap.size w wr := hB3.trans (hbel.mono hz3)
      obtain ⟨H2, hH2⟩ : ∃ H2, H2 = H ++ d.out.flatMap loopL := ⟨_, rfl⟩
      rw [← hH2] at hfin1 hfinal
      have hH2l : H2.length ≤ 31093 := by
        rw [hH2, List.length_append]
        have := hLm.out d.out.length
        rw [List.take_length] at this
        omega
      replace hH2 := Lib.hid hH2
      replace hfin1 := Lib.hid hfin1
      obtain ⟨w4, hw4⟩ : ∃ v, v = wr := ⟨_, rfl⟩
      subst hw4
      clear hline hgl hgB hnl hS0 hS0z hz3 hB3 hbel hsz hds hB2 hz1 hb1 hpw1
      replace hkn := Lib.hid hkn
      go_wp2_with fail
      go_loopw [3, 6] (fun out i wr => ∃ (q : Nat) (es : ByteArray), i = .int .i64 q ∧ q ≤ n4 ∧ out = .string es ∧ es = bS (H2 ++ (d.parts.take q).flatMap partL) ∧ Below w.heap.size w wr) (fun out i wr => n4 - (intOf i).toNat)
      case atStart => exact ⟨0, ds, rfl, Nat.zero_le _, rfl, by rw [hfin1.out]; simp, hB4⟩
      case round =>
        clear hki hdz hfin1 hB4
        obtain ⟨q, es, rfl, hq, rfl, hes, hbel⟩ := hrel
        have hez : es.size ≤ 31501 := by
          rw [hes, bS_size, List.length_append]
          have := hPm.out q
          omega
        have hsz := hbel.size
        replace hes := Lib.hid hes
        by_cases hql : q < n4
        · obtain ⟨b, off, x, rfl, _, hb, hx, hcs⟩ := hr1.out.at hql
          obtain ⟨⟨hx1, hx2⟩, hxv⟩ := hps.out x (List.mem_of_getElem? hx)
          have p0 := (hbel.cell (p := ⟨b, off + q * 3 + 0, none⟩) (by simp; omega)).trans (hcs 0 _ rfl)
          have p1 := (hbel.cell (p := ⟨b, off + q * 3 + 1, none⟩) (by simp; omega)).trans (hcs 1 _ rfl)
          have p2 := (hbel.cell (p := ⟨b, off + q * 3 + 2, none⟩) (by simp; omega)).trans (hcs 2 _ rfl)
          have p4 := (hbel.cell (p := ⟨p, o + 4, none⟩) hp).trans g4
          simp only [Nat.add_zero] at p0
          have hbw : b < wr.heap.size := by omega
          have hpw : p < wr.heap.size := by omega
          have hqi : (q : Int) < (n4 : Int) := by omega
          have hq0 : (0 : Int) ≤ (q : Int) := by omega
          have hd20 := decS_sz (n := x.1) (by omega) (by omega)
          have hpz := ptS_size hxv
          have hnext : Hid (es ++ ((((({ data := #[112, 97, 114, 116, 32] } : ByteArray) ++ decS x.1) ++ { data := #[32] }) ++ bS (ptT x.2.1 x.2.2)) ++ { data := #[10] }) = bS (H2 ++ (d.parts.take (q + 1)).flatMap partL)) := by
            show es ++ _ = _
            rw [part_text, hes.out, bS_app, flat_take partL hx, List.append_assoc]
          have hcN := Lib.hid (fun dr os => Calls.regrown_of (l01Dec_any x.1 (Go.Sort.grow (redrawn wr dr) os) (by omega) (by omega)))
          have hcD := Lib.hid (fun dr os => Calls.regrown_of (l03Text_any x.2.1 x.2.2 hxv (Go.Sort.grow (redrawn wr dr) os)))
          clear hcs hx hxv
          obtain ⟨x1, x2, x3⟩ := x
          dsimp only at p0 p1 p2 hd20 hpz hcN hcD hnext hx1 hx2
          have k0 : ∀ dr os, (Go.Sort.grow (redrawn wr dr) os).cell? ⟨b, off + q * 3, none⟩ = some (.int .i64 x1) := cell_regrown p0
          have k1 : ∀ dr os, (Go.Sort.grow (redrawn wr dr) os).cell? ⟨b, off + q * 3 + 1, none⟩ = some (.int .i64 x2) := cell_regrown p1
          have k2 : ∀ dr os, (Go.Sort.grow (redrawn wr dr) os).cell? ⟨b, off + q * 3 + 2, none⟩ = some (.int .i64 x3) := cell_regrown p2
          have k4 : ∀ dr os, (Go.Sort.grow (redrawn wr dr) os).cell? ⟨p, o + 4, none⟩ = some (.slice (some ⟨b, off, none⟩) n4 c4) := cell_regrown p4
          clear p0 p1 p2
          go_wp2_with fail
          refine wp_region_quiet_below (by kernel_rfl) (by kernel_rfl) ?_
          repeat (go_big_quiet_step (first | (with_reducible exact hcN.out _ _) | (with_reducible exact hcD.out _ _)))
          refine wpQuiet_nil ?_
          intro _ hw'
          obtain ⟨⟨dq, osq⟩, hw''⟩ := hw'
          subst hw''
          have hb3 := hbel.trans ((below_regrown wr dq osq).mono hsz)
          clear hcN hcD k0 k1 k2 k4 p4
          generalize Go.Sort.grow (redrawn wr dq) osq = w5 at hb3 ⊢
          go_wp2_with fail
          go_roundw
          case rel => exact ⟨q + 1, _, by go_num, by omega, rfl, hnext.out, hb3⟩
          case measure => simp [intOf]; omega
        · have hqn : q = n4 := by omega
          have hfin2 : es = bS (H2 ++ d.parts.flatMap partL) := by rw [hes.out, List.take_of_length_le (by omega)]
          have p4 := (hbel.cell (p := ⟨p, o + 4, none⟩) hp).trans g4
          have hpw : p < wr.heap.size := by omega
          obtain ⟨H3, hH3⟩ : ∃ H3, H3 = H2 ++ d.parts.flatMap partL := ⟨_, rfl⟩
          rw [← hH3] at hfin2 hfinal
          have hH3l : H3.length ≤ 31501 := by
            rw [hH3, List.length_append]
            have := hPm.out d.parts.length
            rw [List.take_length] at this
            omega
          replace hH3 := Lib.hid hH3
          replace hfin2 := Lib.hid hfin2
          obtain ⟨w6, hw6⟩ : ∃ v, v = wr := ⟨_, rfl⟩
          subst hw6
          have hB6 := hbel
          clear hbel hsz hes
          replace hqn := Lib.hid hqn
          go_wp2_with fail
          clear p4 hpw
          go_loopw [3, 7] (fun out i wr => ∃ (t : Nat) (fs : ByteArray), i = .int .i64 t ∧ t ≤ n5 ∧ out = .string fs ∧ fs = bS (H3 ++ (d.anchors.take t).flatMap anchL) ∧ Below w.heap.size w wr) (fun out i wr => n5 - (intOf i).toNat)
          case atStart => exact ⟨0, es, rfl, Nat.zero_le _, rfl, by rw [hfin2.out]; simp, hB6⟩
          case round =>
            clear hez hfin2 hB6
            obtain ⟨t, fs, rfl, ht, rfl, hfs, hbel⟩ := hrel
            have hfz : fs.size ≤ 31873 := by
              rw [hfs, bS_size, List.length_append]
              have := hAm.out t
              omega
            have hsz := hbel.size
            replace hfs := Lib.hid hfs
            have p5 := (hbel.cell (p := ⟨p, o + 5, none⟩) hp).trans g5
            have hpw : p < wr.heap.size := by omega
            by_cases htl : t < n5
            · obtain ⟨b, off, x, rfl, _, hb, hx, hcs⟩ := hr2.out.at htl
              obtain ⟨hx1, hxv⟩ := has.out x (List.mem_of_getElem? hx)
              have p0 := (hbel.cell (p := ⟨b, off + t * 3 + 0, none⟩) (by simp; omega)).trans (hcs 0 _ rfl)
              have p1 := (hbel.cell (p := ⟨b, off + t * 3 + 1, none⟩) (by simp; omega)).trans (hcs 1 _ rfl)
              have p2 := (hbel.cell (p := ⟨b, off + t * 3 + 2, none⟩) (by simp; omega)).trans (hcs 2 _ rfl)
              simp only [Nat.add_zero] at p0
              have hbw : b < wr.heap.size := by omega
              have hti : (t : Int) < (n5 : Int) := by omega
              have ht0 : (0 : Int) ≤ (t : Int) := by omega
              have hpz := ptS_size hxv
              have hnext : Hid (fs ++ ((((({ data := #[97, 110, 99, 104, 111, 114, 32] } : ByteArray) ++ x.1) ++ { data := #[32] }) ++ bS (ptT x.2.1 x.2.2)) ++ { data := #[10] }) = bS (H3 ++ (d.anchors.take (t + 1)).flatMap anchL)) := by
                show fs ++ _ = _
                rw [anch_text, hfs.out, bS_app, flat_take anchL hx, List.append_assoc]
              have hcD := Lib.hid (fun dr os => Calls.regrown_of (l03Text_any x.2.1 x.2.2 hxv (Go.Sort.grow (redrawn wr dr) os)))
              clear hcs hx hxv
              obtain ⟨x1, x2, x3⟩ := x
              dsimp only at p0 p1 p2 hpz hcD hnext hx1
              have k0 : ∀ dr os, (Go.Sort.grow (redrawn wr dr) os).cell? ⟨b, off + t * 3, none⟩ = some (.string x1) := cell_regrown p0
              have k1 : ∀ dr os, (Go.Sort.grow (redrawn wr dr) os).cell? ⟨b, off + t * 3 + 1, none⟩ = some (.int .i64 x2) := cell_regrown p1
              have k2 : ∀ dr os, (Go.Sort.grow (redrawn wr dr) os).cell? ⟨b, off + t * 3 + 2, none⟩ = some (.int .i64 x3) := cell_regrown p2
              have k5 : ∀ dr os, (Go.Sort.grow (redrawn wr dr) os).cell? ⟨p, o + 5, none⟩ = some (.slice (some ⟨b, off, none⟩) n5 c5) := cell_regrown p5
              clear p0 p1 p2
              go_wp2_with fail
              refine wp_region_quiet_below (by kernel_rfl) (by kernel_rfl) ?_
              repeat (go_big_quiet_step (with_reducible exact hcD.out _ _))
              refine wpQuiet_nil ?_
              intro _ hw'
              obtain ⟨⟨dq, osq⟩, hw''⟩ := hw'
              subst hw''
              have hb3 := hbel.trans ((below_regrown wr dq osq).mono hsz)
              clear hcD k0 k1 k2 k5 p5
              generalize Go.Sort.grow (redrawn wr dq) osq = w7 at hb3 ⊢
              go_wp2_with fail
              go_roundw
              case rel => exact ⟨t + 1, _, by go_num, by omega, rfl, hnext.out, hb3⟩
              case measure => simp [intOf]; omega
            · have htn : t = n5 := by omega
              have hfin3 : fs = bS (H3 ++ d.anchors.flatMap anchL) := by rw [hfs.out, List.take_of_length_le (by omega)]
              have p6 := (hbel.cell (p := ⟨p, o + 6, none⟩) hp).trans g6
              replace htn := Lib.hid htn
              by_cases hh0 : d.hints = ⟨#[]⟩
              · have hres : Hid (fs ++ ({ data := #[101, 110, 100, 10] } : ByteArray) = bS (glyphT d)) := by
                  show fs ++ bS [101, 110, 100, 10] = _
                  rw [hfinal.out, hfin3, bS_app, hh0, hint_none, List.append_nil]
                replace hfin3 := Lib.hid hfin3
                rw [hh0] at p6
                replace hh0 := Lib.hid hh0
                go_wp2_with fail
                go_ret
                exact ⟨ret_string hres.out, hbel⟩
              · have hne : d.hints.toList.isEmpty = false := str_ne hh0
                have hhx := hexT_len d.hints.data.toList
                rw [data_len] at hhx
                have hhz : (bS (hexT d.hints.data.toList)).size ≤ 800 := by rw [bS_size]; omega
                have hres : Hid ((fs ++ ((({ data := #[104, 105, 110, 116, 115, 32] } : ByteArray) ++ bS (hexT d.hints.data.toList)) ++ { data := #[10] })) ++ ({ data := #[101, 110, 100, 10] } : ByteArray) = bS (glyphT d)) := by
                  show (fs ++ _) ++ bS [101, 110, 100, 10] = _
                  rw [hint_text hh0, hfinal.out, hfin3, bS_app, bS_app]
                have hcall := Lib.hid (l17Hex_any d.hints wr (by omega))
                replace hfin3 := Lib.hid hfin3
                clear hhx hh0
                go_wp2_with fail
                refine hcall.out.mono ?_
                rintro e w8 ⟨rfl, hb8⟩
                have hb9 := hbel.trans (hb8.mono hsz)
                go_wp2_with fail
                go_ret
                exact ⟨ret_string hres.out, hb9⟩
theorem l17Text_any (p o : Nat) (d : Gl) (h : GlH) (lo hi : Nat) (hg : GlT d) (w : World) (hp : p < w.heap.size) (hc : ∀ i u, (glC d h)[i]? = some u → w.cell? ⟨p, o + i, none⟩ = some u) (hr : GlRd w lo hi d h) (hhi : hi ≤ w.heap.size) :
    Calls Tryz.prog 29 #[.pointer (some ⟨p, o, none⟩)] w fun e w' => e = .returned (.string (bS (glyphT d))) ∧ Below w.heap.size w w' :=
  l17Text_flat p o d h.out.A h.parts.A h.anchors.A h.out.n h.out.c h.parts.n h.parts.c h.anchors.n h.anchors.c lo hi hg w hp (hc 0 _ rfl) (hc 1 _ rfl) (hc 2 _ rfl) (hc 3 _ rfl) (hc 4 _ rfl) (hc 5 _ rfl) (hc 6 _ rfl) hr.1 hr.2.1 hr.2.2 hhi

/-- the text of a glyph, if it is valid -/
def glR (d : Gl) : ByteArray := if glyphOk d = true then bS (glyphT d) else ⟨#[]⟩
end Go.Proofs.YtgdkabljgabjoaaGreatDoor

/- A region that draws its order, whose last operations wait for all that stand ahead of them, and whose head only reads and makes memory: its head in the text's order, its tail behind it. No program in sight. Conditions: as each states. -/
namespace Go.Proofs.YtgdkabljgabjoaaGreatDoor
open Go.RowKit
set_option linter.unusedVariables false
set_option maxRecDepth 100000

theorem wp_region_headq {P : Program} {Q : Exit → Act → World → Prop} {id : Nat} {a : Act} {w : World} {l : List Oper} (n : Nat) (hm : P.follows .mixedOrders = true) (hB : headRB l n = true) (hL : Region.lexB .any (l.take n).toArray = true)
    (h : wpQuiet P (l.take n).toArray (fun w' => ∃ p : Regrown, w' = Go.Sort.grow (redrawn w p.d) p.os) (fun a' => ∀ w', (∃ p : Regrown, w' = Go.Sort.grow (redrawn w p.d) p.os) → wpList P l.toArray Q (l.drop n) a' w') (l.take n) a) : (Code.region id l.toArray true).wp P Q a w := by
  simp only [headRB, Bool.and_eq_true, decide_eq_true_eq] at hB
  obtain ⟨⟨⟨⟨hn, hs⟩, hc⟩, hb⟩, hq⟩ := hB
  have inv0 : HeadInv .any l.toArray n (Array.replicate l.length false) :=
    ⟨by simp, fun j oj _ hl => (by rw [getD_replicate_false] at hl; cases hl), fun t _ ht => getD_in (by simpa using ht) (getD_replicate_false _ _)⟩
  have r0 : HRel n l (Array.replicate n false) (Array.replicate l.length false) :=
    ⟨by simp, by simp, hn, fun j hj => by rw [getD_in (by simp; omega) (getD_replicate_false _ _), getD_in (by simp; omega) (getD_replicate_false _ _)], fun t _ ht => getD_in (by simpa using ht) (getD_replicate_false _ _)⟩
  simp only [Region.lexB, Bool.and_eq_true] at hL
  have hsz : (l.take n).toArray.size = n := by simp; omega
  have hlex := wpAnyQ_lex (P := P) (C := fun w' => ∃ p : Regrown, w' = Go.Sort.grow (redrawn w p.d) p.os) (Q := fun a' => ∀ w', (∃ p : Regrown, w' = Go.Sort.grow (redrawn w p.d) p.os) → wpList P l.toArray Q (l.drop n) a' w') (md := .any) hL.1 (l.take n) 0 (Array.replicate (l.take n).toArray.size false) a (by simp) (by simpa using hL.2) h
  refine wp_region_any hm ?_
  have h1 : wpAny P .any (l.take n).toArray (QTail P l.toArray (l.drop n) Q) n (Array.replicate n false) a { w with drawn := w.drawn + 1 } := by
    refine wpAny_of_quiet (C := fun w' => ∃ p : Regrown, w' = Go.Sort.grow (redrawn w p.d) p.os) (Q := fun a' => ∀ w', (∃ p : Regrown, w' = Go.Sort.grow (redrawn w p.d) p.os) → wpList P l.toArray Q (l.drop n) a' w') (fun a' w' hw' h => h w' hw') n _ a _ ⟨⟨w.drawn + 1, #[]⟩, by rw [Go.Sort.grow_empty]; rfl⟩ ?_
    have := hlex
    simp only [hsz] at this
    have hl2 : (l.take n).length = n := by simp; omega
    rw [hl2] at this
    exact this
  have := wpAny_of_take hs hc hb hq n _ _ a _ r0 inv0 h1
  rw [show n + (l.length - n) = l.toArray.size by simp; omega] at this
  simpa using this
end Go.Proofs.YtgdkabljgabjoaaGreatDoor

