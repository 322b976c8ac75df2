/- The number of loops of a glyph: the reference's side. Conditions: as each states. -/
import Derived.BigQuiet
import Derived.StillTailTactics
import Derived.Test.YtpjmpbdbfldnaaaDepJ
namespace Go.Proofs.Ytpjmpbdbfldnaaa
open Go.RowKit
set_option linter.unusedVariables false
set_option maxRecDepth 100000

theorem l00Min_anyX (a b : Int) (w : World) : Calls Try.prog 204 #[.int .i64 a, .int .i64 b] w fun e w' => e = .returned (.int .i64 (min a b)) ∧ w' = w := by
  by_cases h : a < b
  · have e : min a b = a := by omega
    rw [e]
    go_enter Try.func204, Try.ntmps204
    go_wp2_with fail
    go_ret
    exact ⟨rfl, rfl⟩
  · have e : min a b = b := by omega
    rw [e]
    go_enter Try.func204, Try.ntmps204
    go_wp2_with fail
    go_ret
    exact ⟨rfl, rfl⟩
def cntR (d : GSet) (x : Int) : Int × Int := (if askR d x = 0 then cntF d.gl (order (tgts d.gl)) x else 0, askR d x)
theorem cntF_next {L : List Gl} {out : List Int} {t : Nat} {x : Int} (hx : out[t]? = some x) (hx0 : 0 ≤ x) {g : Gl} (hg : L[x.toNat]? = some g) (j : Nat) : cntF L (out.take (t + 1)) j = if j = x.toNat then min (cntS (cntF L (out.take t)) g.out.length g.parts) 13 else cntF L (out.take t) j := by
  unfold cntF
  rw [take_snoc_at hx, memF_snoc]
  by_cases h : j = x.toNat
  · subst h
    rw [if_pos (by omega), if_pos rfl, cntG_eq hg]
  · rw [if_neg (by omega), if_neg h]

set_option maxHeartbeats 8000000 in
theorem l17Counts_any (p o : Nat) (d : GSet) (h : GSetH) (lo hi : Nat) (w : World) (hp0 : p < w.heap.size) (k1 : w.cell? ⟨p, o + 1, none⟩ = some (.slice h.gl.A h.gl.n h.gl.c)) (hr : GSetRd w lo hi d h) (hhi : hi ≤ w.heap.size) (hok : setOk d = true) :
    Calls Try.prog 149 #[.pointer (some ⟨p, o, none⟩)] w fun e w' => ∃ B : Nat, e = .returned (.slice (some ⟨B, 0, none⟩) h.gl.n h.gl.n) ∧ DepR w' w.heap.size B h.gl.n (fun j => cntF d.gl (order (tgts d.gl)) j) ∧ Below w.heap.size w w' := by
  obtain ⟨hn40, hgok, hfull⟩ := set_is hok
  have hl := hr.1
  obtain ⟨T, hT⟩ : ∃ T, T = tgts d.gl := ⟨_, rfl⟩
  obtain ⟨out, hout⟩ : ∃ out, out = order T := ⟨_, rfl⟩
  have hord : Ord T out := hout ▸ order_ord T
  have hon : out.length = h.gl.n := by rw [hout, hT, hfull, hl]
  have hTn : T.length = h.gl.n := by rw [hT, tgts_length]; exact hl
  have hpr := set_parts hok
  rw [hl] at hpr
  have hco := Lib.hid (l17Order_any p o h.gl.A h.gl.n h.gl.c lo hi d.gl w hp0 k1 hr hhi (by omega) (fun g hg => (hpr g hg).1))
  rw [← hT, ← hout, hon] at hco
  have hgo := Lib.hid (fun (g : Gl) (hg : g ∈ d.gl) => show g.out.length ≤ 12 from by
    have := (glyph_is (hgok g hg)).1
    simp [outOk] at this
    exact this.2)
  rw [← hT, ← hout]
  have hn : h.gl.n ≤ 40 := by omega
  obtain ⟨i0, hi0, hz0, hs0, hby0⟩ := info_parts infoInt64
  replace hord := Lib.hid hord
  replace hon := Lib.hid hon
  replace hTn := Lib.hid hTn
  replace hl := Lib.hid hl
  replace hT := Lib.hid hT
  replace hout := Lib.hid hout
  replace hr := Lib.hid hr
  replace hpr := Lib.hid hpr
  clear hok hn40 hgok hfull
  go_enter Try.func149, Try.ntmps149
  go_wp2_with fail
  refine hco.out.mono ?_
  rintro e w2 ⟨A2, c2, rfl, ho2, hb2⟩
  have k3 := (hb2.cell (p := ⟨p, o + 1, none⟩) hp0).trans k1
  have hp2 : p < w2.heap.size := Nat.lt_of_lt_of_le hp0 hb2.size
  have hrd2 := Lib.hid (rdS_own intC_len (by omega) ho2 hon.out)
  have hs2 := hb2.size
  clear hco ho2 k1
  go_wp2_with (at_make; refine wpList_make_full _ rfl _ _ 98 rfl w2.heap.size 2 i0 (.int .i64 0) 1 Try.underlying98 hi0 hz0 hs0 .i64 .i64 _ _ h.gl.n rfl rfl rfl rfl (by rw [hby0]; omega) (by unfold maxLen; omega) (Nat.le_refl _) ?_; intro w3 hown3 hg3)
  have hb3 : Below w2.heap.size w2 w3 := (Below.refl _ _).grown hg3 (Nat.le_refl _) (by simp)
  have hdep0 := Lib.hid (show DepR w3 w2.heap.size w2.heap.size h.gl.n (fun j => cntF d.gl (out.take 0) j) from ⟨_, hown3, fun j hj => made_int hj⟩)
  clear hown3 hg3 hi0 hz0 hs0 hby0
  go_loopw [5] (fun i wr => ∃ t : Nat, i = .int .i64 t ∧ t ≤ h.gl.n ∧ DepR wr w2.heap.size w2.heap.size h.gl.n (fun j => cntF d.gl (out.take t) j) ∧ Below w2.heap.size w2 wr) (fun i wr => h.gl.n - (intOf i).toNat)
  case atStart => exact ⟨0, rfl, Nat.zero_le _, hdep0.out, hb3⟩
  case round =>
    clear hb3 hdep0
    obtain ⟨t, rfl, ht, hdep, hbel⟩ := hrel
    have hX := hdep.lt
    have hsz := hbel.size
    have kr := (hbel.cell (p := ⟨p, o + 1, none⟩) hp2).trans k3
    have hzr : p < wr.heap.size := by omega
    have hB3 := hb2.trans (hbel.mono hb2.size)
    replace hdep := Lib.hid hdep
    by_cases hlt : t < h.gl.n
    · obtain ⟨b1, f1, x, rfl, _, hb1, hja, hcs⟩ := (hrd2.out.frame (good_flat _) (Below.sameB hbel (Nat.le_refl _))).at hlt
      have q0 := hcs 0 _ rfl
      simp only [Nat.mul_one, Nat.add_zero] at q0
      obtain ⟨hxl, hxr⟩ := hord.out.rng x (List.mem_of_getElem? hja)
      rw [hTn.out] at hxr
      have hxi : x < (h.gl.n : Int) := by omega
      have hti : (0 : Int) ≤ (t : Int) ∧ (t : Int) < (h.gl.n : Int) := by omega
      obtain ⟨b2, f2, g, hh, hA, hb0, hb2', hjb, hcs2, hrg⟩ := gs_at (hr.out.frame good_glyph (Below.sameB hB3 hhi)) hxr
      have q3 := hcs2 3 _ rfl
      have q4 := hcs2 4 _ rfl
      rw [hA] at kr
      have hb1w : b1 < wr.heap.size := by omega
      have hb2w : b2 < wr.heap.size := by omega
      obtain ⟨hgp0, hgr⟩ := hpr.out g (List.mem_of_getElem? hjb)
      have hgp : hh.parts.n ≤ 6 := by rw [← hrg.2.1.1]; exact hgp0
      have hgl : hh.out.n ≤ 12 := by rw [← hrg.1.1]; exact hgo.out g (List.mem_of_getElem? hjb)
      have hgn : Hid (g.out.length = hh.out.n) := hrg.1.1
      have hrp := Lib.hid hrg.2.1
      have hnext := Lib.hid (cntF_next hja hxl hjb)
      replace hgr := Lib.hid hgr
      replace hA := Lib.hid hA
      replace hja := Lib.hid hja
      clear hcs hcs2 hjb hrg hb0 hb1 hb2' hgp0
      go_wp2_with fail
      go_quiet (fail)
      have kq3 : (wr.drewN nq).cell? ⟨b2, f2 + x.toNat * 7 + 3, none⟩ = some (.slice hh.out.A hh.out.n hh.out.c) := q3
      have kq4 : (wr.drewN nq).cell? ⟨b2, f2 + x.toNat * 7 + 4, none⟩ = some (.slice hh.parts.A hh.parts.n hh.parts.c) := q4
      have kq0 : (wr.drewN nq).cell? ⟨b1, f1 + t, none⟩ = some (.int .i64 x) := q0
      have hbd := below_drewN hbel nq
      have hdd := Lib.hid (hdep.out.drewN nq)
      have hrd := Lib.hid (show RdS 3 (FlatR partC) (wr.drewN nq) lo hi hh.parts.A hh.parts.n g.parts from hrp.out)
      have hb1d : b1 < (wr.drewN nq).heap.size := hb1w
      have hb2d : b2 < (wr.drewN nq).heap.size := hb2w
      have hXd : w2.heap.size < (wr.drewN nq).heap.size := hX
      have hhd : hi ≤ (wr.drewN nq).heap.size := by show hi ≤ wr.heap.size; omega
      clear q0 q3 q4 hbel hdep hrp hb1w hb2w hX kr hzr hB3 hsz
      generalize wr.drewN nq = wo at *
      go_wp2_with fail
      go_loop [7, 8] (fun s i => ∃ k : Nat, i = .int .i64 k ∧ k ≤ hh.parts.n ∧ s = .int .i64 (cntS (cntF d.gl (out.take t)) hh.out.n (g.parts.take k))) (fun s i => hh.parts.n - (intOf i).toNat)
      case atStart => exact ⟨0, rfl, Nat.zero_le _, rfl⟩
      case round =>
        obtain ⟨k, rfl, hk, rfl⟩ := hrel
        have hsb := cntS_bd (cntF d.gl (out.take t)) hh.out.n (g.parts.take k) 13 (fun q _ => cntF_bd _ _ _)
        have htl : ((g.parts.take k).length : Int) ≤ 6 := by have := List.length_take_le k g.parts; omega
        obtain ⟨s, hsd⟩ : ∃ s, s = cntS (cntF d.gl (out.take t)) hh.out.n (g.parts.take k) := ⟨_, rfl⟩
        rw [← hsd] at hsb
        have hs1 : 0 ≤ s ∧ s ≤ 90 := by omega
        rw [← hsd]
        by_cases hkl : k < hh.parts.n
        · obtain ⟨p1, g1, ⟨y0, y1, y2⟩, hA1, _, hpw, hjb, hcs⟩ := hrd.out.at hkl
          have q1 := hcs 0 _ rfl
          simp only [Nat.add_zero] at q1
          obtain ⟨hy00, hy0n⟩ := hgr.out _ (List.mem_of_getElem? hjb)
          simp only at hy00 hy0n
          obtain ⟨c1, _, _⟩ := hdd.out.at (j := y0.toNat) (by omega)
          rw [show ((y0.toNat : Nat) : Int) = y0 by omega] at c1
          have hzb := cntF_bd d.gl (out.take t) y0
          have hsn := Lib.hid (show cntS (cntF d.gl (out.take t)) hh.out.n (g.parts.take (k + 1)) = s + cntF d.gl (out.take t) y0 by rw [take_snocG hjb, cntS_snoc, hsd])
          generalize cntF d.gl (out.take t) y0 = z at c1 hzb hsn
          have hki : (0 : Int) ≤ (k : Int) ∧ (k : Int) < (hh.parts.n : Int) := by omega
          have hpw' : p1 < wo.heap.size := by omega
          replace hsd := Lib.hid hsd
          rw [hA1] at kq4
          replace hA1 := Lib.hid hA1
          clear hcs hjb hsb htl
          go_wp2_with fail
          go_round
          case rel => exact ⟨k + 1, by go_num, by omega, by rw [hsn.out]⟩
          case measure => simp [intOf]; omega
        · have hkn : k = hh.parts.n := by omega
          have hfull : g.parts.take k = g.parts := List.take_of_length_le (by rw [hrd.out.1]; omega)
          have hfin := Lib.hid (show ∀ j : Nat, cntF d.gl (out.take (t + 1)) j = if j = x.toNat then min s 13 else cntF d.gl (out.take t) j from fun j => by rw [hnext.out j, hsd, hfull, hgn.out])
          obtain ⟨c1, fz, _⟩ := hdd.out.at hxr
          generalize cntF d.gl (out.take t) (x.toNat : Int) = z at c1
          have hdn := Lib.hid (hdd.out.set hxr (min s 13))
          have hmn := Lib.hid (l00Min_anyX s 13)
          replace hfull := Lib.hid hfull
          replace hkn := Lib.hid hkn
          replace hsd := Lib.hid hsd
          clear hsb htl
          go_wp2_with fail
          go_still_tail 8, (by kernel_rfl)
          still_call (hmn.out _)
          repeat still_step
          refine wpStill_nil ?_
          have c1d : wo.drew.cell? ⟨w2.heap.size, x.toNat, none⟩ = some (.int .i64 z) := c1
          have fzd : wo.drew.frozen? ⟨w2.heap.size, x.toNat, none⟩ = false := fz
          have hXe : w2.heap.size < wo.drew.heap.size := hXd
          have hBd : Hid (Below w2.heap.size w2 wo.drew) := hbd.drew
          have hde : Hid (DepR (wo.drew.setCell ⟨w2.heap.size, x.toNat, none⟩ (.int .i64 (min s 13))) w2.heap.size w2.heap.size h.gl.n (fun i => if i = x.toNat then min s 13 else cntF d.gl (out.take t) i)) := hdn.out
          clear c1 fz hXd hdn kq0 kq3 kq4 hbd hdd hb1d hb2d hhd hrd
          change wpList _ _ _ _ _ wo.drew
          generalize wo.drew = w4 at *
          go_wp2_with fail
          go_roundw
          case rel => exact ⟨t + 1, by go_num, by omega, hde.out.congr fun j hj => (hfin.out j).symm, hBd.out.setCell (Nat.le_refl _) _⟩
          case measure => simp [intOf]; omega
    · have htn : t = h.gl.n := by omega
      have hfull : out.take t = out := List.take_of_length_le (by rw [hon.out]; omega)
      have hfin := Lib.hid (show DepR wr w.heap.size w2.heap.size h.gl.n (fun j => cntF d.gl out j) from by
        obtain ⟨ys, h1, h2⟩ := hdep.out
        exact ⟨ys, own_lower h1 hs2, fun j hj => by rw [h2 j hj, hfull]⟩)
      replace hfull := Lib.hid hfull
      replace htn := Lib.hid htn
      go_wp2_with fail
      go_ret
      exact ⟨_, rfl, hfin.out, hB3⟩
end Go.Proofs.Ytpjmpbdbfldnaaa
