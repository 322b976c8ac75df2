/- The depth of a glyph: both sides. Conditions: as each states. -/
import Derived.BigQuiet
import Derived.StillTailTactics
import Derived.IntWalk
import Derived.Test.YtpjmpbdbfldnaaaAsk
import Derived.Test.YtpjmpbdbfldnaaaRound
namespace Go.Proofs.Ytpjmpbdbfldnaaa
open Go.RowKit
set_option linter.unusedVariables false
set_option maxRecDepth 100000

def depR (d : GSet) (x : Int) : Int × Int := (if askR d x = 0 then depF (tgts d.gl) (order (tgts d.gl)) x else 0, askR d x)
theorem DepR.drew {w : World} {lo B n : Nat} {D : Nat → Int} (h : DepR w lo B n D) : DepR w.drew lo B n D := by
  obtain ⟨ys, h1, h2⟩ := h
  exact ⟨ys, h1.drew, h2⟩
theorem DepR.drewN {w : World} {lo B n : Nat} {D : Nat → Int} (h : DepR w lo B n D) (q : Nat) : DepR (w.drewN q) lo B n D := h
theorem made_int {n j : Nat} (hj : j < n) : (madeCells (Value.int .i64 0).cells (n * 1)).toList[j]? = some (.int .i64 0) := by
  have e : (Value.int .i64 0).cells = #[.int .i64 0] := rfl
  rw [e, toList_madeCells_one, List.getElem?_replicate, if_pos (by omega)]
/-- what is known when t glyphs are done -/
def dz (T : List (List Int)) (out : List Int) (t : Nat) (j : Nat) : Int := if (j : Int) ∈ out.take t then depF T out j else 0
theorem dz_0 (T : List (List Int)) (out : List Int) (j : Nat) : dz T out 0 j = 0 := if_neg (by simp)
theorem dz_new {T : List (List Int)} {out : List Int} (ho : Ord T out) {t : Nat} {x : Int} (hx : out[t]? = some x) : dz T out t x.toNat = 0 := by
  have h0 := (ho.rng x (List.mem_of_getElem? hx)).1
  refine if_neg fun h => ?_
  rw [show ((x.toNat : Nat) : Int) = x by omega] at h
  have hd := ho.nodup
  rw [← List.take_append_drop t out, List.nodup_append] at hd
  have hl := (List.getElem?_eq_some_iff.1 hx).1
  refine hd.2.2 x h x ?_ rfl
  rw [List.drop_eq_getElem_cons hl]
  rw [List.getElem?_eq_getElem hl] at hx; injection hx with hx
  rw [hx]; exact List.mem_cons_self
theorem dz_in {T : List (List Int)} {out : List Int} {t : Nat} {p : Int} (h0 : 0 ≤ p) (h : p ∈ out.take t) : dz T out t p.toNat = depF T out p := by
  unfold dz; rw [show ((p.toNat : Nat) : Int) = p by omega, if_pos h]
theorem dz_step {T : List (List Int)} {out : List Int} (ho : Ord T out) {t : Nat} {x : Int} (hx : out[t]? = some x) {ps : List Int} (hps : T[x.toNat]? = some ps) (j : Nat) : (if j = x.toNat then dOf (depF T out) ps else dz T out t j) = dz T out (t + 1) j := by
  have h0 := (ho.rng x (List.mem_of_getElem? hx)).1
  unfold dz
  rw [take_snoc_at hx]
  by_cases h : j = x.toNat
  · subst h
    rw [if_pos rfl, show ((x.toNat : Nat) : Int) = x by omega, if_pos (by simp), depF_at ho hx hps]
  · rw [if_neg h]
    by_cases h2 : (j : Int) ∈ out.take t
    · rw [if_pos h2, if_pos (by simp [h2])]
    · rw [if_neg h2, if_neg (by simp only [List.mem_append, List.mem_singleton]; rintro (h3 | h3); exact h2 h3; omega)]
theorem imax_max (a b : Int) : imax a b = max a b := by unfold imax; split <;> omega

set_option maxHeartbeats 8000000 in
theorem specGlyphDepth_any (d : GSet) (h : GSetH) (x0 : Int) (r0 r1 : Int) (heq : (r0, r1) = depR d x0) (lo hi : Nat) (w : World) (hr : GSetRd w lo hi d h) (hhi : hi ≤ w.heap.size) (hm : d.small 1000000000) (hs : ∀ g ∈ d.gl, g.str) :
    Calls Try.prog 66 #[gsV d h, .int .i64 x0] w fun e w' => e = .returned (.tuple #[.int .i64 r0, .int .i64 r1]) ∧ Below w.heap.size w w' := by
  have hB0 : Below w.heap.size w (w.alloc (.cells #[.int .i64 d.unit, .slice h.gl.A h.gl.n h.gl.c] 84 (0, 0))) := Go.Joins.below_alloc1 _ _
  have k0 : (w.alloc (.cells #[.int .i64 d.unit, .slice h.gl.A h.gl.n h.gl.c] 84 (0, 0))).cell? ⟨w.heap.size, 0, none⟩ = some (.int .i64 d.unit) := by rw [Go.Joins.cell_of_block (heap_alloc_new w _)]; rfl
  have k1 : (w.alloc (.cells #[.int .i64 d.unit, .slice h.gl.A h.gl.n h.gl.c] 84 (0, 0))).cell? ⟨w.heap.size, 0 + 1, none⟩ = some (.slice h.gl.A h.gl.n h.gl.c) := by rw [Go.Joins.cell_of_block (heap_alloc_new w _)]; rfl
  have hz : w.heap.size < (w.alloc (.cells #[.int .i64 d.unit, .slice h.gl.A h.gl.n h.gl.c] 84 (0, 0))).heap.size := by simp
  obtain ⟨q, hq⟩ : ∃ q, q = askR d x0 := ⟨_, rfl⟩
  have hc := Lib.hid (l17Ask_any w.heap.size 0 d h x0 q hq lo hi (w.alloc (.cells #[.int .i64 d.unit, .slice h.gl.A h.gl.n h.gl.c] 84 (0, 0))) hz k0 k1 (hr.frame good_glyph (Below.sameB hB0 hhi)) (Nat.le_trans hhi hB0.size) hm hs)
  have hcs := ask_cases d x0
  unfold depR at heq
  rw [← hq] at hcs heq
  injection heq with e0 e1
  by_cases hq0 : q = 0
  rotate_left
  · rw [if_neg hq0] at e0
    subst e0 e1
    have hqn : (r1 != 0) = true := by simp [hq0]
    have hq1 : r1 = 1 ∨ r1 = 2 := by omega
    replace hq := Lib.hid hq
    clear hr hm hs hcs k0 k1 hq0
    rcases hq1 with rfl | rfl
    all_goals
      go_enter Try.func66, Try.ntmps66
      go_wp2_with fail
      refine hc.out.mono ?_
      rintro e w1 ⟨rfl, hb1⟩
      go_wp2_with fail
      go_ret2
      exact ⟨rfl, hB0.trans (hb1.mono hB0.size)⟩
  · rw [if_pos hq0] at e0
    obtain ⟨_, hok, hx0, hxn⟩ : q = 0 ∧ setOk d = true ∧ 0 ≤ x0 ∧ x0 < d.gl.length := by rcases hcs with h1 | h1 | h1; omega; omega; exact h1
    subst hq0
    subst e1
    obtain ⟨hn40, hgok, hfull⟩ := set_is hok
    have hl := hr.1
    obtain ⟨T, hT⟩ : ∃ T, T = tgts d.gl := ⟨_, rfl⟩
    obtain ⟨out, hout⟩ : ∃ out, out = order T := ⟨_, rfl⟩
    have hord : Ord T out := hout ▸ order_ord T
    have hon : out.length = h.gl.n := by rw [hout, hT, hfull, hl]
    have hTat := Lib.hid (fun (j : Nat) (g : Gl) (h : d.gl[j]? = some g) => show T[j]? = some (g.parts.map (·.1)) from by rw [hT]; exact tgts_at h)
    have hpn := Lib.hid (fun (g : Gl) (hg : g ∈ d.gl) => (glyph_is (hgok g hg)).2.1)
    have hco := Lib.hid (fun (W : World) (hB : Below (w.alloc (.cells #[.int .i64 d.unit, .slice h.gl.A h.gl.n h.gl.c] 84 (0, 0))).heap.size (w.alloc (.cells #[.int .i64 d.unit, .slice h.gl.A h.gl.n h.gl.c] 84 (0, 0))) W) => l17Order_any w.heap.size 0 h.gl.A h.gl.n h.gl.c lo hi d.gl W (Nat.lt_of_lt_of_le hz hB.size) ((hB.cell hz).trans k1) ((hr.frame good_glyph (Below.sameB hB0 hhi)).frame good_glyph (Below.sameB hB (Nat.le_trans hhi hB0.size))) (Nat.le_trans (Nat.le_trans hhi hB0.size) hB.size) (by omega) hpn.out)
    rw [← hT, ← hout, hon] at hco
    rw [← hT, ← hout] at e0
    have hn : h.gl.n ≤ 40 := by omega
    have hxn' : x0 < (h.gl.n : Int) := by omega
    obtain ⟨i0, hi0, hz0, hs0, hby0⟩ := info_parts infoInt64
    replace e0 := Lib.hid e0
    replace hord := Lib.hid hord
    replace hon := Lib.hid hon
    replace hl := Lib.hid hl
    replace hq := Lib.hid hq
    replace hT := Lib.hid hT
    replace hout := Lib.hid hout
    replace hr := Lib.hid hr
    clear hm hs hcs hok hn40 hgok hfull hxn k0
    go_enter Try.func66, Try.ntmps66
    go_wp2_with fail
    refine hc.out.mono ?_
    rintro e w1 ⟨rfl, hb1⟩
    have hB1 := hB0.trans (hb1.mono hB0.size)
    have k2 := (hb1.cell (p := ⟨w.heap.size, 0 + 1, none⟩) hz).trans k1
    have hz1 : w.heap.size < w1.heap.size := Nat.lt_of_lt_of_le hz hb1.size
    clear hc k1
    go_wp2_with fail
    refine (hco.out _ hb1).mono ?_
    rintro e w2 ⟨A2, c2, rfl, ho2, hb2⟩
    have hB2 := hB1.trans (hb2.mono hB1.size)
    have k3 := (hb2.cell (p := ⟨w.heap.size, 0 + 1, none⟩) hz1).trans k2
    have hz2 : w.heap.size < w2.heap.size := Nat.lt_of_lt_of_le hz1 hb2.size
    simp only [Nat.zero_add] at k3
    have hrd2 := Lib.hid (rdS_own intC_len (by omega) ho2 hon.out)
    clear hco hb1 hb2 k2 ho2
    go_wp2_with (at_make; refine wpList_make_full _ rfl _ _ 98 rfl w2.heap.size 2 i0 (.int .i64 0) 1 Try.underlying98 hi0 hz0 hs0 .i64 .i64 _ _ h.gl.n rfl rfl rfl rfl (by rw [hby0]; omega) (by unfold maxLen; omega) (Nat.le_refl _) ?_; intro w3 hown3 hg3)
    have hb3 : Below w2.heap.size w2 w3 := (Below.refl _ _).grown hg3 (Nat.le_refl _) (by simp)
    have hdep0 := Lib.hid (show DepR w3 w2.heap.size w2.heap.size h.gl.n (dz T out 0) from ⟨_, hown3, fun j hj => by rw [dz_0]; exact made_int hj⟩)
    clear hown3 hg3 hi0 hz0 hs0 hby0
    go_loopw [9] (fun i wr => ∃ t : Nat, i = .int .i64 t ∧ t ≤ h.gl.n ∧ DepR wr w2.heap.size w2.heap.size h.gl.n (dz T out t) ∧ Below w2.heap.size w2 wr) (fun i wr => h.gl.n - (intOf i).toNat)
    case atStart => exact ⟨0, rfl, Nat.zero_le _, hdep0.out, hb3⟩
    case round =>
      clear hb3 hdep0
      obtain ⟨t, rfl, ht, hdep, hbel⟩ := hrel
      have hX := hdep.lt
      have hsz := hbel.size
      have kr := (hbel.cell (p := ⟨w.heap.size, 1, none⟩) hz2).trans k3
      have hzr : w.heap.size < wr.heap.size := by omega
      have hB3 := hB2.trans (hbel.mono hB2.size)
      replace hdep := Lib.hid hdep
      by_cases hlt : t < h.gl.n
      · obtain ⟨b1, f1, x, rfl, _, hb1, hja, hcs⟩ := (hrd2.out.frame (good_flat _) (Below.sameB hbel (Nat.le_refl _))).at hlt
        have q0 := hcs 0 _ rfl
        simp only [Nat.mul_one, Nat.add_zero] at q0
        obtain ⟨hxl, hxr⟩ := hord.out.rng x (List.mem_of_getElem? hja)
        have hxr' : x.toNat < h.gl.n := by have : T.length = h.gl.n := by { rw [hT.out, tgts_length]; exact hl.out }; omega
        have hxi : x < (h.gl.n : Int) := by omega
        have hti : (0 : Int) ≤ (t : Int) ∧ (t : Int) < (h.gl.n : Int) := by omega
        obtain ⟨b2, f2, g, hh, hA, hb0, hb2, hjb, hcs2, hrg⟩ := gs_at (hr.out.frame good_glyph (Below.sameB hB3 hhi)) hxr'
        have q4 := hcs2 4 _ rfl
        rw [hA] at kr
        have hb1w : b1 < wr.heap.size := by omega
        have hb2w : b2 < wr.heap.size := by omega
        have hTx := Lib.hid (hTat.out _ g hjb)
        have hgp : hh.parts.n ≤ 6 := by rw [← hrg.2.1.1]; exact hpn.out g (List.mem_of_getElem? hjb)
        have hrp := Lib.hid hrg.2.1
        have hstep := Lib.hid (dz_step hord.out hja hTx.out)
        have hnew := Lib.hid (dz_new hord.out hja)
        have hready := Lib.hid (hord.out.ready t x hja _ hTx.out)
        replace hA := Lib.hid hA
        replace hja := Lib.hid hja
        clear hcs hcs2 hjb hrg hb0 hb1 hb2
        go_wp2_with fail
        go_quiet (fail)
        go_wp2_with fail
        obtain ⟨wo, hwo⟩ : ∃ wo : World, wo = wr.drewN nq := ⟨_, rfl⟩
        have hbo : Below w2.heap.size w2 wo := by rw [hwo]; exact below_drewN hbel _
        have hdo := Lib.hid (show DepR wo w2.heap.size w2.heap.size h.gl.n (dz T out t) by rw [hwo]; exact hdep.out)
        have hqo : wo.cell? ⟨b1, f1 + t, none⟩ = some (.int .i64 x) := by rw [hwo]; exact q0
        have hzo : w.heap.size < wo.heap.size := by rw [hwo]; exact hzr
        have hso : w2.heap.size < wo.heap.size := hdo.out.lt
        have hb1o : b1 < wo.heap.size := by rw [hwo]; exact hb1w
        have hrpo := Lib.hid (show RdS 3 (FlatR partC) wo lo hi hh.parts.A hh.parts.n g.parts by rw [hwo]; exact hrp.out)
        have hst := Lib.hid (show DepR wo w2.heap.size w2.heap.size h.gl.n (fun j => if j = x.toNat then dOf (depF T out) ((g.parts.map (·.1)).take 0) else dz T out t j) from hdo.out.congr fun j hj => by
          by_cases e : j = x.toNat
          · subst e; rw [if_pos rfl, hnew.out]; rfl
          · rw [if_neg e])
        rw [← hwo]
        replace hwo := Lib.hid hwo
        clear kr q0 q4 hb1w hb2w hzr hX hsz hdo hB3 hdep hbel hrp
        go_loopw [11] (fun i wr => ∃ k : Nat, i = .int .i64 k ∧ k ≤ hh.parts.n ∧ DepR wr w2.heap.size w2.heap.size h.gl.n (fun j => if j = x.toNat then dOf (depF T out) ((g.parts.map (·.1)).take k) else dz T out t j) ∧ Below w2.heap.size w2 wr) (fun i wr => hh.parts.n - (intOf i).toNat)
        case atStart => exact ⟨0, rfl, Nat.zero_le _, hst.out, hbo⟩
        case round =>
          clear hst
          obtain ⟨k, rfl, hk, hdep, hbel⟩ := hrel
          have hX := hdep.lt
          have hsz := hbel.size
          have hB3 := hB2.trans (hbel.mono hB2.size)
          by_cases hkl : k < hh.parts.n
          · obtain ⟨b3, f3, y, hA3, _, hb3, hja3, hcs3⟩ := (hrd2.out.frame (good_flat _) (Below.sameB hbel (Nat.le_refl _))).at hlt
            injection hA3 with hA3
            injection hA3 with hA4 hA5
            subst hA4 hA5
            have hyx := Option.some.inj (hja3.symm.trans hja.out)
            subst hyx
            have q0 := hcs3 0 _ rfl
            simp only [Nat.mul_one, Nat.add_zero] at q0
            obtain ⟨p1, g1, ⟨y0, y1, y2⟩, hA, _, hpw, hjb, hcs⟩ := (hrpo.out.frame (good_flat _) (w' := wr) (fun i h1 h2 => (Below.sameB hB3 hhi i h1 h2).trans (Below.sameB (hB2.trans (hbo.mono hB2.size)) hhi i h1 h2).symm)).at hkl
            have q1 := hcs 0 _ rfl
            simp only [Nat.add_zero] at q1
            have hjm : (g.parts.map (·.1))[k]? = some y0 := by rw [List.getElem?_map, hjb]; rfl
            have hy0 := hready.out y0 (List.mem_of_getElem? hjm)
            obtain ⟨hy00, hy0T⟩ := hord.out.rng y0 (List.mem_of_mem_take hy0)
            have hy0n : y0.toNat < h.gl.n := by have : T.length = h.gl.n := by { rw [hT.out, tgts_length]; exact hl.out }; omega
            have hds := Lib.hid (show dOf (depF T out) ((g.parts.map (·.1)).take (k + 1)) = max (dOf (depF T out) ((g.parts.map (·.1)).take k)) (depF T out y0 + 1) by rw [take_snoc_at hjm, dOf_snoc])
            have hne : y0.toNat ≠ y.toNat := by
              intro e
              have e2 : y0 = y := by omega
              have := hnew.out
              subst e2
              have hd := hord.out.nodup
              rw [← List.take_append_drop t out, List.nodup_append] at hd
              have hl2 := (List.getElem?_eq_some_iff.1 hja3).1
              refine hd.2.2 y0 hy0 y0 ?_ rfl
              rw [List.drop_eq_getElem_cons hl2]
              have hj4 := hja3
              rw [List.getElem?_eq_getElem hl2] at hj4; injection hj4 with hj4
              rw [hj4]; exact List.mem_cons_self
            obtain ⟨c1, fz, _⟩ := hdep.at hxr'
            obtain ⟨c2', _, _⟩ := hdep.at hy0n
            simp only [if_pos] at c1
            simp only [if_neg hne, dz_in hy00 hy0] at c2'
            obtain ⟨z1, hz1'⟩ : ∃ z, z = dOf (depF T out) ((g.parts.map (·.1)).take k) := ⟨_, rfl⟩
            obtain ⟨z2, hz2'⟩ : ∃ z, z = depF T out y0 := ⟨_, rfl⟩
            rw [← hz1'] at c1 hds
            rw [← hz2'] at c2' hds
            have hb2z := depF_bd T out y0
            rw [← hz2'] at hb2z
            obtain ⟨hbz1, hbz2⟩ := hb2z
            have hbz3 : z2 ≤ 40 := by have := hon.out; omega
            have hdn := Lib.hid (hdep.set hxr' (imax z1 (z2 + 1)))
            have hki : (0 : Int) ≤ (k : Int) ∧ (k : Int) < (hh.parts.n : Int) := by omega
            have hy0i : y0 < (h.gl.n : Int) := by omega
            have hpw' : p1 < wr.heap.size := by have := hB3.size; omega
            have hb3w : b1 < wr.heap.size := by omega
            replace hz1' := Lib.hid hz1'
            replace hz2' := Lib.hid hz2'
            replace hdep := Lib.hid hdep
            have hmx := Lib.hid (fun (W : World) => show Calls Try.prog 147 #[.int .i64 z1, .int .i64 (IntKind.i64.wrap (z2 + 1))] W fun e w'' => e = .returned (.int .i64 (imax z1 (z2 + 1))) ∧ w'' = W from by
              rw [show IntKind.i64.wrap (z2 + 1) = z2 + 1 from IntWalk.i64_in _ (by omega)]
              exact (l00Max_any z1 (z2 + 1) W).mono fun e w'' ⟨h1, h2⟩ => ⟨h1, h2.symm⟩)
            rw [hA]
            replace hA := Lib.hid hA
            clear hcs hcs3 hjb hjm hja3 hb3 hbz2 hy0
            go_wp2_with fail
            go_still_tail 23, (by kernel_rfl)
            still_call (hmx.out _)
            repeat still_step
            refine wpStill_nil ?_
            have c1d : wr.drew.cell? ⟨w2.heap.size, y.toNat, none⟩ = some (.int .i64 z1) := c1
            have fzd : wr.drew.frozen? ⟨w2.heap.size, y.toNat, none⟩ = false := fz
            have hXd : w2.heap.size < wr.drew.heap.size := hX
            have hBd : Hid (Below w2.heap.size w2 wr.drew) := hbel.drew
            have hdd : Hid (DepR (wr.drew.setCell ⟨w2.heap.size, y.toNat, none⟩ (.int .i64 (imax z1 (z2 + 1)))) w2.heap.size w2.heap.size h.gl.n (fun i => if i = y.toNat then imax z1 (z2 + 1) else if i = y.toNat then dOf (depF T out) ((g.parts.map (·.1)).take k) else dz T out t i)) := hdn.out
            clear c1 fz hX hdn c2' q0 q1 hbel hdep hB3
            change wpList _ _ _ _ _ wr.drew
            generalize wr.drew = w4 at *
            go_wp2_with fail
            go_roundw
            case rel =>
              refine ⟨k + 1, by go_num, by omega, hdd.out.congr fun j hj => ?_, hBd.out.setCell (Nat.le_refl _) _⟩
              by_cases e : j = y.toNat
              · rw [if_pos e, if_pos e, hds.out, imax_max]
              · rw [if_neg e, if_neg e, if_neg e]
            case measure => simp [intOf]; omega
          · have hkn : k = hh.parts.n := by omega
            have hfull : (g.parts.map (·.1)).take k = g.parts.map (·.1) := List.take_of_length_le (by rw [List.length_map, hrpo.out.1]; omega)
            have hdn := Lib.hid (hdep.congr (E := dz T out (t + 1)) fun j hj => by rw [hfull]; exact hstep.out j)
            replace hfull := Lib.hid hfull
            replace hkn := Lib.hid hkn
            replace hdep := Lib.hid hdep
            go_wp2_with fail
            go_roundw
            case rel => exact ⟨t + 1, by go_num, by omega, hdn.out, hbel⟩
            case measure => simp [intOf]; omega
      · have htn : t = h.gl.n := by omega
        obtain ⟨c1, _, _⟩ := hdep.out.at (j := x0.toNat) (by omega)
        have hmem : x0 ∈ out.take t := by
          have := hord.out.mem_of_full (by rw [hon.out, hT.out, tgts_length]; exact hl.out.symm) (i := x0.toNat) (by rw [hT.out, tgts_length, hl.out]; omega)
          rw [show ((x0.toNat : Nat) : Int) = x0 by omega] at this
          rwa [List.take_of_length_le (by rw [hon.out]; omega)]
        rw [dz_in hx0 hmem, ← e0.out] at c1
        replace hmem := Lib.hid hmem
        replace htn := Lib.hid htn
        go_wp2_with fail
        go_ret2
        exact ⟨rfl, hB3⟩
end Go.Proofs.Ytpjmpbdbfldnaaa
