
import Derived.BigQuiet
import Derived.StillTailTactics
import Derived.Maps.Ext
import Derived.Test.YtgngcllodofimaaDepJ
/- The number of loops of a glyph: the reference's side. Conditions: as each states. -/
namespace Go.Proofs.Ytgngcllodofimaa
open Go.RowKit
set_option linter.unusedVariables false
set_option maxRecDepth 100000

theorem l00Min_anyX (a b : Int) (w : World) : Calls Try.prog 214 #[.int .i64 a, .int .i64 b] w fun e w' => e = .returned (.int .i64 (min a b)) ∧ w' = w := by
  by_cases h : a < b
  · have e : min a b = a := by omega
    rw [e]
    go_enter Try.func214, Try.ntmps214
    go_wp2_with fail
    go_ret
    exact ⟨rfl, rfl⟩
  · have e : min a b = b := by omega
    rw [e]
    go_enter Try.func214, Try.ntmps214
    go_wp2_with fail
    go_ret
    exact ⟨rfl, rfl⟩
def cntR (d : GSet) (x : Int) : Int × Int := (if askR d x = 0 then cntF d.gl (order (tgts d.gl)) x else 0, askR d x)
theorem cntF_next {L : List Gl} {out : List Int} {t : Nat} {x : Int} (hx : out[t]? = some x) (hx0 : 0 ≤ x) {g : Gl} (hg : L[x.toNat]? = some g) (j : Nat) : cntF L (out.take (t + 1)) j = if j = x.toNat then min (cntS (cntF L (out.take t)) g.out.length g.parts) 13 else cntF L (out.take t) j := by
  unfold cntF
  rw [take_snoc_at hx, memF_snoc]
  by_cases h : j = x.toNat
  · subst h
    rw [if_pos (by omega), if_pos rfl, cntG_eq hg]
  · rw [if_neg (by omega), if_neg h]

set_option maxHeartbeats 8000000 in
theorem l17Counts_any (p o : Nat) (d : GSet) (h : GSetH) (lo hi : Nat) (w : World) (hp0 : p < w.heap.size) (k1 : w.cell? ⟨p, o + 1, none⟩ = some (.slice h.gl.A h.gl.n h.gl.c)) (hr : GSetRd w lo hi d h) (hhi : hi ≤ w.heap.size) (hok : setOk d = true) :
    Calls Try.prog 178 #[.pointer (some ⟨p, o, none⟩)] w fun e w' => ∃ B : Nat, e = .returned (.slice (some ⟨B, 0, none⟩) h.gl.n h.gl.n) ∧ DepR w' w.heap.size B h.gl.n (fun j => cntF d.gl (order (tgts d.gl)) j) ∧ Below w.heap.size w w' := by
  obtain ⟨hn40, hgok, hfull⟩ := set_is hok
  have hl := hr.1
  obtain ⟨T, hT⟩ : ∃ T, T = tgts d.gl := ⟨_, rfl⟩
  obtain ⟨out, hout⟩ : ∃ out, out = order T := ⟨_, rfl⟩
  have hord : Ord T out := hout ▸ order_ord T
  have hon : out.length = h.gl.n := by rw [hout, hT, hfull, hl]
  have hTn : T.length = h.gl.n := by rw [hT, tgts_length]; exact hl
  have hpr := set_parts hok
  rw [hl] at hpr
  have hco := Lib.hid (l17Order_any p o h.gl.A h.gl.n h.gl.c lo hi d.gl w hp0 k1 hr hhi (by omega) (fun g hg => (hpr g hg).1))
  rw [← hT, ← hout, hon] at hco
  have hgo := Lib.hid (fun (g : Gl) (hg : g ∈ d.gl) => show g.out.length ≤ 12 from by
    have := (glyph_is (hgok g hg)).1
    simp [outOk] at this
    exact this.2)
  rw [← hT, ← hout]
  have hn : h.gl.n ≤ 40 := by omega
  obtain ⟨i0, hi0, hz0, hs0, hby0⟩ := info_parts infoInt64
  replace hord := Lib.hid hord
  replace hon := Lib.hid hon
  replace hTn := Lib.hid hTn
  replace hl := Lib.hid hl
  replace hT := Lib.hid hT
  replace hout := Lib.hid hout
  replace hr := Lib.hid hr
  replace hpr := Lib.hid hpr
  clear hok hn40 hgok hfull
  go_enter Try.func178, Try.ntmps178
  go_wp2_with fail
  refine hco.out.mono ?_
  rintro e w2 ⟨A2, c2, rfl, ho2, hb2⟩
  have k3 := (hb2.cell (p := ⟨p, o + 1, none⟩) hp0).trans k1
  have hp2 : p < w2.heap.size := Nat.lt_of_lt_of_le hp0 hb2.size
  have hrd2 := Lib.hid (rdS_own intC_len (by omega) ho2 hon.out)
  have hs2 := hb2.size
  clear hco ho2 k1
  go_wp2_with (at_make; refine wpList_make_full _ rfl _ _ 60 rfl w2.heap.size 2 i0 (.int .i64 0) 1 Try.underlying60 hi0 hz0 hs0 .i64 .i64 _ _ h.gl.n rfl rfl rfl rfl (by rw [hby0]; omega) (by unfold maxLen; omega) (Nat.le_refl _) ?_; intro w3 hown3 hg3)
  have hb3 : Below w2.heap.size w2 w3 := (Below.refl _ _).grown hg3 (Nat.le_refl _) (by simp)
  have hdep0 := Lib.hid (show DepR w3 w2.heap.size w2.heap.size h.gl.n (fun j => cntF d.gl (out.take 0) j) from ⟨_, hown3, fun j hj => made_int hj⟩)
  clear hown3 hg3 hi0 hz0 hs0 hby0
  go_loopw [5] (fun i wr => ∃ t : Nat, i = .int .i64 t ∧ t ≤ h.gl.n ∧ DepR wr w2.heap.size w2.heap.size h.gl.n (fun j => cntF d.gl (out.take t) j) ∧ Below w2.heap.size w2 wr) (fun i wr => h.gl.n - (intOf i).toNat)
  case atStart => exact ⟨0, rfl, Nat.zero_le _, hdep0.out, hb3⟩
  case round =>
    clear hb3 hdep0
    obtain ⟨t, rfl, ht, hdep, hbel⟩ := hrel
    have hX := hdep.lt
    have hsz := hbel.size
    have kr := (hbel.cell (p := ⟨p, o + 1, none⟩) hp2).trans k3
    have hzr : p < wr.heap.size := by omega
    have hB3 := hb2.trans (hbel.mono hb2.size)
    replace hdep := Lib.hid hdep
    by_cases hlt : t < h.gl.n
    · obtain ⟨b1, f1, x, rfl, _, hb1, hja, hcs⟩ := (hrd2.out.frame (good_flat _) (Below.sameB hbel (Nat.le_refl _))).at hlt
      have q0 := hcs 0 _ rfl
      simp only [Nat.mul_one, Nat.add_zero] at q0
      obtain ⟨hxl, hxr⟩ := hord.out.rng x (List.mem_of_getElem? hja)
      rw [hTn.out] at hxr
      have hxi : x < (h.gl.n : Int) := by omega
      have hti : (0 : Int) ≤ (t : Int) ∧ (t : Int) < (h.gl.n : Int) := by omega
      obtain ⟨b2, f2, g, hh, hA, hb0, hb2', hjb, hcs2, hrg⟩ := gs_at (hr.out.frame good_glyph (Below.sameB hB3 hhi)) hxr
      have q3 := hcs2 3 _ rfl
      have q4 := hcs2 4 _ rfl
      rw [hA] at kr
      have hb1w : b1 < wr.heap.size := by omega
      have hb2w : b2 < wr.heap.size := by omega
      obtain ⟨hgp0, hgr⟩ := hpr.out g (List.mem_of_getElem? hjb)
      have hgp : hh.parts.n ≤ 6 := by rw [← hrg.2.1.1]; exact hgp0
      have hgl : hh.out.n ≤ 12 := by rw [← hrg.1.1]; exact hgo.out g (List.mem_of_getElem? hjb)
      have hgn : Hid (g.out.length = hh.out.n) := hrg.1.1
      have hrp := Lib.hid hrg.2.1
      have hnext := Lib.hid (cntF_next hja hxl hjb)
      replace hgr := Lib.hid hgr
      replace hA := Lib.hid hA
      replace hja := Lib.hid hja
      clear hcs hcs2 hjb hrg hb0 hb1 hb2' hgp0
      go_wp2_with fail
      go_quiet (fail)
      have kq3 : (wr.drewN nq).cell? ⟨b2, f2 + x.toNat * 7 + 3, none⟩ = some (.slice hh.out.A hh.out.n hh.out.c) := q3
      have kq4 : (wr.drewN nq).cell? ⟨b2, f2 + x.toNat * 7 + 4, none⟩ = some (.slice hh.parts.A hh.parts.n hh.parts.c) := q4
      have kq0 : (wr.drewN nq).cell? ⟨b1, f1 + t, none⟩ = some (.int .i64 x) := q0
      have hbd := below_drewN hbel nq
      have hdd := Lib.hid (hdep.out.drewN nq)
      have hrd := Lib.hid (show RdS 3 (FlatR partC) (wr.drewN nq) lo hi hh.parts.A hh.parts.n g.parts from hrp.out)
      have hb1d : b1 < (wr.drewN nq).heap.size := hb1w
      have hb2d : b2 < (wr.drewN nq).heap.size := hb2w
      have hXd : w2.heap.size < (wr.drewN nq).heap.size := hX
      have hhd : hi ≤ (wr.drewN nq).heap.size := by show hi ≤ wr.heap.size; omega
      clear q0 q3 q4 hbel hdep hrp hb1w hb2w hX kr hzr hB3 hsz
      generalize wr.drewN nq = wo at *
      go_wp2_with fail
      go_loop [7, 8] (fun s i => ∃ k : Nat, i = .int .i64 k ∧ k ≤ hh.parts.n ∧ s = .int .i64 (cntS (cntF d.gl (out.take t)) hh.out.n (g.parts.take k))) (fun s i => hh.parts.n - (intOf i).toNat)
      case atStart => exact ⟨0, rfl, Nat.zero_le _, rfl⟩
      case round =>
        obtain ⟨k, rfl, hk, rfl⟩ := hrel
        have hsb := cntS_bd (cntF d.gl (out.take t)) hh.out.n (g.parts.take k) 13 (fun q _ => cntF_bd _ _ _)
        have htl : ((g.parts.take k).length : Int) ≤ 6 := by have := List.length_take_le k g.parts; omega
        obtain ⟨s, hsd⟩ : ∃ s, s = cntS (cntF d.gl (out.take t)) hh.out.n (g.parts.take k) := ⟨_, rfl⟩
        rw [← hsd] at hsb
        have hs1 : 0 ≤ s ∧ s ≤ 90 := by omega
        rw [← hsd]
        by_cases hkl : k < hh.parts.n
        · obtain ⟨p1, g1, ⟨y0, y1, y2⟩, hA1, _, hpw, hjb, hcs⟩ := hrd.out.at hkl
          have q1 := hcs 0 _ rfl
          simp only [Nat.add_zero] at q1
          obtain ⟨hy00, hy0n⟩ := hgr.out _ (List.mem_of_getElem? hjb)
          simp only at hy00 hy0n
          obtain ⟨c1, _, _⟩ := hdd.out.at (j := y0.toNat) (by omega)
          rw [show ((y0.toNat : Nat) : Int) = y0 by omega] at c1
          have hzb := cntF_bd d.gl (out.take t) y0
          have hsn := Lib.hid (show cntS (cntF d.gl (out.take t)) hh.out.n (g.parts.take (k + 1)) = s + cntF d.gl (out.take t) y0 by rw [take_snocG hjb, cntS_snoc, hsd])
          generalize cntF d.gl (out.take t) y0 = z at c1 hzb hsn
          have hki : (0 : Int) ≤ (k : Int) ∧ (k : Int) < (hh.parts.n : Int) := by omega
          have hpw' : p1 < wo.heap.size := by omega
          replace hsd := Lib.hid hsd
          rw [hA1] at kq4
          replace hA1 := Lib.hid hA1
          clear hcs hjb hsb htl
          go_wp2_with fail
          go_round
          case rel => exact ⟨k + 1, by go_num, by omega, by rw [hsn.out]⟩
          case measure => simp [intOf]; omega
        · have hkn : k = hh.parts.n := by omega
          have hfull : g.parts.take k = g.parts := List.take_of_length_le (by rw [hrd.out.1]; omega)
          have hfin := Lib.hid (show ∀ j : Nat, cntF d.gl (out.take (t + 1)) j = if j = x.toNat then min s 13 else cntF d.gl (out.take t) j from fun j => by rw [hnext.out j, hsd, hfull, hgn.out])
          obtain ⟨c1, fz, _⟩ := hdd.out.at hxr
          generalize cntF d.gl (out.take t) (x.toNat : Int) = z at c1
          have hdn := Lib.hid (hdd.out.set hxr (min s 13))
          have hmn := Lib.hid (l00Min_anyX s 13)
          replace hfull := Lib.hid hfull
          replace hkn := Lib.hid hkn
          replace hsd := Lib.hid hsd
          clear hsb htl
          go_wp2_with fail
          go_still_tail 8, (by kernel_rfl)
          still_call (hmn.out _)
          repeat still_step
          refine wpStill_nil ?_
          have c1d : wo.drew.cell? ⟨w2.heap.size, x.toNat, none⟩ = some (.int .i64 z) := c1
          have fzd : wo.drew.frozen? ⟨w2.heap.size, x.toNat, none⟩ = false := fz
          have hXe : w2.heap.size < wo.drew.heap.size := hXd
          have hBd : Hid (Below w2.heap.size w2 wo.drew) := hbd.drew
          have hde : Hid (DepR (wo.drew.setCell ⟨w2.heap.size, x.toNat, none⟩ (.int .i64 (min s 13))) w2.heap.size w2.heap.size h.gl.n (fun i => if i = x.toNat then min s 13 else cntF d.gl (out.take t) i)) := hdn.out
          clear c1 fz hXd hdn kq0 kq3 kq4 hbd hdd hb1d hb2d hhd hrd
          change wpList _ _ _ _ _ wo.drew
          generalize wo.drew = w4 at *
          go_wp2_with fail
          go_roundw
          case rel => exact ⟨t + 1, by go_num, by omega, hde.out.congr fun j hj => (hfin.out j).symm, hBd.out.setCell (Nat.le_refl _) _⟩
          case measure => simp [intOf]; omega
    · have htn : t = h.gl.n := by omega
      have hfull : out.take t = out := List.take_of_length_le (by rw [hon.out]; omega)
      have hfin := Lib.hid (show DepR wr w.heap.size w2.heap.size h.gl.n (fun j => cntF d.gl out j) from by
        obtain ⟨ys, h1, h2⟩ := hdep.out
        exact ⟨ys, own_lower h1 hs2, fun j hj => by rw [h2 j hj, hfull]⟩)
      replace hfull := Lib.hid hfull
      replace htn := Lib.hid htn
      go_wp2_with fail
      go_ret
      exact ⟨_, rfl, hfin.out, hB3⟩
end Go.Proofs.Ytgngcllodofimaa

/- The number of loops of a glyph: both sides. Conditions: as each states. -/
namespace Go.Proofs.Ytgngcllodofimaa
open Go.RowKit Go.Maps
set_option linter.unusedVariables false
set_option maxRecDepth 100000

/-! ### the program's side: a map that remembers -/
theorem MapF.tight {α : Type} {E : ElemRd α} {w : World} {P : Program} {k : TypeId} {b n : Nat} {f : Lit → Option α} (h : MapF E w P k b n f) (K : Keyed P k) {N : Nat} (hs : ∀ kl, (f kl).isSome = true → ∃ j : Nat, j < N ∧ kl = .int .i64 j) : MapF E w P k b N f := by
  obtain ⟨D, h1, h2, h3⟩ := h
  obtain ⟨es, hD, hsort, hkeys⟩ := h1.canon K
  obtain ⟨ms, clock, hb, F, hsz, hDm⟩ := h1
  refine ⟨D, ⟨ms, clock, hb, F, ?_, hDm⟩, h2, h3⟩
  have hlen : ms.size = es.length := by
    rw [hDm] at hD
    injection hD with hD
    rw [← hD, length_sorted]; simp
  rw [hlen]
  have hmem : ∀ p ∈ es, ∃ j : Nat, j < N ∧ p.1 = .int .i64 j := fun p hp => by
    refine hs p.1 ?_
    have hh : Maps.has D p.1 = true := by
      rw [hD]
      exact List.any_eq_true.2 ⟨p, hp, WideAt.sameKey_self (hkeys p hp)⟩
    rw [← hh]
    cases hf : f p.1 with
    | none => rw [has_false_of_atKey fun z => by rw [h3, hf]; rfl] at hh; cases hh
    | some a => exact hh.symm
  have hap := apart_of_rising hsort
  have hnd : (es.map fun p => match p.1 with | .int _ a => a.toNat | _ => 0).Nodup := by
    unfold List.Nodup
    rw [List.pairwise_map]
    refine List.Pairwise.imp_of_mem (fun {a b} ha hb hne => ?_) hap
    obtain ⟨j, _, ej⟩ := hmem a ha
    obtain ⟨j', _, ej'⟩ := hmem b hb
    rw [ej, ej'] at hne ⊢
    intro e
    simp at e
    exact hne (by rw [e])
  have := nodup_le hnd (n := N) fun x hx => by
    obtain ⟨p, hp, rfl⟩ := List.mem_map.1 hx
    obtain ⟨j, hj, ej⟩ := hmem p hp
    rw [ej]; simpa using hj
  simpa using this

/-- what is remembered is right -/
def MemOk (C : Int → Int) (n : Nat) (f : Lit → Option Int) : Prop := ∀ kl v, f kl = some v → ∃ j : Nat, j < n ∧ kl = .int .i64 j ∧ v = C j
theorem MemOk.none (C : Int → Int) (n : Nat) : MemOk C n (fun _ => none) := fun kl v h => by cases h
theorem MemOk.put {C : Int → Int} {n : Nat} {f : Lit → Option Int} (h : MemOk C n f) {x : Int} (h0 : 0 ≤ x) (h1 : x < n) : MemOk C n (putF f (.int .i64 x) (C x)) := fun kl v hv => by
  by_cases e : kl = .int .i64 x
  · subst e
    rw [putF_same _ (by trivial)] at hv
    injection hv with hv
    exact ⟨x.toNat, by omega, by rw [show ((x.toNat : Nat) : Int) = x by omega], by rw [show ((x.toNat : Nat) : Int) = x by omega, hv]⟩
  · rw [putF_ne _ e] at hv
    exact h kl v hv
def LcEnd (C : Int → Int) (n bm : Nat) (x : Int) (W w' : World) (e : Ending) : Prop := ∃ f', e = .returned (.int .i64 (C x)) ∧ MapF intE w' Try.prog 2 bm 40 f' ∧ MemOk C n f' ∧ W.grownBy w' (some bm)
theorem below_grown {W w' : World} (hb : Below W.heap.size W w') (row : Option Nat) : W.grownBy w' row := ⟨hb.os, hb.tape, hb.output, hb.size, fun k hk _ => hb.block k hk⟩
theorem zeroI64 (w : World) : (zeroValue 2).run Try.prog w = .ok (.int .i64 0) w := by kernel_rfl
theorem cntF_is {L : List Gl} {out : List Int} (ho : Ord (tgts L) out) {t : Nat} {x : Int} (hx : out[t]? = some x) {g : Gl} (hg : L[x.toNat]? = some g) (hg12 : g.out.length ≤ 12) : cntF L out x = cntM (cntF L out) g.out.length g.parts := by
  rw [cnt_M _ _ _ (by omega) fun p _ => (cntF_bd L out p.1).1]
  unfold cntF
  rw [memF_at (cntG_loc L) ho hx (tgts_at hg), cntG_eq hg]
end Go.Proofs.Ytgngcllodofimaa

/- The number of loops of a glyph: the program's walk. Conditions: as each states. -/
namespace Go.Proofs.Ytgngcllodofimaa
open Go.RowKit Go.Maps
set_option linter.unusedVariables false
set_option maxRecDepth 100000

theorem grown_trans {a b c : World} {row : Option Nat} (h : a.grownBy b row) (k : b.grownBy c row) : a.grownBy c row :=
  ⟨k.os.trans h.os, k.tape.trans h.tape, k.output.trans h.output, Nat.le_trans h.size k.size, fun i hi hne => (k.block i (Nat.lt_of_lt_of_le hi h.size) hne).trans (h.block i hi hne)⟩
theorem grown_cellN {w w' : World} {b : Nat} (hg : w.grownBy w' (some b)) {x o : Nat} (hx : x < w.heap.size) (hne : x ≠ b) : w'.cell? ⟨x, o, none⟩ = w.cell? ⟨x, o, none⟩ :=
  World.cell?_of_block (w := w) (hg.block x hx (by simpa using hne))

set_option maxHeartbeats 8000000 in
theorem loopCount_any (u : Int) (A : Option Addr) (n c lo hi bm : Nat) (L : List Gl) (out : List Int) (ho : Ord (tgts L) out) (hl : L.length = n) (hn : n ≤ 40) (hg12 : ∀ g ∈ L, g.out.length ≤ 12 ∧ g.parts.length ≤ 6) (hb : hi ≤ bm) :
    ∀ (t : Nat) (x : Int) (f : Lit → Option Int) (w : World), out[t]? = some x → MapF intE w Try.prog 2 bm 40 f → MemOk (cntF L out) n f → GsRd w lo hi A n L → hi ≤ w.heap.size →
    Calls Try.prog 180 #[.agg #[.int .i64 u, .slice A n c], .int .i64 x, .map (some bm)] w fun e w' => LcEnd (cntF L out) n bm x w w' e := by
  replace ho := Lib.hid ho
  replace hg12 := Lib.hid hg12
  replace hl := Lib.hid hl
  intro t
  induction t using Nat.strongRecOn with
  | ind t ih =>
    intro x f w hx hmap hmem hr hhi
    replace ih := Lib.hid ih
    obtain ⟨hx0, hxn⟩ := ho.out.rng x (List.mem_of_getElem? hx)
    rw [tgts_length, hl.out] at hxn
    have hwf : (Lit.int .i64 x).wf = true := WalkArith.wf_i64 (by omega)
    have hkey := Lib.hid (keyOf_int_mk Try.underlying2 hwf)
    have hbm := hmap.lt
    obtain ⟨o, hof⟩ : ∃ o, o = f (.int .i64 x) := ⟨_, rfl⟩
    have hr0 := hr
    replace hr := Lib.hid hr
    replace hwf := Lib.hid hwf
    have hmap1 := Lib.hid (hmap.alloc (.cells #[.int .i64 u, .slice A n c] 39 (0, 0)))
    cases o with
    | some v =>
      obtain ⟨j, hj, ej, ev⟩ := hmem _ _ hof.symm
      have hvx : v = cntF L out x := by injection ej with _ ej; rw [ev, ej]
      have hg : w.grownBy (w.alloc (.cells #[.int .i64 u, .slice A n c] 39 (0, 0))) (some bm) := World.grownBy_alloc _ _ _
      replace hvx := Lib.hid hvx
      have hgd : (f (.int .i64 x)).getD 0 = v := by rw [← hof]; rfl
      have hgs : (f (.int .i64 x)).isSome = true := by rw [← hof]; rfl
      replace hgd := Lib.hid hgd
      replace hgs := Lib.hid hgs
      replace hmem := Lib.hid hmem
      clear hof ej ev hr0 hmap
      go_enter Try.func180, Try.ntmps180
      go_wp2_with (at_lookup; refine wpList_lookup_f_ok rfl _ _ _ rfl 2 keyI Try.underlying233 0 (zeroI64 _) rfl hmap1.out rfl hkey.out v hgd.out true hgs.out ?_; dsimp only [intE])
      go_ret
      exact ⟨f, by rw [← hvx.out]; rfl, hmap1.out, hmem.out, hg⟩
    | none =>
      have hgd : (f (.int .i64 x)).getD 0 = 0 := by rw [← hof]; rfl
      have hgs : (f (.int .i64 x)).isSome = false := by rw [← hof]; rfl
      replace hgd := Lib.hid hgd
      replace hgs := Lib.hid hgs
      replace hmem := Lib.hid hmem
      obtain ⟨b1, f1, d, hh, rfl, hb0, hb1, hja, hcs, hrg⟩ := gs_at (hr0.frame good_glyph (SameB.alloc (SameB.refl lo hi w) hhi (.cells #[.int .i64 u, .slice A n c] 39 (0, 0)))) hxn
      have q0 := hcs 0 _ rfl
      have q1 := hcs 1 _ rfl
      have q2 := hcs 2 _ rfl
      have q3 := hcs 3 _ rfl
      have q4 := hcs 4 _ rfl
      have q5 := hcs 5 _ rfl
      have q6 := hcs 6 _ rfl
      simp only [Nat.add_zero] at q0 q1 q2 q3 q4 q5 q6
      obtain ⟨hd12, hd6⟩ := hg12.out d (List.mem_of_getElem? hja)
      have hon : hh.out.n ≤ 12 := by rw [← hrg.1.1]; exact hd12
      have hpn : hh.parts.n ≤ 6 := by rw [← hrg.2.1.1]; exact hd6
      have hol := Lib.hid hrg.1.1
      have hrp := Lib.hid hrg.2.1
      have hval := Lib.hid (cntF_is ho.out hx hja hd12)
      have hready := Lib.hid (ho.out.ready t x hx _ (tgts_at hja))
      have hxi : x < (n : Int) := by omega
      have hb1w : b1 < w.heap.size := by omega
      have hb1w' : b1 < (w.alloc (.cells #[.int .i64 u, .slice (some ⟨b1, f1, none⟩) n c] 39 (0, 0))).heap.size := by simp; omega
      clear hof hr0 hmap hcs hrg hja hb0 hd12 hd6
      have s0 : (w.alloc (.cells #[.int .i64 u, .slice (some ⟨b1, f1, none⟩) n c] 39 (0, 0))).cell? ⟨w.heap.size, 0, none⟩ = some (.int .i64 u) := by rw [Go.Joins.cell_of_block (heap_alloc_new w _)]; rfl
      have s1 : (w.alloc (.cells #[.int .i64 u, .slice (some ⟨b1, f1, none⟩) n c] 39 (0, 0))).cell? ⟨w.heap.size, 1, none⟩ = some (.slice (some ⟨b1, f1, none⟩) n c) := by rw [Go.Joins.cell_of_block (heap_alloc_new w _)]; rfl
      have hsz1 : w.heap.size < (w.alloc (.cells #[.int .i64 u, .slice (some ⟨b1, f1, none⟩) n c] 39 (0, 0))).heap.size := by simp
      have hg1 : w.grownBy (w.alloc (.cells #[.int .i64 u, .slice (some ⟨b1, f1, none⟩) n c] 39 (0, 0))) (some bm) := World.grownBy_alloc _ _ _
      have hr1 : GsRd (w.alloc (.cells #[.int .i64 u, .slice (some ⟨b1, f1, none⟩) n c] 39 (0, 0))) lo hi (some ⟨b1, f1, none⟩) n L := hr.out.frame good_glyph (SameB.alloc (SameB.refl lo hi w) hhi _)
      replace hr1 := Lib.hid hr1
      generalize hW1 : w.alloc (.cells #[.int .i64 u, .slice (some ⟨b1, f1, none⟩) n c] 39 (0, 0)) = W1 at *
      go_enter Try.func180, Try.ntmps180
      go_wp2_with (at_lookup; refine wpList_lookup_f_ok rfl _ _ _ rfl 2 keyI Try.underlying233 0 (zeroI64 _) rfl hmap1.out rfl hkey.out 0 hgd.out false hgs.out ?_; dsimp only [intE])
      clear q0 q1 q2 q3 q4 q5 q6 hgd hgs
      replace hW1 := Lib.hid hW1
      have hg2 : W1.grownBy (W1.alloc (.cells #[.string d.name, .int .i64 d.code, .int .i64 d.adv, .slice hh.out.A hh.out.n hh.out.c, .slice hh.parts.A hh.parts.n hh.parts.c, .slice hh.anchors.A hh.anchors.n hh.anchors.c, .string d.hints] 49 (0, 0))) (some bm) := World.grownBy_alloc _ _ _
      have hm2 := Lib.hid (hmap1.out.alloc (.cells #[.string d.name, .int .i64 d.code, .int .i64 d.adv, .slice hh.out.A hh.out.n hh.out.c, .slice hh.parts.A hh.parts.n hh.parts.c, .slice hh.anchors.A hh.anchors.n hh.anchors.c, .string d.hints] 49 (0, 0)))
      generalize W1.alloc (.cells #[.string d.name, .int .i64 d.code, .int .i64 d.adv, .slice hh.out.A hh.out.n hh.out.c, .slice hh.parts.A hh.parts.n hh.parts.c, .slice hh.anchors.A hh.anchors.n hh.anchors.c, .string d.hints] 49 (0, 0)) = W2 at hg2 hm2 ⊢
      go_loopw [33, 10] (fun i s wr => ∃ (j : Nat) (f' : Lit → Option Int) (y : Int), i = .int .i64 j ∧ j ≤ hh.parts.n ∧ s = .int .i64 y ∧ y = cntM (cntF L out) hh.out.n (d.parts.take j) ∧ MapF intE wr Try.prog 2 bm 40 f' ∧ MemOk (cntF L out) n f' ∧ W2.grownBy wr (some bm)) (fun i s wr => hh.parts.n - (intOf i).toNat)
      case atStart => exact ⟨0, f, _, rfl, Nat.zero_le _, rfl, rfl, hm2.out, hmem.out, World.grownBy.refl _ _⟩
      case round =>
        clear hm2
        obtain ⟨j, f', y, rfl, hj, rfl, hy, hm, hme, hg3⟩ := hrel
        have hgW := grown_trans hg2 hg3
        have hgw := grown_trans hg1 hgW
        have hszr := hgW.size
        have hyb := cnt_M (cntF L out) hh.out.n (d.parts.take j) (by omega) (fun q _ => (cntF_bd L out q.1).1)
        have hyb2 := cntS_bd (cntF L out) hh.out.n (d.parts.take j) 13 (fun q _ => cntF_bd L out q.1)
        rw [← hy] at hyb
        have hy0 : 0 ≤ y ∧ y ≤ 13 := by omega
        clear hyb hyb2
        replace hme := Lib.hid hme
        replace hy := Lib.hid hy
        have s0r := (grown_cellN hgW (x := w.heap.size) (o := 0) hsz1 (by omega)).trans s0
        have s1r := (grown_cellN hgW (x := w.heap.size) (o := 1) hsz1 (by omega)).trans s1
        have hszr' : w.heap.size < wr.heap.size := by omega
        have hsb : SameB lo hi W1 wr := grown_sameB hgW (by omega) (.inr hb)
        by_cases hjl : j < hh.parts.n
        · obtain ⟨p1, g1, ⟨y0, y1, y2⟩, hA, _, hpw, hjb, hcs⟩ := (hrp.out.frame (good_flat _) hsb).at hjl
          have q0 := hcs 0 _ rfl
          have q1 := hcs 1 _ rfl
          have q2 := hcs 2 _ rfl
          simp only [Nat.add_zero] at q0 q1 q2
          have hpw' : p1 < wr.heap.size := by omega
          have hmemp := hready.out y0 (List.mem_map_of_mem (f := (·.1)) (List.mem_of_getElem? hjb))
          obtain ⟨sN, hsN⟩ := List.getElem?_of_mem hmemp
          have hst : sN < t := by
            have := (List.getElem?_eq_some_iff.1 hsN).1
            rw [List.length_take] at this; omega
          rw [List.getElem?_take_of_lt hst] at hsN
          have hcall := Lib.hid (ih.out sN hst y0 f' (wr.alloc (.cells #[.int .i64 y0, .int .i64 y1, .int .i64 y2] 42 (0, 0))) hsN (hm.alloc _) hme.out ((hr1.out.frame good_glyph hsb).frame good_glyph (SameB.alloc (SameB.refl lo hi wr) (by omega) _)) (by simp; omega))
          have hzb := cntF_bd L out y0
          have hyn := Lib.hid (show cntM (cntF L out) hh.out.n (d.parts.take (j + 1)) = min (y + cntF L out y0) 13 by rw [take_snocG hjb, cntM_snoc, hy.out])
          rw [hA]
          replace hA := Lib.hid hA
          replace hsN := Lib.hid hsN
          have hji : (0 : Int) ≤ (j : Int) ∧ (j : Int) < (hh.parts.n : Int) := by omega
          clear hcs hjb hmemp
          go_wp2_with fail
          refine hcall.out.mono ?_
          rintro e w4 ⟨f2, rfl, hm4, hme4, hg4⟩
          have hg5 := grown_trans hg3 (grown_trans (World.grownBy_alloc wr _ _) hg4)
          replace hme4 := Lib.hid hme4
          replace hm4 := Lib.hid hm4
          generalize cntF L out y0 = z at hzb hyn ⊢
          go_wp2_with fail
          go_roundw
          case rel => exact ⟨j + 1, f2, _, by go_num, by omega, rfl, by rw [hyn.out]; split <;> omega, hm4.out, hme4.out, hg5⟩
          case measure => simp [intOf]; omega
        · have hjn : j = hh.parts.n := by omega
          have hfull : d.parts.take j = d.parts := List.take_of_length_le (by rw [hrp.out.1]; omega)
          have hyx : y = cntF L out x := by rw [hval.out, hy.out, hfull, hol.out]
          replace hfull := Lib.hid hfull
          replace hjn := Lib.hid hjn
          replace hyx := Lib.hid hyx
          go_wp2_with (at_mapUpdate; refine wpList_mapUpdate_f rfl _ _ _ _ rfl 2 keyI Try.underlying233 rfl hm (by unfold maxLen; omega) rfl hkey.out y rfl ?_; intro w5 hm5 hg5)
          go_ret
          have hmx : MemOk (cntF L out) n (putF f' (.int .i64 x) y) := by rw [hyx.out]; exact hme.out.put hx0 hxi
          exact ⟨_, by rw [← hyx.out]; rfl, hm5.tight keyI (fun kl hk => by
            obtain ⟨v, hv⟩ := Option.isSome_iff_exists.1 hk
            obtain ⟨i, hi, e, _⟩ := hmx kl v hv
            exact ⟨i, by omega, e⟩), hmx, grown_trans hgw hg5⟩
end Go.Proofs.Ytgngcllodofimaa

/- The number of loops of a glyph: the program's side. Conditions: as each states. -/
namespace Go.Proofs.Ytgngcllodofimaa
open Go.RowKit Go.Maps
set_option linter.unusedVariables false
set_option maxRecDepth 100000

theorem ord_at {L : List Gl} (hfull : (order (tgts L)).length = L.length) {x : Int} (h0 : 0 ≤ x) (h1 : x < L.length) : ∃ t : Nat, (order (tgts L))[t]? = some x := by
  have := (order_ord (tgts L)).mem_of_full (by rw [hfull, tgts_length]) (i := x.toNat) (by rw [tgts_length]; omega)
  rw [show ((x.toNat : Nat) : Int) = x by omega] at this
  exact List.getElem?_of_mem this
theorem set_loops {d : GSet} (h : setOk d = true) : ∀ g ∈ d.gl, g.out.length ≤ 12 ∧ g.parts.length ≤ 6 := fun g hg => by
  have h1 := glyph_is ((set_is h).2.1 g hg)
  have h2 := h1.1
  simp [outOk] at h2
  exact ⟨h2.2, h1.2.1⟩

set_option maxHeartbeats 2000000 in
theorem implLoopCount_any (d : GSet) (h : GSetH) (x0 : Int) (r0 r1 : Int) (heq : (r0, r1) = cntR d x0) (lo hi : Nat) (w : World) (hr : GSetRc w lo hi d h) (hhi : hi ≤ w.heap.size) (hm : d.small 1000000000) (hs : ∀ g ∈ d.gl, g.str) :
    Calls Try.prog 126 #[gsV d h, .int .i64 x0] w fun e w' => e = .returned (.tuple #[.int .i64 r0, .int .i64 r1]) ∧ Below w.heap.size w w' := by
  have hB0 : Below w.heap.size w (w.alloc (.cells #[.int .i64 d.unit, .slice h.gl.A h.gl.n h.gl.c] 39 (0, 0))) := Go.Joins.below_alloc1 _ _
  have k0 : (w.alloc (.cells #[.int .i64 d.unit, .slice h.gl.A h.gl.n h.gl.c] 39 (0, 0))).cell? ⟨w.heap.size, 0, none⟩ = some (.int .i64 d.unit) := by rw [Go.Joins.cell_of_block (heap_alloc_new w _)]; rfl
  have k1 : (w.alloc (.cells #[.int .i64 d.unit, .slice h.gl.A h.gl.n h.gl.c] 39 (0, 0))).cell? ⟨w.heap.size, 1, none⟩ = some (.slice h.gl.A h.gl.n h.gl.c) := by rw [Go.Joins.cell_of_block (heap_alloc_new w _)]; rfl
  have hz : w.heap.size < (w.alloc (.cells #[.int .i64 d.unit, .slice h.gl.A h.gl.n h.gl.c] 39 (0, 0))).heap.size := by simp
  obtain ⟨q, hq⟩ : ∃ q, q = askR d x0 := ⟨_, rfl⟩
  have hc := Lib.hid (checkGlyph_any d h x0 q hq lo hi (w.alloc (.cells #[.int .i64 d.unit, .slice h.gl.A h.gl.n h.gl.c] 39 (0, 0))) (hr.frame good_glyphc (Below.sameB hB0 hhi)) (Nat.le_trans hhi hB0.size) hm hs)
  have hcs := ask_cases d x0
  unfold cntR at heq
  rw [← hq] at hcs heq
  injection heq with e0 e1
  by_cases hq0 : q = 0
  rotate_left
  · rw [if_neg hq0] at e0
    subst e0 e1
    have hq1 : r1 = 1 ∨ r1 = 2 := by omega
    replace hq := Lib.hid hq
    clear hr hm hs hcs k1 hq0
    rcases hq1 with rfl | rfl
    all_goals
      go_enter Try.func126, Try.ntmps126
      go_wp2_with fail
      refine hc.out.mono ?_
      rintro e w1 ⟨rfl, hb1⟩
      go_wp2_with fail
      go_ret2
      exact ⟨rfl, hB0.trans (hb1.mono hB0.size)⟩
  · rw [if_pos hq0] at e0
    obtain ⟨_, hok, hx0, hxn⟩ : q = 0 ∧ setOk d = true ∧ 0 ≤ x0 ∧ x0 < d.gl.length := by rcases hcs with h1 | h1 | h1; omega; omega; exact h1
    subst hq0
    subst e1
    have hl := hr.1
    obtain ⟨t, ht⟩ := ord_at (set_is hok).2.2 hx0 hxn
    have hn40 : h.gl.n ≤ 40 := by rw [← hl]; exact (set_is hok).1
    have hcc := Lib.hid (fun (W : World) (hB : Below w.heap.size w W) => loopCount_any d.unit h.gl.A h.gl.n h.gl.c lo hi W.heap.size d.gl (order (tgts d.gl)) (order_ord _) hl hn40 (set_loops hok) (Nat.le_trans hhi hB.size) t x0 (fun _ => none) (W.alloc (.map #[] 0)) ht ((MapF.made intE W Try.prog 2).mono (by omega)) (MemOk.none _ _) ((GsRc.rd (hr.frame good_glyphc (Below.sameB hB hhi))).frame good_glyph (SameB.alloc (SameB.refl _ _ _) (Nat.le_trans hhi hB.size) _)) (by simp; have := hB.size; omega))
    have hmm := fun (t : TypeId) (W : World) => run_makeMap (P := Try.prog) t W
    replace e0 := Lib.hid e0
    replace hl := Lib.hid hl
    replace hq := Lib.hid hq
    replace ht := Lib.hid ht
    clear hr hm hs hcs hok
    go_enter Try.func126, Try.ntmps126
    go_wp2_with fail
    refine hc.out.mono ?_
    rintro e w1 ⟨rfl, hb1⟩
    have hB1 := hB0.trans (hb1.mono hB0.size)
    have j0 := (hb1.cell (p := ⟨w.heap.size, 0, none⟩) hz).trans k0
    have j1 := (hb1.cell (p := ⟨w.heap.size, 1, none⟩) hz).trans k1
    have hz1 : w.heap.size < w1.heap.size := Nat.lt_of_lt_of_le hz hb1.size
    clear hc k0 k1
    go_wp2_with fail
    refine (hcc.out _ hB1).mono ?_
    rintro e w2 ⟨f2, rfl, _, _, hg2⟩
    have hB2 : Below w.heap.size w w2 := (hB1.alloc hB1.size _).grown hg2 (by simp; have := hB1.size; omega) (fun j hj => by cases hj; exact hB1.size)
    rw [← e0.out]
    go_wp2_with fail
    go_ret2
    exact ⟨rfl, hB2⟩
end Go.Proofs.Ytgngcllodofimaa

