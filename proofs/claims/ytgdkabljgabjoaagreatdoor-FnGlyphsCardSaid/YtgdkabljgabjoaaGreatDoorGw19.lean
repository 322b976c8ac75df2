/- The number of loops of a glyph: the program's walk. Conditions: as each states. -/
import Derived.BigQuiet
import Derived.Test.YtgdkabljgabjoaaGreatDoorGw18
import Derived.Test.YtgdkabljgabjoaaGreatDoorGw11
import Derived.Test.YtgdkabljgabjoaaGreatDoorGw17
import Derived.Test.YtgdkabljgabjoaaGreatDoorGw15
namespace Go.Proofs.YtgdkabljgabjoaaGreatDoor
open Go.RowKit Go.Maps
set_option linter.unusedVariables false
set_option maxRecDepth 100000

theorem grown_trans {a b c : World} {row : Option Nat} (h : a.grownBy b row) (k : b.grownBy c row) : a.grownBy c row :=
  ⟨k.os.trans h.os, k.tape.trans h.tape, k.output.trans h.output, Nat.le_trans h.size k.size, fun i hi hne => (k.block i (Nat.lt_of_lt_of_le hi h.size) hne).trans (h.block i hi hne)⟩
theorem grown_cellN {w w' : World} {b : Nat} (hg : w.grownBy w' (some b)) {x o : Nat} (hx : x < w.heap.size) (hne : x ≠ b) : w'.cell? ⟨x, o, none⟩ = w.cell? ⟨x, o, none⟩ :=
  World.cell?_of_block (w := w) (hg.block x hx (by simpa using hne))

set_option maxHeartbeats 8000000 in
theorem loopCount_any (u : Int) (A : Option Addr) (n c lo hi bm : Nat) (L : List Gl) (out : List Int) (ho : Ord (tgts L) out) (hl : L.length = n) (hn : n ≤ 40) (hg12 : ∀ g ∈ L, g.out.length ≤ 12 ∧ g.parts.length ≤ 6) (hb : hi ≤ bm) :
    ∀ (t : Nat) (x : Int) (f : Lit → Option Int) (w : World), out[t]? = some x → MapF intE w Tryz.prog 2 bm 40 f → MemOk (cntF L out) n f → GsRd w lo hi A n L → hi ≤ w.heap.size →
    Calls Tryz.prog 59 #[.agg #[.int .i64 u, .slice A n c], .int .i64 x, .map (some bm)] w fun e w' => LcEnd (cntF L out) n bm x w w' e := by
  replace ho := Lib.hid ho
  replace hg12 := Lib.hid hg12
  replace hl := Lib.hid hl
  intro t
  induction t using Nat.strongRecOn with
  | ind t ih =>
    intro x f w hx hmap hmem hr hhi
    replace ih := Lib.hid ih
    obtain ⟨hx0, hxn⟩ := ho.out.rng x (List.mem_of_getElem? hx)
    rw [tgts_length, hl.out] at hxn
    have hwf : (Lit.int .i64 x).wf = true := WalkArith.wf_i64 (by omega)
    have hkey := Lib.hid (keyOf_int_mk Tryz.underlying2 hwf)
    have hbm := hmap.lt
    obtain ⟨o, hof⟩ : ∃ o, o = f (.int .i64 x) := ⟨_, rfl⟩
    have hr0 := hr
    replace hr := Lib.hid hr
    replace hwf := Lib.hid hwf
    have hmap1 := Lib.hid (hmap.alloc (.cells #[.int .i64 u, .slice A n c] 36 (0, 0)))
    cases o with
    | some v =>
      obtain ⟨j, hj, ej, ev⟩ := hmem _ _ hof.symm
      have hvx : v = cntF L out x := by injection ej with _ ej; rw [ev, ej]
      have hg : w.grownBy (w.alloc (.cells #[.int .i64 u, .slice A n c] 36 (0, 0))) (some bm) := World.grownBy_alloc _ _ _
      replace hvx := Lib.hid hvx
      have hgd : (f (.int .i64 x)).getD 0 = v := by rw [← hof]; rfl
      have hgs : (f (.int .i64 x)).isSome = true := by rw [← hof]; rfl
      replace hgd := Lib.hid hgd
      replace hgs := Lib.hid hgs
      replace hmem := Lib.hid hmem
      clear hof ej ev hr0 hmap
      go_enter Tryz.func59, Tryz.ntmps59
      go_wp2_with (at_lookup; refine wpList_lookup_f_ok rfl _ _ _ rfl 2 keyI Tryz.underlying97 0 (zeroI64 _) rfl hmap1.out rfl hkey.out v hgd.out true hgs.out ?_; dsimp only [intE])
      go_ret
      exact ⟨f, by rw [← hvx.out]; rfl, hmap1.out, hmem.out, hg⟩
    | none =>
      have hgd : (f (.int .i64 x)).getD 0 = 0 := by rw [← hof]; rfl
      have hgs : (f (.int .i64 x)).isSome = false := by rw [← hof]; rfl
      replace hgd := Lib.hid hgd
      replace hgs := Lib.hid hgs
      replace hmem := Lib.hid hmem
      obtain ⟨b1, f1, d, hh, rfl, hb0, hb1, hja, hcs, hrg⟩ := gs_at (hr0.frame good_glyph (SameB.alloc (SameB.refl lo hi w) hhi (.cells #[.int .i64 u, .slice A n c] 36 (0, 0)))) hxn
      have q0 := hcs 0 _ rfl
      have q1 := hcs 1 _ rfl
      have q2 := hcs 2 _ rfl
      have q3 := hcs 3 _ rfl
      have q4 := hcs 4 _ rfl
      have q5 := hcs 5 _ rfl
      have q6 := hcs 6 _ rfl
      simp only [Nat.add_zero] at q0 q1 q2 q3 q4 q5 q6
      obtain ⟨hd12, hd6⟩ := hg12.out d (List.mem_of_getElem? hja)
      have hon : hh.out.n ≤ 12 := by rw [← hrg.1.1]; exact hd12
      have hpn : hh.parts.n ≤ 6 := by rw [← hrg.2.1.1]; exact hd6
      have hol := Lib.hid hrg.1.1
      have hrp := Lib.hid hrg.2.1
      have hval := Lib.hid (cntF_is ho.out hx hja hd12)
      have hready := Lib.hid (ho.out.ready t x hx _ (tgts_at hja))
      have hxi : x < (n : Int) := by omega
      have hb1w : b1 < w.heap.size := by omega
      have hb1w' : b1 < (w.alloc (.cells #[.int .i64 u, .slice (some ⟨b1, f1, none⟩) n c] 36 (0, 0))).heap.size := by simp; omega
      clear hof hr0 hmap hcs hrg hja hb0 hd12 hd6
      have s0 : (w.alloc (.cells #[.int .i64 u, .slice (some ⟨b1, f1, none⟩) n c] 36 (0, 0))).cell? ⟨w.heap.size, 0, none⟩ = some (.int .i64 u) := by rw [Go.Joins.cell_of_block (heap_alloc_new w _)]; rfl
      have s1 : (w.alloc (.cells #[.int .i64 u, .slice (some ⟨b1, f1, none⟩) n c] 36 (0, 0))).cell? ⟨w.heap.size, 1, none⟩ = some (.slice (some ⟨b1, f1, none⟩) n c) := by rw [Go.Joins.cell_of_block (heap_alloc_new w _)]; rfl
      have hsz1 : w.heap.size < (w.alloc (.cells #[.int .i64 u, .slice (some ⟨b1, f1, none⟩) n c] 36 (0, 0))).heap.size := by simp
      have hg1 : w.grownBy (w.alloc (.cells #[.int .i64 u, .slice (some ⟨b1, f1, none⟩) n c] 36 (0, 0))) (some bm) := World.grownBy_alloc _ _ _
      have hr1 : GsRd (w.alloc (.cells #[.int .i64 u, .slice (some ⟨b1, f1, none⟩) n c] 36 (0, 0))) lo hi (some ⟨b1, f1, none⟩) n L := hr.out.frame good_glyph (SameB.alloc (SameB.refl lo hi w) hhi _)
      replace hr1 := Lib.hid hr1
      generalize hW1 : w.alloc (.cells #[.int .i64 u, .slice (some ⟨b1, f1, none⟩) n c] 36 (0, 0)) = W1 at *
      go_enter Tryz.func59, Tryz.ntmps59
      go_wp2_with (at_lookup; refine wpList_lookup_f_ok rfl _ _ _ rfl 2 keyI Tryz.underlying97 0 (zeroI64 _) rfl hmap1.out rfl hkey.out 0 hgd.out false hgs.out ?_; dsimp only [intE])
      clear q0 q1 q2 q3 q4 q5 q6 hgd hgs
      replace hW1 := Lib.hid hW1
      have hg2 : W1.grownBy (W1.alloc (.cells #[.string d.name, .int .i64 d.code, .int .i64 d.adv, .slice hh.out.A hh.out.n hh.out.c, .slice hh.parts.A hh.parts.n hh.parts.c, .slice hh.anchors.A hh.anchors.n hh.anchors.c, .string d.hints] 28 (0, 0))) (some bm) := World.grownBy_alloc _ _ _
      have hm2 := Lib.hid (hmap1.out.alloc (.cells #[.string d.name, .int .i64 d.code, .int .i64 d.adv, .slice hh.out.A hh.out.n hh.out.c, .slice hh.parts.A hh.parts.n hh.parts.c, .slice hh.anchors.A hh.anchors.n hh.anchors.c, .string d.hints] 28 (0, 0)))
      generalize W1.alloc (.cells #[.string d.name, .int .i64 d.code, .int .i64 d.adv, .slice hh.out.A hh.out.n hh.out.c, .slice hh.parts.A hh.parts.n hh.parts.c, .slice hh.anchors.A hh.anchors.n hh.anchors.c, .string d.hints] 28 (0, 0)) = W2 at hg2 hm2 ⊢
      go_loopw [33, 10] (fun i s wr => ∃ (j : Nat) (f' : Lit → Option Int) (y : Int), i = .int .i64 j ∧ j ≤ hh.parts.n ∧ s = .int .i64 y ∧ y = cntM (cntF L out) hh.out.n (d.parts.take j) ∧ MapF intE wr Tryz.prog 2 bm 40 f' ∧ MemOk (cntF L out) n f' ∧ W2.grownBy wr (some bm)) (fun i s wr => hh.parts.n - (intOf i).toNat)
      case atStart => exact ⟨0, f, _, rfl, Nat.zero_le _, rfl, rfl, hm2.out, hmem.out, World.grownBy.refl _ _⟩
      case round =>
        clear hm2
        obtain ⟨j, f', y, rfl, hj, rfl, hy, hm, hme, hg3⟩ := hrel
        have hgW := grown_trans hg2 hg3
        have hgw := grown_trans hg1 hgW
        have hszr := hgW.size
        have hyb := cnt_M (cntF L out) hh.out.n (d.parts.take j) (by omega) (fun q _ => (cntF_bd L out q.1).1)
        have hyb2 := cntS_bd (cntF L out) hh.out.n (d.parts.take j) 13 (fun q _ => cntF_bd L out q.1)
        rw [← hy] at hyb
        have hy0 : 0 ≤ y ∧ y ≤ 13 := by omega
        clear hyb hyb2
        replace hme := Lib.hid hme
        replace hy := Lib.hid hy
        have s0r := (grown_cellN hgW (x := w.heap.size) (o := 0) hsz1 (by omega)).trans s0
        have s1r := (grown_cellN hgW (x := w.heap.size) (o := 1) hsz1 (by omega)).trans s1
        have hszr' : w.heap.size < wr.heap.size := by omega
        have hsb : SameB lo hi W1 wr := grown_sameB hgW (by omega) (.inr hb)
        by_cases hjl : j < hh.parts.n
        · obtain ⟨p1, g1, ⟨y0, y1, y2⟩, hA, _, hpw, hjb, hcs⟩ := (hrp.out.frame (good_flat _) hsb).at hjl
          have q0 := hcs 0 _ rfl
          have q1 := hcs 1 _ rfl
          have q2 := hcs 2 _ rfl
          simp only [Nat.add_zero] at q0 q1 q2
          have hpw' : p1 < wr.heap.size := by omega
          have hmemp := hready.out y0 (List.mem_map_of_mem (f := (·.1)) (List.mem_of_getElem? hjb))
          obtain ⟨sN, hsN⟩ := List.getElem?_of_mem hmemp
          have hst : sN < t := by
            have := (List.getElem?_eq_some_iff.1 hsN).1
            rw [List.length_take] at this; omega
          rw [List.getElem?_take_of_lt hst] at hsN
          have hcall := Lib.hid (ih.out sN hst y0 f' (wr.alloc (.cells #[.int .i64 y0, .int .i64 y1, .int .i64 y2] 106 (0, 0))) hsN (hm.alloc _) hme.out ((hr1.out.frame good_glyph hsb).frame good_glyph (SameB.alloc (SameB.refl lo hi wr) (by omega) _)) (by simp; omega))
          have hzb := cntF_bd L out y0
          have hyn := Lib.hid (show cntM (cntF L out) hh.out.n (d.parts.take (j + 1)) = min (y + cntF L out y0) 13 by rw [take_snocG hjb, cntM_snoc, hy.out])
          rw [hA]
          replace hA := Lib.hid hA
          replace hsN := Lib.hid hsN
          have hji : (0 : Int) ≤ (j : Int) ∧ (j : Int) < (hh.parts.n : Int) := by omega
          clear hcs hjb hmemp
          go_wp2_with fail
          refine hcall.out.mono ?_
          rintro e w4 ⟨f2, rfl, hm4, hme4, hg4⟩
          have hg5 := grown_trans hg3 (grown_trans (World.grownBy_alloc wr _ _) hg4)
          replace hme4 := Lib.hid hme4
          replace hm4 := Lib.hid hm4
          generalize cntF L out y0 = z at hzb hyn ⊢
          go_wp2_with fail
          go_roundw
          case rel => exact ⟨j + 1, f2, _, by go_num, by omega, rfl, by rw [hyn.out]; split <;> omega, hm4.out, hme4.out, hg5⟩
          case measure => simp [intOf]; omega
        · have hjn : j = hh.parts.n := by omega
          have hfull : d.parts.take j = d.parts := List.take_of_length_le (by rw [hrp.out.1]; omega)
          have hyx : y = cntF L out x := by rw [hval.out, hy.out, hfull, hol.out]
          replace hfull := Lib.hid hfull
          replace hjn := Lib.hid hjn
          replace hyx := Lib.hid hyx
          go_wp2_with (at_mapUpdate; refine wpList_mapUpdate_f rfl _ _ _ _ rfl 2 keyI Tryz.underlying97 rfl hm (by unfold maxLen; omega) rfl hkey.out y rfl ?_; intro w5 hm5 hg5)
          go_ret
          have hmx : MemOk (cntF L out) n (putF f' (.int .i64 x) y) := by rw [hyx.out]; exact hme.out.put hx0 hxi
          exact ⟨_, by rw [← hyx.out]; rfl, hm5.tight keyI (fun kl hk => by
            obtain ⟨v, hv⟩ := Option.isSome_iff_exists.1 hk
            obtain ⟨i, hi, e, _⟩ := hmx kl v hv
            exact ⟨i, by omega, e⟩), hmx, grown_trans hgw hg5⟩
end Go.Proofs.YtgdkabljgabjoaaGreatDoor

/- The number of loops of a glyph: the program's side. Conditions: as each states. -/
namespace Go.Proofs.YtgdkabljgabjoaaGreatDoor
open Go.RowKit Go.Maps
set_option linter.unusedVariables false
set_option maxRecDepth 100000

theorem ord_at {L : List Gl} (hfull : (order (tgts L)).length = L.length) {x : Int} (h0 : 0 ≤ x) (h1 : x < L.length) : ∃ t : Nat, (order (tgts L))[t]? = some x := by
  have := (order_ord (tgts L)).mem_of_full (by rw [hfull, tgts_length]) (i := x.toNat) (by rw [tgts_length]; omega)
  rw [show ((x.toNat : Nat) : Int) = x by omega] at this
  exact List.getElem?_of_mem this
theorem set_loops {d : GSet} (h : setOk d = true) : ∀ g ∈ d.gl, g.out.length ≤ 12 ∧ g.parts.length ≤ 6 := fun g hg => by
  have h1 := glyph_is ((set_is h).2.1 g hg)
  have h2 := h1.1
  simp [outOk] at h2
  exact ⟨h2.2, h1.2.1⟩

set_option maxHeartbeats 2000000 in
theorem implLoopCount_any (d : GSet) (h : GSetH) (x0 : Int) (r0 r1 : Int) (heq : (r0, r1) = cntR d x0) (lo hi : Nat) (w : World) (hr : GSetRc w lo hi d h) (hhi : hi ≤ w.heap.size) (hm : d.small 1000000000) (hs : ∀ g ∈ d.gl, g.str) :
    Calls Tryz.prog 20 #[gsV d h, .int .i64 x0] w fun e w' => e = .returned (.tuple #[.int .i64 r0, .int .i64 r1]) ∧ Below w.heap.size w w' := by
  have hB0 : Below w.heap.size w (w.alloc (.cells #[.int .i64 d.unit, .slice h.gl.A h.gl.n h.gl.c] 36 (0, 0))) := Go.Joins.below_alloc1 _ _
  have k0 : (w.alloc (.cells #[.int .i64 d.unit, .slice h.gl.A h.gl.n h.gl.c] 36 (0, 0))).cell? ⟨w.heap.size, 0, none⟩ = some (.int .i64 d.unit) := by rw [Go.Joins.cell_of_block (heap_alloc_new w _)]; rfl
  have k1 : (w.alloc (.cells #[.int .i64 d.unit, .slice h.gl.A h.gl.n h.gl.c] 36 (0, 0))).cell? ⟨w.heap.size, 1, none⟩ = some (.slice h.gl.A h.gl.n h.gl.c) := by rw [Go.Joins.cell_of_block (heap_alloc_new w _)]; rfl
  have hz : w.heap.size < (w.alloc (.cells #[.int .i64 d.unit, .slice h.gl.A h.gl.n h.gl.c] 36 (0, 0))).heap.size := by simp
  obtain ⟨q, hq⟩ : ∃ q, q = askR d x0 := ⟨_, rfl⟩
  have hc := Lib.hid (checkGlyph_any d h x0 q hq lo hi (w.alloc (.cells #[.int .i64 d.unit, .slice h.gl.A h.gl.n h.gl.c] 36 (0, 0))) (hr.frame good_glyphc (Below.sameB hB0 hhi)) (Nat.le_trans hhi hB0.size) hm hs)
  have hcs := ask_cases d x0
  unfold cntR at heq
  rw [← hq] at hcs heq
  injection heq with e0 e1
  by_cases hq0 : q = 0
  rotate_left
  · rw [if_neg hq0] at e0
    subst e0 e1
    have hq1 : r1 = 1 ∨ r1 = 2 := by omega
    replace hq := Lib.hid hq
    clear hr hm hs hcs k1 hq0
    rcases hq1 with rfl | rfl
    all_goals
      go_enter Tryz.func20, Tryz.ntmps20
      go_wp2_with fail
      refine hc.out.mono ?_
      rintro e w1 ⟨rfl, hb1⟩
      go_wp2_with fail
      go_ret2
      exact ⟨rfl, hB0.trans (hb1.mono hB0.size)⟩
  · rw [if_pos hq0] at e0
    obtain ⟨_, hok, hx0, hxn⟩ : q = 0 ∧ setOk d = true ∧ 0 ≤ x0 ∧ x0 < d.gl.length := by rcases hcs with h1 | h1 | h1; omega; omega; exact h1
    subst hq0
    subst e1
    have hl := hr.1
    obtain ⟨t, ht⟩ := ord_at (set_is hok).2.2 hx0 hxn
    have hn40 : h.gl.n ≤ 40 := by rw [← hl]; exact (set_is hok).1
    have hcc := Lib.hid (fun (W : World) (hB : Below w.heap.size w W) => loopCount_any d.unit h.gl.A h.gl.n h.gl.c lo hi W.heap.size d.gl (order (tgts d.gl)) (order_ord _) hl hn40 (set_loops hok) (Nat.le_trans hhi hB.size) t x0 (fun _ => none) (W.alloc (.map #[] 0)) ht ((MapF.made intE W Tryz.prog 2).mono (by omega)) (MemOk.none _ _) ((GsRc.rd (hr.frame good_glyphc (Below.sameB hB hhi))).frame good_glyph (SameB.alloc (SameB.refl _ _ _) (Nat.le_trans hhi hB.size) _)) (by simp; have := hB.size; omega))
    have hmm := fun (t : TypeId) (W : World) => run_makeMap (P := Tryz.prog) t W
    replace e0 := Lib.hid e0
    replace hl := Lib.hid hl
    replace hq := Lib.hid hq
    replace ht := Lib.hid ht
    clear hr hm hs hcs hok
    go_enter Tryz.func20, Tryz.ntmps20
    go_wp2_with fail
    refine hc.out.mono ?_
    rintro e w1 ⟨rfl, hb1⟩
    have hB1 := hB0.trans (hb1.mono hB0.size)
    have j0 := (hb1.cell (p := ⟨w.heap.size, 0, none⟩) hz).trans k0
    have j1 := (hb1.cell (p := ⟨w.heap.size, 1, none⟩) hz).trans k1
    have hz1 : w.heap.size < w1.heap.size := Nat.lt_of_lt_of_le hz hb1.size
    clear hc k0 k1
    go_wp2_with fail
    refine (hcc.out _ hB1).mono ?_
    rintro e w2 ⟨f2, rfl, _, _, hg2⟩
    have hB2 : Below w.heap.size w w2 := (hB1.alloc hB1.size _).grown hg2 (by simp; have := hB1.size; omega) (fun j hj => by cases hj; exact hB1.size)
    rw [← e0.out]
    go_wp2_with fail
    go_ret2
    exact ⟨rfl, hB2⟩
end Go.Proofs.YtgdkabljgabjoaaGreatDoor

/- The whole outline of a glyph: the reference's doors. Printed by mk_wht.py. Conditions: as each states. -/
namespace Go.Proofs.YtgdkabljgabjoaaGreatDoor
open Go.RowKit
set_option linter.unusedVariables false
set_option maxRecDepth 100000

theorem out_bd {Ls : List (List Knot)} (h : outOk Ls = true) : Ls.length ≤ 12 ∧ ∀ K ∈ Ls, K.length ≤ 60 ∧ ∀ q ∈ K, (-262144 ≤ q.1 ∧ q.1 ≤ 262144) ∧ (-262144 ≤ q.2.1 ∧ q.2.1 ≤ 262144) := by
  simp only [outOk, Bool.and_eq_true, List.all_eq_true, decide_eq_true_eq] at h
  refine ⟨h.2, fun K hK => ⟨?_, fun q hq => ?_⟩⟩
  · have h3 := h.1 K hK
    simp only [loopOk, Bool.and_eq_true] at h3
    have := (inB_iff.1 h3.1.1).2
    omega
  · have h3 := h.1 K hK
    simp only [loopOk, Bool.and_eq_true, List.all_eq_true] at h3
    exact ptOk_iff.1 (h3.2 q hq)
theorem set_glb {d : GSet} (h : setOk d = true) : ∀ g ∈ d.gl, GlB g := fun g hg => by
  have h1 := glyph_is ((set_is h).2.1 g hg)
  obtain ⟨h2, h3⟩ := out_bd h1.1
  refine ⟨h2, h3, h1.2.1, fun r hr => ?_⟩
  have h4 := h1.2.2.2.2.1 r hr
  simp only [partOk, Bool.and_eq_true] at h4
  exact ptOk_iff.1 h4.2
theorem wholeF_bd {L : List Gl} {out : List Int} {C : Int → Int} (ho : Ord (tgts L) out) (hB : ∀ g ∈ L, GlB g) : ∀ (t : Nat) (x : Int), out[t]? = some x → ∀ (m : Int × Int), ∀ K ∈ wholeF L C out x m, K.length ≤ 60 := by
  intro t
  induction t using Nat.strongRecOn with
  | ind t ih =>
    intro x hx m K hK
    obtain ⟨h0, h1⟩ := ho.rng x (List.mem_of_getElem? hx)
    rw [tgts_length] at h1
    have hg : L[x.toNat]? = some L[x.toNat] := List.getElem?_eq_getElem h1
    rw [wholeF_at ho hx hg] at hK
    rcases List.mem_append.1 hK with hK | hK
    · obtain ⟨K', h2, rfl⟩ := List.mem_map.1 hK
      rw [List.length_map]
      exact ((hB _ (List.mem_of_getElem? hg)).2.1 K' h2).1
    · obtain ⟨p, h2, h3⟩ := List.mem_flatMap.1 hK
      obtain ⟨s, hs, hso⟩ := part_at ho hx hg h2
      split at h3
      · exact ih s hs p.1 hso _ K h3
      · cases h3
def whoW (d : GSet) (x : Int) : List (List Knot) := wholeF d.gl (cntF d.gl (order (tgts d.gl))) (order (tgts d.gl)) x (0, 0)
def whoF (d : GSet) (x : Int) : List (List Knot) × Int := if 12 < cntF d.gl (order (tgts d.gl)) x then ([], 5) else if outOk (whoW d x) then (whoW d x, 0) else ([], 2)
def whoR (d : GSet) (x : Int) : List (List Knot) × Int := if askR d x = 0 then whoF d x else ([], askR d x)
theorem own_emptyW (w : World) (lo : Nat) : OutOwn w lo none 0 0 [] := ⟨[], rfl, World.ownsRow_nil _ _ _ _, fun j K h => by simp at h, fun i j u v _ h => by simp at h⟩

end Go.Proofs.YtgdkabljgabjoaaGreatDoor

/- The users of a glyph: the reference's side. Conditions: as each states. -/
namespace Go.Proofs.YtgdkabljgabjoaaGreatDoor
open Go.RowKit
set_option linter.unusedVariables false
set_option maxRecDepth 100000

/-! ### plain -/
def usedIn (ps : List Part) (x : Int) : Bool := ps.any fun p => decide (p.1 = x)
def usersT (L : List Gl) (x : Int) : Nat → List Int
  | 0 => []
  | k + 1 => match L[k]? with
    | some g => if usedIn g.parts x then usersT L x k ++ [(k : Int)] else usersT L x k
    | none => usersT L x k
theorem usersT_len {L : List Gl} {x : Int} : ∀ {k : Nat}, (usersT L x k).length ≤ k
  | 0 => by simp [usersT]
  | k + 1 => by
    unfold usersT
    have ih := usersT_len (L := L) (x := x) (k := k)
    split
    · split
      · simp; omega
      · omega
    · omega
theorem usersT_next {L : List Gl} {x : Int} {k : Nat} {g : Gl} (h : L[k]? = some g) : usersT L x (k + 1) = if usedIn g.parts x then usersT L x k ++ [(k : Int)] else usersT L x k := by
  show (match L[k]? with
    | some g => if usedIn g.parts x then usersT L x k ++ [(k : Int)] else usersT L x k
    | none => usersT L x k) = _
  rw [h]
theorem usedIn_step {ps : List Part} {x : Int} {j : Nat} {p : Part} (h : ps[j]? = some p) : usedIn (ps.take (j + 1)) x = (usedIn (ps.take j) x || decide (p.1 = x)) := by
  unfold usedIn
  rw [take_snocG h, List.any_append]
  simp
end Go.Proofs.YtgdkabljgabjoaaGreatDoor

/- The users of a glyph: the reference's door. Conditions: as each states. -/
namespace Go.Proofs.YtgdkabljgabjoaaGreatDoor
open Go.RowKit
set_option linter.unusedVariables false
set_option maxRecDepth 100000

def useU (d : GSet) (x : Int) : List Int := if askR d x = 0 then usersT d.gl x d.gl.length else []
end Go.Proofs.YtgdkabljgabjoaaGreatDoor

