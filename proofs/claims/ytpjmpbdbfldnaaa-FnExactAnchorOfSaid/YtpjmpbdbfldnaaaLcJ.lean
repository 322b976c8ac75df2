/- The number of loops of a glyph: the program's walk. Conditions: as each states. -/
import Derived.Test.YtpjmpbdbfldnaaaLcI
namespace Go.Proofs.Ytpjmpbdbfldnaaa
open Go.RowKit Go.Maps
set_option linter.unusedVariables false
set_option maxRecDepth 100000

theorem grown_trans {a b c : World} {row : Option Nat} (h : a.grownBy b row) (k : b.grownBy c row) : a.grownBy c row :=
  ⟨k.os.trans h.os, k.tape.trans h.tape, k.output.trans h.output, Nat.le_trans h.size k.size, fun i hi hne => (k.block i (Nat.lt_of_lt_of_le hi h.size) hne).trans (h.block i hi hne)⟩
theorem grown_cellN {w w' : World} {b : Nat} (hg : w.grownBy w' (some b)) {x o : Nat} (hx : x < w.heap.size) (hne : x ≠ b) : w'.cell? ⟨x, o, none⟩ = w.cell? ⟨x, o, none⟩ :=
  World.cell?_of_block (w := w) (hg.block x hx (by simpa using hne))

set_option maxHeartbeats 8000000 in
theorem loopCount_any (u : Int) (A : Option Addr) (n c lo hi bm : Nat) (L : List Gl) (out : List Int) (ho : Ord (tgts L) out) (hl : L.length = n) (hn : n ≤ 40) (hg12 : ∀ g ∈ L, g.out.length ≤ 12 ∧ g.parts.length ≤ 6) (hb : hi ≤ bm) :
    ∀ (t : Nat) (x : Int) (f : Lit → Option Int) (w : World), out[t]? = some x → MapF intE w Try.prog 2 bm 40 f → MemOk (cntF L out) n f → GsRd w lo hi A n L → hi ≤ w.heap.size →
    Calls Try.prog 150 #[.agg #[.int .i64 u, .slice A n c], .int .i64 x, .map (some bm)] w fun e w' => LcEnd (cntF L out) n bm x w w' e := by
  replace ho := Lib.hid ho
  replace hg12 := Lib.hid hg12
  replace hl := Lib.hid hl
  intro t
  induction t using Nat.strongRecOn with
  | ind t ih =>
    intro x f w hx hmap hmem hr hhi
    replace ih := Lib.hid ih
    obtain ⟨hx0, hxn⟩ := ho.out.rng x (List.mem_of_getElem? hx)
    rw [tgts_length, hl.out] at hxn
    have hwf : (Lit.int .i64 x).wf = true := WalkArith.wf_i64 (by omega)
    have hkey := Lib.hid (keyOf_int_mk Try.underlying2 hwf)
    have hbm := hmap.lt
    obtain ⟨o, hof⟩ : ∃ o, o = f (.int .i64 x) := ⟨_, rfl⟩
    have hr0 := hr
    replace hr := Lib.hid hr
    replace hwf := Lib.hid hwf
    have hmap1 := Lib.hid (hmap.alloc (.cells #[.int .i64 u, .slice A n c] 84 (0, 0)))
    cases o with
    | some v =>
      obtain ⟨j, hj, ej, ev⟩ := hmem _ _ hof.symm
      have hvx : v = cntF L out x := by injection ej with _ ej; rw [ev, ej]
      have hg : w.grownBy (w.alloc (.cells #[.int .i64 u, .slice A n c] 84 (0, 0))) (some bm) := World.grownBy_alloc _ _ _
      replace hvx := Lib.hid hvx
      have hgd : (f (.int .i64 x)).getD 0 = v := by rw [← hof]; rfl
      have hgs : (f (.int .i64 x)).isSome = true := by rw [← hof]; rfl
      replace hgd := Lib.hid hgd
      replace hgs := Lib.hid hgs
      replace hmem := Lib.hid hmem
      clear hof ej ev hr0 hmap
      go_enter Try.func150, Try.ntmps150
      go_wp2_with (at_lookup; refine wpList_lookup_f_ok rfl _ _ _ rfl 2 keyI Try.underlying175 0 (zeroI64 _) rfl hmap1.out rfl hkey.out v hgd.out true hgs.out ?_; dsimp only [intE])
      go_ret
      exact ⟨f, by rw [← hvx.out]; rfl, hmap1.out, hmem.out, hg⟩
    | none =>
      have hgd : (f (.int .i64 x)).getD 0 = 0 := by rw [← hof]; rfl
      have hgs : (f (.int .i64 x)).isSome = false := by rw [← hof]; rfl
      replace hgd := Lib.hid hgd
      replace hgs := Lib.hid hgs
      replace hmem := Lib.hid hmem
      obtain ⟨b1, f1, d, hh, rfl, hb0, hb1, hja, hcs, hrg⟩ := gs_at (hr0.frame good_glyph (SameB.alloc (SameB.refl lo hi w) hhi (.cells #[.int .i64 u, .slice A n c] 84 (0, 0)))) hxn
      have q0 := hcs 0 _ rfl
      have q1 := hcs 1 _ rfl
      have q2 := hcs 2 _ rfl
      have q3 := hcs 3 _ rfl
      have q4 := hcs 4 _ rfl
      have q5 := hcs 5 _ rfl
      have q6 := hcs 6 _ rfl
      simp only [Nat.add_zero] at q0 q1 q2 q3 q4 q5 q6
      obtain ⟨hd12, hd6⟩ := hg12.out d (List.mem_of_getElem? hja)
      have hon : hh.out.n ≤ 12 := by rw [← hrg.1.1]; exact hd12
      have hpn : hh.parts.n ≤ 6 := by rw [← hrg.2.1.1]; exact hd6
      have hol := Lib.hid hrg.1.1
      have hrp := Lib.hid hrg.2.1
      have hval := Lib.hid (cntF_is ho.out hx hja hd12)
      have hready := Lib.hid (ho.out.ready t x hx _ (tgts_at hja))
      have hxi : x < (n : Int) := by omega
      have hb1w : b1 < w.heap.size := by omega
      have hb1w' : b1 < (w.alloc (.cells #[.int .i64 u, .slice (some ⟨b1, f1, none⟩) n c] 84 (0, 0))).heap.size := by simp; omega
      clear hof hr0 hmap hcs hrg hja hb0 hd12 hd6
      have s0 : (w.alloc (.cells #[.int .i64 u, .slice (some ⟨b1, f1, none⟩) n c] 84 (0, 0))).cell? ⟨w.heap.size, 0, none⟩ = some (.int .i64 u) := by rw [Go.Joins.cell_of_block (heap_alloc_new w _)]; rfl
      have s1 : (w.alloc (.cells #[.int .i64 u, .slice (some ⟨b1, f1, none⟩) n c] 84 (0, 0))).cell? ⟨w.heap.size, 1, none⟩ = some (.slice (some ⟨b1, f1, none⟩) n c) := by rw [Go.Joins.cell_of_block (heap_alloc_new w _)]; rfl
      have hsz1 : w.heap.size < (w.alloc (.cells #[.int .i64 u, .slice (some ⟨b1, f1, none⟩) n c] 84 (0, 0))).heap.size := by simp
      have hg1 : w.grownBy (w.alloc (.cells #[.int .i64 u, .slice (some ⟨b1, f1, none⟩) n c] 84 (0, 0))) (some bm) := World.grownBy_alloc _ _ _
      have hr1 : GsRd (w.alloc (.cells #[.int .i64 u, .slice (some ⟨b1, f1, none⟩) n c] 84 (0, 0))) lo hi (some ⟨b1, f1, none⟩) n L := hr.out.frame good_glyph (SameB.alloc (SameB.refl lo hi w) hhi _)
      replace hr1 := Lib.hid hr1
      generalize hW1 : w.alloc (.cells #[.int .i64 u, .slice (some ⟨b1, f1, none⟩) n c] 84 (0, 0)) = W1 at *
      go_enter Try.func150, Try.ntmps150
      go_wp2_with (at_lookup; refine wpList_lookup_f_ok rfl _ _ _ rfl 2 keyI Try.underlying175 0 (zeroI64 _) rfl hmap1.out rfl hkey.out 0 hgd.out false hgs.out ?_; dsimp only [intE])
      clear q0 q1 q2 q3 q4 q5 q6 hgd hgs
      replace hW1 := Lib.hid hW1
      have hg2 : W1.grownBy (W1.alloc (.cells #[.string d.name, .int .i64 d.code, .int .i64 d.adv, .slice hh.out.A hh.out.n hh.out.c, .slice hh.parts.A hh.parts.n hh.parts.c, .slice hh.anchors.A hh.anchors.n hh.anchors.c, .string d.hints] 72 (0, 0))) (some bm) := World.grownBy_alloc _ _ _
      have hm2 := Lib.hid (hmap1.out.alloc (.cells #[.string d.name, .int .i64 d.code, .int .i64 d.adv, .slice hh.out.A hh.out.n hh.out.c, .slice hh.parts.A hh.parts.n hh.parts.c, .slice hh.anchors.A hh.anchors.n hh.anchors.c, .string d.hints] 72 (0, 0)))
      generalize W1.alloc (.cells #[.string d.name, .int .i64 d.code, .int .i64 d.adv, .slice hh.out.A hh.out.n hh.out.c, .slice hh.parts.A hh.parts.n hh.parts.c, .slice hh.anchors.A hh.anchors.n hh.anchors.c, .string d.hints] 72 (0, 0)) = W2 at hg2 hm2 ⊢
      go_loopw [33, 10] (fun i s wr => ∃ (j : Nat) (f' : Lit → Option Int) (y : Int), i = .int .i64 j ∧ j ≤ hh.parts.n ∧ s = .int .i64 y ∧ y = cntM (cntF L out) hh.out.n (d.parts.take j) ∧ MapF intE wr Try.prog 2 bm 40 f' ∧ MemOk (cntF L out) n f' ∧ W2.grownBy wr (some bm)) (fun i s wr => hh.parts.n - (intOf i).toNat)
      case atStart => exact ⟨0, f, _, rfl, Nat.zero_le _, rfl, rfl, hm2.out, hmem.out, World.grownBy.refl _ _⟩
      case round =>
        clear hm2
        obtain ⟨j, f', y, rfl, hj, rfl, hy, hm, hme, hg3⟩ := hrel
        have hgW := grown_trans hg2 hg3
        have hgw := grown_trans hg1 hgW
        have hszr := hgW.size
        have hyb := cnt_M (cntF L out) hh.out.n (d.parts.take j) (by omega) (fun q _ => (cntF_bd L out q.1).1)
        have hyb2 := cntS_bd (cntF L out) hh.out.n (d.parts.take j) 13 (fun q _ => cntF_bd L out q.1)
        rw [← hy] at hyb
        have hy0 : 0 ≤ y ∧ y ≤ 13 := by omega
        clear hyb hyb2
        replace hme := Lib.hid hme
        replace hy := Lib.hid hy
        have s0r := (grown_cellN hgW (x := w.heap.size) (o := 0) hsz1 (by omega)).trans s0
        have s1r := (grown_cellN hgW (x := w.heap.size) (o := 1) hsz1 (by omega)).trans s1
        have hszr' : w.heap.size < wr.heap.size := by omega
        have hsb : SameB lo hi W1 wr := grown_sameB hgW (by omega) (.inr hb)
        by_cases hjl : j < hh.parts.n
        · obtain ⟨p1, g1, ⟨y0, y1, y2⟩, hA, _, hpw, hjb, hcs⟩ := (hrp.out.frame (good_flat _) hsb).at hjl
          have q0 := hcs 0 _ rfl
          have q1 := hcs 1 _ rfl
          have q2 := hcs 2 _ rfl
          simp only [Nat.add_zero] at q0 q1 q2
          have hpw' : p1 < wr.heap.size := by omega
          have hmemp := hready.out y0 (List.mem_map_of_mem (f := (·.1)) (List.mem_of_getElem? hjb))
          obtain ⟨sN, hsN⟩ := List.getElem?_of_mem hmemp
          have hst : sN < t := by
            have := (List.getElem?_eq_some_iff.1 hsN).1
            rw [List.length_take] at this; omega
          rw [List.getElem?_take_of_lt hst] at hsN
          have hcall := Lib.hid (ih.out sN hst y0 f' (wr.alloc (.cells #[.int .i64 y0, .int .i64 y1, .int .i64 y2] 150 (0, 0))) hsN (hm.alloc _) hme.out ((hr1.out.frame good_glyph hsb).frame good_glyph (SameB.alloc (SameB.refl lo hi wr) (by omega) _)) (by simp; omega))
          have hzb := cntF_bd L out y0
          have hyn := Lib.hid (show cntM (cntF L out) hh.out.n (d.parts.take (j + 1)) = min (y + cntF L out y0) 13 by rw [take_snocG hjb, cntM_snoc, hy.out])
          rw [hA]
          replace hA := Lib.hid hA
          replace hsN := Lib.hid hsN
          have hji : (0 : Int) ≤ (j : Int) ∧ (j : Int) < (hh.parts.n : Int) := by omega
          clear hcs hjb hmemp
          go_wp2_with fail
          refine hcall.out.mono ?_
          rintro e w4 ⟨f2, rfl, hm4, hme4, hg4⟩
          have hg5 := grown_trans hg3 (grown_trans (World.grownBy_alloc wr _ _) hg4)
          replace hme4 := Lib.hid hme4
          replace hm4 := Lib.hid hm4
          generalize cntF L out y0 = z at hzb hyn ⊢
          go_wp2_with fail
          go_roundw
          case rel => exact ⟨j + 1, f2, _, by go_num, by omega, rfl, by rw [hyn.out]; split <;> omega, hm4.out, hme4.out, hg5⟩
          case measure => simp [intOf]; omega
        · have hjn : j = hh.parts.n := by omega
          have hfull : d.parts.take j = d.parts := List.take_of_length_le (by rw [hrp.out.1]; omega)
          have hyx : y = cntF L out x := by rw [hval.out, hy.out, hfull, hol.out]
          replace hfull := Lib.hid hfull
          replace hjn := Lib.hid hjn
          replace hyx := Lib.hid hyx
          go_wp2_with (at_mapUpdate; refine wpList_mapUpdate_f rfl _ _ _ _ rfl 2 keyI Try.underlying175 rfl hm (by unfold maxLen; omega) rfl hkey.out y rfl ?_; intro w5 hm5 hg5)
          go_ret
          have hmx : MemOk (cntF L out) n (putF f' (.int .i64 x) y) := by rw [hyx.out]; exact hme.out.put hx0 hxi
          exact ⟨_, by rw [← hyx.out]; rfl, hm5.tight keyI (fun kl hk => by
            obtain ⟨v, hv⟩ := Option.isSome_iff_exists.1 hk
            obtain ⟨i, hi, e, _⟩ := hmx kl v hv
            exact ⟨i, by omega, e⟩), hmx, grown_trans hgw hg5⟩
end Go.Proofs.Ytpjmpbdbfldnaaa
