/- A set's text read, the reference's side. Printed by mk_rss.py. Conditions: as each states. -/
import Derived.Test.YtgdkabljgabjoaaGreatDoorRb44
namespace Go.Proofs.YtgdkabljgabjoaaGreatDoor
open Go.RowKit
set_option linter.unusedVariables false
set_option maxRecDepth 100000
set_option maxRecDepth 100000

theorem sub_sum (L : List (List UInt8)) (f k : Nat) : (((L.drop f).take k).map List.length).sum ≤ (L.map List.length).sum := by
  have h1 := take_le (L.drop f) k
  have h2 : ((L.drop f).map List.length).sum ≤ (L.map List.length).sum := by
    conv => rhs; rw [← List.take_append_drop f L]
    rw [List.map_append, List.sum_append]; omega
  omega
theorem sub_get {L : List (List UInt8)} {f k j : Nat} {l : List UInt8} (h : ((L.drop f).take k)[j]? = some l) : L[f + j]? = some l := by
  have hj := (List.getElem?_eq_some_iff.1 h).1
  rw [List.length_take] at hj
  rw [List.getElem?_take] at h
  rw [if_pos (by omega), List.getElem?_drop] at h
  exact h
theorem sub_is {L : List Gl} {k f : Nat} {g : Gl} {a : List UInt8} (hg : L[k]? = some g) (hf : f = fromL L k) : ((a :: (L.flatMap glLines ++ [[]])).drop f).take (glLines g).length = glLines g := by
  apply List.ext_getElem?
  intro j
  by_cases hj : j < (glLines g).length
  · rw [List.getElem?_take, if_pos hj, List.getElem?_drop, hf]
    exact sub_at hg j hj
  · rw [List.getElem?_eq_none (by rw [List.length_take]; omega), List.getElem?_eq_none (by omega)]
/-- where a reader of a set's lines stands, for each set that has the text -/
def StandS (s : ByteArray) (u : Int) (o : Bool) (L : List Gl) (f i : Nat) : Prop := ∀ d, setOk d = true → s.data.toList = setT d → o = true ∧ d.unit = u ∧ ∃ k, Stand d.gl k f i ∧ L = d.gl.take k
theorem stands_skip {s : ByteArray} {u : Int} {L : List Gl} {f i : Nat} {ws : List (List UInt8)} {l : List UInt8} (h : StandS s u true L f i) (hws : ws = splitF 10 s.data.toList) (hl : ws[i]? = some l) (hne : l ≠ endW) : StandS s u true L f (i + 1) := fun d h1 h2 => by
  obtain ⟨e0, e1, k, ⟨e2, e3⟩, e4⟩ := h d h1 h2
  refine ⟨e0, e1, k, ⟨e2, ?_⟩, e4⟩
  rcases e3 with ⟨g, e5, e6, e7⟩ | ⟨e5, e6⟩
  · left
    refine ⟨g, e5, by omega, ?_⟩
    rw [hws, h2, set_split h1] at hl
    have h3 := sub_at (a := unitW d.unit) e5 (i - f) (by omega)
    rw [show fromL d.gl k + (i - f) = i by omega] at h3
    rw [h3] at hl
    have := (end_at hl).2 hne
    omega
  · exact .inr ⟨e5, by omega⟩
theorem stands_piece {s : ByteArray} {u : Int} {L : List Gl} {f i : Nat} {ws : List (List UInt8)} {l : List UInt8} (h : StandS s u true L f i) (hws : ws = splitF 10 s.data.toList) (hl : ws[i]? = some l) (he : l = endW) : ∀ d, setOk d = true → s.data.toList = setT d → ∃ g, glyphOk g = true ∧ (ws.drop f).take (i + 1 - f) = glLines g ∧ d.unit = u ∧ ∃ k, L ++ [g] = d.gl.take (k + 1) ∧ Stand d.gl (k + 1) (i + 1) (i + 1) := fun d h1 h2 => by
  obtain ⟨e0, e1, k, ⟨e2, e3⟩, e4⟩ := h d h1 h2
  have hsp : ws = unitW d.unit :: (d.gl.flatMap glLines ++ [[]]) := by rw [hws, h2]; exact set_split h1
  rcases e3 with ⟨g, e5, e6, e7⟩ | ⟨e5, e6⟩
  · have h3 := sub_at (a := unitW d.unit) e5 (i - f) (by omega)
    rw [show fromL d.gl k + (i - f) = i by omega, ← hsp, hl] at h3
    have h4 := (end_at h3.symm).1 he
    refine ⟨g, (setOk_gl h1).2.2 g (List.mem_of_getElem? e5), ?_, e1, k, by rw [e4, take_next e5], ?_⟩
    · rw [show i + 1 - f = (glLines g).length by omega, hsp]
      exact sub_is e5 e2
    · have h5 := stand_next e5 e2
      rwa [show f + (glLines g).length = i + 1 by omega] at h5
  · exfalso
    have h3 := fromL_all e5
    have h4 := (List.getElem?_eq_some_iff.1 hl).1
    rw [hsp] at h4 hl
    simp only [List.length_cons, List.length_append, List.length_nil] at h4
    have h5 : i = (d.gl.flatMap glLines).length + 1 := by omega
    rw [h5, List.getElem?_cons_succ, List.getElem?_append_right (Nat.le_refl _), Nat.sub_self] at hl
    rw [he] at hl
    simp [endW] at hl
theorem stands_end {s : ByteArray} {u : Int} {L : List Gl} {f i : Nat} {ws : List (List UInt8)} (h : StandS s u true L f i) (hws : ws = splitF 10 s.data.toList) (hi : ws.length ≤ i) : ∀ d, setOk d = true → s.data.toList = setT d → u = d.unit ∧ L = d.gl := fun d h1 h2 => by
  obtain ⟨e0, e1, k, ⟨e2, e3⟩, e4⟩ := h d h1 h2
  refine ⟨e1.symm, ?_⟩
  rw [hws, h2, set_split h1] at hi
  simp only [List.length_cons, List.length_append, List.length_nil] at hi
  rcases e3 with ⟨g, e5, e6, e7⟩ | ⟨e5, e6⟩
  · have h3 := fromL_next e5
    have h4 := fromL_le (L := d.gl) (k := k + 1)
    omega
  · rw [e4, List.take_of_length_le e5]
set_option maxHeartbeats 16000000 in
theorem specReadSet_any (s : ByteArray) (w : World) (hs : s.size ≤ 1048576) :
    Calls Tryz.prog 11 #[.string s] w fun e w' => RSPost s w e w' := by
  have hbb : Below w.heap.size w (w.alloc (.cells #[.int .i64 0, .slice none 0 0] 36 (0, 0))) := Go.Joins.below_alloc1 _ _
  have hR0 := Lib.hid (heap_alloc_new w (.cells #[.int .i64 0, .slice none 0 0] 36 (0, 0)))
  have hz0 : w.heap.size < (w.alloc (.cells #[.int .i64 0, .slice none 0 0] 36 (0, 0))).heap.size := by simp
  have hB0 := Lib.hid hbb
  have hcs := Lib.hid (fun W => l01Split_any s 10 W hs)
  have hsl := splitF_len 10 s.data.toList
  have hsm := split_sum 10 _ s.data.toList (Nat.le_refl _)
  have hmm := splitF_mem 10 s.data.toList
  have hsz : s.data.toList.length = s.size := by simp
  clear hbb
  go_enter Tryz.func11, Tryz.ntmps11
  go_upto_region 1 with fail
  generalize w.alloc (.cells #[.int .i64 0, .slice none 0 0] 36 (0, 0)) = w0 at *
  obtain ⟨ws, hws⟩ : ∃ ws, ws = splitF 10 s.data.toList := ⟨_, rfl⟩
  have hpos : 0 < ws.length := by rw [hws]; exact List.length_pos_iff.2 (splitF_ne 10 _)
  rw [← hws] at hcs hsl hsm hmm
  rw [hsz] at hsl hsm hmm
  replace hws := Lib.hid hws
  clear hsz
  go_wp2_with fail
  refine (hcs.out _).mono ?_
  rintro e w1 ⟨A1, c1, m, hm, rfl, hown, hb1⟩
  obtain ⟨g, rfl, hg1, hg2, hnc, hcell, _⟩ := own_at hown (by omega)
  have hW1 : ∀ (j : Nat) (l : List UInt8), ws[j]? = some l → w1.cell? ⟨g, j, none⟩ = some (.string ⟨l.toArray⟩) := fun j l hj => by
    have hjl := (List.getElem?_eq_some_iff.1 hj).1
    have := hcell j (by omega)
    rw [this]
    simpa [strV] using hj
  have hz1 := hb1.size
  have hR1 := Lib.hid ((hb1.block _ hz0).trans hR0.out)
  have hB1 := Lib.hid (hB0.out.trans (hb1.mono (Nat.le_of_lt hz0)))
  have hm0 : 0 < m := by omega
  have hm0i : (0 : Int) < (m : Int) := by omega
  have hmb : m ≤ 1048577 := by omega
  obtain ⟨l0, hl0⟩ : ∃ l, ws[0]? = some l := ⟨_, List.getElem?_eq_getElem (by omega)⟩
  have q0 := hW1 0 l0 hl0
  have hl0m := hmm l0 (List.mem_of_getElem? hl0)
  have hc2 := Lib.hid (fun W => l01Split_any ⟨l0.toArray⟩ 32 W (by show l0.length ≤ 1048576; omega))
  obtain ⟨us, hus⟩ : ∃ us, us = splitF 32 l0 := ⟨_, rfl⟩
  have hum := Lib.hid (splitF_mem 32 l0)
  have hup : 0 < us.length := by rw [hus]; exact List.length_pos_iff.2 (splitF_ne 32 _)
  rw [← hus] at hum
  replace hc2 : Hid (∀ (W : World), Calls Tryz.prog 27 #[.string ⟨l0.toArray⟩, .int .u8 (32 : UInt8).toNat] W fun e w' => ∃ (A : Option Addr) (c n : Nat), n = us.length ∧ e = .returned (.slice A n c) ∧ w'.ownsRow W.heap.size 9 1 (.slice A n c) n (strV us) ∧ Below W.heap.size W w') := by
    rw [hus]; exact hc2
  have hud : Hid (∀ d, setOk d = true → s.data.toList = setT d → us = [[117, 110, 105, 116], decL d.unit]) := fun d h1 h2 => by
    have h3 := hl0
    rw [hws.out, h2, set_split h1] at h3
    injection h3 with h3
    rw [hus, ← h3, unit_words]
  replace hus := Lib.hid hus
  replace hm := Lib.hid hm
  replace hsm := Lib.hid hsm
  replace hmm := Lib.hid hmm
  replace hW1 := Lib.hid hW1
  clear hcs hown hcell hb1 hR0 hB0 hpos hsl
  go_upto_region 2 with fail
  go_wp2_with fail
  refine (hc2.out _).mono ?_
  rintro e w2 ⟨A2, c2, m2, hm2, rfl, hown, hb2⟩
  obtain ⟨g2, rfl, hg3, hg4, _, hcell, _⟩ := own_at hown (by omega)
  have hU : Hid (∀ (j : Nat) (l : List UInt8), us[j]? = some l → w2.cell? ⟨g2, j, none⟩ = some (.string ⟨l.toArray⟩)) := fun j l hj => by
    have hjl := (List.getElem?_eq_some_iff.1 hj).1
    have := hcell j (by omega)
    rw [this]
    simpa [strV] using hj
  have hz2 := hb2.size
  have hR2 := Lib.hid ((hb2.block w.heap.size (by omega)).trans hR1.out)
  have hG2 := Lib.hid (hb2.block g hg2)
  have hB2 := Lib.hid (hB1.out.trans (hb2.mono (by omega)))
  obtain ⟨r0, r1, rf, rl⟩ := set_two hR2.out
  subst hm2
  clear hown hcell hb2 hR1 hB1 hc2 q0
  by_cases h2 : us.length = 2
  rotate_left
  · have t4 : ((us.length : Int) != 2) = true := by simp; omega
    have hno : Hid (∀ d, setOk d = true → s.data.toList ≠ setT d) := fun d h1 h3 => by
      have h4 := hud.out d h1 h3
      rw [h4] at h2; exact h2 rfl
    clear hud h2 hU
    go_wp2_with fail
    exact bodyPost_ret (v := .tuple #[.agg #[.int .i64 0, .slice none 0 0], .bool false]) (by simp [results, Tryz.results11, go_sem, r0, r1]) rfl (rs_no hno.out ((hB2.out.setCell (p := ⟨w.heap.size, 0, none⟩) (Nat.le_refl _) _).setCell (p := ⟨w.heap.size, 1, none⟩) (Nat.le_refl _) _))
  obtain ⟨k, a, rfl⟩ : ∃ k a, us = [k, a] := by match us, h2 with | [k, a], _ => exact ⟨k, a, rfl⟩
  have q0 := hU.out 0 k rfl
  have q1 := hU.out 1 a rfl
  by_cases hk : k = [117, 110, 105, 116]
  rotate_left
  · have t5 : (k == [117, 110, 105, 116]) = false := by rw [beq_eq_false_iff_ne]; exact hk
    have hno : Hid (∀ d, setOk d = true → s.data.toList ≠ setT d) := fun d h1 h3 => by
      have h4 := hud.out d h1 h3
      injection h4 with h4 _
      exact hk h4
    clear hud h2 hU hk q1
    go_wp2_with fail
    exact bodyPost_ret (v := .tuple #[.agg #[.int .i64 0, .slice none 0 0], .bool false]) (by simp [results, Tryz.results11, go_sem, r0, r1]) rfl (rs_no hno.out ((hB2.out.setCell (p := ⟨w.heap.size, 0, none⟩) (Nat.le_refl _) _).setCell (p := ⟨w.heap.size, 1, none⟩) (Nat.le_refl _) _))
  subst hk
  have hal := hum.out a (by simp)
  have hd1 := Lib.hid (fun W => l01Number_any ⟨a.toArray⟩ W (by show a.length ≤ 1048576; omega))
  clear r0 r1 rf rl h2 hU hum hup
  go_upto_region 5 with fail
  go_wp2_with fail
  refine (hd1.out _).mono ?_
  intro e w3 hA
  obtain ⟨u, t0, rfl, hut, hb3⟩ := rd_form hA
  have hz3 := hb3.size
  have hbb : Below w3.heap.size w3 (w3.alloc (.cells #[.int .i64 u, .slice none 0 0] 36 (0, 0))) := Go.Joins.below_alloc1 _ _
  have hX4 := Lib.hid (heap_alloc_new w3 (.cells #[.int .i64 u, .slice none 0 0] 36 (0, 0)))
  have hz4 := Lib.hid (show w3.heap.size + 1 = (w3.alloc (.cells #[.int .i64 u, .slice none 0 0] 36 (0, 0))).heap.size by simp)
  have hR4 := Lib.hid ((hbb.block w.heap.size (by omega)).trans ((hb3.block w.heap.size (by omega)).trans hR2.out))
  have hG4 := Lib.hid ((hbb.block g (by omega)).trans ((hb3.block g (by omega)).trans hG2.out))
  have hB4 := Lib.hid ((hB2.out.trans (hb3.mono (by omega))).trans (hbb.mono (by omega)))
  have hst : Hid (StandS s u t0 [] 1 1) := fun d h1 h3 => by
    have h4 := hud.out d h1 h3
    injection h4 with _ h4
    injection h4 with h4 _
    have h5 := isDec_of (n := d.unit) h4 (by have := (setOk_gl h1).1; omega)
    rcases hut with ⟨rfl, hu⟩ | ⟨_, hu⟩
    · exact ⟨rfl, IsDec.unique h5 hu, 0, Stand.start _, by simp⟩
    · exact absurd h5 (hu _)
  clear hA hb3 hbb hd1 hut hud hR2 hB2 hG2 q0 q1
  go_upto_region 7 with fail
  generalize w3.alloc (.cells #[.int .i64 u, .slice none 0 0] 36 (0, 0)) = w4 at *
  obtain ⟨X, hX⟩ : ∃ X, X = w3.heap.size := ⟨_, rfl⟩
  rw [← hX] at hX4 hz4 hz3 ⊢
  replace hX := Lib.hid hX
  have hz4' := hz4.out
  have hgX : g < X := by omega
  have hwX : w.heap.size < X := by omega
  go_wp2_with fail
  go_loopw [7, 9, 10] (fun ov fv iv wr => ∃ (o : Bool) (f i : Nat) (L : List Gl) (A : Option Addr) (n c : Nat) (ys : List Value) (hs : Nat → GlH) (iw : Nat → Nat × Nat), ov = .bool o ∧ fv = .int .i64 f ∧ iv = .int .i64 i ∧ 1 ≤ f ∧ f ≤ i ∧ i ≤ m ∧ n ≤ i ∧ wr.heap[X]? = some (.cells #[.int .i64 u, .slice A n c] 36 (0, 0)) ∧ GsX wr (X + 1) wr.heap.size A n c L ys hs iw ∧ (∀ g ∈ L, RdG g) ∧ StandS s u o L f i ∧ wr.heap[g]? = w1.heap[g]? ∧ wr.heap[w.heap.size]? = some (.cells #[.int .i64 0, .slice none 0 0] 36 (0, 0)) ∧ X + 1 ≤ wr.heap.size ∧ Below w.heap.size w wr) (fun ov fv iv wr => m - (intOf iv).toNat)
  case atStart => exact ⟨t0, 1, 1, [], none, 0, 0, [], fun _ => nilH0, fun _ => (0, 0), rfl, rfl, rfl, Nat.le_refl _, Nat.le_refl _, hm0, by omega, hX4.out, GsX.none _ _ _ 0 _ _, fun g hg => (by cases hg), hst.out, hG4.out, hR4.out, by omega, hB4.out⟩
  case round =>
    clear hX4 hG4 hR4 hB4 hst
    obtain ⟨o, f, i, L, A, n, c, ys, hs', iw, rfl, rfl, rfl, hf1, hfi, him, hni, hXr, hgx, hLg, hst, hGr, hRr, hzr, hbel⟩ := hrel
    obtain ⟨r0, r1, rf, rl⟩ := set_two hRr
    obtain ⟨x0, x1, xf, xl⟩ := set_two hXr
    replace hXr := Lib.hid hXr
    replace hRr := Lib.hid hRr
    replace hGr := Lib.hid hGr
    replace hgx := Lib.hid hgx
    replace hLg := Lib.hid hLg
    have hgr : g < wr.heap.size := by omega
    cases o
    · have hno : Hid (∀ d, setOk d = true → s.data.toList ≠ setT d) := fun d h1 h2 => by
        have := (hst d h1 h2).1
        first | exact this.elim | cases this
      clear hst
      by_cases hlt : i < m
      · have hti : (i : Int) < (m : Int) := by omega
        go_wp2_with fail
        exact bodyPost_ret (v := .tuple #[.agg #[.int .i64 0, .slice none 0 0], .bool false]) (by simp [results, Tryz.results11, go_sem, r0, r1]) rfl (rs_no hno.out ((hbel.setCell (p := ⟨w.heap.size, 0, none⟩) (Nat.le_refl _) _).setCell (p := ⟨w.heap.size, 1, none⟩) (Nat.le_refl _) _))
      · have hti : ¬ (i : Int) < (m : Int) := by omega
        go_wp2_with fail
        exact bodyPost_ret (v := .tuple #[.agg #[.int .i64 0, .slice none 0 0], .bool false]) (by simp [results, Tryz.results11, go_sem, r0, r1]) rfl (rs_no hno.out ((hbel.setCell (p := ⟨w.heap.size, 0, none⟩) (Nat.le_refl _) _).setCell (p := ⟨w.heap.size, 1, none⟩) (Nat.le_refl _) _))
    by_cases hlt : i < m
    rotate_left
    · have hti : ¬ (i : Int) < (m : Int) := by omega
      have hend := Lib.hid (stands_end hst hws.out (by have := hm.out; omega))
      have hgc := hgx.out.rdc (fun g hg => (hLg.out g hg).1.outSm)
      have hsmall : ∀ g ∈ L, g.small 1000000000 := fun g hg => ((hLg.out g hg).1.smallR).mono (by omega)
      have hstr : ∀ g ∈ L, g.str := fun g hg => (hLg.out g hg).2
      have hv1 := Lib.hid (l17Ok_any X 0 u A n c (X + 1) wr.heap.size L _ rfl wr xl x0 x1 (GsRc.rd hgc) (Nat.le_refl _) (by omega) hsmall hstr)
      clear hst hsmall hstr
      go_wp2_with fail
      refine hv1.out.mono ?_
      rintro e w5 ⟨rfl, hb5⟩
      have hz5 := hb5.size
      have hX5 := (hb5.block X xl).trans hXr.out
      have hR5 := (hb5.block _ rl).trans hRr.out
      have hB5 := Lib.hid (hbel.trans (hb5.mono hbel.size))
      have hg5 := Lib.hid (hgx.out.same (Below.sameB hb5 (Nat.le_refl _)))
      have hgc5 := Lib.hid (hgc.frame good_glyphc (Below.sameB hb5 (Nat.le_refl _)))
      clear x0 x1 xf xl r0 r1 rf rl hv1 hb5 hgc
      obtain ⟨r0, r1, rf, rl⟩ := set_two hR5
      obtain ⟨x0, x1, xf, xl⟩ := set_two hX5
      cases hv : setOk ⟨u, L⟩
      · have hno : Hid (∀ d, setOk d = true → s.data.toList ≠ setT d) := fun d h1 h2 => by
          obtain ⟨e1, e2⟩ := hend.out d h1 h2
          rw [e1, e2] at hv
          have : setOk d = false := hv
          rw [this] at h1; cases h1
        replace hv := Lib.hid hv
        clear hend
        go_wp2_with fail
        exact bodyPost_ret (v := .tuple #[.agg #[.int .i64 0, .slice none 0 0], .bool false]) (by simp [results, Tryz.results11, go_sem, r0, r1]) rfl (rs_no hno.out ((hB5.out.setCell (p := ⟨w.heap.size, 0, none⟩) (Nat.le_refl _) _).setCell (p := ⟨w.heap.size, 1, none⟩) (Nat.le_refl _) _))
      have hv2 := Lib.hid (l17SetText_any X 0 ⟨u, L⟩ A n c (X + 1) wr.heap.size (setOk_is hv) w5 xl x0 x1 (GsRc.rd hgc5.out) hz5)
      replace hv := Lib.hid hv
      obtain ⟨G, hG⟩ : ∃ G, G = bS (setT ⟨u, L⟩) := ⟨_, rfl⟩
      rw [← hG] at hv2
      replace hG := Lib.hid hG
      go_wp2_with fail
      refine hv2.out.mono ?_
      rintro e w6 ⟨rfl, hb6⟩
      have hz6 := hb6.size
      have hX6 := (hb6.block X xl).trans hX5
      have hR6 := (hb6.block _ rl).trans hR5
      have hB6 := Lib.hid (hB5.out.trans (hb6.mono hB5.out.size))
      have hg6 := Lib.hid (hg5.out.same (Below.sameB hb6 (by omega)))
      clear x0 x1 xf xl r0 r1 rf rl hv2 hX5 hR5 hb6 hg5 hgc5
      obtain ⟨r0, r1, rf, rl⟩ := set_two hR6
      obtain ⟨x0, x1, xf, xl⟩ := set_two hX6
      have hne1 : ¬ X = w.heap.size := by omega
      have hne2 : ¬ w.heap.size = X := by omega
      by_cases hGs : G = s
      · have t9 : (G.toList == s.toList) = true := by rw [hGs]; simp
        have hyes : Hid (s.data.toList = setT ⟨u, L⟩) := by
          show s.data.toList = _
          rw [← hGs, hG.out, bS_data]
        clear hGs
        go_wp2_with fail
        refine bodyPost_ret (v := .tuple #[.agg #[.int .i64 u, .slice A n c], .bool true]) (by simp [results, Tryz.results11, go_sem, r0, r1]) rfl ⟨u, L, A, n, c, ys, hs', iw, true, rfl, .inl ⟨rfl, hv.out, hyes.out⟩, fun d h1 h2 => ⟨rfl, hend.out d h1 h2⟩, ?_, (hB6.out.setCell (p := ⟨w.heap.size, 0, none⟩) (Nat.le_refl _) _).setCell (p := ⟨w.heap.size, 1, none⟩) (Nat.le_refl _) _⟩
        exact (hg6.out.same (((SameB.refl _ _ w6).setCell (.inl (by show w.heap.size < X + 1; omega)) _).setCell (.inl (by show w.heap.size < X + 1; omega)) _)).wide (by omega) (by simp; omega)
      · have t9 : (G.toList == s.toList) = false := by
          rw [beq_eq_false_iff_ne]
          intro h1
          rw [ByteArray.toList_eq, ByteArray.toList_eq] at h1
          exact hGs (by rw [mk_bytes (nm := G), mk_bytes (nm := s), h1])
        have hno : Hid (∀ d, setOk d = true → s.data.toList ≠ setT d) := fun d h1 h2 => by
          obtain ⟨e1, e2⟩ := hend.out d h1 h2
          apply hGs
          rw [hG.out, e1, e2, mk_bytes (nm := s), h2]; rfl
        clear hGs hend
        go_wp2_with fail
        exact bodyPost_ret (v := .tuple #[.agg #[.int .i64 0, .slice none 0 0], .bool false]) (by simp [results, Tryz.results11, go_sem, r0, r1]) rfl (rs_no hno.out ((hB6.out.setCell (p := ⟨w.heap.size, 0, none⟩) (Nat.le_refl _) _).setCell (p := ⟨w.heap.size, 1, none⟩) (Nat.le_refl _) _))
    have hti : (i : Int) < (m : Int) := by omega
    have hti0 : (0 : Int) ≤ (i : Int) ∧ (i : Int) < (m : Int) := by omega
    obtain ⟨l, hl⟩ : ∃ l, ws[i]? = some l := ⟨_, List.getElem?_eq_getElem (by have := hm.out; omega)⟩
    have q0 : wr.cell? ⟨g, i, none⟩ = some (.string ⟨l.toArray⟩) := (World.cell?_of_block hGr.out).trans (hW1.out i l hl)
    by_cases he : l = endW
    rotate_left
    · have t5 : (l == [101, 110, 100]) = false := by rw [beq_eq_false_iff_ne]; exact he
      have hnx := Lib.hid (stands_skip hst hws.out hl he)
      clear hst hl he x0 x1 xf xl r0 r1 rf rl
      go_wp2_with fail
      go_roundw
      case rel => exact ⟨true, f, i + 1, L, A, n, c, ys, hs', iw, rfl, rfl, by go_num, hf1, by omega, by omega, by omega, hXr.out, hgx.out, hLg.out, hnx.out, hGr.out, hRr.out, hzr, hbel⟩
      case measure => simp [intOf]; omega
    have hpz := Lib.hid (stands_piece hst hws.out hl he)
    subst he
    have t5 : (endW == [101, 110, 100]) = true := rfl
    have hlp := Lib.hid (fun (W : World) (hW : Below wr.heap.size wr W) => l17Read_any g f (i + 1 - f) (c1 - f) ((ws.drop f).take (i + 1 - f)) W (by have := hm.out; rw [List.length_take, List.length_drop]; omega) (Nat.lt_of_lt_of_le hgr hW.size) (fun j l hj => (hW.cell (p := ⟨g, f + j, none⟩) hgr).trans ((World.cell?_of_block hGr.out).trans (hW1.out (f + j) l (sub_get hj)))) (Nat.le_trans (sub_sum ws f (i + 1 - f)) (by have := hsm.out; omega)) (by omega))
    have hsa : (0 : Int) ≤ (f : Int) ∧ (f : Int) ≤ (i : Int) + 1 := by omega
    have hsb : (0 : Int) ≤ (i : Int) + 1 ∧ (i : Int) + 1 ≤ (c1 : Int) := by omega
    have hcf : ¬ c1 = f := by omega
    clear hst hl
    go_upto_region 12 with fail
    go_wp2_with fail
    refine (hlp.out wr (Below.refl _ _)).mono ?_
    rintro e w6 ⟨d, h, t, rfl, hcase, huniq, hx6, hb6⟩
    have hz6 := hb6.size
    have hdg : RdG d := by
      rcases hcase with ⟨_, h1⟩ | ⟨_, rfl⟩
      · exact rdG_ok h1
      · exact rdG_0
    have hbb : Below w6.heap.size w6 (w6.alloc (.cells #[.string d.name, .int .i64 d.code, .int .i64 d.adv, .slice h.out.A h.out.n h.out.c, .slice h.parts.A h.parts.n h.parts.c, .slice h.anchors.A h.anchors.n h.anchors.c, .string d.hints] 28 (0, 0))) := Go.Joins.below_alloc1 _ _
    have hbw : Below wr.heap.size wr (w6.alloc (.cells #[.string d.name, .int .i64 d.code, .int .i64 d.adv, .slice h.out.A h.out.n h.out.c, .slice h.parts.A h.parts.n h.parts.c, .slice h.anchors.A h.anchors.n h.anchors.c, .string d.hints] 28 (0, 0))) := hb6.trans (hbb.mono hz6)
    have hZ7 := heap_alloc_new w6 (.cells #[.string d.name, .int .i64 d.code, .int .i64 d.adv, .slice h.out.A h.out.n h.out.c, .slice h.parts.A h.parts.n h.parts.c, .slice h.anchors.A h.anchors.n h.anchors.c, .string d.hints] 28 (0, 0))
    have hz7 : w6.heap.size + 1 = (w6.alloc (.cells #[.string d.name, .int .i64 d.code, .int .i64 d.adv, .slice h.out.A h.out.n h.out.c, .slice h.parts.A h.parts.n h.parts.c, .slice h.anchors.A h.anchors.n h.anchors.c, .string d.hints] 28 (0, 0))).heap.size := by simp
    have hK7 : Hid (∀ b, b < wr.heap.size → (w6.alloc (.cells #[.string d.name, .int .i64 d.code, .int .i64 d.adv, .slice h.out.A h.out.n h.out.c, .slice h.parts.A h.parts.n h.parts.c, .slice h.anchors.A h.anchors.n h.anchors.c, .string d.hints] 28 (0, 0))).heap[b]? = wr.heap[b]?) := fun b hb => hbw.block b hb
    have hB7 := Lib.hid (hbel.trans (hbw.mono hbel.size))
    have hx7 := Lib.hid (hx6.same (Below.sameB hbb (Nat.le_refl _)))
    have hst : Hid (StandS s u t (L ++ [d]) (i + 1) (i + 1)) := fun d0 h1 h2 => by
      obtain ⟨g0, h3, h4, h5, k, h6, h7⟩ := hpz.out d0 h1 h2
      obtain ⟨h8, rfl⟩ := huniq g0 h3 h4
      exact ⟨h8, h5, k + 1, h7, h6⟩
    replace hbw := Lib.hid hbw
    clear x0 x1 xf xl r0 r1 rf rl hcase huniq hx6 hb6 hbb hlp hpz q0
    go_upto_region 14 with fail
    generalize w6.alloc (.cells #[.string d.name, .int .i64 d.code, .int .i64 d.adv, .slice h.out.A h.out.n h.out.c, .slice h.parts.A h.parts.n h.parts.c, .slice h.anchors.A h.anchors.n h.anchors.c, .string d.hints] 28 (0, 0)) = w7 at *
    have hRr7 := (hK7.out w.heap.size (by omega)).trans hRr.out
    have hXr7 := (hK7.out X (by omega)).trans hXr.out
    obtain ⟨x0, x1, xf, xl⟩ := set_two hXr7
    obtain ⟨G, hG⟩ : ∃ G, G = w6.heap.size := ⟨_, rfl⟩
    rw [← hG] at hZ7 hz7 hz6 hx7 ⊢
    replace hG := Lib.hid hG
    have y0 : w7.cell? ⟨G, 0, none⟩ = some (.string d.name) := by rw [Go.Joins.cell_of_block hZ7]; rfl
    have y1 : w7.cell? ⟨G, 1, none⟩ = some (.int .i64 d.code) := by rw [Go.Joins.cell_of_block hZ7]; rfl
    have y2 : w7.cell? ⟨G, 2, none⟩ = some (.int .i64 d.adv) := by rw [Go.Joins.cell_of_block hZ7]; rfl
    have y3 : w7.cell? ⟨G, 3, none⟩ = some (.slice h.out.A h.out.n h.out.c) := by rw [Go.Joins.cell_of_block hZ7]; rfl
    have y4 : w7.cell? ⟨G, 4, none⟩ = some (.slice h.parts.A h.parts.n h.parts.c) := by rw [Go.Joins.cell_of_block hZ7]; rfl
    have y5 : w7.cell? ⟨G, 5, none⟩ = some (.slice h.anchors.A h.anchors.n h.anchors.c) := by rw [Go.Joins.cell_of_block hZ7]; rfl
    have y6 : w7.cell? ⟨G, 6, none⟩ = some (.string d.hints) := by rw [Go.Joins.cell_of_block hZ7]; rfl
    have yl : G < w7.heap.size := by omega
    have hown := Lib.hid (own_below hgx.out.2.1 hbw.out)
    have hob : Hid (∀ b, (Value.slice A n c).ownBlock = some b → X + 1 ≤ b ∧ b < wr.heap.size) := hgx.out.2.1.lt
    have hnb : n ≤ 1048577 := by omega
    replace hXr7 := Lib.hid hXr7
    replace hRr7 := Lib.hid hRr7
    clear hZ7
    go_wp2_with (at_builtin; refine wpAppAt rfl (.tmp 63) (.tmp 65) elemGlyph rfl (v := .slice A n c) (n := n) (xs := ys) rfl (hown.out.alloc _) rfl (src_at (cs := [.string d.name, .int .i64 d.code, .int .i64 d.adv, .slice h.out.A h.out.n h.out.c, .slice h.parts.A h.parts.n h.parts.c, .slice h.anchors.A h.anchors.n h.anchors.c, .string d.hints]) rfl (by simp [Value.oneCell']) (by simp)) (by omega) (by omega) (by simp; omega) (n + 1) rfl ?_; intro A8 c8 w8 ho8 hg8 hn8; have hk8 : ∀ b, b < w7.heap.size → (b ≤ X ∨ wr.heap.size ≤ b) → w8.heap[b]? = w7.heap[b]? := (fun b hb hor => (hg8.block b (by simp; omega) (fun e => by have := hob.out b e.symm; omega)).trans (Below.heap_alloc _ _ _ hb)); have x8 : w8.cell? ⟨X, 1, none⟩ = some (.slice A n c) := (World.cell?_of_block (hk8 X (by omega) (.inl (Nat.le_refl _)))).trans x1; have f8 : ∀ o, w8.frozen? ⟨X, o, none⟩ = false := (fun o => (World.frozen?_of_block (hk8 X (by omega) (.inl (Nat.le_refl _)))).trans (xf o)); have hg8z := hg8.size; replace hk8 := Lib.hid hk8; replace ho8 := Lib.hid ho8; replace hg8 := Lib.hid hg8; replace hn8 := Lib.hid hn8)
    go_roundw
    case rel =>
      have hz8 : w7.heap.size + 1 ≤ w8.heap.size := by simpa using hg8z
      obtain ⟨ys9, hs9, iv9, hgn⟩ : ∃ ys9 hs9 iv9, GsX w8 (X + 1) w8.heap.size A8 (n + 1) c8 (L ++ [d]) ys9 hs9 iv9 := ⟨_, _, _, GsX.next hgx.out hzr (hbw.out.trans ((Go.Joins.below_alloc1 w7 (.cells #[.string d.name, .int .i64 d.code, .int .i64 d.adv, .slice h.out.A h.out.n h.out.c, .slice h.parts.A h.parts.n h.parts.c, .slice h.anchors.A h.anchors.n h.anchors.c, .string d.hints] 28 (0, 0))).mono hbw.out.size)) (hx7.out.same (Below.sameB (Go.Joins.below_alloc1 w7 _) (by omega))) hz6 (by simp; omega) ho8.out hg8.out (hn8.out.imp id fun e => ⟨_, by (simp; omega), e⟩)⟩
      refine ⟨t, i + 1, i + 1, L ++ [d], A8, n + 1, c8, ys9, hs9, iv9, rfl, by go_num, by go_num, by omega, Nat.le_refl _, by omega, by omega, Go.Joins.block_setCell ((hk8.out X (by omega) (.inl (Nat.le_refl _))).trans hXr7.out) (i := 1) _, ?_, fun g' hg' => ?_, hst.out, ?_, ?_, by simp; omega, ?_⟩
      · rw [show (w8.setCell ⟨X, 1, none⟩ (.slice A8 (n + 1) c8)).heap.size = w8.heap.size by simp]
        exact hgn.same (SameB.setCell (p := ⟨X, 1, none⟩) (SameB.refl _ _ w8) (.inl (Nat.lt_succ_self X)) _)
      · rcases List.mem_append.1 hg' with h1 | h1
        · exact hLg.out g' h1
        · rw [List.mem_singleton.1 h1]; exact hdg
      · exact (Below.heap_setCell _ _ _ _ (by show g ≠ X; omega)).trans ((hk8.out _ (by omega) (.inl (by omega))).trans ((hK7.out g hgr).trans hGr.out))
      · exact (Below.heap_setCell _ _ _ _ (by show w.heap.size ≠ X; omega)).trans ((hk8.out _ (by omega) (.inl (by omega))).trans hRr7.out)
      · exact ((hB7.out.alloc (by omega) _).grown hg8.out (by simp; omega) (fun b hb => by have := (hob.out b hb).1; omega)).setCell (p := ⟨X, 1, none⟩) (by show w.heap.size ≤ X; omega) _
    case measure => simp [intOf]; omega
end Go.Proofs.YtgdkabljgabjoaaGreatDoor

