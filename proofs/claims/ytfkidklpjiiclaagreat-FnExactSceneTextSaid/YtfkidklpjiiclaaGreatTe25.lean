/- Slices of glyphs: the laws' copy and comparison. Conditions: as each states. -/
import Derived.Test.YtfkidklpjiiclaaGreatTe24
import Derived.Test.YtfkidklpjiiclaaGreatTe11
import Derived.Test.YtfkidklpjiiclaaGreatTe07
namespace Go.Proofs.YtfkidklpjiiclaaGreat
open Go.RowKit
set_option linter.unusedVariables false
set_option maxRecDepth 100000

theorem infoGlyph : (Tryz.prog.info? 58).map (fun i => (i.zero, i.size, i.bytes)) = some (some (.agg #[.string ⟨#[]⟩, .int .i64 0, .int .i64 0, .slice none 0 0, .slice none 0 0, .slice none 0 0, .string ⟨#[]⟩]), 7, 120) := by kernel_rfl

/-- the first k glyphs stand in the row ys -/
def GlTo (w : World) (lo : Nat) (L : List Gl) (k : Nat) (ys : List Value) : Prop := ∀ (j : Nat) (g : Gl), j < k → L[j]? = some g → ∃ hh : GlH, (∀ i u, (glC g hh)[i]? = some u → ys[j * 7 + i]? = some u) ∧ GlRd w lo w.heap.size g hh ∧ hh.anchors.n ≤ hh.anchors.c
theorem GlTo.kept {w w' : World} {lo k : Nat} {L : List Gl} {ys : List Value} (h : GlTo w lo L k ys) (hs : SameB lo w.heap.size w w') (hz : w.heap.size ≤ w'.heap.size) : GlTo w' lo L k ys := fun j g hj hg => by
  obtain ⟨hh, h1, h2, h3⟩ := h j g hj hg
  exact ⟨hh, h1, (h2.frame hs).wide (Nat.le_refl _) hz, h3⟩
def set7 (ys : List Value) (m : Nat) (v0 v1 v2 v3 v4 v5 v6 : Value) : List Value := ((((((ys.set m v0).set (m + 1) v1).set (m + 2) v2).set (m + 3) v3).set (m + 4) v4).set (m + 5) v5).set (m + 6) v6
theorem set7_ne {ys : List Value} {m j : Nat} {v0 v1 v2 v3 v4 v5 v6 : Value} (h : j < m ∨ m + 7 ≤ j) : (set7 ys m v0 v1 v2 v3 v4 v5 v6)[j]? = ys[j]? := by
  unfold set7
  rw [List.getElem?_set_ne (by omega), List.getElem?_set_ne (by omega), List.getElem?_set_ne (by omega), List.getElem?_set_ne (by omega), List.getElem?_set_ne (by omega), List.getElem?_set_ne (by omega), List.getElem?_set_ne (by omega)]
theorem set7_at {ys : List Value} {m i : Nat} {u v0 v1 v2 v3 v4 v5 v6 : Value} (hl : m + 7 ≤ ys.length) (h : [v0, v1, v2, v3, v4, v5, v6][i]? = some u) : (set7 ys m v0 v1 v2 v3 v4 v5 v6)[m + i]? = some u := by
  unfold set7
  match i, h with
  | 0, h => simp at h; subst h; rw [show m + 0 = m from rfl, List.getElem?_set_ne (by omega), List.getElem?_set_ne (by omega), List.getElem?_set_ne (by omega), List.getElem?_set_ne (by omega), List.getElem?_set_ne (by omega), List.getElem?_set_ne (by omega), List.getElem?_set_self (by omega)]
  | 1, h => simp at h; subst h; rw [List.getElem?_set_ne (by omega), List.getElem?_set_ne (by omega), List.getElem?_set_ne (by omega), List.getElem?_set_ne (by omega), List.getElem?_set_ne (by omega), List.getElem?_set_self (by simp only [List.length_set]; omega)]
  | 2, h => simp at h; subst h; rw [List.getElem?_set_ne (by omega), List.getElem?_set_ne (by omega), List.getElem?_set_ne (by omega), List.getElem?_set_ne (by omega), List.getElem?_set_self (by simp only [List.length_set]; omega)]
  | 3, h => simp at h; subst h; rw [List.getElem?_set_ne (by omega), List.getElem?_set_ne (by omega), List.getElem?_set_ne (by omega), List.getElem?_set_self (by simp only [List.length_set]; omega)]
  | 4, h => simp at h; subst h; rw [List.getElem?_set_ne (by omega), List.getElem?_set_ne (by omega), List.getElem?_set_self (by simp only [List.length_set]; omega)]
  | 5, h => simp at h; subst h; rw [List.getElem?_set_ne (by omega), List.getElem?_set_self (by simp only [List.length_set]; omega)]
  | 6, h => simp at h; subst h; rw [List.getElem?_set_self (by simp only [List.length_set]; omega)]
theorem glTo_next {w w1 w2 : World} {X k : Nat} {L : List Gl} {ys : List Value} {d : Gl} {h' : GlH} (h : GlTo w (X + 1) L k ys) (hd : L[k]? = some d) (hX : X < w.heap.size) (hb : Below w.heap.size w w1) (hr : GlRd w1 w.heap.size w1.heap.size d h') (hcp : h'.anchors.n ≤ h'.anchors.c) (hs : SameB (X + 1) w1.heap.size w1 w2) (hz : w1.heap.size ≤ w2.heap.size) (hl : k * 7 + 7 ≤ ys.length) :
    GlTo w2 (X + 1) L (k + 1) (set7 ys (k * 7) (.string d.name) (.int .i64 d.code) (.int .i64 d.adv) (.slice h'.out.A h'.out.n h'.out.c) (.slice h'.parts.A h'.parts.n h'.parts.c) (.slice h'.anchors.A h'.anchors.n h'.anchors.c) (.string d.hints)) := by
  have hz1 := hb.size
  intro j g hj hg
  by_cases hjk : j = k
  · subst hjk
    have e := Option.some.inj (hd.symm.trans hg)
    subst e
    exact ⟨h', fun i u hu => set7_at hl hu, (hr.wide (by omega) (Nat.le_refl _) |>.frame hs).wide (Nat.le_refl _) hz, hcp⟩
  · obtain ⟨hh, h1, h2, h3⟩ := h j g (by omega) hg
    refine ⟨hh, fun i u hu => ?_, (((h2.frame (Below.sameB hb (Nat.le_refl _))).wide (Nat.le_refl _) hz1).frame hs).wide (Nat.le_refl _) hz, h3⟩
    rw [set7_ne]
    · exact h1 i u hu
    · have hi : i < 7 := by
        rcases Nat.lt_or_ge i 7 with h | h
        · exact h
        · rw [List.getElem?_eq_none (by simp [glC]; omega)] at hu; cases hu
      left
      have : j * 7 + 7 ≤ k * 7 := by omega
      omega

set_option maxHeartbeats 4000000 in
theorem toGlyphS_rd (A : Option Addr) (n c lo hi : Nat) (L : List Gl) (w : World) (hr : GsRd w lo hi A n L) (hhi : hi ≤ w.heap.size) (hn : n ≤ 1048576 ∧ ∀ g ∈ L, g.small 1048576) :
    Calls Tryz.prog 60 #[.slice A n c] w fun e w' => ∃ A' c', e = .returned (.slice A' n c') ∧ GsRc w' w.heap.size w'.heap.size A' n L ∧ Below w.heap.size w w' := by
  obtain ⟨i0, hi0, hz0, hs0, hby0⟩ := info_parts infoGlyph
  obtain ⟨hn, hm⟩ := hn
  have hll := Lib.hid hr.1
  replace hr := Lib.hid hr
  replace hm := Lib.hid hm
  go_enter Tryz.func60, Tryz.ntmps60
  go_wp2_with (at_make; refine wpList_make_full _ rfl _ _ 49 rfl w.heap.size 58 i0 (.agg #[.string ⟨#[]⟩, .int .i64 0, .int .i64 0, .slice none 0 0, .slice none 0 0, .slice none 0 0, .string ⟨#[]⟩]) 7 Tryz.underlying49 hi0 hz0 hs0 .i64 .i64 _ _ n rfl rfl rfl rfl (by rw [hby0]; omega) (by unfold maxLen; omega) (Nat.le_refl _) ?_; intro w0 hown0 hg0)
  have hb0 : Below w.heap.size w w0 := (Below.refl _ _).grown hg0 (Nat.le_refl _) (by simp)
  clear hg0
  go_loopw [4] (fun i wr => ∃ (k : Nat) (ys : List Value), i = .int .i64 k ∧ k ≤ n ∧ wr.ownsRow w.heap.size 58 7 (.slice (some ⟨w.heap.size, 0, none⟩) n n) n ys ∧ GlTo wr (w.heap.size + 1) L k ys ∧ Below w.heap.size w wr) (fun i wr => n - (intOf i).toNat)
  case atStart => exact ⟨0, _, rfl, Nat.zero_le _, hown0, fun j g hj => absurd hj (Nat.not_lt_zero j), hb0⟩
  case round =>
    clear hown0 hb0
    obtain ⟨k, ys, rfl, hk, ho, hto, hbel⟩ := hrel
    replace hto := Lib.hid hto
    have hX : w.heap.size < wr.heap.size := (ho.lt _ rfl).2
    by_cases hlt : k < n
    · obtain ⟨b, off, d, hh, rfl, hb0, hb, hja, hcs, hrd⟩ := gs_at (hr.out.frame good_glyph (Below.sameB hbel hhi)) hlt
      have q0 := hcs 0 _ rfl
      have q1 := hcs 1 _ rfl
      have q2 := hcs 2 _ rfl
      have q3 := hcs 3 _ rfl
      have q4 := hcs 4 _ rfl
      have q5 := hcs 5 _ rfl
      have q6 := hcs 6 _ rfl
      simp only [Nat.add_zero] at q0 q1 q2 q3 q4 q5 q6
      have hbw : b < wr.heap.size := by omega
      have hsm := hm.out d (List.mem_of_getElem? hja)
      have hcall := Lib.hid (toGlyph_any d hh lo hi wr hrd (by omega) hsm)
      clear hcs hrd hsm hb0 hb
      replace hja := Lib.hid hja
      replace ho := Lib.hid ho
      go_wp2_with (go_at_call 23; refine hcall.out.mono ?_; rintro e w1 ⟨h', rfl, hrd', hb1, hcp⟩; have ho1 := own_below ho.out hb1; obtain ⟨g, hg, _, hglt, _, hcell, hfr⟩ := own_at ho1 (by omega); injection hg with hg; injection hg with hg; subst hg; have hyl := ho1.1; have c0 := hcell (k * 7) (by omega); have c1 := hcell (k * 7 + 1) (by omega); have c2 := hcell (k * 7 + 2) (by omega); have c3 := hcell (k * 7 + 3) (by omega); have c4 := hcell (k * 7 + 4) (by omega); have c5 := hcell (k * 7 + 5) (by omega); have c6 := hcell (k * 7 + 6) (by omega); rw [List.getElem?_eq_getElem (by omega)] at c0 c1 c2 c3 c4 c5 c6; have f0 := hfr (k * 7); have f1 := hfr (k * 7 + 1); have f2 := hfr (k * 7 + 2); have f3 := hfr (k * 7 + 3); have f4 := hfr (k * 7 + 4); have f5 := hfr (k * 7 + 5); have f6 := hfr (k * 7 + 6); clear hcell hfr; replace ho1 := Lib.hid ho1; replace hyl := Lib.hid hyl; generalize ys[k * 7]'(by have := hyl.out; omega) = v0 at c0; generalize ys[k * 7 + 1]'(by have := hyl.out; omega) = v1 at c1; generalize ys[k * 7 + 2]'(by have := hyl.out; omega) = v2 at c2; generalize ys[k * 7 + 3]'(by have := hyl.out; omega) = v3 at c3; generalize ys[k * 7 + 4]'(by have := hyl.out; omega) = v4 at c4; generalize ys[k * 7 + 5]'(by have := hyl.out; omega) = v5 at c5; generalize ys[k * 7 + 6]'(by have := hyl.out; omega) = v6 at c6; replace hrd' := Lib.hid hrd')
      go_roundw
      case rel =>
        have hyl := ho1.out.1
        have hz1 := hb1.size
        refine ⟨k + 1, _, by go_num, by omega, (((((((ho1.out.stored (k * 7) (.string d.name)).1.stored (k * 7 + 1) (.int .i64 d.code)).1.stored (k * 7 + 2) (.int .i64 d.adv)).1.stored (k * 7 + 3) (.slice h'.out.A h'.out.n h'.out.c)).1.stored (k * 7 + 4) (.slice h'.parts.A h'.parts.n h'.parts.c)).1.stored (k * 7 + 5) (.slice h'.anchors.A h'.anchors.n h'.anchors.c)).1.stored (k * 7 + 6) (.string d.hints)).1, ?_, ((((((((hbel.trans (hb1.mono hbel.size)).setCell (Nat.le_refl _) _).setCell (Nat.le_refl _) _).setCell (Nat.le_refl _) _).setCell (Nat.le_refl _) _).setCell (Nat.le_refl _) _).setCell (Nat.le_refl _) _).setCell (Nat.le_refl _) _)⟩
        refine glTo_next hto.out hja.out hX hb1 hrd'.out hcp ?_ (by simp) (by omega)
        repeat (first | refine SameB.setCell ?_ (.inl (by simp)) _ | exact SameB.refl _ _ _)
      case measure => simp [intOf]; omega
    · have hkn : k = n := by omega
      replace hkn := Lib.hid hkn
      replace ho := Lib.hid ho
      go_wp2_with fail
      go_ret
      refine ⟨_, _, rfl, ⟨hll.out, fun h0 => ⟨w.heap.size, 0, rfl, Nat.le_refl _, hX, fun j g hj => ?_⟩⟩, hbel⟩
      have hjl := (List.getElem?_eq_some_iff.1 hj).1
      have hl' := hll.out
      obtain ⟨hh, h1, h2, h3⟩ := hto.out j g (by rw [hkn.out]; omega) hj
      refine ⟨glC g hh, rfl, fun i u hu => ?_, hh, rfl, h2.wide (by omega) (Nat.le_refl _), h3⟩
      have hi : i < 7 := by
        rcases Nat.lt_or_ge i 7 with h | h
        · exact h
        · rw [List.getElem?_eq_none (by simp [glC]; omega)] at hu; cases hu
      have h3 := ho.out.cellAt (j * 7 + i) (by omega)
      rw [h1 i u hu] at h3
      rw [Nat.zero_add]
      exact h3

set_option maxRecDepth 100000 in
set_option maxHeartbeats 2000000 in
theorem eqGlyphS_rd (A A' : Option Addr) (n c n' c' lo hi lo' hi' : Nat) (L : List Gl) (w : World) (h1 : GsRd w lo hi A n L) (h2 : GsRd w lo' hi' A' n' L) (hh1 : hi ≤ w.heap.size) (hh2 : hi' ≤ w.heap.size) (hn : n ≤ 100000000 ∧ ∀ g ∈ L, g.small 100000000) :
    Calls Tryz.prog 88 #[.slice A n c, .slice A' n' c'] w fun e w' => e = .returned (.bool true) ∧ Below w.heap.size w w' := by
  obtain rfl : n = n' := h1.1.symm.trans h2.1
  obtain ⟨hn, hm⟩ := hn
  replace h1 := Lib.hid h1
  replace h2 := Lib.hid h2
  replace hm := Lib.hid hm
  go_enter Tryz.func88, Tryz.ntmps88
  go_wp2_with fail
  go_loopw [5] (fun i wr => ∃ k : Nat, i = .int .i64 k ∧ k ≤ n ∧ Below w.heap.size w wr) (fun i wr => n - (intOf i).toNat)
  case atStart => exact ⟨0, rfl, Nat.zero_le _, Below.refl _ _⟩
  case round =>
    obtain ⟨k, rfl, hk, hbel⟩ := hrel
    have hsz := hbel.size
    by_cases hlt : k < n
    · obtain ⟨b, off, d, x1, rfl, hb0, hb, hja, hcs, hr1⟩ := gs_at (h1.out.frame good_glyph (Below.sameB hbel hh1)) hlt
      obtain ⟨b', off', d', x2, rfl, hb0', hb', hja', hcs', hr2⟩ := gs_at (h2.out.frame good_glyph (Below.sameB hbel hh2)) hlt
      have hdd := Option.some.inj (hja.symm.trans hja')
      subst hdd
      have hsm := hm.out d (List.mem_of_getElem? hja)
      have q0 := hcs 0 _ rfl
      have p0 := hcs' 0 _ rfl
      have q1 := hcs 1 _ rfl
      have p1 := hcs' 1 _ rfl
      have q2 := hcs 2 _ rfl
      have p2 := hcs' 2 _ rfl
      have q3 := hcs 3 _ rfl
      have p3 := hcs' 3 _ rfl
      have q4 := hcs 4 _ rfl
      have p4 := hcs' 4 _ rfl
      have q5 := hcs 5 _ rfl
      have p5 := hcs' 5 _ rfl
      have q6 := hcs 6 _ rfl
      have p6 := hcs' 6 _ rfl
      simp only [Nat.add_zero] at q0 q1 q2 q3 q4 q5 q6 p0 p1 p2 p3 p4 p5 p6
      have hcall := Lib.hid (fun W (hB : SameB 0 wr.heap.size wr W) (hs : wr.heap.size ≤ W.heap.size) => eqGlyph_any d x1 x2 lo hi lo' hi' W (hr1.frame (hB.mono (Nat.zero_le _) (by omega))) (hr2.frame (hB.mono (Nat.zero_le _) (by omega))) (by omega) (by omega) hsm)
      have hbw : b < wr.heap.size := by omega
      have hbw' : b' < wr.heap.size := by omega
      clear hcs hcs' hr1 hr2 hja hja' hb0 hb0' hb hb' hsz hh1 hh2 h1 h2 hsm
      have hi : (0 : Int) ≤ (k : Int) ∧ (k : Int) < (n : Int) := by omega
      go_wp2_with fail
      go_still_tail 8, (by kernel_rfl)
      go_wp2_with (go_at_call 39; refine (hcall.out _ (SameB.refl _ _ wr).drew (Nat.le_refl _)).mono ?_; rintro e w1 ⟨rfl, hb1⟩)
      go_roundw
      case rel => exact ⟨k + 1, by go_num, by omega, hbel.drew.trans (hb1.mono (by simp; exact hbel.size))⟩
      case measure => simp [intOf]; omega
    · go_wp2_with fail
      go_ret
      exact ⟨rfl, hbel⟩
end Go.Proofs.YtfkidklpjiiclaaGreat

/- The laws' own functions on a GlyphSet: the copy, the comparison. Conditions: as each states. -/
namespace Go.Proofs.YtfkidklpjiiclaaGreat
open Go.RowKit
set_option linter.unusedVariables false
set_option maxRecDepth 100000

set_option maxHeartbeats 4000000 in
theorem toGlyphSet_any (d : GSet) (h : GSetH) (lo hi : Nat) (w : World) (hr : GSetRd w lo hi d h) (hhi : hi ≤ w.heap.size) (hm : d.small 1048576) :
    Calls Tryz.prog 22 #[gsV d h] w fun e w' => ∃ h' : GSetH, e = .returned (gsV d h') ∧ GSetRc w' w.heap.size w'.heap.size d h' ∧ Below w.heap.size w w' := by
  have hr0 := hr; clear hr
  have hm0 := Lib.hid (hm.gl (n := h.gl.n) hr0.1)
  clear hm
  replace hr0 := Lib.hid hr0
  go_enter Tryz.func22, Tryz.ntmps22
  go_wp2_with fail
  refine (toGlyphS_rd _ _ _ lo hi d.gl _ (hr0.out.frame good_glyph (Below.sameB (B := w.heap.size) (w := w) (by repeat (first | refine Below.setCell ?_ (by first | omega | (simp <;> omega)) _ | refine Below.alloc ?_ (by first | omega | (simp <;> omega)) _ | exact Below.refl _ _)) hhi)) (by first | omega | (simp <;> omega)) hm0.out).mono ?_
  rintro e w1 ⟨A1, c1, rfl, ho1, hb1⟩
  have hz1 := hb1.size
  try simp at hz1
  have hB1 : Below w.heap.size w w1 := Below.trans (by repeat (first | refine Below.setCell ?_ (by first | omega | (simp <;> omega)) _ | refine Below.alloc ?_ (by first | omega | (simp <;> omega)) _ | exact Below.refl _ _)) (hb1.mono (by first | omega | (simp <;> omega)))
  have rd1 := Lib.hid (RdS.wide good_glyphc ho1 (lo' := w.heap.size + 3) (hi' := w1.heap.size) (by first | omega | (simp <;> omega)) (Nat.le_refl _))
  clear ho1
  have hnew := heap_new0 w (.cells #[.int .i64 d.unit, .slice h.gl.A h.gl.n h.gl.c] 29 (0, 0)) (.cells #[.int .i64 0, .slice none 0 0] 51 (0, 0)) (.cells #[.int .i64 d.unit, .slice none 0 0] 51 (0, 0))
  have HX1 : Hid (w1.heap[w.heap.size]? = some (.cells #[.int .i64 d.unit, .slice h.gl.A h.gl.n h.gl.c] 29 (0, 0))) := (hb1.block _ (by first | omega | (simp <;> omega))).trans hnew.1
  have HR1 : Hid (w1.heap[w.heap.size + 1]? = some (.cells #[.int .i64 0, .slice none 0 0] 51 (0, 0))) := (hb1.block _ (by first | omega | (simp <;> omega))).trans hnew.2.1
  have HO1 : Hid (w1.heap[w.heap.size + 2]? = some (.cells #[.int .i64 d.unit, .slice none 0 0] 51 (0, 0))) := (hb1.block _ (by first | omega | (simp <;> omega))).trans hnew.2.2
  clear hnew
  have co0 : w1.cell? ⟨w.heap.size + 2, 0, none⟩ = some (.int .i64 d.unit) := by rw [Go.Joins.cell_of_block HO1.out]; rfl
  have co1 : w1.cell? ⟨w.heap.size + 2, 1, none⟩ = some (.slice none 0 0) := by rw [Go.Joins.cell_of_block HO1.out]; rfl
  have fo : ∀ o, w1.frozen? ⟨w.heap.size + 2, o, none⟩ = false := Go.Joins.unfrozen_of_block HO1.out
  have cr0 : w1.cell? ⟨w.heap.size + 1, 0, none⟩ = some (.int .i64 0) := by rw [Go.Joins.cell_of_block HR1.out]; rfl
  have cr1 : w1.cell? ⟨w.heap.size + 1, 1, none⟩ = some (.slice none 0 0) := by rw [Go.Joins.cell_of_block HR1.out]; rfl
  have fr : ∀ o, w1.frozen? ⟨w.heap.size + 1, o, none⟩ = false := Go.Joins.unfrozen_of_block HR1.out
  clear hb1
  go_wp2_with fail
  have hfin : ∀ W', SameB (w.heap.size + 3) w1.heap.size w1 W' → w1.heap.size ≤ W'.heap.size → GSetRc W' w.heap.size W'.heap.size d ⟨⟨A1, h.gl.n, c1⟩⟩ := fun W' hs hz => (rd1.out.frame good_glyphc hs).wide good_glyphc (by omega) hz
  refine bodyPost_ret (v := .agg #[.int .i64 d.unit, .slice A1 h.gl.n c1]) (by simp [results, Tryz.results22, go_sem, cr0, cr1]) rfl ⟨⟨⟨A1, h.gl.n, c1⟩⟩, rfl, hfin _ ?_ (by simp), (by repeat (first | refine Below.setCell ?_ (by first | omega | (simp <;> omega)) _ | refine Below.alloc ?_ (by first | omega | (simp <;> omega)) _ | exact hB1))⟩
  repeat (first | refine SameB.setCell ?_ (.inl (by first | omega | (simp <;> omega))) _ | exact SameB.refl _ _ _)

set_option maxHeartbeats 4000000 in
theorem eqGlyphSet_any (d : GSet) (h h' : GSetH) (lo hi lo' hi' : Nat) (w : World) (hr : GSetRd w lo hi d h) (hr' : GSetRd w lo' hi' d h') (hhi : hi ≤ w.heap.size) (hhi' : hi' ≤ w.heap.size) (hm : d.small 100000000) :
    Calls Tryz.prog 38 #[gsV d h, gsV d h'] w fun e w' => e = .returned (.bool true) ∧ Below w.heap.size w w' := by
  have hr0 := hr; clear hr
  have hq0 := hr'; clear hr'
  have hm0 := Lib.hid (hm.gl (n := h.gl.n) hr0.1)
  clear hm
  replace hr0 := Lib.hid hr0
  replace hq0 := Lib.hid hq0
  go_enter Tryz.func38, Tryz.ntmps38
  go_wp2_with fail
  refine (eqGlyphS_rd _ _ _ _ _ _ lo hi lo' hi' d.gl _ (hr0.out.frame good_glyph (Below.sameB (B := w.heap.size) (w := w) (by repeat (first | refine Below.setCell ?_ (by first | omega | (simp <;> omega)) _ | refine Below.alloc ?_ (by first | omega | (simp <;> omega)) _ | exact Below.refl _ _)) hhi)) (hq0.out.frame good_glyph (Below.sameB (B := w.heap.size) (w := w) (by repeat (first | refine Below.setCell ?_ (by first | omega | (simp <;> omega)) _ | refine Below.alloc ?_ (by first | omega | (simp <;> omega)) _ | exact Below.refl _ _)) hhi')) (by first | omega | (simp <;> omega)) (by first | omega | (simp <;> omega)) hm0.out).mono ?_
  rintro e w1 ⟨rfl, hb1⟩
  have hz1 := hb1.size
  try simp at hz1
  have hB1 : Below w.heap.size w w1 := Below.trans (by repeat (first | refine Below.setCell ?_ (by first | omega | (simp <;> omega)) _ | refine Below.alloc ?_ (by first | omega | (simp <;> omega)) _ | exact Below.refl _ _)) (hb1.mono (by first | omega | (simp <;> omega)))
  have hnew := heap_new2 w (.cells #[.int .i64 d.unit, .slice h.gl.A h.gl.n h.gl.c] 51 (0, 0)) (.cells #[.int .i64 d.unit, .slice h'.gl.A h'.gl.n h'.gl.c] 51 (0, 0))
  have HX1 : Hid (w1.heap[w.heap.size]? = some (.cells #[.int .i64 d.unit, .slice h.gl.A h.gl.n h.gl.c] 51 (0, 0))) := (hb1.block _ (by first | omega | (simp <;> omega))).trans hnew.1
  have HY1 : Hid (w1.heap[w.heap.size + 1]? = some (.cells #[.int .i64 d.unit, .slice h'.gl.A h'.gl.n h'.gl.c] 51 (0, 0))) := (hb1.block _ (by first | omega | (simp <;> omega))).trans hnew.2
  clear hnew
  clear hb1
  go_wp2_with fail
  go_ret
  exact ⟨rfl, (by repeat (first | refine Below.setCell ?_ (by first | omega | (simp <;> omega)) _ | refine Below.alloc ?_ (by first | omega | (simp <;> omega)) _ | exact hB1))⟩
end Go.Proofs.YtfkidklpjiiclaaGreat

/- Systems: slices of rows in a struct; the laws' own functions on them, and those of pens, paths, regions, over heads. Printed by mk_scene.py. Conditions: as each states. -/
namespace Go.Proofs.YtfkidklpjiiclaaGreat
open Go.RowKit Go.ChangeShapes Go.WideShapes Go.Deep
set_option linter.unusedVariables false
set_option maxRecDepth 100000

abbrev SmL {α : Type} (f : α → Nat) (b : Nat) (L : List α) : Prop := L.length ≤ b ∧ ∀ g ∈ L, f g ≤ b
theorem SmL.mono {α : Type} {f : α → Nat} {a b : Nat} {L : List α} (h : SmL f a L) (hab : a ≤ b) : SmL f b L := ⟨Nat.le_trans h.1 hab, fun g hg => Nat.le_trans (h.2 g hg) hab⟩
abbrev rowLen (g : RowD) : Nat := g.L.length
abbrev penLen (g : NamedPenD) : Nat := g.L.length
abbrev pathLen (g : NamedPathD) : Nat := g.L.length
theorem szSystem_any (h : Hd) (lo hi : Nat) (L : List RowD) (left : Int) (w : World) (hr : rowsRd w lo hi h.A h.n L) (hhi : hi ≤ w.heap.size) (hs : ∀ g ∈ L, g.str) (hn : h.n ≤ 9223372036854775807) (h0 : 0 ≤ left) (h1 : left ≤ 1048576) :
    Calls Tryz.prog 12 #[.agg #[.slice h.A h.n h.c], .int .i64 left] w fun e w' => ∃ r : Int, e = .returned (.int .i64 r) ∧ (r < 0 ∨ 0 ≤ r ∧ r ≤ left ∧ SmL rowLen 1048576 L) ∧ Below w.heap.size w w' := by
  have hll := Lib.hid hr.1
  have hc := Lib.hid (fun o => szRowS_any h.A h.n h.c lo hi L left (w.alloc o) (hr.frame good_row (SameB.alloc (SameB.refl _ _ _) hhi _)) (by simp; omega) hs hn h0 h1)
  clear hr hs
  go_enter Tryz.func12, Tryz.ntmps12
  go_wp2_with fail
  refine (hc.out _).mono ?_
  rintro e w1 ⟨r, rfl, hl, hb1⟩
  have hB := (Go.Joins.below_alloc1 _ _).trans (hb1.mono (by simp))
  rcases hl with hl | ⟨hl0, hl1, hl2, hl3⟩
  · go_wp2_with fail
    go_ret
    exact ⟨_, rfl, .inl (by omega), hB⟩
  · replace hl3 := Lib.hid hl3
    go_wp2_with fail
    go_ret
    exact ⟨_, rfl, .inr ⟨hl0, hl1, by rw [hll.out]; exact hl2, hl3.out⟩, hB⟩

set_option maxHeartbeats 4000000 in
theorem toSystem_h (h : Hd) (L : List RowD) (lo hi : Nat) (w : World) (hr : rowsRd w lo hi h.A h.n L) (hhi : hi ≤ w.heap.size) (hm : SmL rowLen 1048576 L) :
    Calls Tryz.prog 19 #[.agg #[.slice h.A h.n h.c]] w fun e w' => ∃ h' : Hd, e = .returned (.agg #[.slice h'.A h'.n h'.c]) ∧ rowsRd w' w.heap.size w'.heap.size h'.A h'.n L ∧ Below w.heap.size w w' := by
  have hn : h.n ≤ 1048576 := by rw [← hr.1]; exact hm.1
  replace hr := Lib.hid hr
  replace hm := Lib.hid hm
  go_enter Tryz.func19, Tryz.ntmps19
  go_wp2_with fail
  refine (toRowS_rd _ _ _ lo hi L _ (hr.out.frame good_row (Below.sameB (B := w.heap.size) (w := w) (by repeat (first | refine Below.setCell ?_ (by simp <;> omega) _ | refine Below.alloc ?_ (by simp <;> omega) _ | exact Below.refl _ _)) hhi)) (by simp <;> omega) ⟨hn, hm.out.2⟩).mono ?_
  rintro e w1 ⟨A', c', rfl, ho, hb1⟩
  have hz1 := hb1.size
  try simp at hz1
  have hB1 : Below w.heap.size w w1 := Below.trans (by repeat (first | refine Below.setCell ?_ (by simp <;> omega) _ | refine Below.alloc ?_ (by simp <;> omega) _ | exact Below.refl _ _)) (hb1.mono (by simp <;> omega))
  have rd := Lib.hid (RdS.wide good_row ho (lo' := w.heap.size + 3) (hi' := w1.heap.size) (by simp <;> omega) (Nat.le_refl _))
  clear ho
  have hnew := heap_new0 w (.cells #[.slice h.A h.n h.c] 24 (0, 0)) (.cells #[.slice none 0 0] 46 (0, 0)) (.cells #[.slice none 0 0] 46 (0, 0))
  have HR : Hid (w1.heap[w.heap.size + 1]? = some (.cells #[.slice none 0 0] 46 (0, 0))) := (hb1.block _ (by simp <;> omega)).trans hnew.2.1
  have HO : Hid (w1.heap[w.heap.size + 2]? = some (.cells #[.slice none 0 0] 46 (0, 0))) := (hb1.block _ (by simp <;> omega)).trans hnew.2.2
  clear hnew hb1
  have co0 : w1.cell? ⟨w.heap.size + 2, 0, none⟩ = some (.slice none 0 0) := by rw [Go.Joins.cell_of_block HO.out]; rfl
  have cr0 : w1.cell? ⟨w.heap.size + 1, 0, none⟩ = some (.slice none 0 0) := by rw [Go.Joins.cell_of_block HR.out]; rfl
  have fo : ∀ o, w1.frozen? ⟨w.heap.size + 2, o, none⟩ = false := Go.Joins.unfrozen_of_block HO.out
  have fr : ∀ o, w1.frozen? ⟨w.heap.size + 1, o, none⟩ = false := Go.Joins.unfrozen_of_block HR.out
  go_wp2_with fail
  have hfin : ∀ W', SameB (w.heap.size + 3) w1.heap.size w1 W' → w1.heap.size ≤ W'.heap.size → rowsRd W' w.heap.size W'.heap.size A' h.n L := fun W' hs hz => (rd.out.frame good_row hs).wide good_row (by omega) hz
  refine bodyPost_ret (v := .agg #[.slice A' h.n c']) (by simp [results, Tryz.results19, go_sem, cr0]) rfl ⟨⟨A', h.n, c'⟩, rfl, hfin _ ?_ (by simp), by repeat (first | refine Below.setCell ?_ (by simp <;> omega) _ | exact hB1)⟩
  repeat (first | refine SameB.setCell ?_ (.inl (by simp <;> omega)) _ | exact SameB.refl _ _ _)

theorem eqSystem_h (h h' : Hd) (L : List RowD) (lo hi lo' hi' : Nat) (w : World) (h1 : rowsRd w lo hi h.A h.n L) (h2 : rowsRd w lo' hi' h'.A h'.n L) (hh1 : hi ≤ w.heap.size) (hh2 : hi' ≤ w.heap.size) (hm : SmL rowLen 100000000 L) :
    Calls Tryz.prog 35 #[.agg #[.slice h.A h.n h.c], .agg #[.slice h'.A h'.n h'.c]] w fun e w' => e = .returned (.bool true) ∧ Below w.heap.size w w' := by
  have hn : h.n ≤ 100000000 := by rw [← h1.1]; exact hm.1
  have hc := Lib.hid (fun a b => eqRowS_any h.A h'.A h.n h.c h'.n h'.c lo hi lo' hi' L ((w.alloc a).alloc b) (h1.frame good_row (((SameB.refl _ _ w).alloc hh1 _).alloc (by simp; omega) _)) (h2.frame good_row (((SameB.refl _ _ w).alloc hh2 _).alloc (by simp; omega) _)) (by simp; omega) (by simp; omega) ⟨hn, hm.2⟩)
  clear h1 h2 hm
  go_enter Tryz.func35, Tryz.ntmps35
  go_wp2_with fail
  refine (hc.out _ _).mono ?_
  rintro e w1 ⟨rfl, hb1⟩
  go_wp2_with fail
  go_ret
  exact ⟨rfl, (Go.Joins.below_alloc2 _ _ _).trans (hb1.mono (by simp; omega))⟩

theorem eqNamedPenS_h (h h' : Hd) (L : List NamedPenD) (lo hi lo' hi' : Nat) (w : World) (h1 : pensRd w lo hi h.A h.n L) (h2 : pensRd w lo' hi' h'.A h'.n L) (hh1 : hi ≤ w.heap.size) (hh2 : hi' ≤ w.heap.size) (hm : SmL penLen 100000000 L) :
    Calls Tryz.prog 36 #[.slice h.A h.n h.c, .slice h'.A h'.n h'.c] w fun e w' => e = .returned (.bool true) ∧ Below w.heap.size w w' :=
  eqNamedPenS_any _ _ _ _ _ _ lo hi lo' hi' L w h1 h2 hh1 hh2 ⟨by rw [← h1.1]; exact hm.1, hm.2⟩
theorem eqNamedPathS_h (h h' : Hd) (L : List NamedPathD) (lo hi lo' hi' : Nat) (w : World) (h1 : npathsRd w lo hi h.A h.n L) (h2 : npathsRd w lo' hi' h'.A h'.n L) (hh1 : hi ≤ w.heap.size) (hh2 : hi' ≤ w.heap.size) (hm : SmL pathLen 100000000 L) :
    Calls Tryz.prog 37 #[.slice h.A h.n h.c, .slice h'.A h'.n h'.c] w fun e w' => e = .returned (.bool true) ∧ Below w.heap.size w w' :=
  eqNamedPathS_any _ _ _ _ _ _ lo hi lo' hi' L w h1 h2 hh1 hh2 ⟨by rw [← h1.1]; exact hm.1, hm.2⟩
abbrev ringLen (g : List (Int × Int)) : Nat := g.length
theorem toRegion_h (h : Hd) (L : List (List (Int × Int))) (lo hi : Nat) (w : World) (hr : RegRd w lo hi h.A h.n L) (hhi : hi ≤ w.heap.size) (hm : SmL ringLen 1048576 L) :
    Calls Tryz.prog 24 #[.agg #[.slice h.A h.n h.c]] w fun e w' => ∃ h' : Hd, e = .returned (.agg #[.slice h'.A h'.n h'.c]) ∧ RegRd w' w.heap.size w'.heap.size h'.A h'.n L ∧ Below w.heap.size w w' :=
  (toRegion_any _ _ _ lo hi L w hr hhi (by rw [← hr.1]; exact hm.1) hm.2).mono fun e w' ⟨A', he, h1, h2⟩ => ⟨⟨A', h.n, h.n⟩, he, h1.rd (fun K hK => by have := hm.2 K hK; unfold maxLen; simp only [ringLen] at this; omega), h2⟩
theorem eqRegion_h (h h' : Hd) (L : List (List (Int × Int))) (lo hi lo' hi' : Nat) (w : World) (h1 : RegRd w lo hi h.A h.n L) (h2 : RegRd w lo' hi' h'.A h'.n L) (hh1 : hi ≤ w.heap.size) (hh2 : hi' ≤ w.heap.size) (hm : SmL ringLen 100000000 L) :
    Calls Tryz.prog 40 #[.agg #[.slice h.A h.n h.c], .agg #[.slice h'.A h'.n h'.c]] w fun e w' => e = .returned (.bool true) ∧ Below w.heap.size w w' :=
  eqRegion_any _ _ _ _ _ _ lo hi lo' hi' L w h1 h2 hh1 hh2 (by rw [← h1.1]; exact hm.1) hm.2
theorem eqGlyphSet_h (h h' : GSetH) (L : GSet) (lo hi lo' hi' : Nat) (w : World) (h1 : GSetRd w lo hi L h) (h2 : GSetRd w lo' hi' L h') (hh1 : hi ≤ w.heap.size) (hh2 : hi' ≤ w.heap.size) (hm : L.small 100000000) :
    Calls Tryz.prog 38 #[gsV L h, gsV L h'] w fun e w' => e = .returned (.bool true) ∧ Below w.heap.size w w' :=
  eqGlyphSet_any L h h' lo hi lo' hi' w h1 h2 hh1 hh2 hm
theorem eqGlyph_h (h h' : GlH) (L : Gl) (lo hi lo' hi' : Nat) (w : World) (h1 : GlRd w lo hi L h) (h2 : GlRd w lo' hi' L h') (hh1 : hi ≤ w.heap.size) (hh2 : hi' ≤ w.heap.size) (hm : L.small 100000000) :
    Calls Tryz.prog 39 #[glV L h, glV L h'] w fun e w' => e = .returned (.bool true) ∧ Below w.heap.size w w' :=
  eqGlyph_any L h h' lo hi lo' hi' w h1 h2 hh1 hh2 hm
end Go.Proofs.YtfkidklpjiiclaaGreat

