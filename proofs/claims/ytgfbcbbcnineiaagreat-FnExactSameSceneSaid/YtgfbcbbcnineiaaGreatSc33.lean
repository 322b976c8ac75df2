/- Slices of glyphs: the laws' copy and comparison. Conditions: as each states. -/
import Derived.Test.YtgfbcbbcnineiaaGreatSc32
namespace Go.Proofs.YtgfbcbbcnineiaaGreat
open Go.RowKit
set_option linter.unusedVariables false
set_option maxRecDepth 100000

theorem infoGlyph : (Tryz.prog.info? 58).map (fun i => (i.zero, i.size, i.bytes)) = some (some (.agg #[.string ⟨#[]⟩, .int .i64 0, .int .i64 0, .slice none 0 0, .slice none 0 0, .slice none 0 0, .string ⟨#[]⟩]), 7, 120) := by kernel_rfl

/-- the first k glyphs stand in the row ys -/
def GlTo (w : World) (lo : Nat) (L : List Gl) (k : Nat) (ys : List Value) : Prop := ∀ (j : Nat) (g : Gl), j < k → L[j]? = some g → ∃ hh : GlH, (∀ i u, (glC g hh)[i]? = some u → ys[j * 7 + i]? = some u) ∧ GlRd w lo w.heap.size g hh ∧ hh.anchors.n ≤ hh.anchors.c
theorem GlTo.kept {w w' : World} {lo k : Nat} {L : List Gl} {ys : List Value} (h : GlTo w lo L k ys) (hs : SameB lo w.heap.size w w') (hz : w.heap.size ≤ w'.heap.size) : GlTo w' lo L k ys := fun j g hj hg => by
  obtain ⟨hh, h1, h2, h3⟩ := h j g hj hg
  exact ⟨hh, h1, (h2.frame hs).wide (Nat.le_refl _) hz, h3⟩
def set7 (ys : List Value) (m : Nat) (v0 v1 v2 v3 v4 v5 v6 : Value) : List Value := ((((((ys.set m v0).set (m + 1) v1).set (m + 2) v2).set (m + 3) v3).set (m + 4) v4).set (m + 5) v5).set (m + 6) v6
theorem set7_ne {ys : List Value} {m j : Nat} {v0 v1 v2 v3 v4 v5 v6 : Value} (h : j < m ∨ m + 7 ≤ j) : (set7 ys m v0 v1 v2 v3 v4 v5 v6)[j]? = ys[j]? := by
  unfold set7
  rw [List.getElem?_set_ne (by omega), List.getElem?_set_ne (by omega), List.getElem?_set_ne (by omega), List.getElem?_set_ne (by omega), List.getElem?_set_ne (by omega), List.getElem?_set_ne (by omega), List.getElem?_set_ne (by omega)]
theorem set7_at {ys : List Value} {m i : Nat} {u v0 v1 v2 v3 v4 v5 v6 : Value} (hl : m + 7 ≤ ys.length) (h : [v0, v1, v2, v3, v4, v5, v6][i]? = some u) : (set7 ys m v0 v1 v2 v3 v4 v5 v6)[m + i]? = some u := by
  unfold set7
  match i, h with
  | 0, h => simp at h; subst h; rw [show m + 0 = m from rfl, List.getElem?_set_ne (by omega), List.getElem?_set_ne (by omega), List.getElem?_set_ne (by omega), List.getElem?_set_ne (by omega), List.getElem?_set_ne (by omega), List.getElem?_set_ne (by omega), List.getElem?_set_self (by omega)]
  | 1, h => simp at h; subst h; rw [List.getElem?_set_ne (by omega), List.getElem?_set_ne (by omega), List.getElem?_set_ne (by omega), List.getElem?_set_ne (by omega), List.getElem?_set_ne (by omega), List.getElem?_set_self (by simp only [List.length_set]; omega)]
  | 2, h => simp at h; subst h; rw [List.getElem?_set_ne (by omega), List.getElem?_set_ne (by omega), List.getElem?_set_ne (by omega), List.getElem?_set_ne (by omega), List.getElem?_set_self (by simp only [List.length_set]; omega)]
  | 3, h => simp at h; subst h; rw [List.getElem?_set_ne (by omega), List.getElem?_set_ne (by omega), List.getElem?_set_ne (by omega), List.getElem?_set_self (by simp only [List.length_set]; omega)]
  | 4, h => simp at h; subst h; rw [List.getElem?_set_ne (by omega), List.getElem?_set_ne (by omega), List.getElem?_set_self (by simp only [List.length_set]; omega)]
  | 5, h => simp at h; subst h; rw [List.getElem?_set_ne (by omega), List.getElem?_set_self (by simp only [List.length_set]; omega)]
  | 6, h => simp at h; subst h; rw [List.getElem?_set_self (by simp only [List.length_set]; omega)]
theorem glTo_next {w w1 w2 : World} {X k : Nat} {L : List Gl} {ys : List Value} {d : Gl} {h' : GlH} (h : GlTo w (X + 1) L k ys) (hd : L[k]? = some d) (hX : X < w.heap.size) (hb : Below w.heap.size w w1) (hr : GlRd w1 w.heap.size w1.heap.size d h') (hcp : h'.anchors.n ≤ h'.anchors.c) (hs : SameB (X + 1) w1.heap.size w1 w2) (hz : w1.heap.size ≤ w2.heap.size) (hl : k * 7 + 7 ≤ ys.length) :
    GlTo w2 (X + 1) L (k + 1) (set7 ys (k * 7) (.string d.name) (.int .i64 d.code) (.int .i64 d.adv) (.slice h'.out.A h'.out.n h'.out.c) (.slice h'.parts.A h'.parts.n h'.parts.c) (.slice h'.anchors.A h'.anchors.n h'.anchors.c) (.string d.hints)) := by
  have hz1 := hb.size
  intro j g hj hg
  by_cases hjk : j = k
  · subst hjk
    have e := Option.some.inj (hd.symm.trans hg)
    subst e
    exact ⟨h', fun i u hu => set7_at hl hu, (hr.wide (by omega) (Nat.le_refl _) |>.frame hs).wide (Nat.le_refl _) hz, hcp⟩
  · obtain ⟨hh, h1, h2, h3⟩ := h j g (by omega) hg
    refine ⟨hh, fun i u hu => ?_, (((h2.frame (Below.sameB hb (Nat.le_refl _))).wide (Nat.le_refl _) hz1).frame hs).wide (Nat.le_refl _) hz, h3⟩
    rw [set7_ne]
    · exact h1 i u hu
    · have hi : i < 7 := by
        rcases Nat.lt_or_ge i 7 with h | h
        · exact h
        · rw [List.getElem?_eq_none (by simp [glC]; omega)] at hu; cases hu
      left
      have : j * 7 + 7 ≤ k * 7 := by omega
      omega

set_option maxHeartbeats 4000000 in
theorem toGlyphS_rd (A : Option Addr) (n c lo hi : Nat) (L : List Gl) (w : World) (hr : GsRd w lo hi A n L) (hhi : hi ≤ w.heap.size) (hn : n ≤ 1048576 ∧ ∀ g ∈ L, g.small 1048576) :
    Calls Tryz.prog 55 #[.slice A n c] w fun e w' => ∃ A' c', e = .returned (.slice A' n c') ∧ GsRc w' w.heap.size w'.heap.size A' n L ∧ Below w.heap.size w w' := by
  obtain ⟨i0, hi0, hz0, hs0, hby0⟩ := info_parts infoGlyph
  obtain ⟨hn, hm⟩ := hn
  have hll := Lib.hid hr.1
  replace hr := Lib.hid hr
  replace hm := Lib.hid hm
  go_enter Tryz.func55, Tryz.ntmps55
  go_wp2_with (at_make; refine wpList_make_full _ rfl _ _ 49 rfl w.heap.size 58 i0 (.agg #[.string ⟨#[]⟩, .int .i64 0, .int .i64 0, .slice none 0 0, .slice none 0 0, .slice none 0 0, .string ⟨#[]⟩]) 7 Tryz.underlying49 hi0 hz0 hs0 .i64 .i64 _ _ n rfl rfl rfl rfl (by rw [hby0]; omega) (by unfold maxLen; omega) (Nat.le_refl _) ?_; intro w0 hown0 hg0)
  have hb0 : Below w.heap.size w w0 := (Below.refl _ _).grown hg0 (Nat.le_refl _) (by simp)
  clear hg0
  go_loopw [4] (fun i wr => ∃ (k : Nat) (ys : List Value), i = .int .i64 k ∧ k ≤ n ∧ wr.ownsRow w.heap.size 58 7 (.slice (some ⟨w.heap.size, 0, none⟩) n n) n ys ∧ GlTo wr (w.heap.size + 1) L k ys ∧ Below w.heap.size w wr) (fun i wr => n - (intOf i).toNat)
  case atStart => exact ⟨0, _, rfl, Nat.zero_le _, hown0, fun j g hj => absurd hj (Nat.not_lt_zero j), hb0⟩
  case round =>
    clear hown0 hb0
    obtain ⟨k, ys, rfl, hk, ho, hto, hbel⟩ := hrel
    replace hto := Lib.hid hto
    have hX : w.heap.size < wr.heap.size := (ho.lt _ rfl).2
    by_cases hlt : k < n
    · obtain ⟨b, off, d, hh, rfl, hb0, hb, hja, hcs, hrd⟩ := gs_at (hr.out.frame good_glyph (Below.sameB hbel hhi)) hlt
      have q0 := hcs 0 _ rfl
      have q1 := hcs 1 _ rfl
      have q2 := hcs 2 _ rfl
      have q3 := hcs 3 _ rfl
      have q4 := hcs 4 _ rfl
      have q5 := hcs 5 _ rfl
      have q6 := hcs 6 _ rfl
      simp only [Nat.add_zero] at q0 q1 q2 q3 q4 q5 q6
      have hbw : b < wr.heap.size := by omega
      have hsm := hm.out d (List.mem_of_getElem? hja)
      have hcall := Lib.hid (toGlyph_any d hh lo hi wr hrd (by omega) hsm)
      clear hcs hrd hsm hb0 hb
      replace hja := Lib.hid hja
      replace ho := Lib.hid ho
      go_wp2_with (go_at_call 24; refine hcall.out.mono ?_; rintro e w1 ⟨h', rfl, hrd', hb1, hcp⟩; have ho1 := own_below ho.out hb1; obtain ⟨g, hg, _, hglt, _, hcell, hfr⟩ := own_at ho1 (by omega); injection hg with hg; injection hg with hg; subst hg; have hyl := ho1.1; have c0 := hcell (k * 7) (by omega); have c1 := hcell (k * 7 + 1) (by omega); have c2 := hcell (k * 7 + 2) (by omega); have c3 := hcell (k * 7 + 3) (by omega); have c4 := hcell (k * 7 + 4) (by omega); have c5 := hcell (k * 7 + 5) (by omega); have c6 := hcell (k * 7 + 6) (by omega); rw [List.getElem?_eq_getElem (by omega)] at c0 c1 c2 c3 c4 c5 c6; have f0 := hfr (k * 7); have f1 := hfr (k * 7 + 1); have f2 := hfr (k * 7 + 2); have f3 := hfr (k * 7 + 3); have f4 := hfr (k * 7 + 4); have f5 := hfr (k * 7 + 5); have f6 := hfr (k * 7 + 6); clear hcell hfr; replace ho1 := Lib.hid ho1; replace hyl := Lib.hid hyl; generalize ys[k * 7]'(by have := hyl.out; omega) = v0 at c0; generalize ys[k * 7 + 1]'(by have := hyl.out; omega) = v1 at c1; generalize ys[k * 7 + 2]'(by have := hyl.out; omega) = v2 at c2; generalize ys[k * 7 + 3]'(by have := hyl.out; omega) = v3 at c3; generalize ys[k * 7 + 4]'(by have := hyl.out; omega) = v4 at c4; generalize ys[k * 7 + 5]'(by have := hyl.out; omega) = v5 at c5; generalize ys[k * 7 + 6]'(by have := hyl.out; omega) = v6 at c6; replace hrd' := Lib.hid hrd')
      go_roundw
      case rel =>
        have hyl := ho1.out.1
        have hz1 := hb1.size
        refine ⟨k + 1, _, by go_num, by omega, (((((((ho1.out.stored (k * 7) (.string d.name)).1.stored (k * 7 + 1) (.int .i64 d.code)).1.stored (k * 7 + 2) (.int .i64 d.adv)).1.stored (k * 7 + 3) (.slice h'.out.A h'.out.n h'.out.c)).1.stored (k * 7 + 4) (.slice h'.parts.A h'.parts.n h'.parts.c)).1.stored (k * 7 + 5) (.slice h'.anchors.A h'.anchors.n h'.anchors.c)).1.stored (k * 7 + 6) (.string d.hints)).1, ?_, ((((((((hbel.trans (hb1.mono hbel.size)).setCell (Nat.le_refl _) _).setCell (Nat.le_refl _) _).setCell (Nat.le_refl _) _).setCell (Nat.le_refl _) _).setCell (Nat.le_refl _) _).setCell (Nat.le_refl _) _).setCell (Nat.le_refl _) _)⟩
        refine glTo_next hto.out hja.out hX hb1 hrd'.out hcp ?_ (by simp) (by omega)
        repeat (first | refine SameB.setCell ?_ (.inl (by simp)) _ | exact SameB.refl _ _ _)
      case measure => simp [intOf]; omega
    · have hkn : k = n := by omega
      replace hkn := Lib.hid hkn
      replace ho := Lib.hid ho
      go_wp2_with fail
      go_ret
      refine ⟨_, _, rfl, ⟨hll.out, fun h0 => ⟨w.heap.size, 0, rfl, Nat.le_refl _, hX, fun j g hj => ?_⟩⟩, hbel⟩
      have hjl := (List.getElem?_eq_some_iff.1 hj).1
      have hl' := hll.out
      obtain ⟨hh, h1, h2, h3⟩ := hto.out j g (by rw [hkn.out]; omega) hj
      refine ⟨glC g hh, rfl, fun i u hu => ?_, hh, rfl, h2.wide (by omega) (Nat.le_refl _), h3⟩
      have hi : i < 7 := by
        rcases Nat.lt_or_ge i 7 with h | h
        · exact h
        · rw [List.getElem?_eq_none (by simp [glC]; omega)] at hu; cases hu
      have h3 := ho.out.cellAt (j * 7 + i) (by omega)
      rw [h1 i u hu] at h3
      rw [Nat.zero_add]
      exact h3

set_option maxRecDepth 100000 in
set_option maxHeartbeats 2000000 in
theorem eqGlyphS_rd (A A' : Option Addr) (n c n' c' lo hi lo' hi' : Nat) (L : List Gl) (w : World) (h1 : GsRd w lo hi A n L) (h2 : GsRd w lo' hi' A' n' L) (hh1 : hi ≤ w.heap.size) (hh2 : hi' ≤ w.heap.size) (hn : n ≤ 100000000 ∧ ∀ g ∈ L, g.small 100000000) :
    Calls Tryz.prog 72 #[.slice A n c, .slice A' n' c'] w fun e w' => e = .returned (.bool true) ∧ Below w.heap.size w w' := by
  obtain rfl : n = n' := h1.1.symm.trans h2.1
  obtain ⟨hn, hm⟩ := hn
  replace h1 := Lib.hid h1
  replace h2 := Lib.hid h2
  replace hm := Lib.hid hm
  go_enter Tryz.func72, Tryz.ntmps72
  go_wp2_with fail
  go_loopw [5] (fun i wr => ∃ k : Nat, i = .int .i64 k ∧ k ≤ n ∧ Below w.heap.size w wr) (fun i wr => n - (intOf i).toNat)
  case atStart => exact ⟨0, rfl, Nat.zero_le _, Below.refl _ _⟩
  case round =>
    obtain ⟨k, rfl, hk, hbel⟩ := hrel
    have hsz := hbel.size
    by_cases hlt : k < n
    · obtain ⟨b, off, d, x1, rfl, hb0, hb, hja, hcs, hr1⟩ := gs_at (h1.out.frame good_glyph (Below.sameB hbel hh1)) hlt
      obtain ⟨b', off', d', x2, rfl, hb0', hb', hja', hcs', hr2⟩ := gs_at (h2.out.frame good_glyph (Below.sameB hbel hh2)) hlt
      have hdd := Option.some.inj (hja.symm.trans hja')
      subst hdd
      have hsm := hm.out d (List.mem_of_getElem? hja)
      have q0 := hcs 0 _ rfl
      have p0 := hcs' 0 _ rfl
      have q1 := hcs 1 _ rfl
      have p1 := hcs' 1 _ rfl
      have q2 := hcs 2 _ rfl
      have p2 := hcs' 2 _ rfl
      have q3 := hcs 3 _ rfl
      have p3 := hcs' 3 _ rfl
      have q4 := hcs 4 _ rfl
      have p4 := hcs' 4 _ rfl
      have q5 := hcs 5 _ rfl
      have p5 := hcs' 5 _ rfl
      have q6 := hcs 6 _ rfl
      have p6 := hcs' 6 _ rfl
      simp only [Nat.add_zero] at q0 q1 q2 q3 q4 q5 q6 p0 p1 p2 p3 p4 p5 p6
      have hcall := Lib.hid (fun W (hB : SameB 0 wr.heap.size wr W) (hs : wr.heap.size ≤ W.heap.size) => eqGlyph_any d x1 x2 lo hi lo' hi' W (hr1.frame (hB.mono (Nat.zero_le _) (by omega))) (hr2.frame (hB.mono (Nat.zero_le _) (by omega))) (by omega) (by omega) hsm)
      have hbw : b < wr.heap.size := by omega
      have hbw' : b' < wr.heap.size := by omega
      clear hcs hcs' hr1 hr2 hja hja' hb0 hb0' hb hb' hsz hh1 hh2 h1 h2 hsm
      have hi : (0 : Int) ≤ (k : Int) ∧ (k : Int) < (n : Int) := by omega
      go_wp2_with fail
      go_still_tail 8, (by kernel_rfl)
      go_wp2_with (go_at_call 39; refine (hcall.out _ (SameB.refl _ _ wr).drew (Nat.le_refl _)).mono ?_; rintro e w1 ⟨rfl, hb1⟩)
      go_roundw
      case rel => exact ⟨k + 1, by go_num, by omega, hbel.drew.trans (hb1.mono (by simp; exact hbel.size))⟩
      case measure => simp [intOf]; omega
    · go_wp2_with fail
      go_ret
      exact ⟨rfl, hbel⟩
end Go.Proofs.YtgfbcbbcnineiaaGreat

