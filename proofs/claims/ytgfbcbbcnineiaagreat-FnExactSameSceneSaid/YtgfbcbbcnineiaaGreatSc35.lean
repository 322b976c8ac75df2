/- Systems: slices of rows in a struct; the laws' own functions on them, and those of pens, paths, regions, over heads. Printed by mk_scene.py. Conditions: as each states. -/
import Derived.Test.YtgfbcbbcnineiaaGreatSc26
import Derived.Test.YtgfbcbbcnineiaaGreatSc27
import Derived.Test.YtgfbcbbcnineiaaGreatSc28
import Derived.Test.YtgfbcbbcnineiaaGreatSc31
import Derived.Test.YtgfbcbbcnineiaaGreatSc34
namespace Go.Proofs.YtgfbcbbcnineiaaGreat
open Go.RowKit Go.ChangeShapes Go.WideShapes Go.Deep
set_option linter.unusedVariables false
set_option maxRecDepth 100000

abbrev SmL {α : Type} (f : α → Nat) (b : Nat) (L : List α) : Prop := L.length ≤ b ∧ ∀ g ∈ L, f g ≤ b
theorem SmL.mono {α : Type} {f : α → Nat} {a b : Nat} {L : List α} (h : SmL f a L) (hab : a ≤ b) : SmL f b L := ⟨Nat.le_trans h.1 hab, fun g hg => Nat.le_trans (h.2 g hg) hab⟩
abbrev rowLen (g : RowD) : Nat := g.L.length
abbrev penLen (g : NamedPenD) : Nat := g.L.length
abbrev pathLen (g : NamedPathD) : Nat := g.L.length
theorem szSystem_any (h : Hd) (lo hi : Nat) (L : List RowD) (left : Int) (w : World) (hr : rowsRd w lo hi h.A h.n L) (hhi : hi ≤ w.heap.size) (hs : ∀ g ∈ L, g.str) (hn : h.n ≤ 9223372036854775807) (h0 : 0 ≤ left) (h1 : left ≤ 1048576) :
    Calls Tryz.prog 9 #[.agg #[.slice h.A h.n h.c], .int .i64 left] w fun e w' => ∃ r : Int, e = .returned (.int .i64 r) ∧ (r < 0 ∨ 0 ≤ r ∧ r ≤ left ∧ SmL rowLen 1048576 L) ∧ Below w.heap.size w w' := by
  have hll := Lib.hid hr.1
  have hc := Lib.hid (fun o => szRowS_any h.A h.n h.c lo hi L left (w.alloc o) (hr.frame good_row (SameB.alloc (SameB.refl _ _ _) hhi _)) (by simp; omega) hs hn h0 h1)
  clear hr hs
  go_enter Tryz.func9, Tryz.ntmps9
  go_wp2_with fail
  refine (hc.out _).mono ?_
  rintro e w1 ⟨r, rfl, hl, hb1⟩
  have hB := (Go.Joins.below_alloc1 _ _).trans (hb1.mono (by simp))
  rcases hl with hl | ⟨hl0, hl1, hl2, hl3⟩
  · go_wp2_with fail
    go_ret
    exact ⟨_, rfl, .inl (by omega), hB⟩
  · replace hl3 := Lib.hid hl3
    go_wp2_with fail
    go_ret
    exact ⟨_, rfl, .inr ⟨hl0, hl1, by rw [hll.out]; exact hl2, hl3.out⟩, hB⟩

set_option maxHeartbeats 4000000 in
theorem toSystem_h (h : Hd) (L : List RowD) (lo hi : Nat) (w : World) (hr : rowsRd w lo hi h.A h.n L) (hhi : hi ≤ w.heap.size) (hm : SmL rowLen 1048576 L) :
    Calls Tryz.prog 20 #[.agg #[.slice h.A h.n h.c]] w fun e w' => ∃ h' : Hd, e = .returned (.agg #[.slice h'.A h'.n h'.c]) ∧ rowsRd w' w.heap.size w'.heap.size h'.A h'.n L ∧ Below w.heap.size w w' := by
  have hn : h.n ≤ 1048576 := by rw [← hr.1]; exact hm.1
  replace hr := Lib.hid hr
  replace hm := Lib.hid hm
  go_enter Tryz.func20, Tryz.ntmps20
  go_wp2_with fail
  refine (toRowS_rd _ _ _ lo hi L _ (hr.out.frame good_row (Below.sameB (B := w.heap.size) (w := w) (by repeat (first | refine Below.setCell ?_ (by simp <;> omega) _ | refine Below.alloc ?_ (by simp <;> omega) _ | exact Below.refl _ _)) hhi)) (by simp <;> omega) ⟨hn, hm.out.2⟩).mono ?_
  rintro e w1 ⟨A', c', rfl, ho, hb1⟩
  have hz1 := hb1.size
  try simp at hz1
  have hB1 : Below w.heap.size w w1 := Below.trans (by repeat (first | refine Below.setCell ?_ (by simp <;> omega) _ | refine Below.alloc ?_ (by simp <;> omega) _ | exact Below.refl _ _)) (hb1.mono (by simp <;> omega))
  have rd := Lib.hid (RdS.wide good_row ho (lo' := w.heap.size + 3) (hi' := w1.heap.size) (by simp <;> omega) (Nat.le_refl _))
  clear ho
  have hnew := heap_new0 w (.cells #[.slice h.A h.n h.c] 24 (0, 0)) (.cells #[.slice none 0 0] 46 (0, 0)) (.cells #[.slice none 0 0] 46 (0, 0))
  have HR : Hid (w1.heap[w.heap.size + 1]? = some (.cells #[.slice none 0 0] 46 (0, 0))) := (hb1.block _ (by simp <;> omega)).trans hnew.2.1
  have HO : Hid (w1.heap[w.heap.size + 2]? = some (.cells #[.slice none 0 0] 46 (0, 0))) := (hb1.block _ (by simp <;> omega)).trans hnew.2.2
  clear hnew hb1
  have co0 : w1.cell? ⟨w.heap.size + 2, 0, none⟩ = some (.slice none 0 0) := by rw [Go.Joins.cell_of_block HO.out]; rfl
  have cr0 : w1.cell? ⟨w.heap.size + 1, 0, none⟩ = some (.slice none 0 0) := by rw [Go.Joins.cell_of_block HR.out]; rfl
  have fo : ∀ o, w1.frozen? ⟨w.heap.size + 2, o, none⟩ = false := Go.Joins.unfrozen_of_block HO.out
  have fr : ∀ o, w1.frozen? ⟨w.heap.size + 1, o, none⟩ = false := Go.Joins.unfrozen_of_block HR.out
  go_wp2_with fail
  have hfin : ∀ W', SameB (w.heap.size + 3) w1.heap.size w1 W' → w1.heap.size ≤ W'.heap.size → rowsRd W' w.heap.size W'.heap.size A' h.n L := fun W' hs hz => (rd.out.frame good_row hs).wide good_row (by omega) hz
  refine bodyPost_ret (v := .agg #[.slice A' h.n c']) (by simp [results, Tryz.results20, go_sem, cr0]) rfl ⟨⟨A', h.n, c'⟩, rfl, hfin _ ?_ (by simp), by repeat (first | refine Below.setCell ?_ (by simp <;> omega) _ | exact hB1)⟩
  repeat (first | refine SameB.setCell ?_ (.inl (by simp <;> omega)) _ | exact SameB.refl _ _ _)

theorem eqSystem_h (h h' : Hd) (L : List RowD) (lo hi lo' hi' : Nat) (w : World) (h1 : rowsRd w lo hi h.A h.n L) (h2 : rowsRd w lo' hi' h'.A h'.n L) (hh1 : hi ≤ w.heap.size) (hh2 : hi' ≤ w.heap.size) (hm : SmL rowLen 100000000 L) :
    Calls Tryz.prog 35 #[.agg #[.slice h.A h.n h.c], .agg #[.slice h'.A h'.n h'.c]] w fun e w' => e = .returned (.bool true) ∧ Below w.heap.size w w' := by
  have hn : h.n ≤ 100000000 := by rw [← h1.1]; exact hm.1
  have hc := Lib.hid (fun a b => eqRowS_any h.A h'.A h.n h.c h'.n h'.c lo hi lo' hi' L ((w.alloc a).alloc b) (h1.frame good_row (((SameB.refl _ _ w).alloc hh1 _).alloc (by simp; omega) _)) (h2.frame good_row (((SameB.refl _ _ w).alloc hh2 _).alloc (by simp; omega) _)) (by simp; omega) (by simp; omega) ⟨hn, hm.2⟩)
  clear h1 h2 hm
  go_enter Tryz.func35, Tryz.ntmps35
  go_wp2_with fail
  refine (hc.out _ _).mono ?_
  rintro e w1 ⟨rfl, hb1⟩
  go_wp2_with fail
  go_ret
  exact ⟨rfl, (Go.Joins.below_alloc2 _ _ _).trans (hb1.mono (by simp; omega))⟩

theorem toNamedPenS_h (h : Hd) (L : List NamedPenD) (lo hi : Nat) (w : World) (hr : pensRd w lo hi h.A h.n L) (hhi : hi ≤ w.heap.size) (hm : SmL penLen 1048576 L) :
    Calls Tryz.prog 21 #[.slice h.A h.n h.c] w fun e w' => ∃ h' : Hd, e = .returned (.slice h'.A h'.n h'.c) ∧ pensRd w' w.heap.size w'.heap.size h'.A h'.n L ∧ Below w.heap.size w w' :=
  (toNamedPenS_rd _ _ _ lo hi L w hr hhi ⟨by rw [← hr.1]; exact hm.1, hm.2⟩).mono fun e w' ⟨A', c', he, h1, h2⟩ => ⟨⟨A', h.n, c'⟩, he, h1, h2⟩
theorem eqNamedPenS_h (h h' : Hd) (L : List NamedPenD) (lo hi lo' hi' : Nat) (w : World) (h1 : pensRd w lo hi h.A h.n L) (h2 : pensRd w lo' hi' h'.A h'.n L) (hh1 : hi ≤ w.heap.size) (hh2 : hi' ≤ w.heap.size) (hm : SmL penLen 100000000 L) :
    Calls Tryz.prog 36 #[.slice h.A h.n h.c, .slice h'.A h'.n h'.c] w fun e w' => e = .returned (.bool true) ∧ Below w.heap.size w w' :=
  eqNamedPenS_any _ _ _ _ _ _ lo hi lo' hi' L w h1 h2 hh1 hh2 ⟨by rw [← h1.1]; exact hm.1, hm.2⟩
theorem toNamedPathS_h (h : Hd) (L : List NamedPathD) (lo hi : Nat) (w : World) (hr : npathsRd w lo hi h.A h.n L) (hhi : hi ≤ w.heap.size) (hm : SmL pathLen 1048576 L) :
    Calls Tryz.prog 22 #[.slice h.A h.n h.c] w fun e w' => ∃ h' : Hd, e = .returned (.slice h'.A h'.n h'.c) ∧ npathsRd w' w.heap.size w'.heap.size h'.A h'.n L ∧ Below w.heap.size w w' :=
  (toNamedPathS_rd _ _ _ lo hi L w hr hhi ⟨by rw [← hr.1]; exact hm.1, hm.2⟩).mono fun e w' ⟨A', c', he, h1, h2⟩ => ⟨⟨A', h.n, c'⟩, he, h1, h2⟩
theorem eqNamedPathS_h (h h' : Hd) (L : List NamedPathD) (lo hi lo' hi' : Nat) (w : World) (h1 : npathsRd w lo hi h.A h.n L) (h2 : npathsRd w lo' hi' h'.A h'.n L) (hh1 : hi ≤ w.heap.size) (hh2 : hi' ≤ w.heap.size) (hm : SmL pathLen 100000000 L) :
    Calls Tryz.prog 37 #[.slice h.A h.n h.c, .slice h'.A h'.n h'.c] w fun e w' => e = .returned (.bool true) ∧ Below w.heap.size w w' :=
  eqNamedPathS_any _ _ _ _ _ _ lo hi lo' hi' L w h1 h2 hh1 hh2 ⟨by rw [← h1.1]; exact hm.1, hm.2⟩
abbrev ringLen (g : List (Int × Int)) : Nat := g.length
theorem toRegion_h (h : Hd) (L : List (List (Int × Int))) (lo hi : Nat) (w : World) (hr : RegRd w lo hi h.A h.n L) (hhi : hi ≤ w.heap.size) (hm : SmL ringLen 1048576 L) :
    Calls Tryz.prog 25 #[.agg #[.slice h.A h.n h.c]] w fun e w' => ∃ h' : Hd, e = .returned (.agg #[.slice h'.A h'.n h'.c]) ∧ RegRd w' w.heap.size w'.heap.size h'.A h'.n L ∧ Below w.heap.size w w' :=
  (toRegion_any _ _ _ lo hi L w hr hhi (by rw [← hr.1]; exact hm.1) hm.2).mono fun e w' ⟨A', he, h1, h2⟩ => ⟨⟨A', h.n, h.n⟩, he, h1.rd (fun K hK => by have := hm.2 K hK; unfold maxLen; simp only [ringLen] at this; omega), h2⟩
theorem eqRegion_h (h h' : Hd) (L : List (List (Int × Int))) (lo hi lo' hi' : Nat) (w : World) (h1 : RegRd w lo hi h.A h.n L) (h2 : RegRd w lo' hi' h'.A h'.n L) (hh1 : hi ≤ w.heap.size) (hh2 : hi' ≤ w.heap.size) (hm : SmL ringLen 100000000 L) :
    Calls Tryz.prog 40 #[.agg #[.slice h.A h.n h.c], .agg #[.slice h'.A h'.n h'.c]] w fun e w' => e = .returned (.bool true) ∧ Below w.heap.size w w' :=
  eqRegion_any _ _ _ _ _ _ lo hi lo' hi' L w h1 h2 hh1 hh2 (by rw [← h1.1]; exact hm.1) hm.2
theorem toGlyphSet_h (h : GSetH) (L : GSet) (lo hi : Nat) (w : World) (hr : GSetRd w lo hi L h) (hhi : hi ≤ w.heap.size) (hm : L.small 1048576) :
    Calls Tryz.prog 23 #[gsV L h] w fun e w' => ∃ h' : GSetH, e = .returned (gsV L h') ∧ GSetRd w' w.heap.size w'.heap.size L h' ∧ Below w.heap.size w w' :=
  (toGlyphSet_any L h lo hi w hr hhi hm).mono fun e w' ⟨h', he, h1, h2⟩ => ⟨h', he, GsRc.rd h1, h2⟩
theorem eqGlyphSet_h (h h' : GSetH) (L : GSet) (lo hi lo' hi' : Nat) (w : World) (h1 : GSetRd w lo hi L h) (h2 : GSetRd w lo' hi' L h') (hh1 : hi ≤ w.heap.size) (hh2 : hi' ≤ w.heap.size) (hm : L.small 100000000) :
    Calls Tryz.prog 38 #[gsV L h, gsV L h'] w fun e w' => e = .returned (.bool true) ∧ Below w.heap.size w w' :=
  eqGlyphSet_any L h h' lo hi lo' hi' w h1 h2 hh1 hh2 hm
theorem toGlyph_h (h : GlH) (L : Gl) (lo hi : Nat) (w : World) (hr : GlRd w lo hi L h) (hhi : hi ≤ w.heap.size) (hm : L.small 1048576) :
    Calls Tryz.prog 24 #[glV L h] w fun e w' => ∃ h' : GlH, e = .returned (glV L h') ∧ GlRd w' w.heap.size w'.heap.size L h' ∧ Below w.heap.size w w' :=
  (toGlyph_any L h lo hi w hr hhi hm).mono fun e w' ⟨h', he, h1, h2, _⟩ => ⟨h', he, h1, h2⟩
theorem eqGlyph_h (h h' : GlH) (L : Gl) (lo hi lo' hi' : Nat) (w : World) (h1 : GlRd w lo hi L h) (h2 : GlRd w lo' hi' L h') (hh1 : hi ≤ w.heap.size) (hh2 : hi' ≤ w.heap.size) (hm : L.small 100000000) :
    Calls Tryz.prog 39 #[glV L h, glV L h'] w fun e w' => e = .returned (.bool true) ∧ Below w.heap.size w w' :=
  eqGlyph_any L h h' lo hi lo' hi' w h1 h2 hh1 hh2 hm
end Go.Proofs.YtgfbcbbcnineiaaGreat

