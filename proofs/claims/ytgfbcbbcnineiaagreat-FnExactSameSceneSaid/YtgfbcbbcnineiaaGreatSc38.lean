/- Whether two sets of glyphs are the same: both sides. Conditions: as each states. -/
import Derived.BigQuiet
import Derived.Lib.QuietBelow
import Derived.Test.YtgfbcbbcnineiaaGreatSc36
import Derived.Test.YtgfbcbbcnineiaaGreatSc37
namespace Go.Proofs.YtgfbcbbcnineiaaGreat
open Go.RowKit
set_option linter.unusedVariables false
set_option maxRecDepth 100000

theorem l17Same_gl (p1 o1 p2 o2 : Nat) (d d' : Gl) (h h' : GlH) (b : Bool) (hb : b = decide (d = d')) (lo hi lo' hi' : Nat) (w : World) (hw1 : p1 < w.heap.size) (hw2 : p2 < w.heap.size)
    (c1 : ∀ i u, (glC d h)[i]? = some u → w.cell? ⟨p1, o1 + i, none⟩ = some u) (c2 : ∀ i u, (glC d' h')[i]? = some u → w.cell? ⟨p2, o2 + i, none⟩ = some u)
    (hr : GlRd w lo hi d h) (hr' : GlRd w lo' hi' d' h') (hhi : hi ≤ w.heap.size) (hhi' : hi' ≤ w.heap.size) (hm : d.small 1000000000) (hm' : d'.small 1000000000) :
    Calls Tryz.prog 17 #[.pointer (some ⟨p1, o1, none⟩), .pointer (some ⟨p2, o2, none⟩)] w fun e w' => e = .returned (.bool b) ∧ Below w.heap.size w w' :=
  l17Same_any p1 o1 p2 o2 d.name d'.name d.code d'.code d.adv d'.adv d.out d'.out d.parts d'.parts d.anchors d'.anchors d.hints d'.hints h.out.A h'.out.A h.parts.A h'.parts.A h.anchors.A h'.anchors.A h.out.n h.out.c h'.out.n h'.out.c h.parts.n h.parts.c h'.parts.n h'.parts.c h.anchors.n h.anchors.c h'.anchors.n h'.anchors.c lo hi lo' hi' b hb w hw1 hw2
    (c1 0 _ rfl) (c2 0 _ rfl) (c1 1 _ rfl) (c2 1 _ rfl) (c1 2 _ rfl) (c2 2 _ rfl) (c1 3 _ rfl) (c2 3 _ rfl) (c1 4 _ rfl) (c2 4 _ rfl) (c1 5 _ rfl) (c2 5 _ rfl) (c1 6 _ rfl) (c2 6 _ rfl)
    hr.1 hr'.1 hr.2.1 hr'.2.1 hr.2.2 hr'.2.2 hhi hhi' hm hm'
set_option maxHeartbeats 4000000 in
theorem equalFGlyph_any (A A' : Option Addr) (n c n' c' lo hi lo' hi' : Nat) (L M : List Gl) (b : Bool) (hb : b = decide (L = M)) (w : World) (h1 : GsRd w lo hi A n L) (h2 : GsRd w lo' hi' A' n' M) (hh1 : hi ≤ w.heap.size) (hh2 : hi' ≤ w.heap.size) (hn : n ≤ 1000000000) (hn' : n' ≤ 1000000000) (hL : ∀ g ∈ L, g.small 1000000000) (hM : ∀ g ∈ M, g.small 1000000000) :
    Calls Tryz.prog 63 #[.slice A n c, .slice A' n' c', .func (.func 33) #[] #[]] w fun e w' => e = .returned (.bool b) ∧ Below w.heap.size w w' := by
  by_cases hl : n = n'
  rotate_left
  · have hbf : b = false := by
      rw [hb, decide_eq_false_iff_not]; rintro rfl; exact hl (h1.1.symm.trans h2.1)
    have t1 : ((n : Int) == (n' : Int)) = false := by simp; omega
    have t2 : ((n : Int) != (n' : Int)) = true := by simp; omega
    subst hbf
    clear hl h1 h2 hb
    go_enter Tryz.func63, Tryz.ntmps63
    go_wp2_with fail
    go_ret
    exact ⟨rfl, Below.refl _ _⟩
  subst hl
  have hfin := Lib.hid (fun h => take_eq_done (n := n) h h1.1 h2.1)
  replace hb := Lib.hid hb
  replace h1 := Lib.hid h1
  replace h2 := Lib.hid h2
  replace hL := Lib.hid hL
  replace hM := Lib.hid hM
  go_enter Tryz.func63, Tryz.ntmps63
  go_wp2_with fail
  go_loopw [17] (fun i wr => ∃ k : Nat, i = .int .i64 k ∧ k ≤ n ∧ L.take k = M.take k ∧ Below w.heap.size w wr) (fun i wr => n - (intOf i).toNat)
  case atStart => exact ⟨0, rfl, Nat.zero_le _, rfl, Below.refl _ _⟩
  case round =>
    obtain ⟨k, rfl, hk, htk, hbel⟩ := hrel
    replace htk := Lib.hid htk
    have hsz := hbel.size
    by_cases hlt : k < n
    · obtain ⟨b1, f1, d, h, rfl, hb0, hb1, hja, hcs, hr1⟩ := gs_at (h1.out.frame good_glyph (Below.sameB hbel hh1)) hlt
      obtain ⟨b2, f2, d', h', rfl, hb0', hb2, hja', hcs', hr2⟩ := gs_at (h2.out.frame good_glyph (Below.sameB hbel hh2)) hlt
      have q0 := hcs 0 _ rfl
      have q1 := hcs 1 _ rfl
      have q2 := hcs 2 _ rfl
      have q3 := hcs 3 _ rfl
      have q4 := hcs 4 _ rfl
      have q5 := hcs 5 _ rfl
      have q6 := hcs 6 _ rfl
      have r0 := hcs' 0 _ rfl
      have r1 := hcs' 1 _ rfl
      have r2 := hcs' 2 _ rfl
      have r3 := hcs' 3 _ rfl
      have r4 := hcs' 4 _ rfl
      have r5 := hcs' 5 _ rfl
      have r6 := hcs' 6 _ rfl
      simp only [Nat.add_zero] at q0 r0
      have hl1 := hL.out d (List.mem_of_getElem? hja)
      have hl2 := hM.out d' (List.mem_of_getElem? hja')
      obtain ⟨t, ht⟩ : ∃ t, t = decide (d = d') := ⟨_, rfl⟩
      have hcall := Lib.hid (fun x y => implSameG_any d d' h h' t ht lo hi lo' hi' ((wr.alloc x).alloc y) (hr1.frame (((SameB.refl _ _ wr).alloc (by omega) _).alloc (by simp; omega) _)) (hr2.frame (((SameB.refl _ _ wr).alloc (by omega) _).alloc (by simp; omega) _)) (by simp; omega) (by simp; omega) hl1 hl2)
      have hbw : b1 < wr.heap.size := by omega
      have hbw' : b2 < wr.heap.size := by omega
      have hno := Lib.hid (fun h => ne_list_at hja hja' h)
      have hst := Lib.hid (fun (h : d = d') => take_eq_step htk.out hja (h ▸ hja'))
      clear hr1 hr2 hja hja' hb0 hb0' hl1 hl2 hcs hcs'
      replace ht := Lib.hid ht
      go_wp2_with fail
      refine (hcall.out _ _).mono ?_
      rintro e w1 ⟨rfl, hb1⟩
      have hbel1 : Below w.heap.size w w1 := ((hbel.alloc hbel.size _).alloc (by simp; omega) _).trans (hb1.mono (by simp; omega))
      cases t with
      | false =>
        have hbf : b = false := by rw [hb.out]; exact hno.out ht.out.symm
        subst hbf
        go_wp2_with fail
        go_ret
        exact ⟨rfl, hbel1⟩
      | true =>
        go_wp2_with fail
        go_roundw
        case rel => exact ⟨k + 1, by go_num, by omega, hst.out (of_decide_eq_true ht.out.symm), hbel1⟩
        case measure => simp [intOf]; omega
    · have hkn : k = n := by omega
      have hbt : b = true := by rw [hb.out, decide_eq_true_iff]; exact hfin.out (by rw [← hkn]; exact htk.out)
      subst hbt
      replace hkn := Lib.hid hkn
      go_wp2_with fail
      go_ret
      exact ⟨rfl, hbel⟩

theorem implSameGS_any (u u' : Int) (A A' : Option Addr) (n c n' c' lo hi lo' hi' : Nat) (L M : List Gl) (b : Bool) (hb : b = decide ((⟨u, L⟩ : GSet) = ⟨u', M⟩)) (w : World) (h1 : GsRd w lo hi A n L) (h2 : GsRd w lo' hi' A' n' M) (hh1 : hi ≤ w.heap.size) (hh2 : hi' ≤ w.heap.size) (hn : n ≤ 1000000000) (hn' : n' ≤ 1000000000) (hL : ∀ g ∈ L, g.small 1000000000) (hM : ∀ g ∈ M, g.small 1000000000) :
    Calls Tryz.prog 32 #[.agg #[.int .i64 u, .slice A n c], .agg #[.int .i64 u', .slice A' n' c']] w fun e w' => e = .returned (.bool b) ∧ Below w.heap.size w w' := by
  have hnew := heap_new2 w (.cells #[.int .i64 u, .slice A n c] 51 (0, 0)) (.cells #[.int .i64 u', .slice A' n' c'] 51 (0, 0))
  have hB0 : Below w.heap.size w ((w.alloc (.cells #[.int .i64 u, .slice A n c] 51 (0, 0))).alloc (.cells #[.int .i64 u', .slice A' n' c'] 51 (0, 0))) := Go.Joins.below_alloc2 _ _ _
  have hne : Hid ((u ≠ u' ∨ L ≠ M) → b = false) := fun hor => by
    rw [hb, decide_eq_false_iff_not]; intro e; injection e with e1 e2; rcases hor with h | h
    · exact h e1
    · exact h e2
  have hyes : Hid (u = u' → L = M → b = true) := fun e1 e2 => by rw [hb, decide_eq_true_iff, e1, e2]
  clear hb
  by_cases eu : u = u'
  rotate_left
  · have hbf := hne.out (.inl eu)
    subst hbf
    have t1 : (u == u') = false := by simp [eu]
    clear eu
    go_enter Tryz.func32, Tryz.ntmps32
    go_wp2_with fail
    go_ret
    exact ⟨rfl, hB0⟩
  subst eu
  obtain ⟨t, ht⟩ : ∃ t, t = decide (L = M) := ⟨_, rfl⟩
  have hc := Lib.hid (equalFGlyph_any A A' n c n' c' lo hi lo' hi' L M t ht ((w.alloc (.cells #[.int .i64 u, .slice A n c] 51 (0, 0))).alloc (.cells #[.int .i64 u, .slice A' n' c'] 51 (0, 0))) (h1.frame good_glyph (Below.sameB hB0 hh1)) (h2.frame good_glyph (Below.sameB hB0 hh2)) (Nat.le_trans hh1 hB0.size) (Nat.le_trans hh2 hB0.size) hn hn' hL hM)
  have hbt : b = t := by
    cases t
    · exact hne.out (.inr (of_decide_eq_false ht.symm))
    · exact hyes.out rfl (of_decide_eq_true ht.symm)
  subst hbt
  clear h1 h2 hL hM ht hnew
  go_enter Tryz.func32, Tryz.ntmps32
  go_wp2_with fail
  refine hc.out.mono ?_
  rintro e w1 ⟨rfl, hb1⟩
  go_wp2_with fail
  all_goals go_ret
  all_goals exact ⟨rfl, hB0.trans (hb1.mono hB0.size)⟩

set_option maxHeartbeats 4000000 in
theorem specSameGS_any (u u' : Int) (A A' : Option Addr) (n c n' c' lo hi lo' hi' : Nat) (L M : List Gl) (b : Bool) (hb : b = decide ((⟨u, L⟩ : GSet) = ⟨u', M⟩)) (w : World) (h1 : GsRd w lo hi A n L) (h2 : GsRd w lo' hi' A' n' M) (hh1 : hi ≤ w.heap.size) (hh2 : hi' ≤ w.heap.size) (hn : n ≤ 1000000000) (hn' : n' ≤ 1000000000) (hL : ∀ g ∈ L, g.small 1000000000) (hM : ∀ g ∈ M, g.small 1000000000) :
    Calls Tryz.prog 16 #[.agg #[.int .i64 u, .slice A n c], .agg #[.int .i64 u', .slice A' n' c']] w fun e w' => e = .returned (.bool b) ∧ Below w.heap.size w w' := by
  have hnew := heap_new2 w (.cells #[.int .i64 u, .slice A n c] 51 (0, 0)) (.cells #[.int .i64 u', .slice A' n' c'] 51 (0, 0))
  have hB0 : Below w.heap.size w ((w.alloc (.cells #[.int .i64 u, .slice A n c] 51 (0, 0))).alloc (.cells #[.int .i64 u', .slice A' n' c'] 51 (0, 0))) := Go.Joins.below_alloc2 _ _ _
  have hne : Hid ((u ≠ u' ∨ L ≠ M) → b = false) := fun hor => by
    rw [hb, decide_eq_false_iff_not]; intro e; injection e with e1 e2; rcases hor with h | h
    · exact h e1
    · exact h e2
  have hyes : Hid (u = u' → L = M → b = true) := fun e1 e2 => by rw [hb, decide_eq_true_iff, e1, e2]
  clear hb
  by_cases eu : u = u'
  rotate_left
  · have hbf := hne.out (.inl eu)
    subst hbf
    have t1 : (u == u') = false := by simp [eu]
    have t2 : (u != u') = true := by simp [eu]
    clear eu
    go_enter Tryz.func16, Tryz.ntmps16
    go_wp2_with fail
    go_ret
    exact ⟨rfl, hB0⟩
  subst eu
  by_cases hl : n = n'
  rotate_left
  · have hbf := hne.out (.inr (by rintro rfl; exact hl (h1.1.symm.trans h2.1)))
    have t1 : ((n : Int) == (n' : Int)) = false := by simp; omega
    have t2 : ((n : Int) != (n' : Int)) = true := by simp; omega
    subst hbf
    clear hl h1 h2
    go_enter Tryz.func16, Tryz.ntmps16
    go_wp2_with fail
    go_ret
    exact ⟨rfl, hB0⟩
  subst hl
  have hfin := Lib.hid (fun h => take_eq_done (n := n) h h1.1 h2.1)
  have kb : ((w.alloc (.cells #[.int .i64 u, .slice A n c] 51 (0, 0))).alloc (.cells #[.int .i64 u, .slice A' n c'] 51 (0, 0))).cell? ⟨w.heap.size, 1, none⟩ = some (.slice A n c) := by simp only [World.cell?, hnew.1]; rfl
  have mb : ((w.alloc (.cells #[.int .i64 u, .slice A n c] 51 (0, 0))).alloc (.cells #[.int .i64 u, .slice A' n c'] 51 (0, 0))).cell? ⟨w.heap.size + 1, 1, none⟩ = some (.slice A' n c') := by simp only [World.cell?, hnew.2]; rfl
  have hz0 : w.heap.size + 1 < ((w.alloc (.cells #[.int .i64 u, .slice A n c] 51 (0, 0))).alloc (.cells #[.int .i64 u, .slice A' n c'] 51 (0, 0))).heap.size := by simp
  replace h1 := Lib.hid h1
  replace h2 := Lib.hid h2
  replace hL := Lib.hid hL
  replace hM := Lib.hid hM
  clear hnew
  go_enter Tryz.func16, Tryz.ntmps16
  go_wp2_with fail
  generalize ((w.alloc (.cells #[.int .i64 u, .slice A n c] 51 (0, 0))).alloc (.cells #[.int .i64 u, .slice A' n c'] 51 (0, 0))) = W at hB0 kb mb hz0 ⊢
  go_loopw [5] (fun i wr => ∃ k : Nat, i = .int .i64 k ∧ k ≤ n ∧ L.take k = M.take k ∧ Below W.heap.size W wr) (fun i wr => n - (intOf i).toNat)
  case atStart => exact ⟨0, rfl, Nat.zero_le _, rfl, Below.refl _ _⟩
  case round =>
    obtain ⟨k, rfl, hk, htk, hbel⟩ := hrel
    replace htk := Lib.hid htk
    have hsz := hbel.size
    have hB1 := hB0.trans (hbel.mono hB0.size)
    have kw := (hbel.cell (by simp; omega)).trans kb
    have mw := (hbel.cell (by simp; omega)).trans mb
    by_cases hlt : k < n
    · obtain ⟨b1, f1, d, h, rfl, hb0, hb1, hja, hcs, hr1⟩ := gs_at (h1.out.frame good_glyph (Below.sameB hB1 hh1)) hlt
      obtain ⟨b2, f2, d', h', rfl, hb0', hb2, hja', hcs', hr2⟩ := gs_at (h2.out.frame good_glyph (Below.sameB hB1 hh2)) hlt
      have hl1 := hL.out d (List.mem_of_getElem? hja)
      have hl2 := hM.out d' (List.mem_of_getElem? hja')
      have hs1 := hB1.size
      obtain ⟨t, ht⟩ : ∃ t, t = decide (d = d') := ⟨_, rfl⟩
      have hcall := Lib.hid (fun dr os => Calls.regrown_of (l17Same_gl b1 (f1 + k * 7) b2 (f2 + k * 7) d d' h h' t ht lo hi lo' hi' (Go.Sort.grow (redrawn wr dr) os) (Nat.lt_of_lt_of_le (by omega) (below_regrown wr dr os).size) (Nat.lt_of_lt_of_le (by omega) (below_regrown wr dr os).size)
        (fun i u hu => cell_regrown (hcs i u hu) dr os) (fun i u hu => cell_regrown (hcs' i u hu) dr os) (hr1.frame (Below.sameB (below_regrown wr dr os) (by omega))) (hr2.frame (Below.sameB (below_regrown wr dr os) (by omega))) (Nat.le_trans (by omega) (below_regrown wr dr os).size) (Nat.le_trans (by omega) (below_regrown wr dr os).size) hl1 hl2))
      have hno := Lib.hid (fun h => ne_list_at hja hja' h)
      have hst := Lib.hid (fun (h : d = d') => take_eq_step htk.out hja (h ▸ hja'))
      have hi : (0 : Int) ≤ (k : Int) ∧ (k : Int) < (n : Int) := by omega
      have kg : ∀ dr os, (Go.Sort.grow (redrawn wr dr) os).cell? ⟨w.heap.size, 1, none⟩ = some (.slice (some ⟨b1, f1, none⟩) n c) := cell_regrown kw
      have mg : ∀ dr os, (Go.Sort.grow (redrawn wr dr) os).cell? ⟨w.heap.size + 1, 1, none⟩ = some (.slice (some ⟨b2, f2, none⟩) n c') := cell_regrown mw
      clear hr1 hr2 hja hja' hl1 hl2 hcs hcs'
      replace ht := Lib.hid ht
      go_wp2_with fail
      refine wp_region_quiet_below (by kernel_rfl) (by kernel_rfl) ?_
      repeat (go_big_quiet_step (exact hcall.out _ _))
      refine wpQuiet_nil ?_
      intro _ hw'
      obtain ⟨⟨dq, osq⟩, hw''⟩ := hw'
      subst hw''
      have hb3 := hbel.trans ((below_regrown wr dq osq).mono hsz)
      generalize Go.Sort.grow (redrawn wr dq) osq = w1 at hb3 ⊢
      clear kg mg
      cases t with
      | false =>
        have hbf : b = false := hne.out (.inr fun e => by have := hno.out ht.out.symm; simp [e] at this)
        subst hbf
        go_wp2_with fail
        go_ret
        exact ⟨rfl, hB0.trans (hb3.mono hB0.size)⟩
      | true =>
        go_wp2_with fail
        go_roundw
        case rel => exact ⟨k + 1, by go_num, by omega, hst.out (of_decide_eq_true ht.out.symm), hb3⟩
        case measure => simp [intOf]; omega
    · have hkn : k = n := by omega
      have hbt : b = true := hyes.out (by first | rfl | trivial) (hfin.out (by rw [← hkn]; exact htk.out))
      subst hbt
      replace hkn := Lib.hid hkn
      go_wp2_with fail
      go_ret
      exact ⟨rfl, hB1⟩
end Go.Proofs.YtgfbcbbcnineiaaGreat

