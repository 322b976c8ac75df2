/- One glyph's marks: exact marks and what is held. Conditions: as each states. -/
import Derived.Test.YtgdkabljgabjoaaGreatDoorRa45
import Derived.Test.YtgdkabljgabjoaaGreatDoorRa21
namespace Go.Proofs.YtgdkabljgabjoaaGreatDoor
open Go.RowKit
set_option linter.unusedVariables false
set_option maxRecDepth 100000

/-- one glyph's marks from m on -/
def mkOne (m : Int) (d : Gl) : Gl := ⟨d.name, d.code, d.adv, mkLs m d.out, mkPart (m + 3 * (kN d.out : Int)) d.parts.length, mkAnchor (m + 3 * (kN d.out : Int) + 3 * (d.parts.length : Int)) d.anchors.length, d.hints⟩
def oneN (d : Gl) : Nat := 3 * kN d.out + 3 * d.parts.length + 3 * d.anchors.length
set_option maxHeartbeats 2000000 in
theorem markOutline_x (A : Option Addr) (n c lo hi : Nat) (ys : List Value) (Ls : List (List Knot)) (m : Int) (w : World) (hr : OutIn w lo hi A n c ys Ls) (hhi : hi ≤ w.heap.size) (hm0 : 0 ≤ m) (hm : m ≤ 10000000) (hn : n ≤ 1048576) (hN : kN Ls ≤ 1048576) :
    Calls Tryz.prog 35 #[.agg #[.slice A n c], .int .i64 m] w fun e w' => e = .returned (.int .i64 (m + 3 * (kN Ls : Int))) ∧ MarkW knotK lo hi w w' ∧ OutIn w' lo hi A n c ys (mkLs m Ls) := by
  have hc := Lib.hid (fun a => markLoopS_x A n c lo hi ys Ls m (w.alloc a) (hr.same ((SameB.refl _ _ w).alloc hhi _)) hm0 hm hn hN)
  clear hr
  go_enter Tryz.func35, Tryz.ntmps35
  go_wp2_with fail
  refine (hc.out _).mono ?_
  rintro e w1 ⟨rfl, h3, h4⟩
  go_wp2_with fail
  go_ret
  exact ⟨rfl, (MarkW.ofBelow (Go.Joins.below_alloc1 _ _)).trans h3, h4⟩
set_option maxHeartbeats 4000000 in
theorem markGlyph_x (d : Gl) (h : GlH) (lo hi : Nat) (m : Int) (w : World) (hr : GlX w lo hi d h) (hs : GlSm d) (hhi : hi ≤ w.heap.size) (hm0 : 0 ≤ m) (hm : m ≤ 100) :
    Calls Tryz.prog 9 #[glV d h, .int .i64 m] w fun e w' => e = .returned (.int .i64 (m + (oneN d : Int))) ∧ MarkW notL lo hi w w' ∧ GlX w' lo hi (mkOne m d) h := by
  obtain ⟨k1, k2, k3, k4⟩ := hs
  have hpl := hr.pl
  have hal := hr.al
  have hcap := hr.cap
  obtain ⟨ys, ho⟩ := hr.o
  have hol := ho.1
  have hs0 : SameB lo hi w (w.alloc (.cells #[.string d.name, .int .i64 d.code, .int .i64 d.adv, .slice h.out.A h.out.n h.out.c, .slice h.parts.A h.parts.n h.parts.c, .slice h.anchors.A h.anchors.n h.anchors.c, .string d.hints] 28 (0, 0))) := (SameB.refl _ _ w).alloc hhi _
  have ho0 := Lib.hid (ho.same hs0)
  have hp0 := Lib.hid (own_same hr.p fun g hg => hs0 g (hr.p.lt g hg).1 (hr.ph g hg))
  have ha0 := Lib.hid (own_same hr.a fun g hg => hs0 g (hr.a.lt g hg).1 (hr.ah g hg))
  have hph := Lib.hid hr.ph
  have hah := Lib.hid hr.ah
  have HB := Lib.hid (heap_alloc_new w (.cells #[.string d.name, .int .i64 d.code, .int .i64 d.adv, .slice h.out.A h.out.n h.out.c, .slice h.parts.A h.parts.n h.parts.c, .slice h.anchors.A h.anchors.n h.anchors.c, .string d.hints] 28 (0, 0)))
  have hM0 := Lib.hid (MarkW.ofBelow (P := notL) (lo := lo) (hi := hi) (Go.Joins.below_alloc1 w (.cells #[.string d.name, .int .i64 d.code, .int .i64 d.adv, .slice h.out.A h.out.n h.out.c, .slice h.parts.A h.parts.n h.parts.c, .slice h.anchors.A h.anchors.n h.anchors.c, .string d.hints] 28 (0, 0))))
  have hzz : (w.alloc (.cells #[.string d.name, .int .i64 d.code, .int .i64 d.adv, .slice h.out.A h.out.n h.out.c, .slice h.parts.A h.parts.n h.parts.c, .slice h.anchors.A h.anchors.n h.anchors.c, .string d.hints] 28 (0, 0))).heap.size = w.heap.size + 1 := by simp
  have hz0 : w.heap.size < (w.alloc (.cells #[.string d.name, .int .i64 d.code, .int .i64 d.adv, .slice h.out.A h.out.n h.out.c, .slice h.parts.A h.parts.n h.parts.c, .slice h.anchors.A h.anchors.n h.anchors.c, .string d.hints] 28 (0, 0))).heap.size := by omega
  replace hzz := Lib.hid hzz
  clear hr ho hs0
  go_enter Tryz.func9, Tryz.ntmps9
  go_wp2_with fail
  generalize w.alloc (.cells #[.string d.name, .int .i64 d.code, .int .i64 d.adv, .slice h.out.A h.out.n h.out.c, .slice h.parts.A h.parts.n h.parts.c, .slice h.anchors.A h.anchors.n h.anchors.c, .string d.hints] 28 (0, 0)) = w0 at *
  refine (markOutline_x h.out.A h.out.n h.out.c lo hi ys d.out m w0 ho0.out (by omega) hm0 (by omega) (by omega) (by omega)).mono ?_
  rintro e w1 ⟨rfl, hM1, ho1⟩
  have hz1 := hM1.size
  have hp1 := Lib.hid (own_marks hp0.out (by unfold knotK; decide) hM1)
  have ha1 := Lib.hid (own_marks ha0.out (by unfold knotK; decide) hM1)
  have HB1 := Lib.hid ((hM1.sameB (lo' := hi) (hi' := w0.heap.size) (.inr (Nat.le_refl _)) (Nat.le_refl _) w.heap.size hhi (by omega)).trans HB.out)
  have hMM1 := Lib.hid (hM0.out.trans (hM1.mono (Nat.le_refl _) (Nat.le_refl _) knot_notL))
  have b4 : w1.cell? ⟨w.heap.size, 4, none⟩ = some (.slice h.parts.A h.parts.n h.parts.c) := by rw [Go.Joins.cell_of_block HB1.out]; rfl
  have bl1 : w.heap.size < w1.heap.size := by omega
  replace ho1 := Lib.hid ho1
  clear hM1 ho0 hp0 ha0 HB hM0
  go_wp2_with fail
  refine (markPartS_any h.parts.A h.parts.n h.parts.c lo _ (m + 3 * (kN d.out : Int)) w1 hp1.out (by omega) (by omega) (by omega)).mono ?_
  rintro e w2 ⟨rfl, hg2, hp2, hz2⟩
  have hM2 := MarkW.ofOwn hp1.out hg2 hp2 (show partK 106 from rfl) hph.out
  have ho2 := Lib.hid (ho1.out.marksX (by unfold partK; decide) (by unfold partK; decide) hM2)
  have ha2 := Lib.hid (own_marks ha1.out (by unfold partK; decide) hM2)
  have HB2 := Lib.hid ((hM2.sameB (lo' := hi) (hi' := w1.heap.size) (.inr (Nat.le_refl _)) (Nat.le_refl _) w.heap.size hhi (by omega)).trans HB1.out)
  have hMM2 := Lib.hid (hMM1.out.trans (hM2.mono (Nat.le_refl _) (Nat.le_refl _) part_notL))
  have b5 : w2.cell? ⟨w.heap.size, 5, none⟩ = some (.slice h.anchors.A h.anchors.n h.anchors.c) := by rw [Go.Joins.cell_of_block HB2.out]; rfl
  have bl2 : w.heap.size < w2.heap.size := by omega
  replace hp2 := Lib.hid hp2
  replace hz2 := Lib.hid hz2
  clear hM2 ho1 hp1 ha1 HB1 hMM1 b4 bl1 hg2
  go_wp2_with fail
  refine (markAnchorS_any h.anchors.A h.anchors.n h.anchors.c lo _ (m + 3 * (kN d.out : Int) + 3 * (h.parts.n : Int)) w2 ha2.out (by omega) (by omega) (by omega)).mono ?_
  rintro e w3 ⟨rfl, hg3, ha3, hz3⟩
  have hM3 := MarkW.ofOwn ha2.out hg3 ha3 (show anchK 117 from rfl) hah.out
  have hMM3 := Lib.hid (hMM2.out.trans (hM3.mono (Nat.le_refl _) (Nat.le_refl _) anch_notL))
  have ho3 := Lib.hid (ho2.out.marksX (by unfold anchK; decide) (by unfold anchK; decide) hM3)
  have hp3 := Lib.hid (own_marks hp2.out (by unfold anchK; decide) hM3)
  replace ha3 := Lib.hid ha3
  clear hM3 HB2 hMM2 b5 bl2 hg3 ho2 ha2 hp2
  go_wp2_with fail
  go_ret
  refine ⟨?_, hMM3.out, ⟨⟨ys, ho3.out⟩, ?_, by simp [mkOne, mkPart_length, hpl], hph.out, ?_, by simp [mkOne, mkAnchor_length, hal], hah.out, hcap⟩⟩
  · have e1 : m + 3 * (kN d.out : Int) + 3 * (h.parts.n : Int) + 3 * (h.anchors.n : Int) = m + (oneN d : Int) := by unfold oneN; rw [hpl, hal]; push_cast; omega
    rw [e1]
    rfl
  · have h1 := hp3.out
    rw [← hpl] at h1 ⊢
    exact h1
  · have h1 := ha3.out
    rw [← hal, ← hpl] at h1
    rw [← hal]
    exact h1
set_option maxHeartbeats 4000000 in
theorem heldGlyph_any (d : Gl) (h : GlH) (lo hi : Nat) (m : Int) (w : World) (nm hn : ByteArray) (cd av : Int) (hr : GlRd w lo hi (mkOne m d) h) (hs : GlSm d) (hhi : hi ≤ w.heap.size) (hm0 : 0 ≤ m) (hm : m ≤ 100) :
    Calls Tryz.prog 10 #[.agg #[.string nm, .int .i64 cd, .int .i64 av, .slice h.out.A h.out.n h.out.c, .slice h.parts.A h.parts.n h.parts.c, .slice h.anchors.A h.anchors.n h.anchors.c, .string hn], .int .i64 m] w fun e w' => e = .returned (.int .i64 (m + (oneN d : Int))) ∧ Below w.heap.size w w' := by
  obtain ⟨k1, k2, k3, k4⟩ := hs
  obtain ⟨h0, h1, h2⟩ := hr
  have hol : d.out.length = h.out.n := by have := h0.1; rwa [show (mkOne m d).out = mkLs m d.out from rfl, mkLs_length] at this
  have hpl : d.parts.length = h.parts.n := by have := h1.1; rwa [show (mkOne m d).parts = mkPart (m + 3 * (kN d.out : Int)) d.parts.length from rfl, mkPart_length] at this
  have hal : d.anchors.length = h.anchors.n := by have := h2.1; rwa [show (mkOne m d).anchors = mkAnchor (m + 3 * (kN d.out : Int) + 3 * (d.parts.length : Int)) d.anchors.length from rfl, mkAnchor_length] at this
  have h0' := Lib.hid (show OutRd w lo hi h.out.A h.out.n (mkLs m d.out) from h0)
  have h1' := Lib.hid (show RdS 3 (FlatR partC) w lo hi h.parts.A h.parts.n (mkPart (m + 3 * (kN d.out : Int)) h.parts.n) from by
    rw [show mkPart (m + 3 * (kN d.out : Int)) h.parts.n = mkPart (m + 3 * (kN d.out : Int)) d.parts.length by rw [hpl]]; exact h1)
  have h2' := Lib.hid (show RdS 3 (FlatR anchC) w lo hi h.anchors.A h.anchors.n (mkAnchor (m + 3 * (kN d.out : Int) + 3 * (h.parts.n : Int)) h.anchors.n) from by
    rw [show mkAnchor (m + 3 * (kN d.out : Int) + 3 * (h.parts.n : Int)) h.anchors.n = mkAnchor (m + 3 * (kN d.out : Int) + 3 * (d.parts.length : Int)) d.anchors.length by rw [hpl, hal]]; exact h2)
  have e1 : m + 3 * (kN d.out : Int) + 3 * (h.parts.n : Int) + 3 * (h.anchors.n : Int) = m + (oneN d : Int) := by unfold oneN; rw [hpl, hal]; push_cast; omega
  replace e1 := Lib.hid e1
  have hpn : h.parts.n ≤ 100 := by omega
  have han : h.anchors.n ≤ 100 := by omega
  have hon : h.out.n ≤ 100 := by omega
  have hb0 : Below w.heap.size w (w.alloc (.cells #[.string nm, .int .i64 cd, .int .i64 av, .slice h.out.A h.out.n h.out.c, .slice h.parts.A h.parts.n h.parts.c, .slice h.anchors.A h.anchors.n h.anchors.c, .string hn] 28 (0, 0))) := Go.Joins.below_alloc1 _ _
  have HB := Lib.hid (heap_alloc_new w (.cells #[.string nm, .int .i64 cd, .int .i64 av, .slice h.out.A h.out.n h.out.c, .slice h.parts.A h.parts.n h.parts.c, .slice h.anchors.A h.anchors.n h.anchors.c, .string hn] 28 (0, 0)))
  have hz0 : w.heap.size < (w.alloc (.cells #[.string nm, .int .i64 cd, .int .i64 av, .slice h.out.A h.out.n h.out.c, .slice h.parts.A h.parts.n h.parts.c, .slice h.anchors.A h.anchors.n h.anchors.c, .string hn] 28 (0, 0))).heap.size := by simp
  have hB0 := Lib.hid hb0
  have q0 := Lib.hid (h0'.out.frame good_loop (Below.sameB hb0 hhi))
  have q1 := Lib.hid (h1'.out.frame (good_flat _) (Below.sameB hb0 hhi))
  have q2 := Lib.hid (h2'.out.frame (good_flat _) (Below.sameB hb0 hhi))
  clear h0 h1 h2 h0' h1' h2' hb0 hol hpl hal
  go_enter Tryz.func10, Tryz.ntmps10
  go_wp2_with fail
  generalize w.alloc (.cells #[.string nm, .int .i64 cd, .int .i64 av, .slice h.out.A h.out.n h.out.c, .slice h.parts.A h.parts.n h.parts.c, .slice h.anchors.A h.anchors.n h.anchors.c, .string hn] 28 (0, 0)) = w0 at *
  refine (heldOutline_any h.out.A h.out.n h.out.c lo hi d.out m w0 q0.out (by omega) hm0 (by omega) (by omega) (by omega)).mono ?_
  rintro e w1 ⟨rfl, hb1⟩
  have hz1 := hb1.size
  have HB1 := Lib.hid ((hb1.block _ hz0).trans HB.out)
  have hB1 := Lib.hid (hB0.out.trans (hb1.mono (by omega)))
  have p1 := Lib.hid (q1.out.frame (good_flat _) (Below.sameB hb1 (by omega)))
  have p2 := Lib.hid (q2.out.frame (good_flat _) (Below.sameB hb1 (by omega)))
  have b4 : w1.cell? ⟨w.heap.size, 4, none⟩ = some (.slice h.parts.A h.parts.n h.parts.c) := by rw [Go.Joins.cell_of_block HB1.out]; rfl
  have b5 : w1.cell? ⟨w.heap.size, 5, none⟩ = some (.slice h.anchors.A h.anchors.n h.anchors.c) := by rw [Go.Joins.cell_of_block HB1.out]; rfl
  have bl1 : w.heap.size < w1.heap.size := by omega
  have t1 : ¬ m + 3 * (kN d.out : Int) < 0 := by omega
  clear hb1 HB hB0 q0 q1 q2
  go_wp2_with fail
  refine (heldPartS_any h.parts.A h.parts.n h.parts.c lo hi (m + 3 * (kN d.out : Int)) w1 p1.out (by omega) (by omega) (by omega)).mono ?_
  rintro e w2 ⟨rfl, rfl⟩
  have t2 : ¬ m + 3 * (kN d.out : Int) + 3 * (h.parts.n : Int) < 0 := by omega
  clear p1
  go_wp2_with fail
  refine (heldAnchorS_any h.anchors.A h.anchors.n h.anchors.c lo hi (m + 3 * (kN d.out : Int) + 3 * (h.parts.n : Int)) w1 p2.out (by omega) (by omega) (by omega) (by omega)).mono ?_
  rintro e w3 ⟨rfl, hb3⟩
  have t3 : ¬ m + 3 * (kN d.out : Int) + 3 * (h.parts.n : Int) + 3 * (h.anchors.n : Int) < 0 := by omega
  have hB3 := Lib.hid (hB1.out.trans (hb3.mono (by omega)))
  clear p2 hb3
  go_wp2_with fail
  go_ret
  exact ⟨by rw [← e1.out]; rfl, hB3.out⟩
end Go.Proofs.YtgdkabljgabjoaaGreatDoor

/- The law on ReadGlyph. Printed by lawread.py. Conditions: as it states. -/
namespace Go.Proofs.YtgdkabljgabjoaaGreatDoor
open Go.RowKit
set_option linter.unusedVariables false
set_option maxRecDepth 100000

theorem glyphOk_smR {g : Gl} (h : glyphOk g = true) : GlSm g := by
  have h1 := glyphOk_is h
  have h2 := outOk_is h1.out
  have h3 : ∀ L : List (List Knot), (∀ K ∈ L, loopOk K = true) → kN L ≤ L.length * 60 := fun L hL => by
    induction L with
    | nil => simp [kN]
    | cons a L ih =>
      have h3 := ih fun K hK => hL K (by simp [hK])
      have h4 := (loopOk_parts (hL a (by simp))).2.2
      unfold kN at h3 ⊢
      simp
      omega
  have h4 := h3 g.out h2.2
  exact ⟨by omega, by omega, by have := h1.pl; omega, by have := h1.al; omega⟩
theorem gl0_sm : GlSm gl0 := ⟨by simp [gl0], by simp [gl0, kN], by simp [gl0], by simp [gl0]⟩
theorem GlSm.oneN_le {d : Gl} (h : GlSm d) : oneN d ≤ 31000 := by
  obtain ⟨_, h1, h2, h3⟩ := h
  unfold oneN; omega
theorem GlSm.outSmOne {d : Gl} (h : GlSm d) (m : Int) : OutSm (mkOne m d).out := h.outSm.mk m
theorem GlSm.smallR {d : Gl} (h : GlSm d) : d.small 100000000 := by
  have hk := h.outSm.k
  obtain ⟨h1, h2, h3, h4⟩ := h
  exact ⟨by omega, fun K hK => by have := hk K hK; omega, by omega, by omega⟩
set_option maxHeartbeats 8000000 in
theorem lawReadGlyph_walk (s : ByteArray) (h0 : s.size ≤ maxLen) {w : World} (hm : MaxI w) :
    Calls Tryz.prog 3 #[.string s] w fun e w' => e = .returned (.bool true) ∧ Below w.heap.size w w' := by
  have hml := hm.lt
  by_cases hs : 1048576 < s.size
  · have t1 : (1048576 : Int) < (s.size : Int) := by omega
    go_enter Tryz.func3, Tryz.ntmps3
    go_wp2_with fail
    go_ret
    exact ⟨rfl, Below.refl _ _⟩
  have t1 : ¬ (1048576 : Int) < (s.size : Int) := by omega
  have hs2 : s.size ≤ 1048576 := by omega
  have hcS := Lib.hid (fun W => specReadGlyph_any s W hs2)
  have hcI := Lib.hid (fun W h => implReadGlyph_any s W h hs2)
  replace hm := Lib.hid hm
  clear hs
  go_enter Tryz.func3, Tryz.ntmps3
  go_wp2_with fail
  refine (hcS.out _).mono ?_
  rintro e w1 ⟨d, h1, t, rfl, hcase, huniq, hx1, hb1⟩
  have hsm : GlSm d := by
    rcases hcase with ⟨_, h, _⟩ | ⟨_, rfl, _⟩
    · exact glyphOk_smR h
    · exact gl0_sm
  have hbb : Below w1.heap.size w1 (w1.alloc (.cells #[.string d.name, .int .i64 d.code, .int .i64 d.adv, .slice h1.out.A h1.out.n h1.out.c, .slice h1.parts.A h1.parts.n h1.parts.c, .slice h1.anchors.A h1.anchors.n h1.anchors.c, .string d.hints] 28 (0, 0))) := Go.Joins.below_alloc1 _ _
  have bW := Lib.hid (heap_alloc_new w1 (.cells #[.string d.name, .int .i64 d.code, .int .i64 d.adv, .slice h1.out.A h1.out.n h1.out.c, .slice h1.parts.A h1.parts.n h1.parts.c, .slice h1.anchors.A h1.anchors.n h1.anchors.c, .string d.hints] 28 (0, 0)))
  have hB1 := hb1
  have hz1 := hb1.size
  have hB2 := Lib.hid (hb1.trans (hbb.mono hz1))
  have hz2 := Lib.hid (show w1.heap.size + 1 = (w1.alloc (.cells #[.string d.name, .int .i64 d.code, .int .i64 d.adv, .slice h1.out.A h1.out.n h1.out.c, .slice h1.parts.A h1.parts.n h1.parts.c, .slice h1.anchors.A h1.anchors.n h1.anchors.c, .string d.hints] 28 (0, 0))).heap.size by simp)
  have xW := Lib.hid (hx1.same (Below.sameB hbb (Nat.le_refl _)))
  clear hb1 hbb hx1 hB1
  go_upto_region 4 with fail
  generalize w1.alloc (.cells #[.string d.name, .int .i64 d.code, .int .i64 d.adv, .slice h1.out.A h1.out.n h1.out.c, .slice h1.parts.A h1.parts.n h1.parts.c, .slice h1.anchors.A h1.anchors.n h1.anchors.c, .string d.hints] 28 (0, 0)) = w2 at *
  obtain ⟨BW, hBW⟩ : ∃ B, B = w1.heap.size := ⟨_, rfl⟩
  rw [← hBW] at bW hz2 hz1 xW ⊢
  clear hBW
  have hz2' := hz2.out
  have hm2 := hm.out.kept hB2.out hml
  go_wp2_with fail
  refine (hcI.out _ hm2).mono ?_
  rintro e w3 ⟨d', h3, t', rfl, hcase', huniq', hx3, hb3⟩
  have he : t = t' ∧ d = d' := by
    rcases hcase with ⟨rfl, g1, g2⟩ | ⟨rfl, rfl, g1⟩
    · obtain ⟨g3, g4⟩ := huniq' d g1 g2
      exact ⟨g3.symm, g4.symm⟩
    · rcases hcase' with ⟨_, g2, g3⟩ | ⟨rfl, rfl, _⟩
      · exact absurd g3 (g1 _ g2)
      · exact ⟨rfl, rfl⟩
  obtain ⟨rfl, rfl⟩ := he
  have hz3 := hb3.size

  have hsame : Hid (∀ (d' : Gl) (t' : Bool), (t' = true ∧ glyphOk d' = true ∧ s.data.toList = glyphT d' ∨ t' = false ∧ d' = gl0 ∧ ∀ g, glyphOk g = true → s.data.toList ≠ glyphT g) → (∀ g, glyphOk g = true → s.data.toList = glyphT g → t' = true ∧ d' = g) → t = t' ∧ d = d') := fun d' t' hc2 hu2 => by
    rcases hcase with ⟨rfl, g1, g2⟩ | ⟨rfl, rfl, g1⟩
    · obtain ⟨g3, g4⟩ := hu2 d g1 g2
      exact ⟨g3.symm, g4.symm⟩
    · rcases hc2 with ⟨_, g2, g3⟩ | ⟨rfl, rfl, _⟩
      · exact absurd g3 (g1 _ g2)
      · exact ⟨rfl, rfl⟩
  clear huniq hcase
  have hB3 := Lib.hid (hB2.out.trans (hb3.mono hB2.out.size))
  replace bW := Lib.hid ((hb3.block BW (by omega)).trans bW.out)
  replace xW := Lib.hid (xW.out.same (Below.sameB hb3 (by omega)))
  obtain ⟨LG, hLG⟩ : ∃ B, B = w2.heap.size := ⟨_, rfl⟩
  obtain ⟨BG, hBG⟩ : ∃ B, B = w3.heap.size := ⟨_, rfl⟩
  have xG := Lib.hid hx3
  rw [← hLG, ← hBG] at xG
  rw [← hLG] at hz2' hz3
  rw [← hBG] at hz3
  clear hb3 hx3 huniq' hcase' hm2 hz2
  have hc : Below w3.heap.size w3 (w3.alloc (.cells #[.string d.name, .int .i64 d.code, .int .i64 d.adv, .slice h3.out.A h3.out.n h3.out.c, .slice h3.parts.A h3.parts.n h3.parts.c, .slice h3.anchors.A h3.anchors.n h3.anchors.c, .string d.hints] 28 (0, 0))) := Go.Joins.below_alloc1 _ _
  have bG := Lib.hid (heap_alloc_new w3 (.cells #[.string d.name, .int .i64 d.code, .int .i64 d.adv, .slice h3.out.A h3.out.n h3.out.c, .slice h3.parts.A h3.parts.n h3.parts.c, .slice h3.anchors.A h3.anchors.n h3.anchors.c, .string d.hints] 28 (0, 0)))
  have hz4 := Lib.hid (show w3.heap.size + 1 = (w3.alloc (.cells #[.string d.name, .int .i64 d.code, .int .i64 d.adv, .slice h3.out.A h3.out.n h3.out.c, .slice h3.parts.A h3.parts.n h3.parts.c, .slice h3.anchors.A h3.anchors.n h3.anchors.c, .string d.hints] 28 (0, 0))).heap.size by simp)
  have hB4 := Lib.hid (hB3.out.trans (hc.mono hB3.out.size))
  replace bW := Lib.hid ((hc.block BW (by rw [← hBG]; omega)).trans bW.out)
  replace xW := Lib.hid (xW.out.same (Below.sameB hc (by rw [← hBG]; omega)))
  replace xG := Lib.hid (xG.out.same (Below.sameB hc (by rw [← hBG]; exact Nat.le_refl _)))
  clear hc
  go_upto_region 5 with fail
  generalize w3.alloc (.cells #[.string d.name, .int .i64 d.code, .int .i64 d.adv, .slice h3.out.A h3.out.n h3.out.c, .slice h3.parts.A h3.parts.n h3.parts.c, .slice h3.anchors.A h3.anchors.n h3.anchors.c, .string d.hints] 28 (0, 0)) = w4 at *
  rw [← hBG] at bG hz4 ⊢
  have hz4' := hz4.out
  replace hLG := Lib.hid hLG
  replace hBG := Lib.hid hBG
  have sm1 := Lib.hid hsm.smallR
  have sm2 := Lib.hid hsm.outSm
  have hon := hsm.oneN_le
  replace hsm := Lib.hid hsm
  have W0 : w4.cell? ⟨BW, 0, none⟩ = some (.string d.name) := by rw [Go.Joins.cell_of_block bW.out]; rfl
  have W1 : w4.cell? ⟨BW, 1, none⟩ = some (.int .i64 d.code) := by rw [Go.Joins.cell_of_block bW.out]; rfl
  have W2 : w4.cell? ⟨BW, 2, none⟩ = some (.int .i64 d.adv) := by rw [Go.Joins.cell_of_block bW.out]; rfl
  have W3 : w4.cell? ⟨BW, 3, none⟩ = some (.slice h1.out.A h1.out.n h1.out.c) := by rw [Go.Joins.cell_of_block bW.out]; rfl
  have W4 : w4.cell? ⟨BW, 4, none⟩ = some (.slice h1.parts.A h1.parts.n h1.parts.c) := by rw [Go.Joins.cell_of_block bW.out]; rfl
  have W5 : w4.cell? ⟨BW, 5, none⟩ = some (.slice h1.anchors.A h1.anchors.n h1.anchors.c) := by rw [Go.Joins.cell_of_block bW.out]; rfl
  have W6 : w4.cell? ⟨BW, 6, none⟩ = some (.string d.hints) := by rw [Go.Joins.cell_of_block bW.out]; rfl
  have Wl : BW < w4.heap.size := by omega
  have G0 : w4.cell? ⟨BG, 0, none⟩ = some (.string d.name) := by rw [Go.Joins.cell_of_block bG.out]; rfl
  have G1 : w4.cell? ⟨BG, 1, none⟩ = some (.int .i64 d.code) := by rw [Go.Joins.cell_of_block bG.out]; rfl
  have G2 : w4.cell? ⟨BG, 2, none⟩ = some (.int .i64 d.adv) := by rw [Go.Joins.cell_of_block bG.out]; rfl
  have G3 : w4.cell? ⟨BG, 3, none⟩ = some (.slice h3.out.A h3.out.n h3.out.c) := by rw [Go.Joins.cell_of_block bG.out]; rfl
  have G4 : w4.cell? ⟨BG, 4, none⟩ = some (.slice h3.parts.A h3.parts.n h3.parts.c) := by rw [Go.Joins.cell_of_block bG.out]; rfl
  have G5 : w4.cell? ⟨BG, 5, none⟩ = some (.slice h3.anchors.A h3.anchors.n h3.anchors.c) := by rw [Go.Joins.cell_of_block bG.out]; rfl
  have G6 : w4.cell? ⟨BG, 6, none⟩ = some (.string d.hints) := by rw [Go.Joins.cell_of_block bG.out]; rfl
  have Gl : BG < w4.heap.size := by omega
  go_wp2_with fail
  refine (eqGlyph_any d h3 h1 LG BG w.heap.size BW w4 (xG.out.rd sm2.out) (xW.out.rd sm2.out) (by omega) (by omega) sm1.out).mono ?_
  rintro e w5 ⟨rfl, hc⟩
  clear W0 W1 W2 W3 W4 W5 W6 Wl
  clear G0 G1 G2 G3 G4 G5 G6 Gl
  have hz5 := hc.size
  have hB5 := Lib.hid (hB4.out.trans (hc.mono hB4.out.size))
  replace bW := Lib.hid ((hc.block BW (by omega)).trans bW.out)
  replace bG := Lib.hid ((hc.block BG (by omega)).trans bG.out)
  replace xW := Lib.hid (xW.out.same (Below.sameB hc (by omega)))
  replace xG := Lib.hid (xG.out.same (Below.sameB hc (by omega)))
  clear hc
  have G0 : w5.cell? ⟨BG, 0, none⟩ = some (.string d.name) := by rw [Go.Joins.cell_of_block bG.out]; rfl
  have G1 : w5.cell? ⟨BG, 1, none⟩ = some (.int .i64 d.code) := by rw [Go.Joins.cell_of_block bG.out]; rfl
  have G2 : w5.cell? ⟨BG, 2, none⟩ = some (.int .i64 d.adv) := by rw [Go.Joins.cell_of_block bG.out]; rfl
  have G3 : w5.cell? ⟨BG, 3, none⟩ = some (.slice h3.out.A h3.out.n h3.out.c) := by rw [Go.Joins.cell_of_block bG.out]; rfl
  have G4 : w5.cell? ⟨BG, 4, none⟩ = some (.slice h3.parts.A h3.parts.n h3.parts.c) := by rw [Go.Joins.cell_of_block bG.out]; rfl
  have G5 : w5.cell? ⟨BG, 5, none⟩ = some (.slice h3.anchors.A h3.anchors.n h3.anchors.c) := by rw [Go.Joins.cell_of_block bG.out]; rfl
  have G6 : w5.cell? ⟨BG, 6, none⟩ = some (.string d.hints) := by rw [Go.Joins.cell_of_block bG.out]; rfl
  have Gl : BG < w5.heap.size := by omega
  go_wp2_with fail
  refine (markGlyph_x d h3 LG BG 1 w5 xG.out hsm.out (by omega) (by omega) (by omega)).mono ?_
  rintro e w6 ⟨rfl, hM, hx6⟩
  have hz6 := hM.size
  have hB6 := Lib.hid (hB5.out.trans ((hM.below (by omega)).mono (by omega)))
  replace bW := Lib.hid ((hM.sameB (lo' := 0) (hi' := LG) (.inl (Nat.le_refl _)) (by omega) BW (by omega) (by omega)).trans bW.out)
  replace bG := Lib.hid ((hM.sameB (lo' := BG) (hi' := w5.heap.size) (.inr (Nat.le_refl _)) (Nat.le_refl _) BG (Nat.le_refl _) (by omega)).trans bG.out)
  replace xW := Lib.hid (xW.out.same (hM.sameB (.inl (by omega)) (by omega)))
  replace xG := Lib.hid hx6
  have rdG := Lib.hid (hsm.out.outSmOne 1)
  clear hM hx6
  clear G0 G1 G2 G3 G4 G5 G6 Gl
  have G0 : w6.cell? ⟨BG, 0, none⟩ = some (.string d.name) := by rw [Go.Joins.cell_of_block bG.out]; rfl
  have G1 : w6.cell? ⟨BG, 1, none⟩ = some (.int .i64 d.code) := by rw [Go.Joins.cell_of_block bG.out]; rfl
  have G2 : w6.cell? ⟨BG, 2, none⟩ = some (.int .i64 d.adv) := by rw [Go.Joins.cell_of_block bG.out]; rfl
  have G3 : w6.cell? ⟨BG, 3, none⟩ = some (.slice h3.out.A h3.out.n h3.out.c) := by rw [Go.Joins.cell_of_block bG.out]; rfl
  have G4 : w6.cell? ⟨BG, 4, none⟩ = some (.slice h3.parts.A h3.parts.n h3.parts.c) := by rw [Go.Joins.cell_of_block bG.out]; rfl
  have G5 : w6.cell? ⟨BG, 5, none⟩ = some (.slice h3.anchors.A h3.anchors.n h3.anchors.c) := by rw [Go.Joins.cell_of_block bG.out]; rfl
  have G6 : w6.cell? ⟨BG, 6, none⟩ = some (.string d.hints) := by rw [Go.Joins.cell_of_block bG.out]; rfl
  have Gl : BG < w6.heap.size := by omega
  go_wp2_with fail
  refine (heldGlyph_any d h3 LG BG 1 w6 d.name d.hints d.code d.adv (xG.out.rd rdG.out) hsm.out (by omega) (by omega) (by omega)).mono ?_
  rintro e w7 ⟨rfl, hc⟩
  have t2 : ¬ (1 : Int) + (oneN d : Int) < 0 := by omega
  clear G0 G1 G2 G3 G4 G5 G6 Gl
  have hz7 := hc.size
  have hB7 := Lib.hid (hB6.out.trans (hc.mono hB6.out.size))
  replace bW := Lib.hid ((hc.block BW (by omega)).trans bW.out)
  replace bG := Lib.hid ((hc.block BG (by omega)).trans bG.out)
  replace xW := Lib.hid (xW.out.same (Below.sameB hc (by omega)))
  replace xG := Lib.hid (xG.out.same (Below.sameB hc (by omega)))
  clear hc
  have hm7 := hm.out.kept hB7.out hml
  go_wp2_with fail
  refine (hcI.out _ hm7).mono ?_
  rintro e w8 ⟨d', h9, t', rfl, hcase', huniq', hx8, hc⟩
  have he : t = t' ∧ d = d' := hsame.out d' t' hcase' huniq'
  obtain ⟨rfl, rfl⟩ := he
  obtain ⟨LH, hLH⟩ : ∃ B, B = w7.heap.size := ⟨_, rfl⟩
  have xH := Lib.hid hx8
  clear hx8 hcase' huniq' hm7
  have hz8 := hc.size
  have hB8 := Lib.hid (hB7.out.trans (hc.mono hB7.out.size))
  replace bW := Lib.hid ((hc.block BW (by omega)).trans bW.out)
  replace bG := Lib.hid ((hc.block BG (by omega)).trans bG.out)
  replace xW := Lib.hid (xW.out.same (Below.sameB hc (by omega)))
  replace xG := Lib.hid (xG.out.same (Below.sameB hc (by omega)))
  clear hc
  obtain ⟨BH, hBH⟩ : ∃ B, B = w8.heap.size := ⟨_, rfl⟩
  rw [← hLH, ← hBH] at xH
  rw [← hLH] at hz8 hz7
  rw [← hBH] at hz8
  have hc : Below w8.heap.size w8 (w8.alloc (.cells #[.string d.name, .int .i64 d.code, .int .i64 d.adv, .slice h9.out.A h9.out.n h9.out.c, .slice h9.parts.A h9.parts.n h9.parts.c, .slice h9.anchors.A h9.anchors.n h9.anchors.c, .string d.hints] 28 (0, 0))) := Go.Joins.below_alloc1 _ _
  have bH := Lib.hid (heap_alloc_new w8 (.cells #[.string d.name, .int .i64 d.code, .int .i64 d.adv, .slice h9.out.A h9.out.n h9.out.c, .slice h9.parts.A h9.parts.n h9.parts.c, .slice h9.anchors.A h9.anchors.n h9.anchors.c, .string d.hints] 28 (0, 0)))
  have hz9 := Lib.hid (show w8.heap.size + 1 = (w8.alloc (.cells #[.string d.name, .int .i64 d.code, .int .i64 d.adv, .slice h9.out.A h9.out.n h9.out.c, .slice h9.parts.A h9.parts.n h9.parts.c, .slice h9.anchors.A h9.anchors.n h9.anchors.c, .string d.hints] 28 (0, 0))).heap.size by simp)
  have hB9 := Lib.hid (hB8.out.trans (hc.mono hB8.out.size))
  replace bW := Lib.hid ((hc.block BW (by rw [← hBH]; omega)).trans bW.out)
  replace bG := Lib.hid ((hc.block BG (by rw [← hBH]; omega)).trans bG.out)
  replace xW := Lib.hid (xW.out.same (Below.sameB hc (by rw [← hBH]; omega)))
  replace xG := Lib.hid (xG.out.same (Below.sameB hc (by rw [← hBH]; omega)))
  replace xH := Lib.hid (xH.out.same (Below.sameB hc (by rw [← hBH]; exact Nat.le_refl _)))
  clear hc
  go_upto_region 16 with fail
  generalize w8.alloc (.cells #[.string d.name, .int .i64 d.code, .int .i64 d.adv, .slice h9.out.A h9.out.n h9.out.c, .slice h9.parts.A h9.parts.n h9.parts.c, .slice h9.anchors.A h9.anchors.n h9.anchors.c, .string d.hints] 28 (0, 0)) = w9 at *
  rw [← hBH] at bH hz9 ⊢
  have hz9' := hz9.out
  replace hLH := Lib.hid hLH
  replace hBH := Lib.hid hBH
  have W0 : w9.cell? ⟨BW, 0, none⟩ = some (.string d.name) := by rw [Go.Joins.cell_of_block bW.out]; rfl
  have W1 : w9.cell? ⟨BW, 1, none⟩ = some (.int .i64 d.code) := by rw [Go.Joins.cell_of_block bW.out]; rfl
  have W2 : w9.cell? ⟨BW, 2, none⟩ = some (.int .i64 d.adv) := by rw [Go.Joins.cell_of_block bW.out]; rfl
  have W3 : w9.cell? ⟨BW, 3, none⟩ = some (.slice h1.out.A h1.out.n h1.out.c) := by rw [Go.Joins.cell_of_block bW.out]; rfl
  have W4 : w9.cell? ⟨BW, 4, none⟩ = some (.slice h1.parts.A h1.parts.n h1.parts.c) := by rw [Go.Joins.cell_of_block bW.out]; rfl
  have W5 : w9.cell? ⟨BW, 5, none⟩ = some (.slice h1.anchors.A h1.anchors.n h1.anchors.c) := by rw [Go.Joins.cell_of_block bW.out]; rfl
  have W6 : w9.cell? ⟨BW, 6, none⟩ = some (.string d.hints) := by rw [Go.Joins.cell_of_block bW.out]; rfl
  have Wl : BW < w9.heap.size := by omega
  have H0 : w9.cell? ⟨BH, 0, none⟩ = some (.string d.name) := by rw [Go.Joins.cell_of_block bH.out]; rfl
  have H1 : w9.cell? ⟨BH, 1, none⟩ = some (.int .i64 d.code) := by rw [Go.Joins.cell_of_block bH.out]; rfl
  have H2 : w9.cell? ⟨BH, 2, none⟩ = some (.int .i64 d.adv) := by rw [Go.Joins.cell_of_block bH.out]; rfl
  have H3 : w9.cell? ⟨BH, 3, none⟩ = some (.slice h9.out.A h9.out.n h9.out.c) := by rw [Go.Joins.cell_of_block bH.out]; rfl
  have H4 : w9.cell? ⟨BH, 4, none⟩ = some (.slice h9.parts.A h9.parts.n h9.parts.c) := by rw [Go.Joins.cell_of_block bH.out]; rfl
  have H5 : w9.cell? ⟨BH, 5, none⟩ = some (.slice h9.anchors.A h9.anchors.n h9.anchors.c) := by rw [Go.Joins.cell_of_block bH.out]; rfl
  have H6 : w9.cell? ⟨BH, 6, none⟩ = some (.string d.hints) := by rw [Go.Joins.cell_of_block bH.out]; rfl
  have Hl : BH < w9.heap.size := by omega
  go_wp2_with fail
  refine (eqGlyph_any d h9 h1 LH BH w.heap.size BW w9 (xH.out.rd sm2.out) (xW.out.rd sm2.out) (by omega) (by omega) sm1.out).mono ?_
  rintro e w10 ⟨rfl, hc⟩
  clear W0 W1 W2 W3 W4 W5 W6 Wl
  clear H0 H1 H2 H3 H4 H5 H6 Hl
  have hz10 := hc.size
  have hB10 := Lib.hid (hB9.out.trans (hc.mono hB9.out.size))
  replace bW := Lib.hid ((hc.block BW (by omega)).trans bW.out)
  replace bG := Lib.hid ((hc.block BG (by omega)).trans bG.out)
  replace bH := Lib.hid ((hc.block BH (by omega)).trans bH.out)
  replace xW := Lib.hid (xW.out.same (Below.sameB hc (by omega)))
  replace xG := Lib.hid (xG.out.same (Below.sameB hc (by omega)))
  replace xH := Lib.hid (xH.out.same (Below.sameB hc (by omega)))
  clear hc
  have G0 : w10.cell? ⟨BG, 0, none⟩ = some (.string d.name) := by rw [Go.Joins.cell_of_block bG.out]; rfl
  have G1 : w10.cell? ⟨BG, 1, none⟩ = some (.int .i64 d.code) := by rw [Go.Joins.cell_of_block bG.out]; rfl
  have G2 : w10.cell? ⟨BG, 2, none⟩ = some (.int .i64 d.adv) := by rw [Go.Joins.cell_of_block bG.out]; rfl
  have G3 : w10.cell? ⟨BG, 3, none⟩ = some (.slice h3.out.A h3.out.n h3.out.c) := by rw [Go.Joins.cell_of_block bG.out]; rfl
  have G4 : w10.cell? ⟨BG, 4, none⟩ = some (.slice h3.parts.A h3.parts.n h3.parts.c) := by rw [Go.Joins.cell_of_block bG.out]; rfl
  have G5 : w10.cell? ⟨BG, 5, none⟩ = some (.slice h3.anchors.A h3.anchors.n h3.anchors.c) := by rw [Go.Joins.cell_of_block bG.out]; rfl
  have G6 : w10.cell? ⟨BG, 6, none⟩ = some (.string d.hints) := by rw [Go.Joins.cell_of_block bG.out]; rfl
  have Gl : BG < w10.heap.size := by omega
  go_wp2_with fail
  refine (heldGlyph_any d h3 LG BG 1 w10 d.name d.hints d.code d.adv (xG.out.rd rdG.out) hsm.out (by omega) (by omega) (by omega)).mono ?_
  rintro e w11 ⟨rfl, hc⟩
  clear G0 G1 G2 G3 G4 G5 G6 Gl
  have hz11 := hc.size
  have hB11 := Lib.hid (hB10.out.trans (hc.mono hB10.out.size))
  replace bW := Lib.hid ((hc.block BW (by omega)).trans bW.out)
  replace bG := Lib.hid ((hc.block BG (by omega)).trans bG.out)
  replace bH := Lib.hid ((hc.block BH (by omega)).trans bH.out)
  replace xW := Lib.hid (xW.out.same (Below.sameB hc (by omega)))
  replace xG := Lib.hid (xG.out.same (Below.sameB hc (by omega)))
  replace xH := Lib.hid (xH.out.same (Below.sameB hc (by omega)))
  clear hc
  go_wp2_with fail
  go_ret
  exact ⟨rfl, hB11.out⟩
end Go.Proofs.YtgdkabljgabjoaaGreatDoor
