/- The law on ReadSet. Printed by lawreads.py. Conditions: as it states. -/
import Derived.Test.YtgdkabljgabjoaaGreatDoorRb45
import Derived.Test.YtgdkabljgabjoaaGreatDoorRb43
import Derived.Test.YtgdkabljgabjoaaGreatDoorRb17
namespace Go.Proofs.YtgdkabljgabjoaaGreatDoor
open Go.RowKit
set_option linter.unusedVariables false
set_option maxRecDepth 100000

theorem mkGs_memR {m : Int} {L : List Gl} {x : Gl} (h : x ∈ mkGs m L) : ∃ d ∈ L, ∃ m', x = mkGl m' d := by
  induction L generalizing m with
  | nil => simp [mkGs] at h
  | cons d L ih =>
    rw [mkGs] at h
    rcases List.mem_cons.1 h with h | h
    · exact ⟨d, List.mem_cons_self, m, h⟩
    · obtain ⟨e, he, m', hm⟩ := ih h
      exact ⟨e, List.mem_cons_of_mem _ he, m', hm⟩
set_option maxHeartbeats 8000000 in
theorem lawReadSet_walk (s : ByteArray) (h0 : s.size ≤ maxLen) {w : World} (hm : MaxI w) :
    Calls Tryz.prog 4 #[.string s] w fun e w' => e = .returned (.bool true) ∧ Below w.heap.size w w' := by
  have hml := hm.lt
  by_cases hs : 1048576 < s.size
  · have t1 : (1048576 : Int) < (s.size : Int) := by omega
    go_enter Tryz.func4, Tryz.ntmps4
    go_wp2_with fail
    go_ret
    exact ⟨rfl, Below.refl _ _⟩
  have t1 : ¬ (1048576 : Int) < (s.size : Int) := by omega
  have hs2 : s.size ≤ 1048576 := by omega
  have hcS := Lib.hid (fun W => specReadSet_any s W hs2)
  have hcI := Lib.hid (fun W h => implReadSet_any s W h hs2)
  replace hm := Lib.hid hm
  clear hs
  go_enter Tryz.func4, Tryz.ntmps4
  go_wp2_with fail
  refine (hcS.out _).mono ?_
  rintro e w1 ⟨u, L, A1, n1, c1, ys1, hs1, iv1, t, rfl, hcase, huniq, hx1, hb1⟩
  have hsm : L.length ≤ 40 ∧ ∀ g ∈ L, GlSm g := by
    rcases hcase with ⟨_, h, _⟩ | ⟨_, _, rfl, _⟩
    · exact ⟨(setOk_gl h).2.1, fun g hg => glyphOk_smR ((setOk_gl h).2.2 g hg)⟩
    · exact ⟨by simp, fun g hg => (by cases hg)⟩
  have hbb : Below w1.heap.size w1 (w1.alloc (.cells #[.int .i64 u, .slice A1 n1 c1] 36 (0, 0))) := Go.Joins.below_alloc1 _ _
  have bW := Lib.hid (heap_alloc_new w1 (.cells #[.int .i64 u, .slice A1 n1 c1] 36 (0, 0)))
  have hz1 := hb1.size
  have hB2 := Lib.hid (hb1.trans (hbb.mono hz1))
  have hz2 := Lib.hid (show w1.heap.size + 1 = (w1.alloc (.cells #[.int .i64 u, .slice A1 n1 c1] 36 (0, 0))).heap.size by simp)
  have xW := Lib.hid (hx1.same (Below.sameB hbb (Nat.le_refl _)))
  clear hb1 hbb hx1
  go_upto_region 4 with fail
  generalize w1.alloc (.cells #[.int .i64 u, .slice A1 n1 c1] 36 (0, 0)) = w2 at *
  obtain ⟨BW, hBW⟩ : ∃ B, B = w1.heap.size := ⟨_, rfl⟩
  rw [← hBW] at bW hz2 hz1 xW ⊢
  clear hBW
  have hz2' := hz2.out
  have hm2 := hm.out.kept hB2.out hml
  go_wp2_with fail
  refine (hcI.out _ hm2).mono ?_
  rintro e w3 ⟨u', L', A3, n3, c3, ys3, hs3, iv3, t', rfl, hcase', huniq', hx3, hb3⟩
  have hsame : Hid (∀ (u' : Int) (L' : List Gl) (t' : Bool), (t' = true ∧ setOk ⟨u', L'⟩ = true ∧ s.data.toList = setT ⟨u', L'⟩ ∨ t' = false ∧ u' = 0 ∧ L' = [] ∧ ∀ d, setOk d = true → s.data.toList ≠ setT d) → (∀ d, setOk d = true → s.data.toList = setT d → t' = true ∧ u' = d.unit ∧ L' = d.gl) → t = t' ∧ u = u' ∧ L = L') := fun u2 L2 t2 hc2 hu2 => by
    clear huniq' hcase'
    rcases hcase with ⟨e1, g1, g2⟩ | ⟨e1, e2, e3, g1⟩
    · obtain ⟨g3, g4, g5⟩ := hu2 ⟨u, L⟩ g1 g2
      exact ⟨by rw [e1, g3], g4.symm, g5.symm⟩
    · rcases hc2 with ⟨_, g2, g3⟩ | ⟨g2, g3, g4, _⟩
      · exact absurd g3 (g1 _ g2)
      · exact ⟨by rw [e1, g2], by rw [e2, g3], by rw [e3, g4]⟩
  have he := hsame.out u' L' t' hcase' huniq'
  obtain ⟨rfl, rfl, rfl⟩ := he
  have hz3 := hb3.size
  clear huniq hcase
  have hB3 := Lib.hid (hB2.out.trans (hb3.mono hB2.out.size))
  replace bW := Lib.hid ((hb3.block BW (by omega)).trans bW.out)
  replace xW := Lib.hid (xW.out.same (Below.sameB hb3 (by omega)))
  obtain ⟨LG, hLG⟩ : ∃ B, B = w2.heap.size := ⟨_, rfl⟩
  obtain ⟨BG, hBG⟩ : ∃ B, B = w3.heap.size := ⟨_, rfl⟩
  have xG := Lib.hid hx3
  rw [← hLG, ← hBG] at xG
  rw [← hLG] at hz2' hz3
  rw [← hBG] at hz3
  clear hb3 hx3 huniq' hcase' hm2 hz2
  have hc : Below w3.heap.size w3 (w3.alloc (.cells #[.int .i64 u, .slice A3 n3 c3] 36 (0, 0))) := Go.Joins.below_alloc1 _ _
  have bG := Lib.hid (heap_alloc_new w3 (.cells #[.int .i64 u, .slice A3 n3 c3] 36 (0, 0)))
  have hz4 := Lib.hid (show w3.heap.size + 1 = (w3.alloc (.cells #[.int .i64 u, .slice A3 n3 c3] 36 (0, 0))).heap.size by simp)
  have hB4 := Lib.hid (hB3.out.trans (hc.mono hB3.out.size))
  replace bW := Lib.hid ((hc.block BW (by rw [← hBG]; omega)).trans bW.out)
  replace xW := Lib.hid (xW.out.same (Below.sameB hc (by rw [← hBG]; omega)))
  replace xG := Lib.hid (xG.out.same (Below.sameB hc (by rw [← hBG]; exact Nat.le_refl _)))
  clear hc
  go_upto_region 5 with fail
  generalize w3.alloc (.cells #[.int .i64 u, .slice A3 n3 c3] 36 (0, 0)) = w4 at *
  rw [← hBG] at bG hz4 ⊢
  have hz4' := hz4.out
  replace hLG := Lib.hid hLG
  replace hBG := Lib.hid hBG
  have hL40 := hsm.1
  have hn3 : n3 ≤ 40 := by have := xG.out.1; omega
  have sm1 : Hid ((⟨u, L⟩ : GSet).small 100000000) := ⟨by show L.length ≤ _; omega, fun g hg => (hsm.2 g hg).smallR⟩
  have sm2 := Lib.hid (fun g hg => (hsm.2 g hg).outSm)
  have hon : gsN L ≤ 1240000 := by
    have h1 := gs_sum_le hsm.2 L.length
    unfold gsN
    rw [List.take_of_length_le (by simp)] at h1
    omega
  have sm3 := Lib.hid (fun (m : Int) x (hx : x ∈ mkGs m L) => show OutSm x.out from by
    obtain ⟨e, he, m', hm⟩ := mkGs_memR hx
    rw [hm]
    exact ((hsm.2 e he).mk m').outSm)
  replace hsm := Lib.hid hsm.2
  have W0 : w4.cell? ⟨BW, 0, none⟩ = some (.int .i64 u) := by rw [Go.Joins.cell_of_block bW.out]; rfl
  have W1 : w4.cell? ⟨BW, 1, none⟩ = some (.slice A1 n1 c1) := by rw [Go.Joins.cell_of_block bW.out]; rfl
  have Wl : BW < w4.heap.size := by omega
  have G0 : w4.cell? ⟨BG, 0, none⟩ = some (.int .i64 u) := by rw [Go.Joins.cell_of_block bG.out]; rfl
  have G1 : w4.cell? ⟨BG, 1, none⟩ = some (.slice A3 n3 c3) := by rw [Go.Joins.cell_of_block bG.out]; rfl
  have Gl : BG < w4.heap.size := by omega
  go_wp2_with fail
  refine (eqGlyphSet_any ⟨u, L⟩ ⟨⟨A3, n3, c3⟩⟩ ⟨⟨A1, n1, c1⟩⟩ LG BG w.heap.size BW w4 (GsRc.rd (xG.out.rdc sm2.out)) (GsRc.rd (xW.out.rdc sm2.out)) (by omega) (by omega) sm1.out).mono ?_
  rintro e w5 ⟨rfl, hc⟩
  clear W0 W1 Wl
  clear G0 G1 Gl
  have hz5 := hc.size
  have hB5 := Lib.hid (hB4.out.trans (hc.mono hB4.out.size))
  replace bW := Lib.hid ((hc.block BW (by omega)).trans bW.out)
  replace bG := Lib.hid ((hc.block BG (by omega)).trans bG.out)
  replace xW := Lib.hid (xW.out.same (Below.sameB hc (by omega)))
  replace xG := Lib.hid (xG.out.same (Below.sameB hc (by omega)))
  clear hc
  have G0 : w5.cell? ⟨BG, 0, none⟩ = some (.int .i64 u) := by rw [Go.Joins.cell_of_block bG.out]; rfl
  have G1 : w5.cell? ⟨BG, 1, none⟩ = some (.slice A3 n3 c3) := by rw [Go.Joins.cell_of_block bG.out]; rfl
  have Gl : BG < w5.heap.size := by omega
  go_wp2_with fail
  refine (markGlyphSet_x A3 n3 c3 LG BG L ys3 hs3 iv3 u 1 w5 xG.out hsm.out (by omega) (by omega) (by omega) (by omega)).mono ?_
  rintro e w6 ⟨rfl, hM, ys6, hx6⟩
  have hz6 := hM.size
  have hB6 := Lib.hid (hB5.out.trans ((hM.below (by omega)).mono (by omega)))
  replace bW := Lib.hid ((hM.sameB (lo' := 0) (hi' := LG) (.inl (Nat.le_refl _)) (by omega) BW (by omega) (by omega)).trans bW.out)
  replace bG := Lib.hid ((hM.sameB (lo' := BG) (hi' := w5.heap.size) (.inr (Nat.le_refl _)) (Nat.le_refl _) BG (Nat.le_refl _) (by omega)).trans bG.out)
  replace xW := Lib.hid (xW.out.same (hM.sameB (.inl (by omega)) (by omega)))
  replace xG := Lib.hid hx6
  clear hM hx6
  clear G0 G1 Gl
  have G0 : w6.cell? ⟨BG, 0, none⟩ = some (.int .i64 u) := by rw [Go.Joins.cell_of_block bG.out]; rfl
  have G1 : w6.cell? ⟨BG, 1, none⟩ = some (.slice A3 n3 c3) := by rw [Go.Joins.cell_of_block bG.out]; rfl
  have Gl : BG < w6.heap.size := by omega
  go_wp2_with fail
  refine (heldGlyphSet_any ⟨u, L⟩ A3 n3 c3 LG BG u 1 w6 (GsRc.rd (xG.out.rdc (sm3.out 1))) hsm.out (by omega) (by omega) (by omega) (by omega)).mono ?_
  rintro e w7 ⟨rfl, hc⟩
  have t2 : ¬ (1 : Int) + (gsN L : Int) < 0 := by omega
  clear G0 G1 Gl
  have hz7 := hc.size
  have hB7 := Lib.hid (hB6.out.trans (hc.mono hB6.out.size))
  replace bW := Lib.hid ((hc.block BW (by omega)).trans bW.out)
  replace bG := Lib.hid ((hc.block BG (by omega)).trans bG.out)
  replace xW := Lib.hid (xW.out.same (Below.sameB hc (by omega)))
  replace xG := Lib.hid (xG.out.same (Below.sameB hc (by omega)))
  clear hc
  have hm7 := hm.out.kept hB7.out hml
  go_wp2_with fail
  refine (hcI.out _ hm7).mono ?_
  rintro e w8 ⟨u', L', A9, n9, c9, ys9, hs9, iv9, t', rfl, hcase', huniq', hx8, hc⟩
  have he := hsame.out u' L' t' hcase' huniq'
  obtain ⟨rfl, rfl, rfl⟩ := he
  obtain ⟨LH, hLH⟩ : ∃ B, B = w7.heap.size := ⟨_, rfl⟩
  have xH := Lib.hid hx8
  clear hx8 hcase' huniq' hm7
  have hz8 := hc.size
  have hB8 := Lib.hid (hB7.out.trans (hc.mono hB7.out.size))
  replace bW := Lib.hid ((hc.block BW (by omega)).trans bW.out)
  replace bG := Lib.hid ((hc.block BG (by omega)).trans bG.out)
  replace xW := Lib.hid (xW.out.same (Below.sameB hc (by omega)))
  replace xG := Lib.hid (xG.out.same (Below.sameB hc (by omega)))
  clear hc
  obtain ⟨BH, hBH⟩ : ∃ B, B = w8.heap.size := ⟨_, rfl⟩
  rw [← hLH, ← hBH] at xH
  rw [← hLH] at hz8 hz7
  rw [← hBH] at hz8
  have hc : Below w8.heap.size w8 (w8.alloc (.cells #[.int .i64 u, .slice A9 n9 c9] 36 (0, 0))) := Go.Joins.below_alloc1 _ _
  have bH := Lib.hid (heap_alloc_new w8 (.cells #[.int .i64 u, .slice A9 n9 c9] 36 (0, 0)))
  have hz9 := Lib.hid (show w8.heap.size + 1 = (w8.alloc (.cells #[.int .i64 u, .slice A9 n9 c9] 36 (0, 0))).heap.size by simp)
  have hB9 := Lib.hid (hB8.out.trans (hc.mono hB8.out.size))
  replace bW := Lib.hid ((hc.block BW (by rw [← hBH]; omega)).trans bW.out)
  replace bG := Lib.hid ((hc.block BG (by rw [← hBH]; omega)).trans bG.out)
  replace xW := Lib.hid (xW.out.same (Below.sameB hc (by rw [← hBH]; omega)))
  replace xG := Lib.hid (xG.out.same (Below.sameB hc (by rw [← hBH]; omega)))
  replace xH := Lib.hid (xH.out.same (Below.sameB hc (by rw [← hBH]; exact Nat.le_refl _)))
  clear hc
  go_upto_region 16 with fail
  generalize w8.alloc (.cells #[.int .i64 u, .slice A9 n9 c9] 36 (0, 0)) = w9 at *
  rw [← hBH] at bH hz9 ⊢
  have hz9' := hz9.out
  replace hLH := Lib.hid hLH
  replace hBH := Lib.hid hBH
  have W0 : w9.cell? ⟨BW, 0, none⟩ = some (.int .i64 u) := by rw [Go.Joins.cell_of_block bW.out]; rfl
  have W1 : w9.cell? ⟨BW, 1, none⟩ = some (.slice A1 n1 c1) := by rw [Go.Joins.cell_of_block bW.out]; rfl
  have Wl : BW < w9.heap.size := by omega
  have H0 : w9.cell? ⟨BH, 0, none⟩ = some (.int .i64 u) := by rw [Go.Joins.cell_of_block bH.out]; rfl
  have H1 : w9.cell? ⟨BH, 1, none⟩ = some (.slice A9 n9 c9) := by rw [Go.Joins.cell_of_block bH.out]; rfl
  have Hl : BH < w9.heap.size := by omega
  go_wp2_with fail
  refine (eqGlyphSet_any ⟨u, L⟩ ⟨⟨A9, n9, c9⟩⟩ ⟨⟨A1, n1, c1⟩⟩ LH BH w.heap.size BW w9 (GsRc.rd (xH.out.rdc sm2.out)) (GsRc.rd (xW.out.rdc sm2.out)) (by omega) (by omega) sm1.out).mono ?_
  rintro e w10 ⟨rfl, hc⟩
  clear W0 W1 Wl
  clear H0 H1 Hl
  have hz10 := hc.size
  have hB10 := Lib.hid (hB9.out.trans (hc.mono hB9.out.size))
  replace bW := Lib.hid ((hc.block BW (by omega)).trans bW.out)
  replace bG := Lib.hid ((hc.block BG (by omega)).trans bG.out)
  replace bH := Lib.hid ((hc.block BH (by omega)).trans bH.out)
  replace xW := Lib.hid (xW.out.same (Below.sameB hc (by omega)))
  replace xG := Lib.hid (xG.out.same (Below.sameB hc (by omega)))
  replace xH := Lib.hid (xH.out.same (Below.sameB hc (by omega)))
  clear hc
  have G0 : w10.cell? ⟨BG, 0, none⟩ = some (.int .i64 u) := by rw [Go.Joins.cell_of_block bG.out]; rfl
  have G1 : w10.cell? ⟨BG, 1, none⟩ = some (.slice A3 n3 c3) := by rw [Go.Joins.cell_of_block bG.out]; rfl
  have Gl : BG < w10.heap.size := by omega
  go_wp2_with fail
  refine (heldGlyphSet_any ⟨u, L⟩ A3 n3 c3 LG BG u 1 w10 (GsRc.rd (xG.out.rdc (sm3.out 1))) hsm.out (by omega) (by omega) (by omega) (by omega)).mono ?_
  rintro e w11 ⟨rfl, hc⟩
  clear G0 G1 Gl
  have hz11 := hc.size
  have hB11 := Lib.hid (hB10.out.trans (hc.mono hB10.out.size))
  replace bW := Lib.hid ((hc.block BW (by omega)).trans bW.out)
  replace bG := Lib.hid ((hc.block BG (by omega)).trans bG.out)
  replace bH := Lib.hid ((hc.block BH (by omega)).trans bH.out)
  replace xW := Lib.hid (xW.out.same (Below.sameB hc (by omega)))
  replace xG := Lib.hid (xG.out.same (Below.sameB hc (by omega)))
  replace xH := Lib.hid (xH.out.same (Below.sameB hc (by omega)))
  clear hc
  go_wp2_with fail
  go_ret
  exact ⟨rfl, hB11.out⟩
end Go.Proofs.YtgdkabljgabjoaaGreatDoor
