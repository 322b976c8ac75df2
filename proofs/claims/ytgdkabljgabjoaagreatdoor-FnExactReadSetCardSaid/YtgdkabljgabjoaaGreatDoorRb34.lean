/- A glyph's text read, the program's side. Conditions: as each states. -/
import Derived.Test.YtgdkabljgabjoaaGreatDoorRb26
import Derived.Test.YtgdkabljgabjoaaGreatDoorRb27
import Derived.Test.YtgdkabljgabjoaaGreatDoorRb33
namespace Go.Proofs.YtgdkabljgabjoaaGreatDoor
open Go.RowKit
set_option linter.unusedVariables false
set_option maxRecDepth 100000
set_option maxRecDepth 100000

theorem MkG.rd {W : World} {Y lo i : Nat} {d : Gl} {h : GlH} (r : MkG W Y lo d h) (hb : RB d i) : GlRd W lo W.heap.size d h := by
  obtain ⟨ys, h1, h2, h3⟩ := r.o
  refine ⟨OutOwn.rd (⟨ys, r.on, h1, fun j K hj => h2 j K (by have := (List.getElem?_eq_some_iff.1 hj).1; have := r.on; omega) hj, h3⟩ : OutOwn W lo h.out.A h.out.n h.out.c d.out) (fun K hK => Nat.le_trans (hb.k K hK) (by decide)), rdS_own partC_len (by omega) r.p r.pn, rdS_own anchC_len (by omega) r.a r.an⟩
def gl0 : Gl := ⟨⟨#[]⟩, 0, 0, [], [], [], ⟨#[]⟩⟩
/-- what reading a glyph comes to -/
def RGPost (s : ByteArray) (w : World) (e : Ending) (w' : World) : Prop :=
  ∃ (d : Gl) (h : GlH) (t : Bool), e = .returned (.tuple #[glV d h, .bool t]) ∧ (t = true ∧ glyphOk d = true ∧ s.data.toList = glyphT d ∨ t = false ∧ d = gl0 ∧ ∀ g, glyphOk g = true → s.data.toList ≠ glyphT g) ∧ (∀ g, glyphOk g = true → s.data.toList = glyphT g → t = true ∧ d = g) ∧ GlX w' w.heap.size w'.heap.size d h ∧ Below w.heap.size w w'
theorem glX_0 (w : World) (lo hi : Nat) : GlX w lo hi gl0 nilH0 :=
  ⟨⟨[], rfl, World.ownsRow_nil _ _ _ _, fun j K hj => (by simp [gl0] at hj), fun i j u v _ hu => (by simp at hu), fun g hg => (by cases hg), fun j v g hj => (by simp at hj)⟩, World.ownsRow_nil _ _ _ _, rfl, fun g hg => (by cases hg), World.ownsRow_nil _ _ _ _, rfl, fun g hg => (by cases hg), Nat.le_refl _⟩
theorem glLines_two (g : Gl) : 2 ≤ (glLines g).length := by simp [glLines]; omega
theorem gl_split {g : Gl} (h : glyphOk g = true) : splitF 10 (glyphT g) = glLines g ++ [[]] := by
  obtain ⟨h1, _, _, _, _, h6⟩ := glyphOk_parts h
  rw [glyphT_lines]
  exact split_lines _ (glLines_no h1 fun a ha => (h6 a ha).1)
theorem gl_ne {g : Gl} : glyphT g ≠ [] := by
  rw [glyphT_lines]; simp [glLines, endl]
theorem gl_last {s : ByteArray} {g : Gl} (h : glyphOk g = true) (hs : s.data.toList = glyphT g) : (splitF 10 s.data.toList).getLast? = some [] := by
  rw [hs, gl_split h]; simp
theorem gl_lines {s : ByteArray} {Ls : List (List UInt8)} {g : Gl} (h : glyphOk g = true) (hsp : splitF 10 s.data.toList = Ls ++ [[]]) (hs : s.data.toList = glyphT g) : Ls = glLines g := by
  rw [hs, gl_split h] at hsp
  exact (List.append_inj_left' hsp rfl).symm
/-- the cells of a glyph's box that holds nothing -/
theorem mk_r7 {w : World} {B : Nat} (h : w.heap[B]? = some (.cells #[.string ⟨#[]⟩, .int .i64 0, .int .i64 0, .slice none 0 0, .slice none 0 0, .slice none 0 0, .string ⟨#[]⟩] 28 (0, 0))) : w.cell? ⟨B, 0, none⟩ = some (.string ⟨#[]⟩) ∧ w.cell? ⟨B, 1, none⟩ = some (.int .i64 0) ∧ w.cell? ⟨B, 2, none⟩ = some (.int .i64 0) ∧ w.cell? ⟨B, 3, none⟩ = some (.slice none 0 0) ∧ w.cell? ⟨B, 4, none⟩ = some (.slice none 0 0) ∧ w.cell? ⟨B, 5, none⟩ = some (.slice none 0 0) ∧ w.cell? ⟨B, 6, none⟩ = some (.string ⟨#[]⟩) ∧ (∀ o, w.frozen? ⟨B, o, none⟩ = false) ∧ B < w.heap.size :=
  ⟨by rw [Go.Joins.cell_of_block h]; rfl, by rw [Go.Joins.cell_of_block h]; rfl, by rw [Go.Joins.cell_of_block h]; rfl, by rw [Go.Joins.cell_of_block h]; rfl, by rw [Go.Joins.cell_of_block h]; rfl, by rw [Go.Joins.cell_of_block h]; rfl, by rw [Go.Joins.cell_of_block h]; rfl, Go.Joins.unfrozen_of_block h, (Array.getElem?_eq_some_iff.1 h).1⟩
theorem sevenB {w w' : World} {B : Nat} (h : Below B w w') (v0 v1 v2 v3 v4 v5 v6 : Value) : Below B w (((((((w'.setCell ⟨B, 0, none⟩ v0).setCell ⟨B, 1, none⟩ v1).setCell ⟨B, 2, none⟩ v2).setCell ⟨B, 3, none⟩ v3).setCell ⟨B, 4, none⟩ v4).setCell ⟨B, 5, none⟩ v5).setCell ⟨B, 6, none⟩ v6) :=
  ((((((h.setCell (p := ⟨B, 0, none⟩) (Nat.le_refl _) _).setCell (p := ⟨B, 1, none⟩) (Nat.le_refl _) _).setCell (p := ⟨B, 2, none⟩) (Nat.le_refl _) _).setCell (p := ⟨B, 3, none⟩) (Nat.le_refl _) _).setCell (p := ⟨B, 4, none⟩) (Nat.le_refl _) _).setCell (p := ⟨B, 5, none⟩) (Nat.le_refl _) _).setCell (p := ⟨B, 6, none⟩) (Nat.le_refl _) _
theorem sevenS {w : World} {B lo hi : Nat} (h : B < lo) (v0 v1 v2 v3 v4 v5 v6 : Value) : SameB lo hi w (((((((w.setCell ⟨B, 0, none⟩ v0).setCell ⟨B, 1, none⟩ v1).setCell ⟨B, 2, none⟩ v2).setCell ⟨B, 3, none⟩ v3).setCell ⟨B, 4, none⟩ v4).setCell ⟨B, 5, none⟩ v5).setCell ⟨B, 6, none⟩ v6) :=
  (((((((SameB.refl _ _ w).setCell (.inl h) _).setCell (.inl h) _).setCell (.inl h) _).setCell (.inl h) _).setCell (.inl h) _).setCell (.inl h) _).setCell (.inl h) _
theorem rg_no {s : ByteArray} {w w' : World} (hno : ∀ g, glyphOk g = true → s.data.toList ≠ glyphT g) (hb : Below w.heap.size w w') : RGPost s w (.returned (.tuple #[glV gl0 nilH0, .bool false])) w' :=
  ⟨gl0, nilH0, false, rfl, .inr ⟨rfl, rfl, hno⟩, fun g h1 h2 => absurd h2 (hno g h1), glX_0 _ _ _, hb⟩
set_option maxHeartbeats 8000000 in
theorem implReadGlyph_any (s : ByteArray) (w : World) (hm : MaxI w) (hs : s.size ≤ 1048576) :
    Calls Tryz.prog 7 #[.string s] w fun e w' => RGPost s w e w' := by
  have hml := hm.lt
  have hbb : Below w.heap.size w (w.alloc (.cells #[.string ⟨#[]⟩, .int .i64 0, .int .i64 0, .slice none 0 0, .slice none 0 0, .slice none 0 0, .string ⟨#[]⟩] 28 (0, 0))) := Go.Joins.below_alloc1 _ _
  have hm0 := hm.kept hbb hml
  have hR0 := Lib.hid (heap_alloc_new w (.cells #[.string ⟨#[]⟩, .int .i64 0, .int .i64 0, .slice none 0 0, .slice none 0 0, .slice none 0 0, .string ⟨#[]⟩] 28 (0, 0)))
  have hz0 : w.heap.size < (w.alloc (.cells #[.string ⟨#[]⟩, .int .i64 0, .int .i64 0, .slice none 0 0, .slice none 0 0, .slice none 0 0, .string ⟨#[]⟩] 28 (0, 0))).heap.size := by simp
  have hB0 := Lib.hid hbb
  have htl := Lib.hid (fun W h => textLines_any s W h hs)
  have hsub := Lib.hid (fun a (h : a ∈ splitF 10 s.data.toList) => bytes_subB hs h)
  have hcnt := (split_len 10 _ s.data.toList (Nat.le_refl _)).1
  have hsl : s.data.toList.length = s.size := by simp
  rw [hsl] at hcnt
  clear hm hsl hbb
  go_enter Tryz.func7, Tryz.ntmps7
  go_upto_region 1 with fail
  generalize w.alloc (.cells #[.string ⟨#[]⟩, .int .i64 0, .int .i64 0, .slice none 0 0, .slice none 0 0, .slice none 0 0, .string ⟨#[]⟩] 28 (0, 0)) = w0 at *
  go_wp2_with fail
  refine (htl.out _ hm0).mono ?_
  rintro e w1 (⟨rfl, hl, hb1⟩ | ⟨A, n, cp, Ls, rfl, hsp, hla, hb1⟩)
  · have hno : Hid (∀ g, glyphOk g = true → s.data.toList ≠ glyphT g) := fun g hg e => hl (gl_last hg e)
    have hR1 := (hb1.block _ hz0).trans hR0.out
    have hB1 := Lib.hid (hB0.out.trans (hb1.mono (Nat.le_of_lt hz0)))
    obtain ⟨r0, r1, r2, r3, r4, r5, r6, rf, rl⟩ := mk_r7 hR1
    clear hl hb1 hR0 hB0 hR1 hm0 htl hsub hcnt
    go_wp2_with fail
    exact bodyPost_ret (v := .tuple #[glV gl0 nilH0, .bool false]) (by simp [results, Tryz.results7, go_sem, r0, r1, r2, r3, r4, r5, r6, gl0, nilH0]) rfl (rg_no hno.out (sevenB hB1.out _ _ _ _ _ _ _))
  have hR1 := Lib.hid ((hb1.block _ hz0).trans hR0.out)
  have hB1 := Lib.hid (hB0.out.trans (hb1.mono (Nat.le_of_lt hz0)))
  have hz1 := hb1.size
  have hml0 := hm0.lt
  have hm1 := hm0.kept hb1 hml0
  have hnl := hla.1
  have hn1 : n ≤ 1048577 := by rw [hsp, List.length_append] at hcnt; simp at hcnt; omega
  have hmem : Hid (∀ a ∈ Ls, (bytesOf a).size ≤ 1048576) := fun a ha => hsub.out a (by rw [hsp]; exact List.mem_append_left _ ha)
  have hgl : Hid (∀ g, glyphOk g = true → s.data.toList = glyphT g → Ls = glLines g) := fun g hg e => gl_lines hg hsp e
  have hrr := mk_r7 hR1.out
  by_cases hn2 : n < 2
  · have t1 : (n : Int) < 2 := by omega
    have hno : Hid (∀ g, glyphOk g = true → s.data.toList ≠ glyphT g) := fun g hg e => by
      have h1 := hgl.out g hg e
      have h2 := glLines_two g
      rw [← h1] at h2
      omega
    obtain ⟨r0, r1, r2, r3, r4, r5, r6, rf, rl⟩ := hrr
    clear hla hsp hb1 hR0 hB0 hm0 hm1 htl hsub hcnt hnl hmem hgl
    go_wp2_with fail
    exact bodyPost_ret (v := .tuple #[glV gl0 nilH0, .bool false]) (by simp [results, Tryz.results7, go_sem, r0, r1, r2, r3, r4, r5, r6, gl0, nilH0]) rfl (rg_no hno.out (sevenB hB1.out _ _ _ _ _ _ _))
  have t1 : ¬ (n : Int) < 2 := by omega
  have hs0 : Hid (s.data.toList ≠ []) := fun e => by
    have h1 := hsp
    rw [e] at h1
    have h2 := congrArg List.length h1
    simp [splitF] at h2
    rw [h2] at hnl
    simp at hnl
    omega
  have hbb : Below w1.heap.size w1 (w1.alloc (.cells #[.string ⟨#[]⟩, .int .i64 0, .int .i64 0, .slice none 0 0, .slice none 0 0, .slice none 0 0, .string ⟨#[]⟩] 28 (0, 0))) := Go.Joins.below_alloc1 _ _
  have hY2 := Lib.hid (heap_alloc_new w1 (.cells #[.string ⟨#[]⟩, .int .i64 0, .int .i64 0, .slice none 0 0, .slice none 0 0, .slice none 0 0, .string ⟨#[]⟩] 28 (0, 0)))
  have hm2 := Lib.hid (hm1.kept hbb hm1.lt)
  have hla2 := hla.below hbb
  obtain ⟨bL, rfl, hbL, hLc⟩ := hla2.2 (by omega)
  have hbL1 : bL < w1.heap.size := by
    obtain ⟨b', e1, h1, _⟩ := hla.2 (by omega)
    injection e1 with e1
    injection e1 with e1
    rw [e1]; exact h1
  have hR2 := Lib.hid ((hbb.block w.heap.size (by omega)).trans hR1.out)
  have hB2 := Lib.hid (hB1.out.trans (hbb.mono (by omega)))
  have hz2 := Lib.hid (show w1.heap.size + 1 = (w1.alloc (.cells #[.string ⟨#[]⟩, .int .i64 0, .int .i64 0, .slice none 0 0, .slice none 0 0, .slice none 0 0, .string ⟨#[]⟩] 28 (0, 0))).heap.size by simp)
  replace hLc := Lib.hid hLc
  replace hnl := Lib.hid hnl
  replace hm1 := Lib.hid hm1
  have hrw : w.heap.size < w1.heap.size := by omega
  have hmx1 := hm1.out.lt
  clear hla hla2 hsp hb1 hR0 hB0 hm0 htl hsub hcnt hR1 hB1 hbb hrr
  go_upto_region 5 with fail
  generalize w1.alloc (.cells #[.string ⟨#[]⟩, .int .i64 0, .int .i64 0, .slice none 0 0, .slice none 0 0, .slice none 0 0, .string ⟨#[]⟩] 28 (0, 0)) = w2 at *
  obtain ⟨Y, hY⟩ : ∃ Y, Y = w1.heap.size := ⟨_, rfl⟩
  rw [← hY] at hY2 hz2 hrw hbL1 hz1 hmx1 ⊢
  replace hY := Lib.hid hY
  go_wp2_with fail
  have hmY : 0 < Y := by omega
  go_loopw [24] (fun iv wr => ∃ (i : Nat) (d : Gl) (h : GlH), iv = .int .i64 i ∧ i ≤ n ∧ MkG wr Y (Y + 1) d h ∧ RB d i ∧ (∀ g, glyphOk g = true → s.data.toList = glyphT g → d = glSt g i) ∧ Y + 1 ≤ wr.heap.size ∧ Below Y w2 wr) (fun iv wr => n - (intOf iv).toNat)
  case atStart => exact ⟨0, gl0, nilH0, rfl, Nat.zero_le _, MkG.start (Nat.lt_succ_self _) hY2.out, ⟨by simp [gl0], fun K hK => by simp [gl0] at hK, by simp [gl0], by simp [gl0], Nat.zero_le _, Nat.zero_le _, fun a ha => by simp [gl0] at ha⟩, fun g _ _ => rfl, by rw [← hz2.out]; exact Nat.le_refl _, Below.refl _ _⟩
  case round =>
    clear hY2
    obtain ⟨i, d, h, rfl, hi, hmk, hrb, hinv, hzr, hbr⟩ := hrel
    have hRr := (hbr.block w.heap.size hrw).trans hR2.out
    have hmr := hm2.out.kept hbr hmY
    by_cases hlt : i < n
    · have hti : (i : Int) < (n : Int) := by omega
      have hti0 : (0 : Int) ≤ (i : Int) ∧ (i : Int) < (n : Int) := by omega
      obtain ⟨l, hl⟩ : ∃ l, Ls[i]? = some l := ⟨_, List.getElem?_eq_getElem (by have := hnl.out; omega)⟩
      have q0 : wr.cell? ⟨bL, i, none⟩ = some (.string (bytesOf l)) := (hbr.cell (p := ⟨bL, i, none⟩) hbL1).trans (hLc.out i l hl)
      have hcl := Lib.hid (readGlyphLine_any (bytesOf l) wr Y (Y + 1) i d h hmk hzr hmr hmY (hmem.out l (List.mem_of_getElem? hl)) (by omega) hrb)
      have hlin : Hid (∀ g, glyphOk g = true → s.data.toList = glyphT g → LineTo d l (glSt g (i + 1))) := fun g hg e => by
        have h1 := hgl.out g hg e
        rw [hinv g hg e]
        exact gl_step hg (by rw [← h1]; exact hl)
      replace hbr := Lib.hid hbr
      have hbLr : bL < wr.heap.size := by omega
      clear hinv hmk hrb hRr hmr hl
      go_wp2_with fail
      refine hcl.out.mono ?_
      rintro e w3 ⟨d', h', t, rfl, hmk3, hrb3, hst, hb3⟩
      have hst' : ∀ d0, LineTo d l d0 → t = true ∧ d' = d0 := fun d0 h0 => hst d0 (by rwa [show (bytesOf l).data.toList = l by simp [bytesOf]])
      have hbr3 := Lib.hid (hbr.out.trans hb3)
      have hz3 := hb3.size
      have hRr := (hbr3.out.block w.heap.size hrw).trans hR2.out
      obtain ⟨r0, r1, r2, r3, r4, r5, r6, rf, rl⟩ := mk_r7 hRr
      cases t
      · have hno : Hid (∀ g, glyphOk g = true → s.data.toList ≠ glyphT g) := fun g hg e => by
          have := (hst' _ (hlin.out g hg e)).1
          cases this
        have hBf := Lib.hid (hB2.out.trans (hbr3.out.mono (by omega)))
        clear hst hst' hlin hcl hmk3 hrb3 hb3
        go_wp2_with fail
        exact bodyPost_ret (v := .tuple #[glV gl0 nilH0, .bool false]) (by simp [results, Tryz.results7, go_sem, r0, r1, r2, r3, r4, r5, r6, gl0, nilH0]) rfl (rg_no hno.out (sevenB hBf.out _ _ _ _ _ _ _))
      · have hinv3 : Hid (∀ g, glyphOk g = true → s.data.toList = glyphT g → d' = glSt g (i + 1)) := fun g hg e => (hst' _ (hlin.out g hg e)).2
        replace hmk3 := Lib.hid hmk3
        replace hrb3 := Lib.hid hrb3
        clear hst hst' hlin hcl hb3 r0 r1 r2 r3 r4 r5 r6 rf rl hRr
        go_wp2_with fail
        go_roundw
        case rel => exact ⟨i + 1, d', h', by go_num, by omega, hmk3.out, hrb3.out, hinv3.out, by omega, hbr3.out⟩
        case measure => simp [intOf]; omega
    · have hin : i = n := by omega
      have hti : ¬ (i : Int) < (n : Int) := by omega
      have hend : Hid (∀ g, glyphOk g = true → s.data.toList = glyphT g → d = g) := fun g hg e => by
        have h1 := hgl.out g hg e
        rw [hinv g hg e, hin, hnl.out, h1]
        exact gl_end
      have hcl := Lib.hid (implGlyphText_any d h (Y + 1) wr.heap.size wr (hmk.rd hrb) (Nat.le_refl _) (hrb.small (by omega)) hrb.str (own_nc hmk.a))
      have hx := Lib.hid hmk.glx
      obtain ⟨y0, y1, y2, y3, y4, y5, y6, yf, yl⟩ := hmk.cellsY
      obtain ⟨r0, r1, r2, r3, r4, r5, r6, rf, rl⟩ := mk_r7 hRr
      have hBr := Lib.hid (hB2.out.trans (hbr.mono (by omega)))
      replace hmk := Lib.hid hmk
      clear hinv hrb hbr hmr hin
      go_upto_region 11 with fail
      have hG : Hid (glR d = if glyphOk d = true then bS (glyphT d) else ⟨#[]⟩) := (rfl : glR d = _)
      generalize glR d = G at *
      go_wp2_with fail
      refine hcl.out.mono ?_
      rintro e w3 ⟨rfl, hb3⟩
      have hBf := Lib.hid (hBr.out.trans (hb3.mono hBr.out.size))
      have hk3 := hmk.out.below hb3
      have hR3 := (hb3.block _ rl).trans hRr
      have hx3 := Lib.hid hk3.glx
      clear y0 y1 y2 y3 y4 y5 y6 yf yl r0 r1 r2 r3 r4 r5 r6 rf rl hcl hRr hx
      obtain ⟨y0, y1, y2, y3, y4, y5, y6, yf, yl⟩ := hk3.cellsY
      obtain ⟨r0, r1, r2, r3, r4, r5, r6, rf, rl⟩ := mk_r7 hR3
      have hne1 : ¬ Y = w.heap.size := by omega
      have hne2 : ¬ w.heap.size = Y := by omega
      by_cases hGs : G = s
      · have t9 : (G.toList == s.toList) = true := by rw [hGs]; simp
        have hyes : Hid (glyphOk d = true ∧ s.data.toList = glyphT d) := by
          have h1 := hG.out
          split at h1
          · next h2 => exact ⟨h2, by rw [← hGs, h1]; simp [bS]⟩
          · exact absurd (by rw [← hGs, h1]) hs0.out
        clear hG hs0 hk3 hR3 hb3 hmk
        go_wp2_with fail
        refine bodyPost_ret (v := .tuple #[glV d h, .bool true]) (by simp [results, Tryz.results7, go_sem, r0, r1, r2, r3, r4, r5, r6]) rfl ⟨d, h, true, rfl, .inl ⟨rfl, hyes.out⟩, fun g h1 h2 => ⟨rfl, hend.out g h1 h2⟩, ?_, sevenB hBf.out _ _ _ _ _ _ _⟩
        exact (hx3.out.same (sevenS (by omega) _ _ _ _ _ _ _)).wide (by omega) (by simp)
      · have t9 : (G.toList == s.toList) = false := by
          rw [beq_eq_false_iff_ne]
          intro h1
          rw [ByteArray.toList_eq, ByteArray.toList_eq] at h1
          exact hGs (by rw [mk_bytes (nm := G), mk_bytes (nm := s), h1])
        have hno : Hid (∀ g, glyphOk g = true → s.data.toList ≠ glyphT g) := fun g hg e => by
          have h1 := hend.out g hg e
          subst h1
          have h2 := hG.out
          rw [if_pos hg] at h2
          exact hGs (by rw [h2, mk_bytes (nm := s), e]; rfl)
        clear hG hk3 hR3 hb3 hmk hGs
        go_wp2_with fail
        exact bodyPost_ret (v := .tuple #[glV gl0 nilH0, .bool false]) (by simp [results, Tryz.results7, go_sem, r0, r1, r2, r3, r4, r5, r6, gl0, nilH0]) rfl (rg_no hno.out (sevenB hBf.out _ _ _ _ _ _ _))
end Go.Proofs.YtgdkabljgabjoaaGreatDoor

