/- A glyph's lines read, the reference's side. Conditions: as each states. -/
import Derived.Test.YtgdkabljgabjoaaGreatDoorRb36
namespace Go.Proofs.YtgdkabljgabjoaaGreatDoor
open Go.RowKit
set_option linter.unusedVariables false
set_option maxRecDepth 100000
set_option maxRecDepth 100000

theorem MkG.withOut {W : World} {Y lo B n c : Nat} {A : Option Addr} {d : Gl} {h : GlH} {Ls : List (List Knot)} (r : MkG W Y lo d h) (ho : OutOwn W B A n c Ls) (hB : lo ≤ B) :
    MkG (W.setCell ⟨Y, 3, none⟩ (.slice A n c)) Y lo ⟨d.name, d.code, d.adv, Ls, d.parts, d.anchors, d.hints⟩ ⟨⟨A, n, c⟩, h.parts, h.anchors⟩ := by
  obtain ⟨ys, hl, h1, h2, h3⟩ := ho
  have hy := r.yl
  have h4 : OutTo W lo A n c ys Ls := outTo_base (lo := B) ⟨h1, fun j K _ hK => h2 j K hK, h3⟩ hB
  exact ⟨hy, by simp; exact r.yb, Go.Joins.block_setCell r.box (i := 3) _, ⟨ys, h4.set hy _⟩, hl, ownsRow_setCell_below r.p hy _, r.pn, ownsRow_setCell_below r.a hy _, r.an⟩
theorem gl_head0 (g : Gl) : (glLines g)[0]? = some (headW g.name.data.toList g.code g.adv) := rfl
theorem gl_tail {g : Gl} {i : Nat} {l : List UInt8} (h : (glLines g)[i + 1]? = some l) : l.head? ≠ some 103 := by
  have h1 : l ∈ g.out.map loopW ++ (g.parts.map partW ++ (g.anchors.map anchW ++ (hintW g.hints.data.toList ++ [endW]))) := List.mem_of_getElem? (i := i) h
  simp only [List.mem_append, List.mem_map, List.mem_singleton] at h1
  rcases h1 with ⟨K, _, rfl⟩ | ⟨p, _, rfl⟩ | ⟨a, _, rfl⟩ | h1 | rfl
  · simp [loopW]
  · simp [partW]
  · simp [anchW]
  · unfold hintW at h1
    split at h1
    · cases h1
    · rw [List.mem_singleton] at h1; subst h1; simp
  · simp [endW]
theorem head_words {g : Gl} (h : glyphOk g = true) : splitF 32 (headW g.name.data.toList g.code g.adv) = [kGlyph, g.name.data.toList, decL g.code, decL g.adv] := by
  have h1 := (glyphOk_parts h).1
  have e : headW g.name.data.toList g.code g.adv = kGlyph ++ 32 :: (g.name.data.toList ++ [32] ++ decL g.code ++ [32] ++ decL g.adv) := by simp [headW, kGlyph]
  rw [e, splitF_hit 32 _ _ (by decide), words_head fun b hb => (name_no h1 b hb).2.1]
theorem gl_27 {g : Gl} (h : glyphOk g = true) : (glLines g).length ≤ 27 := by
  have h1 := glyphOk_is h
  have h2 := (outOk_is h1.out).1
  have h3 := h1.pl
  have h4 := h1.al
  have h5 : (hintW g.hints.data.toList).length ≤ 1 := by unfold hintW; split <;> simp
  simp [glLines]; omega
theorem take_sum {L : List (List UInt8)} {i : Nat} {l : List UInt8} (h : L[i]? = some l) : ((L.take (i + 1)).map List.length).sum = ((L.take i).map List.length).sum + l.length := by
  rw [take_next h]; simp
theorem take_le (L : List (List UInt8)) (i : Nat) : ((L.take i).map List.length).sum ≤ (L.map List.length).sum := by
  conv => rhs; rw [← List.take_append_drop i L]
  rw [List.map_append, List.sum_append]; omega
theorem mem_le {L : List (List UInt8)} {l : List UInt8} (h : l ∈ L) : l.length ≤ (L.map List.length).sum := by
  induction L with
  | nil => cases h
  | cons a L ih =>
    rw [List.map_cons, List.sum_cons]
    rcases List.mem_cons.1 h with rfl | h
    · omega
    · have := ih h; omega
/-- what reading the lines of a glyph comes to -/
def RLPost (Ls : List (List UInt8)) (w : World) (e : Ending) (w' : World) : Prop :=
  ∃ (d : Gl) (h : GlH) (t : Bool), e = .returned (.tuple #[glV d h, .bool t]) ∧ (t = true ∧ glyphOk d = true ∨ t = false ∧ d = gl0) ∧ (∀ g, glyphOk g = true → Ls = glLines g → t = true ∧ d = g) ∧ GlX w' w.heap.size w'.heap.size d h ∧ Below w.heap.size w w'
theorem rl_no {Ls : List (List UInt8)} {w w' : World} (hno : ∀ g, glyphOk g = true → Ls ≠ glLines g) (hb : Below w.heap.size w w') : RLPost Ls w (.returned (.tuple #[glV gl0 nilH0, .bool false])) w' :=
  ⟨gl0, nilH0, false, rfl, .inr ⟨rfl, rfl⟩, fun g h1 h2 => absurd h2 (hno g h1), glX_0 _ _ _, hb⟩
set_option maxHeartbeats 16000000 in
theorem l17Read_any (b off n c : Nat) (Ls : List (List UInt8)) (w : World) (hln : Ls.length = n) (hb : b < w.heap.size) (hcell : ∀ (j : Nat) (l : List UInt8), Ls[j]? = some l → w.cell? ⟨b, off + j, none⟩ = some (.string ⟨l.toArray⟩)) (hsum : (Ls.map List.length).sum ≤ 1048576) (hn : n ≤ 1048577) :
    Calls Tryz.prog 28 #[.slice (some ⟨b, off, none⟩) n c] w fun e w' => RLPost Ls w e w' := by
  have hB0 : Below w.heap.size w (w.alloc (.cells #[.string ⟨#[]⟩, .int .i64 0, .int .i64 0, .slice none 0 0, .slice none 0 0, .slice none 0 0, .string ⟨#[]⟩] 28 (0, 0))) := Go.Joins.below_alloc1 _ _
  have hR0 := Lib.hid (heap_alloc_new w (.cells #[.string ⟨#[]⟩, .int .i64 0, .int .i64 0, .slice none 0 0, .slice none 0 0, .slice none 0 0, .string ⟨#[]⟩] 28 (0, 0)))
  have hz0 : w.heap.size < (w.alloc (.cells #[.string ⟨#[]⟩, .int .i64 0, .int .i64 0, .slice none 0 0, .slice none 0 0, .slice none 0 0, .string ⟨#[]⟩] 28 (0, 0))).heap.size := by simp
  have hc0 : Hid (∀ (j : Nat) (l : List UInt8), Ls[j]? = some l → (w.alloc (.cells #[.string ⟨#[]⟩, .int .i64 0, .int .i64 0, .slice none 0 0, .slice none 0 0, .slice none 0 0, .string ⟨#[]⟩] 28 (0, 0))).cell? ⟨b, off + j, none⟩ = some (.string ⟨l.toArray⟩)) := fun j l hj => (hB0.cell (p := ⟨b, off + j, none⟩) hb).trans (hcell j l hj)
  obtain ⟨r0, r1, r2, r3, r4, r5, r6, rf, rl⟩ := mk_r7 hR0.out
  replace hB0 := Lib.hid hB0
  have hle := Lib.hid (fun l (h : l ∈ Ls) => Nat.le_trans (mem_le h) hsum)
  clear hcell
  go_enter Tryz.func28, Tryz.ntmps28
  go_upto_region 1 with fail
  generalize w.alloc (.cells #[.string ⟨#[]⟩, .int .i64 0, .int .i64 0, .slice none 0 0, .slice none 0 0, .slice none 0 0, .string ⟨#[]⟩] 28 (0, 0)) = w0 at *
  by_cases h2 : n < 2
  · have t1 : (n : Int) < 2 := by omega
    have hno : Hid (∀ g, glyphOk g = true → Ls ≠ glLines g) := fun g _ e => by
      have h3 := glLines_two g
      rw [← e] at h3; omega
    clear hc0 hle hln h2
    go_wp2_with fail
    exact bodyPost_ret (v := .tuple #[glV gl0 nilH0, .bool false]) (by simp [results, Tryz.results28, go_sem, r0, r1, r2, r3, r4, r5, r6, gl0, nilH0]) rfl (rl_no hno.out (sevenB hB0.out _ _ _ _ _ _ _))
  have t1 : ¬ (n : Int) < 2 := by omega
  by_cases h27 : 27 < n
  · have t2 : (27 : Int) < (n : Int) := by omega
    have hno : Hid (∀ g, glyphOk g = true → Ls ≠ glLines g) := fun g hg e => by
      have h3 := gl_27 hg
      rw [← e] at h3; omega
    clear hc0 hle hln h2 h27
    go_wp2_with fail
    exact bodyPost_ret (v := .tuple #[glV gl0 nilH0, .bool false]) (by simp [results, Tryz.results28, go_sem, r0, r1, r2, r3, r4, r5, r6, gl0, nilH0]) rfl (rl_no hno.out (sevenB hB0.out _ _ _ _ _ _ _))
  have t2 : ¬ (27 : Int) < (n : Int) := by omega
  obtain ⟨l0, hl0⟩ : ∃ l, Ls[0]? = some l := ⟨_, List.getElem?_eq_getElem (by omega)⟩
  have q0 : w0.cell? ⟨b, off, none⟩ = some (.string ⟨l0.toArray⟩) := hc0.out 0 l0 hl0
  have hl0m := hle.out l0 (List.mem_of_getElem? hl0)
  have hcs := Lib.hid (fun W => l01Split_any ⟨l0.toArray⟩ 32 W (by show l0.length ≤ 1048576; omega))
  obtain ⟨ws, hws⟩ : ∃ ws, ws = splitF 32 l0 := ⟨_, rfl⟩
  have hsm := Lib.hid (splitF_mem 32 l0)
  have hpos : 0 < ws.length := by rw [hws]; exact List.length_pos_iff.2 (splitF_ne 32 _)
  rw [← hws] at hsm
  replace hcs : Hid (∀ (W : World), Calls Tryz.prog 27 #[.string ⟨l0.toArray⟩, .int .u8 (32 : UInt8).toNat] W fun e w' => ∃ (A : Option Addr) (c n : Nat), n = ws.length ∧ e = .returned (.slice A n c) ∧ w'.ownsRow W.heap.size 9 1 (.slice A n c) n (strV ws) ∧ Below W.heap.size W w') := by
    rw [hws]; exact hcs
  have hgl : Hid (∀ g, glyphOk g = true → Ls = glLines g → ws = [kGlyph, g.name.data.toList, decL g.code, decL g.adv]) := fun g hg e => by
    have h3 := hl0
    rw [e, gl_head0] at h3
    injection h3 with h3
    rw [hws, ← h3, head_words hg]
  replace hws := Lib.hid hws
  have hn0 : (0 : Int) < (n : Int) := by omega
  have hn0' : 0 < n := by omega
  have hbl0 : b < w0.heap.size := by have := hB0.out.size; omega
  go_upto_region 3 with fail
  go_wp2_with fail
  refine (hcs.out _).mono ?_
  rintro e w1 ⟨A1, c1, m, hm, rfl, hown, hb1⟩
  obtain ⟨g, rfl, hg1, hg2, _, hcellg, _⟩ := own_at hown (by omega)
  have hW : Hid (∀ (j : Nat) (l : List UInt8), ws[j]? = some l → w1.cell? ⟨g, j, none⟩ = some (.string ⟨l.toArray⟩)) := fun j l hj => by
    have hjl := (List.getElem?_eq_some_iff.1 hj).1
    have := hcellg j (by omega)
    rw [this]
    simpa [strV] using hj
  have hR1 := Lib.hid ((hb1.block _ hz0).trans hR0.out)
  have hB1 := Lib.hid (hB0.out.trans (hb1.mono (Nat.le_of_lt hz0)))
  have hc1 : Hid (∀ (j : Nat) (l : List UInt8), Ls[j]? = some l → w1.cell? ⟨b, off + j, none⟩ = some (.string ⟨l.toArray⟩)) := fun j l hj => (hb1.cell (p := ⟨b, off + j, none⟩) hbl0).trans (hc0.out j l hj)
  have hz1 := hb1.size
  clear r0 r1 r2 r3 r4 r5 r6 rf rl q0 hcs hown hcellg hb1 hR0 hB0 hc0
  obtain ⟨r0, r1, r2, r3, r4, r5, r6, rf, rl⟩ := mk_r7 hR1.out
  subst hm
  by_cases h4 : ws.length = 4
  rotate_left
  · have t4 : ((ws.length : Int) != 4) = true := by simp; omega
    have hno : Hid (∀ g, glyphOk g = true → Ls ≠ glLines g) := fun g' hg' e => by
      have h5 := hgl.out g' hg' e
      rw [h5] at h4; exact h4 rfl
    clear hgl h4 hc1 hle hW h2 h27
    go_wp2_with fail
    exact bodyPost_ret (v := .tuple #[glV gl0 nilH0, .bool false]) (by simp [results, Tryz.results28, go_sem, r0, r1, r2, r3, r4, r5, r6, gl0, nilH0]) rfl (rl_no hno.out (sevenB hB1.out _ _ _ _ _ _ _))
  obtain ⟨k, nm, a, a2, rfl⟩ : ∃ k nm a a2, ws = [k, nm, a, a2] := by match ws, h4 with | [k, nm, a, a2], _ => exact ⟨k, nm, a, a2, rfl⟩
  have q0 := hW.out 0 k rfl
  have q1 := hW.out 1 nm rfl
  have q2 := hW.out 2 a rfl
  have q3 := hW.out 3 a2 rfl
  by_cases hk : k = kGlyph
  rotate_left
  · have t5 : (k == [103, 108, 121, 112, 104]) = false := by rw [beq_eq_false_iff_ne]; exact hk
    have hno : Hid (∀ g, glyphOk g = true → Ls ≠ glLines g) := fun g' hg' e => by
      have h5 := hgl.out g' hg' e
      injection h5 with h5 _
      exact hk h5
    clear hgl h4 hc1 hle hW h2 h27 hk q1 q2 q3
    go_wp2_with fail
    exact bodyPost_ret (v := .tuple #[glV gl0 nilH0, .bool false]) (by simp [results, Tryz.results28, go_sem, r0, r1, r2, r3, r4, r5, r6, gl0, nilH0]) rfl (rl_no hno.out (sevenB hB1.out _ _ _ _ _ _ _))
  subst hk
  have hnml := hsm.out nm (by simp)
  have hal := hsm.out a (by simp)
  have ha2l := hsm.out a2 (by simp)
  have hd1 := Lib.hid (fun W => l01Number_any ⟨a.toArray⟩ W (by show a.length ≤ 1048576; omega))
  have hd2 := Lib.hid (fun W => l01Number_any ⟨a2.toArray⟩ W (by show a2.length ≤ 1048576; omega))
  clear r0 r1 r2 r3 r4 r5 r6 rf rl h4 hW h2 h27 hsm
  go_upto_region 6 with fail
  go_wp2_with fail
  refine (hd1.out _).mono ?_
  intro e w2 hA
  obtain ⟨x, t1', rfl, hxt, hb2⟩ := rd_form hA
  have hz2 := hb2.size
  have hrl1 : w.heap.size < w1.heap.size := by omega
  have hbl1 : b < w1.heap.size := by omega
  have q1 := (hb2.cell hg2).trans q1
  have q3 := (hb2.cell hg2).trans q3
  have hR2 := Lib.hid ((hb2.block _ hrl1).trans hR1.out)
  have hB2 := Lib.hid (hB1.out.trans (hb2.mono (Nat.le_of_lt hrl1)))
  have hc2 : Hid (∀ (j : Nat) (l : List UInt8), Ls[j]? = some l → w2.cell? ⟨b, off + j, none⟩ = some (.string ⟨l.toArray⟩)) := fun j l hj => (hb2.cell (p := ⟨b, off + j, none⟩) hbl1).trans (hc1.out j l hj)
  have hg2' : g < w2.heap.size := by omega
  clear hA hb2 hd1 hR1 hB1 hc1 q0 q2
  go_upto_region 7 with fail
  go_wp2_with fail
  refine (hd2.out _).mono ?_
  intro e w3 hA
  obtain ⟨y, t2', rfl, hyt, hb3⟩ := rd_form hA
  have hz3 := hb3.size
  have hrl2 : w.heap.size < w2.heap.size := by omega
  have hbl2 : b < w2.heap.size := by omega
  have q1 := (hb3.cell hg2').trans q1
  have hR3 := Lib.hid ((hb3.block _ hrl2).trans hR2.out)
  have hB3 := Lib.hid (hB2.out.trans (hb3.mono (Nat.le_of_lt hrl2)))
  have hc3 : Hid (∀ (j : Nat) (l : List UInt8), Ls[j]? = some l → w3.cell? ⟨b, off + j, none⟩ = some (.string ⟨l.toArray⟩)) := fun j l hj => (hb3.cell (p := ⟨b, off + j, none⟩) hbl2).trans (hc2.out j l hj)
  clear hA hb3 hd2 hR2 hB2 hc2 q3
  have hhd : Hid (∀ g, glyphOk g = true → Ls = glLines g → t1' = true ∧ t2' = true ∧ (⟨⟨nm.toArray⟩, x, y, [], [], [], ⟨#[]⟩⟩ : Gl) = glSt g 1) := fun g' hg' e => by
    have h5 := hgl.out g' hg' e
    obtain ⟨hcd, hav⟩ := (⟨(glyphOk_parts hg').2.1, (glyphOk_parts hg').2.2.1⟩ : (-1 ≤ g'.code ∧ g'.code ≤ 65535) ∧ (0 ≤ g'.adv ∧ g'.adv ≤ 262144))
    injection h5 with _ h5
    injection h5 with h6 h5
    injection h5 with h7 h5
    injection h5 with h8 _
    have i1 := isDec_of (n := g'.code) h7 (by omega)
    have i2 := isDec_of (n := g'.adv) h8 (by omega)
    rcases hxt with ⟨rfl, hx⟩ | ⟨_, hx⟩
    · rcases hyt with ⟨rfl, hy⟩ | ⟨_, hy⟩
      · refine ⟨rfl, rfl, ?_⟩
        rw [IsDec.unique hx i1, IsDec.unique hy i2, h6]
        simp [glSt]
      · exact absurd i2 (hy _)
    · exact absurd i1 (hx _)
  clear hxt hyt hgl
  have hnm1 : nm.length ≤ 1048576 := by omega
  -- the glyph's box and the text's box
  have hbY : Below w3.heap.size w3 ((w3.alloc (.cells #[.string ⟨nm.toArray⟩, .int .i64 x, .int .i64 y, .slice none 0 0, .slice none 0 0, .slice none 0 0, .string ⟨#[]⟩] 28 (0, 0))).alloc (.cells #[.string ⟨#[]⟩] 9 (0, 0))) := Go.Joins.below_alloc2 _ _ _
  obtain ⟨hY4, hX4⟩ := heap_new2 w3 (.cells #[.string ⟨nm.toArray⟩, .int .i64 x, .int .i64 y, .slice none 0 0, .slice none 0 0, .slice none 0 0, .string ⟨#[]⟩] 28 (0, 0)) (.cells #[.string ⟨#[]⟩] 9 (0, 0))
  have hz4 := Lib.hid (show w3.heap.size + 2 = ((w3.alloc (.cells #[.string ⟨nm.toArray⟩, .int .i64 x, .int .i64 y, .slice none 0 0, .slice none 0 0, .slice none 0 0, .string ⟨#[]⟩] 28 (0, 0))).alloc (.cells #[.string ⟨#[]⟩] 9 (0, 0))).heap.size by simp)
  have hrl3 : w.heap.size < w3.heap.size := by omega
  have hbl3 : b < w3.heap.size := by omega
  have hR4 := Lib.hid ((hbY.block _ hrl3).trans hR3.out)
  have hB4 := Lib.hid (hB3.out.trans (hbY.mono (Nat.le_of_lt hrl3)))
  have hc4 : Hid (∀ (j : Nat) (l : List UInt8), Ls[j]? = some l → ((w3.alloc (.cells #[.string ⟨nm.toArray⟩, .int .i64 x, .int .i64 y, .slice none 0 0, .slice none 0 0, .slice none 0 0, .string ⟨#[]⟩] 28 (0, 0))).alloc (.cells #[.string ⟨#[]⟩] 9 (0, 0))).cell? ⟨b, off + j, none⟩ = some (.string ⟨l.toArray⟩)) := fun j l hj => (hbY.cell (p := ⟨b, off + j, none⟩) hbl3).trans (hc3.out j l hj)
  have hmk4 : Hid (MkG ((w3.alloc (.cells #[.string ⟨nm.toArray⟩, .int .i64 x, .int .i64 y, .slice none 0 0, .slice none 0 0, .slice none 0 0, .string ⟨#[]⟩] 28 (0, 0))).alloc (.cells #[.string ⟨#[]⟩] 9 (0, 0))) w3.heap.size (w3.heap.size + 2) ⟨⟨nm.toArray⟩, x, y, [], [], [], ⟨#[]⟩⟩ nilH0) := MkG.start (by omega) hY4
  replace hX4 := Lib.hid hX4
  clear hY4 hbY hc3 hB3 hR3
  go_upto_region 10 with fail
  clear q1
  generalize (w3.alloc (.cells #[.string ⟨nm.toArray⟩, .int .i64 x, .int .i64 y, .slice none 0 0, .slice none 0 0, .slice none 0 0, .string ⟨#[]⟩] 28 (0, 0))).alloc (.cells #[.string ⟨#[]⟩] 9 (0, 0)) = w4 at *
  obtain ⟨Y, hY⟩ : ∃ Y, Y = w3.heap.size := ⟨_, rfl⟩
  rw [← hY] at hX4 hz4 hmk4 hrl3 hbl3 hz3 ⊢
  replace hY := Lib.hid hY
  go_wp2_with fail
  have hz4' := hz4.out
  go_loopw [11] (fun iv wr => ∃ (i : Nat) (d : Gl) (h : GlH) (t : ByteArray), iv = .int .i64 i ∧ 1 ≤ i ∧ i ≤ n ∧ MkG wr Y (Y + 2) d h ∧ wr.heap[Y + 1]? = some (.cells #[.string t] 9 (0, 0)) ∧ RB d i ∧ d.out = [] ∧ t.size ≤ ((Ls.take i).map List.length).sum ∧ (∀ g, glyphOk g = true → Ls = glLines g → d = ⟨(glSt g i).name, (glSt g i).code, (glSt g i).adv, [], (glSt g i).parts, (glSt g i).anchors, (glSt g i).hints⟩ ∧ t.data.toList = outT (glSt g i).out) ∧ Y + 2 ≤ wr.heap.size ∧ Below Y w4 wr) (fun iv wr => n - (intOf iv).toNat)
  case atStart => exact ⟨1, _, _, _, rfl, Nat.le_refl _, hn0', hmk4.out, hX4.out, ⟨Nat.zero_le _, fun K hK => (by cases hK), Nat.zero_le _, Nat.zero_le _, hnm1, Nat.zero_le _, fun a ha => (by cases ha)⟩, rfl, Nat.zero_le _, fun g' hg' e => by
    obtain ⟨_, _, h5⟩ := hhd.out g' hg' e
    rw [h5]
    exact ⟨by simp [glSt], by simp [glSt, outT]⟩, by omega, Below.refl _ _⟩
  case round =>
    clear hmk4 hX4
    obtain ⟨i, d, h, t, rfl, hi1, hi, hmk, hXr, hrb, hout, htz, hinv, hzr, hbr⟩ := hrel
    have hRr := (hbr.block w.heap.size hrl3).trans hR4.out
    obtain ⟨r0, r1, r2, r3, r4, r5, r6, rf, rl⟩ := mk_r7 hRr
    have htm : t.size ≤ 1048576 := Nat.le_trans htz (Nat.le_trans (take_le Ls i) hsum)
    by_cases hlt : i < n
    · have hti : (i : Int) < (n : Int) := by omega
      have hti0 : (0 : Int) ≤ (i : Int) ∧ (i : Int) < (n : Int) := by omega
      obtain ⟨l, hl⟩ : ∃ l, Ls[i]? = some l := ⟨_, List.getElem?_eq_getElem (by omega)⟩
      have q0 : wr.cell? ⟨b, off + i, none⟩ = some (.string ⟨l.toArray⟩) := (hbr.cell (p := ⟨b, off + i, none⟩) hbl3).trans (hc4.out i l hl)
      have hll := hle.out l (List.mem_of_getElem? hl)
      have hcl := Lib.hid (l17Line_any ⟨l.toArray⟩ t wr Y (Y + 1) (Y + 2) i d h hmk hXr (by omega) (by omega) hzr (by show l.length ≤ 1048576; omega) (by omega) hrb hout (by omega))
      have hlin : Hid (∀ g, glyphOk g = true → Ls = glLines g → l.head? ≠ some 103 ∧ t.data.toList = outT (glSt g i).out ∧ LineTo ⟨d.name, d.code, d.adv, (glSt g i).out, d.parts, d.anchors, d.hints⟩ l (glSt g (i + 1))) := fun g' hg' e => by
        obtain ⟨e1, e2⟩ := hinv g' hg' e
        rw [e] at hl
        refine ⟨?_, e2, ?_⟩
        · obtain ⟨i', rfl⟩ : ∃ i', i = i' + 1 := ⟨i - 1, by omega⟩
          exact gl_tail hl
        · have := gl_step hg' hl
          rw [e1]
          exact this
      have htz2 : Hid (t.size + l.length ≤ ((Ls.take (i + 1)).map List.length).sum) := by
        show t.size + l.length ≤ _
        rw [take_sum hl]; omega
      replace hbr := Lib.hid hbr
      have hblr : b < wr.heap.size := by omega
      clear hinv hmk hrb hRr hXr hl hout htz
      go_wp2_with fail
      refine hcl.out.mono ?_
      rintro e w5 ⟨d', h', t', ok, rfl, hmk5, hX5, hrb5, hout5, htz5, hst, hb5⟩
      have hst' : ∀ (Ls' : List (List Knot)) (d0 : Gl), l.head? ≠ some 103 → t.data.toList = outT Ls' → LineTo ⟨d.name, d.code, d.adv, Ls', d.parts, d.anchors, d.hints⟩ l d0 → ok = true ∧ d' = ⟨d0.name, d0.code, d0.adv, [], d0.parts, d0.anchors, d0.hints⟩ ∧ t'.data.toList = outT d0.out := hst
      have htz6 : Hid (t'.size ≤ ((Ls.take (i + 1)).map List.length).sum) := Nat.le_trans htz5 htz2.out
      have hbr5 := Lib.hid (hbr.out.trans hb5)
      have hz5 := hb5.size
      have hR5 := (hbr5.out.block w.heap.size hrl3).trans hR4.out
      clear r0 r1 r2 r3 r4 r5 r6 rf rl hst htz5
      obtain ⟨r0, r1, r2, r3, r4, r5, r6, rf, rl⟩ := mk_r7 hR5
      cases ok
      · have hno : Hid (∀ g, glyphOk g = true → Ls ≠ glLines g) := fun g' hg' e => by
          obtain ⟨e1, e2, e3⟩ := hlin.out g' hg' e
          have := (hst' _ _ e1 e2 e3).1
          cases this
        have hBf := Lib.hid (hB4.out.trans (hbr5.out.mono (by omega)))
        clear hst' hlin hcl hmk5 hrb5 hb5 hout5 hX5 htz2
        go_wp2_with fail
        exact bodyPost_ret (v := .tuple #[glV gl0 nilH0, .bool false]) (by simp [results, Tryz.results28, go_sem, r0, r1, r2, r3, r4, r5, r6, gl0, nilH0]) rfl (rl_no hno.out (sevenB hBf.out _ _ _ _ _ _ _))
      · have hinv5 : Hid (∀ g, glyphOk g = true → Ls = glLines g → d' = ⟨(glSt g (i + 1)).name, (glSt g (i + 1)).code, (glSt g (i + 1)).adv, [], (glSt g (i + 1)).parts, (glSt g (i + 1)).anchors, (glSt g (i + 1)).hints⟩ ∧ t'.data.toList = outT (glSt g (i + 1)).out) := fun g' hg' e => by
          obtain ⟨e1, e2, e3⟩ := hlin.out g' hg' e
          exact (hst' _ _ e1 e2 e3).2
        replace hmk5 := Lib.hid hmk5
        replace hrb5 := Lib.hid hrb5
        replace hX5 := Lib.hid hX5
        replace hout5 := Lib.hid hout5
        clear hst' hlin hcl hb5 r0 r1 r2 r3 r4 r5 r6 rf rl hR5 htz2
        go_wp2_with fail
        go_roundw
        case rel => exact ⟨i + 1, d', h', t', by go_num, by omega, by omega, hmk5.out, hX5.out, hrb5.out, hout5.out, htz6.out, hinv5.out, by omega, hbr5.out⟩
        case measure => simp [intOf]; omega
    · have hin : i = n := by omega
      have hti : ¬ (i : Int) < (n : Int) := by omega
      have hcl := Lib.hid (fun W => specReadOutline_any t W htm)
      have hend : Hid (∀ g, glyphOk g = true → Ls = glLines g → d = ⟨g.name, g.code, g.adv, [], g.parts, g.anchors, g.hints⟩ ∧ t.data.toList = outT g.out) := fun g' hg' e => by
        have h5 := hinv g' hg' e
        rw [hin, ← hln, e, gl_end] at h5
        exact h5
      have x0 : wr.cell? ⟨Y + 1, 0, none⟩ = some (.string t) := by rw [Go.Joins.cell_of_block hXr]; rfl
      have xl : Y + 1 < wr.heap.size := by omega
      replace hbr := Lib.hid hbr
      replace hmk := Lib.hid hmk
      replace hrb := Lib.hid hrb
      replace hout := Lib.hid hout
      have hBr := Lib.hid (hB4.out.trans (hbr.out.mono (by omega)))
      clear hinv hXr htz hin r0 r1 r2 r3 r4 r5 r6 rf rl
      go_upto_region 15 with fail
      go_wp2_with fail
      refine (hcl.out _).mono ?_
      rintro e w5 ⟨Lo, A, no, co, t3, rfl, how, hoor, hoi, hb5⟩
      have hz5 := hb5.size
      have hk5 := hmk.out.below hb5
      have hbb : Below w5.heap.size w5 (w5.alloc (.cells #[.slice A no co] 24 (0, 0))) := Go.Joins.below_alloc1 _ _
      have hk6 := hk5.below hbb
      have how6 := how.kept hbb
      have hk7 : Hid (MkG ((w5.alloc (.cells #[.slice A no co] 24 (0, 0))).setCell ⟨Y, 3, none⟩ (.slice A no co)) Y (Y + 2) ⟨d.name, d.code, d.adv, Lo, d.parts, d.anchors, d.hints⟩ ⟨⟨A, no, co⟩, h.parts, h.anchors⟩) := hk6.withOut how6 hzr
      have hB7 : Hid (Below w.heap.size w ((w5.alloc (.cells #[.slice A no co] 24 (0, 0))).setCell ⟨Y, 3, none⟩ (.slice A no co))) := ((hBr.out.trans (hb5.mono (by omega))).trans (hbb.mono (by omega))).setCell (p := ⟨Y, 3, none⟩) (by show w.heap.size ≤ Y; omega) _
      have hB7' : Hid (Below Y w4 ((w5.alloc (.cells #[.slice A no co] 24 (0, 0))).setCell ⟨Y, 3, none⟩ (.slice A no co))) := ((hbr.out.trans (hb5.mono (by omega))).trans (hbb.mono (by omega))).setCell (p := ⟨Y, 3, none⟩) (Nat.le_refl _) _
      have hLk : ∀ K ∈ Lo, K.length ≤ 1048577 := fun K hK => by
        rcases hoor with ⟨_, h1⟩ | ⟨_, rfl⟩
        · have := (loopOk_parts ((outOk_is h1).2 K hK)).2.2; omega
        · cases hK
      have hLl : Lo.length ≤ 12 := by
        rcases hoor with ⟨_, h1⟩ | ⟨_, rfl⟩
        · exact (outOk_is h1).1
        · simp
      have hrb7 : RB ⟨d.name, d.code, d.adv, Lo, d.parts, d.anchors, d.hints⟩ (i + 12) := ⟨by show Lo.length ≤ _; omega, hLk, Nat.le_trans hrb.out.p (by omega), Nat.le_trans hrb.out.a (by omega), hrb.out.nm, hrb.out.hn, hrb.out.an⟩
      obtain ⟨dF, hdF⟩ : ∃ dF : Gl, dF = ⟨d.name, d.code, d.adv, Lo, d.parts, d.anchors, d.hints⟩ := ⟨_, rfl⟩
      obtain ⟨hF, hhF⟩ : ∃ hF : GlH, hF = ⟨⟨A, no, co⟩, h.parts, h.anchors⟩ := ⟨_, rfl⟩
      have hfin : Hid (∀ g, glyphOk g = true → Ls = glLines g → t1' = true ∧ t2' = true ∧ t3 = true ∧ dF = g) := fun g' hg' e => by
        obtain ⟨e1, e2, _⟩ := hhd.out g' hg' e
        obtain ⟨e3, e4⟩ := hend.out g' hg' e
        obtain ⟨e5, e6⟩ := hoi g'.out (glyphOk_is hg').out e4
        exact ⟨e1, e2, e5, by rw [hdF, e3, e6]⟩
      obtain ⟨y0, y1, y2, y3, y4, y5, y6, yf, yl⟩ := hk6.cellsY
      go_upto_region 17 with fail
      clear y0 y1 y2 y3 y4 y5 y6 yf yl x0 hk5 hk6 how how6 hb5 hbb hoi hoor hend hhd hcl hmk hrb hout hBr hbr hz5
      rw [← hdF, ← hhF] at hk7
      rw [← hdF] at hrb7
      generalize (w5.alloc (.cells #[.slice A no co] 24 (0, 0))).setCell ⟨Y, 3, none⟩ (.slice A no co) = w7 at *
      have hR7 := (hB7'.out.block w.heap.size hrl3).trans hR4.out
      obtain ⟨r0, r1, r2, r3, r4, r5, r6, rf, rl⟩ := mk_r7 hR7
      replace hdF := Lib.hid hdF
      replace hhF := Lib.hid hhF
      by_cases hall : t1' = true ∧ t2' = true ∧ t3 = true
      rotate_left
      · have hno : Hid (∀ g, glyphOk g = true → Ls ≠ glLines g) := fun g' hg' e => by
          obtain ⟨e1, e2, e3, _⟩ := hfin.out g' hg' e
          exact hall ⟨e1, e2, e3⟩
        clear hfin
        rcases t1' with _ | _ <;> rcases t2' with _ | _ <;> rcases t3 with _ | _
        all_goals first | exact absurd ⟨rfl, rfl, rfl⟩ hall | skip
        all_goals
          clear hall
          go_wp2_with fail
          exact bodyPost_ret (v := .tuple #[glV gl0 nilH0, .bool false]) (by simp [results, Tryz.results28, go_sem, r0, r1, r2, r3, r4, r5, r6, gl0, nilH0]) rfl (rl_no hno.out (sevenB hB7.out _ _ _ _ _ _ _))
      obtain ⟨rfl, rfl, rfl⟩ := hall
      have hcl := Lib.hid (l17Glyph_any Y 0 dF hF _ rfl (Y + 2) w7.heap.size w7 hk7.out.yb (fun i u hu => by rw [Nat.zero_add]; exact hk7.out.cells hu) (hk7.out.rd hrb7) (Nat.le_refl _) (hrb7.small (by omega)) hrb7.str)
      replace hrb7 := Lib.hid hrb7
      go_wp2_with fail
      refine hcl.out.mono ?_
      rintro e w8 ⟨rfl, hb8⟩
      have hk8 := hk7.out.below hb8
      have hz8 := hb8.size
      have hB8 := Lib.hid (hB7.out.trans (hb8.mono hB7.out.size))
      have hR8 := (hb8.block _ rl).trans hR7
      have hx8 := Lib.hid hk8.glx
      clear r0 r1 r2 r3 r4 r5 r6 rf rl hb8 hcl hk7 hR7 hB7 hB7'
      obtain ⟨r0, r1, r2, r3, r4, r5, r6, rf, rl⟩ := mk_r7 hR8
      obtain ⟨y0, y1, y2, y3, y4, y5, y6, yf, yl⟩ := hk8.cellsY
      have hne1 : ¬ Y = w.heap.size := by omega
      have hne2 : ¬ w.heap.size = Y := by omega
      replace hk8 := Lib.hid hk8
      cases hv : glyphOk dF
      · have hno : Hid (∀ g, glyphOk g = true → Ls ≠ glLines g) := fun g' hg' e => by
          obtain ⟨_, _, _, e4⟩ := hfin.out g' hg' e
          rw [e4] at hv
          rw [hv] at hg'; cases hg'
        replace hv := Lib.hid hv
        clear hfin y0 y1 y2 y3 y4 y5 y6 yf yl
        go_wp2_with fail
        exact bodyPost_ret (v := .tuple #[glV gl0 nilH0, .bool false]) (by simp [results, Tryz.results28, go_sem, r0, r1, r2, r3, r4, r5, r6, gl0, nilH0]) rfl (rl_no hno.out (sevenB hB8.out _ _ _ _ _ _ _))
      · replace hv := Lib.hid hv
        go_wp2_with fail
        refine bodyPost_ret (v := .tuple #[glV dF hF, .bool true]) (by simp [results, Tryz.results28, go_sem, r0, r1, r2, r3, r4, r5, r6]) rfl ⟨dF, hF, true, rfl, .inl ⟨rfl, hv.out⟩, fun g' hg' e => ⟨rfl, (hfin.out g' hg' e).2.2.2⟩, ?_, sevenB hB8.out _ _ _ _ _ _ _⟩
        exact (hx8.out.same (sevenS (by omega) _ _ _ _ _ _ _)).wide (by omega) (by simp)
end Go.Proofs.YtgdkabljgabjoaaGreatDoor

