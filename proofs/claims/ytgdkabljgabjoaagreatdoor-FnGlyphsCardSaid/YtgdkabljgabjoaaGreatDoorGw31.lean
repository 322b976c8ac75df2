/- A line of a glyph's text read, the program's side. Printed by mk_rgl.py. Conditions: as each states. -/
import Derived.Test.YtgdkabljgabjoaaGreatDoorGw22
import Derived.Test.YtgdkabljgabjoaaGreatDoorGw30
import Derived.Test.YtgdkabljgabjoaaGreatDoorGw10
namespace Go.Proofs.YtgdkabljgabjoaaGreatDoor
open Go.RowKit
set_option linter.unusedVariables false
set_option maxRecDepth 100000
set_option maxRecDepth 100000

theorem cut_ex (s : ByteArray) (hs : s.size ≤ 1048576) : ∃ (k r : List UInt8) (f : Bool), CutTo s.data.toList k r ∧ k.length ≤ s.size ∧ r.length ≤ s.size ∧ ∀ W : World, Calls Tryz.prog 44 #[.string s, .string ⟨#[32]⟩] W fun e w' => e = .returned (.tuple #[.string ⟨k.toArray⟩, .string ⟨r.toArray⟩, .bool f]) ∧ Below W.heap.size W w' := by
  have hl : s.data.toList.length = s.size := by simp
  rcases first_at 32 s.data.toList with h | ⟨a, b, h, h2⟩
  · refine ⟨s.data.toList, [], false, .inr ⟨rfl, rfl, h⟩, by omega, by simp, fun W => (cutByte_any s 32 W hs).mono ?_⟩
    rintro e w' (⟨i, _, hi, hi2, _, _⟩ | ⟨rfl, _, hb⟩)
    · exact absurd rfl (h 32 (List.mem_of_getElem? hi2))
    · exact ⟨rfl, hb⟩
  · have hle := congrArg List.length h
    simp at hle
    refine ⟨a, b, true, .inl ⟨h, h2⟩, by omega, by omega, fun W => (cutByte_any s 32 W hs).mono ?_⟩
    rintro e w' (⟨i, rfl, hi, hi2, hi3, hb⟩ | ⟨_, hno, _⟩)
    · have e1 : s.data.toList = s.data.toList.take i ++ 32 :: s.data.toList.drop (i + 1) := by
        have hil : i < s.data.toList.length := by omega
        have h1 : s.data.toList[i] = 32 := by
          rw [List.getElem?_eq_getElem hil] at hi2
          exact Option.some.inj hi2
        have h2 := List.take_append_drop i s.data.toList
        rw [List.drop_eq_getElem_cons hil, h1] at h2
        exact h2.symm
      obtain ⟨e2, e3⟩ := cut_uniq hi3 h2 (e1.symm.trans h)
      have hw1 : s.extract 0 i = ⟨a.toArray⟩ := by rw [extract_mk, ← e2]; rfl
      have hw2 : s.extract (i + 1) s.size = ⟨b.toArray⟩ := by rw [extract_mk, List.take_of_length_le (by simp), ← e3]
      rw [hw1, hw2]
      exact ⟨rfl, hb⟩
    · exact absurd rfl (hno 32 (by rw [h]; simp))
/-- what reading a line comes to -/
def GLPost (Y lo : Nat) (d : Gl) (i : Nat) (l : List UInt8) (w : World) (e : Ending) (w' : World) : Prop :=
  ∃ (d' : Gl) (h' : GlH) (t : Bool), e = .returned (.bool t) ∧ MkG w' Y lo d' h' ∧ RB d' (i + 1) ∧ (∀ d0, LineTo d l d0 → t = true ∧ d' = d0) ∧ Below Y w w'
theorem MkG.cellsY {W : World} {Y lo : Nat} {d : Gl} {h : GlH} (r : MkG W Y lo d h) : W.cell? ⟨Y, 0, none⟩ = some (.string d.name) ∧ W.cell? ⟨Y, 1, none⟩ = some (.int .i64 d.code) ∧ W.cell? ⟨Y, 2, none⟩ = some (.int .i64 d.adv) ∧ W.cell? ⟨Y, 3, none⟩ = some (.slice h.out.A h.out.n h.out.c) ∧ W.cell? ⟨Y, 4, none⟩ = some (.slice h.parts.A h.parts.n h.parts.c) ∧ W.cell? ⟨Y, 5, none⟩ = some (.slice h.anchors.A h.anchors.n h.anchors.c) ∧ W.cell? ⟨Y, 6, none⟩ = some (.string d.hints) ∧ (∀ o, W.frozen? ⟨Y, o, none⟩ = false) ∧ Y < W.heap.size :=
  ⟨r.cells rfl, r.cells rfl, r.cells rfl, r.cells rfl, r.cells rfl, r.cells rfl, r.cells rfl, Go.Joins.unfrozen_of_block r.box, r.yb⟩
theorem mk_bytes {nm : ByteArray} : nm = ⟨nm.data.toList.toArray⟩ := by simp
theorem head_len {d d0 : Gl} {r : List UInt8} (h : KindTo d kGlyph r d0) : (splitF 32 r).length = 3 := by
  obtain ⟨nm, c, a, h1, _, _, rfl, _⟩ := h.glyph
  rw [words_head fun b hb => (name_no h1 b hb).2.1]; rfl
theorem head_is {d d0 : Gl} {r a b c : List UInt8} (hw : [a, b, c] = splitF 32 r) (h : KindTo d kGlyph r d0) : ∃ x y, IsDec ⟨b.toArray⟩ x ∧ IsDec ⟨c.toArray⟩ y ∧ d0 = ⟨⟨a.toArray⟩, x, y, d.out, d.parts, d.anchors, d.hints⟩ := by
  obtain ⟨nm, x, y, h1, h2, h3, rfl, h4⟩ := h.glyph
  rw [words_head fun b hb => (name_no h1 b hb).2.1] at hw
  injection hw with e1 hw
  injection hw with e2 hw
  injection hw with e3 hw
  subst e1 e2 e3
  exact ⟨x, y, isDec_of rfl h2, isDec_of rfl h3, h4⟩
theorem part_is {d d0 : Gl} {r a b : List UInt8} (hw : [a, b] = splitF 32 r) (h : KindTo d kPart r d0) : ∃ (g x y : Int), IsDec ⟨a.toArray⟩ g ∧ b = ptT x y ∧ ptOk x y = true ∧ d0 = ⟨d.name, d.code, d.adv, d.out, d.parts ++ [(g, x, y)], d.anchors, d.hints⟩ := by
  obtain ⟨⟨g, x, y⟩, h1, h2, rfl, h4⟩ := h.partI
  rw [words_two decL_no32 ptT_no32] at hw
  injection hw with e1 hw
  injection hw with e2 hw
  subst e1 e2
  exact ⟨g, x, y, isDec_of rfl h1, rfl, h2, h4⟩
theorem part_len {d d0 : Gl} {r : List UInt8} (h : KindTo d kPart r d0) : (splitF 32 r).length = 2 := by
  obtain ⟨_, _, _, rfl, _⟩ := h.partI
  rw [words_two decL_no32 ptT_no32]; rfl
theorem anch_is {d d0 : Gl} {r a b : List UInt8} (hw : [a, b] = splitF 32 r) (h : KindTo d kAnch r d0) : ∃ (x y : Int), b = ptT x y ∧ ptOk x y = true ∧ d0 = ⟨d.name, d.code, d.adv, d.out, d.parts, d.anchors ++ [(⟨a.toArray⟩, x, y)], d.hints⟩ := by
  obtain ⟨⟨g, x, y⟩, h1, h2, rfl, h4⟩ := h.anchI
  rw [words_two (fun b hb => (name_no h1 b hb).2.1) ptT_no32] at hw
  injection hw with e1 hw
  injection hw with e2 hw
  subst e1 e2
  exact ⟨x, y, rfl, h2, h4⟩
theorem anch_len {d d0 : Gl} {r : List UInt8} (h : KindTo d kAnch r d0) : (splitF 32 r).length = 2 := by
  obtain ⟨⟨_, _, _⟩, h1, _, rfl, _⟩ := h.anchI
  rw [words_two (fun b hb => (name_no h1 b hb).2.1) ptT_no32]; rfl
theorem RB.head {d : Gl} {i : Nat} (h : RB d i) {nm : ByteArray} {x y : Int} (hn : nm.size ≤ 1048576) : RB ⟨nm, x, y, d.out, d.parts, d.anchors, d.hints⟩ (i + 1) := ⟨Nat.le_succ_of_le h.o, h.k, Nat.le_succ_of_le h.p, Nat.le_succ_of_le h.a, hn, h.hn, h.an⟩
set_option maxHeartbeats 4000000 in
theorem rgl_glyph (s : ByteArray) (k r : List UInt8) (f : Bool) (w : World) (Y lo i : Nat) (d : Gl) (h : GlH) (hmk : MkG w Y lo d h) (hlo : lo ≤ w.heap.size) (hm : MaxI w) (hmY : 0 < Y) (hs : s.size ≤ 1048576) (hi : i ≤ 1048577) (hrb : RB d i)
    (hcut : ∀ W : World, Calls Tryz.prog 44 #[.string s, .string ⟨#[32]⟩] W fun e w' => e = .returned (.tuple #[.string ⟨k.toArray⟩, .string ⟨r.toArray⟩, .bool f]) ∧ Below W.heap.size W w') (hrl : r.length ≤ 1048576) (hk : k = kGlyph) (hinv : ∀ d0, LineTo d s.data.toList d0 → KindTo d kGlyph r d0) :
    Calls Tryz.prog 31 #[.pointer (some ⟨Y, 0, none⟩), .string s] w fun e w' => GLPost Y lo d i s.data.toList w e w' := by
  subst hk
  have hy := hmk.yb
  have hyl := hmk.yl
  have hml := hm.lt
  replace hcut := Lib.hid hcut
  replace hinv := Lib.hid hinv
  replace hmk := Lib.hid hmk
  replace hm := Lib.hid hm
  replace hrb := Lib.hid hrb
  have hcs := Lib.hid (fun W h => splitI_any ⟨r.toArray⟩ 32 W h (by show r.length ≤ 1048576; omega))
  obtain ⟨ws, hws⟩ : ∃ ws, ws = splitF 32 r := ⟨_, rfl⟩
  have hsl := splitF_len 32 r
  have hsm := Lib.hid (splitF_mem 32 r)
  rw [← hws] at hsl hsm
  replace hcs : Hid (∀ (W : World), MaxI W → Calls Tryz.prog 78 #[.string ⟨r.toArray⟩, .string ⟨#[32]⟩] W fun e w' => ∃ n, n = ws.length ∧ e = .returned (.slice (some ⟨W.heap.size, 0, none⟩) n n) ∧ (∀ (j : Nat) (l : List UInt8), ws[j]? = some l → w'.cell? ⟨W.heap.size, j, none⟩ = some (.string ⟨l.toArray⟩)) ∧ W.heap.size < w'.heap.size ∧ Below W.heap.size W w') := by
    rw [hws]; exact hcs
  replace hws := Lib.hid hws
  go_enter Tryz.func31, Tryz.ntmps31
  go_wp2_with fail
  refine (hcut.out _).mono ?_
  rintro e w1 ⟨rfl, hb1⟩
  have hm1 := hm.out.kept hb1 hml
  have hml1 := hm1.lt
  have hk1 := hmk.out.below hb1
  have hz1 := hb1.size
  have hB1 := Lib.hid (hb1.mono (Nat.le_of_lt hy))
  clear hb1 hm hmk
  go_wp2_with fail
  refine (hcs.out _ hm1).mono ?_
  rintro e w2 ⟨n, hn, rfl, hW, hg2, hb2⟩
  have hm2 := Lib.hid (hm1.kept hb2 hml1)
  have hk2 := hk1.below hb2
  have hz2 := hb2.size
  have hB2 := Lib.hid (hB1.out.trans (hb2.mono (by omega)))
  generalize w1.heap.size = g at *
  obtain ⟨y0, y1, y2, y3, y4, y5, y6, yf, yl⟩ := hk2.cellsY
  have hyg : Y < g := by omega
  have hne1 : ¬ Y = g := by omega
  have hne2 : ¬ g = Y := by omega
  replace hW := Lib.hid hW
  replace hk2 := Lib.hid hk2
  clear hcut hcs hB1 hk1 hm1 hb2
  by_cases h3 : ws.length = 3
  rotate_left
  · have t1 : ((ws.length : Int) != 3) = true := by simp; omega
    have hno : Hid (∀ d0, LineTo d s.data.toList d0 → False) := fun d0 h0 => h3 (by have := head_len (hinv.out d0 h0); rwa [← hws.out] at this)
    clear h3
    go_wp2_with fail
    go_ret
    exact ⟨d, h, false, rfl, hk2.out, hrb.out.up, fun d0 h0 => (hno.out d0 h0).elim, hB2.out⟩
  obtain ⟨a, b, c, rfl⟩ : ∃ a b c, ws = [a, b, c] := by match ws, h3 with | [a, b, c], _ => exact ⟨a, b, c, rfl⟩
  have q0 := hW.out 0 a rfl
  have q1 := hW.out 1 b rfl
  have q2 := hW.out 2 c rfl
  have hal := hsm.out a (by simp)
  have hbl := hsm.out b (by simp)
  have hcl := hsm.out c (by simp)
  have hd1 := Lib.hid (fun W => ReadDecimal_any ⟨b.toArray⟩ W (by show b.length ≤ 1048576; omega))
  have hd2 := Lib.hid (fun W => ReadDecimal_any ⟨c.toArray⟩ W (by show c.length ≤ 1048576; omega))
  have hk3 : MkG (w2.setCell ⟨Y, 0, none⟩ (.string ⟨a.toArray⟩)) Y lo ⟨⟨a.toArray⟩, d.code, d.adv, d.out, d.parts, d.anchors, d.hints⟩ h := hk2.out.cell rfl rfl rfl rfl
  have hB3 := Lib.hid (hB2.out.setCell (p := ⟨Y, 0, none⟩) (Nat.le_refl _) (.string ⟨a.toArray⟩))
  have z3 : (w2.setCell ⟨Y, 0, none⟩ (.string ⟨a.toArray⟩)).heap.size = w2.heap.size := by simp
  replace z3 := Lib.hid z3
  go_upto_region 10 with fail
  have q1 : (w2.setCell ⟨Y, 0, none⟩ (.string ⟨a.toArray⟩)).cell? ⟨g, 1, none⟩ = some (.string ⟨b.toArray⟩) := (World.cell?_of_block (Below.heap_setCell _ _ _ _ hne2)).trans q1
  have q2 : (w2.setCell ⟨Y, 0, none⟩ (.string ⟨a.toArray⟩)).cell? ⟨g, 2, none⟩ = some (.string ⟨c.toArray⟩) := (World.cell?_of_block (Below.heap_setCell _ _ _ _ hne2)).trans q2
  clear y0 y1 y2 y3 y4 y5 y6 yf yl q0 hk2 hB2 hW
  generalize w2.setCell ⟨Y, 0, none⟩ (.string ⟨a.toArray⟩) = w3 at *
  have hg3 : g < w3.heap.size := by rw [z3.out]; omega
  go_wp2_with fail
  refine (hd1.out _).mono ?_
  intro e w4 hA
  obtain ⟨x, t, rfl, hxt, hb4⟩ := rd_form hA
  have hk4 := hk3.below hb4
  have q2 : w4.cell? ⟨g, 2, none⟩ = some (.string ⟨c.toArray⟩) := (hb4.cell hg3).trans q2
  have hz4 := hb4.size
  have hB4 := Lib.hid (hB3.out.trans (hb4.mono (by have := hk3.yb; omega)))
  obtain ⟨y0, y1, y2, y3, y4, y5, y6, yf, yl⟩ := hk4.cellsY
  have hk5 : MkG (w4.setCell ⟨Y, 1, none⟩ (.int .i64 x)) Y lo ⟨⟨a.toArray⟩, x, d.adv, d.out, d.parts, d.anchors, d.hints⟩ h := hk4.cell rfl rfl rfl rfl
  have hB5 := Lib.hid (hB4.out.setCell (p := ⟨Y, 1, none⟩) (Nat.le_refl _) (.int .i64 x))
  clear hA hb4 hk3 hB3 hB4 hd1 q1
  replace hk5 := Lib.hid hk5
  rcases hxt with ⟨rfl, hX⟩ | ⟨rfl, hX⟩
  rotate_left
  · have hno : Hid (∀ d0, LineTo d s.data.toList d0 → False) := fun d0 h0 => by
      obtain ⟨x, _, h1, _⟩ := head_is hws.out (hinv.out d0 h0)
      exact hX x h1
    clear hX
    go_wp2_with fail
    go_ret
    exact ⟨_, h, false, rfl, hk5.out, hrb.out.head (by show a.length ≤ 1048576; omega), fun d0 h0 => (hno.out d0 h0).elim, hB5.out⟩
  have z5 := Lib.hid (show w4.heap.size ≤ (w4.setCell ⟨Y, 1, none⟩ (.int .i64 x)).heap.size by simp)
  go_upto_region 12 with fail
  have q2 : (w4.setCell ⟨Y, 1, none⟩ (.int .i64 x)).cell? ⟨g, 2, none⟩ = some (.string ⟨c.toArray⟩) := (World.cell?_of_block (Below.heap_setCell _ _ _ _ hne2)).trans q2
  clear y0 y1 y2 y3 y4 y5 y6 yf yl hk4
  generalize w4.setCell ⟨Y, 1, none⟩ (.int .i64 x) = w5 at *
  have hg5 : g < w5.heap.size := by have := z5.out; omega
  replace hX := Lib.hid hX
  go_wp2_with fail
  refine (hd2.out _).mono ?_
  intro e w6 hA
  obtain ⟨y, t, rfl, hyt, hb6⟩ := rd_form hA
  have hk6 := hk5.out.below hb6
  have hB6 := Lib.hid (hB5.out.trans (hb6.mono (by omega)))
  obtain ⟨y0, y1, y2, y3, y4, y5, y6, yf, yl⟩ := hk6.cellsY
  have hk7 : MkG (w6.setCell ⟨Y, 2, none⟩ (.int .i64 y)) Y lo ⟨⟨a.toArray⟩, x, y, d.out, d.parts, d.anchors, d.hints⟩ h := hk6.cell rfl rfl rfl rfl
  have hB7 := Lib.hid (hB6.out.setCell (p := ⟨Y, 2, none⟩) (Nat.le_refl _) (.int .i64 y))
  replace hk7 := Lib.hid hk7
  have hfin : Hid (∀ d0, LineTo d s.data.toList d0 → t = true ∧ (⟨⟨a.toArray⟩, x, y, d.out, d.parts, d.anchors, d.hints⟩ : Gl) = d0) := fun d0 h0 => by
    obtain ⟨x', y', h1, h2, rfl⟩ := head_is hws.out (hinv.out d0 h0)
    obtain rfl := IsDec.unique hX.out h1
    rcases hyt with ⟨rfl, h3⟩ | ⟨_, h3⟩
    · obtain rfl := IsDec.unique h3 h2
      exact ⟨rfl, rfl⟩
    · exact absurd h2 (h3 _)
  clear hA hb6 hk5 hB5 hB6 hd2 q2 hyt hk6
  go_wp2_with fail
  go_ret
  exact ⟨_, h, t, rfl, hk7.out, hrb.out.head (by show a.length ≤ 1048576; omega), hfin.out, hB7.out⟩
set_option maxHeartbeats 4000000 in
theorem rgl_loop (s : ByteArray) (k r : List UInt8) (f : Bool) (w : World) (Y lo i : Nat) (d : Gl) (h : GlH) (hmk : MkG w Y lo d h) (hlo : lo ≤ w.heap.size) (hm : MaxI w) (hmY : 0 < Y) (hs : s.size ≤ 1048576) (hi : i ≤ 1048577) (hrb : RB d i)
    (hcut : ∀ W : World, Calls Tryz.prog 44 #[.string s, .string ⟨#[32]⟩] W fun e w' => e = .returned (.tuple #[.string ⟨k.toArray⟩, .string ⟨r.toArray⟩, .bool f]) ∧ Below W.heap.size W w') (hrl : r.length ≤ 1048576) (hk : k = kLoop) (hinv : ∀ d0, LineTo d s.data.toList d0 → KindTo d kLoop r d0) :
    Calls Tryz.prog 31 #[.pointer (some ⟨Y, 0, none⟩), .string s] w fun e w' => GLPost Y lo d i s.data.toList w e w' := by
  subst hk
  have hy := hmk.yb
  have hyl := hmk.yl
  have hml := hm.lt
  replace hcut := Lib.hid hcut
  replace hinv := Lib.hid hinv
  replace hmk := Lib.hid hmk
  replace hm := Lib.hid hm
  replace hrb := Lib.hid hrb
  have hcs := Lib.hid (fun W h => splitI_any ⟨r.toArray⟩ 32 W h (by show r.length ≤ 1048576; omega))
  obtain ⟨ws, hws⟩ : ∃ ws, ws = splitF 32 r := ⟨_, rfl⟩
  have hsl := splitF_len 32 r
  have hsm := Lib.hid (splitF_mem 32 r)
  rw [← hws] at hsl hsm
  replace hcs : Hid (∀ (W : World), MaxI W → Calls Tryz.prog 78 #[.string ⟨r.toArray⟩, .string ⟨#[32]⟩] W fun e w' => ∃ n, n = ws.length ∧ e = .returned (.slice (some ⟨W.heap.size, 0, none⟩) n n) ∧ (∀ (j : Nat) (l : List UInt8), ws[j]? = some l → w'.cell? ⟨W.heap.size, j, none⟩ = some (.string ⟨l.toArray⟩)) ∧ W.heap.size < w'.heap.size ∧ Below W.heap.size W w') := by
    rw [hws]; exact hcs
  replace hws := Lib.hid hws
  go_enter Tryz.func31, Tryz.ntmps31
  go_wp2_with fail
  refine (hcut.out _).mono ?_
  rintro e w1 ⟨rfl, hb1⟩
  have hm1 := hm.out.kept hb1 hml
  have hml1 := hm1.lt
  have hk1 := hmk.out.below hb1
  have hz1 := hb1.size
  have hB1 := Lib.hid (hb1.mono (Nat.le_of_lt hy))
  clear hb1 hm hmk
  go_wp2_with fail
  refine (hcs.out _ hm1).mono ?_
  rintro e w2 ⟨n, hn, rfl, hW, hg2, hb2⟩
  have hm2 := Lib.hid (hm1.kept hb2 hml1)
  have hk2 := hk1.below hb2
  have hz2 := hb2.size
  have hB2 := Lib.hid (hB1.out.trans (hb2.mono (by omega)))
  generalize w1.heap.size = g at *
  obtain ⟨y0, y1, y2, y3, y4, y5, y6, yf, yl⟩ := hk2.cellsY
  have hyg : Y < g := by omega
  have hne1 : ¬ Y = g := by omega
  have hne2 : ¬ g = Y := by omega
  replace hW := Lib.hid hW
  replace hk2 := Lib.hid hk2
  clear hcut hcs hB1 hk1 hm1 hb2
  have hrl' := Lib.hid (fun W h => readLoop_any ⟨r.toArray⟩ W h (by show r.length ≤ 1048576; omega))
  have hbb : Below w2.heap.size w2 (w2.alloc (.cells #[.slice none 0 0] 113 (0, 0))) := Go.Joins.below_alloc1 _ _
  have hB3 := Lib.hid (hB2.out.trans (hbb.mono (Nat.le_of_lt yl)))
  have hm3 := Lib.hid (hm2.out.kept hbb hm2.out.lt)
  have hX3 := Lib.hid (heap_alloc_new w2 (.cells #[.slice none 0 0] 113 (0, 0)))
  have hz3 := Lib.hid (show w2.heap.size + 1 = (w2.alloc (.cells #[.slice none 0 0] 113 (0, 0))).heap.size by simp)
  have hK3 : Hid (∀ b, b < w2.heap.size → (w2.alloc (.cells #[.slice none 0 0] 113 (0, 0))).heap[b]? = w2.heap[b]?) := fun b hb => hbb.block b hb
  obtain ⟨ys, hys⟩ := hk2.out.o
  have hon : h.out.n ≤ 1048577 := by have := hk2.out.on; have := hrb.out.o; omega
  go_upto_region 15 with fail
  clear y0 y1 y2 y3 y4 y5 y6 yf hB2 hm2 hW hbb hsm hws
  generalize w2.alloc (.cells #[.slice none 0 0] 113 (0, 0)) = w3 at *
  obtain ⟨X, hX⟩ : ∃ X, X = w2.heap.size := ⟨_, rfl⟩
  rw [← hX] at hX3 hz3 hz2 hg2 hK3 yl ⊢
  replace hys := Lib.hid hys
  replace hX := Lib.hid hX
  go_wp2_with fail
  refine (hrl'.out _ hm3.out).mono ?_
  rintro e w4 ⟨K, A, c, t, rfl, hown, hKl, hKi, hb4⟩
  have hX3l : X < w3.heap.size := by have := hz3.out; omega
  have hz4 := hb4.size
  have hX4 := (hb4.block X hX3l).trans hX3.out
  have x0 : w4.cell? ⟨X, 0, none⟩ = some (.slice none 0 0) := by rw [Go.Joins.cell_of_block hX4]; rfl
  have xf : ∀ o, w4.frozen? ⟨X, o, none⟩ = false := Go.Joins.unfrozen_of_block hX4
  have hX4l : X < w4.heap.size := by omega
  have hXY : Y ≤ X := by omega
  have hB5 : Hid (Below Y w (w4.setCell ⟨X, 0, none⟩ (.slice A K.length c))) := (hB3.out.trans (hb4.mono (by omega))).setCell (p := ⟨X, 0, none⟩) hXY _
  have hK5 : Hid (∀ b, b < X → (w4.setCell ⟨X, 0, none⟩ (.slice A K.length c)).heap[b]? = w2.heap[b]?) := fun b hb => (Below.heap_setCell _ _ _ _ (Nat.ne_of_lt hb)).trans ((hb4.block b (by omega)).trans (hK3.out b hb))
  have hown5 : Hid ((w4.setCell ⟨X, 0, none⟩ (.slice A K.length c)).ownsRow w3.heap.size 152 3 (.slice A K.length c) K.length (K.flatMap knotC)) := ownsRow_setCell_below hown hX3l _
  have hX5 : Hid ((w4.setCell ⟨X, 0, none⟩ (.slice A K.length c)).heap[X]? = some (.cells #[.slice A K.length c] 113 (0, 0))) := Go.Joins.block_setCell hX4 (i := 0) _
  have hz5 : (w4.setCell ⟨X, 0, none⟩ (.slice A K.length c)).heap.size = w4.heap.size := by simp
  replace hz5 := Lib.hid hz5
  replace hKl : K.length ≤ 1048577 := Nat.le_trans hKl (by show r.length + 1 ≤ 1048577; omega)
  replace hKi := Lib.hid hKi
  clear hrl' hb4 hB3 hK3 hown hX4 hX3 hm3
  go_upto_region 16 with fail
  clear x0 xf
  generalize w4.setCell ⟨X, 0, none⟩ (.slice A K.length c) = w5 at *
  have hX5l : X < w5.heap.size := by rw [hz5.out]; omega
  have y3d : w5.drew.cell? ⟨Y, 3, none⟩ = some (.slice h.out.A h.out.n h.out.c) := (World.cell?_of_block (hK5.out Y yl)).trans (hk2.out.cells rfl)
  have x0d : w5.drew.cell? ⟨X, 0, none⟩ = some (.slice A K.length c) := (by rw [show w5.drew.cell? ⟨X, 0, none⟩ = w5.cell? ⟨X, 0, none⟩ from rfl, Go.Joins.cell_of_block hX5.out]; rfl)
  have hod : Hid (w5.drew.ownsRow lo 113 1 (.slice h.out.A h.out.n h.out.c) h.out.n ys) := mg_ownS hys.out.1 fun b _ hb => hK5.out b (by have := hX.out; omega)
  have hzd : w5.drew.heap.size = w5.heap.size := rfl
  have hlo5 : lo ≤ w5.drew.heap.size := by omega
  have hYd : Y < w5.drew.heap.size := by omega
  have hafter : Hid (∀ (ob : Obj) (A7 : Option Addr) (c7 : Nat) (w7 : World), (w5.drew.alloc ob).grownBy w7 (Value.slice h.out.A h.out.n h.out.c).ownBlock → w7.ownsRow lo 113 1 (.slice A7 (h.out.n + 1) c7) (h.out.n + 1) (ys ++ [.slice A K.length c]) → Hid (w7.cell? ⟨Y, 3, none⟩ = some (.slice h.out.A h.out.n h.out.c) ∧ w7.cell? ⟨X, 0, none⟩ = some (.slice A K.length c) ∧ (∀ o, w7.frozen? ⟨Y, o, none⟩ = false) ∧ Y < w7.heap.size ∧ MkG (w7.setCell ⟨Y, 3, none⟩ (.slice A7 (h.out.n + 1) c7)) Y lo ⟨d.name, d.code, d.adv, d.out ++ [K], d.parts, d.anchors, d.hints⟩ ⟨⟨A7, h.out.n + 1, c7⟩, h.parts, h.anchors⟩ ∧ Below Y w w7)) := by
    intro ob A7 c7 w7 hg7 ho7
    have hob : ∀ b, (Value.slice h.out.A h.out.n h.out.c).ownBlock = some b → lo ≤ b ∧ b < X := fun b hb => by
      have := hys.out.1.lt _ hb
      rw [← hX.out] at this
      exact this
    have hz7 := hg7.size
    simp at hz7
    have hal : ∀ b, b < w5.heap.size → (w5.drew.alloc ob).heap[b]? = w5.heap[b]? := fun b hb => Below.heap_alloc _ _ _ hb
    have hYb : w7.heap[Y]? = w5.heap[Y]? := (hg7.block Y (by simp; omega) (fun e => by have := (hob _ e.symm).1; omega)).trans (hal Y (by omega))
    have hXb : w7.heap[X]? = w5.heap[X]? := (hg7.block X (by simp; omega) (fun e => by have := (hob _ e.symm).2; omega)).trans (hal X hX5l)
    refine ⟨(World.cell?_of_block hYb).trans y3d, (World.cell?_of_block hXb).trans x0d, fun o => (World.frozen?_of_block (hYb.trans (hK5.out Y yl))).trans (Go.Joins.unfrozen_of_block hk2.out.box o), by omega, ?_, ?_⟩
    · exact hk2.out.loop hys.out (fun g hg hgl => (hal g (by have := hX.out; omega)).trans (hK5.out g (by have := hX.out; omega))) (by simp; have := hX.out; omega) (hown5.out.drew.alloc _) (by have := hX.out; omega) (by have := hX.out; omega) hg7 ho7
    · exact (hB5.out.drew.alloc (by omega) _).grown hg7 (by simp; omega) (fun b hb => by have := (hob _ hb).1; omega)
  have hrb7 : Hid (RB ⟨d.name, d.code, d.adv, d.out ++ [K], d.parts, d.anchors, d.hints⟩ (i + 1)) := ⟨by simp; exact hrb.out.o, fun K' hK' => by rcases List.mem_append.1 hK' with h1 | h1; exact hrb.out.k K' h1; rw [List.mem_singleton.1 h1]; exact hKl, Nat.le_succ_of_le hrb.out.p, Nat.le_succ_of_le hrb.out.a, hrb.out.nm, hrb.out.hn, hrb.out.an⟩
  have hfin : Hid (∀ d0, LineTo d s.data.toList d0 → t = true ∧ (⟨d.name, d.code, d.adv, d.out ++ [K], d.parts, d.anchors, d.hints⟩ : Gl) = d0) := fun d0 h0 => by
    obtain ⟨K', h1, h2, rfl⟩ := (hinv.out d0 h0).loopI
    obtain ⟨rfl, rfl⟩ := hKi.out K' h1 h2
    exact ⟨rfl, rfl⟩
  clear hys hK5 hown5 hB5 hX5 hk2 hKi hinv
  refine wp_region_head 9 (fun w' => w'.cell? ⟨Y, 3, none⟩ = some (.slice h.out.A h.out.n h.out.c) ∧ w'.cell? ⟨X, 0, none⟩ = some (.slice A K.length c)) (by kernel_rfl) (by kernel_rfl) (by exact ⟨y3d, x0d⟩) (fun hHeld => ?_)
  simp only [List.take_succ_cons, List.take_zero, List.drop_succ_cons, List.drop_zero]
  refine wpAnyH_take (i := 0) (v := ?_) ((List.getElem?_toArray).trans rfl) (by kernel_rfl) (by kernel_rfl) (by kernel_rfl) (fun _ _ _ h => h) (Or.inl ⟨by rfl, ?_⟩) (by assumption) ?_
  rotate_left
  · (intro w hSw; (try dsimp only at hSw); go_simp; (try (with_reducible rfl)))
  (try simp only [Act.put, List.setIfInBounds_toArray, List.set_cons_zero, List.set_cons_succ])
  refine wpAnyH_take (i := 1) (v := ?_) ((List.getElem?_toArray).trans rfl) (by kernel_rfl) (by kernel_rfl) (by kernel_rfl) (fun _ _ _ h => h) (Or.inl ⟨by rfl, ?_⟩) (by assumption) ?_
  rotate_left
  · (intro w hSw; (try dsimp only at hSw); go_simp; (try (with_reducible rfl)))
  (try simp only [Act.put, List.setIfInBounds_toArray, List.set_cons_zero, List.set_cons_succ])
  refine wpAnyH_take (i := 2) (v := ?_) ((List.getElem?_toArray).trans rfl) (by kernel_rfl) (by kernel_rfl) (by kernel_rfl) (fun _ _ _ h => h) (Or.inl ⟨by rfl, ?_⟩) (by assumption) ?_
  rotate_left
  · (intro w hSw; (try dsimp only at hSw); go_simp; (try (with_reducible rfl)))
  (try simp only [Act.put, List.setIfInBounds_toArray, List.set_cons_zero, List.set_cons_succ])
  refine wpAnyH_take (i := 3) (v := ?_) ((List.getElem?_toArray).trans rfl) (by kernel_rfl) (by kernel_rfl) (by kernel_rfl) (fun _ _ _ h => h) (Or.inl ⟨by rfl, ?_⟩) (by assumption) ?_
  rotate_left
  · (intro w hSw; (try dsimp only at hSw); go_simp; (try (with_reducible rfl)))
  (try simp only [Act.put, List.setIfInBounds_toArray, List.set_cons_zero, List.set_cons_succ])
  refine wpAnyH_take (i := 4) (v := ?_) ((List.getElem?_toArray).trans rfl) (by kernel_rfl) (by kernel_rfl) (by kernel_rfl) (fun _ _ _ h => h) (Or.inl ⟨by rfl, ?_⟩) (by assumption) ?_
  rotate_left
  · (intro w hSw; (try dsimp only at hSw); go_simp; (try (with_reducible rfl)))
  (try simp only [Act.put, List.setIfInBounds_toArray, List.set_cons_zero, List.set_cons_succ])
  refine wpAnyH_take (i := 5) (v := ?_) ((List.getElem?_toArray).trans rfl) (by kernel_rfl) (by kernel_rfl) (by kernel_rfl) (fun _ _ _ h => h) (Or.inl ⟨by rfl, ?_⟩) (by assumption) ?_
  rotate_left
  · (intro w hSw; (try dsimp only at hSw); go_simp; (try (with_reducible rfl)))
  (try simp only [Act.put, List.setIfInBounds_toArray, List.set_cons_zero, List.set_cons_succ])
  refine wpAnyH_take (i := 6) (v := ?_) ((List.getElem?_toArray).trans rfl) (by kernel_rfl) (by kernel_rfl) (by kernel_rfl) (fun _ _ _ h => h) (Or.inl ⟨by rfl, ?_⟩) (by assumption) ?_
  rotate_left
  · (intro w hSw; (try dsimp only at hSw); go_simp; (try (with_reducible rfl)))
  (try simp only [Act.put, List.setIfInBounds_toArray, List.set_cons_zero, List.set_cons_succ])
  refine wpAnyH_ready (rs := [7]) (by kernel_rfl) (by simp) ?_
  refine AllReadyH.cons ((List.getElem?_toArray).trans rfl) (fun K0 hK0 => ?_) AllReadyH.nil
  go_simp
  refine hK0.out _ _ ?_ (fun hHeld => ?_)
  · (exact ⟨Lib.cell?_alloc_some _ y3d, Lib.cell?_alloc_some _ x0d⟩)
  clear hK0 K0
  (try simp only [Act.put, List.setIfInBounds_toArray, List.set_cons_zero, List.set_cons_succ])
  refine wpAnyH_ready (rs := [8]) (by kernel_rfl) (by simp) ?_
  refine AllReadyH.cons ((List.getElem?_toArray).trans rfl) (fun K0 hK0 => ?_) AllReadyH.nil
  (refine stepAppAt rfl (.tmp 66) (.tmp 68) elemLoop rfl (v := .slice h.out.A h.out.n h.out.c) (n := h.out.n) (xs := ys) rfl (hod.out.alloc _) rfl (src_at (cs := [.slice A K.length c]) rfl (by simp [Value.oneCell']) (by simp)) (by omega) (by omega) (by first | omega | (simp <;> omega)) (h.out.n + 1) rfl ?_; intro A7 c7 w7 ho7 hg7; have hk7 := hafter.out _ A7 c7 w7 hg7 ho7; have y37 := hk7.out.1; have x07 := hk7.out.2.1; have yf7 := hk7.out.2.2.1; have yl7 := hk7.out.2.2.2.1; clear hafter)
  refine hK0.out _ _ ?_ (fun hHeld => ?_)
  · (exact ⟨y37, x07⟩)
  clear hK0 K0
  (try simp only [Act.put, List.setIfInBounds_toArray, List.set_cons_zero, List.set_cons_succ])
  refine wpAnyH_done (by kernel_rfl) ?_ _
  show wpList _ _ _ _ _ _
  all_goals
    go_wp2_with fail
    go_ret
    exact ⟨_, _, t, rfl, hk7.out.2.2.2.2.1, hrb7.out, hfin.out, hk7.out.2.2.2.2.2.setCell (p := ⟨Y, 3, none⟩) (Nat.le_refl _) _⟩
set_option maxHeartbeats 4000000 in
theorem rgl_part (s : ByteArray) (k r : List UInt8) (f : Bool) (w : World) (Y lo i : Nat) (d : Gl) (h : GlH) (hmk : MkG w Y lo d h) (hlo : lo ≤ w.heap.size) (hm : MaxI w) (hmY : 0 < Y) (hs : s.size ≤ 1048576) (hi : i ≤ 1048577) (hrb : RB d i)
    (hcut : ∀ W : World, Calls Tryz.prog 44 #[.string s, .string ⟨#[32]⟩] W fun e w' => e = .returned (.tuple #[.string ⟨k.toArray⟩, .string ⟨r.toArray⟩, .bool f]) ∧ Below W.heap.size W w') (hrl : r.length ≤ 1048576) (hk : k = kPart) (hinv : ∀ d0, LineTo d s.data.toList d0 → KindTo d kPart r d0) :
    Calls Tryz.prog 31 #[.pointer (some ⟨Y, 0, none⟩), .string s] w fun e w' => GLPost Y lo d i s.data.toList w e w' := by
  subst hk
  have hy := hmk.yb
  have hyl := hmk.yl
  have hml := hm.lt
  replace hcut := Lib.hid hcut
  replace hinv := Lib.hid hinv
  replace hmk := Lib.hid hmk
  replace hm := Lib.hid hm
  replace hrb := Lib.hid hrb
  have hcs := Lib.hid (fun W h => splitI_any ⟨r.toArray⟩ 32 W h (by show r.length ≤ 1048576; omega))
  obtain ⟨ws, hws⟩ : ∃ ws, ws = splitF 32 r := ⟨_, rfl⟩
  have hsl := splitF_len 32 r
  have hsm := Lib.hid (splitF_mem 32 r)
  rw [← hws] at hsl hsm
  replace hcs : Hid (∀ (W : World), MaxI W → Calls Tryz.prog 78 #[.string ⟨r.toArray⟩, .string ⟨#[32]⟩] W fun e w' => ∃ n, n = ws.length ∧ e = .returned (.slice (some ⟨W.heap.size, 0, none⟩) n n) ∧ (∀ (j : Nat) (l : List UInt8), ws[j]? = some l → w'.cell? ⟨W.heap.size, j, none⟩ = some (.string ⟨l.toArray⟩)) ∧ W.heap.size < w'.heap.size ∧ Below W.heap.size W w') := by
    rw [hws]; exact hcs
  replace hws := Lib.hid hws
  go_enter Tryz.func31, Tryz.ntmps31
  go_wp2_with fail
  refine (hcut.out _).mono ?_
  rintro e w1 ⟨rfl, hb1⟩
  have hm1 := hm.out.kept hb1 hml
  have hml1 := hm1.lt
  have hk1 := hmk.out.below hb1
  have hz1 := hb1.size
  have hB1 := Lib.hid (hb1.mono (Nat.le_of_lt hy))
  clear hb1 hm hmk
  go_wp2_with fail
  refine (hcs.out _ hm1).mono ?_
  rintro e w2 ⟨n, hn, rfl, hW, hg2, hb2⟩
  have hm2 := Lib.hid (hm1.kept hb2 hml1)
  have hk2 := hk1.below hb2
  have hz2 := hb2.size
  have hB2 := Lib.hid (hB1.out.trans (hb2.mono (by omega)))
  generalize w1.heap.size = g at *
  obtain ⟨y0, y1, y2, y3, y4, y5, y6, yf, yl⟩ := hk2.cellsY
  have hyg : Y < g := by omega
  have hne1 : ¬ Y = g := by omega
  have hne2 : ¬ g = Y := by omega
  replace hW := Lib.hid hW
  replace hk2 := Lib.hid hk2
  clear hcut hcs hB1 hk1 hm1 hb2
  by_cases h3 : ws.length = 2
  rotate_left
  · have t1 : ((ws.length : Int) != 2) = true := by simp; omega
    have hno : Hid (∀ d0, LineTo d s.data.toList d0 → False) := fun d0 h0 => h3 (by have := part_len (hinv.out d0 h0); rwa [← hws.out] at this)
    clear h3
    go_wp2_with fail
    go_ret
    exact ⟨d, h, false, rfl, hk2.out, hrb.out.up, fun d0 h0 => (hno.out d0 h0).elim, hB2.out⟩
  obtain ⟨a, b, rfl⟩ : ∃ a b, ws = [a, b] := by match ws, h3 with | [a, b], _ => exact ⟨a, b, rfl⟩
  have q0 := hW.out 0 a rfl
  have q1 := hW.out 1 b rfl
  have hal := hsm.out a (by simp)
  have hbl := hsm.out b (by simp)
  have hd1 := Lib.hid (fun W => ReadDecimal_any ⟨a.toArray⟩ W (by show a.length ≤ 1048576; omega))
  have hd2 := Lib.hid (fun W => implReadPt_any ⟨b.toArray⟩ W (by show b.length ≤ 1048576; omega))
  have hbb : Below w2.heap.size w2 (w2.alloc (.cells #[.int .i64 0, .int .i64 0, .int .i64 0] 106 (0, 0))) := Go.Joins.below_alloc1 _ _
  have hB3 := Lib.hid (hB2.out.trans (hbb.mono (Nat.le_of_lt yl)))
  have hX3 := Lib.hid (heap_alloc_new w2 (.cells #[.int .i64 0, .int .i64 0, .int .i64 0] 106 (0, 0)))
  have hz3 := Lib.hid (show w2.heap.size + 1 = (w2.alloc (.cells #[.int .i64 0, .int .i64 0, .int .i64 0] 106 (0, 0))).heap.size by simp)
  have hK3 : Hid (∀ b, b < w2.heap.size → (w2.alloc (.cells #[.int .i64 0, .int .i64 0, .int .i64 0] 106 (0, 0))).heap[b]? = w2.heap[b]?) := fun b hb => hbb.block b hb
  have q0 := (hbb.cell hg2).trans q0
  have q1 := (hbb.cell hg2).trans q1
  have hon : h.parts.n ≤ 1048577 := by have := hk2.out.pn; have := hrb.out.p; omega
  go_upto_region 21 with fail
  clear y0 y1 y2 y3 y4 y5 y6 yf hB2 hm2 hW hbb hsm
  generalize w2.alloc (.cells #[.int .i64 0, .int .i64 0, .int .i64 0] 106 (0, 0)) = w3 at *
  obtain ⟨X, hX⟩ : ∃ X, X = w2.heap.size := ⟨_, rfl⟩
  rw [← hX] at hX3 hz3 hz2 hg2 hK3 yl ⊢
  replace hX := Lib.hid hX
  have hXY : Y ≤ X := by omega
  have hgX : ¬ g = X := by omega
  go_wp2_with fail
  refine (hd1.out _).mono ?_
  intro e w4 hA
  obtain ⟨x, t, rfl, hxt, hb4⟩ := rd_form hA
  have hX3l : X < w3.heap.size := by have := hz3.out; omega
  have hz4 := hb4.size
  have hX4 := Lib.hid ((hb4.block X hX3l).trans hX3.out)
  have x0 : w4.cell? ⟨X, 0, none⟩ = some (.int .i64 0) := by rw [Go.Joins.cell_of_block hX4.out]; rfl
  have xf : ∀ o, w4.frozen? ⟨X, o, none⟩ = false := Go.Joins.unfrozen_of_block hX4.out
  have hX4l : X < w4.heap.size := by omega
  have q1 : (w4.setCell ⟨X, 0, none⟩ (.int .i64 x)).cell? ⟨g, 1, none⟩ = some (.string ⟨b.toArray⟩) := (World.cell?_of_block (Below.heap_setCell _ _ _ _ hgX)).trans ((hb4.cell (by show g < w3.heap.size; omega)).trans q1)
  have hBq : Hid (Below Y w (w4.setCell ⟨X, 0, none⟩ (.int .i64 x))) := (hB3.out.trans (hb4.mono (by omega))).setCell (p := ⟨X, 0, none⟩) hXY _
  have hKq : Hid (∀ b, b < X → (w4.setCell ⟨X, 0, none⟩ (.int .i64 x)).heap[b]? = w2.heap[b]?) := fun b hb => (Below.heap_setCell _ _ _ _ (Nat.ne_of_lt hb)).trans ((hb4.block b (by omega)).trans (hK3.out b hb))
  have hXq : Hid ((w4.setCell ⟨X, 0, none⟩ (.int .i64 x)).heap[X]? = some (.cells #[.int .i64 x, .int .i64 0, .int .i64 0] 106 (0, 0))) := Go.Joins.block_setCell hX4.out (i := 0) _
  have hzq : (w4.setCell ⟨X, 0, none⟩ (.int .i64 x)).heap.size = w4.heap.size := by simp
  replace hzq := Lib.hid hzq
  clear hA hb4 hX4 hX3 hB3 hK3 hd1 q0
  rcases hxt with ⟨rfl, hxd⟩ | ⟨rfl, hxd⟩
  rotate_left
  · obtain ⟨px, hpx⟩ : ∃ px : Int, px = 0 := ⟨_, rfl⟩
    obtain ⟨py, hpy⟩ : ∃ py : Int, py = 0 := ⟨_, rfl⟩
    obtain ⟨t, ht⟩ : ∃ t, t = false := ⟨_, rfl⟩
    have hfin : Hid (∀ d0, LineTo d s.data.toList d0 → t = true ∧ (⟨d.name, d.code, d.adv, d.out, d.parts ++ [(x, px, py)], d.anchors, d.hints⟩ : Gl) = d0) := fun d0 h0 => by
      obtain ⟨x, _, _, h1, _⟩ := part_is hws.out (hinv.out d0 h0)
      exact absurd h1 (hxd x)
    clear hxd hinv hws hd2 q1
    go_upto_region 24 with fail
    clear x0 xf
    generalize w4.setCell ⟨X, 0, none⟩ (.int .i64 x) = w5 at *
    have hX5l : X < w5.heap.size := by rw [hzq.out]; omega
    have hX5 : Hid (w5.heap[X]? = some (.cells #[.int .i64 x, .int .i64 px, .int .i64 py] 106 (0, 0))) := by rw [hpx, hpy]; exact hXq
    have hB5 := hBq
    have hK5 := hKq
    clear hBq hKq hXq hzq
    rw [← ht]
    clear ht hpx hpy
    have hk5 : MkG w5 Y lo d h := hk2.out.same (fun g hg hgl => hK5.out g (by have := hX.out; omega)) (by have := hX.out; omega)
    have y3d : w5.drew.cell? ⟨Y, 4, none⟩ = some (.slice h.parts.A h.parts.n h.parts.c) := hk5.cells rfl
    have x0d : w5.drew.cell? ⟨X, 0, none⟩ = some (.int .i64 x) := (by rw [show w5.drew.cell? ⟨X, 0, none⟩ = w5.cell? ⟨X, 0, none⟩ from rfl, Go.Joins.cell_of_block hX5.out]; rfl)
    have x1d : w5.drew.cell? ⟨X, 1, none⟩ = some (.int .i64 px) := (by rw [show w5.drew.cell? ⟨X, 1, none⟩ = w5.cell? ⟨X, 1, none⟩ from rfl, Go.Joins.cell_of_block hX5.out]; rfl)
    have x2d : w5.drew.cell? ⟨X, 2, none⟩ = some (.int .i64 py) := (by rw [show w5.drew.cell? ⟨X, 2, none⟩ = w5.cell? ⟨X, 2, none⟩ from rfl, Go.Joins.cell_of_block hX5.out]; rfl)
    have hod : Hid (w5.drew.ownsRow lo 106 3 (.slice h.parts.A h.parts.n h.parts.c) h.parts.n (d.parts.flatMap partC)) := hk5.p.drew
    have hzd : w5.drew.heap.size = w5.heap.size := rfl
    have hlo5 : lo ≤ w5.drew.heap.size := by omega
    have hYd : Y < w5.drew.heap.size := by omega
    have hfx : ∀ g, (Value.slice h.parts.A h.parts.n h.parts.c).ownBlock = some g → lo ≤ g ∧ g < X := fun b hb => by
      have := hk2.out.p.lt _ hb
      rw [← hX.out] at this
      exact this
    replace hfx := Lib.hid hfx
    replace hk5 := Lib.hid hk5
    have hafter : Hid (∀ (ob : Obj) (A7 : Option Addr) (c7 : Nat) (w7 : World), (w5.drew.alloc ob).grownBy w7 (Value.slice h.parts.A h.parts.n h.parts.c).ownBlock → w7.ownsRow lo 106 3 (.slice A7 (h.parts.n + 1) c7) (h.parts.n + 1) (d.parts.flatMap partC ++ [.int .i64 x, .int .i64 px, .int .i64 py]) → Hid (w7.cell? ⟨Y, 4, none⟩ = some (.slice h.parts.A h.parts.n h.parts.c) ∧ w7.cell? ⟨X, 0, none⟩ = some (.int .i64 x) ∧ w7.cell? ⟨X, 1, none⟩ = some (.int .i64 px) ∧ w7.cell? ⟨X, 2, none⟩ = some (.int .i64 py) ∧ (∀ o, w7.frozen? ⟨Y, o, none⟩ = false) ∧ Y < w7.heap.size ∧ MkG (w7.setCell ⟨Y, 4, none⟩ (.slice A7 (h.parts.n + 1) c7)) Y lo ⟨d.name, d.code, d.adv, d.out, d.parts ++ [(x, px, py)], d.anchors, d.hints⟩ ⟨h.out, ⟨A7, h.parts.n + 1, c7⟩, h.anchors⟩ ∧ Below Y w w7)) := by
      intro ob A7 c7 w7 hg7 ho7
      have hz7 := hg7.size
      simp at hz7
      have hal : ∀ b, b < w5.heap.size → (w5.drew.alloc ob).heap[b]? = w5.heap[b]? := fun b hb => Below.heap_alloc _ _ _ hb
      have hYb : w7.heap[Y]? = w5.heap[Y]? := (hg7.block Y (by simp; omega) (fun e => by have := (hfx.out _ e.symm).1; omega)).trans (hal Y (by omega))
      have hXb : w7.heap[X]? = w5.heap[X]? := (hg7.block X (by simp; omega) (fun e => by have := (hfx.out _ e.symm).2; omega)).trans (hal X hX5l)
      refine ⟨(World.cell?_of_block hYb).trans y3d, (World.cell?_of_block hXb).trans x0d, (World.cell?_of_block hXb).trans x1d, (World.cell?_of_block hXb).trans x2d, fun o => (World.frozen?_of_block hYb).trans (Go.Joins.unfrozen_of_block hk5.out.box o), by omega, ?_, ?_⟩
      · exact MkG.part (p := (x, px, py)) (hk5.out.same (fun g hg hgl => hal g hgl) (by simp)) hg7 ho7
      · exact (hB5.out.drew.alloc (by omega) _).grown hg7 (by simp; omega) (fun b hb => by have := (hfx.out _ hb).1; omega)
    have hrb7 : Hid (RB ⟨d.name, d.code, d.adv, d.out, d.parts ++ [(x, px, py)], d.anchors, d.hints⟩ (i + 1)) := ⟨Nat.le_succ_of_le hrb.out.o, hrb.out.k, by simp; exact hrb.out.p, Nat.le_succ_of_le hrb.out.a, hrb.out.nm, hrb.out.hn, hrb.out.an⟩
    clear hK5 hB5 hX5 hk2 hk5 hX hfx
    refine wp_region_head 8 (fun w' => w'.cell? ⟨Y, 4, none⟩ = some (.slice h.parts.A h.parts.n h.parts.c) ∧ w'.cell? ⟨X, 0, none⟩ = some (.int .i64 x) ∧ w'.cell? ⟨X, 1, none⟩ = some (.int .i64 px) ∧ w'.cell? ⟨X, 2, none⟩ = some (.int .i64 py)) (by kernel_rfl) (by kernel_rfl) (by exact ⟨y3d, x0d, x1d, x2d⟩) (fun hHeld => ?_)
    simp only [List.take_succ_cons, List.take_zero, List.drop_succ_cons, List.drop_zero]
    refine wpAnyH_take (i := 0) (v := ?_) ((List.getElem?_toArray).trans rfl) (by kernel_rfl) (by kernel_rfl) (by kernel_rfl) (fun _ _ _ h => h) (Or.inl ⟨by rfl, ?_⟩) (by assumption) ?_
    rotate_left
    · (intro w hSw; (try dsimp only at hSw); go_simp; (try (with_reducible rfl)))
    (try simp only [Act.put, List.setIfInBounds_toArray, List.set_cons_zero, List.set_cons_succ])
    refine wpAnyH_take (i := 1) (v := ?_) ((List.getElem?_toArray).trans rfl) (by kernel_rfl) (by kernel_rfl) (by kernel_rfl) (fun _ _ _ h => h) (Or.inl ⟨by rfl, ?_⟩) (by assumption) ?_
    rotate_left
    · (intro w hSw; (try dsimp only at hSw); go_simp; (try (with_reducible rfl)))
    (try simp only [Act.put, List.setIfInBounds_toArray, List.set_cons_zero, List.set_cons_succ])
    refine wpAnyH_take (i := 2) (v := ?_) ((List.getElem?_toArray).trans rfl) (by kernel_rfl) (by kernel_rfl) (by kernel_rfl) (fun _ _ _ h => h) (Or.inl ⟨by rfl, ?_⟩) (by assumption) ?_
    rotate_left
    · (intro w hSw; (try dsimp only at hSw); go_simp; (try (with_reducible rfl)))
    (try simp only [Act.put, List.setIfInBounds_toArray, List.set_cons_zero, List.set_cons_succ])
    refine wpAnyH_take (i := 3) (v := ?_) ((List.getElem?_toArray).trans rfl) (by kernel_rfl) (by kernel_rfl) (by kernel_rfl) (fun _ _ _ h => h) (Or.inl ⟨by rfl, ?_⟩) (by assumption) ?_
    rotate_left
    · (intro w hSw; (try dsimp only at hSw); go_simp; (try (with_reducible rfl)))
    (try simp only [Act.put, List.setIfInBounds_toArray, List.set_cons_zero, List.set_cons_succ])
    refine wpAnyH_take (i := 4) (v := ?_) ((List.getElem?_toArray).trans rfl) (by kernel_rfl) (by kernel_rfl) (by kernel_rfl) (fun _ _ _ h => h) (Or.inl ⟨by rfl, ?_⟩) (by assumption) ?_
    rotate_left
    · (intro w hSw; (try dsimp only at hSw); go_simp; (try (with_reducible rfl)))
    (try simp only [Act.put, List.setIfInBounds_toArray, List.set_cons_zero, List.set_cons_succ])
    refine wpAnyH_take (i := 5) (v := ?_) ((List.getElem?_toArray).trans rfl) (by kernel_rfl) (by kernel_rfl) (by kernel_rfl) (fun _ _ _ h => h) (Or.inl ⟨by rfl, ?_⟩) (by assumption) ?_
    rotate_left
    · (intro w hSw; (try dsimp only at hSw); go_simp; (try (with_reducible rfl)))
    (try simp only [Act.put, List.setIfInBounds_toArray, List.set_cons_zero, List.set_cons_succ])
    refine wpAnyH_ready (rs := [6]) (by kernel_rfl) (by simp) ?_
    refine AllReadyH.cons ((List.getElem?_toArray).trans rfl) (fun K0 hK0 => ?_) AllReadyH.nil
    go_simp
    refine hK0.out _ _ ?_ (fun hHeld => ?_)
    · (exact ⟨Lib.cell?_alloc_some _ y3d, Lib.cell?_alloc_some _ x0d, Lib.cell?_alloc_some _ x1d, Lib.cell?_alloc_some _ x2d⟩)
    clear hK0 K0
    (try simp only [Act.put, List.setIfInBounds_toArray, List.set_cons_zero, List.set_cons_succ])
    refine wpAnyH_ready (rs := [7]) (by kernel_rfl) (by simp) ?_
    refine AllReadyH.cons ((List.getElem?_toArray).trans rfl) (fun K0 hK0 => ?_) AllReadyH.nil
    (refine stepAppAt rfl (.tmp 99) (.tmp 101) elemPart rfl (v := .slice h.parts.A h.parts.n h.parts.c) (n := h.parts.n) (xs := d.parts.flatMap partC) rfl (hod.out.alloc _) rfl (src_at (cs := [.int .i64 x, .int .i64 px, .int .i64 py]) rfl (by simp [Value.oneCell']) (by simp)) (by omega) (by omega) (by first | omega | (simp <;> omega)) (h.parts.n + 1) rfl ?_; intro A7 c7 w7 ho7 hg7; have hk7 := hafter.out _ A7 c7 w7 hg7 ho7; have y37 := hk7.out.1; have x07 := hk7.out.2.1; have x17 := hk7.out.2.2.1; have x27 := hk7.out.2.2.2.1; have yf7 := hk7.out.2.2.2.2.1; have yl7 := hk7.out.2.2.2.2.2.1; clear hafter)
    refine hK0.out _ _ ?_ (fun hHeld => ?_)
    · (exact ⟨y37, x07, x17, x27⟩)
    clear hK0 K0
    (try simp only [Act.put, List.setIfInBounds_toArray, List.set_cons_zero, List.set_cons_succ])
    refine wpAnyH_done (by kernel_rfl) ?_ _
    show wpList _ _ _ _ _ _
    all_goals
      go_wp2_with fail
      go_ret
      exact ⟨_, _, t, rfl, hk7.out.2.2.2.2.2.2.1, hrb7.out, hfin.out, hk7.out.2.2.2.2.2.2.2.setCell (p := ⟨Y, 4, none⟩) (Nat.le_refl _) _⟩
  replace hxd := Lib.hid hxd
  go_upto_region 23 with fail
  clear x0 xf
  generalize w4.setCell ⟨X, 0, none⟩ (.int .i64 x) = w8 at *
  have hXw : X < w8.heap.size := by rw [hzq.out]; omega
  go_wp2_with fail
  refine (hd2.out _).mono ?_
  intro e w9 hP
  obtain ⟨px, py, t, rfl, hxy, hb9⟩ := hP.get
  have hz9 := hb9.size
  have hX9 := Lib.hid ((hb9.block X hXw).trans hXq.out)
  have x1 : w9.cell? ⟨X, 1, none⟩ = some (.int .i64 0) := by rw [Go.Joins.cell_of_block hX9.out]; rfl
  have x2 : w9.cell? ⟨X, 2, none⟩ = some (.int .i64 0) := by rw [Go.Joins.cell_of_block hX9.out]; rfl
  have xf : ∀ o, w9.frozen? ⟨X, o, none⟩ = false := Go.Joins.unfrozen_of_block hX9.out
  have hX9l : X < w9.heap.size := by omega
  have hB5 : Hid (Below Y w ((w9.setCell ⟨X, 1, none⟩ (.int .i64 px)).setCell ⟨X, 2, none⟩ (.int .i64 py))) := ((hBq.out.trans (hb9.mono (by omega))).setCell (p := ⟨X, 1, none⟩) hXY _).setCell (p := ⟨X, 2, none⟩) hXY _
  have hK5 : Hid (∀ b, b < X → ((w9.setCell ⟨X, 1, none⟩ (.int .i64 px)).setCell ⟨X, 2, none⟩ (.int .i64 py)).heap[b]? = w2.heap[b]?) := fun b hb => (Below.heap_setCell _ _ _ _ (Nat.ne_of_lt hb)).trans ((Below.heap_setCell _ _ _ _ (Nat.ne_of_lt hb)).trans ((hb9.block b (by omega)).trans (hKq.out b hb)))
  have hX5 : Hid (((w9.setCell ⟨X, 1, none⟩ (.int .i64 px)).setCell ⟨X, 2, none⟩ (.int .i64 py)).heap[X]? = some (.cells #[.int .i64 x, .int .i64 px, .int .i64 py] 106 (0, 0))) := Go.Joins.block_setCell (Go.Joins.block_setCell hX9.out (i := 1) (.int .i64 px)) (i := 2) (.int .i64 py)
  have hz5 : ((w9.setCell ⟨X, 1, none⟩ (.int .i64 px)).setCell ⟨X, 2, none⟩ (.int .i64 py)).heap.size = w9.heap.size := by simp
  replace hz5 := Lib.hid hz5
  have hfin : Hid (∀ d0, LineTo d s.data.toList d0 → t = true ∧ (⟨d.name, d.code, d.adv, d.out, d.parts ++ [(x, px, py)], d.anchors, d.hints⟩ : Gl) = d0) := fun d0 h0 => by
    obtain ⟨x', px', py', h1, h2, h3, rfl⟩ := part_is hws.out (hinv.out d0 h0)
    obtain rfl := IsDec.unique hxd.out h1
    obtain ⟨rfl, rfl, rfl⟩ := hxy px' py' h2 h3
    exact ⟨rfl, rfl⟩
  clear hxd hinv hws hd2 q1 hP hxy hb9 hX9 hBq hKq hXq
  go_upto_region 24 with fail
  clear x1 x2 xf
  generalize (w9.setCell ⟨X, 1, none⟩ (.int .i64 px)).setCell ⟨X, 2, none⟩ (.int .i64 py) = w5 at *
  have hX5l : X < w5.heap.size := by rw [hz5.out]; omega
  have hk5 : MkG w5 Y lo d h := hk2.out.same (fun g hg hgl => hK5.out g (by have := hX.out; omega)) (by have := hX.out; omega)
  have y3d : w5.drew.cell? ⟨Y, 4, none⟩ = some (.slice h.parts.A h.parts.n h.parts.c) := hk5.cells rfl
  have x0d : w5.drew.cell? ⟨X, 0, none⟩ = some (.int .i64 x) := (by rw [show w5.drew.cell? ⟨X, 0, none⟩ = w5.cell? ⟨X, 0, none⟩ from rfl, Go.Joins.cell_of_block hX5.out]; rfl)
  have x1d : w5.drew.cell? ⟨X, 1, none⟩ = some (.int .i64 px) := (by rw [show w5.drew.cell? ⟨X, 1, none⟩ = w5.cell? ⟨X, 1, none⟩ from rfl, Go.Joins.cell_of_block hX5.out]; rfl)
  have x2d : w5.drew.cell? ⟨X, 2, none⟩ = some (.int .i64 py) := (by rw [show w5.drew.cell? ⟨X, 2, none⟩ = w5.cell? ⟨X, 2, none⟩ from rfl, Go.Joins.cell_of_block hX5.out]; rfl)
  have hod : Hid (w5.drew.ownsRow lo 106 3 (.slice h.parts.A h.parts.n h.parts.c) h.parts.n (d.parts.flatMap partC)) := hk5.p.drew
  have hzd : w5.drew.heap.size = w5.heap.size := rfl
  have hlo5 : lo ≤ w5.drew.heap.size := by omega
  have hYd : Y < w5.drew.heap.size := by omega
  have hfx : ∀ g, (Value.slice h.parts.A h.parts.n h.parts.c).ownBlock = some g → lo ≤ g ∧ g < X := fun b hb => by
    have := hk2.out.p.lt _ hb
    rw [← hX.out] at this
    exact this
  replace hfx := Lib.hid hfx
  replace hk5 := Lib.hid hk5
  have hafter : Hid (∀ (ob : Obj) (A7 : Option Addr) (c7 : Nat) (w7 : World), (w5.drew.alloc ob).grownBy w7 (Value.slice h.parts.A h.parts.n h.parts.c).ownBlock → w7.ownsRow lo 106 3 (.slice A7 (h.parts.n + 1) c7) (h.parts.n + 1) (d.parts.flatMap partC ++ [.int .i64 x, .int .i64 px, .int .i64 py]) → Hid (w7.cell? ⟨Y, 4, none⟩ = some (.slice h.parts.A h.parts.n h.parts.c) ∧ w7.cell? ⟨X, 0, none⟩ = some (.int .i64 x) ∧ w7.cell? ⟨X, 1, none⟩ = some (.int .i64 px) ∧ w7.cell? ⟨X, 2, none⟩ = some (.int .i64 py) ∧ (∀ o, w7.frozen? ⟨Y, o, none⟩ = false) ∧ Y < w7.heap.size ∧ MkG (w7.setCell ⟨Y, 4, none⟩ (.slice A7 (h.parts.n + 1) c7)) Y lo ⟨d.name, d.code, d.adv, d.out, d.parts ++ [(x, px, py)], d.anchors, d.hints⟩ ⟨h.out, ⟨A7, h.parts.n + 1, c7⟩, h.anchors⟩ ∧ Below Y w w7)) := by
    intro ob A7 c7 w7 hg7 ho7
    have hz7 := hg7.size
    simp at hz7
    have hal : ∀ b, b < w5.heap.size → (w5.drew.alloc ob).heap[b]? = w5.heap[b]? := fun b hb => Below.heap_alloc _ _ _ hb
    have hYb : w7.heap[Y]? = w5.heap[Y]? := (hg7.block Y (by simp; omega) (fun e => by have := (hfx.out _ e.symm).1; omega)).trans (hal Y (by omega))
    have hXb : w7.heap[X]? = w5.heap[X]? := (hg7.block X (by simp; omega) (fun e => by have := (hfx.out _ e.symm).2; omega)).trans (hal X hX5l)
    refine ⟨(World.cell?_of_block hYb).trans y3d, (World.cell?_of_block hXb).trans x0d, (World.cell?_of_block hXb).trans x1d, (World.cell?_of_block hXb).trans x2d, fun o => (World.frozen?_of_block hYb).trans (Go.Joins.unfrozen_of_block hk5.out.box o), by omega, ?_, ?_⟩
    · exact MkG.part (p := (x, px, py)) (hk5.out.same (fun g hg hgl => hal g hgl) (by simp)) hg7 ho7
    · exact (hB5.out.drew.alloc (by omega) _).grown hg7 (by simp; omega) (fun b hb => by have := (hfx.out _ hb).1; omega)
  have hrb7 : Hid (RB ⟨d.name, d.code, d.adv, d.out, d.parts ++ [(x, px, py)], d.anchors, d.hints⟩ (i + 1)) := ⟨Nat.le_succ_of_le hrb.out.o, hrb.out.k, by simp; exact hrb.out.p, Nat.le_succ_of_le hrb.out.a, hrb.out.nm, hrb.out.hn, hrb.out.an⟩
  clear hK5 hB5 hX5 hk2 hk5 hX hfx
  refine wp_region_head 8 (fun w' => w'.cell? ⟨Y, 4, none⟩ = some (.slice h.parts.A h.parts.n h.parts.c) ∧ w'.cell? ⟨X, 0, none⟩ = some (.int .i64 x) ∧ w'.cell? ⟨X, 1, none⟩ = some (.int .i64 px) ∧ w'.cell? ⟨X, 2, none⟩ = some (.int .i64 py)) (by kernel_rfl) (by kernel_rfl) (by exact ⟨y3d, x0d, x1d, x2d⟩) (fun hHeld => ?_)
  simp only [List.take_succ_cons, List.take_zero, List.drop_succ_cons, List.drop_zero]
  refine wpAnyH_take (i := 0) (v := ?_) ((List.getElem?_toArray).trans rfl) (by kernel_rfl) (by kernel_rfl) (by kernel_rfl) (fun _ _ _ h => h) (Or.inl ⟨by rfl, ?_⟩) (by assumption) ?_
  rotate_left
  · (intro w hSw; (try dsimp only at hSw); go_simp; (try (with_reducible rfl)))
  (try simp only [Act.put, List.setIfInBounds_toArray, List.set_cons_zero, List.set_cons_succ])
  refine wpAnyH_take (i := 1) (v := ?_) ((List.getElem?_toArray).trans rfl) (by kernel_rfl) (by kernel_rfl) (by kernel_rfl) (fun _ _ _ h => h) (Or.inl ⟨by rfl, ?_⟩) (by assumption) ?_
  rotate_left
  · (intro w hSw; (try dsimp only at hSw); go_simp; (try (with_reducible rfl)))
  (try simp only [Act.put, List.setIfInBounds_toArray, List.set_cons_zero, List.set_cons_succ])
  refine wpAnyH_take (i := 2) (v := ?_) ((List.getElem?_toArray).trans rfl) (by kernel_rfl) (by kernel_rfl) (by kernel_rfl) (fun _ _ _ h => h) (Or.inl ⟨by rfl, ?_⟩) (by assumption) ?_
  rotate_left
  · (intro w hSw; (try dsimp only at hSw); go_simp; (try (with_reducible rfl)))
  (try simp only [Act.put, List.setIfInBounds_toArray, List.set_cons_zero, List.set_cons_succ])
  refine wpAnyH_take (i := 3) (v := ?_) ((List.getElem?_toArray).trans rfl) (by kernel_rfl) (by kernel_rfl) (by kernel_rfl) (fun _ _ _ h => h) (Or.inl ⟨by rfl, ?_⟩) (by assumption) ?_
  rotate_left
  · (intro w hSw; (try dsimp only at hSw); go_simp; (try (with_reducible rfl)))
  (try simp only [Act.put, List.setIfInBounds_toArray, List.set_cons_zero, List.set_cons_succ])
  refine wpAnyH_take (i := 4) (v := ?_) ((List.getElem?_toArray).trans rfl) (by kernel_rfl) (by kernel_rfl) (by kernel_rfl) (fun _ _ _ h => h) (Or.inl ⟨by rfl, ?_⟩) (by assumption) ?_
  rotate_left
  · (intro w hSw; (try dsimp only at hSw); go_simp; (try (with_reducible rfl)))
  (try simp only [Act.put, List.setIfInBounds_toArray, List.set_cons_zero, List.set_cons_succ])
  refine wpAnyH_take (i := 5) (v := ?_) ((List.getElem?_toArray).trans rfl) (by kernel_rfl) (by kernel_rfl) (by kernel_rfl) (fun _ _ _ h => h) (Or.inl ⟨by rfl, ?_⟩) (by assumption) ?_
  rotate_left
  · (intro w hSw; (try dsimp only at hSw); go_simp; (try (with_reducible rfl)))
  (try simp only [Act.put, List.setIfInBounds_toArray, List.set_cons_zero, List.set_cons_succ])
  refine wpAnyH_ready (rs := [6]) (by kernel_rfl) (by simp) ?_
  refine AllReadyH.cons ((List.getElem?_toArray).trans rfl) (fun K0 hK0 => ?_) AllReadyH.nil
  go_simp
  refine hK0.out _ _ ?_ (fun hHeld => ?_)
  · (exact ⟨Lib.cell?_alloc_some _ y3d, Lib.cell?_alloc_some _ x0d, Lib.cell?_alloc_some _ x1d, Lib.cell?_alloc_some _ x2d⟩)
  clear hK0 K0
  (try simp only [Act.put, List.setIfInBounds_toArray, List.set_cons_zero, List.set_cons_succ])
  refine wpAnyH_ready (rs := [7]) (by kernel_rfl) (by simp) ?_
  refine AllReadyH.cons ((List.getElem?_toArray).trans rfl) (fun K0 hK0 => ?_) AllReadyH.nil
  (refine stepAppAt rfl (.tmp 99) (.tmp 101) elemPart rfl (v := .slice h.parts.A h.parts.n h.parts.c) (n := h.parts.n) (xs := d.parts.flatMap partC) rfl (hod.out.alloc _) rfl (src_at (cs := [.int .i64 x, .int .i64 px, .int .i64 py]) rfl (by simp [Value.oneCell']) (by simp)) (by omega) (by omega) (by first | omega | (simp <;> omega)) (h.parts.n + 1) rfl ?_; intro A7 c7 w7 ho7 hg7; have hk7 := hafter.out _ A7 c7 w7 hg7 ho7; have y37 := hk7.out.1; have x07 := hk7.out.2.1; have x17 := hk7.out.2.2.1; have x27 := hk7.out.2.2.2.1; have yf7 := hk7.out.2.2.2.2.1; have yl7 := hk7.out.2.2.2.2.2.1; clear hafter)
  refine hK0.out _ _ ?_ (fun hHeld => ?_)
  · (exact ⟨y37, x07, x17, x27⟩)
  clear hK0 K0
  (try simp only [Act.put, List.setIfInBounds_toArray, List.set_cons_zero, List.set_cons_succ])
  refine wpAnyH_done (by kernel_rfl) ?_ _
  show wpList _ _ _ _ _ _
  all_goals
    go_wp2_with fail
    go_ret
    exact ⟨_, _, t, rfl, hk7.out.2.2.2.2.2.2.1, hrb7.out, hfin.out, hk7.out.2.2.2.2.2.2.2.setCell (p := ⟨Y, 4, none⟩) (Nat.le_refl _) _⟩
set_option maxHeartbeats 4000000 in
theorem rgl_anch (s : ByteArray) (k r : List UInt8) (f : Bool) (w : World) (Y lo i : Nat) (d : Gl) (h : GlH) (hmk : MkG w Y lo d h) (hlo : lo ≤ w.heap.size) (hm : MaxI w) (hmY : 0 < Y) (hs : s.size ≤ 1048576) (hi : i ≤ 1048577) (hrb : RB d i)
    (hcut : ∀ W : World, Calls Tryz.prog 44 #[.string s, .string ⟨#[32]⟩] W fun e w' => e = .returned (.tuple #[.string ⟨k.toArray⟩, .string ⟨r.toArray⟩, .bool f]) ∧ Below W.heap.size W w') (hrl : r.length ≤ 1048576) (hk : k = kAnch) (hinv : ∀ d0, LineTo d s.data.toList d0 → KindTo d kAnch r d0) :
    Calls Tryz.prog 31 #[.pointer (some ⟨Y, 0, none⟩), .string s] w fun e w' => GLPost Y lo d i s.data.toList w e w' := by
  subst hk
  have hy := hmk.yb
  have hyl := hmk.yl
  have hml := hm.lt
  replace hcut := Lib.hid hcut
  replace hinv := Lib.hid hinv
  replace hmk := Lib.hid hmk
  replace hm := Lib.hid hm
  replace hrb := Lib.hid hrb
  have hcs := Lib.hid (fun W h => splitI_any ⟨r.toArray⟩ 32 W h (by show r.length ≤ 1048576; omega))
  obtain ⟨ws, hws⟩ : ∃ ws, ws = splitF 32 r := ⟨_, rfl⟩
  have hsl := splitF_len 32 r
  have hsm := Lib.hid (splitF_mem 32 r)
  rw [← hws] at hsl hsm
  replace hcs : Hid (∀ (W : World), MaxI W → Calls Tryz.prog 78 #[.string ⟨r.toArray⟩, .string ⟨#[32]⟩] W fun e w' => ∃ n, n = ws.length ∧ e = .returned (.slice (some ⟨W.heap.size, 0, none⟩) n n) ∧ (∀ (j : Nat) (l : List UInt8), ws[j]? = some l → w'.cell? ⟨W.heap.size, j, none⟩ = some (.string ⟨l.toArray⟩)) ∧ W.heap.size < w'.heap.size ∧ Below W.heap.size W w') := by
    rw [hws]; exact hcs
  replace hws := Lib.hid hws
  go_enter Tryz.func31, Tryz.ntmps31
  go_wp2_with fail
  refine (hcut.out _).mono ?_
  rintro e w1 ⟨rfl, hb1⟩
  have hm1 := hm.out.kept hb1 hml
  have hml1 := hm1.lt
  have hk1 := hmk.out.below hb1
  have hz1 := hb1.size
  have hB1 := Lib.hid (hb1.mono (Nat.le_of_lt hy))
  clear hb1 hm hmk
  go_wp2_with fail
  refine (hcs.out _ hm1).mono ?_
  rintro e w2 ⟨n, hn, rfl, hW, hg2, hb2⟩
  have hm2 := Lib.hid (hm1.kept hb2 hml1)
  have hk2 := hk1.below hb2
  have hz2 := hb2.size
  have hB2 := Lib.hid (hB1.out.trans (hb2.mono (by omega)))
  generalize w1.heap.size = g at *
  obtain ⟨y0, y1, y2, y3, y4, y5, y6, yf, yl⟩ := hk2.cellsY
  have hyg : Y < g := by omega
  have hne1 : ¬ Y = g := by omega
  have hne2 : ¬ g = Y := by omega
  replace hW := Lib.hid hW
  replace hk2 := Lib.hid hk2
  clear hcut hcs hB1 hk1 hm1 hb2
  by_cases h3 : ws.length = 2
  rotate_left
  · have t1 : ((ws.length : Int) != 2) = true := by simp; omega
    have hno : Hid (∀ d0, LineTo d s.data.toList d0 → False) := fun d0 h0 => h3 (by have := anch_len (hinv.out d0 h0); rwa [← hws.out] at this)
    clear h3
    go_wp2_with fail
    go_ret
    exact ⟨d, h, false, rfl, hk2.out, hrb.out.up, fun d0 h0 => (hno.out d0 h0).elim, hB2.out⟩
  obtain ⟨a, b, rfl⟩ : ∃ a b, ws = [a, b] := by match ws, h3 with | [a, b], _ => exact ⟨a, b, rfl⟩
  have q0 := hW.out 0 a rfl
  have q1 := hW.out 1 b rfl
  have hal := hsm.out a (by simp)
  have halz : a.length ≤ 1048576 := by omega
  have hbl := hsm.out b (by simp)
  have hd2 := Lib.hid (fun W => implReadPt_any ⟨b.toArray⟩ W (by show b.length ≤ 1048576; omega))
  have hbb : Below w2.heap.size w2 (w2.alloc (.cells #[.string ⟨a.toArray⟩, .int .i64 0, .int .i64 0] 117 (0, 0))) := Go.Joins.below_alloc1 _ _
  have hB3 := Lib.hid (hB2.out.trans (hbb.mono (Nat.le_of_lt yl)))
  have hX3 := Lib.hid (heap_alloc_new w2 (.cells #[.string ⟨a.toArray⟩, .int .i64 0, .int .i64 0] 117 (0, 0)))
  have hz3 := Lib.hid (show w2.heap.size + 1 = (w2.alloc (.cells #[.string ⟨a.toArray⟩, .int .i64 0, .int .i64 0] 117 (0, 0))).heap.size by simp)
  have hK3 : Hid (∀ b, b < w2.heap.size → (w2.alloc (.cells #[.string ⟨a.toArray⟩, .int .i64 0, .int .i64 0] 117 (0, 0))).heap[b]? = w2.heap[b]?) := fun b hb => hbb.block b hb
  have q1' := (hbb.cell hg2).trans q1
  have hon : h.anchors.n ≤ 1048577 := by have := hk2.out.an; have := hrb.out.a; omega
  go_upto_region 29 with fail
  clear y0 y1 y2 y3 y4 y5 y6 yf hB2 hm2 hW hbb hsm q0 q1
  generalize w2.alloc (.cells #[.string ⟨a.toArray⟩, .int .i64 0, .int .i64 0] 117 (0, 0)) = w3 at *
  obtain ⟨X, hX⟩ : ∃ X, X = w2.heap.size := ⟨_, rfl⟩
  rw [← hX] at hX3 hz3 hz2 hg2 hK3 yl ⊢
  replace hX := Lib.hid hX
  have hXY : Y ≤ X := by omega
  have hXw : X < w3.heap.size := by have := hz3.out; omega
  go_wp2_with fail
  refine (hd2.out _).mono ?_
  intro e w9 hP
  obtain ⟨px, py, t, rfl, hxy, hb9⟩ := hP.get
  have hz9 := hb9.size
  have hX9 := Lib.hid ((hb9.block X hXw).trans hX3.out)
  have x1 : w9.cell? ⟨X, 1, none⟩ = some (.int .i64 0) := by rw [Go.Joins.cell_of_block hX9.out]; rfl
  have x2 : w9.cell? ⟨X, 2, none⟩ = some (.int .i64 0) := by rw [Go.Joins.cell_of_block hX9.out]; rfl
  have xf : ∀ o, w9.frozen? ⟨X, o, none⟩ = false := Go.Joins.unfrozen_of_block hX9.out
  have hX9l : X < w9.heap.size := by omega
  have hB5 : Hid (Below Y w ((w9.setCell ⟨X, 1, none⟩ (.int .i64 px)).setCell ⟨X, 2, none⟩ (.int .i64 py))) := ((hB3.out.trans (hb9.mono (by omega))).setCell (p := ⟨X, 1, none⟩) hXY _).setCell (p := ⟨X, 2, none⟩) hXY _
  have hK5 : Hid (∀ b, b < X → ((w9.setCell ⟨X, 1, none⟩ (.int .i64 px)).setCell ⟨X, 2, none⟩ (.int .i64 py)).heap[b]? = w2.heap[b]?) := fun b hb => (Below.heap_setCell _ _ _ _ (Nat.ne_of_lt hb)).trans ((Below.heap_setCell _ _ _ _ (Nat.ne_of_lt hb)).trans ((hb9.block b (by omega)).trans (hK3.out b hb)))
  have hX5 : Hid (((w9.setCell ⟨X, 1, none⟩ (.int .i64 px)).setCell ⟨X, 2, none⟩ (.int .i64 py)).heap[X]? = some (.cells #[.string ⟨a.toArray⟩, .int .i64 px, .int .i64 py] 117 (0, 0))) := Go.Joins.block_setCell (Go.Joins.block_setCell hX9.out (i := 1) (.int .i64 px)) (i := 2) (.int .i64 py)
  have hz5 : ((w9.setCell ⟨X, 1, none⟩ (.int .i64 px)).setCell ⟨X, 2, none⟩ (.int .i64 py)).heap.size = w9.heap.size := by simp
  replace hz5 := Lib.hid hz5
  have hfin : Hid (∀ d0, LineTo d s.data.toList d0 → t = true ∧ (⟨d.name, d.code, d.adv, d.out, d.parts, d.anchors ++ [(⟨a.toArray⟩, px, py)], d.hints⟩ : Gl) = d0) := fun d0 h0 => by
    obtain ⟨px', py', h2, h3, rfl⟩ := anch_is hws.out (hinv.out d0 h0)
    obtain ⟨rfl, rfl, rfl⟩ := hxy px' py' h2 h3
    exact ⟨rfl, rfl⟩
  clear hinv hws hd2 q1' hP hxy hb9 hX9 hB3 hK3 hX3
  go_upto_region 30 with fail
  clear x1 x2 xf
  generalize (w9.setCell ⟨X, 1, none⟩ (.int .i64 px)).setCell ⟨X, 2, none⟩ (.int .i64 py) = w5 at *
  have hX5l : X < w5.heap.size := by rw [hz5.out]; omega
  have hk5 : MkG w5 Y lo d h := hk2.out.same (fun g hg hgl => hK5.out g (by have := hX.out; omega)) (by have := hX.out; omega)
  have y3d : w5.drew.cell? ⟨Y, 5, none⟩ = some (.slice h.anchors.A h.anchors.n h.anchors.c) := hk5.cells rfl
  have x0d : w5.drew.cell? ⟨X, 0, none⟩ = some (.string ⟨a.toArray⟩) := (by rw [show w5.drew.cell? ⟨X, 0, none⟩ = w5.cell? ⟨X, 0, none⟩ from rfl, Go.Joins.cell_of_block hX5.out]; rfl)
  have x1d : w5.drew.cell? ⟨X, 1, none⟩ = some (.int .i64 px) := (by rw [show w5.drew.cell? ⟨X, 1, none⟩ = w5.cell? ⟨X, 1, none⟩ from rfl, Go.Joins.cell_of_block hX5.out]; rfl)
  have x2d : w5.drew.cell? ⟨X, 2, none⟩ = some (.int .i64 py) := (by rw [show w5.drew.cell? ⟨X, 2, none⟩ = w5.cell? ⟨X, 2, none⟩ from rfl, Go.Joins.cell_of_block hX5.out]; rfl)
  have hod : Hid (w5.drew.ownsRow lo 117 3 (.slice h.anchors.A h.anchors.n h.anchors.c) h.anchors.n (d.anchors.flatMap anchC)) := hk5.a.drew
  have hzd : w5.drew.heap.size = w5.heap.size := rfl
  have hlo5 : lo ≤ w5.drew.heap.size := by omega
  have hYd : Y < w5.drew.heap.size := by omega
  have hfx : ∀ g, (Value.slice h.anchors.A h.anchors.n h.anchors.c).ownBlock = some g → lo ≤ g ∧ g < X := fun b hb => by
    have := hk2.out.a.lt _ hb
    rw [← hX.out] at this
    exact this
  replace hfx := Lib.hid hfx
  replace hk5 := Lib.hid hk5
  have hafter : Hid (∀ (ob : Obj) (A7 : Option Addr) (c7 : Nat) (w7 : World), (w5.drew.alloc ob).grownBy w7 (Value.slice h.anchors.A h.anchors.n h.anchors.c).ownBlock → w7.ownsRow lo 117 3 (.slice A7 (h.anchors.n + 1) c7) (h.anchors.n + 1) (d.anchors.flatMap anchC ++ [.string ⟨a.toArray⟩, .int .i64 px, .int .i64 py]) → Hid (w7.cell? ⟨Y, 5, none⟩ = some (.slice h.anchors.A h.anchors.n h.anchors.c) ∧ w7.cell? ⟨X, 0, none⟩ = some (.string ⟨a.toArray⟩) ∧ w7.cell? ⟨X, 1, none⟩ = some (.int .i64 px) ∧ w7.cell? ⟨X, 2, none⟩ = some (.int .i64 py) ∧ (∀ o, w7.frozen? ⟨Y, o, none⟩ = false) ∧ Y < w7.heap.size ∧ MkG (w7.setCell ⟨Y, 5, none⟩ (.slice A7 (h.anchors.n + 1) c7)) Y lo ⟨d.name, d.code, d.adv, d.out, d.parts, d.anchors ++ [(⟨a.toArray⟩, px, py)], d.hints⟩ ⟨h.out, h.parts, ⟨A7, h.anchors.n + 1, c7⟩⟩ ∧ Below Y w w7)) := by
    intro ob A7 c7 w7 hg7 ho7
    have hz7 := hg7.size
    simp at hz7
    have hal : ∀ b, b < w5.heap.size → (w5.drew.alloc ob).heap[b]? = w5.heap[b]? := fun b hb => Below.heap_alloc _ _ _ hb
    have hYb : w7.heap[Y]? = w5.heap[Y]? := (hg7.block Y (by simp; omega) (fun e => by have := (hfx.out _ e.symm).1; omega)).trans (hal Y (by omega))
    have hXb : w7.heap[X]? = w5.heap[X]? := (hg7.block X (by simp; omega) (fun e => by have := (hfx.out _ e.symm).2; omega)).trans (hal X hX5l)
    refine ⟨(World.cell?_of_block hYb).trans y3d, (World.cell?_of_block hXb).trans x0d, (World.cell?_of_block hXb).trans x1d, (World.cell?_of_block hXb).trans x2d, fun o => (World.frozen?_of_block hYb).trans (Go.Joins.unfrozen_of_block hk5.out.box o), by omega, ?_, ?_⟩
    · exact MkG.anch (p := (⟨a.toArray⟩, px, py)) (hk5.out.same (fun g hg hgl => hal g hgl) (by simp)) hg7 ho7
    · exact (hB5.out.drew.alloc (by omega) _).grown hg7 (by simp; omega) (fun b hb => by have := (hfx.out _ hb).1; omega)
  have hrb7 : Hid (RB ⟨d.name, d.code, d.adv, d.out, d.parts, d.anchors ++ [(⟨a.toArray⟩, px, py)], d.hints⟩ (i + 1)) := ⟨Nat.le_succ_of_le hrb.out.o, hrb.out.k, Nat.le_succ_of_le hrb.out.p, by simp; exact hrb.out.a, hrb.out.nm, hrb.out.hn, fun a' ha' => by rcases List.mem_append.1 ha' with h1 | h1; exact hrb.out.an a' h1; rw [List.mem_singleton.1 h1]; exact halz⟩
  clear hK5 hB5 hX5 hk2 hk5 hX hfx
  refine wp_region_head 8 (fun w' => w'.cell? ⟨Y, 5, none⟩ = some (.slice h.anchors.A h.anchors.n h.anchors.c) ∧ w'.cell? ⟨X, 0, none⟩ = some (.string ⟨a.toArray⟩) ∧ w'.cell? ⟨X, 1, none⟩ = some (.int .i64 px) ∧ w'.cell? ⟨X, 2, none⟩ = some (.int .i64 py)) (by kernel_rfl) (by kernel_rfl) (by exact ⟨y3d, x0d, x1d, x2d⟩) (fun hHeld => ?_)
  simp only [List.take_succ_cons, List.take_zero, List.drop_succ_cons, List.drop_zero]
  refine wpAnyH_take (i := 0) (v := ?_) ((List.getElem?_toArray).trans rfl) (by kernel_rfl) (by kernel_rfl) (by kernel_rfl) (fun _ _ _ h => h) (Or.inl ⟨by rfl, ?_⟩) (by assumption) ?_
  rotate_left
  · (intro w hSw; (try dsimp only at hSw); go_simp; (try (with_reducible rfl)))
  (try simp only [Act.put, List.setIfInBounds_toArray, List.set_cons_zero, List.set_cons_succ])
  refine wpAnyH_take (i := 1) (v := ?_) ((List.getElem?_toArray).trans rfl) (by kernel_rfl) (by kernel_rfl) (by kernel_rfl) (fun _ _ _ h => h) (Or.inl ⟨by rfl, ?_⟩) (by assumption) ?_
  rotate_left
  · (intro w hSw; (try dsimp only at hSw); go_simp; (try (with_reducible rfl)))
  (try simp only [Act.put, List.setIfInBounds_toArray, List.set_cons_zero, List.set_cons_succ])
  refine wpAnyH_take (i := 2) (v := ?_) ((List.getElem?_toArray).trans rfl) (by kernel_rfl) (by kernel_rfl) (by kernel_rfl) (fun _ _ _ h => h) (Or.inl ⟨by rfl, ?_⟩) (by assumption) ?_
  rotate_left
  · (intro w hSw; (try dsimp only at hSw); go_simp; (try (with_reducible rfl)))
  (try simp only [Act.put, List.setIfInBounds_toArray, List.set_cons_zero, List.set_cons_succ])
  refine wpAnyH_take (i := 3) (v := ?_) ((List.getElem?_toArray).trans rfl) (by kernel_rfl) (by kernel_rfl) (by kernel_rfl) (fun _ _ _ h => h) (Or.inl ⟨by rfl, ?_⟩) (by assumption) ?_
  rotate_left
  · (intro w hSw; (try dsimp only at hSw); go_simp; (try (with_reducible rfl)))
  (try simp only [Act.put, List.setIfInBounds_toArray, List.set_cons_zero, List.set_cons_succ])
  refine wpAnyH_take (i := 4) (v := ?_) ((List.getElem?_toArray).trans rfl) (by kernel_rfl) (by kernel_rfl) (by kernel_rfl) (fun _ _ _ h => h) (Or.inl ⟨by rfl, ?_⟩) (by assumption) ?_
  rotate_left
  · (intro w hSw; (try dsimp only at hSw); go_simp; (try (with_reducible rfl)))
  (try simp only [Act.put, List.setIfInBounds_toArray, List.set_cons_zero, List.set_cons_succ])
  refine wpAnyH_take (i := 5) (v := ?_) ((List.getElem?_toArray).trans rfl) (by kernel_rfl) (by kernel_rfl) (by kernel_rfl) (fun _ _ _ h => h) (Or.inl ⟨by rfl, ?_⟩) (by assumption) ?_
  rotate_left
  · (intro w hSw; (try dsimp only at hSw); go_simp; (try (with_reducible rfl)))
  (try simp only [Act.put, List.setIfInBounds_toArray, List.set_cons_zero, List.set_cons_succ])
  refine wpAnyH_ready (rs := [6]) (by kernel_rfl) (by simp) ?_
  refine AllReadyH.cons ((List.getElem?_toArray).trans rfl) (fun K0 hK0 => ?_) AllReadyH.nil
  go_simp
  refine hK0.out _ _ ?_ (fun hHeld => ?_)
  · (exact ⟨Lib.cell?_alloc_some _ y3d, Lib.cell?_alloc_some _ x0d, Lib.cell?_alloc_some _ x1d, Lib.cell?_alloc_some _ x2d⟩)
  clear hK0 K0
  (try simp only [Act.put, List.setIfInBounds_toArray, List.set_cons_zero, List.set_cons_succ])
  refine wpAnyH_ready (rs := [7]) (by kernel_rfl) (by simp) ?_
  refine AllReadyH.cons ((List.getElem?_toArray).trans rfl) (fun K0 hK0 => ?_) AllReadyH.nil
  (refine stepAppAt rfl (.tmp 126) (.tmp 128) elemAnchor rfl (v := .slice h.anchors.A h.anchors.n h.anchors.c) (n := h.anchors.n) (xs := d.anchors.flatMap anchC) rfl (hod.out.alloc _) rfl (src_at (cs := [.string ⟨a.toArray⟩, .int .i64 px, .int .i64 py]) rfl (by simp [Value.oneCell']) (by simp)) (by omega) (by omega) (by first | omega | (simp <;> omega)) (h.anchors.n + 1) rfl ?_; intro A7 c7 w7 ho7 hg7; have hk7 := hafter.out _ A7 c7 w7 hg7 ho7; have y37 := hk7.out.1; have x07 := hk7.out.2.1; have x17 := hk7.out.2.2.1; have x27 := hk7.out.2.2.2.1; have yf7 := hk7.out.2.2.2.2.1; have yl7 := hk7.out.2.2.2.2.2.1; clear hafter)
  refine hK0.out _ _ ?_ (fun hHeld => ?_)
  · (exact ⟨y37, x07, x17, x27⟩)
  clear hK0 K0
  (try simp only [Act.put, List.setIfInBounds_toArray, List.set_cons_zero, List.set_cons_succ])
  refine wpAnyH_done (by kernel_rfl) ?_ _
  show wpList _ _ _ _ _ _
  all_goals
    go_wp2_with fail
    go_ret
    exact ⟨_, _, t, rfl, hk7.out.2.2.2.2.2.2.1, hrb7.out, hfin.out, hk7.out.2.2.2.2.2.2.2.setCell (p := ⟨Y, 5, none⟩) (Nat.le_refl _) _⟩
set_option maxHeartbeats 4000000 in
theorem rgl_hint (s : ByteArray) (k r : List UInt8) (f : Bool) (w : World) (Y lo i : Nat) (d : Gl) (h : GlH) (hmk : MkG w Y lo d h) (hlo : lo ≤ w.heap.size) (hm : MaxI w) (hmY : 0 < Y) (hs : s.size ≤ 1048576) (hi : i ≤ 1048577) (hrb : RB d i)
    (hcut : ∀ W : World, Calls Tryz.prog 44 #[.string s, .string ⟨#[32]⟩] W fun e w' => e = .returned (.tuple #[.string ⟨k.toArray⟩, .string ⟨r.toArray⟩, .bool f]) ∧ Below W.heap.size W w') (hrl : r.length ≤ 1048576) (hk : k = kHint) (hinv : ∀ d0, LineTo d s.data.toList d0 → KindTo d kHint r d0) :
    Calls Tryz.prog 31 #[.pointer (some ⟨Y, 0, none⟩), .string s] w fun e w' => GLPost Y lo d i s.data.toList w e w' := by
  subst hk
  have hy := hmk.yb
  have hyl := hmk.yl
  have hml := hm.lt
  replace hcut := Lib.hid hcut
  replace hinv := Lib.hid hinv
  replace hmk := Lib.hid hmk
  replace hm := Lib.hid hm
  replace hrb := Lib.hid hrb
  have hcs := Lib.hid (fun W h => splitI_any ⟨r.toArray⟩ 32 W h (by show r.length ≤ 1048576; omega))
  obtain ⟨ws, hws⟩ : ∃ ws, ws = splitF 32 r := ⟨_, rfl⟩
  have hsl := splitF_len 32 r
  have hsm := Lib.hid (splitF_mem 32 r)
  rw [← hws] at hsl hsm
  replace hcs : Hid (∀ (W : World), MaxI W → Calls Tryz.prog 78 #[.string ⟨r.toArray⟩, .string ⟨#[32]⟩] W fun e w' => ∃ n, n = ws.length ∧ e = .returned (.slice (some ⟨W.heap.size, 0, none⟩) n n) ∧ (∀ (j : Nat) (l : List UInt8), ws[j]? = some l → w'.cell? ⟨W.heap.size, j, none⟩ = some (.string ⟨l.toArray⟩)) ∧ W.heap.size < w'.heap.size ∧ Below W.heap.size W w') := by
    rw [hws]; exact hcs
  replace hws := Lib.hid hws
  go_enter Tryz.func31, Tryz.ntmps31
  go_wp2_with fail
  refine (hcut.out _).mono ?_
  rintro e w1 ⟨rfl, hb1⟩
  have hm1 := hm.out.kept hb1 hml
  have hml1 := hm1.lt
  have hk1 := hmk.out.below hb1
  have hz1 := hb1.size
  have hB1 := Lib.hid (hb1.mono (Nat.le_of_lt hy))
  clear hb1 hm hmk
  go_wp2_with fail
  refine (hcs.out _ hm1).mono ?_
  rintro e w2 ⟨n, hn, rfl, hW, hg2, hb2⟩
  have hm2 := Lib.hid (hm1.kept hb2 hml1)
  have hk2 := hk1.below hb2
  have hz2 := hb2.size
  have hB2 := Lib.hid (hB1.out.trans (hb2.mono (by omega)))
  generalize w1.heap.size = g at *
  obtain ⟨y0, y1, y2, y3, y4, y5, y6, yf, yl⟩ := hk2.cellsY
  have hyg : Y < g := by omega
  have hne1 : ¬ Y = g := by omega
  have hne2 : ¬ g = Y := by omega
  replace hW := Lib.hid hW
  replace hk2 := Lib.hid hk2
  clear hcut hcs hB1 hk1 hm1 hb2
  have hd2 := Lib.hid (fun W => readHex_any ⟨r.toArray⟩ W (by show r.length ≤ 1048576; omega))
  go_upto_region 32 with fail
  go_wp2_with fail
  refine (hd2.out _).mono ?_
  rintro e w3 ⟨b, t, rfl, hbl, hbi, hb3⟩
  have hk3 := hk2.out.below hb3
  have hB3 := Lib.hid (hB2.out.trans (hb3.mono (Nat.le_of_lt yl)))
  clear y0 y1 y2 y3 y4 y5 y6 yf
  obtain ⟨y0, y1, y2, y3, y4, y5, y6, yf, yl3⟩ := hk3.cellsY
  have hk4 : Hid (MkG (w3.setCell ⟨Y, 6, none⟩ (.string b)) Y lo ⟨d.name, d.code, d.adv, d.out, d.parts, d.anchors, b⟩ h) := hk3.cell rfl rfl rfl rfl
  have hbl2 : b.size ≤ 1048576 := Nat.le_trans hbl hrl
  have hrb7 : Hid (RB ⟨d.name, d.code, d.adv, d.out, d.parts, d.anchors, b⟩ (i + 1)) := ⟨Nat.le_succ_of_le hrb.out.o, hrb.out.k, Nat.le_succ_of_le hrb.out.p, Nat.le_succ_of_le hrb.out.a, hrb.out.nm, hbl2, hrb.out.an⟩
  have hfin : Hid (∀ d0, LineTo d s.data.toList d0 → t = true ∧ (⟨d.name, d.code, d.adv, d.out, d.parts, d.anchors, b⟩ : Gl) = d0) := fun d0 h0 => by
    obtain ⟨l, h1, rfl⟩ := (hinv.out d0 h0).hintI
    obtain ⟨h2, h3⟩ := hbi l.data.toList h1
    have e : b = l := by rw [mk_bytes (nm := b), mk_bytes (nm := l), h3]
    subst e
    exact ⟨h2, rfl⟩
  clear hb3 hk3 hk2 hB2 hd2 hbi hbl hW
  go_wp2_with fail
  go_ret
  exact ⟨_, h, t, rfl, hk4.out, hrb7.out, hfin.out, hB3.out.setCell (p := ⟨Y, 6, none⟩) (Nat.le_refl _) _⟩
set_option maxHeartbeats 4000000 in
theorem rgl_fin (s : ByteArray) (k r : List UInt8) (f : Bool) (w : World) (Y lo i : Nat) (d : Gl) (h : GlH) (hmk : MkG w Y lo d h) (hlo : lo ≤ w.heap.size) (hm : MaxI w) (hmY : 0 < Y) (hs : s.size ≤ 1048576) (hi : i ≤ 1048577) (hrb : RB d i)
    (hcut : ∀ W : World, Calls Tryz.prog 44 #[.string s, .string ⟨#[32]⟩] W fun e w' => e = .returned (.tuple #[.string ⟨k.toArray⟩, .string ⟨r.toArray⟩, .bool f]) ∧ Below W.heap.size W w') (hrl : r.length ≤ 1048576) (hk : k = endW) (hinv : ∀ d0, LineTo d s.data.toList d0 → KindTo d endW r d0) :
    Calls Tryz.prog 31 #[.pointer (some ⟨Y, 0, none⟩), .string s] w fun e w' => GLPost Y lo d i s.data.toList w e w' := by
  subst hk
  have hy := hmk.yb
  have hyl := hmk.yl
  have hml := hm.lt
  replace hcut := Lib.hid hcut
  replace hinv := Lib.hid hinv
  replace hmk := Lib.hid hmk
  replace hm := Lib.hid hm
  replace hrb := Lib.hid hrb
  have hcs := Lib.hid (fun W h => splitI_any ⟨r.toArray⟩ 32 W h (by show r.length ≤ 1048576; omega))
  obtain ⟨ws, hws⟩ : ∃ ws, ws = splitF 32 r := ⟨_, rfl⟩
  have hsl := splitF_len 32 r
  have hsm := Lib.hid (splitF_mem 32 r)
  rw [← hws] at hsl hsm
  replace hcs : Hid (∀ (W : World), MaxI W → Calls Tryz.prog 78 #[.string ⟨r.toArray⟩, .string ⟨#[32]⟩] W fun e w' => ∃ n, n = ws.length ∧ e = .returned (.slice (some ⟨W.heap.size, 0, none⟩) n n) ∧ (∀ (j : Nat) (l : List UInt8), ws[j]? = some l → w'.cell? ⟨W.heap.size, j, none⟩ = some (.string ⟨l.toArray⟩)) ∧ W.heap.size < w'.heap.size ∧ Below W.heap.size W w') := by
    rw [hws]; exact hcs
  replace hws := Lib.hid hws
  go_enter Tryz.func31, Tryz.ntmps31
  go_wp2_with fail
  refine (hcut.out _).mono ?_
  rintro e w1 ⟨rfl, hb1⟩
  have hm1 := hm.out.kept hb1 hml
  have hml1 := hm1.lt
  have hk1 := hmk.out.below hb1
  have hz1 := hb1.size
  have hB1 := Lib.hid (hb1.mono (Nat.le_of_lt hy))
  clear hb1 hm hmk
  go_wp2_with fail
  refine (hcs.out _ hm1).mono ?_
  rintro e w2 ⟨n, hn, rfl, hW, hg2, hb2⟩
  have hm2 := Lib.hid (hm1.kept hb2 hml1)
  have hk2 := hk1.below hb2
  have hz2 := hb2.size
  have hB2 := Lib.hid (hB1.out.trans (hb2.mono (by omega)))
  generalize w1.heap.size = g at *
  obtain ⟨y0, y1, y2, y3, y4, y5, y6, yf, yl⟩ := hk2.cellsY
  have hyg : Y < g := by omega
  have hne1 : ¬ Y = g := by omega
  have hne2 : ¬ g = Y := by omega
  replace hW := Lib.hid hW
  replace hk2 := Lib.hid hk2
  clear hcut hcs hB1 hk1 hm1 hb2
  have hfin : Hid (∀ d0, LineTo d s.data.toList d0 → d = d0) := fun d0 h0 => ((hinv.out d0 h0).endr rfl).2.symm
  go_wp2_with fail
  go_ret
  exact ⟨d, h, true, rfl, hk2.out, hrb.out.up, fun d0 h0 => ⟨rfl, hfin.out d0 h0⟩, hB2.out⟩
set_option maxHeartbeats 4000000 in
theorem rgl_other (s : ByteArray) (k r : List UInt8) (f : Bool) (w : World) (Y lo i : Nat) (d : Gl) (h : GlH) (hmk : MkG w Y lo d h) (hlo : lo ≤ w.heap.size) (hm : MaxI w) (hmY : 0 < Y) (hs : s.size ≤ 1048576) (hi : i ≤ 1048577) (hrb : RB d i)
    (hcut : ∀ W : World, Calls Tryz.prog 44 #[.string s, .string ⟨#[32]⟩] W fun e w' => e = .returned (.tuple #[.string ⟨k.toArray⟩, .string ⟨r.toArray⟩, .bool f]) ∧ Below W.heap.size W w') (hrl : r.length ≤ 1048576) (h1 : k ≠ kGlyph) (h2 : k ≠ kLoop) (h3 : k ≠ kPart) (h4 : k ≠ kAnch) (h5 : k ≠ kHint) (h6 : k ≠ endW) (hno : ∀ d0, LineTo d s.data.toList d0 → False) :
    Calls Tryz.prog 31 #[.pointer (some ⟨Y, 0, none⟩), .string s] w fun e w' => GLPost Y lo d i s.data.toList w e w' := by
  have t1 : (k == [103, 108, 121, 112, 104]) = false := by rw [beq_eq_false_iff_ne]; exact h1
  have t2 : (k == [108, 111, 111, 112]) = false := by rw [beq_eq_false_iff_ne]; exact h2
  have t3 : (k == [112, 97, 114, 116]) = false := by rw [beq_eq_false_iff_ne]; exact h3
  have t4 : (k == [97, 110, 99, 104, 111, 114]) = false := by rw [beq_eq_false_iff_ne]; exact h4
  have t5 : (k == [104, 105, 110, 116, 115]) = false := by rw [beq_eq_false_iff_ne]; exact h5
  have t6 : (k == [101, 110, 100]) = false := by rw [beq_eq_false_iff_ne]; exact h6
  have hinv := hno
  clear h1 h2 h3 h4 h5 h6 hno
  have hy := hmk.yb
  have hyl := hmk.yl
  have hml := hm.lt
  replace hcut := Lib.hid hcut
  replace hinv := Lib.hid hinv
  replace hmk := Lib.hid hmk
  replace hm := Lib.hid hm
  replace hrb := Lib.hid hrb
  have hcs := Lib.hid (fun W h => splitI_any ⟨r.toArray⟩ 32 W h (by show r.length ≤ 1048576; omega))
  obtain ⟨ws, hws⟩ : ∃ ws, ws = splitF 32 r := ⟨_, rfl⟩
  have hsl := splitF_len 32 r
  have hsm := Lib.hid (splitF_mem 32 r)
  rw [← hws] at hsl hsm
  replace hcs : Hid (∀ (W : World), MaxI W → Calls Tryz.prog 78 #[.string ⟨r.toArray⟩, .string ⟨#[32]⟩] W fun e w' => ∃ n, n = ws.length ∧ e = .returned (.slice (some ⟨W.heap.size, 0, none⟩) n n) ∧ (∀ (j : Nat) (l : List UInt8), ws[j]? = some l → w'.cell? ⟨W.heap.size, j, none⟩ = some (.string ⟨l.toArray⟩)) ∧ W.heap.size < w'.heap.size ∧ Below W.heap.size W w') := by
    rw [hws]; exact hcs
  replace hws := Lib.hid hws
  go_enter Tryz.func31, Tryz.ntmps31
  go_wp2_with fail
  refine (hcut.out _).mono ?_
  rintro e w1 ⟨rfl, hb1⟩
  have hm1 := hm.out.kept hb1 hml
  have hml1 := hm1.lt
  have hk1 := hmk.out.below hb1
  have hz1 := hb1.size
  have hB1 := Lib.hid (hb1.mono (Nat.le_of_lt hy))
  clear hb1 hm hmk
  go_wp2_with fail
  refine (hcs.out _ hm1).mono ?_
  rintro e w2 ⟨n, hn, rfl, hW, hg2, hb2⟩
  have hm2 := Lib.hid (hm1.kept hb2 hml1)
  have hk2 := hk1.below hb2
  have hz2 := hb2.size
  have hB2 := Lib.hid (hB1.out.trans (hb2.mono (by omega)))
  generalize w1.heap.size = g at *
  obtain ⟨y0, y1, y2, y3, y4, y5, y6, yf, yl⟩ := hk2.cellsY
  have hyg : Y < g := by omega
  have hne1 : ¬ Y = g := by omega
  have hne2 : ¬ g = Y := by omega
  replace hW := Lib.hid hW
  replace hk2 := Lib.hid hk2
  clear hcut hcs hB1 hk1 hm1 hb2
  have hk2' := hk2
  clear hk2
  go_wp2_with fail
  go_ret
  exact ⟨d, h, false, rfl, hk2'.out, hrb.out.up, fun d0 h0 => (hinv.out d0 h0).elim, hB2.out⟩
theorem readGlyphLine_any (s : ByteArray) (w : World) (Y lo i : Nat) (d : Gl) (h : GlH) (hmk : MkG w Y lo d h) (hlo : lo ≤ w.heap.size) (hm : MaxI w) (hmY : 0 < Y) (hs : s.size ≤ 1048576) (hi : i ≤ 1048577) (hrb : RB d i) :
    Calls Tryz.prog 31 #[.pointer (some ⟨Y, 0, none⟩), .string s] w fun e w' => GLPost Y lo d i s.data.toList w e w' := by
  obtain ⟨k, r, f, hc, hkl, hrl, hcut⟩ := cut_ex s hs
  replace hrl : r.length ≤ 1048576 := by omega
  have hk : ∀ d0, LineTo d s.data.toList d0 → KindTo d k r d0 := fun d0 h0 => h0.kind hc
  by_cases h1 : k = kGlyph
  · subst h1; exact rgl_glyph s _ r f w Y lo i d h hmk hlo hm hmY hs hi hrb hcut hrl rfl hk
  by_cases h2 : k = kLoop
  · subst h2; exact rgl_loop s _ r f w Y lo i d h hmk hlo hm hmY hs hi hrb hcut hrl rfl hk
  by_cases h3 : k = kPart
  · subst h3; exact rgl_part s _ r f w Y lo i d h hmk hlo hm hmY hs hi hrb hcut hrl rfl hk
  by_cases h4 : k = kAnch
  · subst h4; exact rgl_anch s _ r f w Y lo i d h hmk hlo hm hmY hs hi hrb hcut hrl rfl hk
  by_cases h5 : k = kHint
  · subst h5; exact rgl_hint s _ r f w Y lo i d h hmk hlo hm hmY hs hi hrb hcut hrl rfl hk
  by_cases h6 : k = endW
  · subst h6; exact rgl_fin s _ r f w Y lo i d h hmk hlo hm hmY hs hi hrb hcut hrl rfl hk
  exact rgl_other s k r f w Y lo i d h hmk hlo hm hmY hs hi hrb hcut hrl h1 h2 h3 h4 h5 h6 fun d0 h0 => h6 ((hk d0 h0).other h1 h2 h3 h4 h5).1
end Go.Proofs.YtgdkabljgabjoaaGreatDoor

