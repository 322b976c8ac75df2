/- A line of a glyph's text read, the reference's side. Printed by mk_rgs.py. Conditions: as each states. -/
import Derived.Test.YtgdkabljgabjoaaGreatDoorRb34
import Derived.Test.YtgdkabljgabjoaaGreatDoorRb32
namespace Go.Proofs.YtgdkabljgabjoaaGreatDoor
open Go.RowKit
set_option linter.unusedVariables false
set_option maxRecDepth 100000
set_option maxRecDepth 100000

/-- what reading a line comes to -/
def GSPost (Y X lo : Nat) (d : Gl) (t : ByteArray) (i : Nat) (l : List UInt8) (w : World) (e : Ending) (w' : World) : Prop :=
  ∃ (d' : Gl) (h' : GlH) (t' : ByteArray) (ok : Bool), e = .returned (.bool ok) ∧ MkG w' Y lo d' h' ∧ w'.heap[X]? = some (.cells #[.string t'] 9 (0, 0)) ∧ RB d' (i + 1) ∧ d'.out = [] ∧ t'.size ≤ t.size + l.length ∧
    (∀ (Ls : List (List Knot)) (d0 : Gl), l.head? ≠ some 103 → t.data.toList = outT Ls → LineTo ⟨d.name, d.code, d.adv, Ls, d.parts, d.anchors, d.hints⟩ l d0 → ok = true ∧ d' = ⟨d0.name, d0.code, d0.adv, [], d0.parts, d0.anchors, d0.hints⟩ ∧ t'.data.toList = outT d0.out) ∧ Below Y w w'
theorem cut_words {l k r : List UInt8} (h : CutTo l k r) : (l = k ++ 32 :: r ∧ splitF 32 l = k :: splitF 32 r) ∨ (l = k ∧ r = [] ∧ splitF 32 l = [k]) := by
  rcases h with ⟨rfl, h⟩ | ⟨rfl, rfl, h⟩
  · exact .inl ⟨rfl, splitF_hit 32 _ _ h⟩
  · exact .inr ⟨rfl, rfl, splitF_last 32 _ h⟩
theorem cut_tot (l : List UInt8) : ∃ k r, CutTo l k r := by
  rcases first_at 32 l with h | ⟨a, b, h, h2⟩
  · exact ⟨l, [], .inr ⟨rfl, rfl, h⟩⟩
  · exact ⟨a, b, .inl ⟨h, h2⟩⟩
theorem knotT_ne (k : Knot) : knotT k ≠ [] := by
  unfold knotT
  intro e
  rw [List.append_eq_nil_iff] at e
  exact ptT_ne e.2
theorem loopT_ne {K : List Knot} (h : loopOk K = true) : loopT K ≠ [] := by
  intro e
  have h1 := words_loop K (loopOk_parts h).1
  rw [e] at h1
  cases K with
  | nil => exact absurd rfl (loopOk_parts h).1
  | cons k K =>
    simp [splitF] at h1
    have := knotT_ne k
    first | exact this h1.1.symm | exact this h1.1
set_option maxHeartbeats 4000000 in
theorem gsl_other (s tx : ByteArray) (k r : List UInt8) (w : World) (Y X lo i : Nat) (d : Gl) (h : GlH) (hc : CutTo s.data.toList k r) (hmk : MkG w Y lo d h) (hXb : w.heap[X]? = some (.cells #[.string tx] 9 (0, 0))) (hYX : Y < X) (hXl : X < lo) (hlo : lo ≤ w.heap.size) (hs : s.size ≤ 1048576) (hi : i ≤ 1048577) (hrb : RB d i) (hout : d.out = []) (ht : tx.size ≤ 1000000000000) (u1 : k ≠ kLoop) (u2 : k ≠ kPart) (u3 : k ≠ kAnch) (u4 : k ≠ kHint) (hbad : ∀ (Ls : List (List Knot)) (d0 : Gl), s.data.toList.head? ≠ some 103 → LineTo ⟨d.name, d.code, d.adv, Ls, d.parts, d.anchors, d.hints⟩ s.data.toList d0 → (s.toList == [101, 110, 100]) = true ∧ d0 = ⟨d.name, d.code, d.adv, Ls, d.parts, d.anchors, d.hints⟩) :
    Calls Tryz.prog 71 #[.pointer (some ⟨Y, 0, none⟩), .pointer (some ⟨X, 0, none⟩), .string s] w fun e w' => GSPost Y X lo d tx i s.data.toList w e w' := by
  have t1 : (k == [108, 111, 111, 112]) = false := by rw [beq_eq_false_iff_ne]; exact u1
  have t2 : (k == [112, 97, 114, 116]) = false := by rw [beq_eq_false_iff_ne]; exact u2
  have t3 : (k == [97, 110, 99, 104, 111, 114]) = false := by rw [beq_eq_false_iff_ne]; exact u3
  have t4 : (k == [104, 105, 110, 116, 115]) = false := by rw [beq_eq_false_iff_ne]; exact u4
  clear u1 u2 u3 u4
  have hy := hmk.yb
  have hxl := (Array.getElem?_eq_some_iff.1 hXb).1
  have hsz : s.data.toList.length = s.size := by simp
  replace hmk := Lib.hid hmk
  replace hrb := Lib.hid hrb
  replace hXb := Lib.hid hXb
  replace hout := Lib.hid hout
  have hcs := Lib.hid (fun W => l01Split_any s 32 W hs)
  obtain ⟨ws, hws⟩ : ∃ ws, ws = splitF 32 s.data.toList := ⟨_, rfl⟩
  have hsl := splitF_len 32 s.data.toList
  have hsm := Lib.hid (splitF_mem 32 s.data.toList)
  have hpos : 0 < ws.length := by rw [hws]; exact List.length_pos_iff.2 (splitF_ne 32 _)
  rw [← hws] at hsl hsm hcs
  rw [hsz] at hsl
  replace hsz := Lib.hid hsz
  have hw0 : ws[0]? = some k := by rw [hws]; rcases cut_words hc with ⟨_, h⟩ | ⟨_, _, h⟩ <;> rw [h] <;> rfl
  replace hws := Lib.hid hws
  go_enter Tryz.func71, Tryz.ntmps71
  go_wp2_with fail
  refine (hcs.out _).mono ?_
  rintro e w2 ⟨A1, c1, n, hn, rfl, hown, hb2⟩
  obtain ⟨g, rfl, hg1, hg2, _, hcell, _⟩ := own_at hown (by omega)
  have hW : Hid (∀ (j : Nat) (l : List UInt8), ws[j]? = some l → w2.cell? ⟨g, j, none⟩ = some (.string ⟨l.toArray⟩)) := fun j l hj => by
    have hjl := (List.getElem?_eq_some_iff.1 hj).1
    have := hcell j (by omega)
    rw [this]
    simpa [strV] using hj
  have hk2 := hmk.out.below hb2
  have hX2 := (hb2.block X hxl).trans hXb.out
  have hz2 := hb2.size
  have hB2 := Lib.hid (hb2.mono (Nat.le_of_lt hy))
  obtain ⟨y0, y1, y2, y3, y4, y5, y6, yf, yl⟩ := hk2.cellsY
  have x0 : w2.cell? ⟨X, 0, none⟩ = some (.string tx) := by rw [Go.Joins.cell_of_block hX2]; rfl
  have xf : ∀ o, w2.frozen? ⟨X, o, none⟩ = false := Go.Joins.unfrozen_of_block hX2
  have xl : X < w2.heap.size := by omega
  have hXg : ¬ X = g := by omega
  have hgX : ¬ g = X := by omega
  have hYg : ¬ Y = g := by omega
  have hgY : ¬ g = Y := by omega
  have hXY : ¬ X = Y := by omega
  have hYX' : ¬ Y = X := by omega
  have q0 := hW.out 0 _ hw0
  replace hk2 := Lib.hid hk2
  replace hX2 := Lib.hid hX2
  clear hcs hown hcell hb2 hmk hXb
  replace hbad := Lib.hid hbad
  go_wp2_with fail
  go_ret
  exact ⟨d, h, tx, _, rfl, hk2.out, hX2.out, hrb.out.up, hout.out, by omega, fun Ls d0 h1 h2 h3 => by
    obtain ⟨e1, rfl⟩ := hbad.out Ls d0 h1 h3
    exact ⟨e1, by rw [← hout.out], h2⟩, hB2.out⟩
set_option maxHeartbeats 4000000 in
theorem gsl_loopno (s tx : ByteArray) (k r : List UInt8) (w : World) (Y X lo i : Nat) (d : Gl) (h : GlH) (hc : CutTo s.data.toList k r) (hmk : MkG w Y lo d h) (hXb : w.heap[X]? = some (.cells #[.string tx] 9 (0, 0))) (hYX : Y < X) (hXl : X < lo) (hlo : lo ≤ w.heap.size) (hs : s.size ≤ 1048576) (hi : i ≤ 1048577) (hrb : RB d i) (hout : d.out = []) (ht : tx.size ≤ 1000000000000) (hk : k = kLoop) (hsh : s.size ≤ 5) (hbad : ∀ (Ls : List (List Knot)) (d0 : Gl), s.data.toList.head? ≠ some 103 → LineTo ⟨d.name, d.code, d.adv, Ls, d.parts, d.anchors, d.hints⟩ s.data.toList d0 → (s.toList == [101, 110, 100]) = true ∧ d0 = ⟨d.name, d.code, d.adv, Ls, d.parts, d.anchors, d.hints⟩) :
    Calls Tryz.prog 71 #[.pointer (some ⟨Y, 0, none⟩), .pointer (some ⟨X, 0, none⟩), .string s] w fun e w' => GSPost Y X lo d tx i s.data.toList w e w' := by
  have t26 : ¬ (5 : Int) < (s.size : Int) := by omega
  clear hsh
  have hy := hmk.yb
  have hxl := (Array.getElem?_eq_some_iff.1 hXb).1
  have hsz : s.data.toList.length = s.size := by simp
  replace hmk := Lib.hid hmk
  replace hrb := Lib.hid hrb
  replace hXb := Lib.hid hXb
  replace hout := Lib.hid hout
  have hcs := Lib.hid (fun W => l01Split_any s 32 W hs)
  obtain ⟨ws, hws⟩ : ∃ ws, ws = splitF 32 s.data.toList := ⟨_, rfl⟩
  have hsl := splitF_len 32 s.data.toList
  have hsm := Lib.hid (splitF_mem 32 s.data.toList)
  have hpos : 0 < ws.length := by rw [hws]; exact List.length_pos_iff.2 (splitF_ne 32 _)
  rw [← hws] at hsl hsm hcs
  rw [hsz] at hsl
  replace hsz := Lib.hid hsz
  have hw0 : ws[0]? = some k := by rw [hws]; rcases cut_words hc with ⟨_, h⟩ | ⟨_, _, h⟩ <;> rw [h] <;> rfl
  replace hws := Lib.hid hws
  subst hk
  go_enter Tryz.func71, Tryz.ntmps71
  go_wp2_with fail
  refine (hcs.out _).mono ?_
  rintro e w2 ⟨A1, c1, n, hn, rfl, hown, hb2⟩
  obtain ⟨g, rfl, hg1, hg2, _, hcell, _⟩ := own_at hown (by omega)
  have hW : Hid (∀ (j : Nat) (l : List UInt8), ws[j]? = some l → w2.cell? ⟨g, j, none⟩ = some (.string ⟨l.toArray⟩)) := fun j l hj => by
    have hjl := (List.getElem?_eq_some_iff.1 hj).1
    have := hcell j (by omega)
    rw [this]
    simpa [strV] using hj
  have hk2 := hmk.out.below hb2
  have hX2 := (hb2.block X hxl).trans hXb.out
  have hz2 := hb2.size
  have hB2 := Lib.hid (hb2.mono (Nat.le_of_lt hy))
  obtain ⟨y0, y1, y2, y3, y4, y5, y6, yf, yl⟩ := hk2.cellsY
  have x0 : w2.cell? ⟨X, 0, none⟩ = some (.string tx) := by rw [Go.Joins.cell_of_block hX2]; rfl
  have xf : ∀ o, w2.frozen? ⟨X, o, none⟩ = false := Go.Joins.unfrozen_of_block hX2
  have xl : X < w2.heap.size := by omega
  have hXg : ¬ X = g := by omega
  have hgX : ¬ g = X := by omega
  have hYg : ¬ Y = g := by omega
  have hgY : ¬ g = Y := by omega
  have hXY : ¬ X = Y := by omega
  have hYX' : ¬ Y = X := by omega
  have q0 := hW.out 0 _ hw0
  replace hk2 := Lib.hid hk2
  replace hX2 := Lib.hid hX2
  clear hcs hown hcell hb2 hmk hXb
  replace hbad := Lib.hid hbad
  go_wp2_with fail
  go_ret
  exact ⟨d, h, tx, _, rfl, hk2.out, hX2.out, hrb.out.up, hout.out, by omega, fun Ls d0 h1 h2 h3 => by
    obtain ⟨e1, rfl⟩ := hbad.out Ls d0 h1 h3
    exact ⟨e1, by rw [← hout.out], h2⟩, hB2.out⟩
set_option maxHeartbeats 4000000 in
theorem gsl_partno (s tx : ByteArray) (k r : List UInt8) (w : World) (Y X lo i : Nat) (d : Gl) (h : GlH) (hc : CutTo s.data.toList k r) (hmk : MkG w Y lo d h) (hXb : w.heap[X]? = some (.cells #[.string tx] 9 (0, 0))) (hYX : Y < X) (hXl : X < lo) (hlo : lo ≤ w.heap.size) (hs : s.size ≤ 1048576) (hi : i ≤ 1048577) (hrb : RB d i) (hout : d.out = []) (ht : tx.size ≤ 1000000000000) (hk : k = kPart) (hsh : (splitF 32 s.data.toList).length ≠ 3) (hbad : ∀ (Ls : List (List Knot)) (d0 : Gl), s.data.toList.head? ≠ some 103 → LineTo ⟨d.name, d.code, d.adv, Ls, d.parts, d.anchors, d.hints⟩ s.data.toList d0 → (s.toList == [101, 110, 100]) = true ∧ d0 = ⟨d.name, d.code, d.adv, Ls, d.parts, d.anchors, d.hints⟩) :
    Calls Tryz.prog 71 #[.pointer (some ⟨Y, 0, none⟩), .pointer (some ⟨X, 0, none⟩), .string s] w fun e w' => GSPost Y X lo d tx i s.data.toList w e w' := by
  have hy := hmk.yb
  have hxl := (Array.getElem?_eq_some_iff.1 hXb).1
  have hsz : s.data.toList.length = s.size := by simp
  replace hmk := Lib.hid hmk
  replace hrb := Lib.hid hrb
  replace hXb := Lib.hid hXb
  replace hout := Lib.hid hout
  have hcs := Lib.hid (fun W => l01Split_any s 32 W hs)
  obtain ⟨ws, hws⟩ : ∃ ws, ws = splitF 32 s.data.toList := ⟨_, rfl⟩
  have hsl := splitF_len 32 s.data.toList
  have hsm := Lib.hid (splitF_mem 32 s.data.toList)
  have hpos : 0 < ws.length := by rw [hws]; exact List.length_pos_iff.2 (splitF_ne 32 _)
  rw [← hws] at hsl hsm hcs
  rw [hsz] at hsl
  replace hsz := Lib.hid hsz
  have hw0 : ws[0]? = some k := by rw [hws]; rcases cut_words hc with ⟨_, h⟩ | ⟨_, _, h⟩ <;> rw [h] <;> rfl
  replace hws := Lib.hid hws
  subst hk
  have t26 : ((ws.length : Int) == 3) = false := by rw [beq_eq_false_iff_ne]; have := hsh; rw [← hws.out] at this; omega
  clear hsh
  go_enter Tryz.func71, Tryz.ntmps71
  go_wp2_with fail
  refine (hcs.out _).mono ?_
  rintro e w2 ⟨A1, c1, n, hn, rfl, hown, hb2⟩
  obtain ⟨g, rfl, hg1, hg2, _, hcell, _⟩ := own_at hown (by omega)
  have hW : Hid (∀ (j : Nat) (l : List UInt8), ws[j]? = some l → w2.cell? ⟨g, j, none⟩ = some (.string ⟨l.toArray⟩)) := fun j l hj => by
    have hjl := (List.getElem?_eq_some_iff.1 hj).1
    have := hcell j (by omega)
    rw [this]
    simpa [strV] using hj
  have hk2 := hmk.out.below hb2
  have hX2 := (hb2.block X hxl).trans hXb.out
  have hz2 := hb2.size
  have hB2 := Lib.hid (hb2.mono (Nat.le_of_lt hy))
  obtain ⟨y0, y1, y2, y3, y4, y5, y6, yf, yl⟩ := hk2.cellsY
  have x0 : w2.cell? ⟨X, 0, none⟩ = some (.string tx) := by rw [Go.Joins.cell_of_block hX2]; rfl
  have xf : ∀ o, w2.frozen? ⟨X, o, none⟩ = false := Go.Joins.unfrozen_of_block hX2
  have xl : X < w2.heap.size := by omega
  have hXg : ¬ X = g := by omega
  have hgX : ¬ g = X := by omega
  have hYg : ¬ Y = g := by omega
  have hgY : ¬ g = Y := by omega
  have hXY : ¬ X = Y := by omega
  have hYX' : ¬ Y = X := by omega
  have q0 := hW.out 0 _ hw0
  replace hk2 := Lib.hid hk2
  replace hX2 := Lib.hid hX2
  clear hcs hown hcell hb2 hmk hXb
  replace hbad := Lib.hid hbad
  go_wp2_with fail
  go_ret
  exact ⟨d, h, tx, _, rfl, hk2.out, hX2.out, hrb.out.up, hout.out, by omega, fun Ls d0 h1 h2 h3 => by
    obtain ⟨e1, rfl⟩ := hbad.out Ls d0 h1 h3
    exact ⟨e1, by rw [← hout.out], h2⟩, hB2.out⟩
set_option maxHeartbeats 4000000 in
theorem gsl_anchno (s tx : ByteArray) (k r : List UInt8) (w : World) (Y X lo i : Nat) (d : Gl) (h : GlH) (hc : CutTo s.data.toList k r) (hmk : MkG w Y lo d h) (hXb : w.heap[X]? = some (.cells #[.string tx] 9 (0, 0))) (hYX : Y < X) (hXl : X < lo) (hlo : lo ≤ w.heap.size) (hs : s.size ≤ 1048576) (hi : i ≤ 1048577) (hrb : RB d i) (hout : d.out = []) (ht : tx.size ≤ 1000000000000) (hk : k = kAnch) (hsh : (splitF 32 s.data.toList).length ≠ 3) (hbad : ∀ (Ls : List (List Knot)) (d0 : Gl), s.data.toList.head? ≠ some 103 → LineTo ⟨d.name, d.code, d.adv, Ls, d.parts, d.anchors, d.hints⟩ s.data.toList d0 → (s.toList == [101, 110, 100]) = true ∧ d0 = ⟨d.name, d.code, d.adv, Ls, d.parts, d.anchors, d.hints⟩) :
    Calls Tryz.prog 71 #[.pointer (some ⟨Y, 0, none⟩), .pointer (some ⟨X, 0, none⟩), .string s] w fun e w' => GSPost Y X lo d tx i s.data.toList w e w' := by
  have hy := hmk.yb
  have hxl := (Array.getElem?_eq_some_iff.1 hXb).1
  have hsz : s.data.toList.length = s.size := by simp
  replace hmk := Lib.hid hmk
  replace hrb := Lib.hid hrb
  replace hXb := Lib.hid hXb
  replace hout := Lib.hid hout
  have hcs := Lib.hid (fun W => l01Split_any s 32 W hs)
  obtain ⟨ws, hws⟩ : ∃ ws, ws = splitF 32 s.data.toList := ⟨_, rfl⟩
  have hsl := splitF_len 32 s.data.toList
  have hsm := Lib.hid (splitF_mem 32 s.data.toList)
  have hpos : 0 < ws.length := by rw [hws]; exact List.length_pos_iff.2 (splitF_ne 32 _)
  rw [← hws] at hsl hsm hcs
  rw [hsz] at hsl
  replace hsz := Lib.hid hsz
  have hw0 : ws[0]? = some k := by rw [hws]; rcases cut_words hc with ⟨_, h⟩ | ⟨_, _, h⟩ <;> rw [h] <;> rfl
  replace hws := Lib.hid hws
  subst hk
  have t26 : ((ws.length : Int) == 3) = false := by rw [beq_eq_false_iff_ne]; have := hsh; rw [← hws.out] at this; omega
  clear hsh
  go_enter Tryz.func71, Tryz.ntmps71
  go_wp2_with fail
  refine (hcs.out _).mono ?_
  rintro e w2 ⟨A1, c1, n, hn, rfl, hown, hb2⟩
  obtain ⟨g, rfl, hg1, hg2, _, hcell, _⟩ := own_at hown (by omega)
  have hW : Hid (∀ (j : Nat) (l : List UInt8), ws[j]? = some l → w2.cell? ⟨g, j, none⟩ = some (.string ⟨l.toArray⟩)) := fun j l hj => by
    have hjl := (List.getElem?_eq_some_iff.1 hj).1
    have := hcell j (by omega)
    rw [this]
    simpa [strV] using hj
  have hk2 := hmk.out.below hb2
  have hX2 := (hb2.block X hxl).trans hXb.out
  have hz2 := hb2.size
  have hB2 := Lib.hid (hb2.mono (Nat.le_of_lt hy))
  obtain ⟨y0, y1, y2, y3, y4, y5, y6, yf, yl⟩ := hk2.cellsY
  have x0 : w2.cell? ⟨X, 0, none⟩ = some (.string tx) := by rw [Go.Joins.cell_of_block hX2]; rfl
  have xf : ∀ o, w2.frozen? ⟨X, o, none⟩ = false := Go.Joins.unfrozen_of_block hX2
  have xl : X < w2.heap.size := by omega
  have hXg : ¬ X = g := by omega
  have hgX : ¬ g = X := by omega
  have hYg : ¬ Y = g := by omega
  have hgY : ¬ g = Y := by omega
  have hXY : ¬ X = Y := by omega
  have hYX' : ¬ Y = X := by omega
  have q0 := hW.out 0 _ hw0
  replace hk2 := Lib.hid hk2
  replace hX2 := Lib.hid hX2
  clear hcs hown hcell hb2 hmk hXb
  replace hbad := Lib.hid hbad
  go_wp2_with fail
  go_ret
  exact ⟨d, h, tx, _, rfl, hk2.out, hX2.out, hrb.out.up, hout.out, by omega, fun Ls d0 h1 h2 h3 => by
    obtain ⟨e1, rfl⟩ := hbad.out Ls d0 h1 h3
    exact ⟨e1, by rw [← hout.out], h2⟩, hB2.out⟩
set_option maxHeartbeats 4000000 in
theorem gsl_hintno (s tx : ByteArray) (k r : List UInt8) (w : World) (Y X lo i : Nat) (d : Gl) (h : GlH) (hc : CutTo s.data.toList k r) (hmk : MkG w Y lo d h) (hXb : w.heap[X]? = some (.cells #[.string tx] 9 (0, 0))) (hYX : Y < X) (hXl : X < lo) (hlo : lo ≤ w.heap.size) (hs : s.size ≤ 1048576) (hi : i ≤ 1048577) (hrb : RB d i) (hout : d.out = []) (ht : tx.size ≤ 1000000000000) (hk : k = kHint) (hsh : (splitF 32 s.data.toList).length ≠ 2) (hbad : ∀ (Ls : List (List Knot)) (d0 : Gl), s.data.toList.head? ≠ some 103 → LineTo ⟨d.name, d.code, d.adv, Ls, d.parts, d.anchors, d.hints⟩ s.data.toList d0 → (s.toList == [101, 110, 100]) = true ∧ d0 = ⟨d.name, d.code, d.adv, Ls, d.parts, d.anchors, d.hints⟩) :
    Calls Tryz.prog 71 #[.pointer (some ⟨Y, 0, none⟩), .pointer (some ⟨X, 0, none⟩), .string s] w fun e w' => GSPost Y X lo d tx i s.data.toList w e w' := by
  have hy := hmk.yb
  have hxl := (Array.getElem?_eq_some_iff.1 hXb).1
  have hsz : s.data.toList.length = s.size := by simp
  replace hmk := Lib.hid hmk
  replace hrb := Lib.hid hrb
  replace hXb := Lib.hid hXb
  replace hout := Lib.hid hout
  have hcs := Lib.hid (fun W => l01Split_any s 32 W hs)
  obtain ⟨ws, hws⟩ : ∃ ws, ws = splitF 32 s.data.toList := ⟨_, rfl⟩
  have hsl := splitF_len 32 s.data.toList
  have hsm := Lib.hid (splitF_mem 32 s.data.toList)
  have hpos : 0 < ws.length := by rw [hws]; exact List.length_pos_iff.2 (splitF_ne 32 _)
  rw [← hws] at hsl hsm hcs
  rw [hsz] at hsl
  replace hsz := Lib.hid hsz
  have hw0 : ws[0]? = some k := by rw [hws]; rcases cut_words hc with ⟨_, h⟩ | ⟨_, _, h⟩ <;> rw [h] <;> rfl
  replace hws := Lib.hid hws
  subst hk
  have t26 : ((ws.length : Int) == 2) = false := by rw [beq_eq_false_iff_ne]; have := hsh; rw [← hws.out] at this; omega
  clear hsh
  go_enter Tryz.func71, Tryz.ntmps71
  go_wp2_with fail
  refine (hcs.out _).mono ?_
  rintro e w2 ⟨A1, c1, n, hn, rfl, hown, hb2⟩
  obtain ⟨g, rfl, hg1, hg2, _, hcell, _⟩ := own_at hown (by omega)
  have hW : Hid (∀ (j : Nat) (l : List UInt8), ws[j]? = some l → w2.cell? ⟨g, j, none⟩ = some (.string ⟨l.toArray⟩)) := fun j l hj => by
    have hjl := (List.getElem?_eq_some_iff.1 hj).1
    have := hcell j (by omega)
    rw [this]
    simpa [strV] using hj
  have hk2 := hmk.out.below hb2
  have hX2 := (hb2.block X hxl).trans hXb.out
  have hz2 := hb2.size
  have hB2 := Lib.hid (hb2.mono (Nat.le_of_lt hy))
  obtain ⟨y0, y1, y2, y3, y4, y5, y6, yf, yl⟩ := hk2.cellsY
  have x0 : w2.cell? ⟨X, 0, none⟩ = some (.string tx) := by rw [Go.Joins.cell_of_block hX2]; rfl
  have xf : ∀ o, w2.frozen? ⟨X, o, none⟩ = false := Go.Joins.unfrozen_of_block hX2
  have xl : X < w2.heap.size := by omega
  have hXg : ¬ X = g := by omega
  have hgX : ¬ g = X := by omega
  have hYg : ¬ Y = g := by omega
  have hgY : ¬ g = Y := by omega
  have hXY : ¬ X = Y := by omega
  have hYX' : ¬ Y = X := by omega
  have q0 := hW.out 0 _ hw0
  replace hk2 := Lib.hid hk2
  replace hX2 := Lib.hid hX2
  clear hcs hown hcell hb2 hmk hXb
  replace hbad := Lib.hid hbad
  go_wp2_with fail
  go_ret
  exact ⟨d, h, tx, _, rfl, hk2.out, hX2.out, hrb.out.up, hout.out, by omega, fun Ls d0 h1 h2 h3 => by
    obtain ⟨e1, rfl⟩ := hbad.out Ls d0 h1 h3
    exact ⟨e1, by rw [← hout.out], h2⟩, hB2.out⟩
set_option maxHeartbeats 4000000 in
theorem gsl_loop (s tx : ByteArray) (k r : List UInt8) (w : World) (Y X lo i : Nat) (d : Gl) (h : GlH) (hc : CutTo s.data.toList k r) (hmk : MkG w Y lo d h) (hXb : w.heap[X]? = some (.cells #[.string tx] 9 (0, 0))) (hYX : Y < X) (hXl : X < lo) (hlo : lo ≤ w.heap.size) (hs : s.size ≤ 1048576) (hi : i ≤ 1048577) (hrb : RB d i) (hout : d.out = []) (ht : tx.size ≤ 1000000000000) (hk : k = kLoop) (hsz5 : 5 < s.size) (hr : s.data.toList = kLoop ++ 32 :: r) :
    Calls Tryz.prog 71 #[.pointer (some ⟨Y, 0, none⟩), .pointer (some ⟨X, 0, none⟩), .string s] w fun e w' => GSPost Y X lo d tx i s.data.toList w e w' := by
  have hy := hmk.yb
  have hxl := (Array.getElem?_eq_some_iff.1 hXb).1
  have hsz : s.data.toList.length = s.size := by simp
  replace hmk := Lib.hid hmk
  replace hrb := Lib.hid hrb
  replace hXb := Lib.hid hXb
  replace hout := Lib.hid hout
  have hcs := Lib.hid (fun W => l01Split_any s 32 W hs)
  obtain ⟨ws, hws⟩ : ∃ ws, ws = splitF 32 s.data.toList := ⟨_, rfl⟩
  have hsl := splitF_len 32 s.data.toList
  have hsm := Lib.hid (splitF_mem 32 s.data.toList)
  have hpos : 0 < ws.length := by rw [hws]; exact List.length_pos_iff.2 (splitF_ne 32 _)
  rw [← hws] at hsl hsm hcs
  rw [hsz] at hsl
  replace hsz := Lib.hid hsz
  have hw0 : ws[0]? = some k := by rw [hws]; rcases cut_words hc with ⟨_, h⟩ | ⟨_, _, h⟩ <;> rw [h] <;> rfl
  have t26 : (5 : Int) < (s.size : Int) := by omega
  subst hk
  replace hws := Lib.hid hws
  go_enter Tryz.func71, Tryz.ntmps71
  go_wp2_with fail
  refine (hcs.out _).mono ?_
  rintro e w2 ⟨A1, c1, n, hn, rfl, hown, hb2⟩
  obtain ⟨g, rfl, hg1, hg2, _, hcell, _⟩ := own_at hown (by omega)
  have hW : Hid (∀ (j : Nat) (l : List UInt8), ws[j]? = some l → w2.cell? ⟨g, j, none⟩ = some (.string ⟨l.toArray⟩)) := fun j l hj => by
    have hjl := (List.getElem?_eq_some_iff.1 hj).1
    have := hcell j (by omega)
    rw [this]
    simpa [strV] using hj
  have hk2 := hmk.out.below hb2
  have hX2 := (hb2.block X hxl).trans hXb.out
  have hz2 := hb2.size
  have hB2 := Lib.hid (hb2.mono (Nat.le_of_lt hy))
  obtain ⟨y0, y1, y2, y3, y4, y5, y6, yf, yl⟩ := hk2.cellsY
  have x0 : w2.cell? ⟨X, 0, none⟩ = some (.string tx) := by rw [Go.Joins.cell_of_block hX2]; rfl
  have xf : ∀ o, w2.frozen? ⟨X, o, none⟩ = false := Go.Joins.unfrozen_of_block hX2
  have xl : X < w2.heap.size := by omega
  have hXg : ¬ X = g := by omega
  have hgX : ¬ g = X := by omega
  have hYg : ¬ Y = g := by omega
  have hgY : ¬ g = Y := by omega
  have hXY : ¬ X = Y := by omega
  have hYX' : ¬ Y = X := by omega
  have q0 := hW.out 0 _ hw0
  replace hk2 := Lib.hid hk2
  replace hX2 := Lib.hid hX2
  clear hcs hown hcell hb2 hmk hXb
  go_upto_region 3 with fail
  have h05 : (0 : Int) ≤ 5 ∧ (5 : Int) ≤ (s.size : Int) := by omega
  obtain ⟨rb, hrbe⟩ : ∃ rb : ByteArray, rb = ⟨r.toArray⟩ := ⟨_, rfl⟩
  have hx5 : s.extract 5 s.size = rb := by
    rw [extract_mk, List.take_of_length_le (by simp), hr, hrbe]
    rfl
  have hrz : rb.size + 5 = s.size := by
    have h1 := congrArg List.length hr
    rw [hsz.out] at h1
    simp [kLoop] at h1
    rw [hrbe]; show r.length + 5 = s.size; omega
  have hrz1 : rb.size ≤ 1048576 := by omega
  replace hrz := Lib.hid hrz
  have hrz2 : (rb ++ ⟨#[10]⟩ : ByteArray).size = rb.size + 1 := by simp [ByteArray.size_append]; rfl
  have hrz3 : (rb ++ ⟨#[10]⟩ : ByteArray).size ≤ 1048577 := by omega
  replace hrz2 := Lib.hid hrz2
  replace hrbe := Lib.hid hrbe
  clear y0 y1 y2 y3 y4 y5 y6 yf q0
  have k0 : ∀ dr os, (Go.Sort.grow (redrawn w2 dr) os).cell? ⟨X, 0, none⟩ = some (.string tx) := cell_regrown x0
  refine wp_region_headq 7 (by kernel_rfl) (by kernel_rfl) (by kernel_rfl) ?_
  simp only [List.take_succ_cons, List.take_zero, List.drop_succ_cons, List.drop_zero]
  repeat (go_big_quiet_step (fail))
  refine wpQuiet_nil ?_
  intro _ hw'
  obtain ⟨⟨dq, osq⟩, hw''⟩ := hw'
  subst hw''
  have hg3 := below_regrown w2 dq osq
  generalize Go.Sort.grow (redrawn w2 dq) osq = w3 at hg3 ⊢
  have hk3 := hk2.out.below hg3
  have hX3 := (hg3.block X xl).trans hX2.out
  have hB3 := Lib.hid (hB2.out.trans (hg3.mono (Nat.le_of_lt (by omega))))
  clear x0 xf k0 hk2 hX2 hB2 hW
  have x0 : w3.cell? ⟨X, 0, none⟩ = some (.string tx) := by rw [Go.Joins.cell_of_block hX3]; rfl
  have xf : ∀ o, w3.frozen? ⟨X, o, none⟩ = false := Go.Joins.unfrozen_of_block hX3
  have hxl3 : X < w3.heap.size := (Array.getElem?_eq_some_iff.1 hX3).1
  replace hk3 := Lib.hid hk3
  replace hX3 := Lib.hid hX3
  clear hg3
  go_wp2_with fail
  go_ret
  refine ⟨d, h, tx ++ (rb ++ ⟨#[10]⟩), true, rfl, hk3.out.same (fun g' hg' _ => Below.heap_setCell _ _ _ _ (by show g' ≠ X; rcases hg' with rfl | hg' <;> omega)) (by simp), Go.Joins.block_setCell hX3.out (i := 0) _, hrb.out.up, hout.out, ?_, fun Ls d0 h1 h2 h3 => ?_, hB3.out.setCell (p := ⟨X, 0, none⟩) (by show Y ≤ X; omega) _⟩
  · rw [ByteArray.size_append, hrz2.out, hsz.out]; have := hrz.out; omega
  · obtain ⟨K, h4, h5, rfl⟩ := (h3.kind hc).loopI
    refine ⟨rfl, by rw [← hout.out], ?_⟩
    show (tx ++ (rb ++ ⟨#[10]⟩)).data.toList = outT (Ls ++ [K])
    rw [outT_snoc, ← h2, ← h5, hrbe.out]
    simp
set_option maxHeartbeats 8000000 in
theorem gsl_part (s tx : ByteArray) (k r : List UInt8) (w : World) (Y X lo i : Nat) (d : Gl) (h : GlH) (hc : CutTo s.data.toList k r) (hmk : MkG w Y lo d h) (hXb : w.heap[X]? = some (.cells #[.string tx] 9 (0, 0))) (hYX : Y < X) (hXl : X < lo) (hlo : lo ≤ w.heap.size) (hs : s.size ≤ 1048576) (hi : i ≤ 1048577) (hrb : RB d i) (hout : d.out = []) (ht : tx.size ≤ 1000000000000) (hk : k = kPart) (a b : List UInt8) (hsp : splitF 32 s.data.toList = [k, a, b]) (hrs : splitF 32 r = [a, b]) :
    Calls Tryz.prog 71 #[.pointer (some ⟨Y, 0, none⟩), .pointer (some ⟨X, 0, none⟩), .string s] w fun e w' => GSPost Y X lo d tx i s.data.toList w e w' := by
  have hy := hmk.yb
  have hxl := (Array.getElem?_eq_some_iff.1 hXb).1
  have hsz : s.data.toList.length = s.size := by simp
  replace hmk := Lib.hid hmk
  replace hrb := Lib.hid hrb
  replace hXb := Lib.hid hXb
  replace hout := Lib.hid hout
  have hcs := Lib.hid (fun W => l01Split_any s 32 W hs)
  obtain ⟨ws, hws⟩ : ∃ ws, ws = splitF 32 s.data.toList := ⟨_, rfl⟩
  have hsl := splitF_len 32 s.data.toList
  have hsm := Lib.hid (splitF_mem 32 s.data.toList)
  have hpos : 0 < ws.length := by rw [hws]; exact List.length_pos_iff.2 (splitF_ne 32 _)
  rw [← hws] at hsl hsm hcs
  rw [hsz] at hsl
  replace hsz := Lib.hid hsz
  have hw0 : ws[0]? = some k := by rw [hws, hsp]; rfl
  have hw1 : ws[1]? = some a := by rw [hws, hsp]; rfl
  have hw2 : ws[2]? = some b := by rw [hws, hsp]; rfl
  have hwl : ws.length = 3 := by rw [hws, hsp]; rfl
  have hal := hsm.out a (List.mem_of_getElem? hw1)
  have hbl := hsm.out b (List.mem_of_getElem? hw2)
  have hsz' := hsz.out
  have ham : a.length ≤ 1048576 := by omega
  have hbm : b.length ≤ 1048576 := by omega
  have t26 : ((ws.length : Int) == 3) = true := by rw [hwl]; rfl
  have twl : 0 < ws.length ∧ 1 < ws.length ∧ 2 < ws.length := by omega
  replace hwl := Lib.hid hwl
  replace hsp := Lib.hid hsp
  replace hrs := Lib.hid hrs
  have hmk2 := hmk
  subst hk
  replace hws := Lib.hid hws
  go_enter Tryz.func71, Tryz.ntmps71
  go_wp2_with fail
  refine (hcs.out _).mono ?_
  rintro e w2 ⟨A1, c1, n, hn, rfl, hown, hb2⟩
  obtain ⟨g, rfl, hg1, hg2, _, hcell, _⟩ := own_at hown (by omega)
  have hW : Hid (∀ (j : Nat) (l : List UInt8), ws[j]? = some l → w2.cell? ⟨g, j, none⟩ = some (.string ⟨l.toArray⟩)) := fun j l hj => by
    have hjl := (List.getElem?_eq_some_iff.1 hj).1
    have := hcell j (by omega)
    rw [this]
    simpa [strV] using hj
  have hk2 := hmk.out.below hb2
  have hX2 := (hb2.block X hxl).trans hXb.out
  have hz2 := hb2.size
  have hB2 := Lib.hid (hb2.mono (Nat.le_of_lt hy))
  obtain ⟨y0, y1, y2, y3, y4, y5, y6, yf, yl⟩ := hk2.cellsY
  have x0 : w2.cell? ⟨X, 0, none⟩ = some (.string tx) := by rw [Go.Joins.cell_of_block hX2]; rfl
  have xf : ∀ o, w2.frozen? ⟨X, o, none⟩ = false := Go.Joins.unfrozen_of_block hX2
  have xl : X < w2.heap.size := by omega
  have hXg : ¬ X = g := by omega
  have hgX : ¬ g = X := by omega
  have hYg : ¬ Y = g := by omega
  have hgY : ¬ g = Y := by omega
  have hXY : ¬ X = Y := by omega
  have hYX' : ¬ Y = X := by omega
  have q0 := hW.out 0 _ hw0
  have q1 := hW.out 1 _ hw1
  have q2 := hW.out 2 _ hw2
  have hfx : Hid (∀ b', (Value.slice h.parts.A h.parts.n h.parts.c).ownBlock = some b' → lo ≤ b' ∧ b' < w.heap.size) := hmk2.out.p.lt
  replace hk2 := Lib.hid hk2
  replace hX2 := Lib.hid hX2
  clear hcs hown hcell hb2 hmk hXb
  have hd1 := Lib.hid (fun W => l01Number_any ⟨a.toArray⟩ W (by show a.length ≤ 1048576; omega))
  have hd2 := Lib.hid (fun W => specReadPt_any ⟨b.toArray⟩ W (by show b.length ≤ 1048576; omega))
  have hon : h.parts.n ≤ 1048577 := by have := hk2.out.pn; have := hrb.out.p; omega
  go_upto_region 6 with fail
  clear y0 y1 y2 y3 y4 y5 y6 yf x0 xf q0
  go_wp2_with fail
  refine (hd1.out _).mono ?_
  intro e w3 hA
  obtain ⟨x, t1, rfl, hxt, hb3⟩ := rd_form hA
  have hz3 := hb3.size
  have q2 := (hb3.cell hg2).trans q2
  have q1 := (hb3.cell hg2).trans q1
  have hK3 : Hid (∀ b, b < w2.heap.size → w3.heap[b]? = w2.heap[b]?) := fun b hb => hb3.block b hb
  have hB3 := Lib.hid (hB2.out.trans (hb3.mono (Nat.le_of_lt yl)))
  have hg3 : g < w3.heap.size := by omega
  clear hA hb3 hd1 hB2 hW
  obtain ⟨t, ht⟩ : ∃ t, t = t1 := ⟨_, rfl⟩
  rw [← ht] at hxt ⊢
  clear ht
  go_upto_region 7 with fail
  go_wp2_with fail
  refine (hd2.out _).mono ?_
  intro e w4 hP
  obtain ⟨px, py, u, rfl, hxy, hb4⟩ := hP.get
  have hzB := hb4.size
  have hbb : Below w4.heap.size w4 (w4.alloc (.cells #[.int .i64 px, .int .i64 py] 102 (0, 0))) := Go.Joins.below_alloc1 _ _
  have hP5 := heap_alloc_new w4 (.cells #[.int .i64 px, .int .i64 py] 102 (0, 0))
  have hK5 : Hid (∀ b, b < w2.heap.size → (w4.alloc (.cells #[.int .i64 px, .int .i64 py] 102 (0, 0))).heap[b]? = w2.heap[b]?) := fun b hb => (hbb.block b (by omega)).trans ((hb4.block b (by omega)).trans (hK3.out b hb))
  have hB5 : Hid (Below Y w (w4.alloc (.cells #[.int .i64 px, .int .i64 py] 102 (0, 0)))) := (hB3.out.trans (hb4.mono (by omega))).trans (hbb.mono (by omega))
  have hz5 := Lib.hid (show w4.heap.size + 1 = (w4.alloc (.cells #[.int .i64 px, .int .i64 py] 102 (0, 0))).heap.size by simp)
  have hfin : Hid (∀ (Ls : List (List Knot)) (d0 : Gl), s.data.toList.head? ≠ some 103 → tx.data.toList = outT Ls → LineTo ⟨d.name, d.code, d.adv, Ls, d.parts, d.anchors, d.hints⟩ s.data.toList d0 → (t && u) = true ∧ (⟨d.name, d.code, d.adv, d.out, d.parts ++ [(x, px, py)], d.anchors, d.hints⟩ : Gl) = ⟨d0.name, d0.code, d0.adv, [], d0.parts, d0.anchors, d0.hints⟩ ∧ tx.data.toList = outT d0.out) := fun Ls d0 h1 h2 h3 => by
    obtain ⟨x', px', py', h4, h5, h6, rfl⟩ := part_is hrs.out.symm (h3.kind hc)
    rcases hxt with ⟨rfl, hx⟩ | ⟨_, hx⟩
    · obtain rfl := IsDec.unique hx h4
      obtain ⟨rfl, rfl, rfl⟩ := hxy px' py' h5 h6
      exact ⟨rfl, by rw [← hout.out], h2⟩
    · exact absurd h4 (hx _)
  clear hP hxy hb4 hbb hd2 hxt hB3 hK3 q1 q2
  go_upto_region 8 with fail
  obtain ⟨B, hBe⟩ : ∃ B, B = w4.heap.size := ⟨_, rfl⟩
  rw [← hBe] at hP5 hz5 hzB ⊢
  generalize w4.alloc (.cells #[.int .i64 px, .int .i64 py] 102 (0, 0)) = w5 at *
  clear hBe
  have hBl5 : B < w5.heap.size := by have := hz5.out; omega
  have hBw : w.heap.size ≤ B := by omega
  have e0d : w5.drew.cell? ⟨B, 0, none⟩ = some (.int .i64 px) := by rw [show w5.drew.cell? ⟨B, 0, none⟩ = w5.cell? ⟨B, 0, none⟩ from rfl, Go.Joins.cell_of_block hP5]; rfl
  have e1d : w5.drew.cell? ⟨B, 1, none⟩ = some (.int .i64 py) := by rw [show w5.drew.cell? ⟨B, 1, none⟩ = w5.cell? ⟨B, 1, none⟩ from rfl, Go.Joins.cell_of_block hP5]; rfl
  clear hP5
  have hk5 : MkG w5 Y lo d h := hk2.out.same (fun g' hg' hgl => hK5.out g' hgl) (by omega)
  have hXs5 : Hid (w5.heap[X]? = some (.cells #[.string tx] 9 (0, 0))) := (hK5.out X xl).trans hX2.out
  have y3d : w5.drew.cell? ⟨Y, 4, none⟩ = some (.slice h.parts.A h.parts.n h.parts.c) := hk5.cells rfl
  have hod : Hid (w5.drew.ownsRow lo 106 3 (.slice h.parts.A h.parts.n h.parts.c) h.parts.n (d.parts.flatMap partC)) := hk5.p.drew
  have hzd : w5.drew.heap.size = w5.heap.size := rfl
  have hlo5 : lo ≤ w5.drew.heap.size := by omega
  have hYd : Y < w5.drew.heap.size := by omega
  replace hk5 := Lib.hid hk5
  have hafter : Hid (∀ (ob : Obj) (A7 : Option Addr) (c7 : Nat) (w7 : World), (w5.drew.alloc ob).grownBy w7 (Value.slice h.parts.A h.parts.n h.parts.c).ownBlock → w7.ownsRow lo 106 3 (.slice A7 (h.parts.n + 1) c7) (h.parts.n + 1) (d.parts.flatMap partC ++ [.int .i64 x, .int .i64 px, .int .i64 py]) → Hid ((w7.cell? ⟨Y, 4, none⟩ = some (.slice h.parts.A h.parts.n h.parts.c) ∧ w7.cell? ⟨B, 0, none⟩ = some (.int .i64 px) ∧ w7.cell? ⟨B, 1, none⟩ = some (.int .i64 py)) ∧ (∀ o, w7.frozen? ⟨Y, o, none⟩ = false) ∧ Y < w7.heap.size ∧ MkG (w7.setCell ⟨Y, 4, none⟩ (.slice A7 (h.parts.n + 1) c7)) Y lo ⟨d.name, d.code, d.adv, d.out, d.parts ++ [(x, px, py)], d.anchors, d.hints⟩ ⟨h.out, ⟨A7, h.parts.n + 1, c7⟩, h.anchors⟩ ∧ (w7.setCell ⟨Y, 4, none⟩ (.slice A7 (h.parts.n + 1) c7)).heap[X]? = some (.cells #[.string tx] 9 (0, 0)) ∧ Below Y w w7)) := by
    intro ob A7 c7 w7 hg7 ho7
    have hz7 := hg7.size
    simp at hz7
    have hal : ∀ b, b < w5.heap.size → (w5.drew.alloc ob).heap[b]? = w5.heap[b]? := fun b hb => Below.heap_alloc _ _ _ hb
    have hbl : ∀ b, b < w5.heap.size → (b < lo ∨ w.heap.size ≤ b) → w7.heap[b]? = w5.heap[b]? := fun b hb hor => (hg7.block b (by simp; omega) (fun e => by have h1 := hfx.out _ e.symm; omega)).trans (hal b hb)
    have hYb : w7.heap[Y]? = w5.heap[Y]? := hbl Y (by omega) (.inl (by omega))
    have hXb7 : w7.heap[X]? = w5.heap[X]? := hbl X (by omega) (.inl hXl)
    refine ⟨⟨(World.cell?_of_block hYb).trans y3d, (World.cell?_of_block (hbl _ hBl5 (.inr hBw))).trans e0d, (World.cell?_of_block (hbl _ hBl5 (.inr hBw))).trans e1d⟩, fun o => (World.frozen?_of_block hYb).trans (Go.Joins.unfrozen_of_block hk5.out.box o), by omega, ?_, (Below.heap_setCell _ _ _ _ (by show X ≠ Y; omega)).trans (hXb7.trans hXs5.out), ?_⟩
    · exact MkG.part (p := (x, px, py)) (hk5.out.same (fun g' hg' hgl => hal g' hgl) (by simp)) hg7 ho7
    · exact (hB5.out.drew.alloc (by omega) _).grown hg7 (by simp; omega) (fun b hb => by have := (hfx.out _ hb).1; omega)
  have hrb7 : Hid (RB ⟨d.name, d.code, d.adv, d.out, d.parts ++ [(x, px, py)], d.anchors, d.hints⟩ (i + 1)) := ⟨Nat.le_succ_of_le hrb.out.o, hrb.out.k, by simp; exact hrb.out.p, Nat.le_succ_of_le hrb.out.a, hrb.out.nm, hrb.out.hn, hrb.out.an⟩
  clear hK5 hB5 hk2 hk5 hX2 hfx
  refine wp_region_head 10 (fun w' => w'.cell? ⟨Y, 4, none⟩ = some (.slice h.parts.A h.parts.n h.parts.c) ∧ w'.cell? ⟨B, 0, none⟩ = some (.int .i64 px) ∧ w'.cell? ⟨B, 1, none⟩ = some (.int .i64 py)) (by kernel_rfl) (by kernel_rfl) (by exact ⟨y3d, e0d, e1d⟩) (fun hHeld => ?_)
  simp only [List.take_succ_cons, List.take_zero, List.drop_succ_cons, List.drop_zero]
  refine wpAnyH_take (i := 0) (v := ?_) ((List.getElem?_toArray).trans rfl) (by kernel_rfl) (by kernel_rfl) (by kernel_rfl) (fun _ _ _ h => h) (Or.inl ⟨by rfl, ?_⟩) (by assumption) ?_
  rotate_left
  · (intro w hSw; (try dsimp only at hSw); go_simp; (try (with_reducible rfl)))
  (try simp only [Act.put, List.setIfInBounds_toArray, List.set_cons_zero, List.set_cons_succ])
  refine wpAnyH_take (i := 1) (v := ?_) ((List.getElem?_toArray).trans rfl) (by kernel_rfl) (by kernel_rfl) (by kernel_rfl) (fun _ _ _ h => h) (Or.inl ⟨by rfl, ?_⟩) (by assumption) ?_
  rotate_left
  · (intro w hSw; (try dsimp only at hSw); go_simp; (try (with_reducible rfl)))
  (try simp only [Act.put, List.setIfInBounds_toArray, List.set_cons_zero, List.set_cons_succ])
  refine wpAnyH_take (i := 2) (v := ?_) ((List.getElem?_toArray).trans rfl) (by kernel_rfl) (by kernel_rfl) (by kernel_rfl) (fun _ _ _ h => h) (Or.inl ⟨by rfl, ?_⟩) (by assumption) ?_
  rotate_left
  · (intro w hSw; (try dsimp only at hSw); go_simp; (try (with_reducible rfl)))
  (try simp only [Act.put, List.setIfInBounds_toArray, List.set_cons_zero, List.set_cons_succ])
  refine wpAnyH_take (i := 3) (v := ?_) ((List.getElem?_toArray).trans rfl) (by kernel_rfl) (by kernel_rfl) (by kernel_rfl) (fun _ _ _ h => h) (Or.inl ⟨by rfl, ?_⟩) (by assumption) ?_
  rotate_left
  · (intro w hSw; (try dsimp only at hSw); go_simp; (try (with_reducible rfl)))
  (try simp only [Act.put, List.setIfInBounds_toArray, List.set_cons_zero, List.set_cons_succ])
  refine wpAnyH_take (i := 4) (v := ?_) ((List.getElem?_toArray).trans rfl) (by kernel_rfl) (by kernel_rfl) (by kernel_rfl) (fun _ _ _ h => h) (Or.inl ⟨by rfl, ?_⟩) (by assumption) ?_
  rotate_left
  · (intro w hSw; (try dsimp only at hSw); go_simp; (try (with_reducible rfl)))
  (try simp only [Act.put, List.setIfInBounds_toArray, List.set_cons_zero, List.set_cons_succ])
  refine wpAnyH_take (i := 5) (v := ?_) ((List.getElem?_toArray).trans rfl) (by kernel_rfl) (by kernel_rfl) (by kernel_rfl) (fun _ _ _ h => h) (Or.inl ⟨by rfl, ?_⟩) (by assumption) ?_
  rotate_left
  · (intro w hSw; (try dsimp only at hSw); go_simp; (try (with_reducible rfl)))
  (try simp only [Act.put, List.setIfInBounds_toArray, List.set_cons_zero, List.set_cons_succ])
  refine wpAnyH_take (i := 6) (v := ?_) ((List.getElem?_toArray).trans rfl) (by kernel_rfl) (by kernel_rfl) (by kernel_rfl) (fun _ _ _ h => h) (Or.inl ⟨by rfl, ?_⟩) (by assumption) ?_
  rotate_left
  · (intro w hSw; (try dsimp only at hSw); go_simp; (try (with_reducible rfl)))
  (try simp only [Act.put, List.setIfInBounds_toArray, List.set_cons_zero, List.set_cons_succ])
  refine wpAnyH_take (i := 7) (v := ?_) ((List.getElem?_toArray).trans rfl) (by kernel_rfl) (by kernel_rfl) (by kernel_rfl) (fun _ _ _ h => h) (Or.inl ⟨by rfl, ?_⟩) (by assumption) ?_
  rotate_left
  · (intro w hSw; (try dsimp only at hSw); go_simp; (try (with_reducible rfl)))
  (try simp only [Act.put, List.setIfInBounds_toArray, List.set_cons_zero, List.set_cons_succ])
  refine wpAnyH_ready (rs := [8]) (by kernel_rfl) (by simp) ?_
  refine AllReadyH.cons ((List.getElem?_toArray).trans rfl) (fun K0 hK0 => ?_) AllReadyH.nil
  go_simp
  refine hK0.out _ _ ?_ (fun hHeld => ?_)
  · (exact ⟨Lib.cell?_alloc_some _ y3d, Lib.cell?_alloc_some _ e0d, Lib.cell?_alloc_some _ e1d⟩)
  clear hK0 K0
  (try simp only [Act.put, List.setIfInBounds_toArray, List.set_cons_zero, List.set_cons_succ])
  refine wpAnyH_ready (rs := [9]) (by kernel_rfl) (by simp) ?_
  refine AllReadyH.cons ((List.getElem?_toArray).trans rfl) (fun K0 hK0 => ?_) AllReadyH.nil
  (refine stepAppAt rfl (.tmp 64) (.tmp 68) elemPart rfl (v := .slice h.parts.A h.parts.n h.parts.c) (n := h.parts.n) (xs := d.parts.flatMap partC) rfl (hod.out.alloc _) rfl (src_at (cs := [.int .i64 x, .int .i64 px, .int .i64 py]) rfl (by simp [Value.oneCell']) (by simp)) (by omega) (by omega) (by first | omega | (simp <;> omega)) (h.parts.n + 1) rfl ?_; intro A7 c7 w7 ho7 hg7; have hk7 := hafter.out _ A7 c7 w7 hg7 ho7; have hS7 := hk7.out.1; have yf7 := hk7.out.2.1; have yl7 := hk7.out.2.2.1; clear hafter)
  refine hK0.out _ _ ?_ (fun hHeld => ?_)
  · (exact hS7)
  clear hK0 K0
  (try simp only [Act.put, List.setIfInBounds_toArray, List.set_cons_zero, List.set_cons_succ])
  refine wpAnyH_done (by kernel_rfl) ?_ _
  show wpList _ _ _ _ _ _
  all_goals
    have hd7 := hk7.out.2.2.2.2.2.setCell (p := ⟨Y, 4, none⟩) (Nat.le_refl _) (.slice A7 (h.parts.n + 1) c7)
    have hd8 := Lib.hid hk7.out.2.2.2.1
    have hd9 := Lib.hid hk7.out.2.2.2.2.1
    replace hd7 := Lib.hid hd7
    clear hk7 hXs5
    cases t <;> cases u <;> (go_wp2_with fail; go_ret; exact ⟨⟨d.name, d.code, d.adv, d.out, d.parts ++ [(x, px, py)], d.anchors, d.hints⟩, _, tx, _, rfl, hd8.out, hd9.out, hrb7.out, hout.out, by omega, hfin.out, hd7.out⟩)
set_option maxHeartbeats 8000000 in
theorem gsl_anch (s tx : ByteArray) (k r : List UInt8) (w : World) (Y X lo i : Nat) (d : Gl) (h : GlH) (hc : CutTo s.data.toList k r) (hmk : MkG w Y lo d h) (hXb : w.heap[X]? = some (.cells #[.string tx] 9 (0, 0))) (hYX : Y < X) (hXl : X < lo) (hlo : lo ≤ w.heap.size) (hs : s.size ≤ 1048576) (hi : i ≤ 1048577) (hrb : RB d i) (hout : d.out = []) (ht : tx.size ≤ 1000000000000) (hk : k = kAnch) (a b : List UInt8) (hsp : splitF 32 s.data.toList = [k, a, b]) (hrs : splitF 32 r = [a, b]) :
    Calls Tryz.prog 71 #[.pointer (some ⟨Y, 0, none⟩), .pointer (some ⟨X, 0, none⟩), .string s] w fun e w' => GSPost Y X lo d tx i s.data.toList w e w' := by
  have hy := hmk.yb
  have hxl := (Array.getElem?_eq_some_iff.1 hXb).1
  have hsz : s.data.toList.length = s.size := by simp
  replace hmk := Lib.hid hmk
  replace hrb := Lib.hid hrb
  replace hXb := Lib.hid hXb
  replace hout := Lib.hid hout
  have hcs := Lib.hid (fun W => l01Split_any s 32 W hs)
  obtain ⟨ws, hws⟩ : ∃ ws, ws = splitF 32 s.data.toList := ⟨_, rfl⟩
  have hsl := splitF_len 32 s.data.toList
  have hsm := Lib.hid (splitF_mem 32 s.data.toList)
  have hpos : 0 < ws.length := by rw [hws]; exact List.length_pos_iff.2 (splitF_ne 32 _)
  rw [← hws] at hsl hsm hcs
  rw [hsz] at hsl
  replace hsz := Lib.hid hsz
  have hw0 : ws[0]? = some k := by rw [hws, hsp]; rfl
  have hw1 : ws[1]? = some a := by rw [hws, hsp]; rfl
  have hw2 : ws[2]? = some b := by rw [hws, hsp]; rfl
  have hwl : ws.length = 3 := by rw [hws, hsp]; rfl
  have hal := hsm.out a (List.mem_of_getElem? hw1)
  have hbl := hsm.out b (List.mem_of_getElem? hw2)
  have hsz' := hsz.out
  have ham : a.length ≤ 1048576 := by omega
  have hbm : b.length ≤ 1048576 := by omega
  have t26 : ((ws.length : Int) == 3) = true := by rw [hwl]; rfl
  have twl : 0 < ws.length ∧ 1 < ws.length ∧ 2 < ws.length := by omega
  replace hwl := Lib.hid hwl
  replace hsp := Lib.hid hsp
  replace hrs := Lib.hid hrs
  have hmk2 := hmk
  subst hk
  replace hws := Lib.hid hws
  go_enter Tryz.func71, Tryz.ntmps71
  go_wp2_with fail
  refine (hcs.out _).mono ?_
  rintro e w2 ⟨A1, c1, n, hn, rfl, hown, hb2⟩
  obtain ⟨g, rfl, hg1, hg2, _, hcell, _⟩ := own_at hown (by omega)
  have hW : Hid (∀ (j : Nat) (l : List UInt8), ws[j]? = some l → w2.cell? ⟨g, j, none⟩ = some (.string ⟨l.toArray⟩)) := fun j l hj => by
    have hjl := (List.getElem?_eq_some_iff.1 hj).1
    have := hcell j (by omega)
    rw [this]
    simpa [strV] using hj
  have hk2 := hmk.out.below hb2
  have hX2 := (hb2.block X hxl).trans hXb.out
  have hz2 := hb2.size
  have hB2 := Lib.hid (hb2.mono (Nat.le_of_lt hy))
  obtain ⟨y0, y1, y2, y3, y4, y5, y6, yf, yl⟩ := hk2.cellsY
  have x0 : w2.cell? ⟨X, 0, none⟩ = some (.string tx) := by rw [Go.Joins.cell_of_block hX2]; rfl
  have xf : ∀ o, w2.frozen? ⟨X, o, none⟩ = false := Go.Joins.unfrozen_of_block hX2
  have xl : X < w2.heap.size := by omega
  have hXg : ¬ X = g := by omega
  have hgX : ¬ g = X := by omega
  have hYg : ¬ Y = g := by omega
  have hgY : ¬ g = Y := by omega
  have hXY : ¬ X = Y := by omega
  have hYX' : ¬ Y = X := by omega
  have q0 := hW.out 0 _ hw0
  have q1 := hW.out 1 _ hw1
  have q2 := hW.out 2 _ hw2
  have hfx : Hid (∀ b', (Value.slice h.anchors.A h.anchors.n h.anchors.c).ownBlock = some b' → lo ≤ b' ∧ b' < w.heap.size) := hmk2.out.a.lt
  replace hk2 := Lib.hid hk2
  replace hX2 := Lib.hid hX2
  clear hcs hown hcell hb2 hmk hXb
  have hd2 := Lib.hid (fun W => specReadPt_any ⟨b.toArray⟩ W (by show b.length ≤ 1048576; omega))
  have hon : h.anchors.n ≤ 1048577 := by have := hk2.out.an; have := hrb.out.a; omega
  go_upto_region 11 with fail
  clear y0 y1 y2 y3 y4 y5 y6 yf x0 xf q0
  obtain ⟨w3, hw3⟩ : ∃ w3, w3 = w2 := ⟨_, rfl⟩
  have hK3 : Hid (∀ b, b < w2.heap.size → w3.heap[b]? = w2.heap[b]?) := by rw [hw3]; exact fun _ _ => rfl
  have hB3 : Hid (Below Y w w3) := by rw [hw3]; exact hB2
  have hz3 : w2.heap.size ≤ w3.heap.size := by rw [hw3]; exact Nat.le_refl _
  have q1 : w3.cell? ⟨g, 1, none⟩ = some (.string ⟨a.toArray⟩) := by rw [hw3]; exact q1
  have q2 : w3.cell? ⟨g, 2, none⟩ = some (.string ⟨b.toArray⟩) := by rw [hw3]; exact q2
  rw [← hw3]
  clear hw3 hB2 hW
  have hg3 : g < w3.heap.size := by omega
  go_wp2_with fail
  refine (hd2.out _).mono ?_
  intro e w4 hP
  obtain ⟨px, py, u, rfl, hxy, hb4⟩ := hP.get
  have q1 := (hb4.cell hg3).trans q1
  have hzB := hb4.size
  have hbb : Below w4.heap.size w4 (w4.alloc (.cells #[.int .i64 px, .int .i64 py] 102 (0, 0))) := Go.Joins.below_alloc1 _ _
  have hP5 := heap_alloc_new w4 (.cells #[.int .i64 px, .int .i64 py] 102 (0, 0))
  have hK5 : Hid (∀ b, b < w2.heap.size → (w4.alloc (.cells #[.int .i64 px, .int .i64 py] 102 (0, 0))).heap[b]? = w2.heap[b]?) := fun b hb => (hbb.block b (by omega)).trans ((hb4.block b (by omega)).trans (hK3.out b hb))
  have hB5 : Hid (Below Y w (w4.alloc (.cells #[.int .i64 px, .int .i64 py] 102 (0, 0)))) := (hB3.out.trans (hb4.mono (by omega))).trans (hbb.mono (by omega))
  have hz5 := Lib.hid (show w4.heap.size + 1 = (w4.alloc (.cells #[.int .i64 px, .int .i64 py] 102 (0, 0))).heap.size by simp)
  have q1 := (hbb.cell (show g < w4.heap.size by omega)).trans q1
  have hfin : Hid (∀ (Ls : List (List Knot)) (d0 : Gl), s.data.toList.head? ≠ some 103 → tx.data.toList = outT Ls → LineTo ⟨d.name, d.code, d.adv, Ls, d.parts, d.anchors, d.hints⟩ s.data.toList d0 → u = true ∧ (⟨d.name, d.code, d.adv, d.out, d.parts, d.anchors ++ [(⟨a.toArray⟩, px, py)], d.hints⟩ : Gl) = ⟨d0.name, d0.code, d0.adv, [], d0.parts, d0.anchors, d0.hints⟩ ∧ tx.data.toList = outT d0.out) := fun Ls d0 h1 h2 h3 => by
    obtain ⟨px', py', h5, h6, rfl⟩ := anch_is hrs.out.symm (h3.kind hc)
    obtain ⟨rfl, rfl, rfl⟩ := hxy px' py' h5 h6
    exact ⟨rfl, by rw [← hout.out], h2⟩
  clear hP hxy hb4 hbb hd2 hB3 hK3
  go_upto_region 12 with fail
  obtain ⟨B, hBe⟩ : ∃ B, B = w4.heap.size := ⟨_, rfl⟩
  rw [← hBe] at hP5 hz5 hzB ⊢
  generalize w4.alloc (.cells #[.int .i64 px, .int .i64 py] 102 (0, 0)) = w5 at *
  clear hBe
  have hBl5 : B < w5.heap.size := by have := hz5.out; omega
  have hBw : w.heap.size ≤ B := by omega
  have e0d : w5.drew.cell? ⟨B, 0, none⟩ = some (.int .i64 px) := by rw [show w5.drew.cell? ⟨B, 0, none⟩ = w5.cell? ⟨B, 0, none⟩ from rfl, Go.Joins.cell_of_block hP5]; rfl
  have e1d : w5.drew.cell? ⟨B, 1, none⟩ = some (.int .i64 py) := by rw [show w5.drew.cell? ⟨B, 1, none⟩ = w5.cell? ⟨B, 1, none⟩ from rfl, Go.Joins.cell_of_block hP5]; rfl
  have e2d : w5.drew.cell? ⟨g, 1, none⟩ = some (.string ⟨a.toArray⟩) := q1
  have hgl5 : g < w5.heap.size := by omega
  have tw1 : 1 < ws.length := twl.2.1
  have tw1i : (0 : Int) ≤ 1 ∧ (1 : Int) < (ws.length : Int) := by omega
  clear hP5 q1 q2
  have hk5 : MkG w5 Y lo d h := hk2.out.same (fun g' hg' hgl => hK5.out g' hgl) (by omega)
  have hXs5 : Hid (w5.heap[X]? = some (.cells #[.string tx] 9 (0, 0))) := (hK5.out X xl).trans hX2.out
  have y3d : w5.drew.cell? ⟨Y, 5, none⟩ = some (.slice h.anchors.A h.anchors.n h.anchors.c) := hk5.cells rfl
  have hod : Hid (w5.drew.ownsRow lo 117 3 (.slice h.anchors.A h.anchors.n h.anchors.c) h.anchors.n (d.anchors.flatMap anchC)) := hk5.a.drew
  have hzd : w5.drew.heap.size = w5.heap.size := rfl
  have hlo5 : lo ≤ w5.drew.heap.size := by omega
  have hYd : Y < w5.drew.heap.size := by omega
  replace hk5 := Lib.hid hk5
  have hafter : Hid (∀ (ob : Obj) (A7 : Option Addr) (c7 : Nat) (w7 : World), (w5.drew.alloc ob).grownBy w7 (Value.slice h.anchors.A h.anchors.n h.anchors.c).ownBlock → w7.ownsRow lo 117 3 (.slice A7 (h.anchors.n + 1) c7) (h.anchors.n + 1) (d.anchors.flatMap anchC ++ [.string ⟨a.toArray⟩, .int .i64 px, .int .i64 py]) → Hid ((w7.cell? ⟨Y, 5, none⟩ = some (.slice h.anchors.A h.anchors.n h.anchors.c) ∧ w7.cell? ⟨B, 0, none⟩ = some (.int .i64 px) ∧ w7.cell? ⟨B, 1, none⟩ = some (.int .i64 py) ∧ w7.cell? ⟨g, 1, none⟩ = some (.string ⟨a.toArray⟩)) ∧ (∀ o, w7.frozen? ⟨Y, o, none⟩ = false) ∧ Y < w7.heap.size ∧ MkG (w7.setCell ⟨Y, 5, none⟩ (.slice A7 (h.anchors.n + 1) c7)) Y lo ⟨d.name, d.code, d.adv, d.out, d.parts, d.anchors ++ [(⟨a.toArray⟩, px, py)], d.hints⟩ ⟨h.out, h.parts, ⟨A7, h.anchors.n + 1, c7⟩⟩ ∧ (w7.setCell ⟨Y, 5, none⟩ (.slice A7 (h.anchors.n + 1) c7)).heap[X]? = some (.cells #[.string tx] 9 (0, 0)) ∧ Below Y w w7)) := by
    intro ob A7 c7 w7 hg7 ho7
    have hz7 := hg7.size
    simp at hz7
    have hal : ∀ b, b < w5.heap.size → (w5.drew.alloc ob).heap[b]? = w5.heap[b]? := fun b hb => Below.heap_alloc _ _ _ hb
    have hbl : ∀ b, b < w5.heap.size → (b < lo ∨ w.heap.size ≤ b) → w7.heap[b]? = w5.heap[b]? := fun b hb hor => (hg7.block b (by simp; omega) (fun e => by have h1 := hfx.out _ e.symm; omega)).trans (hal b hb)
    have hYb : w7.heap[Y]? = w5.heap[Y]? := hbl Y (by omega) (.inl (by omega))
    have hXb7 : w7.heap[X]? = w5.heap[X]? := hbl X (by omega) (.inl hXl)
    refine ⟨⟨(World.cell?_of_block hYb).trans y3d, (World.cell?_of_block (hbl _ hBl5 (.inr hBw))).trans e0d, (World.cell?_of_block (hbl _ hBl5 (.inr hBw))).trans e1d, (World.cell?_of_block (hbl _ hgl5 (.inr hg1))).trans e2d⟩, fun o => (World.frozen?_of_block hYb).trans (Go.Joins.unfrozen_of_block hk5.out.box o), by omega, ?_, (Below.heap_setCell _ _ _ _ (by show X ≠ Y; omega)).trans (hXb7.trans hXs5.out), ?_⟩
    · exact MkG.anch (p := (⟨a.toArray⟩, px, py)) (hk5.out.same (fun g' hg' hgl => hal g' hgl) (by simp)) hg7 ho7
    · exact (hB5.out.drew.alloc (by omega) _).grown hg7 (by simp; omega) (fun b hb => by have := (hfx.out _ hb).1; omega)
  have hrb7 : Hid (RB ⟨d.name, d.code, d.adv, d.out, d.parts, d.anchors ++ [(⟨a.toArray⟩, px, py)], d.hints⟩ (i + 1)) := ⟨Nat.le_succ_of_le hrb.out.o, hrb.out.k, Nat.le_succ_of_le hrb.out.p, by simp; exact hrb.out.a, hrb.out.nm, hrb.out.hn, fun a' ha' => by rcases List.mem_append.1 ha' with h1 | h1; exact hrb.out.an a' h1; rw [List.mem_singleton.1 h1]; exact ham⟩
  clear hK5 hB5 hk2 hk5 hX2 hfx
  refine wp_region_head 12 (fun w' => w'.cell? ⟨Y, 5, none⟩ = some (.slice h.anchors.A h.anchors.n h.anchors.c) ∧ w'.cell? ⟨B, 0, none⟩ = some (.int .i64 px) ∧ w'.cell? ⟨B, 1, none⟩ = some (.int .i64 py) ∧ w'.cell? ⟨g, 1, none⟩ = some (.string ⟨a.toArray⟩)) (by kernel_rfl) (by kernel_rfl) (by exact ⟨y3d, e0d, e1d, e2d⟩) (fun hHeld => ?_)
  simp only [List.take_succ_cons, List.take_zero, List.drop_succ_cons, List.drop_zero]
  refine wpAnyH_take (i := 0) (v := ?_) ((List.getElem?_toArray).trans rfl) (by kernel_rfl) (by kernel_rfl) (by kernel_rfl) (fun _ _ _ h => h) (Or.inl ⟨by rfl, ?_⟩) (by assumption) ?_
  rotate_left
  · (intro w hSw; (try dsimp only at hSw); go_simp; (try (with_reducible rfl)))
  (try simp only [Act.put, List.setIfInBounds_toArray, List.set_cons_zero, List.set_cons_succ])
  refine wpAnyH_take (i := 1) (v := ?_) ((List.getElem?_toArray).trans rfl) (by kernel_rfl) (by kernel_rfl) (by kernel_rfl) (fun _ _ _ h => h) (Or.inl ⟨by rfl, ?_⟩) (by assumption) ?_
  rotate_left
  · (intro w hSw; (try dsimp only at hSw); go_simp; (try (with_reducible rfl)))
  (try simp only [Act.put, List.setIfInBounds_toArray, List.set_cons_zero, List.set_cons_succ])
  refine wpAnyH_take (i := 2) (v := ?_) ((List.getElem?_toArray).trans rfl) (by kernel_rfl) (by kernel_rfl) (by kernel_rfl) (fun _ _ _ h => h) (Or.inl ⟨by rfl, ?_⟩) (by assumption) ?_
  rotate_left
  · (intro w hSw; (try dsimp only at hSw); go_simp; (try (with_reducible rfl)))
  (try simp only [Act.put, List.setIfInBounds_toArray, List.set_cons_zero, List.set_cons_succ])
  refine wpAnyH_take (i := 3) (v := ?_) ((List.getElem?_toArray).trans rfl) (by kernel_rfl) (by kernel_rfl) (by kernel_rfl) (fun _ _ _ h => h) (Or.inl ⟨by rfl, ?_⟩) (by assumption) ?_
  rotate_left
  · (intro w hSw; (try dsimp only at hSw); go_simp; (try (with_reducible rfl)))
  (try simp only [Act.put, List.setIfInBounds_toArray, List.set_cons_zero, List.set_cons_succ])
  refine wpAnyH_take (i := 4) (v := ?_) ((List.getElem?_toArray).trans rfl) (by kernel_rfl) (by kernel_rfl) (by kernel_rfl) (fun _ _ _ h => h) (Or.inl ⟨by rfl, ?_⟩) (by assumption) ?_
  rotate_left
  · (intro w hSw; (try dsimp only at hSw); go_simp; (try (with_reducible rfl)))
  (try simp only [Act.put, List.setIfInBounds_toArray, List.set_cons_zero, List.set_cons_succ])
  refine wpAnyH_take (i := 5) (v := ?_) ((List.getElem?_toArray).trans rfl) (by kernel_rfl) (by kernel_rfl) (by kernel_rfl) (fun _ _ _ h => h) (Or.inl ⟨by rfl, ?_⟩) (by assumption) ?_
  rotate_left
  · (intro w hSw; (try dsimp only at hSw); go_simp; (try (with_reducible rfl)))
  (try simp only [Act.put, List.setIfInBounds_toArray, List.set_cons_zero, List.set_cons_succ])
  refine wpAnyH_take (i := 6) (v := ?_) ((List.getElem?_toArray).trans rfl) (by kernel_rfl) (by kernel_rfl) (by kernel_rfl) (fun _ _ _ h => h) (Or.inl ⟨by rfl, ?_⟩) (by assumption) ?_
  rotate_left
  · (intro w hSw; (try dsimp only at hSw); go_simp; (try (with_reducible rfl)))
  (try simp only [Act.put, List.setIfInBounds_toArray, List.set_cons_zero, List.set_cons_succ])
  refine wpAnyH_take (i := 7) (v := ?_) ((List.getElem?_toArray).trans rfl) (by kernel_rfl) (by kernel_rfl) (by kernel_rfl) (fun _ _ _ h => h) (Or.inl ⟨by rfl, ?_⟩) (by assumption) ?_
  rotate_left
  · (intro w hSw; (try dsimp only at hSw); go_simp; (try (with_reducible rfl)))
  (try simp only [Act.put, List.setIfInBounds_toArray, List.set_cons_zero, List.set_cons_succ])
  refine wpAnyH_take (i := 8) (v := ?_) ((List.getElem?_toArray).trans rfl) (by kernel_rfl) (by kernel_rfl) (by kernel_rfl) (fun _ _ _ h => h) (Or.inl ⟨by rfl, ?_⟩) (by assumption) ?_
  rotate_left
  · (intro w hSw; (try dsimp only at hSw); go_simp; (try (with_reducible rfl)))
  (try simp only [Act.put, List.setIfInBounds_toArray, List.set_cons_zero, List.set_cons_succ])
  refine wpAnyH_take (i := 9) (v := ?_) ((List.getElem?_toArray).trans rfl) (by kernel_rfl) (by kernel_rfl) (by kernel_rfl) (fun _ _ _ h => h) (Or.inl ⟨by rfl, ?_⟩) (by assumption) ?_
  rotate_left
  · (intro w hSw; (try dsimp only at hSw); go_simp; (try (with_reducible rfl)))
  (try simp only [Act.put, List.setIfInBounds_toArray, List.set_cons_zero, List.set_cons_succ])
  refine wpAnyH_ready (rs := [10]) (by kernel_rfl) (by simp) ?_
  refine AllReadyH.cons ((List.getElem?_toArray).trans rfl) (fun K0 hK0 => ?_) AllReadyH.nil
  go_simp
  refine hK0.out _ _ ?_ (fun hHeld => ?_)
  · (exact ⟨Lib.cell?_alloc_some _ y3d, Lib.cell?_alloc_some _ e0d, Lib.cell?_alloc_some _ e1d, Lib.cell?_alloc_some _ e2d⟩)
  clear hK0 K0
  (try simp only [Act.put, List.setIfInBounds_toArray, List.set_cons_zero, List.set_cons_succ])
  refine wpAnyH_ready (rs := [11]) (by kernel_rfl) (by simp) ?_
  refine AllReadyH.cons ((List.getElem?_toArray).trans rfl) (fun K0 hK0 => ?_) AllReadyH.nil
  (refine stepAppAt rfl (.tmp 97) (.tmp 103) elemAnchor rfl (v := .slice h.anchors.A h.anchors.n h.anchors.c) (n := h.anchors.n) (xs := d.anchors.flatMap anchC) rfl (hod.out.alloc _) rfl (src_at (cs := [.string ⟨a.toArray⟩, .int .i64 px, .int .i64 py]) rfl (by simp [Value.oneCell']) (by simp)) (by omega) (by omega) (by first | omega | (simp <;> omega)) (h.anchors.n + 1) rfl ?_; intro A7 c7 w7 ho7 hg7; have hk7 := hafter.out _ A7 c7 w7 hg7 ho7; have hS7 := hk7.out.1; have yf7 := hk7.out.2.1; have yl7 := hk7.out.2.2.1; clear hafter)
  refine hK0.out _ _ ?_ (fun hHeld => ?_)
  · (exact hS7)
  clear hK0 K0
  (try simp only [Act.put, List.setIfInBounds_toArray, List.set_cons_zero, List.set_cons_succ])
  refine wpAnyH_done (by kernel_rfl) ?_ _
  show wpList _ _ _ _ _ _
  all_goals
    have hd7 := hk7.out.2.2.2.2.2.setCell (p := ⟨Y, 5, none⟩) (Nat.le_refl _) (.slice A7 (h.anchors.n + 1) c7)
    have hd8 := Lib.hid hk7.out.2.2.2.1
    have hd9 := Lib.hid hk7.out.2.2.2.2.1
    replace hd7 := Lib.hid hd7
    clear hk7 hXs5
    (go_wp2_with fail; go_ret; exact ⟨⟨d.name, d.code, d.adv, d.out, d.parts, d.anchors ++ [(⟨a.toArray⟩, px, py)], d.hints⟩, _, tx, u, rfl, hd8.out, hd9.out, hrb7.out, hout.out, by omega, hfin.out, hd7.out⟩)
set_option maxHeartbeats 8000000 in
theorem gsl_hint (s tx : ByteArray) (k r : List UInt8) (w : World) (Y X lo i : Nat) (d : Gl) (h : GlH) (hc : CutTo s.data.toList k r) (hmk : MkG w Y lo d h) (hXb : w.heap[X]? = some (.cells #[.string tx] 9 (0, 0))) (hYX : Y < X) (hXl : X < lo) (hlo : lo ≤ w.heap.size) (hs : s.size ≤ 1048576) (hi : i ≤ 1048577) (hrb : RB d i) (hout : d.out = []) (ht : tx.size ≤ 1000000000000) (hk : k = kHint) (a : List UInt8) (hsp : splitF 32 s.data.toList = [k, a]) (hrs : splitF 32 r = [a]) :
    Calls Tryz.prog 71 #[.pointer (some ⟨Y, 0, none⟩), .pointer (some ⟨X, 0, none⟩), .string s] w fun e w' => GSPost Y X lo d tx i s.data.toList w e w' := by
  have hy := hmk.yb
  have hxl := (Array.getElem?_eq_some_iff.1 hXb).1
  have hsz : s.data.toList.length = s.size := by simp
  replace hmk := Lib.hid hmk
  replace hrb := Lib.hid hrb
  replace hXb := Lib.hid hXb
  replace hout := Lib.hid hout
  have hcs := Lib.hid (fun W => l01Split_any s 32 W hs)
  obtain ⟨ws, hws⟩ : ∃ ws, ws = splitF 32 s.data.toList := ⟨_, rfl⟩
  have hsl := splitF_len 32 s.data.toList
  have hsm := Lib.hid (splitF_mem 32 s.data.toList)
  have hpos : 0 < ws.length := by rw [hws]; exact List.length_pos_iff.2 (splitF_ne 32 _)
  rw [← hws] at hsl hsm hcs
  rw [hsz] at hsl
  replace hsz := Lib.hid hsz
  have hw0 : ws[0]? = some k := by rw [hws, hsp]; rfl
  have hw1 : ws[1]? = some a := by rw [hws, hsp]; rfl
  have hwl : ws.length = 2 := by rw [hws, hsp]; rfl
  have hal := hsm.out a (List.mem_of_getElem? hw1)
  have hsz' := hsz.out
  have ham : a.length ≤ 1048576 := by omega
  have t26 : ((ws.length : Int) == 2) = true := by rw [hwl]; rfl
  have twl : 0 < ws.length ∧ 1 < ws.length := by omega
  replace hwl := Lib.hid hwl
  replace hsp := Lib.hid hsp
  replace hrs := Lib.hid hrs
  have hmk2 := hmk
  subst hk
  replace hws := Lib.hid hws
  go_enter Tryz.func71, Tryz.ntmps71
  go_wp2_with fail
  refine (hcs.out _).mono ?_
  rintro e w2 ⟨A1, c1, n, hn, rfl, hown, hb2⟩
  obtain ⟨g, rfl, hg1, hg2, _, hcell, _⟩ := own_at hown (by omega)
  have hW : Hid (∀ (j : Nat) (l : List UInt8), ws[j]? = some l → w2.cell? ⟨g, j, none⟩ = some (.string ⟨l.toArray⟩)) := fun j l hj => by
    have hjl := (List.getElem?_eq_some_iff.1 hj).1
    have := hcell j (by omega)
    rw [this]
    simpa [strV] using hj
  have hk2 := hmk.out.below hb2
  have hX2 := (hb2.block X hxl).trans hXb.out
  have hz2 := hb2.size
  have hB2 := Lib.hid (hb2.mono (Nat.le_of_lt hy))
  obtain ⟨y0, y1, y2, y3, y4, y5, y6, yf, yl⟩ := hk2.cellsY
  have x0 : w2.cell? ⟨X, 0, none⟩ = some (.string tx) := by rw [Go.Joins.cell_of_block hX2]; rfl
  have xf : ∀ o, w2.frozen? ⟨X, o, none⟩ = false := Go.Joins.unfrozen_of_block hX2
  have xl : X < w2.heap.size := by omega
  have hXg : ¬ X = g := by omega
  have hgX : ¬ g = X := by omega
  have hYg : ¬ Y = g := by omega
  have hgY : ¬ g = Y := by omega
  have hXY : ¬ X = Y := by omega
  have hYX' : ¬ Y = X := by omega
  have q0 := hW.out 0 _ hw0
  have q1 := hW.out 1 _ hw1
  have hfx : Hid (∀ b', (Value.slice h.parts.A h.parts.n h.parts.c).ownBlock = some b' → lo ≤ b' ∧ b' < w.heap.size) := hmk2.out.p.lt
  replace hk2 := Lib.hid hk2
  replace hX2 := Lib.hid hX2
  clear hcs hown hcell hb2 hmk hXb
  have hd2 := Lib.hid (fun W => l17Bytes_any ⟨a.toArray⟩ W (by show a.length ≤ 1048576; omega))
  clear hfx hmk2
  go_upto_region 15 with fail
  go_wp2_with fail
  refine (hd2.out _).mono ?_
  rintro e w3 ⟨b, t, rfl, hbl, hbi, hb3⟩
  have hk3 := hk2.out.below hb3
  have hB3 := Lib.hid (hB2.out.trans (hb3.mono (Nat.le_of_lt yl)))
  have hX3 : Hid ((w3.setCell ⟨Y, 6, none⟩ (.string b)).heap[X]? = some (.cells #[.string tx] 9 (0, 0))) := (Below.heap_setCell _ _ _ _ (by show X ≠ Y; omega)).trans ((hb3.block X xl).trans hX2.out)
  clear y0 y1 y2 y3 y4 y5 y6 yf x0 xf
  obtain ⟨y0, y1, y2, y3, y4, y5, y6, yf, yl3⟩ := hk3.cellsY
  have hk4 : Hid (MkG (w3.setCell ⟨Y, 6, none⟩ (.string b)) Y lo ⟨d.name, d.code, d.adv, d.out, d.parts, d.anchors, b⟩ h) := hk3.cell rfl rfl rfl rfl
  have hbl2 : b.size ≤ 1048576 := Nat.le_trans hbl ham
  have hrb7 : Hid (RB ⟨d.name, d.code, d.adv, d.out, d.parts, d.anchors, b⟩ (i + 1)) := ⟨Nat.le_succ_of_le hrb.out.o, hrb.out.k, Nat.le_succ_of_le hrb.out.p, Nat.le_succ_of_le hrb.out.a, hrb.out.nm, hbl2, hrb.out.an⟩
  have hfin : Hid (∀ (Ls : List (List Knot)) (d0 : Gl), s.data.toList.head? ≠ some 103 → tx.data.toList = outT Ls → LineTo ⟨d.name, d.code, d.adv, Ls, d.parts, d.anchors, d.hints⟩ s.data.toList d0 → t = true ∧ (⟨d.name, d.code, d.adv, d.out, d.parts, d.anchors, b⟩ : Gl) = ⟨d0.name, d0.code, d0.adv, [], d0.parts, d0.anchors, d0.hints⟩ ∧ tx.data.toList = outT d0.out) := fun Ls d0 h1 h2 h3 => by
    obtain ⟨l, h4, rfl⟩ := (h3.kind hc).hintI
    have h5 := hrs.out
    rw [h4, splitF_last 32 _ fun c hc => (hexT_no c hc).2] at h5
    injection h5 with h5
    obtain ⟨h6, h7⟩ := hbi l.data.toList h5.symm
    have e : b = l := by rw [mk_bytes (nm := b), mk_bytes (nm := l), h7]
    subst e
    exact ⟨h6, by rw [← hout.out], h2⟩
  clear hb3 hk3 hk2 hB2 hd2 hbi hbl hW hX2 hc
  go_wp2_with fail
  go_ret
  exact ⟨_, h, tx, t, rfl, hk4.out, hX3.out, hrb7.out, hout.out, by omega, hfin.out, hB3.out.setCell (p := ⟨Y, 6, none⟩) (Nat.le_refl _) _⟩
theorem hcNo {l k r : List UInt8} (hc : CutTo l k r) (h : l = k ++ 32 :: r) : ∀ x ∈ k, x ≠ 32 := by
  rcases hc with ⟨_, h1⟩ | ⟨rfl, rfl, h1⟩
  · exact h1
  · exact h1
theorem hcNo2 {l k r : List UInt8} (hc : CutTo l k r) (h : l = k) : ∀ x ∈ k, x ≠ 32 := by
  rcases hc with ⟨h2, h1⟩ | ⟨rfl, rfl, h1⟩
  · exact h1
  · exact h1
theorem LineTo.cut {d d' : Gl} {l k r : List UInt8} (h : LineTo d l d') (hc : CutTo l k r) (hk : k ≠ endW) : l = k ++ 32 :: r := by
  obtain ⟨k0, r0, h0, h1⟩ := h
  rcases hc with ⟨rfl, h2⟩ | ⟨rfl, rfl, h2⟩
  · rfl
  · rcases h1 with ⟨_, rfl⟩ | ⟨e, rfl⟩
    · exact absurd rfl (h2 32 (by simp))
    · exact absurd e hk
theorem len_two {k r : List UInt8} {L : List (List UInt8)} (h : L = k :: splitF 32 r) (hl : L.length = 2) : ∃ a, splitF 32 r = [a] := by
  subst h; match hh : splitF 32 r, hl with | [a], _ => exact ⟨a, rfl⟩
theorem len_three {k r : List UInt8} {L : List (List UInt8)} (h : L = k :: splitF 32 r) (hl : L.length = 3) : ∃ a b, splitF 32 r = [a, b] := by
  subst h; match hh : splitF 32 r, hl with | [a, b], _ => exact ⟨a, b, rfl⟩
theorem l17Line_any (s tx : ByteArray) (w : World) (Y X lo i : Nat) (d : Gl) (h : GlH) (hmk : MkG w Y lo d h) (hXb : w.heap[X]? = some (.cells #[.string tx] 9 (0, 0))) (hYX : Y < X) (hXl : X < lo) (hlo : lo ≤ w.heap.size) (hs : s.size ≤ 1048576) (hi : i ≤ 1048577) (hrb : RB d i) (hout : d.out = []) (ht : tx.size ≤ 1000000000000) :
    Calls Tryz.prog 71 #[.pointer (some ⟨Y, 0, none⟩), .pointer (some ⟨X, 0, none⟩), .string s] w fun e w' => GSPost Y X lo d tx i s.data.toList w e w' := by
  obtain ⟨k, r, hc⟩ := cut_tot s.data.toList
  have hsz : s.data.toList.length = s.size := by simp
  have hw := cut_words hc
  by_cases h1 : k = kLoop
  · by_cases h5 : s.size ≤ 5
    · exact gsl_loopno s tx k r w Y X lo i d h hc hmk hXb hYX hXl hlo hs hi hrb hout ht h1 h5 fun Ls d0 _ h0 => by
        have h2 := h0.cut hc (by rw [h1]; decide)
        subst h1
        obtain ⟨K, h3, h4, _⟩ := (h0.kind hc).loopI
        have h6 := congrArg List.length h2
        rw [hsz] at h6
        simp [kLoop] at h6
        have h7 : r = [] := List.eq_nil_of_length_eq_zero (by omega)
        exact absurd (h4.symm.trans h7) (loopT_ne h3)
    · rcases hw with ⟨h2, _⟩ | ⟨h2, _, _⟩
      · subst h1; exact gsl_loop s tx _ r w Y X lo i d h hc hmk hXb hYX hXl hlo hs hi hrb hout ht rfl (by omega) h2
      · rw [h2, h1] at hsz
        have : kLoop.length = 4 := rfl
        omega
  by_cases h2 : k = kPart
  · by_cases h5 : (splitF 32 s.data.toList).length = 3
    · rcases hw with ⟨_, h3⟩ | ⟨_, _, h3⟩
      · obtain ⟨a, b, h4⟩ := len_three h3 h5
        exact gsl_part s tx k r w Y X lo i d h hc hmk hXb hYX hXl hlo hs hi hrb hout ht h2 a b (by rw [h3, h4]) h4
      · rw [h3] at h5; simp at h5
    · exact gsl_partno s tx k r w Y X lo i d h hc hmk hXb hYX hXl hlo hs hi hrb hout ht h2 h5 fun Ls d0 _ h0 => by
        have h3 := h0.cut hc (by rw [h2]; decide)
        subst h2
        have h4 := part_len (h0.kind hc)
        rw [h3, splitF_hit 32 _ _ (h0.kind hc).no] at h5
        simp at h5
        omega
  by_cases h3 : k = kAnch
  · by_cases h5 : (splitF 32 s.data.toList).length = 3
    · rcases hw with ⟨_, h4⟩ | ⟨_, _, h4⟩
      · obtain ⟨a, b, h6⟩ := len_three h4 h5
        exact gsl_anch s tx k r w Y X lo i d h hc hmk hXb hYX hXl hlo hs hi hrb hout ht h3 a b (by rw [h4, h6]) h6
      · rw [h4] at h5; simp at h5
    · exact gsl_anchno s tx k r w Y X lo i d h hc hmk hXb hYX hXl hlo hs hi hrb hout ht h3 h5 fun Ls d0 _ h0 => by
        have h4 := h0.cut hc (by rw [h3]; decide)
        subst h3
        have h6 := anch_len (h0.kind hc)
        rw [h4, splitF_hit 32 _ _ (h0.kind hc).no] at h5
        simp at h5
        omega
  by_cases h4 : k = kHint
  · by_cases h5 : (splitF 32 s.data.toList).length = 2
    · rcases hw with ⟨_, h6⟩ | ⟨_, _, h6⟩
      · obtain ⟨a, h7⟩ := len_two h6 h5
        exact gsl_hint s tx k r w Y X lo i d h hc hmk hXb hYX hXl hlo hs hi hrb hout ht h4 a (by rw [h6, h7]) h7
      · rw [h6] at h5; simp at h5
    · exact gsl_hintno s tx k r w Y X lo i d h hc hmk hXb hYX hXl hlo hs hi hrb hout ht h4 h5 fun Ls d0 _ h0 => by
        have h6 := h0.cut hc (by rw [h4]; decide)
        subst h4
        obtain ⟨l, h7, _⟩ := (h0.kind hc).hintI
        rw [h6, splitF_hit 32 _ _ (h0.kind hc).no, h7, splitF_last 32 _ fun c hc => (hexT_no c hc).2] at h5
        exact absurd rfl h5
  exact gsl_other s tx k r w Y X lo i d h hc hmk hXb hYX hXl hlo hs hi hrb hout ht h1 h2 h3 h4 fun Ls d0 hh h0 => by
    by_cases h5 : k = kGlyph
    · have h6 := h0.cut hc (by rw [h5]; decide)
      rw [h6, h5] at hh
      exact absurd rfl hh
    · obtain ⟨h6, h7, h8⟩ := (h0.kind hc).other h5 h1 h2 h3 h4
      refine ⟨?_, h8⟩
      obtain ⟨k0, r0, h9, h10⟩ := h0
      rcases h10 with ⟨h10, h11⟩ | ⟨h10, h11⟩
      · rcases hw with ⟨h12, _⟩ | ⟨h12, h13, _⟩
        · obtain ⟨e1, _⟩ := cut_uniq h9.no ((h9 : _).no |> fun _ => hcNo hc h12) (h11.symm.trans h12)
          exact absurd (e1.trans h6) h10
        · exact absurd rfl (hcNo2 hc h12 32 (by rw [← h12, h11]; simp))
      · rw [beq_iff_eq, ByteArray.toList_eq, h11, h10]; rfl
end Go.Proofs.YtgdkabljgabjoaaGreatDoor

