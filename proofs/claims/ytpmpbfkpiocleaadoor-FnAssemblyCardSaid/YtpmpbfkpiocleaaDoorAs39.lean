/- The reading of a line of a program, the program's side. Conditions: as each states. -/
import Derived.Test.YtpmpbfkpiocleaaDoorAs38
namespace Go.Proofs.YtpmpbfkpiocleaaDoor
open Go.RowKit
set_option linter.unusedVariables false
set_option maxRecDepth 100000

theorem split_single {b : UInt8} {r x : List UInt8} (h : splitF b r = [x]) : x = r := by
  rcases first_at b r with h1 | ⟨a, t, rfl, h1⟩
  · rw [splitF_last b r h1] at h; injection h with h _; exact h.symm
  · rw [splitF_hit b a t h1] at h
    injection h with _ h
    exact absurd h (splitF_ne b t)
set_option maxHeartbeats 8000000 in
theorem readHint_any (s : ByteArray) (w : World) (hm : MaxI w) (hs : s.size ≤ 1048576) :
    Calls Tryd.prog 26 #[.string s] w fun e w' => LinePost s w e w' := by
  have hml := hm.lt
  have hmk := Lib.hid hm
  have hx0 : HtAt (w.alloc (.cells #[.int .i64 0, .int .i64 0] 32 (0, 0))) w.heap.size 0 0 := heap_alloc_new w _
  have hB0 : Below w.heap.size w (w.alloc (.cells #[.int .i64 0, .int .i64 0] 32 (0, 0))) := Go.Joins.below_alloc1 _ _
  have hz0 : w.heap.size < (w.alloc (.cells #[.int .i64 0, .int .i64 0] 32 (0, 0))).heap.size := by simp
  clear hm
  go_enter Tryd.func26, Tryd.ntmps26
  go_wp2_with fail
  refine (cutByte_any s 32 _ hs).mono ?_
  rintro e w1 (⟨i, rfl, hi, hi2, hi3, hb1⟩ | ⟨rfl, hi3, hb1⟩)
  · have hx1 := hx0.below hb1
    have hB1 := hB0.trans (hb1.mono (by omega))
    have hz1 : w.heap.size < w1.heap.size := Nat.lt_of_lt_of_le hz0 hb1.size
    obtain ⟨wd, hwd⟩ : ∃ wd, wd = s.data.toList.take i := ⟨_, rfl⟩
    obtain ⟨r, hr⟩ : ∃ r, r = s.data.toList.drop (i + 1) := ⟨_, rfl⟩
    have hil : i < s.data.toList.length := by simpa using hi
    have hse : s.data.toList = wd ++ 32 :: r := by
      have h1 : s.data.toList[i] = 32 := by
        rw [List.getElem?_eq_getElem hil] at hi2
        exact Option.some.inj hi2
      have h2 := List.take_append_drop i s.data.toList
      rw [List.drop_eq_getElem_cons hil, h1] at h2
      rw [hwd, hr]; exact h2.symm
    have hw1 : s.extract 0 i = bytesOf wd := by
      rw [hwd, extract_mk]; rfl
    have hw2 : s.extract (i + 1) s.size = bytesOf r := by
      rw [hr, extract_mk, List.take_of_length_le (by simp)]; rfl
    have hsp : Hid (splitF 32 s.data.toList = wd :: splitF 32 r) := by
      show splitF 32 s.data.toList = _
      rw [hse, splitF_hit 32 wd r (by rw [hwd]; exact hi3)]
    have hrs : (bytesOf r).size ≤ 1048576 := by
      rw [← hw2, ByteArray.size_extract]; omega
    rw [hw1, hw2]
    have hnm := Lib.hid (fun W hm => implHintNamed_any (bytesOf wd) W hm)
    have hrd := Lib.hid (fun W => ReadDecimal_any (bytesOf r) W hrs)
    clear hwd hr hil hse hw1 hw2 hi hi2 hi3 hx0 hB0 hz0 hb1
    go_wp2_with fail
    refine (hnm.out w1 (hmk.out.kept hB1 hml)).mono ?_
    rintro e w2 ⟨code, rfl, hf, hb2⟩
    have hx2 := hx1.below hb2
    have hB2 := hB1.trans (hb2.mono hB1.size)
    have hz2 := hb2.size
    have hbc := opBytes_cases code
    have hlt := Lib.hid (line_at hsp.out hf)
    have hfH := Lib.hid hf
    clear hf hb2
    obtain ⟨W, hW⟩ : ∃ W, W = w2.alloc (.cells #[.int .i64 code, .int .i64 0] 32 (0, 0)) := ⟨_, rfl⟩
    have hxW : HtAt W w.heap.size 0 0 := hW ▸ hx2.alloc _
    have hhW : HtAt W w2.heap.size code 0 := hW ▸ heap_alloc_new w2 _
    have hBW : Below w.heap.size w W := hW ▸ hB2.alloc hB2.size _
    have hbt := Lib.hid (fun (W : World) => operandOf_any code W)
    clear hx2 hB2
    obtain ⟨x0, x1, xf, xl⟩ := hxW.cells
    obtain ⟨h0, h1, hf', hl⟩ := hhW.cells
    replace hxW := Lib.hid hxW
    replace hhW := Lib.hid hhW
    replace hBW := Lib.hid hBW
    have hne : w.heap.size ≠ w2.heap.size := by omega
    have hne2 : w2.heap.size ≠ w.heap.size := by omega
    go_wp2_with fail
    rw [← hW]
    clear hW
    refine (hbt.out W).mono ?_
    rintro e w' ⟨rfl, rfl⟩
    clear hbt
    rcases (show opBytes code = 0 ∨ ¬ opBytes code = 0 by omega) with hop | hop
    · rw [hop]
      have hno : LineR s.data.toList none := fun c' v h => by
        obtain ⟨_, _, ⟨_, h2, _⟩ | ⟨h2, _⟩⟩ := hlt.out c' v h
        · exact splitF_ne 32 r h2
        · exact h2 hop
      replace hno := Lib.hid hno
      go_wp2_with fail
      refine bodyPost_ret (v := .tuple #[hintV 0 0, .bool false]) (by simp [results, Tryd.results26, go_sem, x0, x1]) rfl ⟨none, 0, 0, hno.out, (fun p h => by cases h), rfl, ?_⟩
      exact (hBW.out.setCell (p := ⟨w.heap.size, 0, none⟩) (Nat.le_refl _) _).setCell (p := ⟨w.heap.size, 1, none⟩) (Nat.le_refl _) _
    · have hop2 : opBytes code = 1 ∨ opBytes code = 2 := by rcases hbc with h | h | h <;> omega
      have hop3 : (0 : Int) < opBytes code := by omega
      clear hop2
      go_wp2_with fail
      refine (hrd.out W).mono ?_
      rintro e w3 (⟨v, hd, rfl, hb3⟩ | ⟨hnd, rfl, hb3⟩)
      · have hrr : splitF 32 r = [r] := splitF_last 32 r (fun c hc => dec_no hd (by decide) (.inl (by decide)) c (by simpa [bytesOf] using hc))
        have hyes := Lib.hid (line_yes (v := v) hsp.out hfH.out (.inr ⟨hop, r, hrr, hd⟩))
        replace hxW := Lib.hid (hxW.out.below hb3)
        replace hhW := Lib.hid (hhW.out.below hb3)
        replace hBW := Lib.hid (hBW.out.trans (hb3.mono hBW.out.size))
        clear x0 x1 xf xl h0 h1 hf' hl hd hrr
        obtain ⟨x0, x1, xf, xl⟩ := hxW.out.cells
        obtain ⟨h0, h1, hf', hl⟩ := hhW.out.cells
        clear hb3
        go_upto_region 11 with fail
        have hhP := Lib.hid (hhW.out.put1 v)
        have hxP := Lib.hid (HtAt.off (o := 1) (v := .int .i64 v) hxW.out hne)
        have hBP := Lib.hid (hBW.out.setCell (p := ⟨w2.heap.size, 1, none⟩) (by show w.heap.size ≤ w2.heap.size; omega) (.int .i64 v))
        clear hxW hhW hBW h0 h1 hf' hl x0 x1 xf xl
        generalize w3.setCell ⟨w2.heap.size, 1, none⟩ (.int .i64 v) = w4 at *
        obtain ⟨x0, x1, xf, xl⟩ := hxP.out.cells
        obtain ⟨h0, h1, hf', hl⟩ := hhP.out.cells
        go_region_law (go_simp; go_at_call 15; refine (implValidHint_any _ _ _).mono ?_; rintro e w' ⟨rfl, hbw⟩; (first | (have hle : w.heap.size ≤ w4.drew.heap.size := (by show w.heap.size ≤ w4.heap.size; omega); have hB' : Below w.heap.size w w' := (Below.drew hBP.out).trans (hbw.mono hle); have hx' : HtAt w' w.heap.size 0 0 := HtAt.below (HtAt.drew hxP.out) hbw; have hh' : HtAt w' w2.heap.size code v := HtAt.below (HtAt.drew hhP.out) hbw) | (have hle : w.heap.size ≤ ((w4.drew.setCell ⟨w.heap.size, 0, none⟩ (.int .i64 code)).setCell ⟨w.heap.size, 1, none⟩ (.int .i64 v)).heap.size := (by simp; omega); have hB' : Below w.heap.size w w' := (((Below.drew hBP.out).setCell (p := ⟨w.heap.size, 0, none⟩) (Nat.le_refl _) _).setCell (p := ⟨w.heap.size, 1, none⟩) (Nat.le_refl _) _).trans (hbw.mono hle); have hx' : HtAt w' w.heap.size code v := HtAt.below (HtAt.put (HtAt.drew hxP.out) _ _) hbw; have hh' : HtAt w' w2.heap.size code v := HtAt.below (((HtAt.drew hhP.out).off hne2).off hne2) hbw)); obtain ⟨x0', x1', xf', xl'⟩ := hx'.cells; obtain ⟨h0', h1', hf'', hl'⟩ := hh'.cells; replace hx' := Lib.hid hx'; replace hh' := Lib.hid hh'; replace hB' := Lib.hid hB'; clear hbw hle; dsimp only)
        all_goals
          go_wp2_with fail
          refine bodyPost_ret (v := .tuple #[hintV code v, .bool (validHint code v)]) (by simp [results, Tryd.results26, go_sem, x0', x1']) rfl ?_
          refine ⟨_, code, v, hyes.out.1, hyes.out.2.1, by rw [hyes.out.2.2], ?_⟩
          first
            | with_reducible exact hB'.out
            | exact (hB'.out.setCell (p := ⟨w.heap.size, 0, none⟩) (Nat.le_refl _) _).setCell (p := ⟨w.heap.size, 1, none⟩) (Nat.le_refl _) _
      · have hno : LineR s.data.toList none := fun c' v h => by
          obtain ⟨_, _, ⟨h2, _⟩ | ⟨_, m, h2, h3⟩⟩ := hlt.out c' v h
          · exact hop h2
          · have := split_single h2; subst this; exact hnd v h3
        replace hno := Lib.hid hno
        replace hxW := Lib.hid (hxW.out.below hb3)
        replace hBW := Lib.hid (hBW.out.trans (hb3.mono hBW.out.size))
        replace hhW := Lib.hid (hhW.out.below hb3)
        clear x0 x1 xf xl h0 h1 hf' hl hnd
        obtain ⟨x0, x1, xf, xl⟩ := hxW.out.cells
        obtain ⟨h0, h1, hf', hl⟩ := hhW.out.cells
        clear hb3
        go_upto_region 9 with fail
        replace hxW := Lib.hid (HtAt.off (o := 1) (v := .int .i64 0) hxW.out hne)
        replace hBW := Lib.hid (hBW.out.setCell (p := ⟨w2.heap.size, 1, none⟩) (by show w.heap.size ≤ w2.heap.size; omega) (.int .i64 0))
        clear hhW h0 h1 hf' hl x0 x1 xf xl
        generalize w3.setCell ⟨w2.heap.size, 1, none⟩ (.int .i64 0) = w4 at *
        obtain ⟨x0, x1, xf, xl⟩ := hxW.out.cells
        go_wp2_with fail
        refine bodyPost_ret (v := .tuple #[hintV 0 0, .bool false]) (by simp [results, Tryd.results26, go_sem, x0, x1]) rfl ⟨none, 0, 0, hno.out, (fun p h => by cases h), rfl, ?_⟩
        exact (hBW.out.setCell (p := ⟨w.heap.size, 0, none⟩) (Nat.le_refl _) _).setCell (p := ⟨w.heap.size, 1, none⟩) (Nat.le_refl _) _
  · have hx1 := hx0.below hb1
    have hB1 := hB0.trans (hb1.mono (by omega))
    have hz1 : w.heap.size < w1.heap.size := Nat.lt_of_lt_of_le hz0 hb1.size
    have hsp : Hid (splitF 32 s.data.toList = s.data.toList :: []) := splitF_last 32 _ hi3
    have hnm : Hid (∀ W, MaxI W → Calls Tryd.prog 37 #[.string s] W fun e w' => ∃ r : Int, e = .returned (.int .i64 r) ∧ FirstAt htNames (bytesOf s.data.toList) r ∧ Below W.heap.size W w') := fun W hm => by
      rw [bytes_back]; exact implHintNamed_any s W hm
    clear hi3 hx0 hB0 hz0 hb1
    go_wp2_with fail
    refine (hnm.out w1 (hmk.out.kept hB1 hml)).mono ?_
    rintro e w2 ⟨code, rfl, hf, hb2⟩
    have hx2 := hx1.below hb2
    have hB2 := hB1.trans (hb2.mono hB1.size)
    have hz2 := hb2.size
    have hbc := opBytes_cases code
    have hlt := Lib.hid (line_at hsp.out hf)
    have hfH := Lib.hid hf
    clear hf hb2
    obtain ⟨W, hW⟩ : ∃ W, W = w2.alloc (.cells #[.int .i64 code, .int .i64 0] 32 (0, 0)) := ⟨_, rfl⟩
    have hxW : HtAt W w.heap.size 0 0 := hW ▸ hx2.alloc _
    have hhW : HtAt W w2.heap.size code 0 := hW ▸ heap_alloc_new w2 _
    have hBW : Below w.heap.size w W := hW ▸ hB2.alloc hB2.size _
    have hbt := Lib.hid (fun (W : World) => operandOf_any code W)
    clear hx2 hB2
    obtain ⟨x0, x1, xf, xl⟩ := hxW.cells
    obtain ⟨h0, h1, hf', hl⟩ := hhW.cells
    replace hxW := Lib.hid hxW
    replace hhW := Lib.hid hhW
    replace hBW := Lib.hid hBW
    have hne : w.heap.size ≠ w2.heap.size := by omega
    have hne2 : w2.heap.size ≠ w.heap.size := by omega
    go_wp2_with fail
    rw [← hW]
    clear hW
    refine (hbt.out W).mono ?_
    rintro e w' ⟨rfl, rfl⟩
    clear hbt
    rcases (show opBytes code = 0 ∨ ¬ opBytes code = 0 by omega) with hop | hop
    · rw [hop]
      have hyes := Lib.hid (line_yes (v := 0) hsp.out hfH.out (.inl ⟨hop, rfl, rfl⟩))
      go_upto_region 11 with fail
      go_region_law (go_simp; go_at_call 15; refine (implValidHint_any _ _ _).mono ?_; rintro e w' ⟨rfl, hbw⟩; (first | (have hle : w.heap.size ≤ W.drew.heap.size := (by show w.heap.size ≤ W.heap.size; omega); have hB' : Below w.heap.size w w' := (Below.drew hBW.out).trans (hbw.mono hle); have hx' : HtAt w' w.heap.size 0 0 := HtAt.below (HtAt.drew hxW.out) hbw; have hh' : HtAt w' w2.heap.size code 0 := HtAt.below (HtAt.drew hhW.out) hbw) | (have hle : w.heap.size ≤ ((W.drew.setCell ⟨w.heap.size, 0, none⟩ (.int .i64 code)).setCell ⟨w.heap.size, 1, none⟩ (.int .i64 0)).heap.size := (by simp; omega); have hB' : Below w.heap.size w w' := (((Below.drew hBW.out).setCell (p := ⟨w.heap.size, 0, none⟩) (Nat.le_refl _) _).setCell (p := ⟨w.heap.size, 1, none⟩) (Nat.le_refl _) _).trans (hbw.mono hle); have hx' : HtAt w' w.heap.size code 0 := HtAt.below (HtAt.put (HtAt.drew hxW.out) _ _) hbw; have hh' : HtAt w' w2.heap.size code 0 := HtAt.below (((HtAt.drew hhW.out).off hne2).off hne2) hbw)); obtain ⟨x0', x1', xf', xl'⟩ := hx'.cells; obtain ⟨h0', h1', hf'', hl'⟩ := hh'.cells; replace hx' := Lib.hid hx'; replace hh' := Lib.hid hh'; replace hB' := Lib.hid hB'; clear hbw hle; dsimp only)
      all_goals
        go_wp2_with fail
        refine bodyPost_ret (v := .tuple #[hintV code 0, .bool (validHint code 0)]) (by simp [results, Tryd.results26, go_sem, x0', x1']) rfl ?_
        refine ⟨_, code, 0, hyes.out.1, hyes.out.2.1, by rw [hyes.out.2.2], ?_⟩
        first
          | with_reducible exact hB'.out
          | exact (hB'.out.setCell (p := ⟨w.heap.size, 0, none⟩) (Nat.le_refl _) _).setCell (p := ⟨w.heap.size, 1, none⟩) (Nat.le_refl _) _
    · have hop2 : opBytes code = 1 ∨ opBytes code = 2 := by rcases hbc with h | h | h <;> omega
      have hop3 : (0 : Int) < opBytes code := by omega
      have hno : LineR s.data.toList none := fun c' v h => by
        obtain ⟨_, _, ⟨h2, _⟩ | ⟨_, m, h2, _⟩⟩ := hlt.out c' v h
        · exact hop h2
        · cases h2
      replace hno := Lib.hid hno
      clear hop2
      go_wp2_with fail
      refine bodyPost_ret (v := .tuple #[hintV 0 0, .bool false]) (by simp [results, Tryd.results26, go_sem, x0, x1]) rfl ⟨none, 0, 0, hno.out, (fun p h => by cases h), rfl, ?_⟩
      exact (hBW.out.setCell (p := ⟨w.heap.size, 0, none⟩) (Nat.le_refl _) _).setCell (p := ⟨w.heap.size, 1, none⟩) (Nat.le_refl _) _
end Go.Proofs.YtpmpbfkpiocleaaDoor

