/- Terms and linear expressions: the laws' own functions on them. Printed by mk_sct.py. Conditions: as each states. -/
import Derived.Test.YtgfbcbbcnineiaaGreatSc22
import Derived.Test.YtgfbcbbcnineiaaGreatSc24
namespace Go.Proofs.YtgfbcbbcnineiaaGreat
open Go.RowKit Go.ChangeShapes Go.WideShapes Go.Deep
set_option linter.unusedVariables false
set_option maxRecDepth 100000

theorem opens_lFrac : Opens Tryz.prog 145 (FlatR ptC) := by
  intro H enc w fuel cs x h
  obtain ⟨hl, hf⟩ := struct_fields Tryz.underlying145 h
  have hc : Tryz.prog.cellsOf 145 = 2 := by kernel_rfl
  have hb : Tryz.prog.cellsOf 2 = 1 := by kernel_rfl
  rw [hc] at hl
  match cs, hl with
  | [c0, c1], _ =>
    obtain ⟨n0, y0, h0⟩ := struct_field hf 0 2 0 1 rfl rfl rfl hb
    obtain ⟨n1, y1, h1⟩ := struct_field hf 1 2 1 1 rfl rfl rfl hb
    obtain ⟨x0, e0⟩ := opens_int Tryz.underlying2 h0
    obtain ⟨x1, e1⟩ := opens_int Tryz.underlying2 h1
    simp [FlatR] at e0 e1
    subst e0 e1
    exact ⟨(x0, x1), rfl⟩
theorem opens_lTerm : Opens Tryz.prog 201 (AndR (FlatR anchC) fun a => a.1.size ≤ maxLen) := by
  intro H enc w fuel cs x h
  obtain ⟨hl, hf⟩ := struct_fields Tryz.underlying201 h
  have hc : Tryz.prog.cellsOf 201 = 3 := by kernel_rfl
  have hp : Tryz.prog.cellsOf 145 = 2 := by kernel_rfl
  have hb : Tryz.prog.cellsOf 9 = 1 := by kernel_rfl
  rw [hc] at hl
  match cs, hl with
  | [c0, c1, c2], _ =>
    obtain ⟨n0, y0, h0⟩ := struct_field hf 0 9 0 1 rfl rfl rfl hb
    obtain ⟨n1, y1, h1⟩ := struct_field hf 1 145 1 2 rfl rfl rfl hp
    obtain ⟨x0, e0, hs0⟩ := opens_str Tryz.underlying9 h0
    obtain ⟨x1, e1⟩ := opens_lFrac h1
    simp [FlatR, ptC] at e0 e1
    obtain ⟨e2, e3⟩ := e1
    subst e0 e2 e3
    exact ⟨(x0, x1.1, x1.2), rfl, hs0⟩

theorem eqTermS_rd (A A' : Option Addr) (n c n' c' lo hi lo' hi' : Nat) (L : List Anch) (w : World) (h1 : RdS 3 (FlatR anchC) w lo hi A n L) (h2 : RdS 3 (FlatR anchC) w lo' hi' A' n' L) (hh1 : hi ≤ w.heap.size) (hh2 : hi' ≤ w.heap.size) (hn : n ≤ 100000000) :
    Calls Tryz.prog 113 #[.slice A n c, .slice A' n' c'] w fun e w' => e = .returned (.bool true) ∧ Below w.heap.size w w' := eqTermS_any A A' n c n' c' lo hi lo' hi' L w h1 h2 hh1 hh2 (by omega)

theorem szTerm_any (x0 : ByteArray) (x1 x2 left : Int) (w : World) (hs : x0.size ≤ 9223372036854775807) (h0 : 0 ≤ left) (h1 : left ≤ 1048576) :
    Calls Tryz.prog 115 #[.agg #[.string x0, .int .i64 x1, .int .i64 x2], .int .i64 left] w fun e w' => ∃ r : Int, e = .returned (.int .i64 r) ∧ (r < 0 ∨ 0 ≤ r ∧ r ≤ left) ∧ Below w.heap.size w w' := by
  by_cases h : (x0.size : Int) ≤ left
  all_goals
    go_enter Tryz.func115, Tryz.ntmps115
    go_wp2_with fail
    go_ret
    exact ⟨_, rfl, by omega, Go.Joins.below_alloc1 _ _⟩

set_option maxHeartbeats 1000000 in
theorem szTermS_any (A : Option Addr) (n c lo hi : Nat) (L : List Anch) (left : Int) (w : World) (hr : RdS 3 (FlatR anchC) w lo hi A n L) (hhi : hi ≤ w.heap.size) (hs : ∀ a ∈ L, a.1.size ≤ maxLen) (hn : n ≤ 9223372036854775807) (h0 : 0 ≤ left) (h1 : left ≤ 1048576) :
    Calls Tryz.prog 107 #[.slice A n c, .int .i64 left] w fun e w' => ∃ r : Int, e = .returned (.int .i64 r) ∧ (r < 0 ∨ 0 ≤ r ∧ r ≤ left ∧ n ≤ 1048576) ∧ Below w.heap.size w w' := by
  replace hr := Lib.hid hr
  replace hs := Lib.hid hs
  by_cases hnl : (n : Int) ≤ left
  rotate_left
  · go_enter Tryz.func107, Tryz.ntmps107
    go_wp2_with fail
    go_ret
    exact ⟨_, rfl, .inl (by omega), Below.refl _ _⟩
  go_enter Tryz.func107, Tryz.ntmps107
  go_wp2_with fail
  go_loopw [1, 5] (fun lv i wr => ∃ (k : Nat) (l : Int), i = .int .i64 k ∧ lv = .int .i64 l ∧ k ≤ n ∧ 0 ≤ l ∧ l ≤ left ∧ Below w.heap.size w wr) (fun lv i wr => n - (intOf i).toNat)
  case atStart => exact ⟨0, left - n, rfl, rfl, Nat.zero_le _, by omega, by omega, Below.refl _ _⟩
  case round =>
    obtain ⟨k, l, rfl, rfl, hk, hl0, hl, hbel⟩ := hrel
    have hl1 : l ≤ 1048576 := by omega
    by_cases hlt : k < n
    · obtain ⟨b, off, ⟨x0, x1, x2⟩, rfl, hb0, hb, hja, hcs⟩ := (hr.out.frame (good_flat _) (Below.sameB hbel hhi)).at hlt
      have q0 := hcs 0 _ rfl
      have q1 := hcs 1 _ rfl
      have q2 := hcs 2 _ rfl
      simp only [Nat.add_zero] at q0 q1 q2
      clear hcs
      have hbw : b < wr.heap.size := by have := hbel.size; omega
      have hsz : x0.size ≤ 9223372036854775807 := by have := hs.out _ (List.mem_of_getElem? hja); unfold maxLen at this; exact this
      clear hja
      go_wp2_with fail
      refine (szTerm_any x0 x1 x2 l _ hsz hl0 hl1).mono ?_
      rintro e w1 ⟨r, rfl, hrr, hb1⟩
      have hbel1 := hbel.trans (hb1.mono hbel.size)
      rcases hrr with hrr | ⟨hr0, hrl⟩
      · go_wp2_with fail
        go_ret
        exact ⟨_, rfl, .inl (by omega), hbel1⟩
      · go_wp2_with fail
        go_roundw
        case rel => exact ⟨k + 1, r, by go_num, rfl, by omega, hr0, by omega, hbel1⟩
        case measure => simp [intOf]; omega
    · go_wp2_with fail
      go_ret
      exact ⟨_, rfl, .inr ⟨hl0, hl, by omega⟩, hbel⟩


theorem heap_two (w : World) (a b : Obj) : ((w.alloc a).alloc b).heap[w.heap.size]? = some a ∧ ((w.alloc a).alloc b).heap[w.heap.size + 1]? = some b := by
  have h1 := heap_alloc_new w a
  have h2 := heap_alloc_new (w.alloc a) b
  have s1 : (w.alloc a).heap.size = w.heap.size + 1 := by simp
  rw [s1] at h2
  exact ⟨(Below.heap_alloc _ b _ (by omega)).trans h1, h2⟩
abbrev linV (a b : Int) (A : Option Addr) (n c : Nat) : Value := .agg #[.int .i64 a, .int .i64 b, .slice A n c]
theorem szLinear_any (a b : Int) (A : Option Addr) (n c lo hi : Nat) (L : List Anch) (left : Int) (w : World) (hr : RdS 3 (FlatR anchC) w lo hi A n L) (hhi : hi ≤ w.heap.size) (hs : ∀ a ∈ L, a.1.size ≤ maxLen) (hn : n ≤ 9223372036854775807) (h0 : 0 ≤ left) (h1 : left ≤ 1048576) :
    Calls Tryz.prog 99 #[linV a b A n c, .int .i64 left] w fun e w' => ∃ r : Int, e = .returned (.int .i64 r) ∧ (r < 0 ∨ 0 ≤ r ∧ r ≤ left ∧ n ≤ 1048576) ∧ Below w.heap.size w w' := by
  have hc := Lib.hid (fun o => szTermS_any A n c lo hi L left (w.alloc o) (hr.frame (good_flat _) (SameB.alloc (SameB.refl _ _ _) hhi _)) (by simp; omega) hs hn h0 h1)
  clear hr hs
  go_enter Tryz.func99, Tryz.ntmps99
  go_wp2_with fail
  refine (hc.out _).mono ?_
  rintro e w1 ⟨r, rfl, hl, hb1⟩
  have hB := (Go.Joins.below_alloc1 _ _).trans (hb1.mono (by simp))
  rcases hl with hl | ⟨hl0, hl1, hl2⟩
  · go_wp2_with fail
    go_ret
    exact ⟨_, rfl, .inl (by omega), hB⟩
  · go_wp2_with fail
    go_ret
    exact ⟨_, rfl, .inr ⟨hl0, hl1, hl2⟩, hB⟩

set_option maxHeartbeats 4000000 in
theorem toLinear_rd (a b : Int) (A : Option Addr) (n c lo hi : Nat) (L : List Anch) (w : World) (hr : RdS 3 (FlatR anchC) w lo hi A n L) (hhi : hi ≤ w.heap.size) (hn : n ≤ 1048576) :
    Calls Tryz.prog 101 #[linV a b A n c] w fun e w' => ∃ A' c', e = .returned (linV a b A' n c') ∧ RdS 3 (FlatR anchC) w' w.heap.size w'.heap.size A' n L ∧ Below w.heap.size w w' := by
  replace hr := Lib.hid hr
  go_enter Tryz.func101, Tryz.ntmps101
  go_wp2_with fail
  refine (toFrac_any a b _).mono ?_
  rintro e w1 ⟨rfl, hb1⟩
  have hnew := heap_new0 w (.cells #[.int .i64 a, .int .i64 b, .slice A n c] 148 (0, 0)) (.cells #[.int .i64 0, .int .i64 0, .slice none 0 0] 115 (0, 0)) (.cells #[.int .i64 0, .int .i64 0, .slice none 0 0] 115 (0, 0))
  have HX1 : Hid (w1.heap[w.heap.size]? = some (.cells #[.int .i64 a, .int .i64 b, .slice A n c] 148 (0, 0))) := (hb1.block _ (by simp <;> omega)).trans hnew.1
  have HR1 : Hid (w1.heap[w.heap.size + 1]? = some (.cells #[.int .i64 0, .int .i64 0, .slice none 0 0] 115 (0, 0))) := (hb1.block _ (by simp <;> omega)).trans hnew.2.1
  have HO1 : Hid (w1.heap[w.heap.size + 2]? = some (.cells #[.int .i64 0, .int .i64 0, .slice none 0 0] 115 (0, 0))) := (hb1.block _ (by simp <;> omega)).trans hnew.2.2
  clear hnew
  have hz1 := hb1.size
  simp at hz1
  have hB1 : Below w.heap.size w w1 := ((((Below.refl _ _).alloc (Nat.le_refl _) _).alloc (by simp) _).alloc (by simp <;> omega) _).trans (hb1.mono (by simp <;> omega))
  have cx2 : w1.cell? ⟨w.heap.size, 2, none⟩ = some (.slice A n c) := by rw [Go.Joins.cell_of_block HX1.out]; rfl
  have co0 : w1.cell? ⟨w.heap.size + 2, 0, none⟩ = some (.int .i64 0) := by rw [Go.Joins.cell_of_block HO1.out]; rfl
  have co1 : w1.cell? ⟨w.heap.size + 2, 1, none⟩ = some (.int .i64 0) := by rw [Go.Joins.cell_of_block HO1.out]; rfl
  have fo : ∀ o, w1.frozen? ⟨w.heap.size + 2, o, none⟩ = false := Go.Joins.unfrozen_of_block HO1.out
  clear hb1
  go_wp2_with fail
  have hB1' : Below w.heap.size w ((w1.setCell ⟨w.heap.size + 2, 0, none⟩ (.int .i64 a)).setCell ⟨w.heap.size + 2, 1, none⟩ (.int .i64 b)) := (hB1.setCell (by simp <;> omega) _).setCell (by simp <;> omega) _
  refine (toTermS_any A n c lo hi L _ (hr.out.frame (good_flat _) (Below.sameB hB1' hhi)) (by simp <;> omega) hn).mono ?_
  rintro e w2 ⟨g, rfl, hg, ho, hb2⟩
  have hz2 := hb2.size
  simp at hz2 hg
  have HO2 : Hid (w2.heap[w.heap.size + 2]? = _) := Lib.hid ((hb2.block _ (by simp <;> omega)).trans (Go.Joins.block_setCell (Go.Joins.block_setCell HO1.out (.int .i64 a)) (.int .i64 b)))
  have HR2 : Hid (w2.heap[w.heap.size + 1]? = some (.cells #[.int .i64 0, .int .i64 0, .slice none 0 0] 115 (0, 0))) := (hb2.block _ (by simp <;> omega)).trans ((Below.heap_setCell _ _ _ _ (by simp <;> omega)).trans ((Below.heap_setCell _ _ _ _ (by simp <;> omega)).trans HR1.out))
  have hB2 := hB1'.trans (hb2.mono (by simp <;> omega))
  have d0 : w2.cell? ⟨w.heap.size + 2, 0, none⟩ = some (.int .i64 a) := by rw [Go.Joins.cell_of_block HO2.out]; rfl
  have d1 : w2.cell? ⟨w.heap.size + 2, 1, none⟩ = some (.int .i64 b) := by rw [Go.Joins.cell_of_block HO2.out]; rfl
  have d2 : w2.cell? ⟨w.heap.size + 2, 2, none⟩ = some (.slice none 0 0) := by rw [Go.Joins.cell_of_block HO2.out]; rfl
  have cr0 : w2.cell? ⟨w.heap.size + 1, 0, none⟩ = some (.int .i64 0) := by rw [Go.Joins.cell_of_block HR2.out]; rfl
  have cr1 : w2.cell? ⟨w.heap.size + 1, 1, none⟩ = some (.int .i64 0) := by rw [Go.Joins.cell_of_block HR2.out]; rfl
  have cr2 : w2.cell? ⟨w.heap.size + 1, 2, none⟩ = some (.slice none 0 0) := by rw [Go.Joins.cell_of_block HR2.out]; rfl
  have fo2 : ∀ o, w2.frozen? ⟨w.heap.size + 2, o, none⟩ = false := Go.Joins.unfrozen_of_block HO2.out
  have fr2 : ∀ o, w2.frozen? ⟨w.heap.size + 1, o, none⟩ = false := Go.Joins.unfrozen_of_block HR2.out
  have rd := Lib.hid (RdS.wide (good_flat _) (rdS_own anchC_len (by omega) ho hr.out.1) (lo' := w.heap.size + 3) (hi' := w2.heap.size) (by simp <;> omega) (Nat.le_refl _))
  clear ho hg hb2 fo cx2 co0 co1 HX1 HR1 HO1 HO2 HR2 hB1 hB1'
  go_wp2_with fail
  have hfin : ∀ W', SameB (w.heap.size + 3) w2.heap.size w2 W' → w2.heap.size ≤ W'.heap.size → RdS 3 (FlatR anchC) W' w.heap.size W'.heap.size (some ⟨g, 0, none⟩) n L := fun W' hs hz => (rd.out.frame (good_flat _) hs).wide (good_flat _) (by omega) hz
  refine bodyPost_ret (v := linV a b (some ⟨g, 0, none⟩) n n) (by simp [results, Tryz.results101, go_sem, cr0, cr1, cr2]) rfl ⟨some ⟨g, 0, none⟩, n, rfl, hfin _ ?_ (by simp), by repeat (first | refine Below.setCell ?_ (by simp <;> omega) _ | exact hB2)⟩
  repeat (first | refine SameB.setCell ?_ (.inl (by simp <;> omega)) _ | exact SameB.refl _ _ _)

set_option maxHeartbeats 2000000 in
theorem eqLinear_any (a b : Int) (A A' : Option Addr) (n c n' c' lo hi lo' hi' : Nat) (L : List Anch) (w : World) (h1 : RdS 3 (FlatR anchC) w lo hi A n L) (h2 : RdS 3 (FlatR anchC) w lo' hi' A' n' L) (hh1 : hi ≤ w.heap.size) (hh2 : hi' ≤ w.heap.size) (hn : n ≤ 100000000) :
    Calls Tryz.prog 104 #[linV a b A n c, linV a b A' n' c'] w fun e w' => e = .returned (.bool true) ∧ Below w.heap.size w w' := by
  replace h1 := Lib.hid h1
  replace h2 := Lib.hid h2
  go_enter Tryz.func104, Tryz.ntmps104
  go_wp2_with fail
  refine (eqFrac_any a b _).mono ?_
  rintro e w1 ⟨rfl, hb1⟩
  have hnew := heap_two w (.cells #[.int .i64 a, .int .i64 b, .slice A n c] 115 (0, 0)) (.cells #[.int .i64 a, .int .i64 b, .slice A' n' c'] 115 (0, 0))
  have HX1 := Lib.hid ((hb1.block w.heap.size (by simp <;> omega)).trans hnew.1)
  have HY1 := Lib.hid ((hb1.block (w.heap.size + 1) (by simp <;> omega)).trans hnew.2)
  have hz1 := hb1.size
  simp at hz1
  have hB1 : Below w.heap.size w w1 := (((Below.refl _ _).alloc (Nat.le_refl _) _).alloc (by simp) _).trans (hb1.mono (by simp <;> omega))
  have cx : w1.cell? ⟨w.heap.size, 2, none⟩ = some (.slice A n c) := by rw [Go.Joins.cell_of_block HX1.out]; rfl
  have cy : w1.cell? ⟨w.heap.size + 1, 2, none⟩ = some (.slice A' n' c') := by rw [Go.Joins.cell_of_block HY1.out]; rfl
  clear hnew hb1
  go_wp2_with fail
  refine (eqTermS_rd A A' n c n' c' lo hi lo' hi' L _ (h1.out.frame (good_flat _) (Below.sameB hB1 hh1)) (h2.out.frame (good_flat _) (Below.sameB hB1 hh2)) (by omega) (by omega) hn).mono ?_
  rintro e w2 ⟨rfl, hb2⟩
  go_wp2_with fail
  go_ret
  exact ⟨rfl, hB1.trans (hb2.mono (by omega))⟩
end Go.Proofs.YtgfbcbbcnineiaaGreat

