/- The reading of a point's text: the walks. Conditions: as each states. -/
import Derived.Test.YtgdkabljgabjoaaGreatDoorRa19
namespace Go.Proofs.YtgdkabljgabjoaaGreatDoor
open Go.RowKit
set_option linter.unusedVariables false
set_option maxRecDepth 100000
set_option maxRecDepth 100000

theorem specReadDecimal_any (s : ByteArray) (w : World) (hs : s.size ≤ 1048576) :
    Calls Tryz.prog 144 #[.string s] w fun e w' => RDPost s w e w' := by
  go_enter Tryz.func144, Tryz.ntmps144
  go_wp2_with fail
  refine (l01Number_any s _ hs).mono ?_
  rintro e w1 (⟨n, hn, rfl, hb⟩ | ⟨hn, rfl, hb⟩)
  · replace hn := Lib.hid hn
    go_wp2_with fail
    go_ret2
    exact .inl ⟨n, hn.out, rfl, hb⟩
  · replace hn := Lib.hid hn
    go_wp2_with fail
    go_ret2
    exact .inr ⟨hn.out, rfl, hb⟩
set_option maxHeartbeats 8000000 in
theorem specReadPt_any (s : ByteArray) (w : World) (hs : s.size ≤ 1048576) :
    Calls Tryz.prog 112 #[.string s] w fun e w' => PTPost s w e w' := by
  have hB0 : Below w.heap.size w (w.alloc (.cells #[.int .i64 0, .int .i64 0] 102 (0, 0))) := Go.Joins.below_alloc1 _ _
  have hx0 := heap_alloc_new w (.cells #[.int .i64 0, .int .i64 0] 102 (0, 0))
  have hz0 : w.heap.size < (w.alloc (.cells #[.int .i64 0, .int .i64 0] 102 (0, 0))).heap.size := by simp
  have hcs := Lib.hid (fun W => l01Split_any s 44 W hs)
  replace hx0 := Lib.hid hx0
  replace hB0 := Lib.hid hB0
  go_enter Tryz.func112, Tryz.ntmps112
  go_upto_region 1 with fail
  generalize w.alloc (.cells #[.int .i64 0, .int .i64 0] 102 (0, 0)) = w0 at *
  go_wp2_with fail
  refine (hcs.out _).mono ?_
  rintro e w1 ⟨A, c, n, hn, rfl, hown, hb1⟩
  have hx1 := (hb1.block _ hz0).trans hx0.out
  have hB1 := hB0.out.trans (hb1.mono (Nat.le_of_lt hz0))
  have hz1 : w.heap.size < w1.heap.size := Nat.lt_of_lt_of_le hz0 hb1.size
  have r0 : w1.cell? ⟨w.heap.size, 0, none⟩ = some (.int .i64 0) := by rw [Go.Joins.cell_of_block hx1]; rfl
  have r1 : w1.cell? ⟨w.heap.size, 1, none⟩ = some (.int .i64 0) := by rw [Go.Joins.cell_of_block hx1]; rfl
  have rf : ∀ o, w1.frozen? ⟨w.heap.size, o, none⟩ = false := Go.Joins.unfrozen_of_block hx1
  clear hcs hx0 hB0 hz0 hb1
  obtain ⟨ps, hp⟩ : ∃ ps, ps = splitF 44 s.data.toList := ⟨_, rfl⟩
  by_cases hn2 : ps.length = 2
  rotate_left
  · have hno := Lib.hid (pt_split (l := s.data.toList) (by rw [← hp]; exact hn2))
    rw [← hp] at hn
    have t1 : ((n : Int) != 2) = true := by simp; omega
    replace hB1 := Lib.hid hB1
    clear hn hp hown hx1 hn2
    go_wp2_with fail
    refine bodyPost_ret (v := .tuple #[.agg #[.int .i64 0, .int .i64 0], .bool false]) (by simp [results, Tryz.results112, go_sem, r0, r1]) rfl (.inr ⟨hno.out, rfl, ?_⟩)
    exact (hB1.out.setCell (p := ⟨w.heap.size, 0, none⟩) (Nat.le_refl _) _).setCell (p := ⟨w.heap.size, 1, none⟩) (Nat.le_refl _) _
  obtain ⟨a, b, rfl⟩ : ∃ a b, ps = [a, b] := by match ps, hn2 with | [a, b], _ => exact ⟨a, b, rfl⟩
  obtain ⟨hse, ha44⟩ := split_pair hp.symm
  rw [← hp] at hn hown
  obtain rfl : n = 2 := hn
  obtain ⟨g, rfl, hg1, hg2, _, hcell, _⟩ := own_at hown (by omega)
  have q0 : w1.cell? ⟨g, 0, none⟩ = some (.string ⟨a.toArray⟩) := hcell 0 (by omega)
  have q1 : w1.cell? ⟨g, 1, none⟩ = some (.string ⟨b.toArray⟩) := hcell 1 (by omega)
  have hlen : s.size = a.length + b.length + 1 := by
    have := congrArg List.length hse
    simp at this
    omega
  have hA := Lib.hid (fun W => specReadDecimal_any ⟨a.toArray⟩ W (by show a.length ≤ 1048576; omega))
  have hBd := Lib.hid (fun W => specReadDecimal_any ⟨b.toArray⟩ W (by show b.length ≤ 1048576; omega))
  have hgl : g < w1.heap.size := hg2
  replace hse := Lib.hid hse
  replace ha44 := Lib.hid ha44
  replace hB1 := Lib.hid hB1
  replace hx1 := Lib.hid hx1
  clear hown hcell hp hn2 hg1 hg2 hlen
  go_wp2_with fail
  refine (hA.out _).mono ?_
  intro e w2 hA2
  obtain ⟨x, t, rfl, hxt, hb2⟩ : ∃ (x : Int) (t : Bool), e = .returned (.tuple #[.int .i64 x, .bool t]) ∧ (t = true ∧ IsDec ⟨a.toArray⟩ x ∨ t = false ∧ ∀ n, ¬ IsDec ⟨a.toArray⟩ n) ∧ Below w1.heap.size w1 w2 := by
    rcases hA2 with ⟨x, h1, rfl, hb⟩ | ⟨h1, rfl, hb⟩
    · exact ⟨x, true, rfl, .inl ⟨rfl, h1⟩, hb⟩
    · exact ⟨0, false, rfl, .inr ⟨rfl, h1⟩, hb⟩
  clear hA2 hA
  have q1 : w2.cell? ⟨g, 1, none⟩ = some (.string ⟨b.toArray⟩) := (hb2.cell hgl).trans q1
  have hx2 := Lib.hid ((hb2.block _ hz1).trans hx1.out)
  have hB2 := Lib.hid (hB1.out.trans (hb2.mono (Nat.le_of_lt hz1)))
  have hz2 : w.heap.size < w2.heap.size := Nat.lt_of_lt_of_le hz1 hb2.size
  have hgl2 : g < w2.heap.size := Nat.lt_of_lt_of_le hgl hb2.size
  replace hxt := Lib.hid hxt
  clear hb2 hx1 hB1
  go_wp2_with fail
  refine (hBd.out _).mono ?_
  intro e w3 hA3
  obtain ⟨y, t2, rfl, hyt, hb3⟩ : ∃ (y : Int) (t2 : Bool), e = .returned (.tuple #[.int .i64 y, .bool t2]) ∧ (t2 = true ∧ IsDec ⟨b.toArray⟩ y ∨ t2 = false ∧ ∀ n, ¬ IsDec ⟨b.toArray⟩ n) ∧ Below w2.heap.size w2 w3 := by
    rcases hA3 with ⟨x, h1, rfl, hb⟩ | ⟨h1, rfl, hb⟩
    · exact ⟨x, true, rfl, .inl ⟨rfl, h1⟩, hb⟩
    · exact ⟨0, false, rfl, .inr ⟨rfl, h1⟩, hb⟩
  clear hA3 hBd
  have hx3 := (hb3.block _ hz2).trans hx2.out
  have hB3 := Lib.hid (hB2.out.trans (hb3.mono (Nat.le_of_lt hz2)))
  have hz3 : w.heap.size < w3.heap.size := Nat.lt_of_lt_of_le hz2 hb3.size
  have r0 : w3.cell? ⟨w.heap.size, 0, none⟩ = some (.int .i64 0) := by rw [Go.Joins.cell_of_block hx3]; rfl
  have r1 : w3.cell? ⟨w.heap.size, 1, none⟩ = some (.int .i64 0) := by rw [Go.Joins.cell_of_block hx3]; rfl
  have rf : ∀ o, w3.frozen? ⟨w.heap.size, o, none⟩ = false := Go.Joins.unfrozen_of_block hx3
  have hB4 := Lib.hid (hB3.out.alloc (Nat.le_of_lt hz3) (.cells #[.int .i64 x, .int .i64 y] 102 (0, 0)))
  have hbb : Below w3.heap.size w3 (w3.alloc (.cells #[.int .i64 x, .int .i64 y] 102 (0, 0))) := Go.Joins.below_alloc1 _ _
  have hx4 := (hbb.block _ hz3).trans hx3
  have hP4 := heap_alloc_new w3 (.cells #[.int .i64 x, .int .i64 y] 102 (0, 0))
  have hz4 : w.heap.size < (w3.alloc (.cells #[.int .i64 x, .int .i64 y] 102 (0, 0))).heap.size := Nat.lt_of_lt_of_le hz3 hbb.size
  have hz5 : w3.heap.size < (w3.alloc (.cells #[.int .i64 x, .int .i64 y] 102 (0, 0))).heap.size := by simp
  replace hx4 := Lib.hid hx4
  replace hP4 := Lib.hid hP4
  replace hyt := Lib.hid hyt
  clear hb3 hx2 hB2 hx3 hB3 hgl hgl2 hz1 hz2 hbb r0 r1 rf
  go_upto_region 7 with fail
  generalize w3.alloc (.cells #[.int .i64 x, .int .i64 y] 102 (0, 0)) = w4 at *
  have r0 : w4.cell? ⟨w.heap.size, 0, none⟩ = some (.int .i64 0) := by rw [Go.Joins.cell_of_block hx4.out]; rfl
  have r1 : w4.cell? ⟨w.heap.size, 1, none⟩ = some (.int .i64 0) := by rw [Go.Joins.cell_of_block hx4.out]; rfl
  have rf : ∀ o, w4.frozen? ⟨w.heap.size, o, none⟩ = false := Go.Joins.unfrozen_of_block hx4.out
  have p0 : w4.cell? ⟨w3.heap.size, 0, none⟩ = some (.int .i64 x) := by rw [Go.Joins.cell_of_block hP4.out]; rfl
  have p1 : w4.cell? ⟨w3.heap.size, 1, none⟩ = some (.int .i64 y) := by rw [Go.Joins.cell_of_block hP4.out]; rfl
  have hfin : ∀ W : World, Below w.heap.size w W → ∀ u v : Value, Below w.heap.size w ((W.setCell ⟨w.heap.size, 0, none⟩ u).setCell ⟨w.heap.size, 1, none⟩ v) := fun W h u v => (h.setCell (p := ⟨w.heap.size, 0, none⟩) (Nat.le_refl _) _).setCell (p := ⟨w.heap.size, 1, none⟩) (Nat.le_refl _) _
  have hkO := Lib.hid (fun W => l03Ok_any x y W)
  replace hfin := Lib.hid hfin
  rcases hxt.out with ⟨rfl, hX⟩ | ⟨rfl, hX⟩
  rotate_left
  · have hno : Hid (∀ x y, ptOk x y = true → s.data.toList ≠ ptT x y) := by show ∀ x y, ptOk x y = true → s.data.toList ≠ ptT x y; rw [hse.out]; exact pt_noA ha44.out hX
    clear hX hxt
    go_wp2_with fail
    exact bodyPost_ret (v := .tuple #[.agg #[.int .i64 0, .int .i64 0], .bool false]) (by simp [results, Tryz.results112, go_sem, r0, r1]) rfl (.inr ⟨hno.out, rfl, hfin.out _ hB4.out _ _⟩)
  rcases hyt.out with ⟨rfl, hY⟩ | ⟨rfl, hY⟩
  rotate_left
  · have hno : Hid (∀ x y, ptOk x y = true → s.data.toList ≠ ptT x y) := by show ∀ x y, ptOk x y = true → s.data.toList ≠ ptT x y; rw [hse.out]; exact pt_noB ha44.out hY
    clear hX hY hxt hyt
    go_wp2_with fail
    exact bodyPost_ret (v := .tuple #[.agg #[.int .i64 0, .int .i64 0], .bool false]) (by simp [results, Tryz.results112, go_sem, r0, r1]) rfl (.inr ⟨hno.out, rfl, hfin.out _ hB4.out _ _⟩)
  replace hX := Lib.hid hX
  replace hY := Lib.hid hY
  clear hxt hyt
  go_wp2_with fail
  refine (hkO.out _).mono ?_
  rintro e w5 ⟨rfl, hb5⟩
  have hx5 := (hb5.block _ hz4).trans hx4.out
  have hP5 := (hb5.block _ hz5).trans hP4.out
  have r0 : w5.cell? ⟨w.heap.size, 0, none⟩ = some (.int .i64 0) := by rw [Go.Joins.cell_of_block hx5]; rfl
  have r1 : w5.cell? ⟨w.heap.size, 1, none⟩ = some (.int .i64 0) := by rw [Go.Joins.cell_of_block hx5]; rfl
  have rf : ∀ o, w5.frozen? ⟨w.heap.size, o, none⟩ = false := Go.Joins.unfrozen_of_block hx5
  have p0 : w5.cell? ⟨w3.heap.size, 0, none⟩ = some (.int .i64 x) := by rw [Go.Joins.cell_of_block hP5]; rfl
  have p1 : w5.cell? ⟨w3.heap.size, 1, none⟩ = some (.int .i64 y) := by rw [Go.Joins.cell_of_block hP5]; rfl
  have hz6 : w.heap.size < w5.heap.size := Nat.lt_of_lt_of_le hz4 hb5.size
  have hB5 := Lib.hid (hB4.out.trans (hb5.mono (Nat.le_of_lt hz4)))
  have hn3 : ¬ w3.heap.size = w.heap.size := by omega
  clear hb5 hx5 hP5 hx4 hP4
  cases hk : ptOk x y
  · have hno : Hid (∀ x y, ptOk x y = true → s.data.toList ≠ ptT x y) := by show ∀ x y, ptOk x y = true → s.data.toList ≠ ptT x y; rw [hse.out]; exact pt_noK ha44.out hX.out hY.out hk
    replace hk := Lib.hid hk
    go_wp2_with fail
    exact bodyPost_ret (v := .tuple #[.agg #[.int .i64 0, .int .i64 0], .bool false]) (by simp [results, Tryz.results112, go_sem, r0, r1]) rfl (.inr ⟨hno.out, rfl, hfin.out _ hB5.out _ _⟩)
  · replace hk := Lib.hid hk
    go_wp2_with fail
    exact bodyPost_ret (v := .tuple #[.agg #[.int .i64 x, .int .i64 y], .bool true]) (by simp [results, Tryz.results112, go_sem, r0, r1]) rfl (.inl ⟨x, y, hse.out.trans (pt_yes hX.out hY.out), hk.out, rfl, hfin.out _ hB5.out _ _⟩)
end Go.Proofs.YtgdkabljgabjoaaGreatDoor

/- The reading of a point's text: the program's walk. Conditions: as each states. -/
namespace Go.Proofs.YtgdkabljgabjoaaGreatDoor
open Go.RowKit
set_option linter.unusedVariables false
set_option maxRecDepth 100000
set_option maxRecDepth 100000

theorem rd_form {s : ByteArray} {w w2 : World} {e : Ending} (h : RDPost s w e w2) : ∃ (x : Int) (t : Bool), e = .returned (.tuple #[.int .i64 x, .bool t]) ∧ (t = true ∧ IsDec s x ∨ t = false ∧ ∀ n, ¬ IsDec s n) ∧ Below w.heap.size w w2 := by
  rcases h with ⟨x, h1, rfl, hb⟩ | ⟨h1, rfl, hb⟩
  · exact ⟨x, true, rfl, .inl ⟨rfl, h1⟩, hb⟩
  · exact ⟨0, false, rfl, .inr ⟨rfl, h1⟩, hb⟩
theorem pt_two {w : World} {B x y : Nat} {u v : Int} {t : TypeId} (h : w.heap[B]? = some (.cells #[.int .i64 u, .int .i64 v] t (0, 0))) : w.cell? ⟨B, 0, none⟩ = some (.int .i64 u) ∧ w.cell? ⟨B, 1, none⟩ = some (.int .i64 v) ∧ (∀ o, w.frozen? ⟨B, o, none⟩ = false) ∧ B < w.heap.size :=
  ⟨by rw [Go.Joins.cell_of_block h]; rfl, by rw [Go.Joins.cell_of_block h]; rfl, Go.Joins.unfrozen_of_block h, (Array.getElem?_eq_some_iff.1 h).1⟩

set_option maxHeartbeats 8000000 in
theorem implReadPt_any (s : ByteArray) (w : World) (hs : s.size ≤ 1048576) :
    Calls Tryz.prog 80 #[.string s] w fun e w' => PTPost s w e w' := by
  have hB0 : Below w.heap.size w (w.alloc (.cells #[.int .i64 0, .int .i64 0] 102 (0, 0))) := Go.Joins.below_alloc1 _ _
  have hx0 := heap_alloc_new w (.cells #[.int .i64 0, .int .i64 0] 102 (0, 0))
  have hz0 : w.heap.size < (w.alloc (.cells #[.int .i64 0, .int .i64 0] 102 (0, 0))).heap.size := by simp
  have hcs := Lib.hid (fun W => cutByte_any s 44 W hs)
  have hfin : ∀ W : World, Below w.heap.size w W → ∀ u v : Value, Below w.heap.size w ((W.setCell ⟨w.heap.size, 0, none⟩ u).setCell ⟨w.heap.size, 1, none⟩ v) := fun W h u v => (h.setCell (p := ⟨w.heap.size, 0, none⟩) (Nat.le_refl _) _).setCell (p := ⟨w.heap.size, 1, none⟩) (Nat.le_refl _) _
  replace hfin := Lib.hid hfin
  replace hx0 := Lib.hid hx0
  replace hB0 := Lib.hid hB0
  go_enter Tryz.func80, Tryz.ntmps80
  go_upto_region 1 with fail
  generalize w.alloc (.cells #[.int .i64 0, .int .i64 0] 102 (0, 0)) = w0 at *
  go_wp2_with fail
  refine (hcs.out _).mono ?_
  rintro e w1 (⟨i, rfl, hi, hi2, hi3, hb1⟩ | ⟨rfl, hi3, hb1⟩)
  rotate_left
  · have hno := Lib.hid (pt_no44 hi3)
    have hx1 := (hb1.block _ hz0).trans hx0.out
    obtain ⟨r0, r1, rf, rl⟩ := pt_two (x := 0) (y := 0) hx1
    have hB1 := Lib.hid (hB0.out.trans (hb1.mono (Nat.le_of_lt hz0)))
    clear hb1 hx1 hi3 hx0 hB0
    go_wp2_with fail
    exact bodyPost_ret (v := .tuple #[.agg #[.int .i64 0, .int .i64 0], .bool false]) (by simp [results, Tryz.results80, go_sem, r0, r1]) rfl (.inr ⟨hno.out, rfl, hfin.out _ hB1.out _ _⟩)
  obtain ⟨a, ha⟩ : ∃ a, a = s.data.toList.take i := ⟨_, rfl⟩
  obtain ⟨b, hb⟩ : ∃ b, b = s.data.toList.drop (i + 1) := ⟨_, rfl⟩
  have hil : i < s.data.toList.length := by simpa using hi
  have hse : s.data.toList = a ++ 44 :: b := by
    have h1 : s.data.toList[i] = 44 := by
      rw [List.getElem?_eq_getElem hil] at hi2
      exact Option.some.inj hi2
    have h2 := List.take_append_drop i s.data.toList
    rw [List.drop_eq_getElem_cons hil, h1] at h2
    rw [ha, hb]; exact h2.symm
  have hw1 : s.extract 0 i = ⟨a.toArray⟩ := by rw [ha, extract_mk]; rfl
  have hw2 : s.extract (i + 1) s.size = ⟨b.toArray⟩ := by rw [hb, extract_mk, List.take_of_length_le (by simp)]
  have ha44 : ∀ x ∈ a, x ≠ 44 := by rw [ha]; exact hi3
  have hlen : s.size = a.length + b.length + 1 := by
    have := congrArg List.length hse
    simp at this
    omega
  have hA := Lib.hid (fun W => ReadDecimal_any ⟨a.toArray⟩ W (by show a.length ≤ 1048576; omega))
  have hBd := Lib.hid (fun W => ReadDecimal_any ⟨b.toArray⟩ W (by show b.length ≤ 1048576; omega))
  have hx1 := (hb1.block _ hz0).trans hx0.out
  have hB1 := hB0.out.trans (hb1.mono (Nat.le_of_lt hz0))
  have hz1 : w.heap.size < w1.heap.size := Nat.lt_of_lt_of_le hz0 hb1.size
  have hbb : Below w1.heap.size w1 (w1.alloc (.cells #[.int .i64 0, .int .i64 0] 102 (0, 0))) := Go.Joins.below_alloc1 _ _
  have hx2 := Lib.hid ((hbb.block _ hz1).trans hx1)
  have hP2 := Lib.hid (heap_alloc_new w1 (.cells #[.int .i64 0, .int .i64 0] 102 (0, 0)))
  have hB2 := Lib.hid (hB1.trans (hbb.mono (Nat.le_of_lt hz1)))
  replace hse := Lib.hid hse
  replace ha44 := Lib.hid ha44
  rw [hw1, hw2]
  clear hw1 hw2 ha hb hil hlen hi hi2 hi3 hcs hx0 hB0 hz0 hb1 hx1 hB1 hbb
  go_upto_region 5 with fail
  generalize w1.alloc (.cells #[.int .i64 0, .int .i64 0] 102 (0, 0)) = w2 at *
  obtain ⟨X, hX⟩ : ∃ X, X = w1.heap.size := ⟨_, rfl⟩
  rw [← hX] at hP2 hz1 ⊢
  clear hX
  go_wp2_with fail
  refine (hA.out _).mono ?_
  intro e w3 hA2
  obtain ⟨x, t, rfl, hxt, hb3⟩ := rd_form hA2
  have hx3 := (hb3.block _ (pt_two (x := 0) (y := 0) hx2.out).2.2.2).trans hx2.out
  have hP3 := (hb3.block _ (pt_two (x := 0) (y := 0) hP2.out).2.2.2).trans hP2.out
  obtain ⟨r0, r1, rf, rl⟩ := pt_two (x := 0) (y := 0) hx3
  obtain ⟨p0, p1, pf, pl⟩ := pt_two (x := 0) (y := 0) hP3
  have hB3 := Lib.hid (hB2.out.trans (hb3.mono (hB2.out.size)))
  replace hx3 := Lib.hid hx3
  replace hP3 := Lib.hid hP3
  have hne : ¬ X = w.heap.size := by omega
  have hne2 : ¬ w.heap.size = X := by omega
  clear hA2 hA hb3 hx2 hP2 hB2
  rcases hxt with ⟨rfl, hX⟩ | ⟨rfl, hX⟩
  rotate_left
  · have hno : Hid (∀ x y, ptOk x y = true → s.data.toList ≠ ptT x y) := by show ∀ x y, ptOk x y = true → s.data.toList ≠ ptT x y; rw [hse.out]; exact pt_noA ha44.out hX
    clear hX
    go_wp2_with fail
    exact bodyPost_ret (v := .tuple #[.agg #[.int .i64 0, .int .i64 0], .bool false]) (by simp [results, Tryz.results80, go_sem, r0, r1]) rfl (.inr ⟨hno.out, rfl, hfin.out _ (hB3.out.setCell (p := ⟨X, 0, none⟩) (Nat.le_of_lt hz1) _) _ _⟩)
  replace hX := Lib.hid hX
  have hP4 := Lib.hid (Go.Joins.block_setCell hP3.out (i := 0) (.int .i64 x))
  have hx4 := Lib.hid ((Below.heap_setCell w3 ⟨X, 0, none⟩ (.int .i64 x) w.heap.size (by simp only; omega)).trans hx3.out)
  have hB4 := Lib.hid (hB3.out.setCell (p := ⟨X, 0, none⟩) (Nat.le_of_lt hz1) (.int .i64 x))
  clear hP3 hx3 hB3
  go_upto_region 8 with fail
  generalize w3.setCell ⟨X, 0, none⟩ (.int .i64 x) = w4 at *
  go_wp2_with fail
  refine (hBd.out _).mono ?_
  intro e w5 hA5
  obtain ⟨y, t2, rfl, hyt, hb5⟩ := rd_form hA5
  have hl4 : w.heap.size < w4.heap.size := (Array.getElem?_eq_some_iff.1 hx4.out).1
  have hX4 : X < w4.heap.size := (Array.getElem?_eq_some_iff.1 hP4.out).1
  have hx5 := (hb5.block _ hl4).trans hx4.out
  have hP5 : w5.heap[X]? = some (.cells #[.int .i64 x, .int .i64 0] 102 (0, 0)) := (hb5.block _ hX4).trans hP4.out
  obtain ⟨r0, r1, rf, rl⟩ := pt_two (x := 0) (y := 0) hx5
  obtain ⟨p0, p1, pf, pl⟩ := pt_two (x := 0) (y := 0) hP5
  have hB5 := Lib.hid (hB4.out.trans (hb5.mono hB4.out.size))
  have hfin5 : ∀ u v z : Value, Below w.heap.size w (((w5.setCell ⟨X, 1, none⟩ z).setCell ⟨w.heap.size, 0, none⟩ u).setCell ⟨w.heap.size, 1, none⟩ v) := fun u v z => hfin.out _ (hB5.out.setCell (p := ⟨X, 1, none⟩) (Nat.le_of_lt hz1) _) _ _
  replace hfin5 := Lib.hid hfin5
  have hP6 := Lib.hid (Go.Joins.block_setCell hP5 (i := 1) (.int .i64 y))
  have hx6 := Lib.hid ((Below.heap_setCell w5 ⟨X, 1, none⟩ (.int .i64 y) w.heap.size (by simp only; omega)).trans hx5)
  have hB6 := Lib.hid (hB5.out.setCell (p := ⟨X, 1, none⟩) (Nat.le_of_lt hz1) (.int .i64 y))
  have hkO := Lib.hid (fun W => validPt_any x y W)
  clear hA5 hBd hb5 hx4 hP4 hB4 hx5 hP5 hB5 hl4 hX4
  rcases hyt with ⟨rfl, hY⟩ | ⟨rfl, hY⟩
  rotate_left
  · have hno : Hid (∀ x y, ptOk x y = true → s.data.toList ≠ ptT x y) := by show ∀ x y, ptOk x y = true → s.data.toList ≠ ptT x y; rw [hse.out]; exact pt_noB ha44.out hY
    clear hY
    go_wp2_with fail
    exact bodyPost_ret (v := .tuple #[.agg #[.int .i64 0, .int .i64 0], .bool false]) (by simp [results, Tryz.results80, go_sem, r0, r1]) rfl (.inr ⟨hno.out, rfl, hfin5.out _ _ _⟩)
  replace hY := Lib.hid hY
  clear hfin5
  go_upto_region 9 with fail
  generalize w5.setCell ⟨X, 1, none⟩ (.int .i64 y) = w6 at *
  obtain ⟨r0, r1, rf, rl⟩ := pt_two (x := 0) (y := 0) hx6.out
  obtain ⟨p0, p1, pf, pl⟩ := pt_two (u := x) (v := y) (x := 0) (y := 0) hP6.out
  go_wp2_with fail
  refine (hkO.out _).mono ?_
  rintro e w7 ⟨rfl, hb7⟩
  have hx7 := (hb7.block _ rl).trans hx6.out
  have hP7 : w7.heap[X]? = some (.cells #[.int .i64 x, .int .i64 y] 102 (0, 0)) := (hb7.block _ pl).trans hP6.out
  obtain ⟨r0, r1, rf, rl⟩ := pt_two (x := 0) (y := 0) hx7
  obtain ⟨p0, p1, pf, pl⟩ := pt_two (x := 0) (y := 0) hP7
  have hB7 := Lib.hid (hB6.out.trans (hb7.mono hB6.out.size))
  clear hb7 hx7 hP7 hx6 hP6 hB6 hkO
  cases hk : ptOk x y
  · have hno : Hid (∀ x y, ptOk x y = true → s.data.toList ≠ ptT x y) := by show ∀ x y, ptOk x y = true → s.data.toList ≠ ptT x y; rw [hse.out]; exact pt_noK ha44.out hX.out hY.out hk
    replace hk := Lib.hid hk
    go_wp2_with fail
    exact bodyPost_ret (v := .tuple #[.agg #[.int .i64 0, .int .i64 0], .bool false]) (by simp [results, Tryz.results80, go_sem, r0, r1]) rfl (.inr ⟨hno.out, rfl, hfin.out _ hB7.out _ _⟩)
  · replace hk := Lib.hid hk
    go_wp2_with fail
    exact bodyPost_ret (v := .tuple #[.agg #[.int .i64 x, .int .i64 y], .bool true]) (by simp [results, Tryz.results80, go_sem, r0, r1]) rfl (.inl ⟨x, y, hse.out.trans (pt_yes hX.out hY.out), hk.out, rfl, hfin.out _ hB7.out _ _⟩)
end Go.Proofs.YtgdkabljgabjoaaGreatDoor

