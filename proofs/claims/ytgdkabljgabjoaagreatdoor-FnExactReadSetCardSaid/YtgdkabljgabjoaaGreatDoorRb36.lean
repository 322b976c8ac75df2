/- An outline's text read, the reference's side. Conditions: as each states. -/
import Derived.Test.YtgdkabljgabjoaaGreatDoorRb35
namespace Go.Proofs.YtgdkabljgabjoaaGreatDoor
open Go.RowKit
set_option linter.unusedVariables false
set_option maxRecDepth 100000
set_option maxRecDepth 100000

/-- what reading an outline comes to -/
def ROPost (s : ByteArray) (w : World) (e : Ending) (w' : World) : Prop :=
  ∃ (Ls : List (List Knot)) (A : Option Addr) (n c : Nat) (t : Bool), e = .returned (.tuple #[.agg #[.slice A n c], .bool t]) ∧ OutOwn w' w.heap.size A n c Ls ∧ (t = true ∧ outOk Ls = true ∨ t = false ∧ Ls = []) ∧ (∀ Ls0, outOk Ls0 = true → s.data.toList = outT Ls0 → t = true ∧ Ls = Ls0) ∧ Below w.heap.size w w'
theorem outTo_own {w : World} {lo n co : Nat} {Ao : Option Addr} {ys : List Value} {Ls : List (List Knot)} (h : OutTo w lo Ao n co ys Ls) (hl : Ls.length = n) : OutOwn w lo Ao n co Ls := by
  obtain ⟨h1, h2, h3⟩ := h
  exact ⟨ys, hl, h1, fun j K hj => h2 j K (by have := (List.getElem?_eq_some_iff.1 hj).1; omega) hj, h3⟩
theorem outTo_base {w : World} {lo lo' k co : Nat} {Ao : Option Addr} {ys : List Value} {Ls : List (List Knot)} (h : OutTo w lo Ao k co ys Ls) (hl : lo' ≤ lo) : OutTo w lo' Ao k co ys Ls :=
  ⟨own_lower h.1 hl, fun j K hj hK => by obtain ⟨Aj, cj, h4, h5⟩ := h.2.1 j K hj hK; exact ⟨Aj, cj, h4, own_lower h5 hl⟩, h.2.2⟩
theorem outOwn_nil (w : World) (lo : Nat) : OutOwn w lo none 0 0 [] := ⟨[], rfl, World.ownsRow_nil _ _ _ _, fun j K hj => (by simp at hj), fun i j u v _ hu => (by simp at hu)⟩
theorem ro_no {s : ByteArray} {w w' : World} (hno : ∀ Ls0, outOk Ls0 = true → s.data.toList ≠ outT Ls0) (hb : Below w.heap.size w w') : ROPost s w (.returned (.tuple #[.agg #[.slice none 0 0], .bool false])) w' :=
  ⟨[], none, 0, 0, false, rfl, outOwn_nil _ _, .inr ⟨rfl, rfl⟩, fun Ls0 h1 h2 => absurd h2 (hno Ls0 h1), hb⟩
set_option maxHeartbeats 8000000 in
theorem specReadOutline_any (s : ByteArray) (w : World) (hs : s.size ≤ 1048576) :
    Calls Tryz.prog 72 #[.string s] w fun e w' => ROPost s w e w' := by
  have hB0 : Below w.heap.size w (w.alloc (.cells #[.slice none 0 0] 24 (0, 0))) := Go.Joins.below_alloc1 _ _
  have hR0 := Lib.hid (heap_alloc_new w (.cells #[.slice none 0 0] 24 (0, 0)))
  have hz0 : w.heap.size < (w.alloc (.cells #[.slice none 0 0] 24 (0, 0))).heap.size := by simp
  have hcs := Lib.hid (fun W => l01Split_any s 10 W hs)
  have hsm := Lib.hid (splitF_mem 10 s.data.toList)
  have hsz : s.data.toList.length = s.size := by simp
  replace hB0 := Lib.hid hB0
  go_enter Tryz.func72, Tryz.ntmps72
  go_upto_region 1 with fail
  generalize w.alloc (.cells #[.slice none 0 0] 24 (0, 0)) = w0 at *
  obtain ⟨ws, hws⟩ : ∃ ws, ws = splitF 10 s.data.toList := ⟨_, rfl⟩
  have hpos : 0 < ws.length := by rw [hws]; exact List.length_pos_iff.2 (splitF_ne 10 _)
  rw [← hws] at hcs hsm
  have hof : Hid (∀ Ls0, outOk Ls0 = true → s.data.toList = outT Ls0 → ws = Ls0.map loopT ++ [[]] ∧ Ls0.length ≤ 12 ∧ ∀ K ∈ Ls0, loopOk K = true) := fun Ls0 h1 h2 => ⟨by rw [hws, h2]; exact outT_split Ls0, outOk_is h1⟩
  replace hws := Lib.hid hws
  replace hsz := Lib.hid hsz
  go_wp2_with fail
  refine (hcs.out _).mono ?_
  rintro e w1 ⟨A1, c1, n, hn, rfl, hown, hb1⟩
  obtain ⟨g, rfl, hg1, hg2, _, hcell, _⟩ := own_at hown (by omega)
  have hW : Hid (∀ (j : Nat) (l : List UInt8), ws[j]? = some l → w1.cell? ⟨g, j, none⟩ = some (.string ⟨l.toArray⟩)) := fun j l hj => by
    have hjl := (List.getElem?_eq_some_iff.1 hj).1
    have := hcell j (by omega)
    rw [this]
    simpa [strV] using hj
  have hR1 := (hb1.block _ hz0).trans hR0.out
  have hB1 := hB0.out.trans (hb1.mono (Nat.le_of_lt hz0))
  have hz1 : w.heap.size < w1.heap.size := Nat.lt_of_lt_of_le hz0 hb1.size
  have hbb : Below w1.heap.size w1 (w1.alloc (.cells #[.slice none 0 0] 24 (0, 0))) := Go.Joins.below_alloc1 _ _
  have hR2 := Lib.hid ((hbb.block _ hz1).trans hR1)
  have hX2 := Lib.hid (heap_alloc_new w1 (.cells #[.slice none 0 0] 24 (0, 0)))
  have hG2 := Lib.hid (hbb.block g hg2)
  have hB2 := Lib.hid (hB1.trans (hbb.mono (Nat.le_of_lt hz1)))
  have hz2 : w1.heap.size + 1 ≤ (w1.alloc (.cells #[.slice none 0 0] 24 (0, 0))).heap.size := by simp
  have hne : n - 1 + 1 = n := by omega
  obtain ⟨m, hm⟩ : ∃ m, n = m + 1 := ⟨n - 1, by omega⟩
  obtain ⟨l0, hl0⟩ : ∃ l, ws[m]? = some l := ⟨_, List.getElem?_eq_getElem (by omega)⟩
  have q0 := (World.cell?_of_block hG2.out).trans (hW.out m l0 hl0)
  have hlast : Hid (∀ Ls0, outOk Ls0 = true → s.data.toList = outT Ls0 → n = Ls0.length + 1 ∧ l0 = [] ∧ Ls0.length ≤ 12) := fun Ls0 h1 h2 => by
    obtain ⟨h3, h4, _⟩ := hof.out Ls0 h1 h2
    have h5 : n = Ls0.length + 1 := by rw [hn, h3]; simp
    have h6 : m = Ls0.length := by omega
    rw [h3, List.getElem?_append_right (by simp; omega), h6] at hl0
    simp at hl0
    exact ⟨h5, hl0, h4⟩
  subst hm
  replace hn := Lib.hid hn
  replace hl0 := Lib.hid hl0
  have hmi : (0 : Int) ≤ (m : Int) ∧ (m : Int) < ((m + 1 : Nat) : Int) := by omega
  clear hcs hR0 hB0 hz0 hown hcell hb1 hR1 hB1 hbb hne hpos
  go_upto_region 3 with fail
  generalize w1.alloc (.cells #[.slice none 0 0] 24 (0, 0)) = w2 at *
  have r0 : w2.cell? ⟨w.heap.size, 0, none⟩ = some (.slice none 0 0) := by rw [Go.Joins.cell_of_block hR2.out]; rfl
  have rf : ∀ o, w2.frozen? ⟨w.heap.size, o, none⟩ = false := Go.Joins.unfrozen_of_block hR2.out
  have hwl : w.heap.size < w2.heap.size := by omega
  have hgl2 : g < w2.heap.size := by omega
  by_cases h13 : 13 < m + 1
  · have t1 : (13 : Int) < ((m + 1 : Nat) : Int) := by omega
    have hno : Hid (∀ Ls0, outOk Ls0 = true → s.data.toList ≠ outT Ls0) := fun Ls0 h1 h2 => by
      obtain ⟨h3, _, h4⟩ := hlast.out Ls0 h1 h2
      omega
    clear hlast hof q0 hmi
    go_wp2_with fail
    exact bodyPost_ret (v := .tuple #[.agg #[.slice none 0 0], .bool false]) (by simp [results, Tryz.results72, go_sem, r0]) rfl (ro_no hno.out (hB2.out.setCell (p := ⟨w.heap.size, 0, none⟩) (Nat.le_refl _) _))
  have t1 : ¬ (13 : Int) < ((m + 1 : Nat) : Int) := by omega
  by_cases hl00 : l0 = []
  rotate_left
  · have t2 : (l0 == []) = false := by rw [beq_eq_false_iff_ne]; exact hl00
    have hno : Hid (∀ Ls0, outOk Ls0 = true → s.data.toList ≠ outT Ls0) := fun Ls0 h1 h2 => by
      obtain ⟨_, h3, _⟩ := hlast.out Ls0 h1 h2
      exact hl00 h3
    clear hlast hof hl00
    go_wp2_with fail
    exact bodyPost_ret (v := .tuple #[.agg #[.slice none 0 0], .bool false]) (by simp [results, Tryz.results72, go_sem, r0]) rfl (ro_no hno.out (hB2.out.setCell (p := ⟨w.heap.size, 0, none⟩) (Nat.le_refl _) _))
  subst hl00
  have hm12 : m ≤ 12 := by omega
  obtain ⟨X, hX⟩ : ∃ X, X = w1.heap.size := ⟨_, rfl⟩
  rw [← hX] at hX2 hz1 hg2 hz2 ⊢
  replace hX := Lib.hid hX
  clear h13
  go_wp2_with fail
  clear q0 r0 rf
  have hXl2 : X < w2.heap.size := by omega
  go_loopw [6] (fun iv wr => ∃ (i : Nat) (Ls : List (List Knot)) (A : Option Addr) (c : Nat) (ys : List Value), iv = .int .i64 i ∧ i ≤ m ∧ Ls.length = i ∧ (∀ K ∈ Ls, K.length ≤ 1048577) ∧ wr.heap[X]? = some (.cells #[.slice A i c] 24 (0, 0)) ∧ OutTo wr (X + 1) A i c ys Ls ∧ wr.heap[g]? = w1.heap[g]? ∧ wr.heap[w.heap.size]? = some (.cells #[.slice none 0 0] 24 (0, 0)) ∧ (∀ Ls0, outOk Ls0 = true → s.data.toList = outT Ls0 → Ls = Ls0.take i) ∧ X + 1 ≤ wr.heap.size ∧ Below w.heap.size w wr) (fun iv wr => m - (intOf iv).toNat)
  case atStart => exact ⟨0, [], none, 0, [], rfl, Nat.zero_le _, rfl, fun K hK => (by cases hK), hX2.out, ⟨World.ownsRow_nil _ _ _ _, fun j K hj => absurd hj (Nat.not_lt_zero j), fun i j u v _ hu => (by simp at hu)⟩, hG2.out, hR2.out, fun Ls0 _ _ => by simp, hz2, hB2.out⟩
  case round =>
    clear hR2 hX2 hG2 hB2 hz2 hwl hgl2 hXl2
    obtain ⟨i, Ls, A, c, ys, rfl, hi, hLl, hLk, hXr, hto, hgr, hRr, hinv, hzr, hbel⟩ := hrel
    have hXl : X < wr.heap.size := by omega
    have hgl : g < wr.heap.size := by omega
    have hwl : w.heap.size < wr.heap.size := by omega
    have x0 : wr.cell? ⟨X, 0, none⟩ = some (.slice A i c) := by rw [Go.Joins.cell_of_block hXr]; rfl
    have xf : ∀ o, wr.frozen? ⟨X, o, none⟩ = false := Go.Joins.unfrozen_of_block hXr
    have r0 : wr.cell? ⟨w.heap.size, 0, none⟩ = some (.slice none 0 0) := by rw [Go.Joins.cell_of_block hRr]; rfl
    have rf : ∀ o, wr.frozen? ⟨w.heap.size, o, none⟩ = false := Go.Joins.unfrozen_of_block hRr
    replace hXr := Lib.hid hXr
    replace hRr := Lib.hid hRr
    replace hgr := Lib.hid hgr
    replace hto := Lib.hid hto
    replace hLl := Lib.hid hLl
    replace hinv := Lib.hid hinv
    by_cases hlt : i < m
    · have hti : (i : Int) + 1 < ((m + 1 : Nat) : Int) := by omega
      have hti0 : (0 : Int) ≤ (i : Int) ∧ (i : Int) < ((m + 1 : Nat) : Int) := by omega
      obtain ⟨l, hl⟩ : ∃ l, ws[i]? = some l := ⟨_, List.getElem?_eq_getElem (by have := hn.out; omega)⟩
      have q0 : wr.cell? ⟨g, i, none⟩ = some (.string ⟨l.toArray⟩) := (World.cell?_of_block hgr.out).trans (hW.out i l hl)
      have hll : l.length ≤ 1048576 := by
        have h1 := hsm.out l (List.mem_of_getElem? hl)
        have h2 := hsz.out
        omega
      have hcl := Lib.hid (l10Line_any ⟨l.toArray⟩ wr (by show l.length ≤ 1048576; omega))
      have hlin : Hid (∀ Ls0, outOk Ls0 = true → s.data.toList = outT Ls0 → ∃ K0, Ls0[i]? = some K0 ∧ l = loopT K0 ∧ loopOk K0 = true) := fun Ls0 h1 h2 => by
        obtain ⟨h3, h4, h5⟩ := hof.out Ls0 h1 h2
        obtain ⟨h6, _, _⟩ := hlast.out Ls0 h1 h2
        rw [h3, List.getElem?_append_left (by simp; omega), List.getElem?_map] at hl
        cases hk : Ls0[i]? with
        | none => rw [hk] at hl; cases hl
        | some K0 => rw [hk] at hl; injection hl with hl; exact ⟨K0, rfl, hl.symm, h5 K0 (List.mem_of_getElem? hk)⟩
      replace hl := Lib.hid hl
      go_wp2_with fail
      refine hcl.out.mono ?_
      rintro e w3 ⟨K, A2, c2, t, rfl, hown, hKl, hKi, hb3⟩
      have hz3 := hb3.size
      replace hKl : K.length ≤ 1048577 := Nat.le_trans hKl (by show l.length + 1 ≤ 1048577; omega)
      have x0 : w3.cell? ⟨X, 0, none⟩ = some (.slice A i c) := (hb3.cell hXl).trans x0
      have r0 : w3.cell? ⟨w.heap.size, 0, none⟩ = some (.slice none 0 0) := (hb3.cell hwl).trans r0
      have hbb : Below w3.heap.size w3 (w3.alloc (.cells #[.slice A2 K.length c2] 113 (0, 0))) := Go.Joins.below_alloc1 _ _
      have x4 := (hbb.cell (show X < w3.heap.size by omega)).trans x0
      have r4 := (hbb.cell (show w.heap.size < w3.heap.size by omega)).trans r0
      have hK4 : Hid (∀ b, b < wr.heap.size → (w3.alloc (.cells #[.slice A2 K.length c2] 113 (0, 0))).heap[b]? = wr.heap[b]?) := fun b hb => (hbb.block b (by omega)).trans (hb3.block b hb)
      have xf4 : ∀ o, (w3.alloc (.cells #[.slice A2 K.length c2] 113 (0, 0))).frozen? ⟨X, o, none⟩ = false := fun o => (World.frozen?_of_block (hK4.out X hXl)).trans (xf o)
      have rf4 : ∀ o, (w3.alloc (.cells #[.slice A2 K.length c2] 113 (0, 0))).frozen? ⟨w.heap.size, o, none⟩ = false := fun o => (World.frozen?_of_block (hK4.out _ hwl)).trans (rf o)
      have hP4 := heap_alloc_new w3 (.cells #[.slice A2 K.length c2] 113 (0, 0))
      have p0 : (w3.alloc (.cells #[.slice A2 K.length c2] 113 (0, 0))).cell? ⟨w3.heap.size, 0, none⟩ = some (.slice A2 K.length c2) := by rw [Go.Joins.cell_of_block hP4]; rfl
      have hB4 := Lib.hid ((hbel.trans (hb3.mono hbel.size)).trans (hbb.mono (by omega)))
      have hz4 : w3.heap.size + 1 ≤ (w3.alloc (.cells #[.slice A2 K.length c2] 113 (0, 0))).heap.size := by simp
      have hown4 := Lib.hid (own_same hown fun b hb => hbb.block b (hown.lt b hb).2)
      have hto4 := Lib.hid (mg_outS hto.out fun b _ hb => hK4.out b hb)
      have hst : Hid (∀ Ls0, outOk Ls0 = true → s.data.toList = outT Ls0 → t = true ∧ Ls ++ [K] = Ls0.take (i + 1)) := fun Ls0 h1 h2 => by
        obtain ⟨K0, h3, h4, h5⟩ := hlin.out Ls0 h1 h2
        obtain ⟨h6, rfl⟩ := hKi K0 (loopOk_parts h5).1 (loopOk_parts h5).2.1 h4
        refine ⟨h6, ?_⟩
        rw [hinv.out Ls0 h1 h2]
        exact (take_next h3).symm
      clear hP4 hbb hb3 xf rf hcl hlin hKi hown
      go_upto_region 9 with fail
      generalize w3.alloc (.cells #[.slice A2 K.length c2] 113 (0, 0)) = w4 at *
      cases t
      · have hno : Hid (∀ Ls0, outOk Ls0 = true → s.data.toList ≠ outT Ls0) := fun Ls0 h1 h2 => by
          have := (hst.out Ls0 h1 h2).1
          first | exact this.elim | cases this
        clear hst
        go_wp2_with fail
        exact bodyPost_ret (v := .tuple #[.agg #[.slice none 0 0], .bool false]) (by simp [results, Tryz.results72, go_sem, r4]) rfl (ro_no hno.out (hB4.out.setCell (p := ⟨w.heap.size, 0, none⟩) (Nat.le_refl _) _))
      · have hob : Hid (∀ b, (Value.slice A i c).ownBlock = some b → X + 1 ≤ b ∧ b < wr.heap.size) := hto.out.1.lt
        go_wp2_with (at_builtin; refine wpAppAt rfl (.tmp 44) (.tmp 46) elemLoop rfl (v := .slice A i c) (n := i) (xs := ys) rfl (hto4.out.1.alloc _) rfl (src_at (cs := [.slice A2 K.length c2]) rfl (by simp [Value.oneCell']) (by simp)) (by omega) (by omega) (by simp; omega) (i + 1) rfl ?_; intro A5 c5 w5 ho5 hg5 _; have hk5 : ∀ b, b < w4.heap.size → (b ≤ X ∨ wr.heap.size ≤ b) → w5.heap[b]? = w4.heap[b]? := (fun b hb hor => (hg5.block b (by simp; omega) (fun e => by have := hob.out b e.symm; omega)).trans (Below.heap_alloc _ _ _ hb)); have x5 : w5.cell? ⟨X, 0, none⟩ = some (.slice A i c) := (World.cell?_of_block (hk5 X (by omega) (.inl (Nat.le_refl _)))).trans x4; have f5 : ∀ o, w5.frozen? ⟨X, o, none⟩ = false := (fun o => (World.frozen?_of_block (hk5 X (by omega) (.inl (Nat.le_refl _)))).trans (xf4 o)); have hg5z := hg5.size; replace hk5 := Lib.hid hk5; replace ho5 := Lib.hid ho5; replace hg5 := Lib.hid hg5)
        go_roundw
        case rel =>
          have hz5 : w4.heap.size + 1 ≤ w5.heap.size := by simpa using hg5z
          have hnx := OutTo.nextM hto.out hLl.out (fun b _ hb => (Below.heap_alloc w4 _ _ (by omega)).trans (hK4.out b hb)) (by simp; omega) (hown4.out.alloc _) (Nat.le_refl _) hzr ho5.out hg5.out
          refine ⟨i + 1, Ls ++ [K], A5, c5, _, by go_num, by omega, by simp [hLl.out], fun K' hK' => ?_, Go.Joins.block_setCell ((hk5.out X (by omega) (.inl (Nat.le_refl _))).trans ((hK4.out X hXl).trans hXr.out)) _, hnx.set (Nat.lt_succ_self _) _, ?_, ?_, fun Ls0 h1 h2 => (hst.out Ls0 h1 h2).2, by simp; omega, ?_⟩
          · rcases List.mem_append.1 hK' with h1 | h1
            · exact hLk K' h1
            · rw [List.mem_singleton.1 h1]; exact hKl
          · exact (Below.heap_setCell _ _ _ _ (by show g ≠ X; omega)).trans ((hk5.out g (by omega) (.inl (by omega))).trans ((hK4.out g hgl).trans hgr.out))
          · exact (Below.heap_setCell _ _ _ _ (by show w.heap.size ≠ X; omega)).trans ((hk5.out _ (by omega) (.inl (by omega))).trans ((hK4.out _ hwl).trans hRr.out))
          · exact ((hB4.out.alloc (by omega) _).grown hg5.out (by simp; omega) (fun b hb => by have := (hob.out b hb).1; omega)).setCell (p := ⟨X, 0, none⟩) (by show w.heap.size ≤ X; omega) _
        case measure => simp [intOf]; omega
    · have hin : i = m := by omega
      have hti : ¬ (i : Int) + 1 < ((m + 1 : Nat) : Int) := by omega
      have hfin : Hid (∀ Ls0, outOk Ls0 = true → s.data.toList = outT Ls0 → Ls = Ls0) := fun Ls0 h1 h2 => by
        obtain ⟨h3, _, _⟩ := hlast.out Ls0 h1 h2
        rw [hinv.out Ls0 h1 h2, List.take_of_length_le (by omega)]
      have hoo : OutOwn wr (X + 1) A i c Ls := outTo_own hto.out hLl.out
      have hrd := hoo.rd (fun K hK => Nat.le_trans (hLk K hK) (by decide))
      have hcl := Lib.hid (l10Ok_any X A i c (X + 1) wr.heap.size Ls _ rfl wr hXl x0 hrd (Nat.le_refl _) (by omega) (fun K hK => Nat.le_trans (hLk K hK) (by decide)))
      replace hrd := Lib.hid hrd
      replace hoo := Lib.hid hoo
      replace hin := Lib.hid hin
      clear hlast hof hinv
      go_wp2_with fail
      refine hcl.out.mono ?_
      rintro e w3 ⟨rfl, hb3⟩
      have hz3 := hb3.size
      have hBe := Lib.hid (hbel.trans (hb3.mono hbel.size))
      have x0 : w3.cell? ⟨X, 0, none⟩ = some (.slice A i c) := (hb3.cell hXl).trans x0
      have r0 : w3.cell? ⟨w.heap.size, 0, none⟩ = some (.slice none 0 0) := (hb3.cell hwl).trans r0
      have xf : ∀ o, w3.frozen? ⟨X, o, none⟩ = false := fun o => (World.frozen?_of_block (hb3.block X hXl)).trans (xf o)
      have rf : ∀ o, w3.frozen? ⟨w.heap.size, o, none⟩ = false := fun o => (World.frozen?_of_block (hb3.block _ hwl)).trans (rf o)
      have hto3 := Lib.hid (mg_outS hto.out fun b _ hb => hb3.block b hb)
      have hXl3 : X < w3.heap.size := by omega
      have hwl3 : w.heap.size < w3.heap.size := by omega
      have hne1 : ¬ X = w.heap.size := by omega
      have hne2 : ¬ w.heap.size = X := by omega
      clear hb3 hcl
      cases hv : outOk Ls
      · have hno : Hid (∀ Ls0, outOk Ls0 = true → s.data.toList ≠ outT Ls0) := fun Ls0 h1 h2 => by
          have := hfin.out Ls0 h1 h2
          subst this
          rw [hv] at h1; cases h1
        replace hv := Lib.hid hv
        go_wp2_with fail
        exact bodyPost_ret (v := .tuple #[.agg #[.slice none 0 0], .bool false]) (by simp [results, Tryz.results72, go_sem, r0]) rfl (ro_no hno.out (hBe.out.setCell (p := ⟨w.heap.size, 0, none⟩) (Nat.le_refl _) _))
      · replace hv := Lib.hid hv
        go_wp2_with fail
        refine bodyPost_ret (v := .tuple #[.agg #[.slice A i c], .bool true]) (by simp [results, Tryz.results72, go_sem, r0]) rfl ⟨Ls, A, i, c, true, rfl, ?_, .inl ⟨rfl, hv.out⟩, fun Ls0 h1 h2 => ⟨rfl, hfin.out Ls0 h1 h2⟩, hBe.out.setCell (p := ⟨w.heap.size, 0, none⟩) (Nat.le_refl _) _⟩
        exact outTo_own (outTo_base (OutTo.set hto3.out (a := ⟨w.heap.size, 0, none⟩) (by show w.heap.size < X + 1; omega) _) (by omega)) hLl.out
end Go.Proofs.YtgdkabljgabjoaaGreatDoor

