/- A loop's text read, the reference's side. Conditions: as each states. -/
import Derived.Deep.RegionHeld3
import Derived.Test.YtgdkabljgabjoaaGreatDoorRb16
import Derived.Test.YtgdkabljgabjoaaGreatDoorRb13
import Derived.Test.YtgdkabljgabjoaaGreatDoorRb06
import Derived.Test.YtgdkabljgabjoaaGreatDoorRb21
namespace Go.Proofs.YtgdkabljgabjoaaGreatDoor
open Go.RowKit
set_option linter.unusedVariables false
set_option maxRecDepth 100000
set_option maxRecDepth 100000

/-- what reading a loop comes to -/
def LNPost (s : ByteArray) (w : World) (e : Ending) (w' : World) : Prop :=
  ∃ (K : List Knot) (A : Option Addr) (c : Nat) (t : Bool), e = .returned (.tuple #[.agg #[.slice A K.length c], .bool t]) ∧ w'.ownsRow w.heap.size 152 3 (.slice A K.length c) K.length (K.flatMap knotC) ∧ K.length ≤ s.size + 1 ∧ (∀ K0, K0 ≠ [] → (∀ k ∈ K0, knotOk k = true) → s.data.toList = loopT K0 → t = true ∧ K = K0) ∧ Below w.heap.size w w'
theorem splitF_len (b : UInt8) : ∀ l : List UInt8, (splitF b l).length ≤ l.length + 1
  | [] => by simp [splitF]
  | c :: l => by
    have ih := splitF_len b l
    rw [splitF]
    split
    · simp; omega
    · split
      · simp
      · next x r h => rw [h] at ih; simp at ih ⊢; omega
theorem splitF_mem (b : UInt8) : ∀ (l : List UInt8), ∀ a ∈ splitF b l, a.length ≤ l.length
  | [], a, h => by simp [splitF] at h; subst h; simp
  | c :: l, a, h => by
    have ih := splitF_mem b l
    rw [splitF] at h
    split at h
    · rcases List.mem_cons.1 h with rfl | h
      · simp
      · have := ih a h; simp; omega
    · split at h
      · next e => exact absurd e (splitF_ne b l)
      · next x r e =>
        rw [e] at ih
        rcases List.mem_cons.1 h with rfl | h
        · have := ih x (by simp); simp; omega
        · have := ih a (by simp [h]); simp; omega
theorem line_word {s : ByteArray} {ws : List (List UInt8)} {K0 : List Knot} {i : Nat} {l : List UInt8} (hws : ws = splitF 32 s.data.toList) (h0 : K0 ≠ []) (hs : s.data.toList = loopT K0) (hl : ws[i]? = some l) : ∃ k, K0[i]? = some k ∧ knotT k = l ∧ k ∈ K0 := by
  rw [hws, hs, words_loop K0 h0, List.getElem?_map] at hl
  cases hk : K0[i]? with
  | none => rw [hk] at hl; cases hl
  | some k => rw [hk] at hl; injection hl with hl; exact ⟨k, rfl, hl, List.mem_of_getElem? hk⟩
theorem line_take {K K0 : List Knot} {i : Nat} {k : Knot} (h : K = K0.take i) (hk : K0[i]? = some k) : K ++ [k] = K0.take (i + 1) := by
  rw [List.take_add_one, hk, h]; rfl
set_option maxHeartbeats 8000000 in
theorem l10Line_any (s : ByteArray) (w : World) (hs : s.size ≤ 1048576) :
    Calls Tryz.prog 114 #[.string s] w fun e w' => LNPost s w e w' := by
  have hB0 : Below w.heap.size w (w.alloc (.cells #[.slice none 0 0] 113 (0, 0))) := Go.Joins.below_alloc1 _ _
  have hx0 := Lib.hid (heap_alloc_new w (.cells #[.slice none 0 0] 113 (0, 0)))
  have hz0 : w.heap.size < (w.alloc (.cells #[.slice none 0 0] 113 (0, 0))).heap.size := by simp
  have hcs := Lib.hid (fun W => l01Split_any s 32 W hs)
  have hsl := splitF_len 32 s.data.toList
  have hsl2 : s.data.toList.length = s.size := by simp
  rw [hsl2] at hsl
  clear hsl2
  replace hB0 := Lib.hid hB0
  go_enter Tryz.func114, Tryz.ntmps114
  go_upto_region 1 with fail
  generalize w.alloc (.cells #[.slice none 0 0] 113 (0, 0)) = w0 at *
  obtain ⟨ws, hws⟩ : ∃ ws, ws = splitF 32 s.data.toList := ⟨_, rfl⟩
  have hpos : 0 < ws.length := by rw [hws]; exact List.length_pos_iff.2 (splitF_ne 32 _)
  rw [← hws] at hsl hcs
  replace hws := Lib.hid hws
  go_wp2_with fail
  refine (hcs.out _).mono ?_
  rintro e w1 ⟨A1, c1, n, hn, rfl, hown, hb1⟩
  obtain ⟨g, rfl, hg1, hg2, _, hcell, _⟩ := own_at hown (by omega)
  have hW : Hid (∀ (j : Nat) (l : List UInt8), ws[j]? = some l → w1.cell? ⟨g, j, none⟩ = some (.string ⟨l.toArray⟩)) := fun j l hj => by
    have hjl := (List.getElem?_eq_some_iff.1 hj).1
    have := hcell j (by omega)
    rw [this]
    simpa [strV] using hj
  have hx1 := (hb1.block _ hz0).trans hx0.out
  have hB1 := hB0.out.trans (hb1.mono (Nat.le_of_lt hz0))
  have hz1 : w.heap.size < w1.heap.size := Nat.lt_of_lt_of_le hz0 hb1.size
  have hbb : Below w1.heap.size w1 (w1.alloc (.cells #[.slice none 0 0] 113 (0, 0))) := Go.Joins.below_alloc1 _ _
  have hR2 := Lib.hid ((hbb.block _ hz1).trans hx1)
  have hX2 := Lib.hid (heap_alloc_new w1 (.cells #[.slice none 0 0] 113 (0, 0)))
  have hG2 := Lib.hid (hbb.block g hg2)
  have hB2 := Lib.hid (hB1.trans (hbb.mono (Nat.le_of_lt hz1)))
  have hz2 : w1.heap.size + 1 ≤ (w1.alloc (.cells #[.slice none 0 0] 113 (0, 0))).heap.size := by simp
  have hn2 : n ≤ s.size + 1 := by omega
  replace hn := Lib.hid hn
  clear hcs hx0 hB0 hz0 hown hcell hb1 hx1 hB1 hbb hsl hpos
  go_upto_region 3 with fail
  generalize w1.alloc (.cells #[.slice none 0 0] 113 (0, 0)) = w2 at *
  go_wp2_with fail
  go_loopw [6] (fun iv wr => ∃ (i : Nat) (K : List Knot) (A : Option Addr) (c : Nat), iv = .int .i64 i ∧ i ≤ n ∧ K.length = i ∧ wr.heap[w1.heap.size]? = some (.cells #[.slice A i c] 113 (0, 0)) ∧ wr.ownsRow (w1.heap.size + 1) 152 3 (.slice A i c) i (K.flatMap knotC) ∧ wr.heap[g]? = w1.heap[g]? ∧ wr.heap[w.heap.size]? = some (.cells #[.slice none 0 0] 113 (0, 0)) ∧ (∀ K0, K0 ≠ [] → (∀ k ∈ K0, knotOk k = true) → s.data.toList = loopT K0 → K = K0.take i) ∧ w1.heap.size + 1 ≤ wr.heap.size ∧ Below w.heap.size w wr) (fun iv wr => n - (intOf iv).toNat)
  case atStart => exact ⟨0, [], none, 0, rfl, Nat.zero_le _, rfl, hX2.out, World.ownsRow_nil _ _ _ _, hG2.out, hR2.out, fun K0 _ _ _ => by simp, hz2, hB2.out⟩
  case round =>
    clear hR2 hX2 hG2 hB2 hz2
    obtain ⟨i, K, A, c, rfl, hi, hKl, hX, hrow, hg, hR, hcm, hz, hbel⟩ := hrel
    have hX' : w1.heap.size < wr.heap.size := by omega
    have hgl : g < wr.heap.size := by omega
    have x0 : wr.cell? ⟨w1.heap.size, 0, none⟩ = some (.slice A i c) := by rw [Go.Joins.cell_of_block hX]; rfl
    have xf : ∀ o, wr.frozen? ⟨w1.heap.size, o, none⟩ = false := Go.Joins.unfrozen_of_block hX
    have r0 : wr.cell? ⟨w.heap.size, 0, none⟩ = some (.slice none 0 0) := by rw [Go.Joins.cell_of_block hR]; rfl
    have rf : ∀ o, wr.frozen? ⟨w.heap.size, o, none⟩ = false := Go.Joins.unfrozen_of_block hR
    have hwl : w.heap.size < wr.heap.size := by omega
    replace hX := Lib.hid hX
    replace hR := Lib.hid hR
    replace hrow := Lib.hid hrow
    replace hg := Lib.hid hg
    replace hKl := Lib.hid hKl
    replace hcm := Lib.hid hcm
    by_cases hlt : i < n
    · have hti : (i : Int) < (n : Int) := by omega
      have hti0 : (0 : Int) ≤ (i : Int) ∧ (i : Int) < (n : Int) := by omega
      obtain ⟨l, hl⟩ : ∃ l, ws[i]? = some l := ⟨_, List.getElem?_eq_getElem (by have := hn.out; omega)⟩
      have q0 : wr.cell? ⟨g, i, none⟩ = some (.string ⟨l.toArray⟩) := (World.cell?_of_block hg.out).trans (hW.out i l hl)
      replace hl := Lib.hid hl
      obtain ⟨off, r, hor⟩ : ∃ (off : Bool) (r : List UInt8), (off = true ∧ l = 126 :: r) ∨ (off = false ∧ l = r ∧ ∀ u, l ≠ 126 :: u) := by
        cases l with
        | nil => exact ⟨false, [], .inr ⟨rfl, rfl, fun u h => by cases h⟩⟩
        | cons a u =>
          by_cases ha : a = 126
          · subst ha; exact ⟨true, u, .inl ⟨rfl, rfl⟩⟩
          · exact ⟨false, a :: u, .inr ⟨rfl, rfl, fun v h => by injection h with h _; exact ha h⟩⟩
      rcases hor with ⟨rfl, rfl⟩ | ⟨rfl, rfl, hno⟩
      · have hxt : (⟨(126 :: r).toArray⟩ : ByteArray).extract 1 (r.length + 1) = ⟨r.toArray⟩ := by rw [extract_mk]; simp
        go_upto_region 11 with fail
        have hrl : r.length ≤ 1048576 := by
          have h1 := splitF_mem 32 s.data.toList (126 :: r) (by rw [← hws.out]; exact List.mem_of_getElem? hl.out)
          have h2 : s.data.toList.length = s.size := by simp
          simp at h1
          omega
        have hcmp : Hid ((∀ x0 y0, r = ptT x0 y0 → ptOk x0 y0 = true → False) → ∀ K0, K0 ≠ [] → (∀ k ∈ K0, knotOk k = true) → s.data.toList = loopT K0 → False) := fun hxy K0 h0 hk hs0 => by
          obtain ⟨k, h1, h2, h3⟩ := line_word hws.out h0 hs0 hl.out
          obtain ⟨_, h4⟩ := knot_off h2
          exact hxy k.1 k.2.1 h4 (hk k h3)
        have hcmy : Hid (∀ x y, (∀ x0 y0, r = ptT x0 y0 → ptOk x0 y0 = true → x = x0 ∧ y = y0) → ∀ K0, K0 ≠ [] → (∀ k ∈ K0, knotOk k = true) → s.data.toList = loopT K0 → K ++ [(x, y, false)] = K0.take (i + 1)) := fun x y hxy K0 h0 hk hs0 => by
          obtain ⟨k, h1, h2, h3⟩ := line_word hws.out h0 hs0 hl.out
          obtain ⟨h5, h4⟩ := knot_off h2
          obtain ⟨rfl, rfl⟩ := hxy k.1 k.2.1 h4 (hk k h3)
          have := line_take (hcm.out K0 h0 hk hs0) h1
          rw [← this, ← h5]
        go_wp2_with fail
        refine (specReadPt_any ⟨r.toArray⟩ wr (by show r.length ≤ 1048576; exact hrl)).mono ?_
        intro e w3 hP
        obtain ⟨x, y, t, rfl, hxy, hb3⟩ := hP.get
        clear hP
        have hz3 := hb3.size
        have x0 : w3.cell? ⟨w1.heap.size, 0, none⟩ = some (.slice A i c) := (hb3.cell hX').trans x0
        have r0 : w3.cell? ⟨w.heap.size, 0, none⟩ = some (.slice none 0 0) := (hb3.cell hwl).trans r0
        have xf : ∀ o, w3.frozen? ⟨w1.heap.size, o, none⟩ = false := fun o => (World.frozen?_of_block (hb3.block _ hX')).trans (xf o)
        have rf : ∀ o, w3.frozen? ⟨w.heap.size, o, none⟩ = false := fun o => (World.frozen?_of_block (hb3.block _ hwl)).trans (rf o)
        have hX3 : w1.heap.size < w3.heap.size := by omega
        have hwl3 : w.heap.size < w3.heap.size := by omega
        have hB3 := Lib.hid (hbel.trans (hb3.mono hbel.size))
        have hK3 : Hid (∀ b, b < wr.heap.size → w3.heap[b]? = wr.heap[b]?) := fun b hb => hb3.block b hb
        have hrow3 := Lib.hid (mg_ownS hrow.out fun b _ hb => hb3.block b hb)
        replace hxy := Lib.hid hxy
        clear hb3
        have hbb : Below w3.heap.size w3 (w3.alloc (.cells #[.int .i64 x, .int .i64 y] 102 (0, 0))) := Go.Joins.below_alloc1 _ _
        have x4 := (hbb.cell hX3).trans x0
        have r4 := (hbb.cell hwl3).trans r0
        have xf4 : ∀ o, (w3.alloc (.cells #[.int .i64 x, .int .i64 y] 102 (0, 0))).frozen? ⟨w1.heap.size, o, none⟩ = false := fun o => (World.frozen?_of_block (hbb.block _ hX3)).trans (xf o)
        have rf4 : ∀ o, (w3.alloc (.cells #[.int .i64 x, .int .i64 y] 102 (0, 0))).frozen? ⟨w.heap.size, o, none⟩ = false := fun o => (World.frozen?_of_block (hbb.block _ hwl3)).trans (rf o)
        have hP4 := heap_alloc_new w3 (.cells #[.int .i64 x, .int .i64 y] 102 (0, 0))
        have p0 : (w3.alloc (.cells #[.int .i64 x, .int .i64 y] 102 (0, 0))).cell? ⟨w3.heap.size, 0, none⟩ = some (.int .i64 x) := by rw [Go.Joins.cell_of_block hP4]; rfl
        have p1 : (w3.alloc (.cells #[.int .i64 x, .int .i64 y] 102 (0, 0))).cell? ⟨w3.heap.size, 1, none⟩ = some (.int .i64 y) := by rw [Go.Joins.cell_of_block hP4]; rfl
        have hB4 := Lib.hid (hB3.out.trans (hbb.mono (Nat.le_of_lt hwl3)))
        have hK4 : Hid (∀ b, b < wr.heap.size → (w3.alloc (.cells #[.int .i64 x, .int .i64 y] 102 (0, 0))).heap[b]? = wr.heap[b]?) := fun b hb => (hbb.block b (by omega)).trans (hK3.out b hb)
        have hrow4 := Lib.hid (mg_ownS hrow3.out fun b _ hb => hbb.block b hb)
        have hz4 : w3.heap.size + 1 ≤ (w3.alloc (.cells #[.int .i64 x, .int .i64 y] 102 (0, 0))).heap.size := by simp
        clear hP4 hbb x0 r0 xf rf hrow3 hB3 hK3
        go_upto_region 12 with fail
        generalize w3.alloc (.cells #[.int .i64 x, .int .i64 y] 102 (0, 0)) = w4 at *
        cases t
        · go_wp2_with fail
          exact bodyPost_ret (v := .tuple #[.agg #[.slice none 0 0], .bool false]) (by simp [results, Tryz.results114, go_sem, r4]) rfl ⟨[], none, 0, false, rfl, World.ownsRow_nil _ _ _ _, Nat.zero_le _, fun K0 h0 hk hs0 => (hcmp.out (fun x0 y0 h1 h2 => by have := (hxy.out x0 y0 h1 h2).1; first | exact this.elim | cases this) K0 h0 hk hs0).elim, hB4.out.setCell (p := ⟨w.heap.size, 0, none⟩) (Nat.le_refl _) _⟩
        · have hne : Hid (∀ b, b ≤ w1.heap.size → (Value.slice A i c).ownBlock ≠ some b) := fun b hb e => by have := (hrow4.out.lt _ e).1; omega
          go_wp2_with (at_builtin; refine wpAppAt rfl (.tmp 42) (.tmp 46) elemKnot rfl (v := .slice A i c) (n := i) (xs := K.flatMap knotC) rfl (hrow4.out.alloc _) rfl (src_at (cs := [.int .i64 x, .int .i64 y, .bool false]) rfl (by simp [Value.oneCell']) (by simp)) (by omega) (by omega) (by simp; omega) (i + 1) rfl ?_; intro A5 c5 w5 ho5 hg5 _; have hk5 : ∀ b, b ≤ w1.heap.size → w5.heap[b]? = w4.heap[b]? := (fun b hb => (hg5.block b (by simp; omega) (fun e => hne.out b hb e.symm)).trans (Below.heap_alloc _ _ _ (by omega))); have x5 : w5.cell? ⟨w1.heap.size, 0, none⟩ = some (.slice A i c) := (World.cell?_of_block (hk5 _ (Nat.le_refl _))).trans x4; have f5 : ∀ o, w5.frozen? ⟨w1.heap.size, o, none⟩ = false := (fun o => (World.frozen?_of_block (hk5 _ (Nat.le_refl _))).trans (xf4 o)); replace hk5 := Lib.hid hk5; replace ho5 := Lib.hid ho5; replace hg5 := Lib.hid hg5)
          go_roundw
          case rel =>
            have hg5z : w4.heap.size + 1 ≤ w5.heap.size := by have := hg5.out.size; simpa using this
            refine ⟨i + 1, K ++ [(x, y, false)], A5, c5, by go_num, by omega, by have := hKl.out; simp; omega, ?_, ?_, ?_, ?_, hcmy.out x y (fun x0 y0 h1 h2 => (hxy.out x0 y0 h1 h2).2), by simp; omega, ?_⟩
            · exact Go.Joins.block_setCell ((hk5.out _ (Nat.le_refl _)).trans ((hK4.out _ hX').trans hX.out)) (.slice A5 (i + 1) c5)
            · refine ownsRow_setCell_below ?_ (Nat.lt_succ_self _) _
              rw [List.flatMap_append, List.flatMap_cons, List.flatMap_nil, List.append_nil]
              exact ho5.out
            · exact (Below.heap_setCell _ _ _ _ (by simp only; omega)).trans ((hk5.out g (by omega)).trans ((hK4.out g hgl).trans hg.out))
            · exact (Below.heap_setCell _ _ _ _ (by simp only; omega)).trans ((hk5.out _ (by omega)).trans ((hK4.out _ hwl).trans hR.out))
            · exact ((hB4.out.alloc hB4.out.size _).grown hg5.out (by simp; omega) (fun b hb => by have := (hrow4.out.lt _ hb).1; omega)).setCell (p := ⟨w1.heap.size, 0, none⟩) (Nat.le_of_lt hz1) _
          case measure => simp [intOf]; omega
      · rcases l with _ | ⟨a, u⟩
        · go_upto_region 11 with fail
          have hrl : ([] : List UInt8).length ≤ 1048576 := by
            have h1 := splitF_mem 32 s.data.toList ([] : List UInt8) (by rw [← hws.out]; exact List.mem_of_getElem? hl.out)
            have h2 : s.data.toList.length = s.size := by simp
            rw [h2] at h1
            exact Nat.le_trans h1 hs
          have hcmp : Hid ((∀ x0 y0, ([] : List UInt8) = ptT x0 y0 → ptOk x0 y0 = true → False) → ∀ K0, K0 ≠ [] → (∀ k ∈ K0, knotOk k = true) → s.data.toList = loopT K0 → False) := fun hxy K0 h0 hk hs0 => by
            obtain ⟨k, h1, h2, h3⟩ := line_word hws.out h0 hs0 hl.out
            obtain ⟨_, h4⟩ := (⟨(knot_on (k := k) (by rw [h2]; exact hno)).1, h2.symm.trans (knot_on (k := k) (by rw [h2]; exact hno)).2⟩ : k.2.2 = true ∧ ([] : List UInt8) = ptT k.1 k.2.1)
            exact hxy k.1 k.2.1 h4 (hk k h3)
          have hcmy : Hid (∀ x y, (∀ x0 y0, ([] : List UInt8) = ptT x0 y0 → ptOk x0 y0 = true → x = x0 ∧ y = y0) → ∀ K0, K0 ≠ [] → (∀ k ∈ K0, knotOk k = true) → s.data.toList = loopT K0 → K ++ [(x, y, true)] = K0.take (i + 1)) := fun x y hxy K0 h0 hk hs0 => by
            obtain ⟨k, h1, h2, h3⟩ := line_word hws.out h0 hs0 hl.out
            obtain ⟨h5, h4⟩ := (⟨(knot_on (k := k) (by rw [h2]; exact hno)).1, h2.symm.trans (knot_on (k := k) (by rw [h2]; exact hno)).2⟩ : k.2.2 = true ∧ ([] : List UInt8) = ptT k.1 k.2.1)
            obtain ⟨rfl, rfl⟩ := hxy k.1 k.2.1 h4 (hk k h3)
            have := line_take (hcm.out K0 h0 hk hs0) h1
            rw [← this, ← h5]
          go_wp2_with fail
          refine (specReadPt_any ⟨([] : List UInt8).toArray⟩ wr (by show ([] : List UInt8).length ≤ 1048576; exact hrl)).mono ?_
          intro e w3 hP
          obtain ⟨x, y, t, rfl, hxy, hb3⟩ := hP.get
          clear hP
          have hz3 := hb3.size
          have x0 : w3.cell? ⟨w1.heap.size, 0, none⟩ = some (.slice A i c) := (hb3.cell hX').trans x0
          have r0 : w3.cell? ⟨w.heap.size, 0, none⟩ = some (.slice none 0 0) := (hb3.cell hwl).trans r0
          have xf : ∀ o, w3.frozen? ⟨w1.heap.size, o, none⟩ = false := fun o => (World.frozen?_of_block (hb3.block _ hX')).trans (xf o)
          have rf : ∀ o, w3.frozen? ⟨w.heap.size, o, none⟩ = false := fun o => (World.frozen?_of_block (hb3.block _ hwl)).trans (rf o)
          have hX3 : w1.heap.size < w3.heap.size := by omega
          have hwl3 : w.heap.size < w3.heap.size := by omega
          have hB3 := Lib.hid (hbel.trans (hb3.mono hbel.size))
          have hK3 : Hid (∀ b, b < wr.heap.size → w3.heap[b]? = wr.heap[b]?) := fun b hb => hb3.block b hb
          have hrow3 := Lib.hid (mg_ownS hrow.out fun b _ hb => hb3.block b hb)
          replace hxy := Lib.hid hxy
          clear hb3
          have hbb : Below w3.heap.size w3 (w3.alloc (.cells #[.int .i64 x, .int .i64 y] 102 (0, 0))) := Go.Joins.below_alloc1 _ _
          have x4 := (hbb.cell hX3).trans x0
          have r4 := (hbb.cell hwl3).trans r0
          have xf4 : ∀ o, (w3.alloc (.cells #[.int .i64 x, .int .i64 y] 102 (0, 0))).frozen? ⟨w1.heap.size, o, none⟩ = false := fun o => (World.frozen?_of_block (hbb.block _ hX3)).trans (xf o)
          have rf4 : ∀ o, (w3.alloc (.cells #[.int .i64 x, .int .i64 y] 102 (0, 0))).frozen? ⟨w.heap.size, o, none⟩ = false := fun o => (World.frozen?_of_block (hbb.block _ hwl3)).trans (rf o)
          have hP4 := heap_alloc_new w3 (.cells #[.int .i64 x, .int .i64 y] 102 (0, 0))
          have p0 : (w3.alloc (.cells #[.int .i64 x, .int .i64 y] 102 (0, 0))).cell? ⟨w3.heap.size, 0, none⟩ = some (.int .i64 x) := by rw [Go.Joins.cell_of_block hP4]; rfl
          have p1 : (w3.alloc (.cells #[.int .i64 x, .int .i64 y] 102 (0, 0))).cell? ⟨w3.heap.size, 1, none⟩ = some (.int .i64 y) := by rw [Go.Joins.cell_of_block hP4]; rfl
          have hB4 := Lib.hid (hB3.out.trans (hbb.mono (Nat.le_of_lt hwl3)))
          have hK4 : Hid (∀ b, b < wr.heap.size → (w3.alloc (.cells #[.int .i64 x, .int .i64 y] 102 (0, 0))).heap[b]? = wr.heap[b]?) := fun b hb => (hbb.block b (by omega)).trans (hK3.out b hb)
          have hrow4 := Lib.hid (mg_ownS hrow3.out fun b _ hb => hbb.block b hb)
          have hz4 : w3.heap.size + 1 ≤ (w3.alloc (.cells #[.int .i64 x, .int .i64 y] 102 (0, 0))).heap.size := by simp
          clear hP4 hbb x0 r0 xf rf hrow3 hB3 hK3
          go_upto_region 12 with fail
          generalize w3.alloc (.cells #[.int .i64 x, .int .i64 y] 102 (0, 0)) = w4 at *
          cases t
          · go_wp2_with fail
            exact bodyPost_ret (v := .tuple #[.agg #[.slice none 0 0], .bool false]) (by simp [results, Tryz.results114, go_sem, r4]) rfl ⟨[], none, 0, false, rfl, World.ownsRow_nil _ _ _ _, Nat.zero_le _, fun K0 h0 hk hs0 => (hcmp.out (fun x0 y0 h1 h2 => by have := (hxy.out x0 y0 h1 h2).1; first | exact this.elim | cases this) K0 h0 hk hs0).elim, hB4.out.setCell (p := ⟨w.heap.size, 0, none⟩) (Nat.le_refl _) _⟩
          · have hne : Hid (∀ b, b ≤ w1.heap.size → (Value.slice A i c).ownBlock ≠ some b) := fun b hb e => by have := (hrow4.out.lt _ e).1; omega
            go_wp2_with (at_builtin; refine wpAppAt rfl (.tmp 42) (.tmp 46) elemKnot rfl (v := .slice A i c) (n := i) (xs := K.flatMap knotC) rfl (hrow4.out.alloc _) rfl (src_at (cs := [.int .i64 x, .int .i64 y, .bool true]) rfl (by simp [Value.oneCell']) (by simp)) (by omega) (by omega) (by simp; omega) (i + 1) rfl ?_; intro A5 c5 w5 ho5 hg5 _; have hk5 : ∀ b, b ≤ w1.heap.size → w5.heap[b]? = w4.heap[b]? := (fun b hb => (hg5.block b (by simp; omega) (fun e => hne.out b hb e.symm)).trans (Below.heap_alloc _ _ _ (by omega))); have x5 : w5.cell? ⟨w1.heap.size, 0, none⟩ = some (.slice A i c) := (World.cell?_of_block (hk5 _ (Nat.le_refl _))).trans x4; have f5 : ∀ o, w5.frozen? ⟨w1.heap.size, o, none⟩ = false := (fun o => (World.frozen?_of_block (hk5 _ (Nat.le_refl _))).trans (xf4 o)); replace hk5 := Lib.hid hk5; replace ho5 := Lib.hid ho5; replace hg5 := Lib.hid hg5)
            go_roundw
            case rel =>
              have hg5z : w4.heap.size + 1 ≤ w5.heap.size := by have := hg5.out.size; simpa using this
              refine ⟨i + 1, K ++ [(x, y, true)], A5, c5, by go_num, by omega, by have := hKl.out; simp; omega, ?_, ?_, ?_, ?_, hcmy.out x y (fun x0 y0 h1 h2 => (hxy.out x0 y0 h1 h2).2), by simp; omega, ?_⟩
              · exact Go.Joins.block_setCell ((hk5.out _ (Nat.le_refl _)).trans ((hK4.out _ hX').trans hX.out)) (.slice A5 (i + 1) c5)
              · refine ownsRow_setCell_below ?_ (Nat.lt_succ_self _) _
                rw [List.flatMap_append, List.flatMap_cons, List.flatMap_nil, List.append_nil]
                exact ho5.out
              · exact (Below.heap_setCell _ _ _ _ (by simp only; omega)).trans ((hk5.out g (by omega)).trans ((hK4.out g hgl).trans hg.out))
              · exact (Below.heap_setCell _ _ _ _ (by simp only; omega)).trans ((hk5.out _ (by omega)).trans ((hK4.out _ hwl).trans hR.out))
              · exact ((hB4.out.alloc hB4.out.size _).grown hg5.out (by simp; omega) (fun b hb => by have := (hrow4.out.lt _ hb).1; omega)).setCell (p := ⟨w1.heap.size, 0, none⟩) (Nat.le_of_lt hz1) _
            case measure => simp [intOf]; omega
        · have ha : ((((⟨(a :: u).toArray⟩ : ByteArray)[0]'(by show 0 < (a :: u).length; simp)).toNat : Int) == 126) = false := by
            show ((a.toNat : Int) == 126) = false
            rw [beq_eq_false_iff_ne]
            intro h
            exact hno u (by rw [show a = 126 from UInt8.toNat_inj.1 (by show a.toNat = 126; omega)])
          go_upto_region 11 with fail
          have hrl : (a :: u).length ≤ 1048576 := by
            have h1 := splitF_mem 32 s.data.toList (a :: u) (by rw [← hws.out]; exact List.mem_of_getElem? hl.out)
            have h2 : s.data.toList.length = s.size := by simp
            rw [h2] at h1
            exact Nat.le_trans h1 hs
          have hcmp : Hid ((∀ x0 y0, (a :: u) = ptT x0 y0 → ptOk x0 y0 = true → False) → ∀ K0, K0 ≠ [] → (∀ k ∈ K0, knotOk k = true) → s.data.toList = loopT K0 → False) := fun hxy K0 h0 hk hs0 => by
            obtain ⟨k, h1, h2, h3⟩ := line_word hws.out h0 hs0 hl.out
            obtain ⟨_, h4⟩ := (⟨(knot_on (k := k) (by rw [h2]; exact hno)).1, h2.symm.trans (knot_on (k := k) (by rw [h2]; exact hno)).2⟩ : k.2.2 = true ∧ (a :: u) = ptT k.1 k.2.1)
            exact hxy k.1 k.2.1 h4 (hk k h3)
          have hcmy : Hid (∀ x y, (∀ x0 y0, (a :: u) = ptT x0 y0 → ptOk x0 y0 = true → x = x0 ∧ y = y0) → ∀ K0, K0 ≠ [] → (∀ k ∈ K0, knotOk k = true) → s.data.toList = loopT K0 → K ++ [(x, y, true)] = K0.take (i + 1)) := fun x y hxy K0 h0 hk hs0 => by
            obtain ⟨k, h1, h2, h3⟩ := line_word hws.out h0 hs0 hl.out
            obtain ⟨h5, h4⟩ := (⟨(knot_on (k := k) (by rw [h2]; exact hno)).1, h2.symm.trans (knot_on (k := k) (by rw [h2]; exact hno)).2⟩ : k.2.2 = true ∧ (a :: u) = ptT k.1 k.2.1)
            obtain ⟨rfl, rfl⟩ := hxy k.1 k.2.1 h4 (hk k h3)
            have := line_take (hcm.out K0 h0 hk hs0) h1
            rw [← this, ← h5]
          go_wp2_with fail
          refine (specReadPt_any ⟨(a :: u).toArray⟩ wr (by show (a :: u).length ≤ 1048576; exact hrl)).mono ?_
          intro e w3 hP
          obtain ⟨x, y, t, rfl, hxy, hb3⟩ := hP.get
          clear hP
          have hz3 := hb3.size
          have x0 : w3.cell? ⟨w1.heap.size, 0, none⟩ = some (.slice A i c) := (hb3.cell hX').trans x0
          have r0 : w3.cell? ⟨w.heap.size, 0, none⟩ = some (.slice none 0 0) := (hb3.cell hwl).trans r0
          have xf : ∀ o, w3.frozen? ⟨w1.heap.size, o, none⟩ = false := fun o => (World.frozen?_of_block (hb3.block _ hX')).trans (xf o)
          have rf : ∀ o, w3.frozen? ⟨w.heap.size, o, none⟩ = false := fun o => (World.frozen?_of_block (hb3.block _ hwl)).trans (rf o)
          have hX3 : w1.heap.size < w3.heap.size := by omega
          have hwl3 : w.heap.size < w3.heap.size := by omega
          have hB3 := Lib.hid (hbel.trans (hb3.mono hbel.size))
          have hK3 : Hid (∀ b, b < wr.heap.size → w3.heap[b]? = wr.heap[b]?) := fun b hb => hb3.block b hb
          have hrow3 := Lib.hid (mg_ownS hrow.out fun b _ hb => hb3.block b hb)
          replace hxy := Lib.hid hxy
          clear hb3
          have hbb : Below w3.heap.size w3 (w3.alloc (.cells #[.int .i64 x, .int .i64 y] 102 (0, 0))) := Go.Joins.below_alloc1 _ _
          have x4 := (hbb.cell hX3).trans x0
          have r4 := (hbb.cell hwl3).trans r0
          have xf4 : ∀ o, (w3.alloc (.cells #[.int .i64 x, .int .i64 y] 102 (0, 0))).frozen? ⟨w1.heap.size, o, none⟩ = false := fun o => (World.frozen?_of_block (hbb.block _ hX3)).trans (xf o)
          have rf4 : ∀ o, (w3.alloc (.cells #[.int .i64 x, .int .i64 y] 102 (0, 0))).frozen? ⟨w.heap.size, o, none⟩ = false := fun o => (World.frozen?_of_block (hbb.block _ hwl3)).trans (rf o)
          have hP4 := heap_alloc_new w3 (.cells #[.int .i64 x, .int .i64 y] 102 (0, 0))
          have p0 : (w3.alloc (.cells #[.int .i64 x, .int .i64 y] 102 (0, 0))).cell? ⟨w3.heap.size, 0, none⟩ = some (.int .i64 x) := by rw [Go.Joins.cell_of_block hP4]; rfl
          have p1 : (w3.alloc (.cells #[.int .i64 x, .int .i64 y] 102 (0, 0))).cell? ⟨w3.heap.size, 1, none⟩ = some (.int .i64 y) := by rw [Go.Joins.cell_of_block hP4]; rfl
          have hB4 := Lib.hid (hB3.out.trans (hbb.mono (Nat.le_of_lt hwl3)))
          have hK4 : Hid (∀ b, b < wr.heap.size → (w3.alloc (.cells #[.int .i64 x, .int .i64 y] 102 (0, 0))).heap[b]? = wr.heap[b]?) := fun b hb => (hbb.block b (by omega)).trans (hK3.out b hb)
          have hrow4 := Lib.hid (mg_ownS hrow3.out fun b _ hb => hbb.block b hb)
          have hz4 : w3.heap.size + 1 ≤ (w3.alloc (.cells #[.int .i64 x, .int .i64 y] 102 (0, 0))).heap.size := by simp
          clear hP4 hbb x0 r0 xf rf hrow3 hB3 hK3
          go_upto_region 12 with fail
          generalize w3.alloc (.cells #[.int .i64 x, .int .i64 y] 102 (0, 0)) = w4 at *
          cases t
          · go_wp2_with fail
            exact bodyPost_ret (v := .tuple #[.agg #[.slice none 0 0], .bool false]) (by simp [results, Tryz.results114, go_sem, r4]) rfl ⟨[], none, 0, false, rfl, World.ownsRow_nil _ _ _ _, Nat.zero_le _, fun K0 h0 hk hs0 => (hcmp.out (fun x0 y0 h1 h2 => by have := (hxy.out x0 y0 h1 h2).1; first | exact this.elim | cases this) K0 h0 hk hs0).elim, hB4.out.setCell (p := ⟨w.heap.size, 0, none⟩) (Nat.le_refl _) _⟩
          · have hne : Hid (∀ b, b ≤ w1.heap.size → (Value.slice A i c).ownBlock ≠ some b) := fun b hb e => by have := (hrow4.out.lt _ e).1; omega
            go_wp2_with (at_builtin; refine wpAppAt rfl (.tmp 42) (.tmp 46) elemKnot rfl (v := .slice A i c) (n := i) (xs := K.flatMap knotC) rfl (hrow4.out.alloc _) rfl (src_at (cs := [.int .i64 x, .int .i64 y, .bool true]) rfl (by simp [Value.oneCell']) (by simp)) (by omega) (by omega) (by simp; omega) (i + 1) rfl ?_; intro A5 c5 w5 ho5 hg5 _; have hk5 : ∀ b, b ≤ w1.heap.size → w5.heap[b]? = w4.heap[b]? := (fun b hb => (hg5.block b (by simp; omega) (fun e => hne.out b hb e.symm)).trans (Below.heap_alloc _ _ _ (by omega))); have x5 : w5.cell? ⟨w1.heap.size, 0, none⟩ = some (.slice A i c) := (World.cell?_of_block (hk5 _ (Nat.le_refl _))).trans x4; have f5 : ∀ o, w5.frozen? ⟨w1.heap.size, o, none⟩ = false := (fun o => (World.frozen?_of_block (hk5 _ (Nat.le_refl _))).trans (xf4 o)); replace hk5 := Lib.hid hk5; replace ho5 := Lib.hid ho5; replace hg5 := Lib.hid hg5)
            go_roundw
            case rel =>
              have hg5z : w4.heap.size + 1 ≤ w5.heap.size := by have := hg5.out.size; simpa using this
              refine ⟨i + 1, K ++ [(x, y, true)], A5, c5, by go_num, by omega, by have := hKl.out; simp; omega, ?_, ?_, ?_, ?_, hcmy.out x y (fun x0 y0 h1 h2 => (hxy.out x0 y0 h1 h2).2), by simp; omega, ?_⟩
              · exact Go.Joins.block_setCell ((hk5.out _ (Nat.le_refl _)).trans ((hK4.out _ hX').trans hX.out)) (.slice A5 (i + 1) c5)
              · refine ownsRow_setCell_below ?_ (Nat.lt_succ_self _) _
                rw [List.flatMap_append, List.flatMap_cons, List.flatMap_nil, List.append_nil]
                exact ho5.out
              · exact (Below.heap_setCell _ _ _ _ (by simp only; omega)).trans ((hk5.out g (by omega)).trans ((hK4.out g hgl).trans hg.out))
              · exact (Below.heap_setCell _ _ _ _ (by simp only; omega)).trans ((hk5.out _ (by omega)).trans ((hK4.out _ hwl).trans hR.out))
              · exact ((hB4.out.alloc hB4.out.size _).grown hg5.out (by simp; omega) (fun b hb => by have := (hrow4.out.lt _ hb).1; omega)).setCell (p := ⟨w1.heap.size, 0, none⟩) (Nat.le_of_lt hz1) _
            case measure => simp [intOf]; omega
    · have hin : i = n := by omega
      have hti : ¬ (i : Int) < (n : Int) := by omega
      have hfin : Hid (∀ K0, K0 ≠ [] → (∀ k ∈ K0, knotOk k = true) → s.data.toList = loopT K0 → K = K0) := fun K0 h0 hk hs0 => by
        have h1 := hws.out
        rw [hs0, words_loop K0 h0] at h1
        have h2 : n = K0.length := by rw [hn.out, h1]; simp
        rw [hcm.out K0 h0 hk hs0, List.take_of_length_le (by omega)]
      replace hin := Lib.hid hin
      go_wp2_with fail
      refine bodyPost_ret (v := .tuple #[.agg #[.slice A i c], .bool true]) (by simp [results, Tryz.results114, go_sem, r0]) rfl ⟨K, A, c, true, by rw [hKl.out], ?_, by have := hKl.out; omega, fun K0 h0 hk hs0 => ⟨rfl, hfin.out K0 h0 hk hs0⟩, hbel.setCell (p := ⟨w.heap.size, 0, none⟩) (Nat.le_refl _) _⟩
      rw [hKl.out]
      exact own_lower (ownsRow_setCell_below hrow.out (Nat.lt_succ_of_lt hz1) _) (Nat.le_succ_of_le (Nat.le_of_lt hz1))
end Go.Proofs.YtgdkabljgabjoaaGreatDoor

