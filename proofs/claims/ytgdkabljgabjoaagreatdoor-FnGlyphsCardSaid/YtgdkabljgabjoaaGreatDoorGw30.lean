/- A loop's text read, the program's side. Conditions: as each states. -/
import Derived.Test.YtgdkabljgabjoaaGreatDoorGw28
import Derived.Test.YtgdkabljgabjoaaGreatDoorGw29
namespace Go.Proofs.YtgdkabljgabjoaaGreatDoor
open Go.RowKit
set_option linter.unusedVariables false
set_option maxRecDepth 100000
set_option maxRecDepth 100000

theorem cutTilde_any (s : ByteArray) (w : World) :
    Calls Tryz.prog 45 #[.string s, .string ⟨#[126]⟩] w fun e w' => ∃ (off : Bool) (r : List UInt8), e = .returned (.tuple #[.string ⟨r.toArray⟩, .bool off]) ∧ (off = true ∧ s.data.toList = 126 :: r ∨ off = false ∧ s.data.toList = r ∧ ∀ u, r ≠ 126 :: u) ∧ w = w' := by
  refine (Tryz.strings_CutPrefix s ⟨#[126]⟩ w).mono ?_
  rintro e w' ⟨rfl, rfl⟩
  cases hs : s.data.toList with
  | nil => exact ⟨false, [], by simp [Lib.trimPrefix, Lib.hasPrefix], .inr ⟨rfl, rfl, fun u h => by cases h⟩, rfl⟩
  | cons a u =>
    by_cases ha : a = 126
    · subst ha
      exact ⟨true, u, by simp [Lib.trimPrefix, Lib.hasPrefix], .inl ⟨rfl, rfl⟩, rfl⟩
    · exact ⟨false, a :: u, by simp [Lib.trimPrefix, Lib.hasPrefix, List.isPrefixOf, Ne.symm ha], .inr ⟨rfl, rfl, fun v h => by injection h with h _; exact ha h⟩, rfl⟩
theorem splitI_any (s : ByteArray) (c : UInt8) (w : World) (hm : MaxI w) (hs : s.size ≤ 1048576) :
    Calls Tryz.prog 78 #[.string s, .string ⟨#[c]⟩] w fun e w' => ∃ n, n = (splitF c s.data.toList).length ∧ e = .returned (.slice (some ⟨w.heap.size, 0, none⟩) n n) ∧ (∀ (j : Nat) (l : List UInt8), (splitF c s.data.toList)[j]? = some l → w'.cell? ⟨w.heap.size, j, none⟩ = some (.string ⟨l.toArray⟩)) ∧ w.heap.size < w'.heap.size ∧ Below w.heap.size w w' := by
  obtain ⟨m, hm⟩ := hm
  have hcl := Tryz.strings_Split s ⟨#[c]⟩ m w (by omega) hm (by show 1 ≤ 1; omega)
  rw [splitB_is, countB_is] at hcl
  refine hcl.mono ?_
  rintro e w1 ⟨rfl, rfl⟩
  refine ⟨_, rfl, rfl, fun j l hj => ?_, by simp, Go.Joins.below_alloc1 _ _⟩
  rw [Go.Joins.cell_of_block (heap_alloc_new w _)]
  simp [hj]
/-- what reading a valid loop comes to -/
def LRPost (s : ByteArray) (w : World) (e : Ending) (w' : World) : Prop :=
  ∃ (K : List Knot) (A : Option Addr) (c : Nat) (t : Bool), e = .returned (.tuple #[.agg #[.slice A K.length c], .bool t]) ∧ w'.ownsRow w.heap.size 152 3 (.slice A K.length c) K.length (K.flatMap knotC) ∧ K.length ≤ s.size + 1 ∧ (∀ K0, loopOk K0 = true → s.data.toList = loopT K0 → t = true ∧ K = K0) ∧ Below w.heap.size w w'
theorem loopOk_parts {K : List Knot} (h : loopOk K = true) : K ≠ [] ∧ (∀ k ∈ K, knotOk k = true) ∧ K.length ≤ 60 := by
  unfold loopOk at h
  rw [Bool.and_eq_true, Bool.and_eq_true] at h
  have h1 := inB_iff.1 h.1.1
  exact ⟨fun e => by subst e; simp at h1, List.all_eq_true.1 h.2, by omega⟩
set_option maxHeartbeats 8000000 in
theorem readLoop_any (s : ByteArray) (w : World) (hm : MaxI w) (hs : s.size ≤ 1048576) :
    Calls Tryz.prog 79 #[.string s] w fun e w' => LRPost s w e w' := by
  have hml := hm.lt
  have hB0 : Below w.heap.size w ((w.alloc (.cells #[.slice none 0 0] 113 (0, 0))).alloc (.cells #[.slice none 0 0] 113 (0, 0))) := Go.Joins.below_alloc2 _ _ _
  obtain ⟨hR0, hX0⟩ := heap_new2 w (.cells #[.slice none 0 0] 113 (0, 0)) (.cells #[.slice none 0 0] 113 (0, 0))
  replace hR0 := Lib.hid hR0
  replace hX0 := Lib.hid hX0
  have hz0 : w.heap.size + 1 < ((w.alloc (.cells #[.slice none 0 0] 113 (0, 0))).alloc (.cells #[.slice none 0 0] 113 (0, 0))).heap.size := by simp
  have hm0 := hm.kept hB0 hml
  have hcs := Lib.hid (fun W h => splitI_any s 32 W h hs)
  have hsl := splitF_len 32 s.data.toList
  have hsl2 : s.data.toList.length = s.size := by simp
  rw [hsl2] at hsl
  clear hsl2
  replace hB0 := Lib.hid hB0
  replace hm := Lib.hid hm
  replace hm0 := Lib.hid hm0
  go_enter Tryz.func79, Tryz.ntmps79
  go_upto_region 2 with fail
  generalize (w.alloc (.cells #[.slice none 0 0] 113 (0, 0))).alloc (.cells #[.slice none 0 0] 113 (0, 0)) = w0 at *
  obtain ⟨ws, hws⟩ : ∃ ws, ws = splitF 32 s.data.toList := ⟨_, rfl⟩
  rw [← hws] at hsl hcs
  replace hws := Lib.hid hws
  go_wp2_with fail
  refine (hcs.out _ hm0.out).mono ?_
  rintro e w1 ⟨n, hn, rfl, hW, hg1, hb1⟩
  obtain ⟨g, hg⟩ : ∃ g, g = w0.heap.size := ⟨_, rfl⟩
  have hz1 := hb1.size
  rw [← hg]
  rw [← hg] at hW
  rw [← hg] at hg1
  rw [← hg] at hb1
  have hX1 := Lib.hid ((hb1.block (w.heap.size + 1) (by rw [hg]; exact hz0)).trans hX0.out)
  have hR1 := Lib.hid ((hb1.block w.heap.size (by rw [hg]; omega)).trans hR0.out)
  have hB1 := Lib.hid (hB0.out.trans (hb1.mono (by rw [hg]; omega)))
  have hgw : w.heap.size + 1 < g := by omega
  have hgw2 : w.heap.size + 1 ≤ g := by omega
  have hn2 : n ≤ s.size + 1 := by omega
  replace hn := Lib.hid hn
  replace hW := Lib.hid hW
  clear hcs hX0 hR0 hB0 hz0 hb1 hm0 hg hz1 hsl
  go_wp2_with fail
  go_loopw [14] (fun iv wr => ∃ (i : Nat) (K : List Knot) (A : Option Addr) (c : Nat), iv = .int .i64 i ∧ i ≤ n ∧ K.length = i ∧ wr.heap[w.heap.size + 1]? = some (.cells #[.slice A i c] 113 (0, 0)) ∧ wr.ownsRow (g + 1) 152 3 (.slice A i c) i (K.flatMap knotC) ∧ wr.heap[g]? = w1.heap[g]? ∧ wr.heap[w.heap.size]? = some (.cells #[.slice none 0 0] 113 (0, 0)) ∧ (∀ K0, K0 ≠ [] → (∀ k ∈ K0, knotOk k = true) → s.data.toList = loopT K0 → K = K0.take i) ∧ g + 1 ≤ wr.heap.size ∧ Below w.heap.size w wr) (fun iv wr => n - (intOf iv).toNat)
  case atStart => exact ⟨0, [], none, 0, rfl, Nat.zero_le _, rfl, hX1.out, World.ownsRow_nil _ _ _ _, rfl, hR1.out, fun K0 _ _ _ => by simp, hg1, hB1.out⟩
  case round =>
    clear hR1 hX1 hB1 hg1
    obtain ⟨i, K, A, c, rfl, hi, hKl, hX, hrow, hg, hR, hcm, hz, hbel⟩ := hrel
    have hX' : w.heap.size + 1 < wr.heap.size := by omega
    have hgl : g < wr.heap.size := by omega
    have x0 : wr.cell? ⟨w.heap.size + 1, 0, none⟩ = some (.slice A i c) := by rw [Go.Joins.cell_of_block hX]; rfl
    have xf : ∀ o, wr.frozen? ⟨w.heap.size + 1, o, none⟩ = false := Go.Joins.unfrozen_of_block hX
    have r0 : wr.cell? ⟨w.heap.size, 0, none⟩ = some (.slice none 0 0) := by rw [Go.Joins.cell_of_block hR]; rfl
    have rf : ∀ o, wr.frozen? ⟨w.heap.size, o, none⟩ = false := Go.Joins.unfrozen_of_block hR
    have hwl : w.heap.size < wr.heap.size := by omega
    replace hX := Lib.hid hX
    replace hR := Lib.hid hR
    replace hrow := Lib.hid hrow
    replace hg := Lib.hid hg
    replace hKl := Lib.hid hKl
    replace hcm := Lib.hid hcm
    by_cases hlt : i < n
    · have hti : (i : Int) < (n : Int) := by omega
      have hti0 : (0 : Int) ≤ (i : Int) ∧ (i : Int) < (n : Int) := by omega
      obtain ⟨l, hl⟩ : ∃ l, ws[i]? = some l := ⟨_, List.getElem?_eq_getElem (by have := hn.out; omega)⟩
      have q0 : wr.cell? ⟨g, i, none⟩ = some (.string ⟨l.toArray⟩) := (World.cell?_of_block hg.out).trans (hW.out i l hl)
      replace hl := Lib.hid hl
      go_upto_region 5 with fail
      go_wp2_with fail
      refine (cutTilde_any ⟨l.toArray⟩ wr).mono ?_
      rintro e w2 ⟨off, r, rfl, hor, rfl⟩
      replace hor : off = true ∧ l = 126 :: r ∨ off = false ∧ l = r ∧ ∀ u, r ≠ 126 :: u := hor
      have hrl : r.length ≤ 1048576 := by
        have h1 := splitF_mem 32 s.data.toList l (by rw [← hws.out]; exact List.mem_of_getElem? hl.out)
        have h2 : s.data.toList.length = s.size := by simp
        rcases hor with ⟨_, rfl⟩ | ⟨_, rfl, _⟩
        · simp at h1; omega
        · omega
      have hknot : Hid (∀ k : Knot, knotT k = l → k.2.2 = !off ∧ r = ptT k.1 k.2.1) := fun k hk => by
        rcases hor with ⟨rfl, rfl⟩ | ⟨rfl, rfl, hno⟩
        · exact knot_off hk
        · obtain ⟨h1, h2⟩ := knot_on (k := k) (by rw [hk]; exact hno)
          exact ⟨h1, hk.symm.trans h2⟩
      have hcmp : Hid ((∀ x0 y0, r = ptT x0 y0 → ptOk x0 y0 = true → False) → ∀ K0, K0 ≠ [] → (∀ k ∈ K0, knotOk k = true) → s.data.toList = loopT K0 → False) := fun hxy K0 h0 hk hs0 => by
        obtain ⟨k, h1, h2, h3⟩ := line_word hws.out h0 hs0 hl.out
        exact hxy k.1 k.2.1 (hknot.out k h2).2 (hk k h3)
      have hcmy : Hid (∀ x y, (∀ x0 y0, r = ptT x0 y0 → ptOk x0 y0 = true → x = x0 ∧ y = y0) → ∀ K0, K0 ≠ [] → (∀ k ∈ K0, knotOk k = true) → s.data.toList = loopT K0 → K ++ [(x, y, !off)] = K0.take (i + 1)) := fun x y hxy K0 h0 hk hs0 => by
        obtain ⟨k, h1, h2, h3⟩ := line_word hws.out h0 hs0 hl.out
        obtain ⟨h5, h4⟩ := hknot.out k h2
        obtain ⟨rfl, rfl⟩ := hxy k.1 k.2.1 h4 (hk k h3)
        have := line_take (hcm.out K0 h0 hk hs0) h1
        rw [← this, ← h5]
      clear hor hknot
      go_wp2_with fail
      refine (implReadPt_any ⟨r.toArray⟩ wr (by show r.length ≤ 1048576; exact hrl)).mono ?_
      intro e w3 hP
      obtain ⟨x, y, t, rfl, hxy, hb3⟩ := hP.get
      clear hP
      have hz3 := hb3.size
      have x0 : w3.cell? ⟨w.heap.size + 1, 0, none⟩ = some (.slice A i c) := (hb3.cell hX').trans x0
      have r0 : w3.cell? ⟨w.heap.size, 0, none⟩ = some (.slice none 0 0) := (hb3.cell hwl).trans r0
      have xf : ∀ o, w3.frozen? ⟨w.heap.size + 1, o, none⟩ = false := fun o => (World.frozen?_of_block (hb3.block _ hX')).trans (xf o)
      have rf : ∀ o, w3.frozen? ⟨w.heap.size, o, none⟩ = false := fun o => (World.frozen?_of_block (hb3.block _ hwl)).trans (rf o)
      have hX3 : w.heap.size + 1 < w3.heap.size := by omega
      have hwl3 : w.heap.size < w3.heap.size := by omega
      have hB3 := Lib.hid (hbel.trans (hb3.mono hbel.size))
      have hK3 : Hid (∀ b, b < wr.heap.size → w3.heap[b]? = wr.heap[b]?) := fun b hb => hb3.block b hb
      have hrow3 := Lib.hid (mg_ownS hrow.out fun b _ hb => hb3.block b hb)
      replace hxy := Lib.hid hxy
      clear hb3
      have hbb : Below w3.heap.size w3 (w3.alloc (.cells #[.int .i64 x, .int .i64 y] 102 (0, 0))) := Go.Joins.below_alloc1 _ _
      have x4 := (hbb.cell hX3).trans x0
      have r4 := (hbb.cell hwl3).trans r0
      have xf4 : ∀ o, (w3.alloc (.cells #[.int .i64 x, .int .i64 y] 102 (0, 0))).frozen? ⟨w.heap.size + 1, o, none⟩ = false := fun o => (World.frozen?_of_block (hbb.block _ hX3)).trans (xf o)
      have rf4 : ∀ o, (w3.alloc (.cells #[.int .i64 x, .int .i64 y] 102 (0, 0))).frozen? ⟨w.heap.size, o, none⟩ = false := fun o => (World.frozen?_of_block (hbb.block _ hwl3)).trans (rf o)
      have hP4 := heap_alloc_new w3 (.cells #[.int .i64 x, .int .i64 y] 102 (0, 0))
      have p0 : (w3.alloc (.cells #[.int .i64 x, .int .i64 y] 102 (0, 0))).cell? ⟨w3.heap.size, 0, none⟩ = some (.int .i64 x) := by rw [Go.Joins.cell_of_block hP4]; rfl
      have p1 : (w3.alloc (.cells #[.int .i64 x, .int .i64 y] 102 (0, 0))).cell? ⟨w3.heap.size, 1, none⟩ = some (.int .i64 y) := by rw [Go.Joins.cell_of_block hP4]; rfl
      have hB4 := Lib.hid (hB3.out.trans (hbb.mono (Nat.le_of_lt hwl3)))
      have hK4 : Hid (∀ b, b < wr.heap.size → (w3.alloc (.cells #[.int .i64 x, .int .i64 y] 102 (0, 0))).heap[b]? = wr.heap[b]?) := fun b hb => (hbb.block b (by omega)).trans (hK3.out b hb)
      have hrow4 := Lib.hid (mg_ownS hrow3.out fun b _ hb => hbb.block b hb)
      have hz4 : w3.heap.size + 1 ≤ (w3.alloc (.cells #[.int .i64 x, .int .i64 y] 102 (0, 0))).heap.size := by simp
      clear hP4 hbb x0 r0 xf rf hrow3 hB3 hK3
      go_upto_region 7 with fail
      generalize w3.alloc (.cells #[.int .i64 x, .int .i64 y] 102 (0, 0)) = w4 at *
      cases t
      · go_wp2_with fail
        exact bodyPost_ret (v := .tuple #[.agg #[.slice none 0 0], .bool false]) (by simp [results, Tryz.results79, go_sem, r4]) rfl ⟨[], none, 0, false, rfl, World.ownsRow_nil _ _ _ _, Nat.zero_le _, fun K0 h0 hs0 => (hcmp.out (fun x0 y0 h1 h2 => by have := (hxy.out x0 y0 h1 h2).1; first | exact this.elim | cases this) K0 (loopOk_parts h0).1 (loopOk_parts h0).2.1 hs0).elim, hB4.out.setCell (p := ⟨w.heap.size, 0, none⟩) (Nat.le_refl _) _⟩
      · have hne : Hid (∀ b, b ≤ g → (Value.slice A i c).ownBlock ≠ some b) := fun b hb e => by have := (hrow4.out.lt _ e).1; omega
        go_wp2_with (at_builtin; refine wpAppAt rfl (.tmp 32) (.tmp 37) elemKnot rfl (v := .slice A i c) (n := i) (xs := K.flatMap knotC) rfl (hrow4.out.alloc _) rfl (src_at (cs := [.int .i64 x, .int .i64 y, .bool (!off)]) rfl (by simp [Value.oneCell']) (by simp)) (by omega) (by omega) (by simp; omega) (i + 1) rfl ?_; intro A5 c5 w5 ho5 hg5 _; have hk5 : ∀ b, b ≤ g → w5.heap[b]? = w4.heap[b]? := (fun b hb => (hg5.block b (by simp; omega) (fun e => hne.out b hb e.symm)).trans (Below.heap_alloc _ _ _ (by omega))); have x5 : w5.cell? ⟨w.heap.size + 1, 0, none⟩ = some (.slice A i c) := (World.cell?_of_block (hk5 _ hgw2)).trans x4; have f5 : ∀ o, w5.frozen? ⟨w.heap.size + 1, o, none⟩ = false := (fun o => (World.frozen?_of_block (hk5 _ hgw2)).trans (xf4 o)); replace hk5 := Lib.hid hk5; replace ho5 := Lib.hid ho5; replace hg5 := Lib.hid hg5)
        go_roundw
        case rel =>
          have hg5z : w4.heap.size + 1 ≤ w5.heap.size := by have := hg5.out.size; simpa using this
          refine ⟨i + 1, K ++ [(x, y, !off)], A5, c5, by go_num, by omega, by have := hKl.out; simp; omega, ?_, ?_, ?_, ?_, hcmy.out x y (fun x0 y0 h1 h2 => (hxy.out x0 y0 h1 h2).2), by simp; omega, ?_⟩
          · exact Go.Joins.block_setCell ((hk5.out _ (by omega)).trans ((hK4.out _ hX').trans hX.out)) (.slice A5 (i + 1) c5)
          · refine ownsRow_setCell_below ?_ (by show w.heap.size + 1 < g + 1; omega) _
            rw [List.flatMap_append, List.flatMap_cons, List.flatMap_nil, List.append_nil]
            exact ho5.out
          · exact (Below.heap_setCell _ _ _ _ (by simp only; omega)).trans ((hk5.out g (Nat.le_refl _)).trans ((hK4.out g hgl).trans hg.out))
          · exact (Below.heap_setCell _ _ _ _ (by simp only; omega)).trans ((hk5.out _ (by omega)).trans ((hK4.out _ hwl).trans hR.out))
          · exact ((hB4.out.alloc hB4.out.size _).grown hg5.out (by simp; omega) (fun b hb => by have := (hrow4.out.lt _ hb).1; omega)).setCell (p := ⟨w.heap.size + 1, 0, none⟩) (by show w.heap.size ≤ w.heap.size + 1; omega) _
        case measure => simp [intOf]; omega
    · have hin : i = n := by omega
      have hti : ¬ (i : Int) < (n : Int) := by omega
      have hfin : Hid (∀ K0, K0 ≠ [] → (∀ k ∈ K0, knotOk k = true) → s.data.toList = loopT K0 → K = K0) := fun K0 h0 hk hs0 => by
        have h1 := hws.out
        rw [hs0, words_loop K0 h0] at h1
        have h2 : n = K0.length := by rw [hn.out, h1]; simp
        rw [hcm.out K0 h0 hk hs0, List.take_of_length_le (by omega)]
      replace hin := Lib.hid hin
      have hrd := Lib.hid (rdS_own knotC_len (by decide) hrow.out hKl.out)
      have hvl := Lib.hid (fun W hW => validLoop_any A i c (g + 1) W.heap.size K (loopOk K) rfl W hW (Nat.le_refl _) (by omega))
      go_upto_region 11 with fail
      go_region_held3 (fun w' => w'.cell? ⟨w.heap.size + 1, 0, none⟩ = some (.slice A i c)) (first | exact x0 | exact x2 | exact (World.cell?_of_block (Below.heap_setCell _ _ _ _ (by show w.heap.size + 1 ≠ w.heap.size; omega))).trans x2)
        (first | (go_at_call 104; (with_reducible refine (hvl.out _ ?_).mono ?_); (exact hrd.out.frame (good_flat _) (Below.sameB (by repeat (first | exact Below.refl _ _ | refine Below.drew ?_)) (Nat.le_refl _))); rintro e w2 ⟨rfl, hb2⟩; have hb2' : Below wr.heap.size wr w2 := Below.trans (by repeat (first | exact Below.refl _ _ | refine Below.drew ?_)) hb2; have x2 : w2.cell? ⟨w.heap.size + 1, 0, none⟩ = some (.slice A i c) := (hb2'.cell (p := ⟨w.heap.size + 1, 0, none⟩) hX').trans x0; have r2 : w2.cell? ⟨w.heap.size, 0, none⟩ = some (.slice none 0 0) := (hb2'.cell (p := ⟨w.heap.size, 0, none⟩) hwl).trans r0; have rf2 : ∀ o, w2.frozen? ⟨w.heap.size, o, none⟩ = false := (fun o => (World.frozen?_of_block (hb2'.block _ hwl)).trans (rf o)); have hl2 : w.heap.size < w2.heap.size := Nat.lt_of_lt_of_le hwl hb2'.size))
      have hB2 := Lib.hid (hbel.trans (hb2'.mono hbel.size))
      have hrow2 := Lib.hid (mg_ownS hrow.out fun b _ hb => hb2'.block b hb)
      go_wp2_with fail
      refine bodyPost_ret (v := .tuple #[.agg #[.slice A i c], .bool (loopOk K)]) (by simp [results, Tryz.results79, go_sem, r2]) rfl ⟨K, A, c, loopOk K, by rw [hKl.out], ?_, by have := hKl.out; omega, fun K0 h0 hs0 => ?_, hB2.out.setCell (p := ⟨w.heap.size, 0, none⟩) (Nat.le_refl _) _⟩
      · rw [hKl.out]
        exact own_lower (ownsRow_setCell_below hrow2.out (by show w.heap.size < g + 1; omega) _) (by omega)
      · have e := hfin.out K0 (loopOk_parts h0).1 (loopOk_parts h0).2.1 hs0
        subst e
        exact ⟨h0, rfl⟩
end Go.Proofs.YtgdkabljgabjoaaGreatDoor

/- What a line adds to a glyph that is being read: plain facts. Conditions: as each states. -/
namespace Go.Proofs.YtgdkabljgabjoaaGreatDoor
set_option linter.unusedVariables false
set_option maxRecDepth 100000

def kGlyph : List UInt8 := [103, 108, 121, 112, 104]
def kLoop : List UInt8 := [108, 111, 111, 112]
def kPart : List UInt8 := [112, 97, 114, 116]
def kAnch : List UInt8 := [97, 110, 99, 104, 111, 114]
def kHint : List UInt8 := [104, 105, 110, 116, 115]
/-- what a line of this kind with this rest adds -/
inductive KindTo (d : Gl) (k r : List UInt8) (d' : Gl) : Prop where
  | head (nm : ByteArray) (c a : Int) (h : nameB nm = true) (hc : c.natAbs < 10 ^ 18) (ha : a.natAbs < 10 ^ 18) (hk : k = kGlyph) (hr : r = nm.data.toList ++ [32] ++ decL c ++ [32] ++ decL a) (hd : d' = ⟨nm, c, a, d.out, d.parts, d.anchors, d.hints⟩)
  | loop (K : List Knot) (h : loopOk K = true) (hk : k = kLoop) (hr : r = loopT K) (hd : d' = ⟨d.name, d.code, d.adv, d.out ++ [K], d.parts, d.anchors, d.hints⟩)
  | part (p : Part) (h : p.1.natAbs < 10 ^ 18) (h2 : ptOk p.2.1 p.2.2 = true) (hk : k = kPart) (hr : r = decL p.1 ++ [32] ++ ptT p.2.1 p.2.2) (hd : d' = ⟨d.name, d.code, d.adv, d.out, d.parts ++ [p], d.anchors, d.hints⟩)
  | anch (a : Anch) (h : nameB a.1 = true) (h2 : ptOk a.2.1 a.2.2 = true) (hk : k = kAnch) (hr : r = a.1.data.toList ++ [32] ++ ptT a.2.1 a.2.2) (hd : d' = ⟨d.name, d.code, d.adv, d.out, d.parts, d.anchors ++ [a], d.hints⟩)
  | hint (l : ByteArray) (hk : k = kHint) (hr : r = hexT l.data.toList) (hd : d' = ⟨d.name, d.code, d.adv, d.out, d.parts, d.anchors, l⟩)
  | fin (hk : k = endW) (hr : r = []) (hd : d' = d)
/-- what a line adds -/
def LineTo (d : Gl) (l : List UInt8) (d' : Gl) : Prop := ∃ k r, KindTo d k r d' ∧ (k ≠ endW ∧ l = k ++ 32 :: r ∨ k = endW ∧ l = k)
theorem KindTo.no {d d' : Gl} {k r : List UInt8} (h : KindTo d k r d') : ∀ x ∈ k, x ≠ 32 := by
  rcases h with ⟨_, _, _, _, _, _, rfl, _, _⟩ | ⟨_, _, rfl, _, _⟩ | ⟨_, _, _, rfl, _, _⟩ | ⟨_, _, _, rfl, _, _⟩ | ⟨_, rfl, _, _⟩ | ⟨rfl, _, _⟩ <;> decide
theorem KindTo.endr {d d' : Gl} {k r : List UInt8} (h : KindTo d k r d') (hk : k = endW) : r = [] ∧ d' = d := by
  rcases h with ⟨_, _, _, _, _, _, rfl, _, _⟩ | ⟨_, _, rfl, _, _⟩ | ⟨_, _, _, rfl, _, _⟩ | ⟨_, _, _, rfl, _, _⟩ | ⟨_, rfl, _, _⟩ | ⟨_, h1, h2⟩
  all_goals first | exact ⟨h1, h2⟩ | (exact absurd hk (by decide))
/-- the cut of a line -/
def CutTo (l k r : List UInt8) : Prop := (l = k ++ 32 :: r ∧ ∀ x ∈ k, x ≠ 32) ∨ (l = k ∧ r = [] ∧ ∀ x ∈ l, x ≠ 32)
theorem LineTo.kind {d d' : Gl} {l k r : List UInt8} (h : LineTo d l d') (hc : CutTo l k r) : KindTo d k r d' := by
  obtain ⟨k0, r0, h0, h1⟩ := h
  rcases hc with ⟨rfl, hk⟩ | ⟨rfl, rfl, hk⟩
  · rcases h1 with ⟨_, h1⟩ | ⟨rfl, h1⟩
    · obtain ⟨rfl, rfl⟩ := cut_uniq hk h0.no h1
      exact h0
    · exact absurd rfl (h0.no 32 (by rw [← h1]; simp))
  · rcases h1 with ⟨_, rfl⟩ | ⟨e, rfl⟩
    · exact absurd rfl (hk 32 (by simp))
    · rw [(h0.endr e).1] at h0; exact h0
/-- the kinds differ -/
theorem KindTo.glyph {d d' : Gl} {r : List UInt8} (h : KindTo d kGlyph r d') : ∃ nm c a, nameB nm = true ∧ c.natAbs < 10 ^ 18 ∧ a.natAbs < 10 ^ 18 ∧ r = nm.data.toList ++ [32] ++ decL c ++ [32] ++ decL a ∧ d' = ⟨nm, c, a, d.out, d.parts, d.anchors, d.hints⟩ := by
  rcases h with ⟨nm, c, a, h1, h2, h3, _, h4, h5⟩ | ⟨_, _, hk, _, _⟩ | ⟨_, _, _, hk, _, _⟩ | ⟨_, _, _, hk, _, _⟩ | ⟨_, hk, _, _⟩ | ⟨hk, _, _⟩
  · exact ⟨nm, c, a, h1, h2, h3, h4, h5⟩
  all_goals exact absurd hk (by decide)
theorem KindTo.loopI {d d' : Gl} {r : List UInt8} (h : KindTo d kLoop r d') : ∃ K, loopOk K = true ∧ r = loopT K ∧ d' = ⟨d.name, d.code, d.adv, d.out ++ [K], d.parts, d.anchors, d.hints⟩ := by
  rcases h with ⟨_, _, _, _, _, _, hk, _, _⟩ | ⟨K, h1, _, h2, h3⟩ | ⟨_, _, _, hk, _, _⟩ | ⟨_, _, _, hk, _, _⟩ | ⟨_, hk, _, _⟩ | ⟨hk, _, _⟩
  · exact absurd hk (by decide)
  · exact ⟨K, h1, h2, h3⟩
  all_goals exact absurd hk (by decide)
theorem KindTo.partI {d d' : Gl} {r : List UInt8} (h : KindTo d kPart r d') : ∃ p : Part, p.1.natAbs < 10 ^ 18 ∧ ptOk p.2.1 p.2.2 = true ∧ r = decL p.1 ++ [32] ++ ptT p.2.1 p.2.2 ∧ d' = ⟨d.name, d.code, d.adv, d.out, d.parts ++ [p], d.anchors, d.hints⟩ := by
  rcases h with ⟨_, _, _, _, _, _, hk, _, _⟩ | ⟨_, _, hk, _, _⟩ | ⟨p, h1, h2, _, h3, h4⟩ | ⟨_, _, _, hk, _, _⟩ | ⟨_, hk, _, _⟩ | ⟨hk, _, _⟩
  · exact absurd hk (by decide)
  · exact absurd hk (by decide)
  · exact ⟨p, h1, h2, h3, h4⟩
  all_goals exact absurd hk (by decide)
theorem KindTo.anchI {d d' : Gl} {r : List UInt8} (h : KindTo d kAnch r d') : ∃ a : Anch, nameB a.1 = true ∧ ptOk a.2.1 a.2.2 = true ∧ r = a.1.data.toList ++ [32] ++ ptT a.2.1 a.2.2 ∧ d' = ⟨d.name, d.code, d.adv, d.out, d.parts, d.anchors ++ [a], d.hints⟩ := by
  rcases h with ⟨_, _, _, _, _, _, hk, _, _⟩ | ⟨_, _, hk, _, _⟩ | ⟨_, _, _, hk, _, _⟩ | ⟨a, h1, h2, _, h3, h4⟩ | ⟨_, hk, _, _⟩ | ⟨hk, _, _⟩
  · exact absurd hk (by decide)
  · exact absurd hk (by decide)
  · exact absurd hk (by decide)
  · exact ⟨a, h1, h2, h3, h4⟩
  all_goals exact absurd hk (by decide)
theorem KindTo.hintI {d d' : Gl} {r : List UInt8} (h : KindTo d kHint r d') : ∃ l : ByteArray, r = hexT l.data.toList ∧ d' = ⟨d.name, d.code, d.adv, d.out, d.parts, d.anchors, l⟩ := by
  rcases h with ⟨_, _, _, _, _, _, hk, _, _⟩ | ⟨_, _, hk, _, _⟩ | ⟨_, _, _, hk, _, _⟩ | ⟨_, _, _, hk, _, _⟩ | ⟨l, _, h1, h2⟩ | ⟨hk, _, _⟩
  · exact absurd hk (by decide)
  · exact absurd hk (by decide)
  · exact absurd hk (by decide)
  · exact absurd hk (by decide)
  · exact ⟨l, h1, h2⟩
  · exact absurd hk (by decide)
theorem KindTo.other {d d' : Gl} {k r : List UInt8} (h : KindTo d k r d') (h1 : k ≠ kGlyph) (h2 : k ≠ kLoop) (h3 : k ≠ kPart) (h4 : k ≠ kAnch) (h5 : k ≠ kHint) : k = endW ∧ r = [] ∧ d' = d := by
  rcases h with ⟨_, _, _, _, _, _, hk, _, _⟩ | ⟨_, _, hk, _, _⟩ | ⟨_, _, _, hk, _, _⟩ | ⟨_, _, _, hk, _, _⟩ | ⟨_, hk, _, _⟩ | ⟨hk, hr, hd⟩
  · exact absurd hk h1
  · exact absurd hk h2
  · exact absurd hk h3
  · exact absurd hk h4
  · exact absurd hk h5
  · exact ⟨hk, hr, hd⟩
/-- what is read so far is bounded -/
structure RB (d : Gl) (i : Nat) : Prop where
  o : d.out.length ≤ i
  k : ∀ K ∈ d.out, K.length ≤ 1048577
  p : d.parts.length ≤ i
  a : d.anchors.length ≤ i
  nm : d.name.size ≤ 1048576
  hn : d.hints.size ≤ 1048576
  an : ∀ a ∈ d.anchors, a.1.size ≤ 1048576
theorem RB.small {d : Gl} {i : Nat} (h : RB d i) (hi : i ≤ 1000000000) : d.small 1000000000 := ⟨Nat.le_trans h.o hi, fun K hK => Nat.le_trans (h.k K hK) (by decide), Nat.le_trans h.p hi, Nat.le_trans h.a hi⟩
theorem RB.str {d : Gl} {i : Nat} (h : RB d i) : d.str := ⟨Nat.le_trans h.nm (by decide), Nat.le_trans h.hn (by decide), fun a ha => Nat.le_trans (h.an a ha) (by decide)⟩
theorem RB.up {d : Gl} {i : Nat} (h : RB d i) : RB d (i + 1) := ⟨Nat.le_succ_of_le h.o, h.k, Nat.le_succ_of_le h.p, Nat.le_succ_of_le h.a, h.nm, h.hn, h.an⟩
/-- the glyph after i of its lines -/
def glSt (g : Gl) : Nat → Gl
  | 0 => ⟨⟨#[]⟩, 0, 0, [], [], [], ⟨#[]⟩⟩
  | i + 1 => ⟨g.name, g.code, g.adv, g.out.take i, g.parts.take (i - g.out.length), g.anchors.take (i - g.out.length - g.parts.length), if i ≤ g.out.length + g.parts.length + g.anchors.length then ⟨#[]⟩ else g.hints⟩
theorem anchsOk_at {L : List Anch} (h : anchsOk L = true) : ∀ a ∈ L, nameB a.1 = true ∧ ptOk a.2.1 a.2.2 = true := by
  intro a ha
  obtain ⟨j, hj⟩ := List.getElem?_of_mem ha
  have hl := (List.getElem?_eq_some_iff.1 hj).1
  have := range_at h hl
  rw [anchAt_eq hj, Bool.and_eq_true, Bool.and_eq_true] at this
  exact this.1
theorem glyphOk_parts {g : Gl} (h : glyphOk g = true) : nameB g.name = true ∧ (-1 ≤ g.code ∧ g.code ≤ 65535) ∧ (0 ≤ g.adv ∧ g.adv ≤ 262144) ∧ (∀ K ∈ g.out, loopOk K = true) ∧ (∀ p ∈ g.parts, partOk p = true) ∧ (∀ a ∈ g.anchors, nameB a.1 = true ∧ ptOk a.2.1 a.2.2 = true) := by
  unfold glyphOk at h
  simp only [Bool.and_eq_true] at h
  obtain ⟨⟨⟨⟨⟨⟨⟨⟨⟨h1, h2⟩, h3⟩, h4⟩, h5⟩, h6⟩, h7⟩, h8⟩, h9⟩, _⟩ := h
  unfold outOk at h4
  rw [Bool.and_eq_true] at h4
  exact ⟨h1, inB_iff.1 h2, inB_iff.1 h3, List.all_eq_true.1 h4.1, List.all_eq_true.1 h8, anchsOk_at h9⟩
theorem take_next {α : Type} {L : List α} {i : Nat} {a : α} (h : L[i]? = some a) : L.take (i + 1) = L.take i ++ [a] := by
  rw [List.take_add_one, h]; rfl
theorem empty_of {b : ByteArray} (h : b.data.toList = []) : b = ⟨#[]⟩ := by
  cases b with
  | mk a => simp at h; subst h; rfl
theorem gl_step {g : Gl} (h : glyphOk g = true) {i : Nat} {l : List UInt8} (hl : (glLines g)[i]? = some l) : LineTo (glSt g i) l (glSt g (i + 1)) := by
  obtain ⟨h1, h2, h3, h4, h5, h6⟩ := glyphOk_parts h
  cases i with
  | zero =>
    simp [glLines] at hl
    subst hl
    exact ⟨kGlyph, _, .head g.name g.code g.adv h1 (by omega) (by omega) rfl rfl (by simp [glSt]), .inl ⟨by decide, by simp [headW, kGlyph]⟩⟩
  | succ i =>
    rw [glLines, List.getElem?_cons_succ, List.getElem?_append, List.length_map] at hl
    split at hl
    · next hi =>
      rw [List.getElem?_map, List.getElem?_eq_getElem hi] at hl
      injection hl with hl
      subst hl
      refine ⟨kLoop, _, .loop g.out[i] (h4 _ (List.getElem_mem hi)) rfl rfl ?_, .inl ⟨by decide, by simp [loopW, kLoop]⟩⟩
      have e1 : i - g.out.length = 0 := by omega
      have e2 : i + 1 - g.out.length = 0 := by omega
      simp only [glSt, take_next (List.getElem?_eq_getElem hi), e1, e2, if_pos (show i + 1 ≤ g.out.length + g.parts.length + g.anchors.length by omega), if_pos (show i ≤ g.out.length + g.parts.length + g.anchors.length by omega), Nat.zero_sub]
    · next hi =>
      have o1 : g.out.take i = g.out := List.take_of_length_le (by omega)
      have o2 : g.out.take (i + 1) = g.out := List.take_of_length_le (by omega)
      rw [List.getElem?_append, List.length_map] at hl
      split at hl
      · next hj =>
        rw [List.getElem?_map, List.getElem?_eq_getElem hj] at hl
        injection hl with hl
        subst hl
        have hp := h5 _ (List.getElem_mem hj)
        unfold partOk at hp
        rw [Bool.and_eq_true] at hp
        have hp1 := inB_iff.1 hp.1
        refine ⟨kPart, _, .part g.parts[i - g.out.length] (by omega) hp.2 rfl rfl ?_, .inl ⟨by decide, by simp [partW, kPart]⟩⟩
        have e0 : i + 1 - g.out.length = i - g.out.length + 1 := by omega
        have e1 : i - g.out.length - g.parts.length = 0 := by omega
        have e2 : i - g.out.length + 1 - g.parts.length = 0 := by omega
        simp only [glSt, o1, o2, e0, take_next (List.getElem?_eq_getElem hj), e1, e2, if_pos (show i + 1 ≤ g.out.length + g.parts.length + g.anchors.length by omega), if_pos (show i ≤ g.out.length + g.parts.length + g.anchors.length by omega)]
      · next hj =>
        have p1 : g.parts.take (i - g.out.length) = g.parts := List.take_of_length_le (by omega)
        have p2 : g.parts.take (i + 1 - g.out.length) = g.parts := List.take_of_length_le (by omega)
        rw [List.getElem?_append, List.length_map] at hl
        split at hl
        · next hk =>
          rw [List.getElem?_map, List.getElem?_eq_getElem hk] at hl
          injection hl with hl
          subst hl
          obtain ⟨ha1, ha2⟩ := h6 _ (List.getElem_mem hk)
          refine ⟨kAnch, _, .anch g.anchors[i - g.out.length - g.parts.length] ha1 ha2 rfl rfl ?_, .inl ⟨by decide, by simp [anchW, kAnch]⟩⟩
          have e0 : i + 1 - g.out.length - g.parts.length = i - g.out.length - g.parts.length + 1 := by omega
          simp only [glSt, o1, o2, p1, p2, e0, take_next (List.getElem?_eq_getElem hk), if_pos (show i + 1 ≤ g.out.length + g.parts.length + g.anchors.length by omega), if_pos (show i ≤ g.out.length + g.parts.length + g.anchors.length by omega)]
        · next hk =>
          have a1 : g.anchors.take (i - g.out.length - g.parts.length) = g.anchors := List.take_of_length_le (by omega)
          have a2 : g.anchors.take (i + 1 - g.out.length - g.parts.length) = g.anchors := List.take_of_length_le (by omega)
          have q2 : ¬ i + 1 ≤ g.out.length + g.parts.length + g.anchors.length := by omega
          obtain ⟨m, hm⟩ : ∃ m, m = i - g.out.length - g.parts.length - g.anchors.length := ⟨_, rfl⟩
          rw [← hm] at hl
          by_cases hh : g.hints.data.toList = []
          · have hz : g.hints = ⟨#[]⟩ := empty_of hh
            rw [show hintW g.hints.data.toList = [] by unfold hintW; rw [if_pos hh], List.nil_append] at hl
            cases m with
            | succ m => simp at hl
            | zero =>
              simp at hl
              subst hl
              refine ⟨endW, [], .fin rfl rfl ?_, .inr ⟨rfl, rfl⟩⟩
              simp only [glSt, o1, o2, p1, p2, a1, a2, if_neg q2]
              split
              · rw [hz]
              · rfl
          · rw [show hintW g.hints.data.toList = [[104, 105, 110, 116, 115, 32] ++ hexT g.hints.data.toList] by unfold hintW; rw [if_neg hh]] at hl
            cases m with
            | zero =>
              simp at hl
              subst hl
              refine ⟨kHint, _, .hint g.hints rfl rfl ?_, .inl ⟨by decide, by simp [kHint]⟩⟩
              simp only [glSt, o1, o2, p1, p2, a1, a2, if_neg q2]
            | succ m =>
              cases m with
              | succ m => simp at hl
              | zero =>
                simp at hl
                subst hl
                refine ⟨endW, [], .fin rfl rfl ?_, .inr ⟨rfl, rfl⟩⟩
                simp only [glSt, o1, o2, p1, p2, a1, a2, if_neg q2, if_neg (show ¬ i ≤ g.out.length + g.parts.length + g.anchors.length by omega)]
theorem gl_end {g : Gl} : glSt g (glLines g).length = g := by
  obtain ⟨m, hm⟩ : ∃ m, (glLines g).length = m + 1 ∧ g.out.length + g.parts.length + g.anchors.length < m := by
    refine ⟨_, rfl, ?_⟩
    simp; omega
  rw [hm.1]
  have h := hm.2
  simp only [glSt]
  rw [List.take_of_length_le (by omega), List.take_of_length_le (by omega), List.take_of_length_le (by omega), if_neg (by omega)]
end Go.Proofs.YtgdkabljgabjoaaGreatDoor

