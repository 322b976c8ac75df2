/- A loop's text read, the program's side. Conditions: as each states. -/
import Derived.Test.YtgdkabljgabjoaaGreatDoorRb22
import Derived.Test.YtgdkabljgabjoaaGreatDoorRb23
namespace Go.Proofs.YtgdkabljgabjoaaGreatDoor
open Go.RowKit
set_option linter.unusedVariables false
set_option maxRecDepth 100000
set_option maxRecDepth 100000

theorem cutTilde_any (s : ByteArray) (w : World) :
    Calls Tryz.prog 45 #[.string s, .string ⟨#[126]⟩] w fun e w' => ∃ (off : Bool) (r : List UInt8), e = .returned (.tuple #[.string ⟨r.toArray⟩, .bool off]) ∧ (off = true ∧ s.data.toList = 126 :: r ∨ off = false ∧ s.data.toList = r ∧ ∀ u, r ≠ 126 :: u) ∧ w = w' := by
  refine (Tryz.strings_CutPrefix s ⟨#[126]⟩ w).mono ?_
  rintro e w' ⟨rfl, rfl⟩
  cases hs : s.data.toList with
  | nil => exact ⟨false, [], by simp [Lib.trimPrefix, Lib.hasPrefix], .inr ⟨rfl, rfl, fun u h => by cases h⟩, rfl⟩
  | cons a u =>
    by_cases ha : a = 126
    · subst ha
      exact ⟨true, u, by simp [Lib.trimPrefix, Lib.hasPrefix], .inl ⟨rfl, rfl⟩, rfl⟩
    · exact ⟨false, a :: u, by simp [Lib.trimPrefix, Lib.hasPrefix, List.isPrefixOf, Ne.symm ha], .inr ⟨rfl, rfl, fun v h => by injection h with h _; exact ha h⟩, rfl⟩
theorem splitI_any (s : ByteArray) (c : UInt8) (w : World) (hm : MaxI w) (hs : s.size ≤ 1048576) :
    Calls Tryz.prog 78 #[.string s, .string ⟨#[c]⟩] w fun e w' => ∃ n, n = (splitF c s.data.toList).length ∧ e = .returned (.slice (some ⟨w.heap.size, 0, none⟩) n n) ∧ (∀ (j : Nat) (l : List UInt8), (splitF c s.data.toList)[j]? = some l → w'.cell? ⟨w.heap.size, j, none⟩ = some (.string ⟨l.toArray⟩)) ∧ w.heap.size < w'.heap.size ∧ Below w.heap.size w w' := by
  obtain ⟨m, hm⟩ := hm
  have hcl := Tryz.strings_Split s ⟨#[c]⟩ m w (by omega) hm (by show 1 ≤ 1; omega)
  rw [splitB_is, countB_is] at hcl
  refine hcl.mono ?_
  rintro e w1 ⟨rfl, rfl⟩
  refine ⟨_, rfl, rfl, fun j l hj => ?_, by simp, Go.Joins.below_alloc1 _ _⟩
  rw [Go.Joins.cell_of_block (heap_alloc_new w _)]
  simp [hj]
/-- what reading a valid loop comes to -/
def LRPost (s : ByteArray) (w : World) (e : Ending) (w' : World) : Prop :=
  ∃ (K : List Knot) (A : Option Addr) (c : Nat) (t : Bool), e = .returned (.tuple #[.agg #[.slice A K.length c], .bool t]) ∧ w'.ownsRow w.heap.size 152 3 (.slice A K.length c) K.length (K.flatMap knotC) ∧ K.length ≤ s.size + 1 ∧ (∀ K0, loopOk K0 = true → s.data.toList = loopT K0 → t = true ∧ K = K0) ∧ Below w.heap.size w w'
theorem loopOk_parts {K : List Knot} (h : loopOk K = true) : K ≠ [] ∧ (∀ k ∈ K, knotOk k = true) ∧ K.length ≤ 60 := by
  unfold loopOk at h
  rw [Bool.and_eq_true, Bool.and_eq_true] at h
  have h1 := inB_iff.1 h.1.1
  exact ⟨fun e => by subst e; simp at h1, List.all_eq_true.1 h.2, by omega⟩
set_option maxHeartbeats 8000000 in
theorem readLoop_any (s : ByteArray) (w : World) (hm : MaxI w) (hs : s.size ≤ 1048576) :
    Calls Tryz.prog 79 #[.string s] w fun e w' => LRPost s w e w' := by
  have hml := hm.lt
  have hB0 : Below w.heap.size w ((w.alloc (.cells #[.slice none 0 0] 113 (0, 0))).alloc (.cells #[.slice none 0 0] 113 (0, 0))) := Go.Joins.below_alloc2 _ _ _
  obtain ⟨hR0, hX0⟩ := heap_new2 w (.cells #[.slice none 0 0] 113 (0, 0)) (.cells #[.slice none 0 0] 113 (0, 0))
  replace hR0 := Lib.hid hR0
  replace hX0 := Lib.hid hX0
  have hz0 : w.heap.size + 1 < ((w.alloc (.cells #[.slice none 0 0] 113 (0, 0))).alloc (.cells #[.slice none 0 0] 113 (0, 0))).heap.size := by simp
  have hm0 := hm.kept hB0 hml
  have hcs := Lib.hid (fun W h => splitI_any s 32 W h hs)
  have hsl := splitF_len 32 s.data.toList
  have hsl2 : s.data.toList.length = s.size := by simp
  rw [hsl2] at hsl
  clear hsl2
  replace hB0 := Lib.hid hB0
  replace hm := Lib.hid hm
  replace hm0 := Lib.hid hm0
  go_enter Tryz.func79, Tryz.ntmps79
  go_upto_region 2 with fail
  generalize (w.alloc (.cells #[.slice none 0 0] 113 (0, 0))).alloc (.cells #[.slice none 0 0] 113 (0, 0)) = w0 at *
  obtain ⟨ws, hws⟩ : ∃ ws, ws = splitF 32 s.data.toList := ⟨_, rfl⟩
  rw [← hws] at hsl hcs
  replace hws := Lib.hid hws
  go_wp2_with fail
  refine (hcs.out _ hm0.out).mono ?_
  rintro e w1 ⟨n, hn, rfl, hW, hg1, hb1⟩
  obtain ⟨g, hg⟩ : ∃ g, g = w0.heap.size := ⟨_, rfl⟩
  have hz1 := hb1.size
  rw [← hg]
  rw [← hg] at hW
  rw [← hg] at hg1
  rw [← hg] at hb1
  have hX1 := Lib.hid ((hb1.block (w.heap.size + 1) (by rw [hg]; exact hz0)).trans hX0.out)
  have hR1 := Lib.hid ((hb1.block w.heap.size (by rw [hg]; omega)).trans hR0.out)
  have hB1 := Lib.hid (hB0.out.trans (hb1.mono (by rw [hg]; omega)))
  have hgw : w.heap.size + 1 < g := by omega
  have hgw2 : w.heap.size + 1 ≤ g := by omega
  have hn2 : n ≤ s.size + 1 := by omega
  replace hn := Lib.hid hn
  replace hW := Lib.hid hW
  clear hcs hX0 hR0 hB0 hz0 hb1 hm0 hg hz1 hsl
  go_wp2_with fail
  go_loopw [14] (fun iv wr => ∃ (i : Nat) (K : List Knot) (A : Option Addr) (c : Nat), iv = .int .i64 i ∧ i ≤ n ∧ K.length = i ∧ wr.heap[w.heap.size + 1]? = some (.cells #[.slice A i c] 113 (0, 0)) ∧ wr.ownsRow (g + 1) 152 3 (.slice A i c) i (K.flatMap knotC) ∧ wr.heap[g]? = w1.heap[g]? ∧ wr.heap[w.heap.size]? = some (.cells #[.slice none 0 0] 113 (0, 0)) ∧ (∀ K0, K0 ≠ [] → (∀ k ∈ K0, knotOk k = true) → s.data.toList = loopT K0 → K = K0.take i) ∧ g + 1 ≤ wr.heap.size ∧ Below w.heap.size w wr) (fun iv wr => n - (intOf iv).toNat)
  case atStart => exact ⟨0, [], none, 0, rfl, Nat.zero_le _, rfl, hX1.out, World.ownsRow_nil _ _ _ _, rfl, hR1.out, fun K0 _ _ _ => by simp, hg1, hB1.out⟩
  case round =>
    clear hR1 hX1 hB1 hg1
    obtain ⟨i, K, A, c, rfl, hi, hKl, hX, hrow, hg, hR, hcm, hz, hbel⟩ := hrel
    have hX' : w.heap.size + 1 < wr.heap.size := by omega
    have hgl : g < wr.heap.size := by omega
    have x0 : wr.cell? ⟨w.heap.size + 1, 0, none⟩ = some (.slice A i c) := by rw [Go.Joins.cell_of_block hX]; rfl
    have xf : ∀ o, wr.frozen? ⟨w.heap.size + 1, o, none⟩ = false := Go.Joins.unfrozen_of_block hX
    have r0 : wr.cell? ⟨w.heap.size, 0, none⟩ = some (.slice none 0 0) := by rw [Go.Joins.cell_of_block hR]; rfl
    have rf : ∀ o, wr.frozen? ⟨w.heap.size, o, none⟩ = false := Go.Joins.unfrozen_of_block hR
    have hwl : w.heap.size < wr.heap.size := by omega
    replace hX := Lib.hid hX
    replace hR := Lib.hid hR
    replace hrow := Lib.hid hrow
    replace hg := Lib.hid hg
    replace hKl := Lib.hid hKl
    replace hcm := Lib.hid hcm
    by_cases hlt : i < n
    · have hti : (i : Int) < (n : Int) := by omega
      have hti0 : (0 : Int) ≤ (i : Int) ∧ (i : Int) < (n : Int) := by omega
      obtain ⟨l, hl⟩ : ∃ l, ws[i]? = some l := ⟨_, List.getElem?_eq_getElem (by have := hn.out; omega)⟩
      have q0 : wr.cell? ⟨g, i, none⟩ = some (.string ⟨l.toArray⟩) := (World.cell?_of_block hg.out).trans (hW.out i l hl)
      replace hl := Lib.hid hl
      go_upto_region 5 with fail
      go_wp2_with fail
      refine (cutTilde_any ⟨l.toArray⟩ wr).mono ?_
      rintro e w2 ⟨off, r, rfl, hor, rfl⟩
      replace hor : off = true ∧ l = 126 :: r ∨ off = false ∧ l = r ∧ ∀ u, r ≠ 126 :: u := hor
      have hrl : r.length ≤ 1048576 := by
        have h1 := splitF_mem 32 s.data.toList l (by rw [← hws.out]; exact List.mem_of_getElem? hl.out)
        have h2 : s.data.toList.length = s.size := by simp
        rcases hor with ⟨_, rfl⟩ | ⟨_, rfl, _⟩
        · simp at h1; omega
        · omega
      have hknot : Hid (∀ k : Knot, knotT k = l → k.2.2 = !off ∧ r = ptT k.1 k.2.1) := fun k hk => by
        rcases hor with ⟨rfl, rfl⟩ | ⟨rfl, rfl, hno⟩
        · exact knot_off hk
        · obtain ⟨h1, h2⟩ := knot_on (k := k) (by rw [hk]; exact hno)
          exact ⟨h1, hk.symm.trans h2⟩
      have hcmp : Hid ((∀ x0 y0, r = ptT x0 y0 → ptOk x0 y0 = true → False) → ∀ K0, K0 ≠ [] → (∀ k ∈ K0, knotOk k = true) → s.data.toList = loopT K0 → False) := fun hxy K0 h0 hk hs0 => by
        obtain ⟨k, h1, h2, h3⟩ := line_word hws.out h0 hs0 hl.out
        exact hxy k.1 k.2.1 (hknot.out k h2).2 (hk k h3)
      have hcmy : Hid (∀ x y, (∀ x0 y0, r = ptT x0 y0 → ptOk x0 y0 = true → x = x0 ∧ y = y0) → ∀ K0, K0 ≠ [] → (∀ k ∈ K0, knotOk k = true) → s.data.toList = loopT K0 → K ++ [(x, y, !off)] = K0.take (i + 1)) := fun x y hxy K0 h0 hk hs0 => by
        obtain ⟨k, h1, h2, h3⟩ := line_word hws.out h0 hs0 hl.out
        obtain ⟨h5, h4⟩ := hknot.out k h2
        obtain ⟨rfl, rfl⟩ := hxy k.1 k.2.1 h4 (hk k h3)
        have := line_take (hcm.out K0 h0 hk hs0) h1
        rw [← this, ← h5]
      clear hor hknot
      go_wp2_with fail
      refine (implReadPt_any ⟨r.toArray⟩ wr (by show r.length ≤ 1048576; exact hrl)).mono ?_
      intro e w3 hP
      obtain ⟨x, y, t, rfl, hxy, hb3⟩ := hP.get
      clear hP
      have hz3 := hb3.size
      have x0 : w3.cell? ⟨w.heap.size + 1, 0, none⟩ = some (.slice A i c) := (hb3.cell hX').trans x0
      have r0 : w3.cell? ⟨w.heap.size, 0, none⟩ = some (.slice none 0 0) := (hb3.cell hwl).trans r0
      have xf : ∀ o, w3.frozen? ⟨w.heap.size + 1, o, none⟩ = false := fun o => (World.frozen?_of_block (hb3.block _ hX')).trans (xf o)
      have rf : ∀ o, w3.frozen? ⟨w.heap.size, o, none⟩ = false := fun o => (World.frozen?_of_block (hb3.block _ hwl)).trans (rf o)
      have hX3 : w.heap.size + 1 < w3.heap.size := by omega
      have hwl3 : w.heap.size < w3.heap.size := by omega
      have hB3 := Lib.hid (hbel.trans (hb3.mono hbel.size))
      have hK3 : Hid (∀ b, b < wr.heap.size → w3.heap[b]? = wr.heap[b]?) := fun b hb => hb3.block b hb
      have hrow3 := Lib.hid (mg_ownS hrow.out fun b _ hb => hb3.block b hb)
      replace hxy := Lib.hid hxy
      clear hb3
      have hbb : Below w3.heap.size w3 (w3.alloc (.cells #[.int .i64 x, .int .i64 y] 102 (0, 0))) := Go.Joins.below_alloc1 _ _
      have x4 := (hbb.cell hX3).trans x0
      have r4 := (hbb.cell hwl3).trans r0
      have xf4 : ∀ o, (w3.alloc (.cells #[.int .i64 x, .int .i64 y] 102 (0, 0))).frozen? ⟨w.heap.size + 1, o, none⟩ = false := fun o => (World.frozen?_of_block (hbb.block _ hX3)).trans (xf o)
      have rf4 : ∀ o, (w3.alloc (.cells #[.int .i64 x, .int .i64 y] 102 (0, 0))).frozen? ⟨w.heap.size, o, none⟩ = false := fun o => (World.frozen?_of_block (hbb.block _ hwl3)).trans (rf o)
      have hP4 := heap_alloc_new w3 (.cells #[.int .i64 x, .int .i64 y] 102 (0, 0))
      have p0 : (w3.alloc (.cells #[.int .i64 x, .int .i64 y] 102 (0, 0))).cell? ⟨w3.heap.size, 0, none⟩ = some (.int .i64 x) := by rw [Go.Joins.cell_of_block hP4]; rfl
      have p1 : (w3.alloc (.cells #[.int .i64 x, .int .i64 y] 102 (0, 0))).cell? ⟨w3.heap.size, 1, none⟩ = some (.int .i64 y) := by rw [Go.Joins.cell_of_block hP4]; rfl
      have hB4 := Lib.hid (hB3.out.trans (hbb.mono (Nat.le_of_lt hwl3)))
      have hK4 : Hid (∀ b, b < wr.heap.size → (w3.alloc (.cells #[.int .i64 x, .int .i64 y] 102 (0, 0))).heap[b]? = wr.heap[b]?) := fun b hb => (hbb.block b (by omega)).trans (hK3.out b hb)
      have hrow4 := Lib.hid (mg_ownS hrow3.out fun b _ hb => hbb.block b hb)
      have hz4 : w3.heap.size + 1 ≤ (w3.alloc (.cells #[.int .i64 x, .int .i64 y] 102 (0, 0))).heap.size := by simp
      clear hP4 hbb x0 r0 xf rf hrow3 hB3 hK3
      go_upto_region 7 with fail
      generalize w3.alloc (.cells #[.int .i64 x, .int .i64 y] 102 (0, 0)) = w4 at *
      cases t
      · go_wp2_with fail
        exact bodyPost_ret (v := .tuple #[.agg #[.slice none 0 0], .bool false]) (by simp [results, Tryz.results79, go_sem, r4]) rfl ⟨[], none, 0, false, rfl, World.ownsRow_nil _ _ _ _, Nat.zero_le _, fun K0 h0 hs0 => (hcmp.out (fun x0 y0 h1 h2 => by have := (hxy.out x0 y0 h1 h2).1; first | exact this.elim | cases this) K0 (loopOk_parts h0).1 (loopOk_parts h0).2.1 hs0).elim, hB4.out.setCell (p := ⟨w.heap.size, 0, none⟩) (Nat.le_refl _) _⟩
      · have hne : Hid (∀ b, b ≤ g → (Value.slice A i c).ownBlock ≠ some b) := fun b hb e => by have := (hrow4.out.lt _ e).1; omega
        go_wp2_with (at_builtin; refine wpAppAt rfl (.tmp 32) (.tmp 37) elemKnot rfl (v := .slice A i c) (n := i) (xs := K.flatMap knotC) rfl (hrow4.out.alloc _) rfl (src_at (cs := [.int .i64 x, .int .i64 y, .bool (!off)]) rfl (by simp [Value.oneCell']) (by simp)) (by omega) (by omega) (by simp; omega) (i + 1) rfl ?_; intro A5 c5 w5 ho5 hg5 _; have hk5 : ∀ b, b ≤ g → w5.heap[b]? = w4.heap[b]? := (fun b hb => (hg5.block b (by simp; omega) (fun e => hne.out b hb e.symm)).trans (Below.heap_alloc _ _ _ (by omega))); have x5 : w5.cell? ⟨w.heap.size + 1, 0, none⟩ = some (.slice A i c) := (World.cell?_of_block (hk5 _ hgw2)).trans x4; have f5 : ∀ o, w5.frozen? ⟨w.heap.size + 1, o, none⟩ = false := (fun o => (World.frozen?_of_block (hk5 _ hgw2)).trans (xf4 o)); replace hk5 := Lib.hid hk5; replace ho5 := Lib.hid ho5; replace hg5 := Lib.hid hg5)
        go_roundw
        case rel =>
          have hg5z : w4.heap.size + 1 ≤ w5.heap.size := by have := hg5.out.size; simpa using this
          refine ⟨i + 1, K ++ [(x, y, !off)], A5, c5, by go_num, by omega, by have := hKl.out; simp; omega, ?_, ?_, ?_, ?_, hcmy.out x y (fun x0 y0 h1 h2 => (hxy.out x0 y0 h1 h2).2), by simp; omega, ?_⟩
          · exact Go.Joins.block_setCell ((hk5.out _ (by omega)).trans ((hK4.out _ hX').trans hX.out)) (.slice A5 (i + 1) c5)
          · refine ownsRow_setCell_below ?_ (by show w.heap.size + 1 < g + 1; omega) _
            rw [List.flatMap_append, List.flatMap_cons, List.flatMap_nil, List.append_nil]
            exact ho5.out
          · exact (Below.heap_setCell _ _ _ _ (by simp only; omega)).trans ((hk5.out g (Nat.le_refl _)).trans ((hK4.out g hgl).trans hg.out))
          · exact (Below.heap_setCell _ _ _ _ (by simp only; omega)).trans ((hk5.out _ (by omega)).trans ((hK4.out _ hwl).trans hR.out))
          · exact ((hB4.out.alloc hB4.out.size _).grown hg5.out (by simp; omega) (fun b hb => by have := (hrow4.out.lt _ hb).1; omega)).setCell (p := ⟨w.heap.size + 1, 0, none⟩) (by show w.heap.size ≤ w.heap.size + 1; omega) _
        case measure => simp [intOf]; omega
    · have hin : i = n := by omega
      have hti : ¬ (i : Int) < (n : Int) := by omega
      have hfin : Hid (∀ K0, K0 ≠ [] → (∀ k ∈ K0, knotOk k = true) → s.data.toList = loopT K0 → K = K0) := fun K0 h0 hk hs0 => by
        have h1 := hws.out
        rw [hs0, words_loop K0 h0] at h1
        have h2 : n = K0.length := by rw [hn.out, h1]; simp
        rw [hcm.out K0 h0 hk hs0, List.take_of_length_le (by omega)]
      replace hin := Lib.hid hin
      have hrd := Lib.hid (rdS_own knotC_len (by decide) hrow.out hKl.out)
      have hvl := Lib.hid (fun W hW => validLoop_any A i c (g + 1) W.heap.size K (loopOk K) rfl W hW (Nat.le_refl _) (by omega))
      go_upto_region 11 with fail
      go_region_held3 (fun w' => w'.cell? ⟨w.heap.size + 1, 0, none⟩ = some (.slice A i c)) (first | exact x0 | exact x2 | exact (World.cell?_of_block (Below.heap_setCell _ _ _ _ (by show w.heap.size + 1 ≠ w.heap.size; omega))).trans x2)
        (first | (go_at_call 104; (with_reducible refine (hvl.out _ ?_).mono ?_); (exact hrd.out.frame (good_flat _) (Below.sameB (by repeat (first | exact Below.refl _ _ | refine Below.drew ?_)) (Nat.le_refl _))); rintro e w2 ⟨rfl, hb2⟩; have hb2' : Below wr.heap.size wr w2 := Below.trans (by repeat (first | exact Below.refl _ _ | refine Below.drew ?_)) hb2; have x2 : w2.cell? ⟨w.heap.size + 1, 0, none⟩ = some (.slice A i c) := (hb2'.cell (p := ⟨w.heap.size + 1, 0, none⟩) hX').trans x0; have r2 : w2.cell? ⟨w.heap.size, 0, none⟩ = some (.slice none 0 0) := (hb2'.cell (p := ⟨w.heap.size, 0, none⟩) hwl).trans r0; have rf2 : ∀ o, w2.frozen? ⟨w.heap.size, o, none⟩ = false := (fun o => (World.frozen?_of_block (hb2'.block _ hwl)).trans (rf o)); have hl2 : w.heap.size < w2.heap.size := Nat.lt_of_lt_of_le hwl hb2'.size))
      have hB2 := Lib.hid (hbel.trans (hb2'.mono hbel.size))
      have hrow2 := Lib.hid (mg_ownS hrow.out fun b _ hb => hb2'.block b hb)
      go_wp2_with fail
      refine bodyPost_ret (v := .tuple #[.agg #[.slice A i c], .bool (loopOk K)]) (by simp [results, Tryz.results79, go_sem, r2]) rfl ⟨K, A, c, loopOk K, by rw [hKl.out], ?_, by have := hKl.out; omega, fun K0 h0 hs0 => ?_, hB2.out.setCell (p := ⟨w.heap.size, 0, none⟩) (Nat.le_refl _) _⟩
      · rw [hKl.out]
        exact own_lower (ownsRow_setCell_below hrow2.out (by show w.heap.size < g + 1; omega) _) (by omega)
      · have e := hfin.out K0 (loopOk_parts h0).1 (loopOk_parts h0).2.1 hs0
        subst e
        exact ⟨h0, rfl⟩
end Go.Proofs.YtgdkabljgabjoaaGreatDoor

