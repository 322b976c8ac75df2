/- The text of a loop, the program's. Conditions: as it states. -/
import Derived.Test.YtgdkabljgabjoaaGreatDoorRa33
import Derived.Test.YtgdkabljgabjoaaGreatDoorShelf
import Derived.Test.YtgdkabljgabjoaaGreatDoorRa13
namespace Go.Proofs.YtgdkabljgabjoaaGreatDoor
open Go.RowKit
set_option linter.unusedVariables false
set_option maxRecDepth 100000

theorem strV_snoc (l : List (List UInt8)) (a : List UInt8) : strV (l ++ [a]) = strV l ++ [.string (bS a)] := by simp [strV, bS]
theorem join_words (K : List Knot) : Lib.join ((K.map fun k => bS (knotT k)).map (·.data.toList)) [32] = loopT K := by
  unfold loopT
  congr 1
  rw [List.map_map]
  rfl

set_option maxHeartbeats 2000000 in
theorem loopText_any (A : Option Addr) (n c lo hi : Nat) (K : List Knot) (hv : loopOk K = true) (w : World) (hr : RdS 3 (FlatR knotC) w lo hi A n K) (hhi : hi ≤ w.heap.size) :
    Calls Tryz.prog 68 #[.agg #[.slice A n c]] w fun e w' => e = .returned (.string (bS (loopT K))) ∧ Below w.heap.size w w' := by
  obtain ⟨i0, hi0, hz0, hs0, hby0⟩ := info_parts (show (Tryz.prog.info? 9).map (fun i => (i.zero, i.size, i.bytes)) = some (some (.string ⟨#[]⟩), 1, 16) by kernel_rfl)
  have hln := hr.1
  obtain ⟨hK60, hK1, hkn⟩ := loopOk_is hv
  have hmax := loopT_max hv
  replace hr := Lib.hid hr
  replace hkn := Lib.hid hkn
  clear hv
  have hb0 : Below w.heap.size w (w.alloc (.cells #[.slice A n c] 113 (0, 0))) := Go.Joins.below_alloc1 _ _
  have HB := Lib.hid (heap_alloc_new w (.cells #[.slice A n c] 113 (0, 0)))
  have hz0' : (w.alloc (.cells #[.slice A n c] 113 (0, 0))).heap.size = w.heap.size + 1 := by simp
  go_enter Tryz.func68, Tryz.ntmps68
  go_wp2_with (at_make; refine wpList_make_own _ rfl _ _ 56 rfl (w.heap.size + 1) 9 i0 (.string ⟨#[]⟩) 1 Tryz.underlying56 hi0 hz0 hs0 .i64 .i64 _ n rfl rfl rfl (by rw [hby0]; omega) (by unfold maxLen; omega) (by simp) ?_; intro w0 hown0 hg0; have hb1 : Below w.heap.size w w0 := hb0.grown hg0 hb0.size (by simp); have HB0 := Lib.hid ((hg0.block w.heap.size (by omega) (by simp)).trans HB.out); have hz1 : w.heap.size + 1 ≤ w0.heap.size := (by have := hg0.size; omega); have q0 : w0.cell? ⟨w.heap.size, 0, none⟩ = some (.slice A n c) := (by rw [Go.Joins.cell_of_block HB0.out]; rfl); have ql : w.heap.size < w0.heap.size := (by omega); replace hown0 := Lib.hid hown0; clear hg0 hb0 HB hz0' hi0 hz0 hs0 hby0)
  go_loopw [3, 13] (fun out i wr => ∃ (k : Nat) (Aw : Option Addr) (cw : Nat), i = .int .i64 k ∧ k ≤ n ∧ out = .slice Aw k cw ∧ wr.ownsRow (w.heap.size + 1) 9 1 (.slice Aw k cw) k (strV ((K.take k).map knotT)) ∧ w.heap.size + 1 ≤ wr.heap.size ∧ Below w.heap.size w wr) (fun out i wr => n - (intOf i).toNat)
  case atStart => exact ⟨0, some ⟨w.heap.size + 1, 0, none⟩, n, rfl, Nat.zero_le _, rfl, by simpa [strV] using hown0.out, hz1, hb1⟩
  case round =>
    clear hown0 q0 ql
    obtain ⟨k, Aw, cw, rfl, hk, rfl, hown, hz, hbel⟩ := hrel
    replace hown := Lib.hid hown
    by_cases hlt : k < n
    · obtain ⟨b, off, x, rfl, _, hb, hx, hcs⟩ := (hr.out.frame (good_flat _) (Below.sameB hbel hhi)).at hlt
      have p0 := hcs 0 _ rfl
      have p1 := hcs 1 _ rfl
      have p2 := hcs 2 _ rfl
      simp only [Nat.add_zero] at p0
      have hvx : ptOk x.1 x.2.1 = true := hkn.out x (List.mem_of_getElem? hx)
      have hbw : b < wr.heap.size := by omega
      have hpz := ptS_size hvx
      have htk := Lib.hid (take_snoc hx)
      have hcall := Lib.hid (fun W => ptText_any x.1 x.2.1 hvx W)
      clear hcs hx hvx
      have hnext : Hid (∀ r : List UInt8, r = knotT x → strV ((K.take k).map knotT) ++ [.string (bS r)] = strV ((K.take (k + 1)).map knotT)) := fun r hr' => by
        rw [htk.out, List.map_append, hr', ← strV_snoc]; rfl
      obtain ⟨x1, x2, z⟩ := x
      dsimp only at p0 p1 p2 hpz hcall hnext
      have hba : Below w.heap.size w (wr.alloc (.cells #[.int .i64 x1, .int .i64 x2, .bool z] 152 (0, 0))) := hbel.alloc hbel.size _
      cases z
      all_goals
        go_wp2_with fail
        refine (hcall.out _).mono ?_
        rintro e w6 ⟨rfl, hb6⟩
        have hb7 := hba.trans (hb6.mono hba.size)
        have hz6 : wr.heap.size + 1 ≤ w6.heap.size := by have := hb6.size; simp at this; exact this
        have ho6 := Lib.hid (own_below (World.ownsRow.alloc hown.out _) hb6)
        clear hb6
        first
          | (go_wp2_with (at_builtin; refine wpApp rfl (.tmp 25) (.tmp 30) elemStr rfl (base := w.heap.size + 1) (v := .slice Aw k cw) (n := k) (xs := strV ((K.take k).map knotT)) rfl (ho6.out.alloc _) rfl (src_at (cs := [.string (bS [126] ++ bS (ptT x1 x2))]) rfl (by simp [Value.oneCell']) rfl) (by omega) (by omega) (by simp; omega) (k + 1) rfl ?_; intro A' c' w7 ho7 hb8)
             go_roundw
             case rel => exact ⟨k + 1, A', c', by go_num, by omega, rfl, by rw [← hnext.out ([126] ++ ptT x1 x2) (by simp [knotT]), ← bS_app]; exact ho7, by have := hb8.size; simp at this; omega, (hb7.alloc hb7.size _).trans (hb8.mono (by omega))⟩
             case measure => simp [intOf]; omega)
          | (go_wp2_with (at_builtin; refine wpApp rfl (.tmp 19) (.tmp 23) elemStr rfl (base := w.heap.size + 1) (v := .slice Aw k cw) (n := k) (xs := strV ((K.take k).map knotT)) rfl (ho6.out.alloc _) rfl (src_at (cs := [.string (bS (ptT x1 x2))]) rfl (by simp [Value.oneCell']) rfl) (by omega) (by omega) (by simp; omega) (k + 1) rfl ?_; intro A' c' w7 ho7 hb8)
             go_roundw
             case rel => exact ⟨k + 1, A', c', by go_num, by omega, rfl, by rw [← hnext.out (ptT x1 x2) (by simp [knotT])]; exact ho7, by have := hb8.size; simp at this; omega, (hb7.alloc hb7.size _).trans (hb8.mono (by omega))⟩
             case measure => simp [intOf]; omega)
    · have hkn' : k = n := by omega
      have hh := hown.out
      rw [hkn', List.take_of_length_le (by omega)] at hh
      obtain ⟨g, hg, _, hgl, hnc, hcell, _⟩ := own_at hh (by omega)
      subst hg
      have hxl : (K.map fun k => bS (knotT k)).length = n := by rw [List.length_map]; exact hln
      have hj := Tryz.strings_Join g 0 cw (K.map fun k => bS (knotT k)) ⟨#[32]⟩ wr (fun j x hj => by
        rw [Nat.zero_add]
        have h1 := hcell j (by have := (List.getElem?_eq_some_iff.1 hj).1; omega)
        rw [h1]
        rw [List.getElem?_map] at hj
        unfold strV
        rw [List.getElem?_map, List.getElem?_map]
        cases hk : K[j]? with
        | none => rw [hk] at hj; cases hj
        | some y => rw [hk] at hj; simp at hj; subst hj; rfl) hgl (by omega) (by omega) (by rw [show (⟨#[32]⟩ : ByteArray).data.toList = [32] from rfl, join_words]; omega)
      rw [hxl, show (⟨#[32]⟩ : ByteArray).data.toList = [32] from rfl, join_words] at hj
      replace hj := Lib.hid hj
      have hkn2 := Lib.hid hkn'
      subst hkn'
      clear hh hcell hnc
      go_wp2_with fail
      refine hj.out.mono ?_
      rintro e w9 ⟨rfl, hb9⟩
      have hb10 := hbel.trans (hb9.mono hbel.size)
      go_wp2_with fail
      go_ret
      exact ⟨rfl, hb10⟩
end Go.Proofs.YtgdkabljgabjoaaGreatDoor

/- The text of a glyph: plain facts. Conditions: as each states. -/
namespace Go.Proofs.YtgdkabljgabjoaaGreatDoor
set_option linter.unusedVariables false
set_option maxRecDepth 100000

structure GlT (g : Gl) : Prop where
  nm : g.name.size ≤ 12
  code : -1 ≤ g.code ∧ g.code ≤ 65535
  adv : 0 ≤ g.adv ∧ g.adv ≤ 262144
  out : outOk g.out = true
  pl : g.parts.length ≤ 6
  al : g.anchors.length ≤ 6
  hl : g.hints.size ≤ 400
  ps : ∀ p ∈ g.parts, (0 ≤ p.1 ∧ p.1 ≤ 39) ∧ ptOk p.2.1 p.2.2 = true
  ans : ∀ a ∈ g.anchors, a.1.size ≤ 12 ∧ ptOk a.2.1 a.2.2 = true
theorem nameB_le {s : ByteArray} (h : nameB s = true) : s.size ≤ 12 := by
  unfold nameB at h
  simp only [Bool.and_eq_true, decide_eq_true_eq] at h
  exact h.1.1.2
theorem glyphOk_is {g : Gl} (h : glyphOk g = true) : GlT g := by
  unfold glyphOk at h
  simp only [Bool.and_eq_true, decide_eq_true_eq] at h
  obtain ⟨⟨⟨⟨⟨⟨⟨⟨⟨h0, h1⟩, h2⟩, h3⟩, h4⟩, h5⟩, h6⟩, h7⟩, h8⟩, _⟩ := h
  refine ⟨nameB_le h0, inB_iff.1 h1, inB_iff.1 h2, h3, h4, h5, h6, fun p hp => ?_, fun a ha => ?_⟩
  · have := List.all_eq_true.1 h7 p hp
    unfold partOk at this
    rw [Bool.and_eq_true] at this
    exact ⟨inB_iff.1 this.1, this.2⟩
  · obtain ⟨j, hj⟩ := List.getElem?_of_mem ha
    have := range_at h8 (List.getElem?_eq_some_iff.1 hj).1
    rw [anchAt_eq hj, Bool.and_eq_true, Bool.and_eq_true] at this
    exact ⟨nameB_le this.1.1, this.1.2⟩
theorem dec_20 {n : Int} (h1 : -1000000 ≤ n) (h2 : n ≤ 1000000) : (decL n).length ≤ 20 := decL_len (by omega) (by omega)
theorem data_len (s : ByteArray) : s.data.toList.length = s.size := by simp
theorem headT_len {g : Gl} (h : GlT g) : (headT g.name.data.toList g.code g.adv).length ≤ 61 := by
  have a := dec_20 (n := g.code) (by have := h.code; omega) (by have := h.code; omega)
  have b := dec_20 (n := g.adv) (by have := h.adv; omega) (by have := h.adv; omega)
  have c := h.nm
  unfold headT
  simp only [List.length_append, List.length_cons, List.length_nil, data_len]
  omega
theorem partL_len {p : Part} (h : (0 ≤ p.1 ∧ p.1 ≤ 39) ∧ ptOk p.2.1 p.2.2 = true) : (partL p).length ≤ 68 := by
  have a := dec_20 (n := p.1) (by omega) (by omega)
  have b := ptT_len h.2
  unfold partL
  simp only [List.length_append, List.length_cons, List.length_nil]
  omega
theorem anchL_len {a : Anch} (h : a.1.size ≤ 12 ∧ ptOk a.2.1 a.2.2 = true) : (anchL a).length ≤ 62 := by
  have b := ptT_len h.2
  unfold anchL
  simp only [List.length_append, List.length_cons, List.length_nil, data_len]
  omega
theorem hintL_len {s : ByteArray} (h : s.size ≤ 400) : (hintL s.data.toList).length ≤ 807 := by
  have b := hexT_len s.data.toList
  rw [data_len] at b
  unfold hintL
  split
  · simp
  · simp only [List.length_append, List.length_cons, List.length_nil]
    omega
theorem loopL_len {K : List Knot} (h : loopOk K = true) : (loopL K).length ≤ 2586 := by
  have := loopT_max h
  unfold loopL
  simp only [List.length_append, List.length_cons, List.length_nil]
  omega
theorem flat_max {α : Type} {f : α → List UInt8} {B N : Nat} {L : List α} (h : ∀ a ∈ L, (f a).length ≤ B) (hn : L.length ≤ N) : (L.flatMap f).length ≤ B * N := Nat.le_trans (flat_len f B L h) (Nat.mul_le_mul_left B hn)
theorem flat_take_max {α : Type} {f : α → List UInt8} {B N : Nat} {L : List α} (h : ∀ a ∈ L, (f a).length ≤ B) (hn : L.length ≤ N) (k : Nat) : ((L.take k).flatMap f).length ≤ B * N :=
  flat_max (fun a ha => h a (mem_take ha)) (by rw [List.length_take]; omega)
theorem loops_max {g : Gl} (h : GlT g) (k : Nat) : ((g.out.take k).flatMap loopL).length ≤ 31032 := by
  obtain ⟨h1, h2⟩ := outOk_is h.out
  exact flat_take_max (fun K hK => loopL_len (h2 K hK)) h1 k
theorem parts_max {g : Gl} (h : GlT g) (k : Nat) : ((g.parts.take k).flatMap partL).length ≤ 408 := flat_take_max (fun p hp => partL_len (h.ps p hp)) h.pl k
theorem anchs_max {g : Gl} (h : GlT g) (k : Nat) : ((g.anchors.take k).flatMap anchL).length ≤ 372 := flat_take_max (fun a ha => anchL_len (h.ans a ha)) h.al k
theorem glyphT_max {g : Gl} (h : GlT g) : (glyphT g).length ≤ 33000 := by
  have a := headT_len h
  have b := loops_max h g.out.length
  have c := parts_max h g.parts.length
  have d := anchs_max h g.anchors.length
  have e := hintL_len h.hl
  rw [List.take_length] at b c d
  unfold glyphT
  simp only [List.length_append, List.length_cons, List.length_nil]
  omega
theorem head_text (nm : ByteArray) (c a : Int) : ((((((⟨#[103, 108, 121, 112, 104, 32]⟩ : ByteArray) ++ nm) ++ ⟨#[32]⟩) ++ decS c) ++ ⟨#[32]⟩) ++ decS a) ++ ⟨#[10]⟩ = bS (headT nm.data.toList c a) := by
  conv => lhs; rw [bS_of nm]
  show ((((((bS [103, 108, 121, 112, 104, 32]) ++ _) ++ bS [32]) ++ bS (decL c)) ++ bS [32]) ++ bS (decL a)) ++ bS [10] = _
  simp only [bS_app]
  rfl
theorem loop_text (K : List Knot) : ((⟨#[108, 111, 111, 112, 32]⟩ : ByteArray) ++ bS (loopT K)) ++ ⟨#[10]⟩ = bS (loopL K) := by
  show ((bS [108, 111, 111, 112, 32]) ++ _) ++ bS [10] = _
  simp only [bS_app]
  rfl
theorem part_text (p : Part) : ((((⟨#[112, 97, 114, 116, 32]⟩ : ByteArray) ++ decS p.1) ++ ⟨#[32]⟩) ++ bS (ptT p.2.1 p.2.2)) ++ ⟨#[10]⟩ = bS (partL p) := by
  show ((((bS [112, 97, 114, 116, 32]) ++ bS (decL p.1)) ++ bS [32]) ++ _) ++ bS [10] = _
  simp only [bS_app]
  rfl
theorem anch_text (a : Anch) : ((((⟨#[97, 110, 99, 104, 111, 114, 32]⟩ : ByteArray) ++ a.1) ++ ⟨#[32]⟩) ++ bS (ptT a.2.1 a.2.2)) ++ ⟨#[10]⟩ = bS (anchL a) := by
  conv => lhs; rw [bS_of a.1]
  show ((((bS [97, 110, 99, 104, 111, 114, 32]) ++ _) ++ bS [32]) ++ _) ++ bS [10] = _
  simp only [bS_app]
  rfl
theorem hint_text {s : ByteArray} (h : s ≠ ⟨#[]⟩) : ((⟨#[104, 105, 110, 116, 115, 32]⟩ : ByteArray) ++ bS (hexT s.data.toList)) ++ ⟨#[10]⟩ = bS (hintL s.data.toList) := by
  show ((bS [104, 105, 110, 116, 115, 32]) ++ _) ++ bS [10] = _
  simp only [bS_app]
  unfold hintL
  rw [if_neg (fun e => h (by rw [bS_of s, e]; rfl))]
theorem hint_none : hintL (⟨#[]⟩ : ByteArray).data.toList = [] := rfl
end Go.Proofs.YtgdkabljgabjoaaGreatDoor

