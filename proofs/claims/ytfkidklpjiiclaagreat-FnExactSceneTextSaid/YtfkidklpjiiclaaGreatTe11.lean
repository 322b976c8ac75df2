/- Row: how it lies in memory, the laws' own functions on it and on slices of it. Printed by rowgen.py. Conditions: as each states. -/
import Derived.BigQuiet
import Derived.Lib.QuietBelow
import Derived.Test.YtfkidklpjiiclaaGreatTe06
import Derived.Test.YtfkidklpjiiclaaGreatTe09
import Derived.Test.YtfkidklpjiiclaaGreatTe10
import Derived.Test.YtfkidklpjiiclaaGreatTe08
import Derived.Test.YtfkidklpjiiclaaGreatShelf
namespace Go.Proofs.YtfkidklpjiiclaaGreat
open Go.RowKit Go.ChangeShapes Go.WideShapes Go.Deep
set_option linter.unusedVariables false
set_option maxRecDepth 100000

structure RowD where
  name : ByteArray
  num : Int
  den : Int
  L : List (ByteArray × Int × Int)
  deriving DecidableEq
def rowC (d : RowD) (h : Hd) : List Value := [.string d.name, .int .i64 d.num, .int .i64 d.den, .slice h.A h.n h.c]
abbrev rowV (d : RowD) (h : Hd) : Value := .agg #[.string d.name, .int .i64 d.num, .int .i64 d.den, .slice h.A h.n h.c]
abbrev rowI (w : World) (lo hi : Nat) (d : RowD) (h : Hd) : Prop := RdS 3 (FlatR anchC) w lo hi h.A h.n d.L
def rowR : Rel RowD := fun w lo hi d cs => ∃ h, cs = rowC d h ∧ rowI w lo hi d h
theorem good_row : Good rowR := by
  constructor
  · rintro w w' lo hi d cs ⟨h, rfl, r⟩ s
    exact ⟨h, rfl, r.frame (good_flat _) s⟩
  · rintro w lo hi lo' hi' d cs ⟨h, rfl, r⟩ h1 h2
    exact ⟨h, rfl, r.wide (good_flat _) h1 h2⟩
abbrev rowsRd (w : World) (lo hi : Nat) (A : Option Addr) (n : Nat) (L : List RowD) : Prop := RdS 4 rowR w lo hi A n L
def RowD.str (d : RowD) : Prop := d.name.size ≤ maxLen ∧ d.L.length ≤ maxLen ∧ ∀ a ∈ d.L, a.1.size ≤ maxLen
theorem row_at {w : World} {lo hi : Nat} {A : Option Addr} {n : Nat} {L : List RowD} (h : rowsRd w lo hi A n L) {j : Nat} (hj : j < n) :
    ∃ b off d hh, A = some ⟨b, off, none⟩ ∧ lo ≤ b ∧ b < hi ∧ L[j]? = some d ∧ (∀ i u, (rowC d hh)[i]? = some u → w.cell? ⟨b, off + j * 4 + i, none⟩ = some u) ∧ rowI w lo hi d hh := by
  obtain ⟨hl, h⟩ := h
  obtain ⟨b, off, rfl, h1, h2, h3⟩ := h (by omega)
  have hja : L[j]? = some (L[j]'(by omega)) := List.getElem?_eq_getElem (by omega)
  obtain ⟨es, e1, e2, hh, rfl, r⟩ := h3 j _ hja
  exact ⟨b, off, _, hh, rfl, h1, h2, hja, e2, r⟩
theorem opens_lRow : Opens Tryz.prog 187 (AndR rowR RowD.str) := by
  intro H enc w fuel cs x h
  obtain ⟨hl, hf⟩ := struct_fields Tryz.underlying187 h
  have hc : Tryz.prog.cellsOf 187 = 4 := by kernel_rfl
  have hs : Tryz.prog.cellsOf 9 = 1 := by kernel_rfl
  have hv : Tryz.prog.cellsOf 185 = 3 := by kernel_rfl
  have hfr : Tryz.prog.cellsOf 182 = 2 := by kernel_rfl
  have hp : Tryz.prog.cellsOf 183 = 1 := by kernel_rfl
  have hpk : Tryz.prog.cellsOf 294 = 3 := by kernel_rfl
  rw [hc] at hl
  match cs, hl with
  | [c0, c1, c2, c3], _ =>
    obtain ⟨n0, y0, h0⟩ := struct_field hf 0 9 0 1 rfl rfl rfl hs
    obtain ⟨x0, e0, s0⟩ := opens_str Tryz.underlying9 h0
    obtain ⟨n1, y1, h1⟩ := struct_field hf 1 185 1 3 rfl rfl rfl hv
    obtain ⟨hl1, hf1⟩ := struct_fields Tryz.underlying185 h1
    obtain ⟨n2, y2, h2⟩ := struct_field hf1 0 182 0 2 rfl rfl rfl hfr
    obtain ⟨n3, y3, h3⟩ := struct_field hf1 1 183 2 1 rfl rfl rfl hp
    obtain ⟨x2, e2⟩ := opens_lFrac h2
    obtain ⟨x3, A3, l3, k3, e3, m3, r3⟩ := opens_slice Tryz.underlying183 hpk (by omega) opens_lTerm (good_and (good_flat _) _) h3
    obtain ⟨r3, s3⟩ := r3.parted
    simp [FlatR, ptC] at e0 e2 e3
    obtain ⟨e4, e5⟩ := e2
    subst e0 e4 e5 e3
    exact ⟨⟨x0, x2.1, x2.2, x3⟩, ⟨⟨A3, l3, k3⟩, rfl, r3⟩, s0, by show x3.length ≤ maxLen; rw [r3.1]; exact m3, s3⟩

set_option maxHeartbeats 1000000 in
theorem szRow_any (d : RowD) (h : Hd) (left : Int) (lo hi : Nat) (w : World) (hr : rowI w lo hi d h) (hhi : hi ≤ w.heap.size) (hs : d.str) (h0 : 0 ≤ left) (h1 : left ≤ 1048576) :
    Calls Tryz.prog 94 #[rowV d h, .int .i64 left] w fun e w' => ∃ r : Int, e = .returned (.int .i64 r) ∧ (r < 0 ∨ (0 ≤ r ∧ r ≤ left ∧ d.L.length ≤ 1048576)) ∧ Below w.heap.size w w' := by
  have hl := Lib.hid hr.1
  have m0 : h.n ≤ 9223372036854775807 := by have := hs.2.1; unfold maxLen at this; rw [hr.1] at this; exact this
  have s0 : d.name.size ≤ 9223372036854775807 := by have := hs.1; unfold maxLen at this; exact this
  by_cases g0 : (d.name.size : Int) ≤ left
  rotate_left
  · clear hr hs
    go_enter Tryz.func94, Tryz.ntmps94
    go_wp2_with fail
    go_ret
    exact ⟨_, rfl, .inl (by omega), Go.Joins.below_alloc1 _ _⟩
  have hc := Lib.hid (fun o => szLinear_any d.num d.den h.A h.n h.c lo hi d.L (left - d.name.size) (w.alloc o) (hr.frame (good_flat _) (SameB.alloc (SameB.refl _ _ _) hhi _)) (by simp; omega) hs.2.2 m0 (by omega) (by omega))
  clear hr hs
  go_enter Tryz.func94, Tryz.ntmps94
  go_wp2_with fail
  refine (hc.out _).mono ?_
  rintro e w1 ⟨r, rfl, hr1, hb1⟩
  have hB := (Go.Joins.below_alloc1 _ _).trans (hb1.mono (by simp))
  rcases hr1 with hr1 | ⟨u0, u1, u2⟩
  · go_wp2_with fail
    go_ret
    exact ⟨_, rfl, .inl (by omega), hB⟩
  · go_wp2_with fail
    go_ret
    exact ⟨_, rfl, .inr ⟨by omega, by omega, by rw [hl.out]; omega⟩, hB⟩

set_option maxHeartbeats 2000000 in
theorem szRowS_any (A : Option Addr) (n c lo hi : Nat) (L : List RowD) (left : Int) (w : World) (hr : rowsRd w lo hi A n L) (hhi : hi ≤ w.heap.size) (hs : ∀ g ∈ L, g.str) (hn : n ≤ 9223372036854775807) (h0 : 0 ≤ left) (h1 : left ≤ 1048576) :
    Calls Tryz.prog 43 #[.slice A n c, .int .i64 left] w fun e w' => ∃ r : Int, e = .returned (.int .i64 r) ∧ (r < 0 ∨ 0 ≤ r ∧ r ≤ left ∧ n ≤ 1048576 ∧ ∀ g ∈ L, g.L.length ≤ 1048576) ∧ Below w.heap.size w w' := by
  have hll := Lib.hid hr.1
  replace hr := Lib.hid hr
  replace hs := Lib.hid hs
  by_cases hnl : (n : Int) ≤ left
  rotate_left
  · go_enter Tryz.func43, Tryz.ntmps43
    go_wp2_with fail
    go_ret
    exact ⟨_, rfl, .inl (by omega), Below.refl _ _⟩
  go_enter Tryz.func43, Tryz.ntmps43
  go_wp2_with fail
  go_loopw [1, 5] (fun lv i wr => ∃ (k : Nat) (l : Int), i = .int .i64 k ∧ lv = .int .i64 l ∧ k ≤ n ∧ 0 ≤ l ∧ l ≤ left ∧ (∀ (j : Nat) (g : RowD), j < k → L[j]? = some g → g.L.length ≤ 1048576) ∧ Below w.heap.size w wr) (fun lv i wr => n - (intOf i).toNat)
  case atStart => exact ⟨0, left - n, rfl, rfl, Nat.zero_le _, by omega, by omega, fun j g hj => absurd hj (Nat.not_lt_zero j), Below.refl _ _⟩
  case round =>
    obtain ⟨k, l, rfl, rfl, hk, hl0, hl, hall, hbel⟩ := hrel
    have hl1 : l ≤ 1048576 := by omega
    replace hall := Lib.hid hall
    by_cases hlt : k < n
    · obtain ⟨b, off, d, hh, rfl, hb0, hb, hja, hcs, hrd⟩ := row_at (hr.out.frame good_row (Below.sameB hbel hhi)) hlt
      have q0 := hcs 0 _ rfl
      have q1 := hcs 1 _ rfl
      have q2 := hcs 2 _ rfl
      have q3 := hcs 3 _ rfl
      simp only [Nat.add_zero] at q0 q1 q2 q3
      clear hcs
      have hbw : b < wr.heap.size := by have := hbel.size; omega
      have hmem := List.mem_of_getElem? hja
      have hcall := Lib.hid (fun W (hS : SameB lo hi wr W) (h : hi ≤ W.heap.size) => szRow_any d hh l lo hi W (hrd.frame (good_flat _) hS) h (hs.out d hmem) hl0 hl1)
      clear hmem hrd
      replace hja := Lib.hid hja
      go_wp2_with fail
      refine (hcall.out _ (by repeat (first | exact SameB.refl _ _ _ | refine SameB.drew ?_ | refine SameB.alloc ?_ (by simp <;> omega) _)) (by have := hbel.size; simp <;> omega)).mono ?_
      rintro e w1 ⟨r, rfl, hrr, hb1⟩
      have hbel1 := hbel.trans (hb1.mono hbel.size)
      rcases hrr with hrr | ⟨hr0, hrl, hsm⟩
      · go_wp2_with fail
        go_ret
        exact ⟨_, rfl, .inl (by omega), hbel1⟩
      · replace hsm := Lib.hid hsm
        go_wp2_with fail
        go_roundw
        case rel =>
          refine ⟨k + 1, r, by go_num, rfl, by omega, hr0, by omega, fun j g hj hg => ?_, hbel1⟩
          by_cases hjk : j = k
          · subst hjk
            have e := Option.some.inj (hja.out.symm.trans hg)
            subst e
            exact hsm.out
          · exact hall.out j g (by omega) hg
        case measure => simp [intOf]; omega
    · have hkn : k = n := by omega
      replace hkn := Lib.hid hkn
      go_wp2_with fail
      go_ret
      refine ⟨_, rfl, .inr ⟨hl0, hl, by omega, fun g hg => ?_⟩, hbel⟩
      obtain ⟨j, hj⟩ := List.getElem?_of_mem hg
      exact hall.out j g (by rw [hkn.out, ← hll.out]; exact (List.getElem?_eq_some_iff.1 hj).1) hj

set_option maxHeartbeats 4000000 in
theorem toRow_any (d : RowD) (h : Hd) (lo hi : Nat) (w : World) (hr : rowI w lo hi d h) (hhi : hi ≤ w.heap.size) (hm : d.L.length ≤ 1048576) :
    Calls Tryz.prog 114 #[rowV d h] w fun e w' => ∃ h' : Hd, e = .returned (rowV d h') ∧ rowI w' w.heap.size w'.heap.size d h' ∧ Below w.heap.size w w' := by
  have hn : h.n ≤ 1048576 := by rw [← hr.1]; exact hm
  replace hr := Lib.hid hr
  go_enter Tryz.func114, Tryz.ntmps114
  go_wp2_with fail
  refine (toLinear_rd d.num d.den _ _ _ lo hi d.L _ (hr.out.frame (good_flat _) (Below.sameB (B := w.heap.size) (w := w) (by repeat (first | refine Below.setCell ?_ (by simp <;> omega) _ | refine Below.alloc ?_ (by simp <;> omega) _ | exact Below.refl _ _)) hhi)) (by simp <;> omega) hn).mono ?_
  rintro e w1 ⟨A', c', rfl, ho, hb1⟩
  have hz1 := hb1.size
  try simp at hz1
  have hB1 : Below w.heap.size w w1 := Below.trans (by repeat (first | refine Below.setCell ?_ (by simp <;> omega) _ | refine Below.alloc ?_ (by simp <;> omega) _ | exact Below.refl _ _)) (hb1.mono (by simp <;> omega))
  have rd := Lib.hid (RdS.wide (good_flat _) ho (lo' := w.heap.size + 3) (hi' := w1.heap.size) (by simp <;> omega) (Nat.le_refl _))
  clear ho
  have hnew := heap_new0 w (.cells #[.string d.name, .int .i64 d.num, .int .i64 d.den, .slice h.A h.n h.c] 187 (0, 0)) (.cells #[.string ⟨#[]⟩, .int .i64 0, .int .i64 0, .slice none 0 0] 107 (0, 0)) (.cells #[.string d.name, .int .i64 0, .int .i64 0, .slice none 0 0] 107 (0, 0))
  have HX : Hid (w1.heap[w.heap.size]? = some (.cells #[.string d.name, .int .i64 d.num, .int .i64 d.den, .slice h.A h.n h.c] 187 (0, 0))) := (hb1.block _ (by simp <;> omega)).trans hnew.1
  have HR : Hid (w1.heap[w.heap.size + 1]? = some (.cells #[.string ⟨#[]⟩, .int .i64 0, .int .i64 0, .slice none 0 0] 107 (0, 0))) := (hb1.block _ (by simp <;> omega)).trans hnew.2.1
  have HO : Hid (w1.heap[w.heap.size + 2]? = some (.cells #[.string d.name, .int .i64 0, .int .i64 0, .slice none 0 0] 107 (0, 0))) := (hb1.block _ (by simp <;> omega)).trans hnew.2.2
  clear hnew hb1
  have co0 : w1.cell? ⟨w.heap.size + 2, 0, none⟩ = some (.string d.name) := by rw [Go.Joins.cell_of_block HO.out]; rfl
  have cr0 : w1.cell? ⟨w.heap.size + 1, 0, none⟩ = some (.string ⟨#[]⟩) := by rw [Go.Joins.cell_of_block HR.out]; rfl
  have co1 : w1.cell? ⟨w.heap.size + 2, 1, none⟩ = some (.int .i64 0) := by rw [Go.Joins.cell_of_block HO.out]; rfl
  have cr1 : w1.cell? ⟨w.heap.size + 1, 1, none⟩ = some (.int .i64 0) := by rw [Go.Joins.cell_of_block HR.out]; rfl
  have co2 : w1.cell? ⟨w.heap.size + 2, 2, none⟩ = some (.int .i64 0) := by rw [Go.Joins.cell_of_block HO.out]; rfl
  have cr2 : w1.cell? ⟨w.heap.size + 1, 2, none⟩ = some (.int .i64 0) := by rw [Go.Joins.cell_of_block HR.out]; rfl
  have co3 : w1.cell? ⟨w.heap.size + 2, 3, none⟩ = some (.slice none 0 0) := by rw [Go.Joins.cell_of_block HO.out]; rfl
  have cr3 : w1.cell? ⟨w.heap.size + 1, 3, none⟩ = some (.slice none 0 0) := by rw [Go.Joins.cell_of_block HR.out]; rfl
  have fo : ∀ o, w1.frozen? ⟨w.heap.size + 2, o, none⟩ = false := Go.Joins.unfrozen_of_block HO.out
  have fr : ∀ o, w1.frozen? ⟨w.heap.size + 1, o, none⟩ = false := Go.Joins.unfrozen_of_block HR.out
  go_wp2_with fail
  have hfin : ∀ W', SameB (w.heap.size + 3) w1.heap.size w1 W' → w1.heap.size ≤ W'.heap.size → rowI W' w.heap.size W'.heap.size d ⟨A', h.n, c'⟩ := fun W' hs hz => (rd.out.frame (good_flat _) hs).wide (good_flat _) (by omega) hz
  refine bodyPost_ret (v := rowV d ⟨A', h.n, c'⟩) (by simp [results, Tryz.results114, go_sem, cr0, cr1, cr2, cr3]) rfl ⟨⟨A', h.n, c'⟩, rfl, hfin _ ?_ (by simp), by repeat (first | refine Below.setCell ?_ (by simp <;> omega) _ | exact hB1)⟩
  repeat (first | refine SameB.setCell ?_ (.inl (by simp <;> omega)) _ | exact SameB.refl _ _ _)

theorem infoRow : (Tryz.prog.info? 107).map (fun i => (i.zero, i.size, i.bytes)) = some (some (.agg #[.string ⟨#[]⟩, .int .i64 0, .int .i64 0, .slice none 0 0]), 4, 56) := by kernel_rfl

def rowTo (w : World) (lo : Nat) (L : List RowD) (k : Nat) (ys : List Value) : Prop := ∀ (j : Nat) (g : RowD), j < k → L[j]? = some g → ∃ hh : Hd, (∀ i u, (rowC g hh)[i]? = some u → ys[j * 4 + i]? = some u) ∧ rowI w lo w.heap.size g hh
def rowset (ys : List Value) (m : Nat) (v0 v1 v2 v3 : Value) : List Value := (((ys.set (m) v0).set (m + 1) v1).set (m + 2) v2).set (m + 3) v3
theorem rowset_ne {ys : List Value} {m j : Nat} {v0 v1 v2 v3 : Value} (h : j < m ∨ m + 4 ≤ j) : (rowset ys m v0 v1 v2 v3)[j]? = ys[j]? := by
  unfold rowset
  rw [List.getElem?_set_ne (by omega), List.getElem?_set_ne (by omega), List.getElem?_set_ne (by omega), List.getElem?_set_ne (by omega)]
theorem rowset_at {ys : List Value} {m i : Nat} {u v0 v1 v2 v3 : Value} (hl : m + 4 ≤ ys.length) (h : [v0, v1, v2, v3][i]? = some u) : (rowset ys m v0 v1 v2 v3)[m + i]? = some u := by
  unfold rowset
  match i, h with
  | 0, h => simp at h; subst h; rw [show m + 0 = m from rfl, List.getElem?_set_ne (by omega), List.getElem?_set_ne (by omega), List.getElem?_set_ne (by omega), List.getElem?_set_self (by omega)]
  | 1, h => simp at h; subst h; rw [List.getElem?_set_ne (by omega), List.getElem?_set_ne (by omega), List.getElem?_set_self (by simp only [List.length_set]; omega)]
  | 2, h => simp at h; subst h; rw [List.getElem?_set_ne (by omega), List.getElem?_set_self (by simp only [List.length_set]; omega)]
  | 3, h => simp at h; subst h; rw [List.getElem?_set_self (by simp only [List.length_set]; omega)]
theorem rowTo_next {w w1 w2 : World} {X k : Nat} {L : List RowD} {ys : List Value} {d : RowD} {h' : Hd} (h : rowTo w (X + 1) L k ys) (hd : L[k]? = some d) (hX : X < w.heap.size) (hb : Below w.heap.size w w1) (hr : rowI w1 w.heap.size w1.heap.size d h') (hs : SameB (X + 1) w1.heap.size w1 w2) (hz : w1.heap.size ≤ w2.heap.size) (hl : k * 4 + 4 ≤ ys.length) :
    rowTo w2 (X + 1) L (k + 1) (rowset ys (k * 4) (.string d.name) (.int .i64 d.num) (.int .i64 d.den) (.slice h'.A h'.n h'.c)) := by
  have hz1 := hb.size
  intro j g hj hg
  by_cases hjk : j = k
  · subst hjk
    have e := Option.some.inj (hd.symm.trans hg)
    subst e
    exact ⟨h', fun i u hu => rowset_at hl hu, (hr.wide (good_flat _) (by omega) (Nat.le_refl _) |>.frame (good_flat _) hs).wide (good_flat _) (Nat.le_refl _) hz⟩
  · obtain ⟨hh, h1, h2⟩ := h j g (by omega) hg
    refine ⟨hh, fun i u hu => ?_, (((h2.frame (good_flat _) (Below.sameB hb (Nat.le_refl _))).wide (good_flat _) (Nat.le_refl _) hz1).frame (good_flat _) hs).wide (good_flat _) (Nat.le_refl _) hz⟩
    rw [rowset_ne]
    · exact h1 i u hu
    · have hi : i < 4 := by
        rcases Nat.lt_or_ge i 4 with h | h
        · exact h
        · rw [List.getElem?_eq_none (by simp [rowC]; omega)] at hu; cases hu
      left
      have : j * 4 + 4 ≤ k * 4 := by omega
      omega

set_option maxHeartbeats 4000000 in
theorem toRowS_rc (A : Option Addr) (n c lo hi : Nat) (L : List RowD) (w : World) (hr : rowsRd w lo hi A n L) (hhi : hi ≤ w.heap.size) (hn : n ≤ 1048576 ∧ ∀ g ∈ L, g.L.length ≤ 1048576) :
    Calls Tryz.prog 57 #[.slice A n c] w fun e w' => ∃ A' c', e = .returned (.slice A' n c') ∧ n ≤ c' ∧ rowsRd w' w.heap.size w'.heap.size A' n L ∧ Below w.heap.size w w' := by
  obtain ⟨i0, hi0, hz0, hs0, hby0⟩ := info_parts infoRow
  obtain ⟨hn, hm⟩ := hn
  have hll := Lib.hid hr.1
  replace hr := Lib.hid hr
  replace hm := Lib.hid hm
  go_enter Tryz.func57, Tryz.ntmps57
  go_wp2_with (at_make; refine wpList_make_full _ rfl _ _ 44 rfl w.heap.size 107 i0 (.agg #[.string ⟨#[]⟩, .int .i64 0, .int .i64 0, .slice none 0 0]) 4 Tryz.underlying44 hi0 hz0 hs0 .i64 .i64 _ _ n rfl rfl rfl rfl (by rw [hby0]; omega) (by unfold maxLen; omega) (Nat.le_refl _) ?_; intro w0 hown0 hg0)
  have hb0 : Below w.heap.size w w0 := (Below.refl _ _).grown hg0 (Nat.le_refl _) (by simp)
  clear hg0
  go_loopw [4] (fun i wr => ∃ (k : Nat) (ys : List Value), i = .int .i64 k ∧ k ≤ n ∧ wr.ownsRow w.heap.size 107 4 (.slice (some ⟨w.heap.size, 0, none⟩) n n) n ys ∧ rowTo wr (w.heap.size + 1) L k ys ∧ Below w.heap.size w wr) (fun i wr => n - (intOf i).toNat)
  case atStart => exact ⟨0, _, rfl, Nat.zero_le _, hown0, fun j g hj => absurd hj (Nat.not_lt_zero j), hb0⟩
  case round =>
    clear hown0 hb0
    obtain ⟨k, ys, rfl, hk, ho, hto, hbel⟩ := hrel
    replace hto := Lib.hid hto
    have hX : w.heap.size < wr.heap.size := (ho.lt _ rfl).2
    by_cases hlt : k < n
    · obtain ⟨b, off, d, hh, rfl, hb0, hb, hja, hcs, hrd⟩ := row_at (hr.out.frame good_row (Below.sameB hbel hhi)) hlt
      have q0 := hcs 0 _ rfl
      have q1 := hcs 1 _ rfl
      have q2 := hcs 2 _ rfl
      have q3 := hcs 3 _ rfl
      simp only [Nat.add_zero] at q0 q1 q2 q3
      have hbw : b < wr.heap.size := by omega
      have hsm := hm.out d (List.mem_of_getElem? hja)
      have hcall := Lib.hid (toRow_any d hh lo hi wr hrd (by omega) hsm)
      clear hcs hrd hsm hb0 hb
      replace hja := Lib.hid hja
      replace ho := Lib.hid ho
      go_wp2_with (go_at_call 114; refine hcall.out.mono ?_; rintro e w1 ⟨h', rfl, hrd', hb1⟩; have ho1 := own_below ho.out hb1; obtain ⟨g, hg, _, hglt, _, hcell, hfr⟩ := own_at ho1 (by omega); injection hg with hg; injection hg with hg; subst hg; have hyl := ho1.1; have c0 := hcell (k * 4) (by omega); have c1 := hcell (k * 4 + 1) (by omega); have c2 := hcell (k * 4 + 2) (by omega); have c3 := hcell (k * 4 + 3) (by omega); rw [List.getElem?_eq_getElem (by omega)] at c0 c1 c2 c3; have f0 := hfr (k * 4); have f1 := hfr (k * 4 + 1); have f2 := hfr (k * 4 + 2); have f3 := hfr (k * 4 + 3); clear hcell hfr; replace ho1 := Lib.hid ho1; replace hyl := Lib.hid hyl; generalize ys[k * 4]'(by have := hyl.out; omega) = z0 at *; generalize ys[k * 4 + 1]'(by have := hyl.out; omega) = z1 at *; generalize ys[k * 4 + 2]'(by have := hyl.out; omega) = z2 at *; generalize ys[k * 4 + 3]'(by have := hyl.out; omega) = z3 at *; have hb1s := hb1.size; replace hrd' := Lib.hid hrd')
      go_roundw
      case rel =>
        have hyl := ho1.out.1
        have hz1 := hb1.size
        refine ⟨k + 1, _, by go_num, by omega, ((((ho1.out.stored (k * 4) (.string d.name)).1.stored (k * 4 + 1) (.int .i64 d.num)).1.stored (k * 4 + 2) (.int .i64 d.den)).1.stored (k * 4 + 3) (.slice h'.A h'.n h'.c)).1, ?_, (((((hbel.trans (hb1.mono hbel.size)).setCell (Nat.le_refl _) _).setCell (Nat.le_refl _) _).setCell (Nat.le_refl _) _).setCell (Nat.le_refl _) _)⟩
        refine rowTo_next hto.out hja.out hX hb1 hrd'.out ?_ (by simp) (by omega)
        repeat (first | refine SameB.setCell ?_ (.inl (by simp)) _ | exact SameB.refl _ _ _)
      case measure => simp [intOf]; omega
    · have hkn : k = n := by omega
      replace hkn := Lib.hid hkn
      replace ho := Lib.hid ho
      go_wp2_with fail
      go_ret
      refine ⟨_, _, rfl, Nat.le_refl _, ⟨hll.out, fun h0 => ⟨w.heap.size, 0, rfl, Nat.le_refl _, hX, fun j g hj => ?_⟩⟩, hbel⟩
      have hjl := (List.getElem?_eq_some_iff.1 hj).1
      have hl' := hll.out
      obtain ⟨hh, h1, h2⟩ := hto.out j g (by rw [hkn.out]; omega) hj
      refine ⟨rowC g hh, rfl, fun i u hu => ?_, hh, rfl, h2.wide (good_flat _) (by omega) (Nat.le_refl _)⟩
      have hi : i < 4 := by
        rcases Nat.lt_or_ge i 4 with h | h
        · exact h
        · rw [List.getElem?_eq_none (by simp [rowC]; omega)] at hu; cases hu
      have h3 := ho.out.cellAt (j * 4 + i) (by omega)
      rw [h1 i u hu] at h3
      rw [Nat.zero_add]
      exact h3
theorem toRowS_rd (A : Option Addr) (n c lo hi : Nat) (L : List RowD) (w : World) (hr : rowsRd w lo hi A n L) (hhi : hi ≤ w.heap.size) (hn : n ≤ 1048576 ∧ ∀ g ∈ L, g.L.length ≤ 1048576) :
    Calls Tryz.prog 57 #[.slice A n c] w fun e w' => ∃ A' c', e = .returned (.slice A' n c') ∧ rowsRd w' w.heap.size w'.heap.size A' n L ∧ Below w.heap.size w w' :=
  (toRowS_rc A n c lo hi L w hr hhi hn).mono fun e w' ⟨A', c', he, _, h1, h2⟩ => ⟨A', c', he, h1, h2⟩

set_option maxHeartbeats 2000000 in
theorem eqRow_any (d : RowD) (h h' : Hd) (lo hi lo' hi' : Nat) (w : World) (h1 : rowI w lo hi d h) (h2 : rowI w lo' hi' d h') (hh1 : hi ≤ w.heap.size) (hh2 : hi' ≤ w.heap.size) (hm : d.L.length ≤ 100000000) :
    Calls Tryz.prog 139 #[rowV d h, rowV d h'] w fun e w' => e = .returned (.bool true) ∧ Below w.heap.size w w' := by
  have hn : h.n ≤ 100000000 := by rw [← h1.1]; exact hm
  have hB0 := Go.Joins.below_alloc2 w (.cells #[.string d.name, .int .i64 d.num, .int .i64 d.den, .slice h.A h.n h.c] 107 (0, 0)) (.cells #[.string d.name, .int .i64 d.num, .int .i64 d.den, .slice h'.A h'.n h'.c] 107 (0, 0))
  have hnew := Lib.hid (heap_two w (.cells #[.string d.name, .int .i64 d.num, .int .i64 d.den, .slice h.A h.n h.c] 107 (0, 0)) (.cells #[.string d.name, .int .i64 d.num, .int .i64 d.den, .slice h'.A h'.n h'.c] 107 (0, 0)))
  replace h1 := Lib.hid h1
  replace h2 := Lib.hid h2
  go_enter Tryz.func139, Tryz.ntmps139
  go_wp2_with fail
  refine (eqLinear_any d.num d.den _ _ _ _ _ _ lo hi lo' hi' d.L _ (h1.out.frame (good_flat _) (Below.sameB hB0 hh1)) (h2.out.frame (good_flat _) (Below.sameB hB0 hh2)) (by simp; omega) (by simp; omega) hn).mono ?_
  rintro e w1 ⟨rfl, hb1⟩
  go_wp2_with fail
  go_ret
  exact ⟨rfl, hB0.trans (hb1.mono (by simp; omega))⟩

set_option maxRecDepth 100000 in
set_option maxHeartbeats 2000000 in
theorem eqRowS_any (A A' : Option Addr) (n c n' c' lo hi lo' hi' : Nat) (L : List RowD) (w : World) (h1 : rowsRd w lo hi A n L) (h2 : rowsRd w lo' hi' A' n' L) (hh1 : hi ≤ w.heap.size) (hh2 : hi' ≤ w.heap.size) (hn : n ≤ 100000000 ∧ ∀ g ∈ L, g.L.length ≤ 100000000) :
    Calls Tryz.prog 85 #[.slice A n c, .slice A' n' c'] w fun e w' => e = .returned (.bool true) ∧ Below w.heap.size w w' := by
  obtain rfl : n = n' := h1.1.symm.trans h2.1
  obtain ⟨hn, hm⟩ := hn
  replace h1 := Lib.hid h1
  replace h2 := Lib.hid h2
  replace hm := Lib.hid hm
  go_enter Tryz.func85, Tryz.ntmps85
  go_wp2_with fail
  go_loopw [5] (fun i wr => ∃ k : Nat, i = .int .i64 k ∧ k ≤ n ∧ Below w.heap.size w wr) (fun i wr => n - (intOf i).toNat)
  case atStart => exact ⟨0, rfl, Nat.zero_le _, Below.refl _ _⟩
  case round =>
    obtain ⟨k, rfl, hk, hbel⟩ := hrel
    have hsz := hbel.size
    by_cases hlt : k < n
    · obtain ⟨b, off, d, x1, rfl, hb0, hb, hja, hcs, hr1⟩ := row_at (h1.out.frame good_row (Below.sameB hbel hh1)) hlt
      obtain ⟨b', off', d', x2, rfl, hb0', hb', hja', hcs', hr2⟩ := row_at (h2.out.frame good_row (Below.sameB hbel hh2)) hlt
      have hdd := Option.some.inj (hja.symm.trans hja')
      subst hdd
      have hsm := hm.out d (List.mem_of_getElem? hja)
      have q0 := hcs 0 _ rfl
      have q1 := hcs 1 _ rfl
      have q2 := hcs 2 _ rfl
      have q3 := hcs 3 _ rfl
      have p0 := hcs' 0 _ rfl
      have p1 := hcs' 1 _ rfl
      have p2 := hcs' 2 _ rfl
      have p3 := hcs' 3 _ rfl
      simp only [Nat.add_zero] at q0 q1 q2 q3 p0 p1 p2 p3
      have hcall := Lib.hid (fun W (hB : SameB 0 wr.heap.size wr W) (hs : wr.heap.size ≤ W.heap.size) => eqRow_any d x1 x2 lo hi lo' hi' W (hr1.frame (good_flat _) (hB.mono (Nat.zero_le _) (by omega))) (hr2.frame (good_flat _) (hB.mono (Nat.zero_le _) (by omega))) (by omega) (by omega) hsm)
      have hbw : b < wr.heap.size := by omega
      have hbw' : b' < wr.heap.size := by omega
      clear hcs hcs' hr1 hr2 hja hja' hb0 hb0' hb hb' hsz hh1 hh2 h1 h2 hsm
      have hi : (0 : Int) ≤ (k : Int) ∧ (k : Int) < (n : Int) := by omega
      go_wp2_with fail
      go_still_tail 8, (by kernel_rfl)
      go_wp2_with (go_at_call 139; refine (hcall.out _ (SameB.refl _ _ wr).drew (Nat.le_refl _)).mono ?_; rintro e w1 ⟨rfl, hb1⟩)
      go_roundw
      case rel => exact ⟨k + 1, by go_num, by omega, hbel.drew.trans (hb1.mono (by simp; exact hbel.size))⟩
      case measure => simp [intOf]; omega
    · go_wp2_with fail
      go_ret
      exact ⟨rfl, hbel⟩
end Go.Proofs.YtfkidklpjiiclaaGreat

/- Rows by name: the reference's search, the program's binary search. Conditions: as each states. -/
namespace Go.Proofs.YtfkidklpjiiclaaGreat
open Go.RowKit
set_option linter.unusedVariables false
set_option maxRecDepth 100000

def hasR (L : List RowD) (s : ByteArray) : Bool := L.any fun r => r.name.toList == s.toList
theorem hasR_at {L : List RowD} {s : ByteArray} {k : Nat} {d : RowD} (h : L[k]? = some d) (he : (d.name.toList == s.toList) = true) : hasR L s = true := by
  unfold hasR
  rw [List.any_eq_true]
  exact ⟨d, List.mem_of_getElem? h, he⟩
theorem hasR_no {L : List RowD} {s : ByteArray} (h : ∀ (j : Nat) (d : RowD), L[j]? = some d → (d.name.toList == s.toList) = false) : hasR L s = false := by
  unfold hasR
  rw [List.any_eq_false]
  intro d hd
  obtain ⟨j, hj⟩ := List.getElem?_of_mem hd
  rw [h j d hj]; simp

def idxR (L : List RowD) (s : ByteArray) : Int := match L.findIdx? (fun r => r.name.toList == s.toList) with | some i => i | none => -1
theorem idxR_at {L : List RowD} {s : ByteArray} {k : Nat} {d : RowD} (h : L[k]? = some d) (he : (d.name.toList == s.toList) = true) (hall : ∀ (j : Nat) (d : RowD), j < k → L[j]? = some d → (d.name.toList == s.toList) = false) : idxR L s = k := by
  have hk := (List.getElem?_eq_some_iff.1 h).1
  have e : L.findIdx? (fun r => r.name.toList == s.toList) = some k := by
    rw [List.findIdx?_eq_some_iff_getElem]
    refine ⟨hk, ?_, fun j hj => ?_⟩
    · rw [List.getElem?_eq_getElem hk] at h
      injection h with h
      rw [h]; exact he
    · rw [hall j _ hj (List.getElem?_eq_getElem (by omega))]; simp
  unfold idxR; rw [e]
theorem idxR_no {L : List RowD} {s : ByteArray} (h : ∀ (j : Nat) (d : RowD), L[j]? = some d → (d.name.toList == s.toList) = false) : idxR L s = -1 := by
  have e : L.findIdx? (fun r => r.name.toList == s.toList) = none := by
    rw [List.findIdx?_eq_none_iff]
    intro d hd
    obtain ⟨j, hj⟩ := List.getElem?_of_mem hd
    exact h j d hj
  unfold idxR; rw [e]
theorem idxR_iff {L : List RowD} {s : ByteArray} {t : Bool} (ht : t = hasR L s) : 0 ≤ idxR L s ↔ t = true := by
  unfold idxR
  cases e : L.findIdx? (fun r => r.name.toList == s.toList) with
  | none =>
    rw [List.findIdx?_eq_none_iff] at e
    have : hasR L s = false := hasR_no fun j d hj => e d (List.mem_of_getElem? hj)
    rw [ht, this]; simp
  | some i =>
    rw [List.findIdx?_eq_some_iff_getElem] at e
    obtain ⟨hi, h1, _⟩ := e
    have : hasR L s = true := hasR_at (List.getElem?_eq_getElem hi) h1
    rw [ht, this]; simp

set_option maxHeartbeats 2000000 in
theorem l05Find_any (s : ByteArray) (A : Option Addr) (n c lo hi : Nat) (L : List RowD) (w : World) (hr : rowsRd w lo hi A n L) (hhi : hi ≤ w.heap.size) (hn : n ≤ 1000000000) :
    Calls Tryz.prog 101 #[.slice A n c, .string s] w fun e w' => e = .returned (.int .i64 (idxR L s)) ∧ w' = w := by
  have hll := Lib.hid hr.1
  obtain ⟨res, hres⟩ : ∃ x, x = idxR L s := ⟨_, rfl⟩
  rw [← hres]
  replace hr := Lib.hid hr
  replace hres := Lib.hid hres
  go_enter Tryz.func101, Tryz.ntmps101
  go_wp2_with fail
  go_loopw [5] (fun i wr => ∃ k : Nat, i = .int .i64 k ∧ k ≤ n ∧ (∀ (j : Nat) (d : RowD), j < k → L[j]? = some d → (d.name.toList == s.toList) = false) ∧ wr = w) (fun i wr => n - (intOf i).toNat)
  case atStart => exact ⟨0, rfl, Nat.zero_le _, fun j d hj => absurd hj (Nat.not_lt_zero j), rfl⟩
  case round =>
    obtain ⟨k, rfl, hk, hall, rfl⟩ := hrel
    replace hall := Lib.hid hall
    by_cases hlt : k < n
    rotate_left
    · have htf : res = -1 := by
        rw [hres.out]
        exact idxR_no fun j d hj => hall.out j d (by have := (List.getElem?_eq_some_iff.1 hj).1; have := hll.out; omega) hj
      subst htf
      go_wp2_with fail
      go_ret
      exact ⟨rfl, rfl⟩
    obtain ⟨b, off, d, hh, rfl, hb0, hb, hja, hcs, hrd⟩ := row_at hr.out hlt
    have q0 := hcs 0 _ rfl
    simp only [Nat.add_zero] at q0
    have hbw : b < wr.heap.size := by omega
    have hi : (0 : Int) ≤ (k : Int) ∧ (k : Int) < (n : Int) := by omega
    obtain ⟨nm, hnm⟩ : ∃ x, x = d.name := ⟨_, rfl⟩
    rw [← hnm] at q0
    replace hnm := Lib.hid hnm
    clear hcs hrd
    cases he : (nm.toList == s.toList) with
    | true =>
      have htt : res = k := by rw [hres.out]; exact idxR_at hja (by rw [← hnm.out]; exact he) hall.out
      subst htt
      go_wp2_with fail
      go_ret
      exact ⟨rfl, rfl⟩
    | false =>
      replace hja := Lib.hid hja
      go_wp2_with fail
      go_roundw
      case rel =>
        refine ⟨k + 1, by go_num, by omega, fun j d' hj hd' => ?_, trivial⟩
        rcases Nat.lt_or_ge j k with h | h
        · exact hall.out j d' h hd'
        · have : j = k := by omega
          subst this
          have := Option.some.inj (hja.out.symm.trans hd')
          subst this
          rw [← hnm.out]; exact he
      case measure => simp [intOf]; omega

theorem rowCmp_any (d : RowD) (h : Hd) (s : ByteArray) (w : World) :
    Calls Tryz.prog 122 #[rowV d h, .string s] w fun e w' => e = .returned (.int .i64 (Lib.compareBytes d.name.data.toList s.data.toList)) ∧ Below w.heap.size w w' := by
  have hc := Lib.hid (fun W => Tryz.strings_Compare d.name s W)
  go_enter Tryz.func122, Tryz.ntmps122
  go_wp2_with fail
  refine (hc.out _).mono ?_
  rintro e w1 ⟨rfl, rfl⟩
  go_wp2_with fail
  go_ret
  exact ⟨rfl, Go.Joins.below_alloc1 _ _⟩
/-- the names rise -/
def RisR (L : List RowD) : Prop := ∀ (i j : Nat) (a b : RowD), i < j → L[i]? = some a → L[j]? = some b → Lib.compareBytes a.name.data.toList b.name.data.toList < 0
def cmpR (L : List RowD) (s : ByteArray) (j : Nat) : Int := Lib.compareBytes (L.getD j ⟨ByteArray.empty, 0, 0, []⟩).name.data.toList s.data.toList
set_option maxHeartbeats 4000000 in
theorem binRow_any (s : ByteArray) (A : Option Addr) (n c lo hi : Nat) (L : List RowD) (t : Bool) (ht : t = hasR L s) (hris : RisR L) (w : World) (hr : rowsRd w lo hi A n L) (hhi : hi ≤ w.heap.size) (hn : n ≤ 1000000000) :
    Calls Tryz.prog 121 #[.slice A n c, .string s, .func (.func 122) #[] #[]] w fun e w' => ∃ r : Int, e = .returned (.tuple #[.int .i64 r, .bool t]) ∧ Below w.heap.size w w' := by
  have hll := Lib.hid hr.1
  replace hr := Lib.hid hr
  replace ht := Lib.hid ht
  replace hris := Lib.hid hris
  go_enter Tryz.func121, Tryz.ntmps121
  go_wp2_with fail
  go_loopw [9, 10] (fun iv jv wr => ∃ i j : Nat, iv = .int .i64 i ∧ jv = .int .i64 j ∧ i ≤ j ∧ j ≤ n ∧ (∀ x, x < i → cmpR L s x < 0) ∧ (∀ x, j ≤ x → x < n → 0 ≤ cmpR L s x) ∧ Below w.heap.size w wr) (fun iv jv wr => (intOf jv).toNat - (intOf iv).toNat)
  case atStart => exact ⟨0, n, rfl, rfl, Nat.zero_le _, Nat.le_refl _, fun x hx => absurd hx (Nat.not_lt_zero x), fun x h1 h2 => by omega, Below.refl _ _⟩
  case round =>
    obtain ⟨i, j, rfl, rfl, hij, hjn, hlo, hup, hbel⟩ := hrel
    have hsz := hbel.size
    have hlo' := Lib.hid hlo
    have hup' := Lib.hid hup
    clear hlo hup
    by_cases hlt : i < j
    rotate_left
    · have hieq : i = j := by omega
      subst hieq
      by_cases hin : i < n
      rotate_left
      · have htf : t = false := by
          rw [ht.out]
          refine hasR_no fun x d hx => ?_
          have hxl := (List.getElem?_eq_some_iff.1 hx).1
          have h1 := hlo'.out x (by have := hll.out; omega)
          unfold cmpR at h1
          rw [getD_some hx] at h1
          cases he : (d.name.toList == s.toList)
          · rfl
          · rw [bytes_eq he, (cmp_zero _ _).2 rfl] at h1; omega
        subst htf
        go_wp2_with fail
        go_ret2
        exact ⟨_, rfl, hbel⟩
      obtain ⟨b, off, d, hh, rfl, hb0, hb, hja, hcs, hrd⟩ := row_at (hr.out.frame good_row (Below.sameB hbel hhi)) hin
      have q0 := hcs 0 _ rfl
      have q1 := hcs 1 _ rfl
      have q2 := hcs 2 _ rfl
      have q3 := hcs 3 _ rfl
      simp only [Nat.add_zero] at q0 q1 q2 q3
      have hbw : b < wr.heap.size := by omega
      have hi : (0 : Int) ≤ (i : Int) ∧ (i : Int) < (n : Int) := by omega
      obtain ⟨r, hrr⟩ : ∃ r, r = Lib.compareBytes d.name.data.toList s.data.toList := ⟨_, rfl⟩
      have hc := rowCmp_any d hh s wr
      rw [← hrr] at hc
      have htr : t = (r == 0) := by
        rw [ht.out]
        by_cases h0 : r = 0
        · rw [h0]
          refine hasR_at hja ?_
          have := (cmp_zero _ _).1 (hrr.symm.trans h0)
          rw [ByteArray.toList_eq, ByteArray.toList_eq, this]; simp
        · rw [show (r == 0) = false by simpa using h0]
          refine hasR_no fun x d' hx => ?_
          cases he : (d'.name.toList == s.toList)
          · rfl
          exfalso
          have hd' : d'.name = s := bytes_eq he
          have hxl := (List.getElem?_eq_some_iff.1 hx).1
          rcases Nat.lt_trichotomy x i with h | h | h
          · have h1 := hlo'.out x h
            unfold cmpR at h1
            rw [getD_some hx, hd', (cmp_zero _ _).2 rfl] at h1; omega
          · subst h
            have := Option.some.inj (hja.symm.trans hx)
            subst this
            rw [hd'] at hrr
            exact h0 (hrr.trans ((cmp_zero _ _).2 rfl))
          · have h1 := hris.out i x d d' h hja hx
            rw [hd', ← hrr] at h1
            have h2 := hup'.out i (Nat.le_refl _) hin
            unfold cmpR at h2
            rw [getD_some hja, ← hrr] at h2
            omega
      replace hc := Lib.hid hc
      replace htr := Lib.hid htr
      clear hja hcs hrd hrr
      go_wp2_with fail
      refine hc.out.mono ?_
      rintro e w1 ⟨rfl, hb1⟩
      go_wp2_with fail
      go_ret2
      exact ⟨_, by rw [htr.out]; rfl, hbel.trans (hb1.mono hbel.size)⟩
    obtain ⟨m, hm⟩ : ∃ m : Nat, ((i : Int) + (j : Int)) / 2 = (m : Int) := ⟨(i + j) / 2, by omega⟩
    have hm1 : i ≤ m ∧ m < j := by omega
    obtain ⟨b, off, d, hh, rfl, hb0, hb, hja, hcs, hrd⟩ := row_at (hr.out.frame good_row (Below.sameB hbel hhi)) (j := m) (by omega)
    have q0 := hcs 0 _ rfl
    have q1 := hcs 1 _ rfl
    have q2 := hcs 2 _ rfl
    have q3 := hcs 3 _ rfl
    simp only [Nat.add_zero] at q0 q1 q2 q3
    have hbw : b < wr.heap.size := by omega
    have hi : (0 : Int) ≤ (m : Int) ∧ (m : Int) < (n : Int) := by omega
    obtain ⟨r, hrr⟩ : ∃ r, r = Lib.compareBytes d.name.data.toList s.data.toList := ⟨_, rfl⟩
    have hc := rowCmp_any d hh s wr
    rw [← hrr] at hc
    have hcm : cmpR L s m = r := by unfold cmpR; rw [getD_some hja, hrr]
    replace hc := Lib.hid hc
    replace hcm := Lib.hid hcm
    replace hja := Lib.hid hja
    clear hcs hrd hrr
    go_wp2_with fail
    refine hc.out.mono ?_
    rintro e w1 ⟨rfl, hb1⟩
    have hb2 := hbel.trans (hb1.mono hbel.size)
    by_cases hneg : r < 0
    · go_wp2_with fail
      go_roundw
      case rel =>
        refine ⟨m + 1, j, by go_num, rfl, by omega, hjn, fun x hx => ?_, hup'.out, hb2⟩
        rcases Nat.lt_or_ge x m with h | h
        · by_cases hxi : x < i
          · exact hlo'.out x hxi
          · have hxl : x < L.length := by have := hll.out; omega
            have h1 := hris.out x m _ d h (List.getElem?_eq_getElem hxl) hja.out
            have h2 := hcm.out
            unfold cmpR at h2 ⊢
            rw [getD_some hja.out] at h2
            rw [getD_some (List.getElem?_eq_getElem hxl)]
            exact cmp_trans _ _ _ h1 (by omega)
        · have : x = m := by omega
          rw [this, hcm.out]; exact hneg
      case measure => simp [intOf]; omega
    · go_wp2_with fail
      go_roundw
      case rel =>
        refine ⟨i, m, rfl, by go_num, by omega, by omega, hlo'.out, fun x h1 h2 => ?_, hb2⟩
        by_cases hxj : j ≤ x
        · exact hup'.out x hxj h2
        · rcases Nat.eq_or_lt_of_le h1 with h | h
          · rw [← h, hcm.out]; omega
          · have hxl : x < L.length := by have := hll.out; omega
            have h3 := hris.out m x d _ h hja.out (List.getElem?_eq_getElem hxl)
            have h4 := hcm.out
            unfold cmpR at h4 ⊢
            rw [getD_some hja.out] at h4
            rw [getD_some (List.getElem?_eq_getElem hxl)]
            have h5 := cmp_neg d.name.data.toList s.data.toList
            have h6 := cmp_neg (L[x]'hxl).name.data.toList s.data.toList
            rcases Int.lt_or_le (Lib.compareBytes (L[x]'hxl).name.data.toList s.data.toList) 0 with h7 | h7
            · have := cmp_trans _ _ _ h3 h7
              omega
            · exact h7
      case measure => simp [intOf]; omega
theorem findRow_any (s : ByteArray) (A : Option Addr) (n c lo hi : Nat) (L : List RowD) (t : Bool) (ht : t = hasR L s) (hris : RisR L) (w : World) (hr : rowsRd w lo hi A n L) (hhi : hi ≤ w.heap.size) (hn : n ≤ 1000000000) :
    Calls Tryz.prog 66 #[.agg #[.slice A n c], .string s] w fun e w' => ∃ r : Int, e = .returned (.tuple #[.int .i64 r, .bool t]) ∧ Below w.heap.size w w' := by
  have hc := Lib.hid (fun o => binRow_any s A n c lo hi L t ht hris (w.alloc o) (hr.frame good_row ((SameB.refl _ _ w).alloc hhi _)) (by simp; omega) hn)
  clear hr ht hris
  go_enter Tryz.func66, Tryz.ntmps66
  go_wp2_with fail
  refine (hc.out _).mono ?_
  rintro e w1 ⟨r, rfl, hb1⟩
  go_wp2_with fail
  go_ret2
  exact ⟨_, rfl, (Go.Joins.below_alloc1 _ _).trans (hb1.mono (by simp))⟩
end Go.Proofs.YtfkidklpjiiclaaGreat

