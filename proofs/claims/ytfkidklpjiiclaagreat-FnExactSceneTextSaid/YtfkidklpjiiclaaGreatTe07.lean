/- NamedPen: how it lies in memory, the laws' own functions on it and on slices of it. Printed by rowgen.py. Conditions: as each states. -/
import Derived.Test.YtfkidklpjiiclaaGreatTe05
import Derived.Test.YtfkidklpjiiclaaGreatTe01
import Derived.Test.YtfkidklpjiiclaaGreatTe06
namespace Go.Proofs.YtfkidklpjiiclaaGreat
open Go.RowKit Go.ChangeShapes Go.WideShapes Go.Deep
set_option linter.unusedVariables false
set_option maxRecDepth 100000

structure NamedPenD where
  name : ByteArray
  L : List (Int × Int)
  deriving DecidableEq
def penC (d : NamedPenD) (h : Hd) : List Value := [.string d.name, .slice h.A h.n h.c]
abbrev penV (d : NamedPenD) (h : Hd) : Value := .agg #[.string d.name, .slice h.A h.n h.c]
abbrev penI (w : World) (lo hi : Nat) (d : NamedPenD) (h : Hd) : Prop := RdS 2 (FlatR ptC) w lo hi h.A h.n d.L
def penR : Rel NamedPenD := fun w lo hi d cs => ∃ h, cs = penC d h ∧ penI w lo hi d h
theorem good_pen : Good penR := by
  constructor
  · rintro w w' lo hi d cs ⟨h, rfl, r⟩ s
    exact ⟨h, rfl, r.frame (good_flat _) s⟩
  · rintro w lo hi lo' hi' d cs ⟨h, rfl, r⟩ h1 h2
    exact ⟨h, rfl, r.wide (good_flat _) h1 h2⟩
abbrev pensRd (w : World) (lo hi : Nat) (A : Option Addr) (n : Nat) (L : List NamedPenD) : Prop := RdS 2 penR w lo hi A n L
def NamedPenD.str (d : NamedPenD) : Prop := d.name.size ≤ maxLen ∧ d.L.length ≤ maxLen
theorem pen_at {w : World} {lo hi : Nat} {A : Option Addr} {n : Nat} {L : List NamedPenD} (h : pensRd w lo hi A n L) {j : Nat} (hj : j < n) :
    ∃ b off d hh, A = some ⟨b, off, none⟩ ∧ lo ≤ b ∧ b < hi ∧ L[j]? = some d ∧ (∀ i u, (penC d hh)[i]? = some u → w.cell? ⟨b, off + j * 2 + i, none⟩ = some u) ∧ penI w lo hi d hh := by
  obtain ⟨hl, h⟩ := h
  obtain ⟨b, off, rfl, h1, h2, h3⟩ := h (by omega)
  have hja : L[j]? = some (L[j]'(by omega)) := List.getElem?_eq_getElem (by omega)
  obtain ⟨es, e1, e2, hh, rfl, r⟩ := h3 j _ hja
  exact ⟨b, off, _, hh, rfl, h1, h2, hja, e2, r⟩
theorem opens_lNamedPen : Opens Tryz.prog 114 (AndR penR NamedPenD.str) := by
  intro H enc w fuel cs x h
  obtain ⟨hl, hf⟩ := struct_fields Tryz.underlying114 h
  have hc : Tryz.prog.cellsOf 114 = 2 := by kernel_rfl
  have hs : Tryz.prog.cellsOf 9 = 1 := by kernel_rfl
  have hp : Tryz.prog.cellsOf 112 = 1 := by kernel_rfl
  have hpk : Tryz.prog.cellsOf 191 = 2 := by kernel_rfl
  rw [hc] at hl
  match cs, hl with
  | [c0, c1], _ =>
    obtain ⟨n0, y0, h0⟩ := struct_field hf 0 9 0 1 rfl rfl rfl hs
    obtain ⟨x0, e0, s0⟩ := opens_str Tryz.underlying9 h0
    obtain ⟨n1, y1, h1⟩ := struct_field hf 1 112 1 1 rfl rfl rfl hp
    obtain ⟨x1, A1, l1, k1, e1, m1, r1⟩ := opens_slice Tryz.underlying112 hpk (by omega) opens_lPt (good_flat _) h1
    simp [FlatR] at e0 e1
    subst e0 e1
    exact ⟨⟨x0, x1⟩, ⟨⟨A1, l1, k1⟩, rfl, r1⟩, s0, by show x1.length ≤ maxLen; rw [r1.1]; exact m1⟩

set_option maxHeartbeats 1000000 in
theorem szNamedPen_any (d : NamedPenD) (h : Hd) (left : Int) (lo hi : Nat) (w : World) (hr : penI w lo hi d h) (hhi : hi ≤ w.heap.size) (hs : d.str) (h0 : 0 ≤ left) (h1 : left ≤ 1048576) :
    Calls Tryz.prog 44 #[penV d h, .int .i64 left] w fun e w' => ∃ r : Int, e = .returned (.int .i64 r) ∧ (r < 0 ∨ (0 ≤ r ∧ r ≤ left ∧ d.L.length ≤ 1048576)) ∧ Below w.heap.size w w' := by
  have hl := Lib.hid hr.1
  have m0 : h.n ≤ 9223372036854775807 := by have := hs.2; unfold maxLen at this; rw [hr.1] at this; exact this
  have s0 : d.name.size ≤ 9223372036854775807 := by have := hs.1; unfold maxLen at this; exact this
  by_cases g0 : (d.name.size : Int) ≤ left
  rotate_left
  · clear hr hs
    go_enter Tryz.func44, Tryz.ntmps44
    go_wp2_with fail
    go_ret
    exact ⟨_, rfl, .inl (by omega), Go.Joins.below_alloc1 _ _⟩
  obtain ⟨r, hr1⟩ : ∃ r : Int, r = if (h.n : Int) ≤ left - d.name.size then left - d.name.size - h.n else -1 := ⟨_, rfl⟩
  have hc := Lib.hid (fun W => szPtS_any h.A h.n h.c (left - d.name.size) W m0 (by omega) (by omega) r hr1)
  clear hr hs
  by_cases g1 : (h.n : Int) ≤ left - d.name.size
  · rw [if_pos g1] at hr1
    have hr0 : 0 ≤ r ∧ r ≤ left := by omega
    obtain ⟨u0, u1⟩ := hr0
    replace hr1 := Lib.hid hr1
    go_enter Tryz.func44, Tryz.ntmps44
    go_wp2_with fail
    refine (hc.out _).mono ?_
    rintro e w1 ⟨rfl, rfl⟩
    go_wp2_with fail
    go_ret
    exact ⟨_, rfl, .inr ⟨by omega, by omega, by rw [hl.out]; omega⟩, Go.Joins.below_alloc1 _ _⟩
  · rw [if_neg g1] at hr1
    subst hr1
    go_enter Tryz.func44, Tryz.ntmps44
    go_wp2_with fail
    refine (hc.out _).mono ?_
    rintro e w1 ⟨rfl, rfl⟩
    go_wp2_with fail
    go_ret
    exact ⟨_, rfl, .inl (by omega), Go.Joins.below_alloc1 _ _⟩

set_option maxHeartbeats 2000000 in
theorem szNamedPenS_any (A : Option Addr) (n c lo hi : Nat) (L : List NamedPenD) (left : Int) (w : World) (hr : pensRd w lo hi A n L) (hhi : hi ≤ w.heap.size) (hs : ∀ g ∈ L, g.str) (hn : n ≤ 9223372036854775807) (h0 : 0 ≤ left) (h1 : left ≤ 1048576) :
    Calls Tryz.prog 13 #[.slice A n c, .int .i64 left] w fun e w' => ∃ r : Int, e = .returned (.int .i64 r) ∧ (r < 0 ∨ 0 ≤ r ∧ r ≤ left ∧ n ≤ 1048576 ∧ ∀ g ∈ L, g.L.length ≤ 1048576) ∧ Below w.heap.size w w' := by
  have hll := Lib.hid hr.1
  replace hr := Lib.hid hr
  replace hs := Lib.hid hs
  by_cases hnl : (n : Int) ≤ left
  rotate_left
  · go_enter Tryz.func13, Tryz.ntmps13
    go_wp2_with fail
    go_ret
    exact ⟨_, rfl, .inl (by omega), Below.refl _ _⟩
  go_enter Tryz.func13, Tryz.ntmps13
  go_wp2_with fail
  go_loopw [1, 5] (fun lv i wr => ∃ (k : Nat) (l : Int), i = .int .i64 k ∧ lv = .int .i64 l ∧ k ≤ n ∧ 0 ≤ l ∧ l ≤ left ∧ (∀ (j : Nat) (g : NamedPenD), j < k → L[j]? = some g → g.L.length ≤ 1048576) ∧ Below w.heap.size w wr) (fun lv i wr => n - (intOf i).toNat)
  case atStart => exact ⟨0, left - n, rfl, rfl, Nat.zero_le _, by omega, by omega, fun j g hj => absurd hj (Nat.not_lt_zero j), Below.refl _ _⟩
  case round =>
    obtain ⟨k, l, rfl, rfl, hk, hl0, hl, hall, hbel⟩ := hrel
    have hl1 : l ≤ 1048576 := by omega
    replace hall := Lib.hid hall
    by_cases hlt : k < n
    · obtain ⟨b, off, d, hh, rfl, hb0, hb, hja, hcs, hrd⟩ := pen_at (hr.out.frame good_pen (Below.sameB hbel hhi)) hlt
      have q0 := hcs 0 _ rfl
      have q1 := hcs 1 _ rfl
      simp only [Nat.add_zero] at q0 q1
      clear hcs
      have hbw : b < wr.heap.size := by have := hbel.size; omega
      have hmem := List.mem_of_getElem? hja
      have hcall := Lib.hid (fun W (hS : SameB lo hi wr W) (h : hi ≤ W.heap.size) => szNamedPen_any d hh l lo hi W (hrd.frame (good_flat _) hS) h (hs.out d hmem) hl0 hl1)
      clear hmem hrd
      replace hja := Lib.hid hja
      go_wp2_with fail
      refine (hcall.out _ (by repeat (first | exact SameB.refl _ _ _ | refine SameB.drew ?_ | refine SameB.alloc ?_ (by simp <;> omega) _)) (by have := hbel.size; simp <;> omega)).mono ?_
      rintro e w1 ⟨r, rfl, hrr, hb1⟩
      have hbel1 := hbel.trans (hb1.mono hbel.size)
      rcases hrr with hrr | ⟨hr0, hrl, hsm⟩
      · go_wp2_with fail
        go_ret
        exact ⟨_, rfl, .inl (by omega), hbel1⟩
      · replace hsm := Lib.hid hsm
        go_wp2_with fail
        go_roundw
        case rel =>
          refine ⟨k + 1, r, by go_num, rfl, by omega, hr0, by omega, fun j g hj hg => ?_, hbel1⟩
          by_cases hjk : j = k
          · subst hjk
            have e := Option.some.inj (hja.out.symm.trans hg)
            subst e
            exact hsm.out
          · exact hall.out j g (by omega) hg
        case measure => simp [intOf]; omega
    · have hkn : k = n := by omega
      replace hkn := Lib.hid hkn
      go_wp2_with fail
      go_ret
      refine ⟨_, rfl, .inr ⟨hl0, hl, by omega, fun g hg => ?_⟩, hbel⟩
      obtain ⟨j, hj⟩ := List.getElem?_of_mem hg
      exact hall.out j g (by rw [hkn.out, ← hll.out]; exact (List.getElem?_eq_some_iff.1 hj).1) hj

set_option maxHeartbeats 4000000 in
theorem toNamedPen_any (d : NamedPenD) (h : Hd) (lo hi : Nat) (w : World) (hr : penI w lo hi d h) (hhi : hi ≤ w.heap.size) (hm : d.L.length ≤ 1048576) :
    Calls Tryz.prog 58 #[penV d h] w fun e w' => ∃ h' : Hd, e = .returned (penV d h') ∧ penI w' w.heap.size w'.heap.size d h' ∧ Below w.heap.size w w' := by
  have hn : h.n ≤ 1048576 := by rw [← hr.1]; exact hm
  replace hr := Lib.hid hr
  go_enter Tryz.func58, Tryz.ntmps58
  go_wp2_with fail
  refine (toPtS_any _ _ _ lo hi d.L _ (hr.out.frame (good_flat _) (Below.sameB (B := w.heap.size) (w := w) (by repeat (first | refine Below.setCell ?_ (by simp <;> omega) _ | refine Below.alloc ?_ (by simp <;> omega) _ | exact Below.refl _ _)) hhi)) (by simp <;> omega) hn).mono ?_
  rintro e w1 ⟨g, rfl, hg, ho, hb1⟩
  have hz1 := hb1.size
  try simp at hz1
  have hB1 : Below w.heap.size w w1 := Below.trans (by repeat (first | refine Below.setCell ?_ (by simp <;> omega) _ | refine Below.alloc ?_ (by simp <;> omega) _ | exact Below.refl _ _)) (hb1.mono (by simp <;> omega))
  have rd := Lib.hid (RdS.wide (good_flat _) (rdS_own ptC_len (by omega) ho hr.out.1) (lo' := w.heap.size + 3) (hi' := w1.heap.size) (by simp <;> omega) (Nat.le_refl _))
  clear ho hg
  have hnew := heap_new0 w (.cells #[.string d.name, .slice h.A h.n h.c] 114 (0, 0)) (.cells #[.string ⟨#[]⟩, .slice none 0 0] 87 (0, 0)) (.cells #[.string d.name, .slice none 0 0] 87 (0, 0))
  have HX : Hid (w1.heap[w.heap.size]? = some (.cells #[.string d.name, .slice h.A h.n h.c] 114 (0, 0))) := (hb1.block _ (by simp <;> omega)).trans hnew.1
  have HR : Hid (w1.heap[w.heap.size + 1]? = some (.cells #[.string ⟨#[]⟩, .slice none 0 0] 87 (0, 0))) := (hb1.block _ (by simp <;> omega)).trans hnew.2.1
  have HO : Hid (w1.heap[w.heap.size + 2]? = some (.cells #[.string d.name, .slice none 0 0] 87 (0, 0))) := (hb1.block _ (by simp <;> omega)).trans hnew.2.2
  clear hnew hb1
  have co0 : w1.cell? ⟨w.heap.size + 2, 0, none⟩ = some (.string d.name) := by rw [Go.Joins.cell_of_block HO.out]; rfl
  have cr0 : w1.cell? ⟨w.heap.size + 1, 0, none⟩ = some (.string ⟨#[]⟩) := by rw [Go.Joins.cell_of_block HR.out]; rfl
  have co1 : w1.cell? ⟨w.heap.size + 2, 1, none⟩ = some (.slice none 0 0) := by rw [Go.Joins.cell_of_block HO.out]; rfl
  have cr1 : w1.cell? ⟨w.heap.size + 1, 1, none⟩ = some (.slice none 0 0) := by rw [Go.Joins.cell_of_block HR.out]; rfl
  have fo : ∀ o, w1.frozen? ⟨w.heap.size + 2, o, none⟩ = false := Go.Joins.unfrozen_of_block HO.out
  have fr : ∀ o, w1.frozen? ⟨w.heap.size + 1, o, none⟩ = false := Go.Joins.unfrozen_of_block HR.out
  go_wp2_with fail
  have hfin : ∀ W', SameB (w.heap.size + 3) w1.heap.size w1 W' → w1.heap.size ≤ W'.heap.size → penI W' w.heap.size W'.heap.size d ⟨some ⟨g, 0, none⟩, h.n, h.n⟩ := fun W' hs hz => (rd.out.frame (good_flat _) hs).wide (good_flat _) (by omega) hz
  refine bodyPost_ret (v := penV d ⟨some ⟨g, 0, none⟩, h.n, h.n⟩) (by simp [results, Tryz.results58, go_sem, cr0, cr1]) rfl ⟨⟨some ⟨g, 0, none⟩, h.n, h.n⟩, rfl, hfin _ ?_ (by simp), by repeat (first | refine Below.setCell ?_ (by simp <;> omega) _ | exact hB1)⟩
  repeat (first | refine SameB.setCell ?_ (.inl (by simp <;> omega)) _ | exact SameB.refl _ _ _)

theorem infoNamedPen : (Tryz.prog.info? 87).map (fun i => (i.zero, i.size, i.bytes)) = some (some (.agg #[.string ⟨#[]⟩, .slice none 0 0]), 2, 40) := by kernel_rfl

def penTo (w : World) (lo : Nat) (L : List NamedPenD) (k : Nat) (ys : List Value) : Prop := ∀ (j : Nat) (g : NamedPenD), j < k → L[j]? = some g → ∃ hh : Hd, (∀ i u, (penC g hh)[i]? = some u → ys[j * 2 + i]? = some u) ∧ penI w lo w.heap.size g hh
def penset (ys : List Value) (m : Nat) (v0 v1 : Value) : List Value := (ys.set (m) v0).set (m + 1) v1
theorem penset_ne {ys : List Value} {m j : Nat} {v0 v1 : Value} (h : j < m ∨ m + 2 ≤ j) : (penset ys m v0 v1)[j]? = ys[j]? := by
  unfold penset
  rw [List.getElem?_set_ne (by omega), List.getElem?_set_ne (by omega)]
theorem penset_at {ys : List Value} {m i : Nat} {u v0 v1 : Value} (hl : m + 2 ≤ ys.length) (h : [v0, v1][i]? = some u) : (penset ys m v0 v1)[m + i]? = some u := by
  unfold penset
  match i, h with
  | 0, h => simp at h; subst h; rw [show m + 0 = m from rfl, List.getElem?_set_ne (by omega), List.getElem?_set_self (by omega)]
  | 1, h => simp at h; subst h; rw [List.getElem?_set_self (by simp only [List.length_set]; omega)]
theorem penTo_next {w w1 w2 : World} {X k : Nat} {L : List NamedPenD} {ys : List Value} {d : NamedPenD} {h' : Hd} (h : penTo w (X + 1) L k ys) (hd : L[k]? = some d) (hX : X < w.heap.size) (hb : Below w.heap.size w w1) (hr : penI w1 w.heap.size w1.heap.size d h') (hs : SameB (X + 1) w1.heap.size w1 w2) (hz : w1.heap.size ≤ w2.heap.size) (hl : k * 2 + 2 ≤ ys.length) :
    penTo w2 (X + 1) L (k + 1) (penset ys (k * 2) (.string d.name) (.slice h'.A h'.n h'.c)) := by
  have hz1 := hb.size
  intro j g hj hg
  by_cases hjk : j = k
  · subst hjk
    have e := Option.some.inj (hd.symm.trans hg)
    subst e
    exact ⟨h', fun i u hu => penset_at hl hu, (hr.wide (good_flat _) (by omega) (Nat.le_refl _) |>.frame (good_flat _) hs).wide (good_flat _) (Nat.le_refl _) hz⟩
  · obtain ⟨hh, h1, h2⟩ := h j g (by omega) hg
    refine ⟨hh, fun i u hu => ?_, (((h2.frame (good_flat _) (Below.sameB hb (Nat.le_refl _))).wide (good_flat _) (Nat.le_refl _) hz1).frame (good_flat _) hs).wide (good_flat _) (Nat.le_refl _) hz⟩
    rw [penset_ne]
    · exact h1 i u hu
    · have hi : i < 2 := by
        rcases Nat.lt_or_ge i 2 with h | h
        · exact h
        · rw [List.getElem?_eq_none (by simp [penC]; omega)] at hu; cases hu
      left
      have : j * 2 + 2 ≤ k * 2 := by omega
      omega

set_option maxHeartbeats 4000000 in
theorem toNamedPenS_rc (A : Option Addr) (n c lo hi : Nat) (L : List NamedPenD) (w : World) (hr : pensRd w lo hi A n L) (hhi : hi ≤ w.heap.size) (hn : n ≤ 1048576 ∧ ∀ g ∈ L, g.L.length ≤ 1048576) :
    Calls Tryz.prog 20 #[.slice A n c] w fun e w' => ∃ A' c', e = .returned (.slice A' n c') ∧ n ≤ c' ∧ pensRd w' w.heap.size w'.heap.size A' n L ∧ Below w.heap.size w w' := by
  obtain ⟨i0, hi0, hz0, hs0, hby0⟩ := info_parts infoNamedPen
  obtain ⟨hn, hm⟩ := hn
  have hll := Lib.hid hr.1
  replace hr := Lib.hid hr
  replace hm := Lib.hid hm
  go_enter Tryz.func20, Tryz.ntmps20
  go_wp2_with (at_make; refine wpList_make_full _ rfl _ _ 47 rfl w.heap.size 87 i0 (.agg #[.string ⟨#[]⟩, .slice none 0 0]) 2 Tryz.underlying47 hi0 hz0 hs0 .i64 .i64 _ _ n rfl rfl rfl rfl (by rw [hby0]; omega) (by unfold maxLen; omega) (Nat.le_refl _) ?_; intro w0 hown0 hg0)
  have hb0 : Below w.heap.size w w0 := (Below.refl _ _).grown hg0 (Nat.le_refl _) (by simp)
  clear hg0
  go_loopw [4] (fun i wr => ∃ (k : Nat) (ys : List Value), i = .int .i64 k ∧ k ≤ n ∧ wr.ownsRow w.heap.size 87 2 (.slice (some ⟨w.heap.size, 0, none⟩) n n) n ys ∧ penTo wr (w.heap.size + 1) L k ys ∧ Below w.heap.size w wr) (fun i wr => n - (intOf i).toNat)
  case atStart => exact ⟨0, _, rfl, Nat.zero_le _, hown0, fun j g hj => absurd hj (Nat.not_lt_zero j), hb0⟩
  case round =>
    clear hown0 hb0
    obtain ⟨k, ys, rfl, hk, ho, hto, hbel⟩ := hrel
    replace hto := Lib.hid hto
    have hX : w.heap.size < wr.heap.size := (ho.lt _ rfl).2
    by_cases hlt : k < n
    · obtain ⟨b, off, d, hh, rfl, hb0, hb, hja, hcs, hrd⟩ := pen_at (hr.out.frame good_pen (Below.sameB hbel hhi)) hlt
      have q0 := hcs 0 _ rfl
      have q1 := hcs 1 _ rfl
      simp only [Nat.add_zero] at q0 q1
      have hbw : b < wr.heap.size := by omega
      have hsm := hm.out d (List.mem_of_getElem? hja)
      have hcall := Lib.hid (toNamedPen_any d hh lo hi wr hrd (by omega) hsm)
      clear hcs hrd hsm hb0 hb
      replace hja := Lib.hid hja
      replace ho := Lib.hid ho
      go_wp2_with (go_at_call 58; refine hcall.out.mono ?_; rintro e w1 ⟨h', rfl, hrd', hb1⟩; have ho1 := own_below ho.out hb1; obtain ⟨g, hg, _, hglt, _, hcell, hfr⟩ := own_at ho1 (by omega); injection hg with hg; injection hg with hg; subst hg; have hyl := ho1.1; have c0 := hcell (k * 2) (by omega); have c1 := hcell (k * 2 + 1) (by omega); rw [List.getElem?_eq_getElem (by omega)] at c0 c1; have f0 := hfr (k * 2); have f1 := hfr (k * 2 + 1); clear hcell hfr; replace ho1 := Lib.hid ho1; replace hyl := Lib.hid hyl; generalize ys[k * 2]'(by have := hyl.out; omega) = z0 at *; generalize ys[k * 2 + 1]'(by have := hyl.out; omega) = z1 at *; have hb1s := hb1.size; replace hrd' := Lib.hid hrd')
      go_roundw
      case rel =>
        have hyl := ho1.out.1
        have hz1 := hb1.size
        refine ⟨k + 1, _, by go_num, by omega, ((ho1.out.stored (k * 2) (.string d.name)).1.stored (k * 2 + 1) (.slice h'.A h'.n h'.c)).1, ?_, (((hbel.trans (hb1.mono hbel.size)).setCell (Nat.le_refl _) _).setCell (Nat.le_refl _) _)⟩
        refine penTo_next hto.out hja.out hX hb1 hrd'.out ?_ (by simp) (by omega)
        repeat (first | refine SameB.setCell ?_ (.inl (by simp)) _ | exact SameB.refl _ _ _)
      case measure => simp [intOf]; omega
    · have hkn : k = n := by omega
      replace hkn := Lib.hid hkn
      replace ho := Lib.hid ho
      go_wp2_with fail
      go_ret
      refine ⟨_, _, rfl, Nat.le_refl _, ⟨hll.out, fun h0 => ⟨w.heap.size, 0, rfl, Nat.le_refl _, hX, fun j g hj => ?_⟩⟩, hbel⟩
      have hjl := (List.getElem?_eq_some_iff.1 hj).1
      have hl' := hll.out
      obtain ⟨hh, h1, h2⟩ := hto.out j g (by rw [hkn.out]; omega) hj
      refine ⟨penC g hh, rfl, fun i u hu => ?_, hh, rfl, h2.wide (good_flat _) (by omega) (Nat.le_refl _)⟩
      have hi : i < 2 := by
        rcases Nat.lt_or_ge i 2 with h | h
        · exact h
        · rw [List.getElem?_eq_none (by simp [penC]; omega)] at hu; cases hu
      have h3 := ho.out.cellAt (j * 2 + i) (by omega)
      rw [h1 i u hu] at h3
      rw [Nat.zero_add]
      exact h3
set_option maxHeartbeats 2000000 in
theorem eqNamedPen_any (d : NamedPenD) (h h' : Hd) (lo hi lo' hi' : Nat) (w : World) (h1 : penI w lo hi d h) (h2 : penI w lo' hi' d h') (hh1 : hi ≤ w.heap.size) (hh2 : hi' ≤ w.heap.size) (hm : d.L.length ≤ 100000000) :
    Calls Tryz.prog 86 #[penV d h, penV d h'] w fun e w' => e = .returned (.bool true) ∧ Below w.heap.size w w' := by
  have hn : h.n ≤ 100000000 := by rw [← h1.1]; exact hm
  have hB0 := Go.Joins.below_alloc2 w (.cells #[.string d.name, .slice h.A h.n h.c] 87 (0, 0)) (.cells #[.string d.name, .slice h'.A h'.n h'.c] 87 (0, 0))
  have hnew := Lib.hid (heap_two w (.cells #[.string d.name, .slice h.A h.n h.c] 87 (0, 0)) (.cells #[.string d.name, .slice h'.A h'.n h'.c] 87 (0, 0)))
  replace h1 := Lib.hid h1
  replace h2 := Lib.hid h2
  go_enter Tryz.func86, Tryz.ntmps86
  go_wp2_with fail
  refine (eqPtS_any _ _ _ _ _ _ lo hi lo' hi' d.L _ (h1.out.frame (good_flat _) (Below.sameB hB0 hh1)) (h2.out.frame (good_flat _) (Below.sameB hB0 hh2)) (by simp; omega) (by simp; omega) (by omega)).mono ?_
  rintro e w1 ⟨rfl, hb1⟩
  go_wp2_with fail
  go_ret
  exact ⟨rfl, hB0.trans (hb1.mono (by simp; omega))⟩

set_option maxRecDepth 100000 in
set_option maxHeartbeats 2000000 in
theorem eqNamedPenS_any (A A' : Option Addr) (n c n' c' lo hi lo' hi' : Nat) (L : List NamedPenD) (w : World) (h1 : pensRd w lo hi A n L) (h2 : pensRd w lo' hi' A' n' L) (hh1 : hi ≤ w.heap.size) (hh2 : hi' ≤ w.heap.size) (hn : n ≤ 100000000 ∧ ∀ g ∈ L, g.L.length ≤ 100000000) :
    Calls Tryz.prog 36 #[.slice A n c, .slice A' n' c'] w fun e w' => e = .returned (.bool true) ∧ Below w.heap.size w w' := by
  obtain rfl : n = n' := h1.1.symm.trans h2.1
  obtain ⟨hn, hm⟩ := hn
  replace h1 := Lib.hid h1
  replace h2 := Lib.hid h2
  replace hm := Lib.hid hm
  go_enter Tryz.func36, Tryz.ntmps36
  go_wp2_with fail
  go_loopw [5] (fun i wr => ∃ k : Nat, i = .int .i64 k ∧ k ≤ n ∧ Below w.heap.size w wr) (fun i wr => n - (intOf i).toNat)
  case atStart => exact ⟨0, rfl, Nat.zero_le _, Below.refl _ _⟩
  case round =>
    obtain ⟨k, rfl, hk, hbel⟩ := hrel
    have hsz := hbel.size
    by_cases hlt : k < n
    · obtain ⟨b, off, d, x1, rfl, hb0, hb, hja, hcs, hr1⟩ := pen_at (h1.out.frame good_pen (Below.sameB hbel hh1)) hlt
      obtain ⟨b', off', d', x2, rfl, hb0', hb', hja', hcs', hr2⟩ := pen_at (h2.out.frame good_pen (Below.sameB hbel hh2)) hlt
      have hdd := Option.some.inj (hja.symm.trans hja')
      subst hdd
      have hsm := hm.out d (List.mem_of_getElem? hja)
      have q0 := hcs 0 _ rfl
      have q1 := hcs 1 _ rfl
      have p0 := hcs' 0 _ rfl
      have p1 := hcs' 1 _ rfl
      simp only [Nat.add_zero] at q0 q1 p0 p1
      have hcall := Lib.hid (fun W (hB : SameB 0 wr.heap.size wr W) (hs : wr.heap.size ≤ W.heap.size) => eqNamedPen_any d x1 x2 lo hi lo' hi' W (hr1.frame (good_flat _) (hB.mono (Nat.zero_le _) (by omega))) (hr2.frame (good_flat _) (hB.mono (Nat.zero_le _) (by omega))) (by omega) (by omega) hsm)
      have hbw : b < wr.heap.size := by omega
      have hbw' : b' < wr.heap.size := by omega
      clear hcs hcs' hr1 hr2 hja hja' hb0 hb0' hb hb' hsz hh1 hh2 h1 h2 hsm
      have hi : (0 : Int) ≤ (k : Int) ∧ (k : Int) < (n : Int) := by omega
      go_wp2_with fail
      go_still_tail 8, (by kernel_rfl)
      go_wp2_with (go_at_call 86; refine (hcall.out _ (SameB.refl _ _ wr).drew (Nat.le_refl _)).mono ?_; rintro e w1 ⟨rfl, hb1⟩)
      go_roundw
      case rel => exact ⟨k + 1, by go_num, by omega, hbel.drew.trans (hb1.mono (by simp; exact hbel.size))⟩
      case measure => simp [intOf]; omega
    · go_wp2_with fail
      go_ret
      exact ⟨rfl, hbel⟩
end Go.Proofs.YtfkidklpjiiclaaGreat

/- NamedPath: how it lies in memory, the laws' own functions on it and on slices of it. Printed by rowgen.py. Conditions: as each states. -/
namespace Go.Proofs.YtfkidklpjiiclaaGreat
open Go.RowKit Go.ChangeShapes Go.WideShapes Go.Deep
set_option linter.unusedVariables false
set_option maxRecDepth 100000

structure NamedPathD where
  name : ByteArray
  L : List (Int × Int)
  closed : Bool
  deriving DecidableEq
def npathC (d : NamedPathD) (h : Hd) : List Value := [.string d.name, .slice h.A h.n h.c, .bool d.closed]
abbrev npathV (d : NamedPathD) (h : Hd) : Value := .agg #[.string d.name, .slice h.A h.n h.c, .bool d.closed]
abbrev npathI (w : World) (lo hi : Nat) (d : NamedPathD) (h : Hd) : Prop := RdS 2 (FlatR ptC) w lo hi h.A h.n d.L
def npathR : Rel NamedPathD := fun w lo hi d cs => ∃ h, cs = npathC d h ∧ npathI w lo hi d h
theorem good_npath : Good npathR := by
  constructor
  · rintro w w' lo hi d cs ⟨h, rfl, r⟩ s
    exact ⟨h, rfl, r.frame (good_flat _) s⟩
  · rintro w lo hi lo' hi' d cs ⟨h, rfl, r⟩ h1 h2
    exact ⟨h, rfl, r.wide (good_flat _) h1 h2⟩
abbrev npathsRd (w : World) (lo hi : Nat) (A : Option Addr) (n : Nat) (L : List NamedPathD) : Prop := RdS 3 npathR w lo hi A n L
def NamedPathD.str (d : NamedPathD) : Prop := d.name.size ≤ maxLen ∧ d.L.length ≤ maxLen
theorem npath_at {w : World} {lo hi : Nat} {A : Option Addr} {n : Nat} {L : List NamedPathD} (h : npathsRd w lo hi A n L) {j : Nat} (hj : j < n) :
    ∃ b off d hh, A = some ⟨b, off, none⟩ ∧ lo ≤ b ∧ b < hi ∧ L[j]? = some d ∧ (∀ i u, (npathC d hh)[i]? = some u → w.cell? ⟨b, off + j * 3 + i, none⟩ = some u) ∧ npathI w lo hi d hh := by
  obtain ⟨hl, h⟩ := h
  obtain ⟨b, off, rfl, h1, h2, h3⟩ := h (by omega)
  have hja : L[j]? = some (L[j]'(by omega)) := List.getElem?_eq_getElem (by omega)
  obtain ⟨es, e1, e2, hh, rfl, r⟩ := h3 j _ hja
  exact ⟨b, off, _, hh, rfl, h1, h2, hja, e2, r⟩
theorem opens_lNamedPath : Opens Tryz.prog 117 (AndR npathR NamedPathD.str) := by
  intro H enc w fuel cs x h
  obtain ⟨hl, hf⟩ := struct_fields Tryz.underlying117 h
  have hc : Tryz.prog.cellsOf 117 = 3 := by kernel_rfl
  have hs : Tryz.prog.cellsOf 9 = 1 := by kernel_rfl
  have hp : Tryz.prog.cellsOf 112 = 1 := by kernel_rfl
  have hpk : Tryz.prog.cellsOf 191 = 2 := by kernel_rfl
  have hb : Tryz.prog.cellsOf 4 = 1 := by kernel_rfl
  rw [hc] at hl
  match cs, hl with
  | [c0, c1, c2], _ =>
    obtain ⟨n0, y0, h0⟩ := struct_field hf 0 9 0 1 rfl rfl rfl hs
    obtain ⟨x0, e0, s0⟩ := opens_str Tryz.underlying9 h0
    obtain ⟨n1, y1, h1⟩ := struct_field hf 1 112 1 1 rfl rfl rfl hp
    obtain ⟨x1, A1, l1, k1, e1, m1, r1⟩ := opens_slice Tryz.underlying112 hpk (by omega) opens_lPt (good_flat _) h1
    obtain ⟨n2, y2, h2⟩ := struct_field hf 2 4 2 1 rfl rfl rfl hb
    obtain ⟨x2, e2⟩ := opens_bool Tryz.underlying4 h2
    simp [FlatR] at e0 e1 e2
    subst e0 e1 e2
    exact ⟨⟨x0, x1, x2⟩, ⟨⟨A1, l1, k1⟩, rfl, r1⟩, s0, by show x1.length ≤ maxLen; rw [r1.1]; exact m1⟩

set_option maxHeartbeats 1000000 in
theorem szNamedPath_any (d : NamedPathD) (h : Hd) (left : Int) (lo hi : Nat) (w : World) (hr : npathI w lo hi d h) (hhi : hi ≤ w.heap.size) (hs : d.str) (h0 : 0 ≤ left) (h1 : left ≤ 1048576) :
    Calls Tryz.prog 45 #[npathV d h, .int .i64 left] w fun e w' => ∃ r : Int, e = .returned (.int .i64 r) ∧ (r < 0 ∨ (0 ≤ r ∧ r ≤ left ∧ d.L.length ≤ 1048576)) ∧ Below w.heap.size w w' := by
  have hl := Lib.hid hr.1
  have m0 : h.n ≤ 9223372036854775807 := by have := hs.2; unfold maxLen at this; rw [hr.1] at this; exact this
  have s0 : d.name.size ≤ 9223372036854775807 := by have := hs.1; unfold maxLen at this; exact this
  by_cases g0 : (d.name.size : Int) ≤ left
  rotate_left
  · clear hr hs
    go_enter Tryz.func45, Tryz.ntmps45
    go_wp2_with fail
    go_ret
    exact ⟨_, rfl, .inl (by omega), Go.Joins.below_alloc1 _ _⟩
  obtain ⟨r, hr1⟩ : ∃ r : Int, r = if (h.n : Int) ≤ left - d.name.size then left - d.name.size - h.n else -1 := ⟨_, rfl⟩
  have hc := Lib.hid (fun W => szPtS_any h.A h.n h.c (left - d.name.size) W m0 (by omega) (by omega) r hr1)
  clear hr hs
  by_cases g1 : (h.n : Int) ≤ left - d.name.size
  · rw [if_pos g1] at hr1
    have hr0 : 0 ≤ r ∧ r ≤ left := by omega
    obtain ⟨u0, u1⟩ := hr0
    replace hr1 := Lib.hid hr1
    go_enter Tryz.func45, Tryz.ntmps45
    go_wp2_with fail
    refine (hc.out _).mono ?_
    rintro e w1 ⟨rfl, rfl⟩
    go_wp2_with fail
    go_ret
    exact ⟨_, rfl, .inr ⟨by omega, by omega, by rw [hl.out]; omega⟩, Go.Joins.below_alloc1 _ _⟩
  · rw [if_neg g1] at hr1
    subst hr1
    go_enter Tryz.func45, Tryz.ntmps45
    go_wp2_with fail
    refine (hc.out _).mono ?_
    rintro e w1 ⟨rfl, rfl⟩
    go_wp2_with fail
    go_ret
    exact ⟨_, rfl, .inl (by omega), Go.Joins.below_alloc1 _ _⟩

set_option maxHeartbeats 2000000 in
theorem szNamedPathS_any (A : Option Addr) (n c lo hi : Nat) (L : List NamedPathD) (left : Int) (w : World) (hr : npathsRd w lo hi A n L) (hhi : hi ≤ w.heap.size) (hs : ∀ g ∈ L, g.str) (hn : n ≤ 9223372036854775807) (h0 : 0 ≤ left) (h1 : left ≤ 1048576) :
    Calls Tryz.prog 14 #[.slice A n c, .int .i64 left] w fun e w' => ∃ r : Int, e = .returned (.int .i64 r) ∧ (r < 0 ∨ 0 ≤ r ∧ r ≤ left ∧ n ≤ 1048576 ∧ ∀ g ∈ L, g.L.length ≤ 1048576) ∧ Below w.heap.size w w' := by
  have hll := Lib.hid hr.1
  replace hr := Lib.hid hr
  replace hs := Lib.hid hs
  by_cases hnl : (n : Int) ≤ left
  rotate_left
  · go_enter Tryz.func14, Tryz.ntmps14
    go_wp2_with fail
    go_ret
    exact ⟨_, rfl, .inl (by omega), Below.refl _ _⟩
  go_enter Tryz.func14, Tryz.ntmps14
  go_wp2_with fail
  go_loopw [1, 5] (fun lv i wr => ∃ (k : Nat) (l : Int), i = .int .i64 k ∧ lv = .int .i64 l ∧ k ≤ n ∧ 0 ≤ l ∧ l ≤ left ∧ (∀ (j : Nat) (g : NamedPathD), j < k → L[j]? = some g → g.L.length ≤ 1048576) ∧ Below w.heap.size w wr) (fun lv i wr => n - (intOf i).toNat)
  case atStart => exact ⟨0, left - n, rfl, rfl, Nat.zero_le _, by omega, by omega, fun j g hj => absurd hj (Nat.not_lt_zero j), Below.refl _ _⟩
  case round =>
    obtain ⟨k, l, rfl, rfl, hk, hl0, hl, hall, hbel⟩ := hrel
    have hl1 : l ≤ 1048576 := by omega
    replace hall := Lib.hid hall
    by_cases hlt : k < n
    · obtain ⟨b, off, d, hh, rfl, hb0, hb, hja, hcs, hrd⟩ := npath_at (hr.out.frame good_npath (Below.sameB hbel hhi)) hlt
      have q0 := hcs 0 _ rfl
      have q1 := hcs 1 _ rfl
      have q2 := hcs 2 _ rfl
      simp only [Nat.add_zero] at q0 q1 q2
      clear hcs
      have hbw : b < wr.heap.size := by have := hbel.size; omega
      have hmem := List.mem_of_getElem? hja
      have hcall := Lib.hid (fun W (hS : SameB lo hi wr W) (h : hi ≤ W.heap.size) => szNamedPath_any d hh l lo hi W (hrd.frame (good_flat _) hS) h (hs.out d hmem) hl0 hl1)
      clear hmem hrd
      replace hja := Lib.hid hja
      go_wp2_with fail
      refine (hcall.out _ (by repeat (first | exact SameB.refl _ _ _ | refine SameB.drew ?_ | refine SameB.alloc ?_ (by simp <;> omega) _)) (by have := hbel.size; simp <;> omega)).mono ?_
      rintro e w1 ⟨r, rfl, hrr, hb1⟩
      have hbel1 := hbel.trans (hb1.mono hbel.size)
      rcases hrr with hrr | ⟨hr0, hrl, hsm⟩
      · go_wp2_with fail
        go_ret
        exact ⟨_, rfl, .inl (by omega), hbel1⟩
      · replace hsm := Lib.hid hsm
        go_wp2_with fail
        go_roundw
        case rel =>
          refine ⟨k + 1, r, by go_num, rfl, by omega, hr0, by omega, fun j g hj hg => ?_, hbel1⟩
          by_cases hjk : j = k
          · subst hjk
            have e := Option.some.inj (hja.out.symm.trans hg)
            subst e
            exact hsm.out
          · exact hall.out j g (by omega) hg
        case measure => simp [intOf]; omega
    · have hkn : k = n := by omega
      replace hkn := Lib.hid hkn
      go_wp2_with fail
      go_ret
      refine ⟨_, rfl, .inr ⟨hl0, hl, by omega, fun g hg => ?_⟩, hbel⟩
      obtain ⟨j, hj⟩ := List.getElem?_of_mem hg
      exact hall.out j g (by rw [hkn.out, ← hll.out]; exact (List.getElem?_eq_some_iff.1 hj).1) hj

set_option maxHeartbeats 4000000 in
theorem toNamedPath_any (d : NamedPathD) (h : Hd) (lo hi : Nat) (w : World) (hr : npathI w lo hi d h) (hhi : hi ≤ w.heap.size) (hm : d.L.length ≤ 1048576) :
    Calls Tryz.prog 59 #[npathV d h] w fun e w' => ∃ h' : Hd, e = .returned (npathV d h') ∧ npathI w' w.heap.size w'.heap.size d h' ∧ Below w.heap.size w w' := by
  have hn : h.n ≤ 1048576 := by rw [← hr.1]; exact hm
  replace hr := Lib.hid hr
  go_enter Tryz.func59, Tryz.ntmps59
  go_wp2_with fail
  refine (toPtS_any _ _ _ lo hi d.L _ (hr.out.frame (good_flat _) (Below.sameB (B := w.heap.size) (w := w) (by repeat (first | refine Below.setCell ?_ (by simp <;> omega) _ | refine Below.alloc ?_ (by simp <;> omega) _ | exact Below.refl _ _)) hhi)) (by simp <;> omega) hn).mono ?_
  rintro e w1 ⟨g, rfl, hg, ho, hb1⟩
  have hz1 := hb1.size
  try simp at hz1
  have hB1 : Below w.heap.size w w1 := Below.trans (by repeat (first | refine Below.setCell ?_ (by simp <;> omega) _ | refine Below.alloc ?_ (by simp <;> omega) _ | exact Below.refl _ _)) (hb1.mono (by simp <;> omega))
  have rd := Lib.hid (RdS.wide (good_flat _) (rdS_own ptC_len (by omega) ho hr.out.1) (lo' := w.heap.size + 3) (hi' := w1.heap.size) (by simp <;> omega) (Nat.le_refl _))
  clear ho hg
  have hnew := heap_new0 w (.cells #[.string d.name, .slice h.A h.n h.c, .bool d.closed] 117 (0, 0)) (.cells #[.string ⟨#[]⟩, .slice none 0 0, .bool false] 92 (0, 0)) (.cells #[.string d.name, .slice none 0 0, .bool false] 92 (0, 0))
  have HX : Hid (w1.heap[w.heap.size]? = some (.cells #[.string d.name, .slice h.A h.n h.c, .bool d.closed] 117 (0, 0))) := (hb1.block _ (by simp <;> omega)).trans hnew.1
  have HR : Hid (w1.heap[w.heap.size + 1]? = some (.cells #[.string ⟨#[]⟩, .slice none 0 0, .bool false] 92 (0, 0))) := (hb1.block _ (by simp <;> omega)).trans hnew.2.1
  have HO : Hid (w1.heap[w.heap.size + 2]? = some (.cells #[.string d.name, .slice none 0 0, .bool false] 92 (0, 0))) := (hb1.block _ (by simp <;> omega)).trans hnew.2.2
  clear hnew hb1
  have cx2 : w1.cell? ⟨w.heap.size, 2, none⟩ = some (.bool d.closed) := by rw [Go.Joins.cell_of_block HX.out]; rfl
  have co0 : w1.cell? ⟨w.heap.size + 2, 0, none⟩ = some (.string d.name) := by rw [Go.Joins.cell_of_block HO.out]; rfl
  have cr0 : w1.cell? ⟨w.heap.size + 1, 0, none⟩ = some (.string ⟨#[]⟩) := by rw [Go.Joins.cell_of_block HR.out]; rfl
  have co1 : w1.cell? ⟨w.heap.size + 2, 1, none⟩ = some (.slice none 0 0) := by rw [Go.Joins.cell_of_block HO.out]; rfl
  have cr1 : w1.cell? ⟨w.heap.size + 1, 1, none⟩ = some (.slice none 0 0) := by rw [Go.Joins.cell_of_block HR.out]; rfl
  have co2 : w1.cell? ⟨w.heap.size + 2, 2, none⟩ = some (.bool false) := by rw [Go.Joins.cell_of_block HO.out]; rfl
  have cr2 : w1.cell? ⟨w.heap.size + 1, 2, none⟩ = some (.bool false) := by rw [Go.Joins.cell_of_block HR.out]; rfl
  have fo : ∀ o, w1.frozen? ⟨w.heap.size + 2, o, none⟩ = false := Go.Joins.unfrozen_of_block HO.out
  have fr : ∀ o, w1.frozen? ⟨w.heap.size + 1, o, none⟩ = false := Go.Joins.unfrozen_of_block HR.out
  go_wp2_with fail
  have hfin : ∀ W', SameB (w.heap.size + 3) w1.heap.size w1 W' → w1.heap.size ≤ W'.heap.size → npathI W' w.heap.size W'.heap.size d ⟨some ⟨g, 0, none⟩, h.n, h.n⟩ := fun W' hs hz => (rd.out.frame (good_flat _) hs).wide (good_flat _) (by omega) hz
  refine bodyPost_ret (v := npathV d ⟨some ⟨g, 0, none⟩, h.n, h.n⟩) (by simp [results, Tryz.results59, go_sem, cr0, cr1, cr2]) rfl ⟨⟨some ⟨g, 0, none⟩, h.n, h.n⟩, rfl, hfin _ ?_ (by simp), by repeat (first | refine Below.setCell ?_ (by simp <;> omega) _ | exact hB1)⟩
  repeat (first | refine SameB.setCell ?_ (.inl (by simp <;> omega)) _ | exact SameB.refl _ _ _)

theorem infoNamedPath : (Tryz.prog.info? 92).map (fun i => (i.zero, i.size, i.bytes)) = some (some (.agg #[.string ⟨#[]⟩, .slice none 0 0, .bool false]), 3, 48) := by kernel_rfl

def npathTo (w : World) (lo : Nat) (L : List NamedPathD) (k : Nat) (ys : List Value) : Prop := ∀ (j : Nat) (g : NamedPathD), j < k → L[j]? = some g → ∃ hh : Hd, (∀ i u, (npathC g hh)[i]? = some u → ys[j * 3 + i]? = some u) ∧ npathI w lo w.heap.size g hh
def npathset (ys : List Value) (m : Nat) (v0 v1 v2 : Value) : List Value := ((ys.set (m) v0).set (m + 1) v1).set (m + 2) v2
theorem npathset_ne {ys : List Value} {m j : Nat} {v0 v1 v2 : Value} (h : j < m ∨ m + 3 ≤ j) : (npathset ys m v0 v1 v2)[j]? = ys[j]? := by
  unfold npathset
  rw [List.getElem?_set_ne (by omega), List.getElem?_set_ne (by omega), List.getElem?_set_ne (by omega)]
theorem npathset_at {ys : List Value} {m i : Nat} {u v0 v1 v2 : Value} (hl : m + 3 ≤ ys.length) (h : [v0, v1, v2][i]? = some u) : (npathset ys m v0 v1 v2)[m + i]? = some u := by
  unfold npathset
  match i, h with
  | 0, h => simp at h; subst h; rw [show m + 0 = m from rfl, List.getElem?_set_ne (by omega), List.getElem?_set_ne (by omega), List.getElem?_set_self (by omega)]
  | 1, h => simp at h; subst h; rw [List.getElem?_set_ne (by omega), List.getElem?_set_self (by simp only [List.length_set]; omega)]
  | 2, h => simp at h; subst h; rw [List.getElem?_set_self (by simp only [List.length_set]; omega)]
theorem npathTo_next {w w1 w2 : World} {X k : Nat} {L : List NamedPathD} {ys : List Value} {d : NamedPathD} {h' : Hd} (h : npathTo w (X + 1) L k ys) (hd : L[k]? = some d) (hX : X < w.heap.size) (hb : Below w.heap.size w w1) (hr : npathI w1 w.heap.size w1.heap.size d h') (hs : SameB (X + 1) w1.heap.size w1 w2) (hz : w1.heap.size ≤ w2.heap.size) (hl : k * 3 + 3 ≤ ys.length) :
    npathTo w2 (X + 1) L (k + 1) (npathset ys (k * 3) (.string d.name) (.slice h'.A h'.n h'.c) (.bool d.closed)) := by
  have hz1 := hb.size
  intro j g hj hg
  by_cases hjk : j = k
  · subst hjk
    have e := Option.some.inj (hd.symm.trans hg)
    subst e
    exact ⟨h', fun i u hu => npathset_at hl hu, (hr.wide (good_flat _) (by omega) (Nat.le_refl _) |>.frame (good_flat _) hs).wide (good_flat _) (Nat.le_refl _) hz⟩
  · obtain ⟨hh, h1, h2⟩ := h j g (by omega) hg
    refine ⟨hh, fun i u hu => ?_, (((h2.frame (good_flat _) (Below.sameB hb (Nat.le_refl _))).wide (good_flat _) (Nat.le_refl _) hz1).frame (good_flat _) hs).wide (good_flat _) (Nat.le_refl _) hz⟩
    rw [npathset_ne]
    · exact h1 i u hu
    · have hi : i < 3 := by
        rcases Nat.lt_or_ge i 3 with h | h
        · exact h
        · rw [List.getElem?_eq_none (by simp [npathC]; omega)] at hu; cases hu
      left
      have : j * 3 + 3 ≤ k * 3 := by omega
      omega

set_option maxHeartbeats 4000000 in
theorem toNamedPathS_rc (A : Option Addr) (n c lo hi : Nat) (L : List NamedPathD) (w : World) (hr : npathsRd w lo hi A n L) (hhi : hi ≤ w.heap.size) (hn : n ≤ 1048576 ∧ ∀ g ∈ L, g.L.length ≤ 1048576) :
    Calls Tryz.prog 21 #[.slice A n c] w fun e w' => ∃ A' c', e = .returned (.slice A' n c') ∧ n ≤ c' ∧ npathsRd w' w.heap.size w'.heap.size A' n L ∧ Below w.heap.size w w' := by
  obtain ⟨i0, hi0, hz0, hs0, hby0⟩ := info_parts infoNamedPath
  obtain ⟨hn, hm⟩ := hn
  have hll := Lib.hid hr.1
  replace hr := Lib.hid hr
  replace hm := Lib.hid hm
  go_enter Tryz.func21, Tryz.ntmps21
  go_wp2_with (at_make; refine wpList_make_full _ rfl _ _ 48 rfl w.heap.size 92 i0 (.agg #[.string ⟨#[]⟩, .slice none 0 0, .bool false]) 3 Tryz.underlying48 hi0 hz0 hs0 .i64 .i64 _ _ n rfl rfl rfl rfl (by rw [hby0]; omega) (by unfold maxLen; omega) (Nat.le_refl _) ?_; intro w0 hown0 hg0)
  have hb0 : Below w.heap.size w w0 := (Below.refl _ _).grown hg0 (Nat.le_refl _) (by simp)
  clear hg0
  go_loopw [4] (fun i wr => ∃ (k : Nat) (ys : List Value), i = .int .i64 k ∧ k ≤ n ∧ wr.ownsRow w.heap.size 92 3 (.slice (some ⟨w.heap.size, 0, none⟩) n n) n ys ∧ npathTo wr (w.heap.size + 1) L k ys ∧ Below w.heap.size w wr) (fun i wr => n - (intOf i).toNat)
  case atStart => exact ⟨0, _, rfl, Nat.zero_le _, hown0, fun j g hj => absurd hj (Nat.not_lt_zero j), hb0⟩
  case round =>
    clear hown0 hb0
    obtain ⟨k, ys, rfl, hk, ho, hto, hbel⟩ := hrel
    replace hto := Lib.hid hto
    have hX : w.heap.size < wr.heap.size := (ho.lt _ rfl).2
    by_cases hlt : k < n
    · obtain ⟨b, off, d, hh, rfl, hb0, hb, hja, hcs, hrd⟩ := npath_at (hr.out.frame good_npath (Below.sameB hbel hhi)) hlt
      have q0 := hcs 0 _ rfl
      have q1 := hcs 1 _ rfl
      have q2 := hcs 2 _ rfl
      simp only [Nat.add_zero] at q0 q1 q2
      have hbw : b < wr.heap.size := by omega
      have hsm := hm.out d (List.mem_of_getElem? hja)
      have hcall := Lib.hid (toNamedPath_any d hh lo hi wr hrd (by omega) hsm)
      clear hcs hrd hsm hb0 hb
      replace hja := Lib.hid hja
      replace ho := Lib.hid ho
      go_wp2_with (go_at_call 59; refine hcall.out.mono ?_; rintro e w1 ⟨h', rfl, hrd', hb1⟩; have ho1 := own_below ho.out hb1; obtain ⟨g, hg, _, hglt, _, hcell, hfr⟩ := own_at ho1 (by omega); injection hg with hg; injection hg with hg; subst hg; have hyl := ho1.1; have c0 := hcell (k * 3) (by omega); have c1 := hcell (k * 3 + 1) (by omega); have c2 := hcell (k * 3 + 2) (by omega); rw [List.getElem?_eq_getElem (by omega)] at c0 c1 c2; have f0 := hfr (k * 3); have f1 := hfr (k * 3 + 1); have f2 := hfr (k * 3 + 2); clear hcell hfr; replace ho1 := Lib.hid ho1; replace hyl := Lib.hid hyl; generalize ys[k * 3]'(by have := hyl.out; omega) = z0 at *; generalize ys[k * 3 + 1]'(by have := hyl.out; omega) = z1 at *; generalize ys[k * 3 + 2]'(by have := hyl.out; omega) = z2 at *; have hb1s := hb1.size; replace hrd' := Lib.hid hrd')
      go_roundw
      case rel =>
        have hyl := ho1.out.1
        have hz1 := hb1.size
        refine ⟨k + 1, _, by go_num, by omega, (((ho1.out.stored (k * 3) (.string d.name)).1.stored (k * 3 + 1) (.slice h'.A h'.n h'.c)).1.stored (k * 3 + 2) (.bool d.closed)).1, ?_, ((((hbel.trans (hb1.mono hbel.size)).setCell (Nat.le_refl _) _).setCell (Nat.le_refl _) _).setCell (Nat.le_refl _) _)⟩
        refine npathTo_next hto.out hja.out hX hb1 hrd'.out ?_ (by simp) (by omega)
        repeat (first | refine SameB.setCell ?_ (.inl (by simp)) _ | exact SameB.refl _ _ _)
      case measure => simp [intOf]; omega
    · have hkn : k = n := by omega
      replace hkn := Lib.hid hkn
      replace ho := Lib.hid ho
      go_wp2_with fail
      go_ret
      refine ⟨_, _, rfl, Nat.le_refl _, ⟨hll.out, fun h0 => ⟨w.heap.size, 0, rfl, Nat.le_refl _, hX, fun j g hj => ?_⟩⟩, hbel⟩
      have hjl := (List.getElem?_eq_some_iff.1 hj).1
      have hl' := hll.out
      obtain ⟨hh, h1, h2⟩ := hto.out j g (by rw [hkn.out]; omega) hj
      refine ⟨npathC g hh, rfl, fun i u hu => ?_, hh, rfl, h2.wide (good_flat _) (by omega) (Nat.le_refl _)⟩
      have hi : i < 3 := by
        rcases Nat.lt_or_ge i 3 with h | h
        · exact h
        · rw [List.getElem?_eq_none (by simp [npathC]; omega)] at hu; cases hu
      have h3 := ho.out.cellAt (j * 3 + i) (by omega)
      rw [h1 i u hu] at h3
      rw [Nat.zero_add]
      exact h3
set_option maxHeartbeats 2000000 in
theorem eqNamedPath_any (d : NamedPathD) (h h' : Hd) (lo hi lo' hi' : Nat) (w : World) (h1 : npathI w lo hi d h) (h2 : npathI w lo' hi' d h') (hh1 : hi ≤ w.heap.size) (hh2 : hi' ≤ w.heap.size) (hm : d.L.length ≤ 100000000) :
    Calls Tryz.prog 87 #[npathV d h, npathV d h'] w fun e w' => e = .returned (.bool true) ∧ Below w.heap.size w w' := by
  have hn : h.n ≤ 100000000 := by rw [← h1.1]; exact hm
  have hB0 := Go.Joins.below_alloc2 w (.cells #[.string d.name, .slice h.A h.n h.c, .bool d.closed] 92 (0, 0)) (.cells #[.string d.name, .slice h'.A h'.n h'.c, .bool d.closed] 92 (0, 0))
  have hnew := Lib.hid (heap_two w (.cells #[.string d.name, .slice h.A h.n h.c, .bool d.closed] 92 (0, 0)) (.cells #[.string d.name, .slice h'.A h'.n h'.c, .bool d.closed] 92 (0, 0)))
  replace h1 := Lib.hid h1
  replace h2 := Lib.hid h2
  go_enter Tryz.func87, Tryz.ntmps87
  go_wp2_with fail
  refine (eqPtS_any _ _ _ _ _ _ lo hi lo' hi' d.L _ (h1.out.frame (good_flat _) (Below.sameB hB0 hh1)) (h2.out.frame (good_flat _) (Below.sameB hB0 hh2)) (by simp; omega) (by simp; omega) (by omega)).mono ?_
  rintro e w1 ⟨rfl, hb1⟩
  have hz1 := hb1.size
  try simp at hz1
  have HX := (hb1.block w.heap.size (by simp <;> omega)).trans hnew.out.1
  have HY := (hb1.block (w.heap.size + 1) (by simp <;> omega)).trans hnew.out.2
  have cx2 : w1.cell? ⟨w.heap.size, 2, none⟩ = some (.bool d.closed) := by rw [Go.Joins.cell_of_block HX]; rfl
  have cy2 : w1.cell? ⟨w.heap.size + 1, 2, none⟩ = some (.bool d.closed) := by rw [Go.Joins.cell_of_block HY]; rfl
  replace HX := Lib.hid HX
  replace HY := Lib.hid HY
  go_wp2_with fail
  go_ret
  exact ⟨rfl, hB0.trans (hb1.mono (by simp; omega))⟩

set_option maxRecDepth 100000 in
set_option maxHeartbeats 2000000 in
theorem eqNamedPathS_any (A A' : Option Addr) (n c n' c' lo hi lo' hi' : Nat) (L : List NamedPathD) (w : World) (h1 : npathsRd w lo hi A n L) (h2 : npathsRd w lo' hi' A' n' L) (hh1 : hi ≤ w.heap.size) (hh2 : hi' ≤ w.heap.size) (hn : n ≤ 100000000 ∧ ∀ g ∈ L, g.L.length ≤ 100000000) :
    Calls Tryz.prog 37 #[.slice A n c, .slice A' n' c'] w fun e w' => e = .returned (.bool true) ∧ Below w.heap.size w w' := by
  obtain rfl : n = n' := h1.1.symm.trans h2.1
  obtain ⟨hn, hm⟩ := hn
  replace h1 := Lib.hid h1
  replace h2 := Lib.hid h2
  replace hm := Lib.hid hm
  go_enter Tryz.func37, Tryz.ntmps37
  go_wp2_with fail
  go_loopw [5] (fun i wr => ∃ k : Nat, i = .int .i64 k ∧ k ≤ n ∧ Below w.heap.size w wr) (fun i wr => n - (intOf i).toNat)
  case atStart => exact ⟨0, rfl, Nat.zero_le _, Below.refl _ _⟩
  case round =>
    obtain ⟨k, rfl, hk, hbel⟩ := hrel
    have hsz := hbel.size
    by_cases hlt : k < n
    · obtain ⟨b, off, d, x1, rfl, hb0, hb, hja, hcs, hr1⟩ := npath_at (h1.out.frame good_npath (Below.sameB hbel hh1)) hlt
      obtain ⟨b', off', d', x2, rfl, hb0', hb', hja', hcs', hr2⟩ := npath_at (h2.out.frame good_npath (Below.sameB hbel hh2)) hlt
      have hdd := Option.some.inj (hja.symm.trans hja')
      subst hdd
      have hsm := hm.out d (List.mem_of_getElem? hja)
      have q0 := hcs 0 _ rfl
      have q1 := hcs 1 _ rfl
      have q2 := hcs 2 _ rfl
      have p0 := hcs' 0 _ rfl
      have p1 := hcs' 1 _ rfl
      have p2 := hcs' 2 _ rfl
      simp only [Nat.add_zero] at q0 q1 q2 p0 p1 p2
      have hcall := Lib.hid (fun W (hB : SameB 0 wr.heap.size wr W) (hs : wr.heap.size ≤ W.heap.size) => eqNamedPath_any d x1 x2 lo hi lo' hi' W (hr1.frame (good_flat _) (hB.mono (Nat.zero_le _) (by omega))) (hr2.frame (good_flat _) (hB.mono (Nat.zero_le _) (by omega))) (by omega) (by omega) hsm)
      have hbw : b < wr.heap.size := by omega
      have hbw' : b' < wr.heap.size := by omega
      clear hcs hcs' hr1 hr2 hja hja' hb0 hb0' hb hb' hsz hh1 hh2 h1 h2 hsm
      have hi : (0 : Int) ≤ (k : Int) ∧ (k : Int) < (n : Int) := by omega
      go_wp2_with fail
      go_still_tail 8, (by kernel_rfl)
      go_wp2_with (go_at_call 87; refine (hcall.out _ (SameB.refl _ _ wr).drew (Nat.le_refl _)).mono ?_; rintro e w1 ⟨rfl, hb1⟩)
      go_roundw
      case rel => exact ⟨k + 1, by go_num, by omega, hbel.drew.trans (hb1.mono (by simp; exact hbel.size))⟩
      case measure => simp [intOf]; omega
    · go_wp2_with fail
      go_ret
      exact ⟨rfl, hbel⟩
end Go.Proofs.YtfkidklpjiiclaaGreat

