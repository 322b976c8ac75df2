/- The glyph with a name, the glyph of a character: both sides. Conditions: as each states. -/
import Derived.Test.YtgdkabljgabjoaaGreatDoorGw17
namespace Go.Proofs.YtgdkabljgabjoaaGreatDoor
open Go.RowKit
set_option linter.unusedVariables false
set_option maxRecDepth 100000

def findG (L : List Gl) (p : Gl → Bool) : Int := match L.findIdx? p with
  | some k => k
  | none => -1
theorem findG_hit {L : List Gl} {p : Gl → Bool} {k : Nat} {g : Gl} (h : L[k]? = some g) (hp : p g = true) (hb : ∀ b ∈ L.take k, p b = false) : findG L p = k := by
  have hk := (List.getElem?_eq_some_iff.1 h).1
  have : L.findIdx? p = some k := by
    rw [List.findIdx?_eq_some_iff_getElem]
    refine ⟨hk, by rw [List.getElem?_eq_getElem hk] at h; injection h with h; rw [h]; exact hp, fun j hj => ?_⟩
    have := hb L[j] (List.mem_of_getElem? (i := j) (by rw [List.getElem?_take_of_lt hj]; exact List.getElem?_eq_getElem (by omega)))
    simp [this]
  unfold findG; rw [this]
theorem findG_miss {L : List Gl} {p : Gl → Bool} (h : ∀ b ∈ L, p b = false) : findG L p = -1 := by
  have : L.findIdx? p = none := by rw [List.findIdx?_eq_none_iff]; exact h
  unfold findG; rw [this]
theorem findG_bd (L : List Gl) (p : Gl → Bool) : findG L p = -1 ∨ 0 ≤ findG L p ∧ findG L p < L.length := by
  unfold findG
  cases h : L.findIdx? p with
  | none => exact .inl rfl
  | some k =>
    rw [List.findIdx?_eq_some_iff_getElem] at h
    have := h.1
    right; simp only; omega
theorem miss_step {L : List Gl} {p : Gl → Bool} {k : Nat} {g : Gl} (h : ∀ b ∈ L.take k, p b = false) (hk : L[k]? = some g) (hp : p g = false) : ∀ b ∈ L.take (k + 1), p b = false := fun b hb => by
  rw [take_snocG hk, List.mem_append] at hb
  rcases hb with hb | hb
  · exact h b hb
  · simp at hb; rw [hb]; exact hp
/-- an index, if there is one in a valid set -/
def foundR (d : GSet) (p : Gl → Bool) : Int × Bool := if setOk d = true then (if findG d.gl p < 0 then (0, false) else (findG d.gl p, true)) else (0, false)
theorem found_no {d : GSet} {p : Gl → Bool} (h : setOk d = false) : foundR d p = (0, false) := by unfold foundR; rw [if_neg (by rw [h]; simp)]
theorem found_miss {d : GSet} {p : Gl → Bool} (h : setOk d = true) (h1 : findG d.gl p < 0) : foundR d p = (0, false) := by unfold foundR; rw [if_pos h, if_pos h1]
theorem found_hit {d : GSet} {p : Gl → Bool} (h : setOk d = true) (h1 : ¬ findG d.gl p < 0) : foundR d p = (findG d.gl p, true) := by unfold foundR; rw [if_pos h, if_neg h1]

theorem foundIndex_any (r : Int) (w : World) (h : r = -1 ∨ 0 ≤ r) : Calls Tryz.prog 65 #[.int .i64 r] w fun e w' => e = .returned (.tuple #[.int .i64 (if r < 0 then 0 else r), .bool (decide (0 ≤ r))]) ∧ w = w' := by
  rcases h with rfl | h
  · go_enter Tryz.func65, Tryz.ntmps65
    go_wp2_with fail
    go_ret2
    exact ⟨rfl, rfl⟩
  · have h1 : ¬ r < 0 := by omega
    rw [if_neg h1, decide_eq_true h]
    go_enter Tryz.func65, Tryz.ntmps65
    go_wp2_with fail
    go_ret2
    exact ⟨rfl, rfl⟩

theorem GsRd.frameB {w W : World} {lo hi : Nat} {A : Option Addr} {n : Nat} {L : List Gl} (h : GsRd w lo hi A n L) (hB : Below w.heap.size w W) (hhi : hi ≤ w.heap.size) : GsRd W lo hi A n L := h.frame good_glyph (Below.sameB hB hhi)

theorem glyphNamedC_any (bb : Nat) (d : Gl) (h : GlH) (x : ByteArray) (t : Bool) (ht : t = decide (d.name = x)) (w : World) (hc : w.cell? ⟨bb, 0, none⟩ = some (.string x)) (hb : bb < w.heap.size) :
    Calls Tryz.prog 107 #[glV d h, .pointer (some ⟨bb, 0, none⟩)] w fun e w' => e = .returned (.bool t) ∧ Below w.heap.size w w' := by
  cases t
  · have e0 := of_decide_eq_false ht.symm
    have u0 : (d.name.toList == x.toList) = false := bytes_neq e0
    clear ht e0
    go_enter Tryz.func107, Tryz.ntmps107
    go_wp2_with fail
    go_ret
    exact ⟨rfl, Go.Joins.below_alloc1 _ _⟩
  · have e0 := of_decide_eq_true ht.symm
    subst e0
    clear ht
    go_enter Tryz.func107, Tryz.ntmps107
    go_wp2_with fail
    go_ret
    exact ⟨rfl, Go.Joins.below_alloc1 _ _⟩

set_option maxHeartbeats 2000000 in
theorem glyphNamedI_any (A : Option Addr) (n c lo hi : Nat) (L : List Gl) (bb : Nat) (x : ByteArray) (w : World) (hr : GsRd w lo hi A n L) (hhi : hi ≤ w.heap.size) (hn : n ≤ 1000000000) (hc : w.cell? ⟨bb, 0, none⟩ = some (.string x)) (hb : bb < w.heap.size) :
    Calls Tryz.prog 106 #[.slice A n c, .func (.func 107) #[] #[.pointer (some ⟨bb, 0, none⟩)]] w fun e w' => e = .returned (.int .i64 (findG L (fun g : Gl => decide (g.name = x)))) ∧ Below w.heap.size w w' := by
  obtain ⟨r, hres⟩ : ∃ r, r = findG L (fun g : Gl => decide (g.name = x)) := ⟨_, rfl⟩
  rw [← hres]
  replace hres := Lib.hid hres
  have hl := Lib.hid hr.1
  replace hr := Lib.hid hr
  replace hc := Lib.hid hc
  go_enter Tryz.func106, Tryz.ntmps106
  go_wp2_with fail
  go_loopw [8] (fun i wr => ∃ k : Nat, i = .int .i64 k ∧ k ≤ n ∧ (∀ b ∈ L.take k, (fun g : Gl => decide (g.name = x)) b = false) ∧ Below w.heap.size w wr) (fun i wr => n - (intOf i).toNat)
  case atStart => exact ⟨0, rfl, Nat.zero_le _, by simp, Below.refl _ _⟩
  case round =>
    obtain ⟨k, rfl, hk, hall, hbel⟩ := hrel
    replace hall := Lib.hid hall
    have hsz := hbel.size
    by_cases hlt : k < n
    · obtain ⟨b1, f1, d, h, rfl, _, hb1, hja, hcs, _⟩ := gs_at (hr.out.frame good_glyph (Below.sameB hbel hhi)) hlt
      have q0 := hcs 0 _ rfl
      have q1 := hcs 1 _ rfl
      have q2 := hcs 2 _ rfl
      have q3 := hcs 3 _ rfl
      have q4 := hcs 4 _ rfl
      have q5 := hcs 5 _ rfl
      have q6 := hcs 6 _ rfl
      simp only [Nat.add_zero] at q0 q1 q2 q3 q4 q5 q6
      have hb1w : b1 < wr.heap.size := by omega
      replace hja := Lib.hid hja
      obtain ⟨t, ht⟩ : ∃ t, t = decide (d.name = x) := ⟨_, rfl⟩
      have hcall := Lib.hid (glyphNamedC_any bb d h x t ht wr ((hbel.cell hb).trans hc.out) (by omega))
      replace ht := Lib.hid ht
      clear hcs
      go_wp2_with fail
      refine hcall.out.mono ?_
      rintro e w1 ⟨rfl, hb1⟩
      have hbel1 := hbel.trans (hb1.mono hsz)
      cases t
      · go_wp2_with fail
        go_roundw
        case rel => exact ⟨k + 1, by go_num, by omega, miss_step hall.out hja.out (by simp [of_decide_eq_false ht.out.symm]), hbel1⟩
        case measure => simp [intOf]; omega
      · have hrk : r = (k : Int) := by rw [hres.out]; exact findG_hit hja.out (by simp [of_decide_eq_true ht.out.symm]) hall.out
        subst hrk
        go_wp2_with fail
        go_ret
        exact ⟨rfl, hbel1⟩
    · have hkn : k = n := by omega
      have hrk : r = -1 := by rw [hres.out]; exact findG_miss (by have := hall.out; rwa [hkn, List.take_of_length_le (by rw [hl.out]; omega)] at this)
      subst hrk
      replace hkn := Lib.hid hkn
      go_wp2_with fail
      go_ret
      exact ⟨rfl, hbel⟩

theorem glyphNamed_any (u : Int) (A : Option Addr) (n c lo hi : Nat) (L : List Gl) (x : ByteArray) (w : World) (hr : GsRd w lo hi A n L) (hhi : hi ≤ w.heap.size) (hn : n ≤ 1000000000) :
    Calls Tryz.prog 66 #[.agg #[.int .i64 u, .slice A n c], .string x] w fun e w' => e = .returned (.int .i64 (findG L (fun g : Gl => decide (g.name = x)))) ∧ Below w.heap.size w w' := by
  have hB0 : Below w.heap.size w ((w.alloc (.cells #[.int .i64 u, .slice A n c] 36 (0, 0))).alloc (.cells #[.string x] 9 (0, 0))) := Go.Joins.below_alloc2 _ _ _
  have hnew := heap_new2 w (.cells #[.int .i64 u, .slice A n c] 36 (0, 0)) (.cells #[.string x] 9 (0, 0))
  have hc := Lib.hid (glyphNamedI_any A n c lo hi L (w.heap.size + 1) x ((w.alloc (.cells #[.int .i64 u, .slice A n c] 36 (0, 0))).alloc (.cells #[.string x] 9 (0, 0))) (hr.frame good_glyph (Below.sameB hB0 hhi)) (Nat.le_trans hhi hB0.size) hn (by rw [Go.Joins.cell_of_block hnew.2]; rfl) (by simp))
  clear hr hnew
  generalize findG L (fun g : Gl => decide (g.name = x)) = r at hc ⊢
  go_enter Tryz.func66, Tryz.ntmps66
  go_wp2_with fail
  refine hc.out.mono ?_
  rintro e w1 ⟨rfl, hb1⟩
  go_wp2_with fail
  go_ret
  exact ⟨rfl, hB0.trans (hb1.mono hB0.size)⟩

set_option maxHeartbeats 2000000 in
theorem implGlyphNamed_any (d : GSet) (h : GSetH) (x : ByteArray) (r0 : Int) (r1 : Bool) (heq : (r0, r1) = foundR d (fun g : Gl => decide (g.name = x))) (lo hi : Nat) (w : World) (hr : GSetRc w lo hi d h) (hhi : hi ≤ w.heap.size) (hm : d.small 1000000000) (hs : ∀ g ∈ d.gl, g.str) :
    Calls Tryz.prog 24 #[gsV d h, .string x] w fun e w' => e = .returned (.tuple #[.int .i64 r0, .bool r1]) ∧ Below w.heap.size w w' := by
  have hB0 : Below w.heap.size w (w.alloc (.cells #[.int .i64 d.unit, .slice h.gl.A h.gl.n h.gl.c] 36 (0, 0))) := Go.Joins.below_alloc1 _ _
  obtain ⟨v, hv⟩ : ∃ v, v = setOk d := ⟨_, rfl⟩
  have hc := Lib.hid (implValidGS_any d h v hv lo hi (w.alloc (.cells #[.int .i64 d.unit, .slice h.gl.A h.gl.n h.gl.c] 36 (0, 0))) (hr.frame good_glyphc (Below.sameB hB0 hhi)) (Nat.le_trans hhi hB0.size) hm hs)
  have k0 : (w.alloc (.cells #[.int .i64 d.unit, .slice h.gl.A h.gl.n h.gl.c] 36 (0, 0))).cell? ⟨w.heap.size, 0, none⟩ = some (.int .i64 d.unit) := by rw [Go.Joins.cell_of_block (heap_alloc_new w _)]; rfl
  have k1 : (w.alloc (.cells #[.int .i64 d.unit, .slice h.gl.A h.gl.n h.gl.c] 36 (0, 0))).cell? ⟨w.heap.size, 1, none⟩ = some (.slice h.gl.A h.gl.n h.gl.c) := by rw [Go.Joins.cell_of_block (heap_alloc_new w _)]; rfl
  have hz : w.heap.size < (w.alloc (.cells #[.int .i64 d.unit, .slice h.gl.A h.gl.n h.gl.c] 36 (0, 0))).heap.size := by simp
  cases v with
  | false =>
    rw [found_no hv.symm] at heq
    injection heq with h0 h1
    subst h0 h1
    clear hr hm hs hv k0 k1
    go_enter Tryz.func24, Tryz.ntmps24
    go_wp2_with fail
    refine hc.out.mono ?_
    rintro e w1 ⟨rfl, hb1⟩
    go_wp2_with fail
    go_ret2
    exact ⟨rfl, hB0.trans (hb1.mono hB0.size)⟩
  | true =>
    obtain ⟨r, hrr⟩ : ∃ r, r = findG d.gl (fun g : Gl => decide (g.name = x)) := ⟨_, rfl⟩
    have hbd := findG_bd d.gl (fun g : Gl => decide (g.name = x))
    rw [← hrr] at hbd
    have hcn := Lib.hid (fun (W : World) (hB : Below w.heap.size w W) => glyphNamed_any d.unit h.gl.A h.gl.n h.gl.c lo hi d.gl x W (GsRd.frameB hr.rd hB hhi) (Nat.le_trans hhi hB.size) (hm.gl hr.1).1)
    rw [← hrr] at hcn
    have hfi := Lib.hid (fun W => foundIndex_any r W (hbd.imp id And.left))
    have hq : r0 = (if r < 0 then 0 else r) ∧ r1 = decide (0 ≤ r) := by
      by_cases hr0 : r < 0
      · rw [found_miss hv.symm (by rw [← hrr]; exact hr0)] at heq
        injection heq with h0 h1
        exact ⟨by rw [h0, if_pos hr0], by rw [h1, decide_eq_false (by omega)]⟩
      · rw [found_hit hv.symm (by rw [← hrr]; exact hr0), ← hrr] at heq
        injection heq with h0 h1
        exact ⟨by rw [h0, if_neg hr0], by rw [h1, decide_eq_true (by omega)]⟩
    obtain ⟨h0, h1⟩ := hq
    rw [← h0, ← h1] at hfi
    replace h0 := Lib.hid h0
    replace h1 := Lib.hid h1
    replace hrr := Lib.hid hrr
    replace heq := Lib.hid heq
    clear hr hm hs hv hbd
    go_enter Tryz.func24, Tryz.ntmps24
    go_wp2_with fail
    refine hc.out.mono ?_
    rintro e w1 ⟨rfl, hb1⟩
    have j0 := (hb1.cell (p := ⟨w.heap.size, 0, none⟩) hz).trans k0
    have j1 := (hb1.cell (p := ⟨w.heap.size, 1, none⟩) hz).trans k1
    have hz1 : w.heap.size < w1.heap.size := Nat.lt_of_lt_of_le hz hb1.size
    have hB1 := hB0.trans (hb1.mono hB0.size)
    clear k0 k1
    go_wp2_with fail
    refine (hcn.out _ hB1).mono ?_
    rintro e w2 ⟨rfl, hb2⟩
    go_wp2_with fail
    refine (hfi.out _).mono ?_
    rintro e w3 ⟨rfl, rfl⟩
    go_wp2_with fail
    go_ret2
    exact ⟨rfl, hB1.trans (hb2.mono hB1.size)⟩

end Go.Proofs.YtgdkabljgabjoaaGreatDoor

