/- The laws' own functions on slices of Frac. Conditions: as each states. -/
import Derived.RegionTactic
import Derived.ChangeAlike
import Derived.Outline
import Derived.Deep.RegionWith
import Derived.StillTailTactics
import Derived.Test.YtfkidklpjiiclaaGreatTe01
import Derived.Test.YtfkidklpjiiclaaGreatProg
import Derived.Test.YtfkidklpjiiclaaGreatTe05
namespace Go.Proofs.YtfkidklpjiiclaaGreat
open Go.RowKit
set_option linter.unusedVariables false
set_option maxRecDepth 100000

theorem toFrac_any (x0 : Int) (x1 : Int) (w : World) :
    Calls Tryz.prog 177 #[.agg #[.int .i64 x0, .int .i64 x1]] w fun e w' => e = .returned (.agg #[.int .i64 x0, .int .i64 x1]) ∧ Below w.heap.size w w' := by
  go_enter Tryz.func177, Tryz.ntmps177
  go_wp2_with fail
  refine bodyPost_ret (v := .agg #[.int .i64 x0, .int .i64 x1]) (by simp [results, Tryz.results177, go_sem]) rfl ⟨rfl, ?_⟩
  repeat (first | exact Below.refl _ _ | assumption | refine Below.alloc ?_ (by simp <;> omega) _ | refine Below.drew ?_ | refine Below.setCell ?_ (by simp <;> omega) _ | (refine Below.trans ?_ (hb1.mono (by simp <;> omega))))

theorem eqFrac_any (x0 : Int) (x1 : Int) (w : World) :
    Calls Tryz.prog 192 #[.agg #[.int .i64 x0, .int .i64 x1], .agg #[.int .i64 x0, .int .i64 x1]] w fun e w' => e = .returned (.bool true) ∧ Below w.heap.size w w' := by
  go_enter Tryz.func192, Tryz.ntmps192
  go_wp2_with fail
  go_ret
  refine ⟨rfl, ?_⟩
  repeat (first | exact Below.refl _ _ | assumption | refine Below.alloc ?_ (by simp <;> omega) _ | refine Below.drew ?_ | refine Below.setCell ?_ (by simp <;> omega) _ | (refine Below.trans ?_ (hb1.mono (by simp <;> omega))))

end Go.Proofs.YtfkidklpjiiclaaGreat

/- The laws' own functions on slices of Term. Conditions: as each states. -/
namespace Go.Proofs.YtfkidklpjiiclaaGreat
open Go.RowKit
set_option linter.unusedVariables false
set_option maxRecDepth 100000

theorem toTerm_any (x0 : ByteArray) (x1 : Int) (x2 : Int) (w : World) :
    Calls Tryz.prog 198 #[.agg #[.string x0, .int .i64 x1, .int .i64 x2]] w fun e w' => e = .returned (.agg #[.string x0, .int .i64 x1, .int .i64 x2]) ∧ Below w.heap.size w w' := by
  go_enter Tryz.func198, Tryz.ntmps198
  go_wp2_with fail
  refine (toFrac_any _ _ _).mono ?_
  rintro e w1 ⟨rfl, hb1⟩
  obtain ⟨hc, hf⟩ := bcell hb1
  have hz1 := hb1.size
  simp at hz1
  have d0 : w1.cell? ⟨w.heap.size + 2, 0, none⟩ = some (.string x0) := by rw [hc _ _ (by simp <;> omega)]; go_simp
  have d1 : w1.cell? ⟨w.heap.size + 2, 1, none⟩ = some (.int .i64 0) := by rw [hc _ _ (by simp <;> omega)]; go_simp
  have d2 : w1.cell? ⟨w.heap.size + 2, 2, none⟩ = some (.int .i64 0) := by rw [hc _ _ (by simp <;> omega)]; go_simp
  have e0 : w1.cell? ⟨w.heap.size + 1, 0, none⟩ = some (.string ⟨#[]⟩) := by rw [hc _ _ (by simp <;> omega)]; go_simp
  have e1 : w1.cell? ⟨w.heap.size + 1, 1, none⟩ = some (.int .i64 0) := by rw [hc _ _ (by simp <;> omega)]; go_simp
  have e2 : w1.cell? ⟨w.heap.size + 1, 2, none⟩ = some (.int .i64 0) := by rw [hc _ _ (by simp <;> omega)]; go_simp
  have g1 : ∀ o, w1.frozen? ⟨w.heap.size + 1, o, none⟩ = false := by intro o; rw [hf _ _ (by simp <;> omega)]; go_simp
  have g2 : ∀ o, w1.frozen? ⟨w.heap.size + 2, o, none⟩ = false := by intro o; rw [hf _ _ (by simp <;> omega)]; go_simp
  clear hc hf
  go_wp2_with fail
  refine bodyPost_ret (v := .agg #[.string x0, .int .i64 x1, .int .i64 x2]) (by simp [results, Tryz.results198, go_sem, e0, e1, e2]) rfl ⟨rfl, ?_⟩
  have hB : Below w.heap.size w w1 := ((((Below.refl _ _).alloc (Nat.le_refl _) _).alloc (by simp) _).alloc (by simp <;> omega) _).trans (hb1.mono (by simp <;> omega))
  exact ((((hB.setCell (by simp <;> omega) _).setCell (by simp <;> omega) _).setCell (by simp <;> omega) _).setCell (by simp <;> omega) _).setCell (by simp <;> omega) _

theorem eqTerm_any (x0 : ByteArray) (x1 : Int) (x2 : Int) (w : World) :
    Calls Tryz.prog 205 #[.agg #[.string x0, .int .i64 x1, .int .i64 x2], .agg #[.string x0, .int .i64 x1, .int .i64 x2]] w fun e w' => e = .returned (.bool true) ∧ Below w.heap.size w w' := by
  go_enter Tryz.func205, Tryz.ntmps205
  go_wp2_with fail
  refine (eqFrac_any _ _ _).mono ?_
  rintro e w1 ⟨rfl, hb1⟩
  obtain ⟨hc, hf⟩ := bcell hb1
  have hz1 := hb1.size
  simp at hz1
  clear hc hf
  go_wp2_with fail
  go_ret
  exact ⟨rfl, (((Below.refl _ _).alloc (Nat.le_refl _) _).alloc (by simp) _).trans (hb1.mono (by simp <;> omega))⟩

theorem infoTerm : (Tryz.prog.info? 142).map (fun i => (i.zero, i.size, i.bytes)) = some (some (.agg #[.string ⟨#[]⟩, .int .i64 0, .int .i64 0]), 3, 32) := by kernel_rfl

set_option maxHeartbeats 1000000 in
theorem toTermS_any (A : Option Addr) (n c lo hi : Nat) (L : List (ByteArray × Int × Int)) (w : World) (hr : RdS 3 (FlatR anchC) w lo hi A n L) (hhi : hi ≤ w.heap.size) (hn : n ≤ 1048576) :
    Calls Tryz.prog 178 #[.slice A n c] w fun e w' => ∃ g, e = .returned (.slice (some ⟨g, 0, none⟩) n n) ∧ g = w.heap.size ∧ w'.ownsRow w.heap.size 142 3 (.slice (some ⟨g, 0, none⟩) n n) n (L.flatMap anchC) ∧ Below w.heap.size w w' := by
  obtain ⟨i0, hi0, hz0, hs0, hby0⟩ := info_parts infoTerm
  replace hr := Lib.hid hr
  go_enter Tryz.func178, Tryz.ntmps178
  go_wp2_with (at_make; refine wpList_make_full _ rfl _ _ 103 rfl w.heap.size 142 i0 (.agg #[.string ⟨#[]⟩, .int .i64 0, .int .i64 0]) 3 Tryz.underlying103 hi0 hz0 hs0 .i64 .i64 _ _ n rfl rfl rfl rfl (by rw [hby0]; omega) (by unfold maxLen; omega) (Nat.le_refl _) ?_; intro w0 hown0 hg0)
  have hb0 : Below w.heap.size w w0 := (Below.refl _ _).grown hg0 (Nat.le_refl _) (by simp)
  clear hg0
  go_loopw [4] (fun i wr => ∃ (k : Nat) (ys : List Value), i = .int .i64 k ∧ k ≤ n ∧ wr.ownsRow w.heap.size 142 3 (.slice (some ⟨w.heap.size, 0, none⟩) n n) n ys ∧ (∀ j a, j < k → L[j]? = some a → ∀ i, i < 3 → ys[j * 3 + i]? = (anchC a)[i]?) ∧ Below w.heap.size w wr) (fun i wr => n - (intOf i).toNat)
  case atStart => exact ⟨0, _, rfl, Nat.zero_le _, hown0, fun j a hj => absurd hj (Nat.not_lt_zero j), hb0⟩
  case round =>
    clear hown0 hb0
    obtain ⟨k, ys, rfl, hk, ho, hall, hbel⟩ := hrel
    replace hall := Lib.hid hall
    by_cases hlt : k < n
    · obtain ⟨b, off, ⟨x0, x1, x2⟩, rfl, hb0, hb, hja, hcs⟩ := (hr.out.frame (good_flat _) (Below.sameB hbel hhi)).at hlt
      have q0 := hcs 0 _ rfl
      have q1 := hcs 1 _ rfl
      have q2 := hcs 2 _ rfl
      simp only [Nat.add_zero] at q0 q1 q2
      clear hcs
      replace hja := Lib.hid hja
      replace ho := Lib.hid ho
      go_wp2_with (go_at_call 198; refine (toTerm_any _ _ _ _).mono ?_; rintro e w1 ⟨rfl, hb1⟩; have ho1 := own_below ho.out hb1; obtain ⟨g, hg, _, hglt, _, hcell, hfr⟩ := own_at ho1 (by omega); injection hg with hg; injection hg with hg; subst hg; have hyl := ho1.1; have c0 := hcell (k * 3) (by omega); have c1 := hcell (k * 3 + 1) (by omega); have c2 := hcell (k * 3 + 2) (by omega); rw [List.getElem?_eq_getElem (by omega)] at c0 c1 c2; have f0 := hfr (k * 3); have f1 := hfr (k * 3 + 1); have f2 := hfr (k * 3 + 2); clear hcell hfr; replace ho1 := Lib.hid ho1; replace hyl := Lib.hid hyl; generalize ys[k * 3]'(by have := hyl.out; omega) = v0 at c0; generalize ys[k * 3 + 1]'(by have := hyl.out; omega) = v1 at c1; generalize ys[k * 3 + 2]'(by have := hyl.out; omega) = v2 at c2)
      go_roundw
      case rel =>
        have hyl := ho1.out.1
        refine ⟨k + 1, _, by go_num, by omega, (((ho1.out.stored (k * 3) (.string x0)).1.stored (k * 3 + 1) (.int .i64 x1)).1.stored (k * 3 + 2) (.int .i64 x2)).1, fun j a hj ha i hi => ?_, (((hbel.trans (hb1.mono hbel.size)).setCell (Nat.le_refl _) _).setCell (Nat.le_refl _) _).setCell (Nat.le_refl _) _⟩
        rcases Nat.lt_or_ge j k with h | h
        · rw [List.getElem?_set_ne (by omega), List.getElem?_set_ne (by omega), List.getElem?_set_ne (by omega)]
          exact hall.out j a h ha i hi
        · obtain rfl : j = k := by omega
          have ha := Option.some.inj (hja.out.symm.trans ha)
          subst ha
          obtain rfl | hi' : i = 0 ∨ 0 < i := by omega
          · simp only [Nat.add_zero]
            rw [List.getElem?_set_ne (by omega), List.getElem?_set_ne (by omega), List.getElem?_set_self (by first | omega | (simp only [List.length_set]; omega))]
            rfl
          obtain rfl | hi' : i = 1 ∨ 1 < i := by omega
          · skip
            rw [List.getElem?_set_ne (by omega), List.getElem?_set_self (by first | omega | (simp only [List.length_set]; omega))]
            rfl
          obtain rfl | hi' : i = 2 ∨ 2 < i := by omega
          · skip
            rw [List.getElem?_set_self (by first | omega | (simp only [List.length_set]; omega))]
            rfl
          omega
      case measure => simp [intOf]; omega
    · have hkn : k = n := by omega
      replace hkn := Lib.hid hkn
      replace ho := Lib.hid ho
      go_wp2_with fail
      go_ret
      refine ⟨w.heap.size, rfl, rfl, ?_, hbel⟩
      have : ys = L.flatMap anchC := flat_ext (k := 3) (n := n) anchC_len hr.out.1 ho.out.1 fun j a ha i hi => by
        have h1 := hall.out j a (by rw [hkn.out]; have := (List.getElem?_eq_some_iff.1 ha).1; rw [hr.out.1] at this; exact this) ha i hi
        simpa using h1
      rw [← this]; exact ho.out

set_option maxRecDepth 100000 in
set_option maxHeartbeats 1000000 in
theorem eqTermS_any (A A' : Option Addr) (n c n' c' lo hi lo' hi' : Nat) (L : List (ByteArray × Int × Int)) (w : World) (h1 : RdS 3 (FlatR anchC) w lo hi A n L) (h2 : RdS 3 (FlatR anchC) w lo' hi' A' n' L) (hh1 : hi ≤ w.heap.size) (hh2 : hi' ≤ w.heap.size) (hn : n ≤ 1000000000) :
    Calls Tryz.prog 193 #[.slice A n c, .slice A' n' c'] w fun e w' => e = .returned (.bool true) ∧ Below w.heap.size w w' := by
  obtain rfl : n = n' := h1.1.symm.trans h2.1
  replace h1 := Lib.hid h1
  replace h2 := Lib.hid h2
  go_enter Tryz.func193, Tryz.ntmps193
  go_wp2_with fail
  go_loopw [5] (fun i wr => ∃ k : Nat, i = .int .i64 k ∧ k ≤ n ∧ Below w.heap.size w wr) (fun i wr => n - (intOf i).toNat)
  case atStart => exact ⟨0, rfl, Nat.zero_le _, Below.refl _ _⟩
  case round =>
    obtain ⟨k, rfl, hk, hbel⟩ := hrel
    have hsz := hbel.size
    by_cases hlt : k < n
    · obtain ⟨b, off, ⟨x0, x1, x2⟩, rfl, hb0, hb, hja, hcs⟩ := (h1.out.frame (good_flat _) (Below.sameB hbel hh1)).at hlt
      obtain ⟨b', off', a', rfl, hb0', hb', hja', hcs'⟩ := (h2.out.frame (good_flat _) (Below.sameB hbel hh2)).at hlt
      have hja' := Option.some.inj (hja.symm.trans hja')
      subst hja' 
      have q0 := hcs 0 _ rfl
      have p0 := hcs' 0 _ rfl
      have q1 := hcs 1 _ rfl
      have p1 := hcs' 1 _ rfl
      have q2 := hcs 2 _ rfl
      have p2 := hcs' 2 _ rfl
      simp only [Nat.add_zero] at q0 p0 q1 p1 q2 p2
      clear hcs hcs' hja
      have hbw : b < wr.heap.size := by omega
      have hbw' : b' < wr.heap.size := by omega
      clear hb0 hb0' hb hb' hsz hh1 hh2 h1 h2
      have hi : (0 : Int) ≤ (k : Int) ∧ (k : Int) < (n : Int) := by omega
      go_wp2_with fail
      go_still_tail 8, (by kernel_rfl)
      go_wp2_with (go_at_call 205; refine (eqTerm_any _ _ _ _).mono ?_; rintro e w1 ⟨rfl, hb1⟩)
      go_roundw
      case rel => exact ⟨k + 1, by go_num, by omega, hbel.drew.trans (hb1.mono (by simp; exact hbel.size))⟩
      case measure => simp [intOf]; omega
    · go_wp2_with fail
      go_ret
      exact ⟨rfl, hbel⟩

end Go.Proofs.YtfkidklpjiiclaaGreat

/- Terms and linear expressions: the laws' own functions on them. Printed by mk_sct.py. Conditions: as each states. -/
namespace Go.Proofs.YtfkidklpjiiclaaGreat
open Go.RowKit Go.ChangeShapes Go.WideShapes Go.Deep
set_option linter.unusedVariables false
set_option maxRecDepth 100000

theorem opens_lFrac : Opens Tryz.prog 182 (FlatR ptC) := by
  intro H enc w fuel cs x h
  obtain ⟨hl, hf⟩ := struct_fields Tryz.underlying182 h
  have hc : Tryz.prog.cellsOf 182 = 2 := by kernel_rfl
  have hb : Tryz.prog.cellsOf 2 = 1 := by kernel_rfl
  rw [hc] at hl
  match cs, hl with
  | [c0, c1], _ =>
    obtain ⟨n0, y0, h0⟩ := struct_field hf 0 2 0 1 rfl rfl rfl hb
    obtain ⟨n1, y1, h1⟩ := struct_field hf 1 2 1 1 rfl rfl rfl hb
    obtain ⟨x0, e0⟩ := opens_int Tryz.underlying2 h0
    obtain ⟨x1, e1⟩ := opens_int Tryz.underlying2 h1
    simp [FlatR] at e0 e1
    subst e0 e1
    exact ⟨(x0, x1), rfl⟩
theorem opens_lTerm : Opens Tryz.prog 294 (AndR (FlatR anchC) fun a => a.1.size ≤ maxLen) := by
  intro H enc w fuel cs x h
  obtain ⟨hl, hf⟩ := struct_fields Tryz.underlying294 h
  have hc : Tryz.prog.cellsOf 294 = 3 := by kernel_rfl
  have hp : Tryz.prog.cellsOf 182 = 2 := by kernel_rfl
  have hb : Tryz.prog.cellsOf 9 = 1 := by kernel_rfl
  rw [hc] at hl
  match cs, hl with
  | [c0, c1, c2], _ =>
    obtain ⟨n0, y0, h0⟩ := struct_field hf 0 9 0 1 rfl rfl rfl hb
    obtain ⟨n1, y1, h1⟩ := struct_field hf 1 182 1 2 rfl rfl rfl hp
    obtain ⟨x0, e0, hs0⟩ := opens_str Tryz.underlying9 h0
    obtain ⟨x1, e1⟩ := opens_lFrac h1
    simp [FlatR, ptC] at e0 e1
    obtain ⟨e2, e3⟩ := e1
    subst e0 e2 e3
    exact ⟨(x0, x1.1, x1.2), rfl, hs0⟩

theorem eqTermS_rd (A A' : Option Addr) (n c n' c' lo hi lo' hi' : Nat) (L : List Anch) (w : World) (h1 : RdS 3 (FlatR anchC) w lo hi A n L) (h2 : RdS 3 (FlatR anchC) w lo' hi' A' n' L) (hh1 : hi ≤ w.heap.size) (hh2 : hi' ≤ w.heap.size) (hn : n ≤ 100000000) :
    Calls Tryz.prog 193 #[.slice A n c, .slice A' n' c'] w fun e w' => e = .returned (.bool true) ∧ Below w.heap.size w w' := eqTermS_any A A' n c n' c' lo hi lo' hi' L w h1 h2 hh1 hh2 (by omega)

theorem szTerm_any (x0 : ByteArray) (x1 x2 left : Int) (w : World) (hs : x0.size ≤ 9223372036854775807) (h0 : 0 ≤ left) (h1 : left ≤ 1048576) :
    Calls Tryz.prog 195 #[.agg #[.string x0, .int .i64 x1, .int .i64 x2], .int .i64 left] w fun e w' => ∃ r : Int, e = .returned (.int .i64 r) ∧ (r < 0 ∨ 0 ≤ r ∧ r ≤ left) ∧ Below w.heap.size w w' := by
  by_cases h : (x0.size : Int) ≤ left
  all_goals
    go_enter Tryz.func195, Tryz.ntmps195
    go_wp2_with fail
    go_ret
    exact ⟨_, rfl, by omega, Go.Joins.below_alloc1 _ _⟩

set_option maxHeartbeats 1000000 in
theorem szTermS_any (A : Option Addr) (n c lo hi : Nat) (L : List Anch) (left : Int) (w : World) (hr : RdS 3 (FlatR anchC) w lo hi A n L) (hhi : hi ≤ w.heap.size) (hs : ∀ a ∈ L, a.1.size ≤ maxLen) (hn : n ≤ 9223372036854775807) (h0 : 0 ≤ left) (h1 : left ≤ 1048576) :
    Calls Tryz.prog 171 #[.slice A n c, .int .i64 left] w fun e w' => ∃ r : Int, e = .returned (.int .i64 r) ∧ (r < 0 ∨ 0 ≤ r ∧ r ≤ left ∧ n ≤ 1048576) ∧ Below w.heap.size w w' := by
  replace hr := Lib.hid hr
  replace hs := Lib.hid hs
  by_cases hnl : (n : Int) ≤ left
  rotate_left
  · go_enter Tryz.func171, Tryz.ntmps171
    go_wp2_with fail
    go_ret
    exact ⟨_, rfl, .inl (by omega), Below.refl _ _⟩
  go_enter Tryz.func171, Tryz.ntmps171
  go_wp2_with fail
  go_loopw [1, 5] (fun lv i wr => ∃ (k : Nat) (l : Int), i = .int .i64 k ∧ lv = .int .i64 l ∧ k ≤ n ∧ 0 ≤ l ∧ l ≤ left ∧ Below w.heap.size w wr) (fun lv i wr => n - (intOf i).toNat)
  case atStart => exact ⟨0, left - n, rfl, rfl, Nat.zero_le _, by omega, by omega, Below.refl _ _⟩
  case round =>
    obtain ⟨k, l, rfl, rfl, hk, hl0, hl, hbel⟩ := hrel
    have hl1 : l ≤ 1048576 := by omega
    by_cases hlt : k < n
    · obtain ⟨b, off, ⟨x0, x1, x2⟩, rfl, hb0, hb, hja, hcs⟩ := (hr.out.frame (good_flat _) (Below.sameB hbel hhi)).at hlt
      have q0 := hcs 0 _ rfl
      have q1 := hcs 1 _ rfl
      have q2 := hcs 2 _ rfl
      simp only [Nat.add_zero] at q0 q1 q2
      clear hcs
      have hbw : b < wr.heap.size := by have := hbel.size; omega
      have hsz : x0.size ≤ 9223372036854775807 := by have := hs.out _ (List.mem_of_getElem? hja); unfold maxLen at this; exact this
      clear hja
      go_wp2_with fail
      refine (szTerm_any x0 x1 x2 l _ hsz hl0 hl1).mono ?_
      rintro e w1 ⟨r, rfl, hrr, hb1⟩
      have hbel1 := hbel.trans (hb1.mono hbel.size)
      rcases hrr with hrr | ⟨hr0, hrl⟩
      · go_wp2_with fail
        go_ret
        exact ⟨_, rfl, .inl (by omega), hbel1⟩
      · go_wp2_with fail
        go_roundw
        case rel => exact ⟨k + 1, r, by go_num, rfl, by omega, hr0, by omega, hbel1⟩
        case measure => simp [intOf]; omega
    · go_wp2_with fail
      go_ret
      exact ⟨_, rfl, .inr ⟨hl0, hl, by omega⟩, hbel⟩


theorem heap_two (w : World) (a b : Obj) : ((w.alloc a).alloc b).heap[w.heap.size]? = some a ∧ ((w.alloc a).alloc b).heap[w.heap.size + 1]? = some b := by
  have h1 := heap_alloc_new w a
  have h2 := heap_alloc_new (w.alloc a) b
  have s1 : (w.alloc a).heap.size = w.heap.size + 1 := by simp
  rw [s1] at h2
  exact ⟨(Below.heap_alloc _ b _ (by omega)).trans h1, h2⟩
abbrev linV (a b : Int) (A : Option Addr) (n c : Nat) : Value := .agg #[.int .i64 a, .int .i64 b, .slice A n c]
theorem szLinear_any (a b : Int) (A : Option Addr) (n c lo hi : Nat) (L : List Anch) (left : Int) (w : World) (hr : RdS 3 (FlatR anchC) w lo hi A n L) (hhi : hi ≤ w.heap.size) (hs : ∀ a ∈ L, a.1.size ≤ maxLen) (hn : n ≤ 9223372036854775807) (h0 : 0 ≤ left) (h1 : left ≤ 1048576) :
    Calls Tryz.prog 145 #[linV a b A n c, .int .i64 left] w fun e w' => ∃ r : Int, e = .returned (.int .i64 r) ∧ (r < 0 ∨ 0 ≤ r ∧ r ≤ left ∧ n ≤ 1048576) ∧ Below w.heap.size w w' := by
  have hc := Lib.hid (fun o => szTermS_any A n c lo hi L left (w.alloc o) (hr.frame (good_flat _) (SameB.alloc (SameB.refl _ _ _) hhi _)) (by simp; omega) hs hn h0 h1)
  clear hr hs
  go_enter Tryz.func145, Tryz.ntmps145
  go_wp2_with fail
  refine (hc.out _).mono ?_
  rintro e w1 ⟨r, rfl, hl, hb1⟩
  have hB := (Go.Joins.below_alloc1 _ _).trans (hb1.mono (by simp))
  rcases hl with hl | ⟨hl0, hl1, hl2⟩
  · go_wp2_with fail
    go_ret
    exact ⟨_, rfl, .inl (by omega), hB⟩
  · go_wp2_with fail
    go_ret
    exact ⟨_, rfl, .inr ⟨hl0, hl1, hl2⟩, hB⟩

set_option maxHeartbeats 4000000 in
theorem toLinear_rd (a b : Int) (A : Option Addr) (n c lo hi : Nat) (L : List Anch) (w : World) (hr : RdS 3 (FlatR anchC) w lo hi A n L) (hhi : hi ≤ w.heap.size) (hn : n ≤ 1048576) :
    Calls Tryz.prog 156 #[linV a b A n c] w fun e w' => ∃ A' c', e = .returned (linV a b A' n c') ∧ RdS 3 (FlatR anchC) w' w.heap.size w'.heap.size A' n L ∧ Below w.heap.size w w' := by
  replace hr := Lib.hid hr
  go_enter Tryz.func156, Tryz.ntmps156
  go_wp2_with fail
  refine (toFrac_any a b _).mono ?_
  rintro e w1 ⟨rfl, hb1⟩
  have hnew := heap_new0 w (.cells #[.int .i64 a, .int .i64 b, .slice A n c] 185 (0, 0)) (.cells #[.int .i64 0, .int .i64 0, .slice none 0 0] 105 (0, 0)) (.cells #[.int .i64 0, .int .i64 0, .slice none 0 0] 105 (0, 0))
  have HX1 : Hid (w1.heap[w.heap.size]? = some (.cells #[.int .i64 a, .int .i64 b, .slice A n c] 185 (0, 0))) := (hb1.block _ (by simp <;> omega)).trans hnew.1
  have HR1 : Hid (w1.heap[w.heap.size + 1]? = some (.cells #[.int .i64 0, .int .i64 0, .slice none 0 0] 105 (0, 0))) := (hb1.block _ (by simp <;> omega)).trans hnew.2.1
  have HO1 : Hid (w1.heap[w.heap.size + 2]? = some (.cells #[.int .i64 0, .int .i64 0, .slice none 0 0] 105 (0, 0))) := (hb1.block _ (by simp <;> omega)).trans hnew.2.2
  clear hnew
  have hz1 := hb1.size
  simp at hz1
  have hB1 : Below w.heap.size w w1 := ((((Below.refl _ _).alloc (Nat.le_refl _) _).alloc (by simp) _).alloc (by simp <;> omega) _).trans (hb1.mono (by simp <;> omega))
  have cx2 : w1.cell? ⟨w.heap.size, 2, none⟩ = some (.slice A n c) := by rw [Go.Joins.cell_of_block HX1.out]; rfl
  have co0 : w1.cell? ⟨w.heap.size + 2, 0, none⟩ = some (.int .i64 0) := by rw [Go.Joins.cell_of_block HO1.out]; rfl
  have co1 : w1.cell? ⟨w.heap.size + 2, 1, none⟩ = some (.int .i64 0) := by rw [Go.Joins.cell_of_block HO1.out]; rfl
  have fo : ∀ o, w1.frozen? ⟨w.heap.size + 2, o, none⟩ = false := Go.Joins.unfrozen_of_block HO1.out
  clear hb1
  go_wp2_with fail
  have hB1' : Below w.heap.size w ((w1.setCell ⟨w.heap.size + 2, 0, none⟩ (.int .i64 a)).setCell ⟨w.heap.size + 2, 1, none⟩ (.int .i64 b)) := (hB1.setCell (by simp <;> omega) _).setCell (by simp <;> omega) _
  refine (toTermS_any A n c lo hi L _ (hr.out.frame (good_flat _) (Below.sameB hB1' hhi)) (by simp <;> omega) hn).mono ?_
  rintro e w2 ⟨g, rfl, hg, ho, hb2⟩
  have hz2 := hb2.size
  simp at hz2 hg
  have HO2 : Hid (w2.heap[w.heap.size + 2]? = _) := Lib.hid ((hb2.block _ (by simp <;> omega)).trans (Go.Joins.block_setCell (Go.Joins.block_setCell HO1.out (.int .i64 a)) (.int .i64 b)))
  have HR2 : Hid (w2.heap[w.heap.size + 1]? = some (.cells #[.int .i64 0, .int .i64 0, .slice none 0 0] 105 (0, 0))) := (hb2.block _ (by simp <;> omega)).trans ((Below.heap_setCell _ _ _ _ (by simp <;> omega)).trans ((Below.heap_setCell _ _ _ _ (by simp <;> omega)).trans HR1.out))
  have hB2 := hB1'.trans (hb2.mono (by simp <;> omega))
  have d0 : w2.cell? ⟨w.heap.size + 2, 0, none⟩ = some (.int .i64 a) := by rw [Go.Joins.cell_of_block HO2.out]; rfl
  have d1 : w2.cell? ⟨w.heap.size + 2, 1, none⟩ = some (.int .i64 b) := by rw [Go.Joins.cell_of_block HO2.out]; rfl
  have d2 : w2.cell? ⟨w.heap.size + 2, 2, none⟩ = some (.slice none 0 0) := by rw [Go.Joins.cell_of_block HO2.out]; rfl
  have cr0 : w2.cell? ⟨w.heap.size + 1, 0, none⟩ = some (.int .i64 0) := by rw [Go.Joins.cell_of_block HR2.out]; rfl
  have cr1 : w2.cell? ⟨w.heap.size + 1, 1, none⟩ = some (.int .i64 0) := by rw [Go.Joins.cell_of_block HR2.out]; rfl
  have cr2 : w2.cell? ⟨w.heap.size + 1, 2, none⟩ = some (.slice none 0 0) := by rw [Go.Joins.cell_of_block HR2.out]; rfl
  have fo2 : ∀ o, w2.frozen? ⟨w.heap.size + 2, o, none⟩ = false := Go.Joins.unfrozen_of_block HO2.out
  have fr2 : ∀ o, w2.frozen? ⟨w.heap.size + 1, o, none⟩ = false := Go.Joins.unfrozen_of_block HR2.out
  have rd := Lib.hid (RdS.wide (good_flat _) (rdS_own anchC_len (by omega) ho hr.out.1) (lo' := w.heap.size + 3) (hi' := w2.heap.size) (by simp <;> omega) (Nat.le_refl _))
  clear ho hg hb2 fo cx2 co0 co1 HX1 HR1 HO1 HO2 HR2 hB1 hB1'
  go_wp2_with fail
  have hfin : ∀ W', SameB (w.heap.size + 3) w2.heap.size w2 W' → w2.heap.size ≤ W'.heap.size → RdS 3 (FlatR anchC) W' w.heap.size W'.heap.size (some ⟨g, 0, none⟩) n L := fun W' hs hz => (rd.out.frame (good_flat _) hs).wide (good_flat _) (by omega) hz
  refine bodyPost_ret (v := linV a b (some ⟨g, 0, none⟩) n n) (by simp [results, Tryz.results156, go_sem, cr0, cr1, cr2]) rfl ⟨some ⟨g, 0, none⟩, n, rfl, hfin _ ?_ (by simp), by repeat (first | refine Below.setCell ?_ (by simp <;> omega) _ | exact hB2)⟩
  repeat (first | refine SameB.setCell ?_ (.inl (by simp <;> omega)) _ | exact SameB.refl _ _ _)

set_option maxHeartbeats 2000000 in
theorem eqLinear_any (a b : Int) (A A' : Option Addr) (n c n' c' lo hi lo' hi' : Nat) (L : List Anch) (w : World) (h1 : RdS 3 (FlatR anchC) w lo hi A n L) (h2 : RdS 3 (FlatR anchC) w lo' hi' A' n' L) (hh1 : hi ≤ w.heap.size) (hh2 : hi' ≤ w.heap.size) (hn : n ≤ 100000000) :
    Calls Tryz.prog 168 #[linV a b A n c, linV a b A' n' c'] w fun e w' => e = .returned (.bool true) ∧ Below w.heap.size w w' := by
  replace h1 := Lib.hid h1
  replace h2 := Lib.hid h2
  go_enter Tryz.func168, Tryz.ntmps168
  go_wp2_with fail
  refine (eqFrac_any a b _).mono ?_
  rintro e w1 ⟨rfl, hb1⟩
  have hnew := heap_two w (.cells #[.int .i64 a, .int .i64 b, .slice A n c] 105 (0, 0)) (.cells #[.int .i64 a, .int .i64 b, .slice A' n' c'] 105 (0, 0))
  have HX1 := Lib.hid ((hb1.block w.heap.size (by simp <;> omega)).trans hnew.1)
  have HY1 := Lib.hid ((hb1.block (w.heap.size + 1) (by simp <;> omega)).trans hnew.2)
  have hz1 := hb1.size
  simp at hz1
  have hB1 : Below w.heap.size w w1 := (((Below.refl _ _).alloc (Nat.le_refl _) _).alloc (by simp) _).trans (hb1.mono (by simp <;> omega))
  have cx : w1.cell? ⟨w.heap.size, 2, none⟩ = some (.slice A n c) := by rw [Go.Joins.cell_of_block HX1.out]; rfl
  have cy : w1.cell? ⟨w.heap.size + 1, 2, none⟩ = some (.slice A' n' c') := by rw [Go.Joins.cell_of_block HY1.out]; rfl
  clear hnew hb1
  go_wp2_with fail
  refine (eqTermS_rd A A' n c n' c' lo hi lo' hi' L _ (h1.out.frame (good_flat _) (Below.sameB hB1 hh1)) (h2.out.frame (good_flat _) (Below.sameB hB1 hh2)) (by omega) (by omega) hn).mono ?_
  rintro e w2 ⟨rfl, hb2⟩
  go_wp2_with fail
  go_ret
  exact ⟨rfl, hB1.trans (hb2.mono (by omega))⟩
end Go.Proofs.YtfkidklpjiiclaaGreat

