/- The law on the partner of an instruction. Conditions: as each states. -/
import Derived.Test.YtjlkdmnellbaeaaPart
namespace Go.Proofs.Ytjlkdmnellbaeaa
open Go.RowKit
set_option linter.unusedVariables false

set_option maxHeartbeats 2000000 in
theorem implPartnerOf_any (A : Option Addr) (n c : Nat) (t : Int) (L : List (Int × Int)) (w : World) (hr : RdH w A n L) (hn : n ≤ 1000000000) (x y : Int) (hxy : partR L t = (x, y)) :
    Calls Try.prog 37 #[.slice A n c, .int .i64 t] w fun e w' => e = .returned (.tuple #[.int .i64 x, .int .i64 y]) ∧ Below w.heap.size w w' := by
  have hll := hr.1
  have ha := Lib.hid (containsFunc_any A n c L w hr hn)
  have hnst : Hid (∀ w', Below w.heap.size w w' → Calls Try.prog 68 #[.slice A n c] w' _) :=
    fun w' hb => partnersOf_any A n c L (codesOf L) w' (hr.below hb) hn rfl
  replace hll := Lib.hid hll
  replace hxy := Lib.hid hxy
  clear hr
  cases hav : allValid L
  · have hxy2 : partR L t = (0, 1) := by unfold partR; rw [if_pos (by rw [hav]; rfl)]
    obtain ⟨rfl, rfl⟩ : x = 0 ∧ y = 1 := by rw [hxy.out] at hxy2; injection hxy2 with a b; exact ⟨a, b⟩
    clear hxy2
    go_enter Try.func37, Try.ntmps37
    go_wp2_with fail
    refine ha.out.mono ?_
    rintro e w1 ⟨rfl, hb1⟩
    go_wp2_with fail
    go_ret2
    exact ⟨rfl, hb1⟩
  · go_enter Try.func37, Try.ntmps37
    go_wp2_with fail
    refine ha.out.mono ?_
    rintro e w1 ⟨rfl, hb1⟩
    go_wp2_with fail
    refine (hnst.out w1 hb1).mono ?_
    rintro e w2 (⟨hnn, rfl, hb2⟩ | ⟨ps, st, g, hnn, hpl, rfl, hps, hb2⟩)
    · have hxy2 : partR L t = (0, 1) := by unfold partR; rw [if_pos (by rw [hav, nestB_none hnn]; rfl)]
      obtain ⟨rfl, rfl⟩ : x = 0 ∧ y = 1 := by rw [hxy.out] at hxy2; injection hxy2 with a b; exact ⟨a, b⟩
      clear hxy2
      replace hnn := Lib.hid hnn
      go_wp2_with fail
      go_ret2
      exact ⟨rfl, hb1.trans (hb2.mono hb1.size)⟩
    · have hB := hb1.trans (hb2.mono hb1.size)
      rcases st with _ | ⟨p, st⟩
      · have hne : nestB (codesOf L) = true := by rw [nestB_some hnn]; rfl
        replace hnn := Lib.hid hnn
        replace hpl := Lib.hid hpl
        replace hps := Lib.hid hps
        by_cases ht : t < 0 ∨ (n : Int) ≤ t
        · have hxy2 : partR L t = (0, 2) := by
            unfold partR; rw [if_neg (by rw [hav, hne]; simp), if_pos (by have := hll.out; omega)]
          obtain ⟨rfl, rfl⟩ : x = 0 ∧ y = 2 := by rw [hxy.out] at hxy2; injection hxy2 with a b; exact ⟨a, b⟩
          clear hxy2
          rcases ht with ht | ht
          · go_wp2_with fail
            go_ret2
            exact ⟨rfl, hB⟩
          · by_cases ht' : t < 0
            · omega
            · go_wp2_with fail
              go_ret2
              exact ⟨rfl, hB⟩
        · obtain ⟨q, rfl⟩ : ∃ q : Nat, t = q := ⟨t.toNat, by omega⟩
          have hqn : q < n := by omega
          clear ht
          have hcl : (codesOf L).length = n := by have := hll.out; simp [codesOf, this]
          have hpart := partner_law hnn.out (t := q) (by rw [hcl]; exact hqn)
          obtain ⟨g', hg', _, hglt, _, hcell, _⟩ := own_addr hps.out (by omega)
          injection hg' with hg'; injection hg' with hg'
          subst hg'
          have hc := hcell q (by omega)
          rw [intV_get ps q (by rw [hpl.out]; exact hqn)] at hc
          clear hcell
          have hxy2 : partR L q = if (codesOf L).getD q 0 = 35 ∨ (codesOf L).getD q 0 = 36 ∨ (codesOf L).getD q 0 = 44 then (scan (codesOf L) q, 0) else (0, 6) := by
            unfold partR; rw [if_neg (by rw [hav, hne]; simp), if_neg (by have := hll.out; omega)]; rfl
          generalize ps.getD q 0 = z at hc hpart
          rcases hpart with ⟨p1, p2, p3⟩ | ⟨p1, p2, p3, p4⟩
          · rw [if_pos p1] at hxy2
            obtain ⟨rfl, rfl⟩ : x = scan (codesOf L) q ∧ y = 0 := by rw [hxy.out] at hxy2; injection hxy2 with a b; exact ⟨a, b⟩
            clear hxy2 p1 hne hcl
            replace p2 := Lib.hid p2
            go_wp2_with fail
            go_ret2
            refine ⟨?_, hB⟩
            show Ending.returned (.tuple #[.int .i64 z, .int .i64 0]) = _
            rw [p2.out]
          · rw [if_neg (by omega)] at hxy2
            obtain ⟨rfl, rfl⟩ : x = 0 ∧ y = 6 := by rw [hxy.out] at hxy2; injection hxy2 with a b; exact ⟨a, b⟩
            subst p4
            clear hxy2 p1 p2 p3 hne hcl
            go_wp2_with fail
            go_ret2
            exact ⟨rfl, hB⟩
      · have hne : nestB (codesOf L) = false := by rw [nestB_some hnn]; rfl
        have hxy2 : partR L t = (0, 1) := by unfold partR; rw [if_pos (by rw [hav, hne]; rfl)]
        obtain ⟨rfl, rfl⟩ : x = 0 ∧ y = 1 := by rw [hxy.out] at hxy2; injection hxy2 with a b; exact ⟨a, b⟩
        clear hxy2
        replace hnn := Lib.hid hnn
        replace hpl := Lib.hid hpl
        replace hps := Lib.hid hps
        go_wp2_with fail
        go_ret2
        exact ⟨rfl, hB⟩

theorem szHintS_any (A : Option Addr) (n c : Nat) (w : World) (hn : n ≤ 9223372036854775807) :
    Calls Try.prog 34 #[.slice A n c, .int .i64 1048576] w fun e w' => e = .returned (.int .i64 (if n ≤ 1048576 then 1048576 - n else -1)) ∧ w = w' := by
  by_cases h : n ≤ 1048576
  · go_enter Try.func34, Try.ntmps34
    go_wp2_with fail
    go_ret
    exact ⟨rfl, rfl⟩
  · go_enter Try.func34, Try.ntmps34
    go_wp2_with fail
    go_ret
    exact ⟨rfl, rfl⟩

theorem infoHint : (Try.prog.info? 29).map (fun i => (i.zero, i.size, i.bytes)) = some (some (.agg #[.int .i64 0, .int .i64 0]), 2, 16) := by kernel_rfl

theorem hintCells_get : ∀ (L : List (Int × Int)) (j : Nat), j < L.length → (hintCells L)[j * 2]? = some (.int .i64 (L.getD j (0, 0)).1) ∧ (hintCells L)[j * 2 + 1]? = some (.int .i64 (L.getD j (0, 0)).2) := by
  intro L
  induction L with
  | nil => intro j hj; simp at hj
  | cons p L ih =>
    intro j hj
    cases j with
    | zero => simp [hintCells]
    | succ j =>
      have := ih j (by simpa using hj)
      have e : hintCells (p :: L) = .int .i64 p.1 :: .int .i64 p.2 :: hintCells L := by simp [hintCells]
      rw [e, show (j + 1) * 2 = j * 2 + 1 + 1 by omega]
      simpa using this

theorem toHintS_any (A : Option Addr) (n c : Nat) (L : List (Int × Int)) (w : World) (hr : RdH w A n L) (hn : n ≤ 1048576) :
    Calls Try.prog 36 #[.slice A n c] w fun e w' => ∃ g, e = .returned (.slice (some ⟨g, 0, none⟩) n n) ∧ w'.ownsRow w.heap.size 29 2 (.slice (some ⟨g, 0, none⟩) n n) n (hintCells L) ∧ Below w.heap.size w w' := by
  obtain ⟨i0, hi0, hz0, hs0, hby0⟩ := info_parts infoHint
  go_enter Try.func36, Try.ntmps36
  go_wp2_with (at_make; refine wpList_make_full _ rfl _ _ 41 rfl w.heap.size 29 i0 (.agg #[.int .i64 0, .int .i64 0]) 2 Try.underlying41 hi0 hz0 hs0 .i64 .i64 _ _ n rfl rfl rfl rfl (by rw [hby0]; omega) (by unfold maxLen; omega) (Nat.le_refl _) ?_; intro w0 hown0 hg0)
  have hb0 : Below w.heap.size w w0 := (Below.refl _ _).grown hg0 (Nat.le_refl _) (by simp)
  clear hg0
  go_loopw [4] (fun i wr => ∃ (k : Nat) (ys : List Value), i = .int .i64 k ∧ k ≤ n ∧ wr.ownsRow w.heap.size 29 2 (.slice (some ⟨w.heap.size, 0, none⟩) n n) n ys ∧ (∀ j, j < k → ys[j * 2]? = some (.int .i64 (L.getD j (0, 0)).1) ∧ ys[j * 2 + 1]? = some (.int .i64 (L.getD j (0, 0)).2)) ∧ Below w.heap.size w wr) (fun i wr => n - (intOf i).toNat)
  case atStart => exact ⟨0, _, rfl, Nat.zero_le _, hown0, fun j hj => absurd hj (Nat.not_lt_zero j), hb0⟩
  case round =>
    clear hown0 hb0
    obtain ⟨k, ys, rfl, hk, ho, hall, hbel⟩ := hrel
    replace hall := Lib.hid hall
    by_cases hlt : k < n
    · obtain ⟨hl, hcs⟩ := hr
      obtain ⟨b, off, rfl, hb, hcs⟩ := hcs (by omega)
      obtain ⟨h1, h2⟩ := hcs k hlt
      rw [← hbel.cell (p := ⟨b, off + k * 2, none⟩) hb] at h1
      rw [← hbel.cell (p := ⟨b, off + k * 2 + 1, none⟩) hb] at h2
      obtain ⟨p, hp⟩ : ∃ p, p = L.getD k (0, 0) := ⟨_, rfl⟩
      rw [← hp] at h1 h2
      replace hp := Lib.hid hp
      replace hl := Lib.hid hl
      clear hcs
      replace ho := Lib.hid ho
      go_wp2_with (go_at_call 20; refine (toHint_any _ _ _).mono ?_; rintro e w1 ⟨rfl, hb1⟩; have ho1 := own_below ho.out hb1; obtain ⟨g, hg, _, hglt, _, hcell, hfr⟩ := own_addr ho1 (by omega); injection hg with hg; injection hg with hg; subst hg; have c1 := hcell (k * 2) (by omega); have c2 := hcell (k * 2 + 1) (by omega); have hyl := ho1.1; rw [List.getElem?_eq_getElem (by omega)] at c1 c2; have f1 := hfr (k * 2); have f2 := hfr (k * 2 + 1); clear hcell hfr; replace ho1 := Lib.hid ho1; replace hyl := Lib.hid hyl; generalize ys[k * 2]'(by have := hyl.out; omega) = v1 at c1; generalize ys[k * 2 + 1]'(by have := hyl.out; omega) = v2 at c2)
      go_roundw
      case rel =>
        have s2 := ((ho1.out.stored (k * 2) (.int .i64 p.1)).1.stored (k * 2 + 1) (.int .i64 p.2)).1
        refine ⟨k + 1, _, by go_num, by omega, s2, fun j hj => ?_, ((hbel.trans (hb1.mono hbel.size)).setCell (Nat.le_refl _) _).setCell (Nat.le_refl _) _⟩
        have := hyl.out
        rcases Nat.lt_or_ge j k with h | h
        · rw [List.getElem?_set_ne (by omega), List.getElem?_set_ne (by omega), List.getElem?_set_ne (by omega), List.getElem?_set_ne (by omega)]
          exact hall.out j h
        · obtain rfl : j = k := by omega
          rw [List.getElem?_set_ne (by omega), List.getElem?_set_self (by omega), List.getElem?_set_self (by simp; omega), hp.out]
          exact ⟨rfl, rfl⟩
      case measure => simp [intOf]; omega
    · have hkn : k = n := by omega
      replace hkn := Lib.hid hkn
      replace ho := Lib.hid ho
      have hl := Lib.hid hr.1
      clear hr
      go_wp2_with fail
      go_ret
      refine ⟨w.heap.size, rfl, ?_, hbel⟩
      have : ys = hintCells L := by
        apply List.ext_getElem?
        intro j
        have hyl := ho.out.1
        have hl := hl.out
        have hkn := hkn.out
        by_cases hj : j < n * 2
        · obtain ⟨q, hq⟩ : ∃ q, j = q * 2 ∨ j = q * 2 + 1 := ⟨j / 2, by omega⟩
          have h1 := hall.out q (by omega)
          have h2 := hintCells_get L q (by omega)
          rcases hq with rfl | rfl
          · rw [h1.1, h2.1]
          · rw [h1.2, h2.2]
        · rw [List.getElem?_eq_none (by omega), List.getElem?_eq_none (by rw [hintCells_length]; omega)]
      rw [← this]; exact ho.out

set_option maxHeartbeats 1000000 in
theorem lawPartner_walk (A : Option Addr) (n c : Nat) (L : List (Int × Int)) (t : Int) {w : World} (hr : RdH w A n L) (hn : n ≤ maxLen) (_ : (Lit.int .i64 t).wf = true) :
    Calls Try.prog 12 #[.slice A n c, .int .i64 t] w fun e w' => e = .returned (.bool true) ∧ Below w.heap.size w w' := by
  unfold maxLen at hn
  by_cases hs : n ≤ 1048576
  · have hsz := szHintS_any A n c w (by omega)
    rw [if_pos hs] at hsz
    replace hsz := Lib.hid hsz
    have hll := Lib.hid hr.1
    obtain ⟨⟨x, y⟩, hxy⟩ : ∃ p, p = partR L t := ⟨_, rfl⟩
    replace hxy := Lib.hid hxy.symm
    have hr1 := Lib.hid hr
    clear hr
    go_enter Try.func12, Try.ntmps12
    go_wp2_with fail
    refine hsz.out.mono ?_
    rintro e w' ⟨rfl, rfl⟩
    go_wp2_with fail
    refine (toHintS_any A n c L _ hr1.out hs).mono ?_
    rintro e w1 ⟨g1, rfl, ho1, hb1⟩
    replace ho1 := Lib.hid ho1
    go_wp2_with fail
    refine (specPartnerOf_any _ n n t L _ (rdH_own ho1.out hll.out) (by omega) x y hxy.out).mono ?_
    rintro e w2 ⟨rfl, hb2⟩
    have hB2 := hb1.trans (hb2.mono hb1.size)
    go_wp2_with fail
    refine (toHintS_any A n c L _ (hr1.out.below hB2) hs).mono ?_
    rintro e w3 ⟨g3, rfl, ho3, hb3⟩
    replace ho3 := Lib.hid ho3
    have hB3 := hB2.trans (hb3.mono hB2.size)
    go_wp2_with fail
    refine (implPartnerOf_any _ n n t L _ (rdH_own ho3.out hll.out) (by omega) x y hxy.out).mono ?_
    rintro e w4 ⟨rfl, hb4⟩
    have hB4 := hB3.trans (hb4.mono hB3.size)
    have ho4 := Lib.hid (own_below ho3.out hb4)
    go_wp2_with fail
    refine (toHintS_any A n c L _ (hr1.out.below hB4) hs).mono ?_
    rintro e w5 ⟨g5, rfl, ho5, hb5⟩
    replace ho5 := Lib.hid ho5
    have hB5 := hB4.trans (hb5.mono hB4.size)
    go_wp2_with fail
    refine (eqHintS_any _ _ n _ _ L _ (rdH_own (own_below ho4.out hb5) hll.out) (rdH_own ho5.out hll.out) (by omega)).mono ?_
    rintro e w6 ⟨rfl, hb6⟩
    go_wp2_with fail
    go_ret
    exact ⟨rfl, hB5.trans (hb6.mono hB5.size)⟩
  · have hsz := szHintS_any A n c w (by omega)
    rw [if_neg hs] at hsz
    replace hsz := Lib.hid hsz
    clear hr
    go_enter Try.func12, Try.ntmps12
    go_wp2_with fail
    refine hsz.out.mono ?_
    rintro e w' ⟨rfl, rfl⟩
    go_wp2_with fail
    go_ret
    exact ⟨rfl, Below.refl _ _⟩
end Go.Proofs.Ytjlkdmnellbaeaa
