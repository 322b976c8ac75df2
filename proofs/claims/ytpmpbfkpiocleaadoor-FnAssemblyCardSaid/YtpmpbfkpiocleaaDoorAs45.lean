/- The law on the partner of an instruction. Conditions: as each states. -/
import Derived.Test.YtpmpbfkpiocleaaDoorAs26
namespace Go.Proofs.YtpmpbfkpiocleaaDoor
open Go.RowKit
set_option linter.unusedVariables false
set_option maxRecDepth 100000

set_option maxHeartbeats 2000000 in
theorem implPartnerOf_any (A : Option Addr) (n c : Nat) (t : Int) (L : List (Int × Int)) (w : World) (hr : RdH w A n L) (hn : n ≤ 1000000000) (x y : Int) (hxy : partR L t = (x, y)) :
    Calls Tryd.prog 10 #[.slice A n c, .int .i64 t] w fun e w' => e = .returned (.tuple #[.int .i64 x, .int .i64 y]) ∧ Below w.heap.size w w' := by
  have hll := hr.1
  have ha := Lib.hid (containsFunc_any A n c L w hr hn)
  have hnst : Hid (∀ w', Below w.heap.size w w' → Calls Tryd.prog 16 #[.slice A n c] w' _) :=
    fun w' hb => partnersOf_any A n c L (codesOf L) w' (hr.below hb) hn rfl
  replace hll := Lib.hid hll
  replace hxy := Lib.hid hxy
  clear hr
  cases hav : allValid L
  · have hxy2 : partR L t = (0, 1) := by unfold partR; rw [if_pos (by rw [hav]; rfl)]
    obtain ⟨rfl, rfl⟩ : x = 0 ∧ y = 1 := by rw [hxy.out] at hxy2; injection hxy2 with a b; exact ⟨a, b⟩
    clear hxy2
    go_enter Tryd.func10, Tryd.ntmps10
    go_wp2_with fail
    refine ha.out.mono ?_
    rintro e w1 ⟨rfl, hb1⟩
    go_wp2_with fail
    go_ret2
    exact ⟨rfl, hb1⟩
  · go_enter Tryd.func10, Tryd.ntmps10
    go_wp2_with fail
    refine ha.out.mono ?_
    rintro e w1 ⟨rfl, hb1⟩
    go_wp2_with fail
    refine (hnst.out w1 hb1).mono ?_
    rintro e w2 (⟨hnn, rfl, hb2⟩ | ⟨ps, st, g, hnn, hpl, rfl, hps, hb2⟩)
    · have hxy2 : partR L t = (0, 1) := by unfold partR; rw [if_pos (by rw [hav, nestB_none hnn]; rfl)]
      obtain ⟨rfl, rfl⟩ : x = 0 ∧ y = 1 := by rw [hxy.out] at hxy2; injection hxy2 with a b; exact ⟨a, b⟩
      clear hxy2
      replace hnn := Lib.hid hnn
      go_wp2_with fail
      go_ret2
      exact ⟨rfl, hb1.trans (hb2.mono hb1.size)⟩
    · have hB := hb1.trans (hb2.mono hb1.size)
      rcases st with _ | ⟨p, st⟩
      · have hne : nestB (codesOf L) = true := by rw [nestB_some hnn]; rfl
        replace hnn := Lib.hid hnn
        replace hpl := Lib.hid hpl
        replace hps := Lib.hid hps
        by_cases ht : t < 0 ∨ (n : Int) ≤ t
        · have hxy2 : partR L t = (0, 2) := by
            unfold partR; rw [if_neg (by rw [hav, hne]; simp), if_pos (by have := hll.out; omega)]
          obtain ⟨rfl, rfl⟩ : x = 0 ∧ y = 2 := by rw [hxy.out] at hxy2; injection hxy2 with a b; exact ⟨a, b⟩
          clear hxy2
          rcases ht with ht | ht
          · go_wp2_with fail
            go_ret2
            exact ⟨rfl, hB⟩
          · by_cases ht' : t < 0
            · omega
            · go_wp2_with fail
              go_ret2
              exact ⟨rfl, hB⟩
        · obtain ⟨q, rfl⟩ : ∃ q : Nat, t = q := ⟨t.toNat, by omega⟩
          have hqn : q < n := by omega
          clear ht
          have hcl : (codesOf L).length = n := by have := hll.out; simp [codesOf, this]
          have hpart := partner_law hnn.out (t := q) (by rw [hcl]; exact hqn)
          obtain ⟨g', hg', _, hglt, _, hcell, _⟩ := own_addr hps.out (by omega)
          injection hg' with hg'; injection hg' with hg'
          subst hg'
          have hc := hcell q (by omega)
          rw [intV_get ps q (by rw [hpl.out]; exact hqn)] at hc
          clear hcell
          have hxy2 : partR L q = if (codesOf L).getD q 0 = 35 ∨ (codesOf L).getD q 0 = 36 ∨ (codesOf L).getD q 0 = 44 then (scan (codesOf L) q, 0) else (0, 6) := by
            unfold partR; rw [if_neg (by rw [hav, hne]; simp), if_neg (by have := hll.out; omega)]; rfl
          generalize ps.getD q 0 = z at hc hpart
          rcases hpart with ⟨p1, p2, p3⟩ | ⟨p1, p2, p3, p4⟩
          · rw [if_pos p1] at hxy2
            obtain ⟨rfl, rfl⟩ : x = scan (codesOf L) q ∧ y = 0 := by rw [hxy.out] at hxy2; injection hxy2 with a b; exact ⟨a, b⟩
            clear hxy2 p1 hne hcl
            replace p2 := Lib.hid p2
            go_wp2_with fail
            go_ret2
            refine ⟨?_, hB⟩
            show Ending.returned (.tuple #[.int .i64 z, .int .i64 0]) = _
            rw [p2.out]
          · rw [if_neg (by omega)] at hxy2
            obtain ⟨rfl, rfl⟩ : x = 0 ∧ y = 6 := by rw [hxy.out] at hxy2; injection hxy2 with a b; exact ⟨a, b⟩
            subst p4
            clear hxy2 p1 p2 p3 hne hcl
            go_wp2_with fail
            go_ret2
            exact ⟨rfl, hB⟩
      · have hne : nestB (codesOf L) = false := by rw [nestB_some hnn]; rfl
        have hxy2 : partR L t = (0, 1) := by unfold partR; rw [if_pos (by rw [hav, hne]; rfl)]
        obtain ⟨rfl, rfl⟩ : x = 0 ∧ y = 1 := by rw [hxy.out] at hxy2; injection hxy2 with a b; exact ⟨a, b⟩
        clear hxy2
        replace hnn := Lib.hid hnn
        replace hpl := Lib.hid hpl
        replace hps := Lib.hid hps
        go_wp2_with fail
        go_ret2
        exact ⟨rfl, hB⟩

end Go.Proofs.YtpmpbfkpiocleaaDoor

