/- The law on the program of instructions. Conditions: as each states. -/
import Derived.Test.YtjcjmjcgeojhiaaMakeI
import Derived.Test.YtjcjmjcgeojhiaaPartL
namespace Go.Proofs.Ytjcjmjcgeojhiaa
open Go.RowKit
set_option linter.unusedVariables false
set_option maxRecDepth 100000

set_option maxHeartbeats 1000000 in
theorem lawProgramOf_walk (A : Option Addr) (n c : Nat) (L : List (Int × Int)) {w : World} (hr : RdH w A n L) (hn : n ≤ maxLen) :
    Calls Try.prog 5 #[.slice A n c] w fun e w' => e = .returned (.bool true) ∧ Below w.heap.size w w' := by
  unfold maxLen at hn
  by_cases hs : n ≤ 1048576
  · have hsz := szHintS_any A n c w (by omega)
    rw [if_pos hs] at hsz
    replace hsz := Lib.hid hsz
    have hll := Lib.hid hr.1
    obtain ⟨⟨x, y⟩, hxy⟩ : ∃ p, p = makeR L := ⟨_, rfl⟩
    replace hxy := Lib.hid hxy.symm
    have hr1 := Lib.hid hr
    clear hr
    go_enter Try.func5, Try.ntmps5
    go_wp2_with fail
    refine hsz.out.mono ?_
    rintro e w' ⟨rfl, rfl⟩
    go_wp2_with fail
    refine (toHintS_any A n c L _ hr1.out hs).mono ?_
    rintro e w1 ⟨g1, rfl, ho1, hb1⟩
    replace ho1 := Lib.hid ho1
    go_wp2_with fail
    refine (specProgramOf_any _ n n L _ (rdH_own ho1.out hll.out) (by omega) x y hxy.out).mono ?_
    rintro e w2 ⟨rfl, hb2⟩
    have hB2 := hb1.trans (hb2.mono hb1.size)
    go_wp2_with fail
    refine (toHintS_any A n c L _ (hr1.out.below hB2) hs).mono ?_
    rintro e w3 ⟨g3, rfl, ho3, hb3⟩
    replace ho3 := Lib.hid ho3
    have hB3 := hB2.trans (hb3.mono hB2.size)
    go_wp2_with fail
    refine (implProgramOf_any _ n n L _ (rdH_own ho3.out hll.out) (by omega) x y hxy.out).mono ?_
    rintro e w4 ⟨rfl, hb4⟩
    have hB4 := hB3.trans (hb4.mono hB3.size)
    have ho4 := Lib.hid (own_below ho3.out hb4)
    obtain ⟨sx, hsx⟩ : ∃ sx : ByteArray, sx = ⟨x.toArray⟩ := ⟨_, rfl⟩
    rw [← hsx]
    replace hsx := Lib.hid hsx
    go_wp2_with fail
    refine (toHintS_any A n c L _ (hr1.out.below hB4) hs).mono ?_
    rintro e w5 ⟨g5, rfl, ho5, hb5⟩
    replace ho5 := Lib.hid ho5
    have hB5 := hB4.trans (hb5.mono hB4.size)
    go_wp2_with fail
    refine (eqHintS_any _ _ n _ _ L _ (rdH_own (own_below ho4.out hb5) hll.out) (rdH_own ho5.out hll.out) (by omega)).mono ?_
    rintro e w6 ⟨rfl, hb6⟩
    go_wp2_with fail
    go_ret
    exact ⟨rfl, hB5.trans (hb6.mono hB5.size)⟩
  · have hsz := szHintS_any A n c w (by omega)
    rw [if_neg hs] at hsz
    replace hsz := Lib.hid hsz
    clear hr
    go_enter Try.func5, Try.ntmps5
    go_wp2_with fail
    refine hsz.out.mono ?_
    rintro e w' ⟨rfl, rfl⟩
    go_wp2_with fail
    go_ret
    exact ⟨rfl, Below.refl _ _⟩
end Go.Proofs.Ytjcjmjcgeojhiaa
