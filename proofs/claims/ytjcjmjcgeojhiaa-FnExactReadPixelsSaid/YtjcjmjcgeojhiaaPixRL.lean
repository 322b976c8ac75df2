/- The law on reading the text of a number of parts. Conditions: as it states. -/
import Derived.Test.YtjcjmjcgeojhiaaPixR
namespace Go.Proofs.Ytjcjmjcgeojhiaa
open Go.RowKit
set_option linter.unusedVariables false
set_option maxRecDepth 100000

set_option maxHeartbeats 1000000 in
theorem lawReadPixels_walk (s : ByteArray) (_ : s.size ≤ maxLen) {w : World} :
    Calls Try.prog 6 #[.string s] w fun e w' => e = .returned (.bool true) ∧ Below w.heap.size w w' := by
  by_cases hs : (1048576 : Int) < s.size
  · go_enter Try.func6, Try.ntmps6
    go_wp2_with fail
    go_ret
    exact ⟨rfl, Below.refl _ _⟩
  go_enter Try.func6, Try.ntmps6
  go_wp2_with fail
  refine (specReadPixels_any s _ (by omega)).mono ?_
  rintro e w1 (⟨v, hv, rfl, hb1⟩ | ⟨hno, rfl, hb1⟩)
  · replace hv := Lib.hid hv
    go_wp2_with fail
    refine (implReadPixels_any s _ (by omega)).mono ?_
    rintro e w2 (⟨v', hv', rfl, hb2⟩ | ⟨hno, rfl, hb2⟩)
    · obtain rfl := hv.out.unique hv'
      replace hv' := Lib.hid hv'
      go_wp2_with fail
      go_ret
      exact ⟨rfl, hb1.trans (hb2.mono hb1.size)⟩
    · exact absurd hv.out (hno v)
  · replace hno := Lib.hid hno
    go_wp2_with fail
    refine (implReadPixels_any s _ (by omega)).mono ?_
    rintro e w2 (⟨v', hv', rfl, hb2⟩ | ⟨hno', rfl, hb2⟩)
    · exact absurd hv' (hno.out v')
    · clear hno'
      go_wp2_with fail
      go_ret
      exact ⟨rfl, hb1.trans (hb2.mono hb1.size)⟩
end Go.Proofs.Ytjcjmjcgeojhiaa
