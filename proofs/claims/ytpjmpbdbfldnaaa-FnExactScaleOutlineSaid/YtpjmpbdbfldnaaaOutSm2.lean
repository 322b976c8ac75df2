/- A scaled outline is small enough. No walk in sight. Conditions: none. -/
import Derived.Test.YtpjmpbdbfldnaaaOutSm
import Derived.Test.YtpjmpbdbfldnaaaScaleI
namespace Go.Proofs.Ytpjmpbdbfldnaaa
theorem outScaleSm {Ls : List (List Knot)} {x y : Int} (h : OutSm Ls) : OutSm (scaleOf x y Ls).1 := by
  unfold scaleOf
  split
  · split
    · split
      · exact h.map _
      · exact OutSm.nil
    · exact OutSm.nil
  · exact OutSm.nil
end Go.Proofs.Ytpjmpbdbfldnaaa
