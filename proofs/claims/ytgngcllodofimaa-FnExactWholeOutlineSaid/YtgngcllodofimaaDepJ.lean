/- The depth of a glyph: the program's side. Conditions: as it states. -/
import Derived.Test.YtgngcllodofimaaDepS
namespace Go.Proofs.Ytgngcllodofimaa
open Go.RowKit
set_option linter.unusedVariables false
set_option maxRecDepth 100000

theorem set_parts {d : GSet} (h : setOk d = true) : ∀ g ∈ d.gl, g.parts.length ≤ 6 ∧ ∀ q ∈ g.parts, 0 ≤ q.1 ∧ q.1 < (d.gl.length : Int) := fun g hg => by
  obtain ⟨h1, h2, h3⟩ := set_is h
  refine ⟨(glyph_is (h2 g hg)).2.1, fun q hq => ?_⟩
  obtain ⟨j, hj⟩ := List.getElem?_of_mem hg
  have := (order_ord (tgts d.gl)).parts_lt (by rw [h3, tgts_length]) (tgts_at hj) (List.mem_map_of_mem (f := (·.1)) hq)
  rw [tgts_length] at this
  omega

end Go.Proofs.Ytgngcllodofimaa
