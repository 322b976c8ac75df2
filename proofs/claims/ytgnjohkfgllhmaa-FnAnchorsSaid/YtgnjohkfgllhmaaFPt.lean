/- The laws' own functions on slices of Pt. Conditions: as each states. -/
import Derived.Test.YtgnjohkfgllhmaaDat
import Derived.Test.YtgnjohkfgllhmaaProg
import Derived.RegionTactic
import Derived.ChangeAlike
import Derived.Outline
import Derived.Deep.RegionWith
import Derived.StillTailTactics
namespace Go.Proofs.Ytgnjohkfgllhmaa
open Go.RowKit
set_option linter.unusedVariables false
set_option maxRecDepth 100000

theorem toPt_any (x0 : Int) (x1 : Int) (w : World) :
    Calls Try.prog 127 #[.agg #[.int .i64 x0, .int .i64 x1]] w fun e w' => e = .returned (.agg #[.int .i64 x0, .int .i64 x1]) ∧ Below w.heap.size w w' := by
  go_enter Try.func127, Try.ntmps127
  go_wp2_with fail
  refine bodyPost_ret (v := .agg #[.int .i64 x0, .int .i64 x1]) (by simp [results, Try.results127, go_sem]) rfl ⟨rfl, ?_⟩
  repeat (first | exact Below.refl _ _ | assumption | refine Below.alloc ?_ (by simp <;> omega) _ | refine Below.drew ?_ | refine Below.setCell ?_ (by simp <;> omega) _ | (refine Below.trans ?_ (hb1.mono (by simp <;> omega))))

theorem eqPt_any (x0 : Int) (x1 : Int) (w : World) :
    Calls Try.prog 131 #[.agg #[.int .i64 x0, .int .i64 x1], .agg #[.int .i64 x0, .int .i64 x1]] w fun e w' => e = .returned (.bool true) ∧ Below w.heap.size w w' := by
  go_enter Try.func131, Try.ntmps131
  go_wp2_with fail
  go_ret
  refine ⟨rfl, ?_⟩
  repeat (first | exact Below.refl _ _ | assumption | refine Below.alloc ?_ (by simp <;> omega) _ | refine Below.drew ?_ | refine Below.setCell ?_ (by simp <;> omega) _ | (refine Below.trans ?_ (hb1.mono (by simp <;> omega))))

theorem infoPt : (Try.prog.info? 30).map (fun i => (i.zero, i.size, i.bytes)) = some (some (.agg #[.int .i64 0, .int .i64 0]), 2, 16) := by kernel_rfl

end Go.Proofs.Ytgnjohkfgllhmaa
