/- The laws' own functions on slices of Frac. Conditions: as each states. -/
import Derived.RegionTactic
import Derived.ChangeAlike
import Derived.Outline
import Derived.Deep.RegionWith
import Derived.StillTailTactics
import Derived.BigQuiet
import Derived.Lib.QuietBelow
import Derived.Test.YtlifiioflkhkoaaGreatFr02
import Derived.Test.YtlifiioflkhkoaaGreatProg
import Derived.Test.YtlifiioflkhkoaaGreatFr12
import Derived.Test.YtlifiioflkhkoaaGreatFr04
import Derived.Test.YtlifiioflkhkoaaGreatFr01
import Derived.Test.YtlifiioflkhkoaaGreatFr05
import Derived.Test.YtlifiioflkhkoaaGreatFr10
namespace Go.Proofs.YtlifiioflkhkoaaGreat
open Go.RowKit
set_option linter.unusedVariables false
set_option maxRecDepth 100000

end Go.Proofs.YtlifiioflkhkoaaGreat

/- The laws' own functions on slices of Term. Conditions: as each states. -/
namespace Go.Proofs.YtlifiioflkhkoaaGreat
open Go.RowKit
set_option linter.unusedVariables false
set_option maxRecDepth 100000

end Go.Proofs.YtlifiioflkhkoaaGreat

/- Terms and linear expressions: the laws' own functions on them. Printed by mk_sct.py. Conditions: as each states. -/
namespace Go.Proofs.YtlifiioflkhkoaaGreat
open Go.RowKit Go.ChangeShapes Go.WideShapes Go.Deep
set_option linter.unusedVariables false
set_option maxRecDepth 100000

end Go.Proofs.YtlifiioflkhkoaaGreat

/- Fractions: whether they are valid, both sides. Conditions: as each states. -/
namespace Go.Proofs.YtlifiioflkhkoaaGreat
open Go.RowKit
set_option linter.unusedVariables false
set_option maxRecDepth 100000

/-- a callee that leaves the world, in a world of the quiet class -/
theorem calls_kept {P : Program} {f : FuncId} {args : Array Value} {v : Value} (h : ∀ w, Calls P f args w fun e w' => e = .returned v ∧ w' = w) (w : World) (dr : Nat) (os : Array Obj) :
    Calls P f args (Go.Sort.grow (redrawn w dr) os) fun e w' => e = .returned v ∧ ∃ p : Regrown, w' = Go.Sort.grow (redrawn w p.d) p.os :=
  Calls.regrown_of ((h _).mono fun e w' ⟨he, hw⟩ => ⟨he, hw ▸ Below.refl _ _⟩)
end Go.Proofs.YtlifiioflkhkoaaGreat

/- One side of a hull: the reference's chain, the program's. Printed by mk_pen1.py. Conditions: as each states. -/
namespace Go.Proofs.YtlifiioflkhkoaaGreat
open Go.RowKit
set_option linter.unusedVariables false
set_option maxRecDepth 100000

def lenOf (v : Value) : Nat := match v with | .slice _ n _ => n | _ => 0

end Go.Proofs.YtlifiioflkhkoaaGreat

