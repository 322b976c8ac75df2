/- FitQuad, both sides, and the law. Conditions: as each states. -/
import Derived.Lib.AppendZerosOnto
import Derived.Lib.SliceRun
import Derived.Lib.Walk
import Derived.Test.YtfkidklpjiiclaaGreatTe21
import Derived.Test.YtfkidklpjiiclaaGreatTe31
import Derived.Test.YtfkidklpjiiclaaGreatTe04
namespace Go.Proofs.YtfkidklpjiiclaaGreat
open Go.RowKit
set_option linter.unusedVariables false
set_option maxRecDepth 100000

end Go.Proofs.YtfkidklpjiiclaaGreat

/- FitRing: the reference's side. Conditions: as each states. -/
namespace Go.Proofs.YtfkidklpjiiclaaGreat
open Go.RowKit
set_option linter.unusedVariables false
set_option maxRecDepth 100000

theorem l13Ring_any (p off : Nat) (A : Option Addr) (n c lo hi : Nat) (L : List (Int × Int)) (v : Bool) (hv : v = pathOk L) (w : World) (hp : w.cell? ⟨p, off, none⟩ = some (.slice A n c)) (hr : RdS 2 (FlatR ptC) w lo hi A n L) (hhi : hi ≤ w.heap.size) (hn : n ≤ 1048576) :
    Calls Tryz.prog 109 #[.pointer (some ⟨p, off, none⟩)] w fun e w' => e = .returned (.bool v) ∧ Below w.heap.size w w' := by
  have hl := hr.1
  have hpl : p < w.heap.size := cell_lt hp
  unfold pathOk at hv
  rw [hl] at hv
  clear hl
  cases t0 : inB (n : Int) 1 400
  · have hvf : v = false := by rw [hv, t0]; rfl
    subst hvf
    clear hv hr
    go_enter Tryz.func109, Tryz.ntmps109
    go_wp2_with (go_at_call 105; refine (l00In_any _ _ _ _).mono ?_; rintro e w' ⟨rfl, rfl⟩)
    go_ret
    exact ⟨rfl, Below.refl _ _⟩
  · have hv' : v = L.all pt2Ok := by rw [hv, t0]; simp
    have hc := Lib.hid (l13Points_any A n c lo hi L v hv' w hr hhi hn)
    clear hv hv' hr
    go_enter Tryz.func109, Tryz.ntmps109
    go_wp2_with (first | (go_at_call 105; refine (l00In_any _ _ _ _).mono ?_; rintro e w' ⟨rfl, rfl⟩) | (go_at_call 106; refine hc.out.mono ?_; rintro e w1 ⟨rfl, hb1⟩))
    all_goals
      go_ret
      exact ⟨rfl, hb1⟩

end Go.Proofs.YtfkidklpjiiclaaGreat

/- The fit of a way: the program's side. Conditions: as each states. -/
namespace Go.Proofs.YtfkidklpjiiclaaGreat
open Go.RowKit
set_option linter.unusedVariables false
set_option maxRecDepth 100000

theorem RdS.part {w : World} {lo hi b off n i k : Nat} {L : List (Int × Int)} (h : RdS 2 (FlatR ptC) w lo hi (some ⟨b, off, none⟩) n L) (hik : i + k < n) : RdS 2 (FlatR ptC) w lo hi (some ⟨b, off + i * 2, none⟩) (k + 1) (partP L i k) := by
  have hl := h.1
  refine ⟨partP_len (by omega), fun _ => ?_⟩
  obtain ⟨b', off', hA, h1, h2, h3⟩ := h.2 (by omega)
  injection hA with hA
  injection hA with e1 e2
  subst e1 e2
  refine ⟨b, off + i * 2, rfl, h1, h2, fun j a hj => ?_⟩
  have hjk : j < k + 1 := by have := (List.getElem?_eq_some_iff.1 hj).1; rw [partP_len (by omega)] at this; exact this
  rw [partP_at (by omega)] at hj
  obtain ⟨es, e3, e4, e5⟩ := h3 (i + j) a hj
  refine ⟨es, e3, fun u x hu => ?_, e5⟩
  have := e4 u x hu
  rw [Nat.add_mul, ← Nat.add_assoc] at this
  exact this
end Go.Proofs.YtfkidklpjiiclaaGreat

/- slices.Index at bool; slices.Grow and slices.Concat at points. Conditions: as each states. -/
namespace Go.Proofs.YtfkidklpjiiclaaGreat
open Go.RowKit
set_option linter.unusedVariables false
set_option maxRecDepth 100000

end Go.Proofs.YtfkidklpjiiclaaGreat

