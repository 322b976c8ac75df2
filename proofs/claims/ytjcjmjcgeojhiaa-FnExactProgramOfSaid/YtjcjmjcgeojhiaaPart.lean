/- The walks of the functions that tell the partner of an instruction. Conditions: as each states. -/
import Derived.Test.YtjcjmjcgeojhiaaHintS
import Derived.Test.YtjcjmjcgeojhiaaPartP
namespace Go.Proofs.Ytjcjmjcgeojhiaa
open Go.RowKit
set_option linter.unusedVariables false
set_option maxRecDepth 100000

/-- where the scan stands -/
def ScanAt (codes : List Int) (t k : Nat) (d : Int) : Prop := ∃ f, codes.length < k + f ∧ scan codes t = scanF codes t f k d
theorem ScanAt.done {codes : List Int} {t k : Nat} {d : Int} (h : ScanAt codes t k d) (hk : codes.length ≤ k) : scan codes t = -1 := by
  obtain ⟨f, _, h⟩ := h
  rw [h]; cases f with
  | zero => rfl
  | succ f => rw [scanF, if_pos hk]
theorem ScanAt.next {codes : List Int} {t k : Nat} {d : Int} (h : ScanAt codes t k d) (hk : k < codes.length) : ∃ f, codes.length < k + 1 + f ∧ scan codes t =
    (if codes.getD k 0 = 35 ∨ codes.getD k 0 = 44 then scanF codes t f (k + 1) (d + 1)
    else if codes.getD k 0 = 36 then (if d = 0 ∧ codes.getD t 0 = 35 then (k : Int) else scanF codes t f (k + 1) d)
    else if codes.getD k 0 = 37 ∨ codes.getD k 0 = 38 then
      (if d = 0 then (if (codes.getD k 0 = 38 ↔ codes.getD t 0 = 44) then (k : Int) else -1) else scanF codes t f (k + 1) (d - 1))
    else scanF codes t f (k + 1) d) := by
  obtain ⟨f, hf, h⟩ := h
  cases f with
  | zero => omega
  | succ f => exact ⟨f, by omega, by rw [h, scanF, if_neg (by omega)]⟩

def allValid (L : List (Int × Int)) : Bool := L.all fun p => validHint p.1 p.2

/-- what is told of the partner: a number and a code -/
def partR (L : List (Int × Int)) (t : Int) : Int × Int :=
  if (allValid L && nestB (codesOf L)) = false then (0, 1)
  else if t < 0 ∨ (L.length : Int) ≤ t then (0, 2)
  else if (codesOf L).getD t.toNat 0 = 35 ∨ (codesOf L).getD t.toNat 0 = 36 ∨ (codesOf L).getD t.toNat 0 = 44 then (scan (codesOf L) t.toNat, 0)
  else (0, 6)

end Go.Proofs.Ytjcjmjcgeojhiaa
