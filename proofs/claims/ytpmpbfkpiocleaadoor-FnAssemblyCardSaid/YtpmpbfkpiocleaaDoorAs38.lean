/- The reading of a line of a program, both sides. Conditions: as each states. -/
import Derived.Deep.RegionHeld3
import Derived.Deep.DeepCutAuto
import Derived.Test.YtpmpbfkpiocleaaDoorAs36
import Derived.Test.YtpmpbfkpiocleaaDoorAs37
import Derived.Test.YtpmpbfkpiocleaaDoorAs21
namespace Go.Proofs.YtpmpbfkpiocleaaDoor
open Go.RowKit
set_option linter.unusedVariables false
set_option maxRecDepth 100000

def LinePost (s : ByteArray) (w : World) (e : Ending) (w' : World) : Prop := ∃ (o : Option (Int × Int)) (c v : Int), LineR s.data.toList o ∧ (∀ p, o = some p → p = (c, v)) ∧ e = .returned (.tuple #[hintV c v, .bool o.isSome]) ∧ Below w.heap.size w w'
theorem bytes_back (s : ByteArray) : bytesOf s.data.toList = s := by cases s; rfl
/-- the parts of a line, its code known -/
theorem line_at {s : ByteArray} {word : List UInt8} {rest : List (List UInt8)} {c : Int} (hsp : splitF 32 s.data.toList = word :: rest) (hf : FirstAt htNames (bytesOf word) c) :
    (∀ c' v, LineIs s.data.toList c' v → c' = c ∧ validHint c v = true ∧ ((opBytes c = 0 ∧ rest = [] ∧ v = 0) ∨ (¬ opBytes c = 0 ∧ ∃ num, rest = [num] ∧ IsDec (bytesOf num) v))) := by
  rintro c' v ⟨wd, hf', ho, hv⟩
  have hw : wd = word := by
    rcases ho with ⟨_, h1, _⟩ | ⟨_, n, h1, _⟩ <;> rw [hsp] at h1 <;> injection h1 with h1 _ <;> exact h1.symm
  subst hw
  have hc := hf'.unique hf
  subst hc
  refine ⟨rfl, hv, ?_⟩
  rcases ho with ⟨g, h1, h2⟩ | ⟨g, n, h1, h2⟩
  · rw [hsp] at h1; injection h1 with _ h1; exact .inl ⟨g, h1, h2⟩
  · rw [hsp] at h1; injection h1 with _ h1; exact .inr ⟨g, n, h1, h2⟩

theorem line_yes {s : ByteArray} {word : List UInt8} {rest : List (List UInt8)} {c v : Int} (hsp : splitF 32 s.data.toList = word :: rest) (hf : FirstAt htNames (bytesOf word) c) (h : (opBytes c = 0 ∧ rest = [] ∧ v = 0) ∨ (¬ opBytes c = 0 ∧ ∃ num, rest = [num] ∧ IsDec (bytesOf num) v)) :
    LineR s.data.toList (if validHint c v = true then some (c, v) else none) ∧ (∀ p, (if validHint c v = true then some (c, v) else none) = some p → p = (c, v)) ∧ (if validHint c v = true then some (c, v) else none).isSome = validHint c v := by
  by_cases hv : validHint c v = true
  · rw [if_pos hv]
    refine ⟨⟨word, hf, ?_, hv⟩, fun p hp => (Option.some.inj hp).symm, hv.symm⟩
    rcases h with ⟨g, rfl, g2⟩ | ⟨g, n, rfl, g2⟩
    · exact .inl ⟨g, hsp, g2⟩
    · exact .inr ⟨g, n, hsp, g2⟩
  · rw [if_neg hv]
    refine ⟨fun c' v' hl => ?_, fun p hp => by (cases hp), by simp at hv; rw [hv]; rfl⟩
    obtain ⟨_, h2, h3⟩ := line_at hsp hf c' v' hl
    have : v' = v := by
      rcases h with ⟨g, _, g2⟩ | ⟨g, n, g1, g2⟩ <;> rcases h3 with ⟨k, _, k2⟩ | ⟨k, m, k1, k2⟩
      · rw [g2, k2]
      · exact absurd g k
      · exact absurd k g
      · rw [g1] at k1; injection k1 with k1 _; subst k1; exact k2.unique g2
    subst this
    exact hv h2
/-- a box with an instruction -/
def HtAt (w : World) (b : Nat) (x y : Int) : Prop := w.heap[b]? = some (.cells #[.int .i64 x, .int .i64 y] 32 (0, 0))
theorem HtAt.below {w w' : World} {b : Nat} {x y : Int} (h : HtAt w b x y) (hb : Below w.heap.size w w') : HtAt w' b x y := by
  have hl : b < w.heap.size := (Array.getElem?_eq_some_iff.1 h).1
  exact (hb.block b hl).trans h
theorem HtAt.cells {w : World} {b : Nat} {x y : Int} (h : HtAt w b x y) : w.cell? ⟨b, 0, none⟩ = some (.int .i64 x) ∧ w.cell? ⟨b, 1, none⟩ = some (.int .i64 y) ∧ (∀ o, w.frozen? ⟨b, o, none⟩ = false) ∧ b < w.heap.size :=
  ⟨by rw [Go.Joins.cell_of_block h]; rfl, by rw [Go.Joins.cell_of_block h]; rfl, Go.Joins.unfrozen_of_block h, (Array.getElem?_eq_some_iff.1 h).1⟩
theorem HtAt.put {w : World} {b : Nat} {x y : Int} (h : HtAt w b x y) (x' y' : Int) : HtAt ((w.setCell ⟨b, 0, none⟩ (.int .i64 x')).setCell ⟨b, 1, none⟩ (.int .i64 y')) b x' y' :=
  Go.Joins.block_setCell (Go.Joins.block_setCell h (.int .i64 x')) (.int .i64 y')
theorem HtAt.put1 {w : World} {b : Nat} {x y : Int} (h : HtAt w b x y) (y' : Int) : HtAt (w.setCell ⟨b, 1, none⟩ (.int .i64 y')) b x y' := Go.Joins.block_setCell h (.int .i64 y')
theorem HtAt.off {w : World} {b : Nat} {x y : Int} (h : HtAt w b x y) {c o : Nat} {v : Value} (hc : b ≠ c) : HtAt (w.setCell ⟨c, o, none⟩ v) b x y := (Below.heap_setCell w ⟨c, o, none⟩ v b hc).trans h
theorem HtAt.drew {w : World} {b : Nat} {x y : Int} (h : HtAt w b x y) : HtAt w.drew b x y := h
theorem HtAt.alloc {w : World} {b : Nat} {x y : Int} (h : HtAt w b x y) (o : Obj) : HtAt (w.alloc o) b x y := h.below (Go.Joins.below_alloc1 _ _)

end Go.Proofs.YtpmpbfkpiocleaaDoor

