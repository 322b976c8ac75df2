/- The reference's reading of a number. Conditions: as each states. -/
import Derived.Deep.DeepCutAuto
import Derived.Deep.QuietTactic
import Derived.WalkSmall
import Derived.Test.YtpmpbfkpiocleaaDoorAs36
import Derived.Test.YtpmpbfkpiocleaaDoorAs27
import Derived.Test.YtpmpbfkpiocleaaDoorAs32
import Derived.Test.YtpmpbfkpiocleaaDoorShelf
namespace Go.Proofs.YtpmpbfkpiocleaaDoor
open Go.RowKit
set_option linter.unusedVariables false
set_option maxRecDepth 100000

theorem bytes_length (s : ByteArray) : s.toList.length = s.size := by
  rw [ByteArray.toList_eq]; simp
end Go.Proofs.YtpmpbfkpiocleaaDoor

/- strings.Cut at one byte. Conditions: as it states. -/
namespace Go.Proofs.YtpmpbfkpiocleaaDoor
open Go.RowKit
set_option linter.unusedVariables false
set_option maxRecDepth 100000

theorem indexByte_cases : ∀ (l : List UInt8) (c : UInt8), (Lib.indexByte l c = -1 ∧ ∀ x ∈ l, x ≠ c) ∨ ∃ i : Nat, Lib.indexByte l c = i ∧ i < l.length ∧ l[i]? = some c ∧ ∀ x ∈ l.take i, x ≠ c := by
  intro l c
  induction l with
  | nil => left; exact ⟨rfl, by simp⟩
  | cons b l ih =>
    by_cases h : b = c
    · right; exact ⟨0, by simp [Lib.indexByte, h], by simp, by simp [h], by simp⟩
    · rcases ih with ⟨h1, h2⟩ | ⟨i, h1, h2, h3, h4⟩
      · left
        refine ⟨by simp [Lib.indexByte, h, h1], fun x hx => ?_⟩
        rcases List.mem_cons.1 hx with rfl | hx
        · exact h
        · exact h2 x hx
      · right
        have hne : ¬ ((i : Int) = -1) := by omega
        refine ⟨i + 1, by simp [Lib.indexByte, h, h1, hne], by simp; omega, by simpa using h3, fun x hx => ?_⟩
        rw [List.take_succ_cons] at hx
        rcases List.mem_cons.1 hx with rfl | hx
        · exact h
        · exact h4 x hx

def CutPost (s : ByteArray) (c : UInt8) (w : World) (e : Ending) (w' : World) : Prop :=
  (∃ i : Nat, e = .returned (.tuple #[.string (s.extract 0 i), .string (s.extract (i + 1) s.size), .bool true]) ∧ i < s.size ∧ s.data.toList[i]? = some c ∧ (∀ x ∈ s.data.toList.take i, x ≠ c) ∧ Below w.heap.size w w') ∨
  (e = .returned (.tuple #[.string s, .string ⟨#[]⟩, .bool false]) ∧ (∀ x ∈ s.data.toList, x ≠ c) ∧ Below w.heap.size w w')

theorem cutLite_any (s : ByteArray) (c : UInt8) (w : World) (hs : s.size ≤ 1048576) :
    Calls Tryd.prog 43 #[.string s, .string ⟨#[c]⟩] w fun e w' => CutPost s c w e w' := by
  rcases indexByte_cases s.data.toList c with ⟨h1, h2⟩ | ⟨i, h1, h2, h3, h4⟩
  · replace h2 := Lib.hid h2
    go_enter Tryd.func43, Tryd.ntmps43
    go_wp2_with (go_at_call 50; refine (Tryd.stringslite_Index_one _ _ _).mono ?_; rintro e w' ⟨rfl, rfl⟩)
    go_ret3
    exact .inr ⟨rfl, h2.out, Below.refl _ _⟩
  · have hi : i < s.size := by simpa using h2
    replace h2 := Lib.hid h2
    replace h3 := Lib.hid h3
    replace h4 := Lib.hid h4
    have b1 : (0 : Int) ≤ (i : Int) ∧ (i : Int) ≤ (s.size : Int) := by omega
    have b2 : (0 : Int) ≤ (i : Int) + 1 ∧ (i : Int) + 1 ≤ (s.size : Int) := by omega
    go_enter Tryd.func43, Tryd.ntmps43
    go_wp2_with (go_at_call 50; refine (Tryd.stringslite_Index_one _ _ _).mono ?_; rintro e w' ⟨rfl, rfl⟩)
    go_quiet (fail)
    go_wp2_with fail
    go_ret3
    exact .inl ⟨i, rfl, hi, h3.out, h4.out, below_drewN (Below.refl _ _) _⟩

theorem cutByte_any (s : ByteArray) (c : UInt8) (w : World) (hs : s.size ≤ 1048576) :
    Calls Tryd.prog 36 #[.string s, .string ⟨#[c]⟩] w fun e w' => CutPost s c w e w' := by
  go_enter Tryd.func36, Tryd.ntmps36
  go_wp2_with fail
  refine (cutLite_any s c _ hs).mono ?_
  rintro e w1 (⟨i, rfl, h1, h2, h3, h4⟩ | ⟨rfl, h1, h2⟩)
  · replace h2 := Lib.hid h2
    replace h3 := Lib.hid h3
    go_wp2_with fail
    go_ret3
    exact .inl ⟨i, rfl, h1, h2.out, h3.out, h4⟩
  · replace h1 := Lib.hid h1
    go_wp2_with fail
    go_ret3
    exact .inr ⟨rfl, h1.out, h2⟩
end Go.Proofs.YtpmpbfkpiocleaaDoor

