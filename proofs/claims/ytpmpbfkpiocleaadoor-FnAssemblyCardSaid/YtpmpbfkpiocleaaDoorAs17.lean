/- The instructions of a program, as a plain function. No program in sight. Conditions: none. -/
import Derived.Test.YtpmpbfkpiocleaaDoorAs01
namespace Go.Proofs.YtpmpbfkpiocleaaDoor
open Go.RowKit
set_option linter.unusedVariables false
set_option maxRecDepth 100000

/-- the operand's bytes, least and greatest value -/
def opBytes (c : Int) : Int := if c = 39 ∨ c = 41 ∨ c = 44 then 1 else if c = 40 ∨ c = 42 ∨ c = 43 then 2 else 0
def opLeast (c : Int) : Int := if c = 39 then -128 else if c = 40 then -32768 else 0
def opMost (c : Int) : Int := if c = 39 then 127 else if c = 40 then 32767 else if c = 41 then 5 else if c = 42 then 32767 else if c = 43 then 32767 else if c = 44 then 127 else 0
def validHint (c o : Int) : Bool := inB c 0 44 && inB o (opLeast c) (opMost c)
theorem opBytes_cases (c : Int) : opBytes c = 0 ∨ opBytes c = 1 ∨ opBytes c = 2 := by
  unfold opBytes; split
  · simp
  · split <;> simp

/-- the signed value of a byte -/
def sb (b : UInt8) : Int := if b.toNat < 128 then b.toNat else (b.toNat : Int) - 256

theorem sb_bd (b : UInt8) : -128 ≤ sb b ∧ sb b ≤ 127 := by have := b.toNat_lt; unfold sb; split <;> omega
theorem sb_wrap (b : UInt8) : IntKind.i8.wrap (b.toNat : Int) = sb b := by
  have := b.toNat_lt
  simp only [IntKind.wrap, IntKind.signed, IntKind.bits, sb]
  simp
  split <;> omega

def byteAt (s : ByteArray) (i : Nat) : UInt8 := s.data.toList.getD i 0
theorem byteAt_get (s : ByteArray) (i : Nat) (h : i < s.size) : byteAt s i = s[i] := by
  have h' : i < s.data.toList.length := by simpa using h
  simp only [byteAt, List.getD_eq_getElem?_getD, List.getElem?_eq_getElem h', Option.getD_some]
  rfl
/-- the operand of an instruction whose code stands at i -/
def operandAt (s : ByteArray) (i : Nat) : Int :=
  let n := opBytes (byteAt s i).toNat
  if n = 0 then 0 else if n = 1 then sb (byteAt s (i + 1)) else sb (byteAt s (i + 1)) * 256 + (byteAt s (i + 2)).toNat

def parseAt (s : ByteArray) : Nat → Nat → Option (List (Int × Int))
  | 0, _ => none
  | f + 1, i =>
    if s.size ≤ i then some []
    else if (s.size : Int) < i + 1 + opBytes (byteAt s i).toNat then none
    else if validHint (byteAt s i).toNat (operandAt s i) then (parseAt s f (i + 1 + (opBytes (byteAt s i).toNat).toNat)).map (((byteAt s i).toNat, operandAt s i) :: ·)
    else none
def parse (s : ByteArray) : Option (List (Int × Int)) := parseAt s (s.size + 1) 0

/-- what a loop knows behind some rounds: the instructions so far are L, the next one begins at i -/
def ParseTo (s : ByteArray) (i : Nat) (L : List (Int × Int)) : Prop := i ≤ s.size ∧ L.length ≤ i ∧ ∃ f, s.size < i + f ∧ parse s = (parseAt s f i).map (L ++ ·)
theorem ParseTo.start (s : ByteArray) : ParseTo s 0 [] := ⟨Nat.zero_le _, Nat.zero_le _, s.size + 1, by omega, by simp [parse]⟩
theorem ParseTo.done {s : ByteArray} {i : Nat} {L : List (Int × Int)} (h : ParseTo s i L) (hi : s.size ≤ i) : parse s = some L := by
  obtain ⟨_, _, f, hf, h⟩ := h
  cases f with
  | zero => omega
  | succ f => rw [h, parseAt, if_pos hi]; simp
theorem ParseTo.short {s : ByteArray} {i : Nat} {L : List (Int × Int)} (h : ParseTo s i L) (hi : i < s.size) (hn : (s.size : Int) < i + 1 + opBytes (byteAt s i).toNat) : parse s = none := by
  obtain ⟨_, _, f, hf, h⟩ := h
  cases f with
  | zero => omega
  | succ f => rw [h, parseAt, if_neg (by omega), if_pos hn]; rfl
theorem ParseTo.bad {s : ByteArray} {i : Nat} {L : List (Int × Int)} (h : ParseTo s i L) (hi : i < s.size) (hn : ¬ (s.size : Int) < i + 1 + opBytes (byteAt s i).toNat) (hv : validHint (byteAt s i).toNat (operandAt s i) = false) : parse s = none := by
  obtain ⟨_, _, f, hf, h⟩ := h
  cases f with
  | zero => omega
  | succ f => rw [h, parseAt, if_neg (by omega), if_neg hn, if_neg (by simp [hv])]; rfl
theorem ParseTo.step {s : ByteArray} {i : Nat} {L : List (Int × Int)} (h : ParseTo s i L) (hi : i < s.size) (hn : ¬ (s.size : Int) < i + 1 + opBytes (byteAt s i).toNat) (hv : validHint (byteAt s i).toNat (operandAt s i) = true) :
    ParseTo s (i + 1 + (opBytes (byteAt s i).toNat).toNat) (L ++ [(((byteAt s i).toNat : Int), operandAt s i)]) := by
  obtain ⟨_, hl, f, hf, h⟩ := h
  refine ⟨by omega, by simp; omega, ?_⟩
  cases f with
  | zero => omega
  | succ f =>
    refine ⟨f, by omega, ?_⟩
    rw [h, parseAt, if_neg (by omega), if_neg hn, if_pos hv, Option.map_map]
    congr 1
    funext x
    simp

/-- the cells of instructions -/
def hintCells (L : List (Int × Int)) : List Value := L.flatMap fun p => [.int .i64 p.1, .int .i64 p.2]
theorem hintCells_append (a b : List (Int × Int)) : hintCells (a ++ b) = hintCells a ++ hintCells b := by simp [hintCells]
theorem hintCells_length (L : List (Int × Int)) : (hintCells L).length = L.length * 2 := by
  induction L with
  | nil => rfl
  | cons p L ih => simp [hintCells] at ih ⊢; omega
theorem hintCells_one (L : List (Int × Int)) : ∀ u ∈ hintCells L, u.oneCell' = true := by
  intro u hu
  simp only [hintCells, List.mem_flatMap] at hu
  obtain ⟨p, _, hp⟩ := hu
  simp at hp
  rcases hp with rfl | rfl <;> rfl
end Go.Proofs.YtpmpbfkpiocleaaDoor

