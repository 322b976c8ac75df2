/- The walks of the functions that read a program. Conditions: as each states. -/
import Derived.Test.YtjcjmjcgeojhiaaParse
import Derived.Test.YtjcjmjcgeojhiaaNestS
namespace Go.Proofs.Ytjcjmjcgeojhiaa
open Go.RowKit
set_option linter.unusedVariables false

theorem rdH_own {w : World} {B e n c : Nat} {A : Option Addr} {L : List (Int × Int)} (h : w.ownsRow B e 2 (.slice A n c) n (hintCells L)) (hl : L.length = n) : RdH w A n L := by
  refine ⟨hl, fun hn => ?_⟩
  obtain ⟨g, rfl, h1, h2, h3, hc, _⟩ := own_addr h hn
  refine ⟨g, 0, rfl, h2, fun j hj => ?_⟩
  have e1 : ∀ (L : List (Int × Int)) (j : Nat), j < L.length → (hintCells L)[j * 2]? = some (.int .i64 (L.getD j (0, 0)).1) ∧ (hintCells L)[j * 2 + 1]? = some (.int .i64 (L.getD j (0, 0)).2) := by
    intro L
    induction L with
    | nil => intro j hj; simp at hj
    | cons p L ih =>
      intro j hj
      cases j with
      | zero => simp [hintCells]
      | succ j =>
        have := ih j (by simpa using hj)
        have e : hintCells (p :: L) = .int .i64 p.1 :: .int .i64 p.2 :: hintCells L := by simp [hintCells]
        rw [e, show (j + 1) * 2 = j * 2 + 1 + 1 by omega]
        simpa using this
  have := e1 L j (by omega)
  rw [Nat.zero_add, hc _ (by omega), hc _ (by omega)]
  exact this

theorem parseAt_len (s : ByteArray) : ∀ (f i : Nat) (L : List (Int × Int)), parseAt s f i = some L → L.length ≤ s.size - i := by
  intro f
  induction f with
  | zero => intro i L h; simp [parseAt] at h
  | succ f ih =>
    intro i L h
    rw [parseAt] at h
    by_cases h1 : s.size ≤ i
    · rw [if_pos h1] at h; injection h with h; subst h; simp
    · rw [if_neg h1] at h
      split at h
      · cases h
      · split at h
        · cases hp : parseAt s f (i + 1 + (opBytes (byteAt s i).toNat).toNat) with
          | none => rw [hp] at h; cases h
          | some L' =>
            rw [hp] at h
            injection h with h
            have := ih _ _ hp
            subst h
            simp; omega
        · cases h
theorem parse_len {s : ByteArray} {L : List (Int × Int)} (h : parse s = some L) : L.length ≤ s.size := by
  have := parseAt_len s _ 0 L h
  omega

theorem u16_or (b1 b2 : UInt8) : bits .or .u16 ((b1.toNat : Int) * 256) (b2.toNat : Int) = (b1.toNat : Int) * 256 + b2.toNat := by
  have h1 := b1.toNat_lt
  have h2 := b2.toNat_lt
  have e1 : (BitVec.ofInt 16 ((b1.toNat : Int) * 256)).toNat = b1.toNat * 256 := by
    rw [show ((b1.toNat : Int) * 256) = ((b1.toNat * 256 : Nat) : Int) by omega, BitVec.ofInt_natCast, BitVec.toNat_ofNat]; omega
  have e2 : (BitVec.ofInt 16 (b2.toNat : Int)).toNat = b2.toNat := by
    rw [BitVec.ofInt_natCast, BitVec.toNat_ofNat]; omega
  have e3 : b1.toNat * 256 ||| b2.toNat = b1.toNat * 256 + b2.toNat := by
    have := Nat.shiftLeft_add_eq_or_of_lt (i := 8) (b := b2.toNat) (by omega) b1.toNat
    rw [Nat.shiftLeft_eq] at this; exact this.symm
  show IntKind.u16.wrap ((BitVec.ofInt 16 ((b1.toNat : Int) * 256) ||| BitVec.ofInt 16 (b2.toNat : Int)).toNat : Int) = _
  rw [BitVec.toNat_or, e1, e2, e3]
  simp only [IntKind.wrap, IntKind.signed, IntKind.bits]
  simp
  omega
theorem i16_word (b1 b2 : UInt8) : IntKind.i16.wrap (bits .or .u16 ((b1.toNat : Int) * 256) (b2.toNat : Int)) = sb b1 * 256 + b2.toNat := by
  have h1 := b1.toNat_lt
  have h2 := b2.toNat_lt
  rw [u16_or]
  simp only [IntKind.wrap, IntKind.signed, IntKind.bits, sb]
  simp
  split <;> omega

theorem own_base {w : World} {base base' e size n : Nat} {v : Value} {xs : List Value} (h : w.ownsRow base e size v n xs) (hb : base' ≤ base) : w.ownsRow base' e size v n xs := by
  refine ⟨h.1, ?_⟩
  rcases h.2 with h2 | ⟨g, cap, cur, hv, hg, r⟩
  · exact .inl h2
  · exact .inr ⟨g, cap, cur, hv, Nat.le_trans hb hg, r⟩

def hintList (s : ByteArray) : Option (List (Int × Int)) := if 400 < s.size then none else parse s
def codesOf (L : List (Int × Int)) : List Int := L.map (·.1)

/-- the instructions that a program was read to, its partners beside them -/
def RHPost (s : ByteArray) (w : World) (e : Ending) (w' : World) : Prop :=
  (hintList s = none ∧ e = .returned (.tuple #[.slice none 0 0, .slice none 0 0, .bool false]) ∧ Below w.heap.size w w') ∨
  ∃ L A c vp, hintList s = some L ∧ e = .returned (.tuple #[.slice A L.length c, vp, .bool (nestB (codesOf L))]) ∧ w'.ownsRow w.heap.size 96 2 (.slice A L.length c) L.length (hintCells L) ∧
    (∀ ps st, pAll (codesOf L) = some (ps, st) → ∃ g, vp = .slice (some ⟨g, 0, none⟩) L.length L.length ∧ w'.ownsRow w.heap.size 3 1 vp L.length (intV ps)) ∧ Below w.heap.size w w'

end Go.Proofs.Ytjcjmjcgeojhiaa
