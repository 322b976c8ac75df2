/- The walk of the function that splits a text. Conditions: as it states. -/
import Derived.Test.YtgngcllodofimaaMem
import Derived.Test.YtgngcllodofimaaProg
import Derived.BigQuiet
import Derived.Outline
namespace Go.Proofs.Ytgngcllodofimaa
open Go.RowKit
set_option linter.unusedVariables false
set_option maxRecDepth 100000

def splitF (b : UInt8) : List UInt8 → List (List UInt8)
  | [] => [[]]
  | c :: l => if c = b then [] :: splitF b l else match splitF b l with | [] => [[c]] | x :: r => (c :: x) :: r
theorem splitF_ne (b : UInt8) (l : List UInt8) : splitF b l ≠ [] := by
  cases l with
  | nil => simp [splitF]
  | cons c l => rw [splitF]; split
                · simp
                · split <;> simp
theorem splitF_hit (b : UInt8) : ∀ (a l : List UInt8), (∀ c ∈ a, c ≠ b) → splitF b (a ++ b :: l) = a :: splitF b l := by
  intro a
  induction a with
  | nil => intro l _; simp [splitF]
  | cons c a ih =>
    intro l h
    have h1 := ih l (fun c hc => h c (List.mem_cons_of_mem _ hc))
    rw [List.cons_append, splitF, if_neg (h c (by simp)), h1]
theorem splitF_last (b : UInt8) : ∀ a : List UInt8, (∀ c ∈ a, c ≠ b) → splitF b a = [a] := by
  intro a
  induction a with
  | nil => intro _; rfl
  | cons c a ih =>
    intro h
    rw [splitF, if_neg (h c (by simp)), ih (fun c hc => h c (List.mem_cons_of_mem _ hc))]
def strV (xs : List (List UInt8)) : List Value := xs.map fun x => .string ⟨x.toArray⟩
theorem strV_length (xs : List (List UInt8)) : (strV xs).length = xs.length := by simp [strV]

/-- behind i bytes: the pieces P, the next one from f on -/
def SplitTo (s : ByteArray) (b : UInt8) (i f : Nat) (P : List (List UInt8)) : Prop :=
  f ≤ i ∧ i ≤ s.size ∧ P.length ≤ i ∧ splitF b s.data.toList = P ++ splitF b (s.data.toList.drop f) ∧ ∀ c ∈ (s.data.toList.take i).drop f, c ≠ b
theorem SplitTo.start (s : ByteArray) (b : UInt8) : SplitTo s b 0 0 [] := ⟨Nat.le_refl _, Nat.zero_le _, Nat.zero_le _, by simp, by simp⟩
theorem drop_split (l : List UInt8) (f i : Nat) (hf : f ≤ i) (hi : i < l.length) : l.drop f = (l.take i).drop f ++ l[i] :: l.drop (i + 1) := by
  have e : l = l.take i ++ l[i] :: l.drop (i + 1) := by simp
  conv => lhs; rw [e]
  rw [List.drop_append_of_le_length (by simp; omega)]
theorem SplitTo.hit {s : ByteArray} {b : UInt8} {i f : Nat} {P : List (List UInt8)} (h : SplitTo s b i f P) (hi : i < s.size) (hb : s[i] = b) : SplitTo s b (i + 1) (i + 1) (P ++ [(s.data.toList.take i).drop f]) := by
  obtain ⟨h1, h2, h3, h4, h5⟩ := h
  refine ⟨Nat.le_refl _, by omega, by simp; omega, ?_, by simp⟩
  have hb' : s.data.toList[i]'(by simpa using hi) = b := hb
  rw [h4, drop_split _ f i h1 (by simpa using hi), hb', splitF_hit _ _ _ h5]
  simp
theorem SplitTo.miss {s : ByteArray} {b : UInt8} {i f : Nat} {P : List (List UInt8)} (h : SplitTo s b i f P) (hi : i < s.size) (hb : s[i] ≠ b) : SplitTo s b (i + 1) f P := by
  obtain ⟨h1, h2, h3, h4, h5⟩ := h
  refine ⟨by omega, by omega, by omega, h4, fun c hc => ?_⟩
  have hb' : s.data.toList[i]'(by simpa using hi) ≠ b := hb
  rw [List.take_succ_eq_append_getElem (by simpa using hi), List.drop_append_of_le_length (by simp; omega), List.mem_append] at hc
  rcases hc with hc | hc
  · exact h5 c hc
  · simp at hc; subst hc; exact hb
theorem SplitTo.done {s : ByteArray} {b : UInt8} {f : Nat} {P : List (List UInt8)} (h : SplitTo s b s.size f P) : splitF b s.data.toList = P ++ [s.data.toList.drop f] := by
  obtain ⟨h1, h2, h3, h4, h5⟩ := h
  rw [List.take_of_length_le (by simp)] at h5
  rw [h4, splitF_last _ _ h5]

theorem elemStr : Elem Try.prog 111 9 1 16 := elem_mk (z := .string ⟨#[]⟩) Try.underlying111 (by kernel_rfl) rfl (by omega)
theorem extract_mk (s : ByteArray) (f i : Nat) : s.extract f i = ⟨((s.data.toList.take i).drop f).toArray⟩ := by
  have h : (s.extract f i).data.toList = (s.data.toList.take i).drop f := by simp [ByteArray.data_extract, List.drop_take]
  rw [← h]

end Go.Proofs.Ytgngcllodofimaa
