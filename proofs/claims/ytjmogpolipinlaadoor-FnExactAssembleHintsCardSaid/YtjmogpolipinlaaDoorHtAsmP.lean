/- What a text of instructions comes to: plain facts. Conditions: as each states. -/
import Derived.Test.YtjmogpolipinlaaDoorHtNames
import Derived.Test.YtjmogpolipinlaaDoorHtSplit
import Derived.Test.YtjmogpolipinlaaDoorMakeI
import Derived.Test.YtjmogpolipinlaaDoorReadD
namespace Go.Proofs.YtjmogpolipinlaaDoor
open Go.RowKit
set_option linter.unusedVariables false
set_option maxRecDepth 100000

/-- the line s is the instruction with code c and operand v -/
def LineIs (s : List UInt8) (c v : Int) : Prop := ∃ word : List UInt8, FirstAt htNames (bytesOf word) c ∧ ((opBytes c = 0 ∧ splitF 32 s = [word] ∧ v = 0) ∨ (¬ opBytes c = 0 ∧ ∃ num, splitF 32 s = [word, num] ∧ IsDec (bytesOf num) v)) ∧ validHint c v = true
theorem LineIs.unique {s : List UInt8} {c v c' v' : Int} (h : LineIs s c v) (h' : LineIs s c' v') : c = c' ∧ v = v' := by
  obtain ⟨wd, hf, ho, _⟩ := h
  obtain ⟨wd', hf', ho', _⟩ := h'
  have hw : wd = wd' := by
    rcases ho with ⟨_, h1, _⟩ | ⟨_, n, h1, _⟩ <;> rcases ho' with ⟨_, h2, _⟩ | ⟨_, n', h2, _⟩ <;> rw [h1] at h2 <;> injection h2
  subst hw
  have hc := hf.unique hf'
  subst hc
  refine ⟨rfl, ?_⟩
  rcases ho with ⟨g1, h1, rfl⟩ | ⟨g1, n, h1, d1⟩ <;> rcases ho' with ⟨g2, h2, rfl⟩ | ⟨g2, n', h2, d2⟩
  · rfl
  · exact absurd g1 g2
  · exact absurd g2 g1
  · rw [h1] at h2
    injection h2 with _ h2
    injection h2 with h2 _
    subst h2
    exact d1.unique d2
/-- what a line comes to -/
def LineR (s : List UInt8) : Option (Int × Int) → Prop
  | none => ∀ c v, ¬ LineIs s c v
  | some p => LineIs s p.1 p.2
theorem LineR.unique {s : List UInt8} {a b : Option (Int × Int)} (h : LineR s a) (h' : LineR s b) : a = b := by
  cases a with
  | none =>
    cases b with
    | none => rfl
    | some q => exact absurd h' (h _ _)
  | some p =>
    cases b with
    | none => exact absurd h (h' _ _)
    | some q => obtain ⟨h1, h2⟩ := LineIs.unique h h'; exact congrArg some (Prod.ext h1 h2)
/-- what a list of lines comes to, up to the first that is none -/
def LinesR : List (List UInt8) → Option (List (Int × Int)) → Prop
  | [], o => o = some []
  | s :: r, o => ∃ a, LineR s a ∧ match a with
    | none => o = none
    | some p => ∃ t, LinesR r t ∧ o = t.map (p :: ·)
theorem LinesR.unique : ∀ {Ls : List (List UInt8)} {a b : Option (List (Int × Int))}, LinesR Ls a → LinesR Ls b → a = b := by
  intro Ls
  induction Ls with
  | nil => intro a b h h'; exact h.trans h'.symm
  | cons s r ih =>
    rintro a b ⟨x, h1, h2⟩ ⟨y, h3, h4⟩
    obtain rfl := h1.unique h3
    cases x with
    | none => exact h2.trans h4.symm
    | some p =>
      obtain ⟨t, h5, rfl⟩ := h2
      obtain ⟨u, h6, rfl⟩ := h4
      rw [ih h5 h6]
/-- the lines ahead of the k-th one are the instructions L -/
def LinesTo (Ls : List (List UInt8)) (k : Nat) (L : List (Int × Int)) : Prop := k ≤ Ls.length ∧ L.length = k ∧ ∀ t, LinesR (Ls.drop k) t → LinesR Ls (t.map (L ++ ·))
theorem LinesTo.start (Ls : List (List UInt8)) : LinesTo Ls 0 [] := ⟨Nat.zero_le _, rfl, fun t h => by cases t <;> simpa using h⟩
theorem LinesTo.step {Ls : List (List UInt8)} {k : Nat} {L : List (Int × Int)} (h : LinesTo Ls k L) {s : List UInt8} (hs : Ls[k]? = some s) {p : Int × Int} (hp : LineR s (some p)) : LinesTo Ls (k + 1) (L ++ [p]) := by
  obtain ⟨h1, h2, h3⟩ := h
  have hk := (List.getElem?_eq_some_iff.1 hs).1
  refine ⟨hk, by simp [h2], fun t ht => ?_⟩
  have := h3 (t.map (p :: ·)) (by
    rw [List.drop_eq_getElem_cons hk]
    exact ⟨some p, by rw [(List.getElem?_eq_some_iff.1 hs).2]; exact hp, t, ht, rfl⟩)
  rw [Option.map_map] at this
  have e : (fun x => (L ++ [p]) ++ x) = (fun x => L ++ x) ∘ (fun x => p :: x) := by funext x; simp
  rw [e]; exact this
theorem LinesTo.bad {Ls : List (List UInt8)} {k : Nat} {L : List (Int × Int)} (h : LinesTo Ls k L) {s : List UInt8} (hs : Ls[k]? = some s) (hp : LineR s none) : LinesR Ls none := by
  obtain ⟨h1, h2, h3⟩ := h
  have hk := (List.getElem?_eq_some_iff.1 hs).1
  exact h3 none (by
    rw [List.drop_eq_getElem_cons hk]
    exact ⟨none, by rw [(List.getElem?_eq_some_iff.1 hs).2]; exact hp, rfl⟩)
theorem LinesTo.done {Ls : List (List UInt8)} {L : List (Int × Int)} (h : LinesTo Ls Ls.length L) : LinesR Ls (some L) := by
  obtain ⟨h1, h2, h3⟩ := h
  have := h3 (some []) (by rw [List.drop_length]; rfl)
  simpa using this
/-- what a text comes to: its lines, each ended by a newline -/
def TextR (s : List UInt8) (o : Option (List (Int × Int))) : Prop := (o = none ∧ (splitF 10 s).getLast? ≠ some []) ∨ ∃ Ls, splitF 10 s = Ls ++ [[]] ∧ LinesR Ls o
theorem TextR.unique {s : List UInt8} {a b : Option (List (Int × Int))} (h : TextR s a) (h' : TextR s b) : a = b := by
  rcases h with ⟨rfl, h⟩ | ⟨Ls, h, hl⟩ <;> rcases h' with ⟨rfl, h'⟩ | ⟨Ls', h', hl'⟩
  · rfl
  · exact absurd (by rw [h']; simp) h
  · exact absurd (by rw [h]; simp) h'
  · have e : Ls = Ls' := List.append_cancel_right (h.symm.trans h')
    subst e
    exact hl.unique hl'
/-- the program of a text, and its code -/
def asmR (o : Option (List (Int × Int))) : List UInt8 × Int := match o with
  | none => ([], 7)
  | some L => makeR L
theorem dec_no {s : ByteArray} {n : Int} (h : IsDec s n) {b : UInt8} (h1 : b ≠ 45) (h2 : b.toNat < 48 ∨ 57 < b.toNat) : ∀ c ∈ s.data.toList, c ≠ b := by
  intro c hc
  rw [h.1] at hc
  have hc' : c ∈ decL n := by simpa [decS] using hc
  unfold decL at hc'
  rcases List.mem_append.1 hc' with hc' | hc'
  · split at hc'
    · rw [List.mem_singleton] at hc'; subst hc'; exact fun e => h1 e.symm
    · simp at hc'
  · have := List.all_eq_true.1 (dec1_digits n.natAbs) c hc'
    intro e; subst e
    simp [isDig] at this
    omega
end Go.Proofs.YtjmogpolipinlaaDoor
