/- The outline that a state of the hint machine stands for. No walk in sight. Conditions: as each states. -/
import Derived.Test.YtgngcllodofimaaSt2
namespace Go.Proofs.Ytgngcllodofimaa
set_option linter.unusedVariables false
set_option maxRecDepth 100000

/-- a loop whose points are taken from P, from a on -/
def hintK (P : List (Int × Int)) (a : Nat) : List Knot → List Knot
  | [] => []
  | q :: K => ((P.getD a (0, 0)).1, (P.getD a (0, 0)).2, q.2.2) :: hintK P (a + 1) K
/-- the loops, one after another -/
def hintLs (P : List (Int × Int)) (a : Nat) : List (List Knot) → List (List Knot)
  | [] => []
  | K :: Ls => hintK P a K :: hintLs P (a + K.length) Ls
theorem hintK_len (P : List (Int × Int)) (a : Nat) (K : List Knot) : (hintK P a K).length = K.length := by
  induction K generalizing a with
  | nil => rfl
  | cons q K ih => simp [hintK, ih]
theorem hintLs_len (P : List (Int × Int)) (a : Nat) (Ls : List (List Knot)) : (hintLs P a Ls).length = Ls.length := by
  induction Ls generalizing a with
  | nil => rfl
  | cons K Ls ih => simp [hintLs, ih]
theorem hintK_at {P : List (Int × Int)} {a q : Nat} {K : List Knot} {k : Knot} {p : Int × Int} (hk : K[q]? = some k) (hp : P[a + q]? = some p) : (hintK P a K)[q]? = some (p.1, p.2, k.2.2) := by
  induction K generalizing a q with
  | nil => simp at hk
  | cons x K ih =>
    cases q with
    | zero => simp at hk; subst hk; simp only [Nat.add_zero] at hp; simp [hintK, List.getD_eq_getElem?_getD, hp]
    | succ q =>
      rw [List.getElem?_cons_succ] at hk
      rw [hintK, List.getElem?_cons_succ]
      exact ih hk (by rw [show a + 1 + q = a + (q + 1) by omega]; exact hp)
theorem hintLs_at {P : List (Int × Int)} {a k : Nat} {Ls : List (List Knot)} {K : List Knot} (hk : Ls[k]? = some K) : (hintLs P a Ls)[k]? = some (hintK P (a + sumK Ls k) K) := by
  induction Ls generalizing a k with
  | nil => simp at hk
  | cons x Ls ih =>
    cases k with
    | zero => simp at hk; subst hk; simp [hintLs, sumK]
    | succ k =>
      rw [List.getElem?_cons_succ] at hk
      rw [hintLs, List.getElem?_cons_succ, ih hk]
      simp only [sumK, List.take_succ_cons, List.map_cons, List.sum_cons]
      rw [Nat.add_assoc]
theorem hintLs_lens (P : List (Int × Int)) (a : Nat) (Ls : List (List Knot)) : (hintLs P a Ls).map List.length = Ls.map List.length := by
  induction Ls generalizing a with
  | nil => rfl
  | cons K Ls ih => simp [hintLs, ih, hintK_len]
theorem sumK_mono {Ls : List (List Knot)} {j k : Nat} (h : j ≤ k) : sumK Ls j ≤ sumK Ls k := by
  induction k with
  | zero => have : j = 0 := by omega
            subst this; exact Nat.le_refl _
  | succ k ih =>
    by_cases hjk : j = k + 1
    · subst hjk; exact Nat.le_refl _
    · refine Nat.le_trans (ih (by omega)) ?_
      cases hk : Ls[k]? with
      | some K => rw [sumK_step hk]; omega
      | none => unfold sumK; rw [List.take_add_one, hk]; simp
theorem take_step {α : Type} {L : List α} {k : Nat} {a : α} (h : L[k]? = some a) : L.take (k + 1) = L.take k ++ [a] := by
  rw [List.take_add_one, h]; rfl
/-- the first k of one list, then the other -/
def mixT {α : Type} (M K : List α) (k : Nat) : List α := M.take k ++ K.drop k
theorem mixT_zero {α : Type} (M K : List α) : mixT M K 0 = K := by simp [mixT]
theorem mixT_len {α : Type} {M K : List α} (h : M.length = K.length) (k : Nat) : (mixT M K k).length = K.length := by
  unfold mixT; rw [List.length_append, List.length_take, List.length_drop]; omega
theorem mixT_all {α : Type} {M K : List α} (h : M.length = K.length) : mixT M K K.length = M := by
  unfold mixT; rw [List.drop_length, ← h, List.take_length, List.append_nil]
theorem mixT_at {α : Type} {M K : List α} (h : M.length = K.length) {k : Nat} (hk : k < K.length) : (mixT M K k)[k]? = K[k]? := by
  unfold mixT
  rw [List.getElem?_append_right (by rw [List.length_take]; omega), List.length_take, Nat.min_eq_left (by omega), Nat.sub_self, List.getElem?_drop, Nat.add_zero]
theorem mixT_set {α : Type} {M K : List α} (h : M.length = K.length) {k : Nat} {m : α} (hm : M[k]? = some m) : (mixT M K k).set k m = mixT M K (k + 1) := by
  have hk := (List.getElem?_eq_some_iff.1 hm).1
  unfold mixT
  rw [List.set_append_right _ _ (by rw [List.length_take]; omega), List.length_take, Nat.min_eq_left (by omega), Nat.sub_self, take_step hm, List.append_assoc]
  congr 1
  rw [List.drop_eq_getElem_cons (by omega)]
  rfl
def hintW (P : List (Int × Int)) : Int := (P.getD (P.length - 1) (0, 0)).1 - (P.getD (P.length - 2) (0, 0)).1
end Go.Proofs.Ytgngcllodofimaa
