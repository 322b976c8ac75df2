/- Cubics: a point of a curve is near the path along it; quadratics are near the cubic. Numbers alone. Conditions: as each states. -/
import Derived.Test.YtgelkdcggnffeaaGreatFtg18
namespace Go.Proofs.YtgelkdcggnffeaaGreat
set_option linter.unusedVariables false
set_option maxRecDepth 100000

/-! ### the sum of the sizes of two coordinates -/
/-! ### a point is near a segment if it is near a point of it -/
/-! ### rounded quotients -/
theorem rnd_err {x d : Int} (hd : 0 < d) : -d ≤ 2 * (d * rnd x d - x) ∧ 2 * (d * rnd x d - x) ≤ d := by
  unfold rnd
  have h1 := Int.emod_add_mul_ediv (2 * x + d) (2 * d)
  have h2 := Int.emod_nonneg (2 * x + d) (show 2 * d ≠ 0 by omega)
  have h3 := Int.emod_lt_of_pos (2 * x + d) (show 0 < 2 * d by omega)
  have e : 2 * d * ((2 * x + d) / (2 * d)) = 2 * (d * ((2 * x + d) / (2 * d))) := by rw [Int.mul_assoc]
  rw [e] at h1
  omega
theorem rnd_exact {x d : Int} (hd : 0 < d) : rnd (d * x) d = x := by
  have h := rnd_err (x := d * x) hd
  have e : d * rnd (d * x) d - d * x = d * (rnd (d * x) d - x) := by rw [Int.mul_sub]
  rw [e] at h
  generalize rnd (d * x) d = q at *
  rcases Int.lt_trichotomy q x with h1 | h1 | h1
  · have := Int.mul_le_mul_of_nonneg_left (show q - x ≤ -1 by omega) (show 0 ≤ d by omega)
    omega
  · exact h1
  · have := Int.mul_le_mul_of_nonneg_left (show 1 ≤ q - x by omega) (show 0 ≤ d by omega)
    omega

/-! ### a coordinate of a cubic at a parameter -/
end Go.Proofs.YtgelkdcggnffeaaGreat

/- The loop that is fitted to a ring: the numbers alone. Conditions: as each states. -/
namespace Go.Proofs.YtgelkdcggnffeaaGreat
open Go.RowKit
set_option linter.unusedVariables false
set_option maxRecDepth 100000

/-- whether a path from a to b by p has a corner there -/
def cornB (a p b : Int × Int) : Bool := decide ((p.1 - a.1) * (b.1 - p.1) + (p.2 - a.2) * (b.2 - p.2) < 2 * imax ((p.1 - a.1) * (b.2 - p.2) - (p.2 - a.2) * (b.1 - p.1)) (-((p.1 - a.1) * (b.2 - p.2) - (p.2 - a.2) * (b.1 - p.1))))
/-- whether a ring has a corner at i -/
def cornL (L : List (Int × Int)) (i : Nat) : Bool := cornB (ptAt L ((i + L.length - 1) % L.length)) (ptAt L i) (ptAt L ((i + 1) % L.length))
def idxC (L : List (Int × Int)) : Nat := (List.range L.length).findIdx (cornL L)
/-- the first corner, or 0 -/
def firstC (L : List (Int × Int)) : Nat := if idxC L < L.length then idxC L else 0
theorem firstC_lt {L : List (Int × Int)} (h : 0 < L.length) : firstC L < L.length := by unfold firstC; split <;> omega
theorem firstC_hit {L : List (Int × Int)} {k : Nat} (hk : k < L.length) (h : cornL L k = true) (h0 : ∀ j, j < k → cornL L j = false) : firstC L = k := by
  have e : idxC L = k := by
    unfold idxC
    rw [List.findIdx_eq (by simpa using hk)]
    refine ⟨by simpa using h, fun j hj => ?_⟩
    simpa using h0 j hj
  unfold firstC
  rw [e, if_pos hk]
theorem firstC_none {L : List (Int × Int)} (h0 : ∀ j, j < L.length → cornL L j = false) : firstC L = 0 := by
  unfold firstC
  split
  · rename_i h
    have := List.findIdx_getElem (p := cornL L) (xs := List.range L.length) (w := by simpa [idxC] using h)
    unfold idxC at h
    simp at this
    rw [h0 _ (by simpa using h)] at this
    cases this
  · rfl
/-- the ring from s on, back to s -/
def rotL (L : List (Int × Int)) (s : Nat) : List (Int × Int) := (List.range (L.length + 1)).map fun i => ptAt L ((s + i) % L.length)
theorem rotL_len (L : List (Int × Int)) (s : Nat) : (rotL L s).length = L.length + 1 := by simp [rotL]
theorem rotL_at {L : List (Int × Int)} {s i : Nat} (h : i ≤ L.length) : (rotL L s)[i]? = some (ptAt L ((s + i) % L.length)) := by
  unfold rotL
  rw [List.getElem?_map, List.getElem?_range (by omega)]; rfl
theorem rotL_pt {L : List (Int × Int)} {s i : Nat} (h : i ≤ L.length) : ptAt (rotL L s) i = ptAt L ((s + i) % L.length) := by
  unfold ptAt
  rw [List.getD_eq_getElem?_getD, rotL_at h]; rfl
theorem ptAt_some {L : List (Int × Int)} {i : Nat} (h : i < L.length) : L[i]? = some (ptAt L i) := by
  unfold ptAt
  rw [List.getD_eq_getElem?_getD, List.getElem?_eq_getElem h]; rfl
theorem ptAt_eq {L : List (Int × Int)} {i : Nat} {a : Int × Int} (h : L[i]? = some a) : ptAt L i = a := by
  unfold ptAt
  rw [List.getD_eq_getElem?_getD, h]; rfl
theorem rotL_split {L : List (Int × Int)} {s : Nat} (h : s < L.length) : rotL L s = L.drop s ++ L.take (s + 1) := by
  apply List.ext_getElem?
  intro i
  rcases Nat.lt_or_ge i (L.length + 1) with hi | hi
  · rw [rotL_at (by omega)]
    rcases Nat.lt_or_ge i (L.length - s) with h1 | h1
    · rw [List.getElem?_append_left (by rw [List.length_drop]; omega), List.getElem?_drop, Nat.mod_eq_of_lt (by omega), ptAt_some (by omega)]
    · rw [List.getElem?_append_right (by rw [List.length_drop]; omega), List.length_drop, List.getElem?_take, if_pos (by omega)]
      have e : (s + i) % L.length = i - (L.length - s) := by
        rw [Nat.mod_eq_sub_mod (by omega), Nat.mod_eq_of_lt (by omega)]; omega
      rw [e, ptAt_some (by omega)]
  · rw [List.getElem?_eq_none (by rw [rotL_len]; omega), List.getElem?_eq_none (by rw [List.length_append, List.length_drop, List.length_take]; omega)]

/-- whether a path has a corner at e -/
def cornP (P : List (Int × Int)) (e : Nat) : Bool := cornB (ptAt P (e - 1)) (ptAt P e) (ptAt P (e + 1))
theorem corn_rot {L : List (Int × Int)} {s e : Nat} (h1 : 1 ≤ e) (h2 : e < L.length) : cornP (rotL L s) e = cornL L ((s + e) % L.length) := by
  unfold cornP cornL
  rw [rotL_pt (by omega), rotL_pt (by omega), rotL_pt (by omega)]
  have e1 : ((s + e) % L.length + 1) % L.length = (s + (e + 1)) % L.length := by rw [Nat.mod_add_mod, Nat.add_assoc]
  have e2 : ((s + e) % L.length + L.length - 1) % L.length = (s + (e - 1)) % L.length := by
    rw [Nat.add_sub_assoc (by omega), Nat.mod_add_mod, show s + e + (L.length - 1) = s + (e - 1) + L.length by omega, Nat.add_mod_right]
  rw [e1, e2]
/-- the end of a way: the next corner from e on, or n -/
def endW (P : List (Int × Int)) (n e : Nat) : Nat := if e < n then if cornP P e then e else endW P n (e + 1) else e
termination_by n - e
theorem endW_ge {P : List (Int × Int)} {n e : Nat} (h : n ≤ e) : endW P n e = e := by rw [endW, if_neg (by omega)]
theorem endW_corn {P : List (Int × Int)} {n e : Nat} (h : cornP P e = true) : endW P n e = e := by
  rw [endW, h]
  simp
theorem endW_next {P : List (Int × Int)} {n e : Nat} (h : e < n) (hc : cornP P e = false) : endW P n e = endW P n (e + 1) := by
  rw [endW, if_pos h, hc]; rfl
theorem endW_bd {P : List (Int × Int)} {n : Nat} : ∀ {d e : Nat}, n - e = d → e ≤ n → e ≤ endW P n e ∧ endW P n e ≤ n := by
  intro d
  induction d with
  | zero =>
    intro e h1 h2
    rw [endW_ge (by omega)]; omega
  | succ d ih =>
    intro e h1 h2
    cases hc : cornP P e with
    | true => rw [endW_corn hc]; omega
    | false =>
      rw [endW_next (by omega) hc]
      have := ih (e := e + 1) (by omega) (by omega)
      omega

/-- a part of a path: count + 1 points from i on -/
def partP (P : List (Int × Int)) (i count : Nat) : List (Int × Int) := (P.drop i).take (count + 1)
theorem partP_len {P : List (Int × Int)} {i count : Nat} (h : i + count < P.length) : (partP P i count).length = count + 1 := by
  unfold partP; rw [List.length_take, List.length_drop]; omega
theorem partP_at {P : List (Int × Int)} {i count j : Nat} (hj : j ≤ count) : (partP P i count)[j]? = P[i + j]? := by
  unfold partP
  rw [List.getElem?_take, if_pos (by omega), List.getElem?_drop]
theorem partP_pt {P : List (Int × Int)} {i count j : Nat} (hj : j ≤ count) : ptAt (partP P i count) j = ptAt P (i + j) := by
  unfold ptAt
  rw [List.getD_eq_getElem?_getD, List.getD_eq_getElem?_getD, partP_at hj]
/-- all points of a part are near the segment between its ends -/
def strW (P : List (Int × Int)) (i count : Nat) (t : Int) : Bool := withinB (partP P i count) [ptAt P i, ptAt P (i + count)] t
/-- how far a fit goes from i on, and the control point, if it is a curve -/
def fitW (P : List (Int × Int)) (i : Nat) (t : Int) : Nat → Nat × Option (Int × Int)
  | 0 => (1, none)
  | 1 => (1, none)
  | c + 2 => if strW P i (c + 2) t then (c + 2, none) else match fitB (partP P i (c + 2)) t with
    | some p => (c + 2, some p)
    | none => fitW P i t (c + 1)
theorem fitW_small {P : List (Int × Int)} {i c : Nat} {t : Int} (h : c ≤ 1) : fitW P i t c = (1, none) := by
  rcases (show c = 0 ∨ c = 1 by omega) with rfl | rfl <;> rfl
theorem fitW_str {P : List (Int × Int)} {i c : Nat} {t : Int} (h : 2 ≤ c) (hs : strW P i c t = true) : fitW P i t c = (c, none) := by
  obtain ⟨c, rfl⟩ : ∃ d, c = d + 2 := ⟨c - 2, by omega⟩
  rw [fitW, if_pos hs]
theorem fitW_fit {P : List (Int × Int)} {i c : Nat} {t : Int} {p : Int × Int} (h : 2 ≤ c) (hs : strW P i c t = false) (hf : fitB (partP P i c) t = some p) : fitW P i t c = (c, some p) := by
  obtain ⟨c, rfl⟩ : ∃ d, c = d + 2 := ⟨c - 2, by omega⟩
  rw [fitW, if_neg (by rw [hs]; simp), hf]
theorem fitW_next {P : List (Int × Int)} {i c : Nat} {t : Int} (h : 2 ≤ c) (hs : strW P i c t = false) (hf : fitB (partP P i c) t = none) : fitW P i t c = fitW P i t (c - 1) := by
  obtain ⟨c, rfl⟩ : ∃ d, c = d + 2 := ⟨c - 2, by omega⟩
  rw [fitW, if_neg (by rw [hs]; simp), hf]; rfl
/-- what a fit is: the whole of it is straight, near a curve, or only one step -/
theorem fitW_is {P : List (Int × Int)} {i : Nat} {t : Int} : ∀ {c : Nat}, 1 ≤ c → ∃ k o, fitW P i t c = (k, o) ∧ 1 ≤ k ∧ k ≤ c ∧
    ((o = none ∧ k = 1) ∨ (o = none ∧ 2 ≤ k ∧ strW P i k t = true) ∨ (∃ p, o = some p ∧ 2 ≤ k ∧ fitB (partP P i k) t = some p)) := by
  intro c
  induction c with
  | zero => intro h; omega
  | succ c ih =>
    intro h
    rcases Nat.lt_or_ge c 1 with h1 | h1
    · exact ⟨1, none, fitW_small (by omega), by omega, by omega, .inl ⟨rfl, rfl⟩⟩
    cases hs : strW P i (c + 1) t with
    | true => exact ⟨c + 1, none, fitW_str (by omega) hs, by omega, by omega, .inr (.inl ⟨rfl, by omega, hs⟩)⟩
    | false =>
      cases hf : fitB (partP P i (c + 1)) t with
      | some p => exact ⟨c + 1, some p, fitW_fit (by omega) hs hf, by omega, by omega, .inr (.inr ⟨p, rfl, by omega, hf⟩)⟩
      | none =>
        obtain ⟨k, o, h2, h3, h4, h5⟩ := ih h1
        exact ⟨k, o, by rw [fitW_next (by omega) hs hf]; exact h2, h3, by omega, h5⟩
/-- a closed part has no curve where it is not straight -/
theorem fit_closed {L : List (Int × Int)} {t : Int} (hl : 3 ≤ L.length) (hc : ptAt L 0 = ptAt L (L.length - 1)) (hok : ∀ p ∈ L, ptOk p.1 p.2 = true) (hs : withinB L [ptAt L 0, ptAt L (L.length - 1)] t = false) : fitB L t = none := by
  unfold fitB
  rw [← hc]
  rw [← hc] at hs
  generalize ptAt L 0 = a at *
  generalize ptAt L 1 = b at *
  generalize ptAt L (L.length - 2) = d at *
  have hn : lnN a.1 a.2 a.1 a.2 d.1 d.2 = 0 := by unfold lnN turnI; grind
  have hr0 : ∀ m : Int, 0 < m → rnd 0 m = 0 := fun m h => by
    unfold rnd
    rw [Int.mul_zero, Int.zero_add]; exact Int.ediv_eq_zero_of_lt (by omega) (by omega)
  cases hln : lineR a.1 a.2 b.1 b.2 a.1 a.2 d.1 d.2 with
  | none => rfl
  | some p =>
    have hp : p = a := by
      unfold lineR at hln
      rw [hn] at hln
      split at hln
      · cases hln
      · rename_i h0
        rcases Int.lt_trichotomy (lnM a.1 a.2 b.1 b.2 a.1 a.2 d.1 d.2) 0 with h | h | h
        · simp only [if_pos h, lnPt, Int.neg_zero, Int.mul_zero, hr0 (-lnM a.1 a.2 b.1 b.2 a.1 a.2 d.1 d.2) (by omega), Int.add_zero] at hln
          split at hln
          · injection hln with hln; rw [← hln]
          · cases hln
        · exact absurd h h0
        · simp only [if_neg (show ¬ lnM a.1 a.2 b.1 b.2 a.1 a.2 d.1 d.2 < 0 by omega), lnPt, Int.mul_zero, hr0 (lnM a.1 a.2 b.1 b.2 a.1 a.2 d.1 d.2) h, Int.add_zero] at hln
          split at hln
          · injection hln with hln; rw [← hln]
          · cases hln
    subst hp
    simp only
    have hb : bendQ ⟨p.1, p.2, p.1, p.2, p.1, p.2⟩ = 0 := by
      unfold bendQ szI imax; simp only; (repeat' split) <;> omega
    rw [hb]
    have hl0 : lvl 0 = some 0 := by decide
    rw [hl0]
    have hm : ∀ (x : Int) (k : Nat), mixI x x x (k : Int) ((1 : Nat) : Int) = x := fun x k => by
      unfold mixI
      have e : numI x x x k ((1 : Nat) : Int) = 1 * x := by unfold numI; grind
      rw [e, show ((1 : Nat) : Int) * ((1 : Nat) : Int) = 1 by rfl]; exact rnd_exact (by omega)
    have hfl : flatL ⟨p.1, p.2, p.1, p.2, p.1, p.2⟩ (2 ^ 0) = [p, p] := by
      unfold flatL
      show [qAt _ 1 0, qAt _ 1 1] = _
      unfold qAt
      rw [hm, hm, hm, hm]
    simp only [hfl, hs]
    simp

/-- the knots that are fitted to a way from i on -/
def fitK (P : List (Int × Int)) (n : Nat) (t : Int) (i : Nat) : List (Int × Int × Bool) :=
  if i < n then
    ((ptAt P i).1, (ptAt P i).2, true) :: ((match (fitW P i t (endW P n (i + 1) - i)).2 with | none => [] | some p => [(p.1, p.2, false)]) ++ fitK P n t (i + 1 + ((fitW P i t (endW P n (i + 1) - i)).1 - 1)))
  else []
termination_by n - i
theorem fitK_end {P : List (Int × Int)} {n i : Nat} {t : Int} (h : n ≤ i) : fitK P n t i = [] := by rw [fitK, if_neg (by omega)]
theorem fitK_none {P : List (Int × Int)} {n i k : Nat} {t : Int} (h : i < n) (hf : fitW P i t (endW P n (i + 1) - i) = (k, none)) (hk : 1 ≤ k) : fitK P n t i = ((ptAt P i).1, (ptAt P i).2, true) :: fitK P n t (i + k) := by
  rw [fitK, if_pos h, hf]
  simp only [List.nil_append]
  rw [show i + 1 + (k - 1) = i + k by omega]
theorem fitK_some {P : List (Int × Int)} {n i k : Nat} {t : Int} {p : Int × Int} (h : i < n) (hf : fitW P i t (endW P n (i + 1) - i) = (k, some p)) (hk : 1 ≤ k) : fitK P n t i = ((ptAt P i).1, (ptAt P i).2, true) :: (p.1, p.2, false) :: fitK P n t (i + k) := by
  rw [fitK, if_pos h, hf]
  simp only [List.singleton_append]
  rw [show i + 1 + (k - 1) = i + k by omega]
/-- the loop that is fitted to a ring -/
def ringK (L : List (Int × Int)) (t : Int) : List (Int × Int × Bool) := fitK (rotL L (firstC L)) L.length t 0
def frR (L : List (Int × Int)) (t : Int) : List (Int × Int × Bool) × Int :=
  if pathOk L = false then ([], 1) else if inB t 1 262144 = false then ([], 2) else if 60 < (ringK L t).length then ([], 5) else (ringK L t, 0)
end Go.Proofs.YtgelkdcggnffeaaGreat

