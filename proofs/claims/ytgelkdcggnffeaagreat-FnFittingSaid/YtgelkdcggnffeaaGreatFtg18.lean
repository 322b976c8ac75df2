/- Contracts of the functions that round by a state, and the walks of the laws on them. Conditions: as each states. -/
import Derived.Test.YtgelkdcggnffeaaGreatFtg13
import Derived.Test.YtgelkdcggnffeaaGreatFtg17
namespace Go.Proofs.YtgelkdcggnffeaaGreat
open Go.RowKit
set_option linter.unusedVariables false
set_option maxRecDepth 100000

def rto (v st : Int) : Int :=
  if st = 1 then (v + 32) / 64 * 64 else if st = 2 then v / 64 * 64 + 32 else if st = 3 then (v + 16) / 32 * 32 else if st = 4 then v / 64 * 64 else if st = 5 then (v + 63) / 64 * 64 else v
/-! ### at least some number away from 0 -/
def imax (a b : Int) : Int := if b < a then a else b
theorem imax_l {a b : Int} (h : b < a) : imax a b = a := if_pos h
theorem imax_r {a b : Int} (h : a ≤ b) : imax a b = b := if_neg (by omega)

theorem l00Max_any (a b : Int) (w : World) :
    Calls Tryz.prog 81 #[.int .i64 a, .int .i64 b] w fun e w' => e = .returned (.int .i64 (imax a b)) ∧ w = w' := by
  go_enter Tryz.func81, Tryz.ntmps81
  go_wp2
  · go_ret
    exact ⟨ret_int (imax_l (by assumption)).symm, rfl⟩
  · go_ret
    exact ⟨ret_int (imax_r (by assumption)).symm, rfl⟩

def keep (v st least : Int) : Int := if v < 0 then -imax (rto (-v) st) least else imax (rto v st) least

end Go.Proofs.YtgelkdcggnffeaaGreat

/- The fitting of a curve to a path: the numbers alone. Conditions: as each states. -/
namespace Go.Proofs.YtgelkdcggnffeaaGreat
open Go.RowKit
set_option linter.unusedVariables false
set_option maxRecDepth 100000

theorem rnd_shift {x a m : Int} (hm : 0 < m) : rnd (a * m + x) m = a + rnd x m := by
  unfold rnd
  have e : 2 * (a * m + x) + m = (2 * x + m) + a * (2 * m) := by rw [Int.mul_add, Int.mul_left_comm a 2 m]; omega
  rw [e, Int.add_mul_ediv_right _ _ (by omega)]; omega
theorem rnd_mid {x d M : Int} (hd : 0 < d) (h1 : -(M * d) ≤ x) (h2 : x ≤ M * d) : -M ≤ rnd x d ∧ rnd x d ≤ M := by
  unfold rnd
  have e1 : M * (2 * d) = 2 * (M * d) := by rw [Int.mul_left_comm]
  constructor
  · rw [Int.le_ediv_iff_mul_le (by omega), Int.neg_mul, e1]; omega
  · have : (2 * x + d) / (2 * d) < M + 1 := Int.ediv_lt_of_lt_mul (by omega) (by rw [Int.add_mul, e1]; omega)
    omega

/-- a coordinate of a curve at a parameter -/
def numI (a b c k n : Int) : Int := (n - k) * (n - k) * a + 2 * (n - k) * k * b + k * k * c
def mixI (a b c k n : Int) : Int := rnd (numI a b c k n) (n * n)
theorem num_bd {a b c k n M : Int} (ha : -M ≤ a ∧ a ≤ M) (hb : -M ≤ b ∧ b ≤ M) (hc : -M ≤ c ∧ c ≤ M) (h0 : 0 ≤ k) (hn : k ≤ n) : -(M * (n * n)) ≤ numI a b c k n ∧ numI a b c k n ≤ M * (n * n) := by
  unfold numI
  obtain ⟨u, rfl⟩ : ∃ u, n = k + u := ⟨n - k, by omega⟩
  have e : k + u - k = u := by omega
  rw [e]
  have hu : 0 ≤ u := by omega
  have h1 : 0 ≤ u * u := Int.mul_nonneg hu hu
  have h2 : 0 ≤ 2 * u * k := Int.mul_nonneg (by omega) h0
  have h3 : 0 ≤ k * k := Int.mul_nonneg h0 h0
  have a1 := Int.mul_le_mul_of_nonneg_left ha.1 h1
  have a2 := Int.mul_le_mul_of_nonneg_left ha.2 h1
  have b1 := Int.mul_le_mul_of_nonneg_left hb.1 h2
  have b2 := Int.mul_le_mul_of_nonneg_left hb.2 h2
  have c1 := Int.mul_le_mul_of_nonneg_left hc.1 h3
  have c2 := Int.mul_le_mul_of_nonneg_left hc.2 h3
  have e2 : M * ((k + u) * (k + u)) = u * u * M + 2 * u * k * M + k * k * M := by grind
  rw [Int.mul_neg] at a1 b1 c1
  rw [e2]
  omega
theorem mix_bd {a b c k n M : Int} (ha : -M ≤ a ∧ a ≤ M) (hb : -M ≤ b ∧ b ≤ M) (hc : -M ≤ c ∧ c ≤ M) (h0 : 0 ≤ k) (hn : k ≤ n) (h1 : 0 < n) : -M ≤ mixI a b c k n ∧ mixI a b c k n ≤ M := by
  obtain ⟨x1, x2⟩ := num_bd ha hb hc h0 hn
  exact rnd_mid (Int.mul_pos h1 h1) x1 x2

/-- a curve: its three points -/
structure Qd where
  ax : Int
  ay : Int
  bx : Int
  b : Int
  cx : Int
  cy : Int
def Qd.ok (q : Qd) : Prop := ptOk q.ax q.ay = true ∧ ptOk q.bx q.b = true ∧ ptOk q.cx q.cy = true
def qAt (q : Qd) (n k : Nat) : Int × Int := (mixI q.ax q.bx q.cx k n, mixI q.ay q.b q.cy k n)
def flatL (q : Qd) (n : Nat) : List (Int × Int) := (List.range (n + 1)).map (qAt q n)
theorem flatL_len (q : Qd) (n : Nat) : (flatL q n).length = n + 1 := by simp [flatL]
theorem qAt_ok {q : Qd} (h : q.ok) {n k : Nat} (hk : k ≤ n) (hn : 0 < n) : ptOk (qAt q n k).1 (qAt q n k).2 = true := by
  obtain ⟨h1, h2, h3⟩ := h
  obtain ⟨a1, a2⟩ := ptOk_iff.1 h1
  obtain ⟨b1, b2⟩ := ptOk_iff.1 h2
  obtain ⟨c1, c2⟩ := ptOk_iff.1 h3
  refine ptOk_iff.2 ⟨?_, ?_⟩
  · exact mix_bd a1 b1 c1 (by omega) (by omega) (by omega)
  · exact mix_bd a2 b2 c2 (by omega) (by omega) (by omega)
theorem flatL_ok {q : Qd} (h : q.ok) {n : Nat} (hn : 0 < n) : ∀ p ∈ flatL q n, ptOk p.1 p.2 = true := by
  intro p hp
  obtain ⟨k, hk, rfl⟩ := List.mem_map.1 hp
  exact qAt_ok h (by have := List.mem_range.1 hk; omega) hn
theorem flatL_take (q : Qd) (n k : Nat) (hk : k ≤ n) : (flatL q n).take (k + 1) = (flatL q n).take k ++ [qAt q n k] := by
  rw [List.take_succ_eq_append_getElem (by rw [flatL_len]; omega)]
  congr 2
  simp [flatL]

/-- how much a curve bends -/

def szI (x y : Int) : Int := imax x (-x) + imax y (-y)
def bendQ (q : Qd) : Int := szI (q.ax - 2 * q.bx + q.cx) (q.ay - 2 * q.b + q.cy)
def lvlOk (b : Int) (l : Nat) : Bool := decide (b ≤ 4 * 4 ^ l)
def lvl (b : Int) : Option Nat := (List.range 7).find? (lvlOk b)
theorem lvl_some {b : Int} {k : Nat} (hk : k < 7) (h0 : ∀ j, j < k → lvlOk b j = false) (h1 : lvlOk b k = true) : lvl b = some k := by
  unfold lvl
  rw [List.find?_eq_some_iff_append]
  refine ⟨h1, List.range k, (List.range' (k + 1) (6 - k)), ?_, fun a ha => by simp [h0 a (List.mem_range.1 ha)]⟩
  rcases (show k = 0 ∨ k = 1 ∨ k = 2 ∨ k = 3 ∨ k = 4 ∨ k = 5 ∨ k = 6 by omega) with rfl | rfl | rfl | rfl | rfl | rfl | rfl <;> rfl
theorem lvl_none {b : Int} (h0 : ∀ j, j < 7 → lvlOk b j = false) : lvl b = none := by
  unfold lvl
  rw [List.find?_eq_none]
  intro x hx
  simp [h0 x (List.mem_range.1 hx)]
theorem lvl_lt {b : Int} {l : Nat} (h : lvl b = some l) : l < 7 := by
  unfold lvl at h
  exact List.mem_range.1 (List.mem_of_find?_eq_some h)

/-- the common point of two lines -/
def lnN (ax ay cx cy dx dy : Int) : Int := turnI cx cy dx dy ax ay
def lnM (ax ay bx b cx cy dx dy : Int) : Int := turnI cx cy dx dy ax ay - turnI cx cy dx dy bx b
def lnPt (ax ay bx b n m : Int) : Int × Int := (ax + rnd ((bx - ax) * n) m, ay + rnd ((b - ay) * n) m)
def lineR (ax ay bx b cx cy dx dy : Int) : Option (Int × Int) :=
  if lnM ax ay bx b cx cy dx dy = 0 then none
  else
    let p := if lnM ax ay bx b cx cy dx dy < 0 then lnPt ax ay bx b (-lnN ax ay cx cy dx dy) (-lnM ax ay bx b cx cy dx dy) else lnPt ax ay bx b (lnN ax ay cx cy dx dy) (lnM ax ay bx b cx cy dx dy)
    if ptOk p.1 p.2 = true then some p else none
theorem den_eq (ax ay bx b cx cy dx dy : Int) : (bx - ax) * (dy - cy) - (b - ay) * (dx - cx) = lnM ax ay bx b cx cy dx dy := by
  unfold lnM turnI; grind
theorem num_eq (ax ay cx cy dx dy : Int) : (cx - ax) * (dy - cy) - (cy - ay) * (dx - cx) = lnN ax ay cx cy dx dy := by
  unfold lnN turnI; grind

def ptAt (L : List (Int × Int)) (k : Nat) : Int × Int := L.getD k (0, 0)
/-- the control point of a curve near a path -/
def fitB (L : List (Int × Int)) (t : Int) : Option (Int × Int) :=
  match lineR (ptAt L 0).1 (ptAt L 0).2 (ptAt L 1).1 (ptAt L 1).2 (ptAt L (L.length - 1)).1 (ptAt L (L.length - 1)).2 (ptAt L (L.length - 2)).1 (ptAt L (L.length - 2)).2 with
  | none => none
  | some p =>
    let q : Qd := ⟨(ptAt L 0).1, (ptAt L 0).2, p.1, p.2, (ptAt L (L.length - 1)).1, (ptAt L (L.length - 1)).2⟩
    match lvl (bendQ q) with
    | none => none
    | some l => if withinB L (flatL q (2 ^ l)) t = true ∧ withinB (flatL q (2 ^ l)) L t = true then some p else none
theorem line_ok {ax ay bx b cx cy dx dy : Int} {p : Int × Int} (h : lineR ax ay bx b cx cy dx dy = some p) : ptOk p.1 p.2 = true := by
  unfold lineR at h
  split at h
  · cases h
  · simp only at h
    split at h <;> rename_i hp <;> split at h
    all_goals first | (cases h; done) | (injection h with h; subst h; assumption)
end Go.Proofs.YtgelkdcggnffeaaGreat

