/- Contracts of the functions that round by a state, and the walks of the laws on them. Conditions: as each states. -/
import Derived.Test.YtpmpbfkpiocleaaQv06
import Derived.Test.YtpmpbfkpiocleaaQv11
namespace Go.Proofs.Ytpmpbfkpiocleaa
open Go.RowKit
set_option linter.unusedVariables false
set_option maxRecDepth 100000

def rto (v st : Int) : Int :=
  if st = 1 then (v + 32) / 64 * 64 else if st = 2 then v / 64 * 64 + 32 else if st = 3 then (v + 16) / 32 * 32 else if st = 4 then v / 64 * 64 else if st = 5 then (v + 63) / 64 * 64 else v
/-! ### at least some number away from 0 -/
def imax (a b : Int) : Int := if b < a then a else b
theorem imax_l {a b : Int} (h : b < a) : imax a b = a := if_pos h
theorem imax_r {a b : Int} (h : a ≤ b) : imax a b = b := if_neg (by omega)

theorem l00Max_any (a b : Int) (w : World) :
    Calls Try.prog 64 #[.int .i64 a, .int .i64 b] w fun e w' => e = .returned (.int .i64 (imax a b)) ∧ w = w' := by
  go_enter Try.func64, Try.ntmps64
  go_wp2
  · go_ret
    exact ⟨ret_int (imax_l (by assumption)).symm, rfl⟩
  · go_ret
    exact ⟨ret_int (imax_r (by assumption)).symm, rfl⟩

def keep (v st least : Int) : Int := if v < 0 then -imax (rto (-v) st) least else imax (rto v st) least

end Go.Proofs.Ytpmpbfkpiocleaa

/- The fitting of a curve to a path: the numbers alone. Conditions: as each states. -/
namespace Go.Proofs.Ytpmpbfkpiocleaa
open Go.RowKit
set_option linter.unusedVariables false
set_option maxRecDepth 100000

theorem rnd_mid {x d M : Int} (hd : 0 < d) (h1 : -(M * d) ≤ x) (h2 : x ≤ M * d) : -M ≤ rnd x d ∧ rnd x d ≤ M := by
  unfold rnd
  have e1 : M * (2 * d) = 2 * (M * d) := by rw [Int.mul_left_comm]
  constructor
  · rw [Int.le_ediv_iff_mul_le (by omega), Int.neg_mul, e1]; omega
  · have : (2 * x + d) / (2 * d) < M + 1 := Int.ediv_lt_of_lt_mul (by omega) (by rw [Int.add_mul, e1]; omega)
    omega

/-- a coordinate of a curve at a parameter -/
def numI (a b c k n : Int) : Int := (n - k) * (n - k) * a + 2 * (n - k) * k * b + k * k * c
def mixI (a b c k n : Int) : Int := rnd (numI a b c k n) (n * n)
theorem num_bd {a b c k n M : Int} (ha : -M ≤ a ∧ a ≤ M) (hb : -M ≤ b ∧ b ≤ M) (hc : -M ≤ c ∧ c ≤ M) (h0 : 0 ≤ k) (hn : k ≤ n) : -(M * (n * n)) ≤ numI a b c k n ∧ numI a b c k n ≤ M * (n * n) := by
  unfold numI
  obtain ⟨u, rfl⟩ : ∃ u, n = k + u := ⟨n - k, by omega⟩
  have e : k + u - k = u := by omega
  rw [e]
  have hu : 0 ≤ u := by omega
  have h1 : 0 ≤ u * u := Int.mul_nonneg hu hu
  have h2 : 0 ≤ 2 * u * k := Int.mul_nonneg (by omega) h0
  have h3 : 0 ≤ k * k := Int.mul_nonneg h0 h0
  have a1 := Int.mul_le_mul_of_nonneg_left ha.1 h1
  have a2 := Int.mul_le_mul_of_nonneg_left ha.2 h1
  have b1 := Int.mul_le_mul_of_nonneg_left hb.1 h2
  have b2 := Int.mul_le_mul_of_nonneg_left hb.2 h2
  have c1 := Int.mul_le_mul_of_nonneg_left hc.1 h3
  have c2 := Int.mul_le_mul_of_nonneg_left hc.2 h3
  have e2 : M * ((k + u) * (k + u)) = u * u * M + 2 * u * k * M + k * k * M := by grind
  rw [Int.mul_neg] at a1 b1 c1
  rw [e2]
  omega
theorem mix_bd {a b c k n M : Int} (ha : -M ≤ a ∧ a ≤ M) (hb : -M ≤ b ∧ b ≤ M) (hc : -M ≤ c ∧ c ≤ M) (h0 : 0 ≤ k) (hn : k ≤ n) (h1 : 0 < n) : -M ≤ mixI a b c k n ∧ mixI a b c k n ≤ M := by
  obtain ⟨x1, x2⟩ := num_bd ha hb hc h0 hn
  exact rnd_mid (Int.mul_pos h1 h1) x1 x2

/-- a curve: its three points -/
structure Qd where
  ax : Int
  ay : Int
  bx : Int
  b : Int
  cx : Int
  cy : Int
def Qd.ok (q : Qd) : Prop := ptOk q.ax q.ay = true ∧ ptOk q.bx q.b = true ∧ ptOk q.cx q.cy = true
def qAt (q : Qd) (n k : Nat) : Int × Int := (mixI q.ax q.bx q.cx k n, mixI q.ay q.b q.cy k n)
def flatL (q : Qd) (n : Nat) : List (Int × Int) := (List.range (n + 1)).map (qAt q n)
theorem flatL_len (q : Qd) (n : Nat) : (flatL q n).length = n + 1 := by simp [flatL]
theorem qAt_ok {q : Qd} (h : q.ok) {n k : Nat} (hk : k ≤ n) (hn : 0 < n) : ptOk (qAt q n k).1 (qAt q n k).2 = true := by
  obtain ⟨h1, h2, h3⟩ := h
  obtain ⟨a1, a2⟩ := ptOk_iff.1 h1
  obtain ⟨b1, b2⟩ := ptOk_iff.1 h2
  obtain ⟨c1, c2⟩ := ptOk_iff.1 h3
  refine ptOk_iff.2 ⟨?_, ?_⟩
  · exact mix_bd a1 b1 c1 (by omega) (by omega) (by omega)
  · exact mix_bd a2 b2 c2 (by omega) (by omega) (by omega)
theorem flatL_take (q : Qd) (n k : Nat) (hk : k ≤ n) : (flatL q n).take (k + 1) = (flatL q n).take k ++ [qAt q n k] := by
  rw [List.take_succ_eq_append_getElem (by rw [flatL_len]; omega)]
  congr 2
  simp [flatL]

/-- how much a curve bends -/

def szI (x y : Int) : Int := imax x (-x) + imax y (-y)
def bendQ (q : Qd) : Int := szI (q.ax - 2 * q.bx + q.cx) (q.ay - 2 * q.b + q.cy)
def lvlOk (b : Int) (l : Nat) : Bool := decide (b ≤ 4 * 4 ^ l)
def lvl (b : Int) : Option Nat := (List.range 7).find? (lvlOk b)
theorem lvl_some {b : Int} {k : Nat} (hk : k < 7) (h0 : ∀ j, j < k → lvlOk b j = false) (h1 : lvlOk b k = true) : lvl b = some k := by
  unfold lvl
  rw [List.find?_eq_some_iff_append]
  refine ⟨h1, List.range k, (List.range' (k + 1) (6 - k)), ?_, fun a ha => by simp [h0 a (List.mem_range.1 ha)]⟩
  rcases (show k = 0 ∨ k = 1 ∨ k = 2 ∨ k = 3 ∨ k = 4 ∨ k = 5 ∨ k = 6 by omega) with rfl | rfl | rfl | rfl | rfl | rfl | rfl <;> rfl
theorem lvl_none {b : Int} (h0 : ∀ j, j < 7 → lvlOk b j = false) : lvl b = none := by
  unfold lvl
  rw [List.find?_eq_none]
  intro x hx
  simp [h0 x (List.mem_range.1 hx)]
theorem lvl_lt {b : Int} {l : Nat} (h : lvl b = some l) : l < 7 := by
  unfold lvl at h
  exact List.mem_range.1 (List.mem_of_find?_eq_some h)

def ptAt (L : List (Int × Int)) (k : Nat) : Int × Int := L.getD k (0, 0)
end Go.Proofs.Ytpmpbfkpiocleaa

