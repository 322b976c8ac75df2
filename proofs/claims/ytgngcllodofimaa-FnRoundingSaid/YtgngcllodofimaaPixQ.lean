/- Reading the text of a number of parts: plain facts. No program in sight. Conditions: none. -/
import Derived.Test.YtgngcllodofimaaPixP
import Derived.Test.YtgngcllodofimaaSplit
import Derived.Test.YtgngcllodofimaaReadD
namespace Go.Proofs.Ytgngcllodofimaa
open Go.RowKit
set_option linter.unusedVariables false
set_option maxRecDepth 100000

theorem snoc_ind {α : Type} {P : List α → Prop} (h0 : P []) (h1 : ∀ l a, P l → P (l ++ [a])) : ∀ l, P l := by
  have h : ∀ r : List α, P r.reverse := by
    intro r
    induction r with
    | nil => exact h0
    | cons a r ih => rw [List.reverse_cons]; exact h1 _ _ ih
  intro l
  have := h l.reverse
  rwa [List.reverse_reverse] at this
/-- the value of bytes as if they were digits -/
def rv (l : List UInt8) : Int := l.foldl (fun n c => 10 * n + (c.toNat : Int) - 48) 0
theorem rv_snoc (l : List UInt8) (c : UInt8) : rv (l ++ [c]) = 10 * rv l + (c.toNat : Int) - 48 := by simp [rv, List.foldl_append]
theorem rv_bd : ∀ l : List UInt8, -(23 * 10 ^ l.length - 23) ≤ rv l ∧ rv l ≤ 23 * 10 ^ l.length - 23 := by
  apply snoc_ind
  · simp [rv]
  · intro l c ih
    rw [rv_snoc, List.length_append, List.length_singleton, Int.pow_succ]
    have := c.toNat_lt
    have h1 : (0 : Int) < 10 ^ l.length := Int.pow_pos (by omega)
    generalize (10 : Int) ^ l.length = p at *
    omega
theorem rv_val : ∀ l : List UInt8, l.all isDig = true → rv l = (val l : Nat) := by
  apply snoc_ind
  · intro _; rfl
  · intro l c ih h
    rw [List.all_append, Bool.and_eq_true] at h
    rw [rv_snoc, val_snoc, ih h.1]
    have : isDig c = true := by simpa using h.2
    simp [isDig] at this
    omega

theorem rv_take_bd (a : List UInt8) (k : Nat) (hk : k ≤ 12) : -23000000000000 ≤ rv (a.take k) ∧ rv (a.take k) ≤ 23000000000000 := by
  have h := rv_bd (a.take k)
  have h1 : (a.take k).length ≤ 12 := Nat.le_trans (List.length_take_le _ _) hk
  have h2 : (10 : Nat) ^ (a.take k).length ≤ 10 ^ 12 := Nat.pow_le_pow_right (by omega) h1
  have h3 : (10 : Int) ^ (a.take k).length = (((10 : Nat) ^ (a.take k).length : Nat) : Int) := by simp
  rw [h3] at h
  omega
theorem blen (s : ByteArray) : s.data.toList.length = s.size := by simp
theorem rv_step {a : List UInt8} {k : Nat} {x : UInt8} (h : a[k]? = some x) : rv (a.take (k + 1)) = 10 * rv (a.take k) + (x.toNat : Int) - 48 := by
  have hl := (List.getElem?_eq_some_iff.1 h).1
  rw [List.take_succ_eq_append_getElem hl, rv_snoc]
  rw [List.getElem?_eq_getElem hl] at h
  injection h with h
  rw [h]
theorem Body.pix {s r : ByteArray} {neg : Bool} (h : Body s r neg) {v : Int} (hv : IsPix s v) :
    r.data.toList = dec1 (v.natAbs / 64) ++ 58 :: [UInt8.ofNat (48 + v.natAbs % 64 / 10), UInt8.ofNat (48 + v.natAbs % 64 % 10)] ∧ v = if neg then -((v.natAbs : Nat) : Int) else ((v.natAbs : Nat) : Int) := by
  have hs := hv.list
  rw [pixL_form] at hs
  have hd : ∀ l l', dec1 (v.natAbs / 64) ++ l ≠ 45 :: l' := by
    intro l l' e
    have := dec1_head (v.natAbs / 64)
    cases hd : dec1 (v.natAbs / 64) with
    | nil => exact dec1_ne _ hd
    | cons c t => rw [hd] at e this; simp at e this; exact this e.1
  rcases h with ⟨rfl, h⟩ | ⟨rfl, rfl, h⟩
  · rcases Int.lt_or_le v 0 with h0 | h0
    · rw [if_pos h0, h] at hs
      injection hs with _ hs
      exact ⟨hs, by simp; omega⟩
    · rw [if_neg (by omega), h] at hs
      exact absurd hs.symm (hd _ _)
  · rcases Int.lt_or_le v 0 with h0 | h0
    · rw [if_pos h0] at hs
      exact absurd hs (h _)
    · rw [if_neg (by omega)] at hs
      exact ⟨hs, by simp; omega⟩

theorem two58 (d : Nat) (h : d < 64) : ∀ c ∈ [UInt8.ofNat (48 + d / 10), UInt8.ofNat (48 + d % 10)], c ≠ 58 := by
  intro c hc
  have h1 := digit_nat (d / 10) (by omega)
  have h2 := digit_nat (d % 10) (by omega)
  simp only [List.mem_cons, List.not_mem_nil, or_false] at hc
  rcases hc with rfl | rfl
  · intro e; rw [e] at h1; have : (58 : UInt8).toNat = 58 := rfl; omega
  · intro e; rw [e] at h2; have : (58 : UInt8).toNat = 58 := rfl; omega

theorem dec1_len12 {n : Nat} (h : n < 10 ^ 12) : (dec1 n).length ≤ 12 := by
  unfold dec1
  split
  · simp
  · exact digs_len 12 n h

/-- what a text with v's form is cut to, at a colon -/
theorem pix_parts {r : List UInt8} {v : Nat} (h : r = dec1 (v / 64) ++ 58 :: [UInt8.ofNat (48 + v % 64 / 10), UInt8.ofNat (48 + v % 64 % 10)]) :
    splitF 58 r = [dec1 (v / 64), [UInt8.ofNat (48 + v % 64 / 10), UInt8.ofNat (48 + v % 64 % 10)]] := by
  rw [h, splitF_hit _ _ _ (dec1_58 _), splitF_last _ _ (two58 _ (by omega))]
/-- the number that two parts stand for -/
def pixOf (a b : List UInt8) (neg : Bool) : Int := if neg then -(64 * rv a + 10 * ((b.getD 0 0).toNat - 48) + (b.getD 1 0).toNat - 48) else 64 * rv a + 10 * ((b.getD 0 0).toNat - 48) + (b.getD 1 0).toNat - 48
theorem pix_val {s r : ByteArray} {neg : Bool} (h : Body s r neg) {a b : List UInt8} (hr : splitF 58 r.data.toList = [a, b]) {v : Int} (hv : IsPix s v) : v = pixOf a b neg ∧ a = dec1 (v.natAbs / 64) ∧ b.length = 2 ∧ a.length ≤ 12 ∧ b.all isDig = true := by
  obtain ⟨h1, h2⟩ := h.pix hv
  have h3 := pix_parts h1
  rw [hr] at h3
  simp only [List.cons.injEq, and_true] at h3
  obtain ⟨rfl, rfl⟩ := h3
  have e1 := digit_nat (v.natAbs % 64 / 10) (by omega)
  have e2 := digit_nat (v.natAbs % 64 % 10) (by omega)
  have hb := hv.2
  refine ⟨?_, rfl, rfl, dec1_len12 (by omega), ?_⟩
  · unfold pixOf
    rw [rv_val _ (dec1_digits _), dec1_val]
    simp only [List.getD_cons_zero, List.getD_cons_succ]
    rw [e1, e2]
    rw [h2]
    cases neg <;> simp <;> omega
  · simp only [List.all_cons, List.all_nil, Bool.and_true, isDig, e1, e2]
    simp; omega
theorem pix_none {s r : ByteArray} {neg : Bool} (h : Body s r neg) {ps : List (List UInt8)} (hp : ps = splitF 58 r.data.toList) (hn : ps.length ≠ 2) : ∀ v, ¬ IsPix s v := by
  intro v hv
  have h1 := pix_parts (h.pix hv).1
  rw [hp, h1] at hn
  exact hn (by simp only [List.length_cons, List.length_nil])
theorem pix_cut {s r : ByteArray} {neg : Bool} (h : Body s r neg) {a b : List UInt8} (hr : r.data.toList = a ++ 58 :: b) (ha : ∀ c ∈ a, c ≠ 58) {v : Int} (hv : IsPix s v) : v = pixOf a b neg ∧ a = dec1 (v.natAbs / 64) ∧ b.length = 2 ∧ b.all isDig = true := by
  have h1 := (h.pix hv).1
  have h2 := pix_parts h1
  rw [hr] at h1
  obtain ⟨rfl, rfl⟩ := cut_unique h1 ha (dec1_58 _)
  have h3 : splitF 58 r.data.toList = [dec1 (v.natAbs / 64), [UInt8.ofNat (48 + v.natAbs % 64 / 10), UInt8.ofNat (48 + v.natAbs % 64 % 10)]] := h2
  obtain ⟨e1, e2, e3, e4, e5⟩ := pix_val h h3 hv
  exact ⟨e1, e2, e3, e5⟩
theorem Body.size {s r : ByteArray} {neg : Bool} (h : Body s r neg) : r.size ≤ s.size := by
  rcases h with ⟨_, h⟩ | ⟨_, rfl, _⟩
  · have := congrArg List.length h
    rw [List.length_cons, blen, blen] at this
    omega
  · exact Nat.le_refl _
theorem isPix_ne {v : Int} : ¬ IsPix ⟨#[]⟩ v := by
  intro h
  have := h.list
  rw [pixL_form] at this
  simp at this
def RPPost (s : ByteArray) (w : World) (e : Ending) (w' : World) : Prop :=
  (∃ v, IsPix s v ∧ e = .returned (.tuple #[.int .i64 v, .bool true]) ∧ Below w.heap.size w w') ∨ ((∀ v, ¬ IsPix s v) ∧ e = .returned (.tuple #[.int .i64 0, .bool false]) ∧ Below w.heap.size w w')
end Go.Proofs.Ytgngcllodofimaa
