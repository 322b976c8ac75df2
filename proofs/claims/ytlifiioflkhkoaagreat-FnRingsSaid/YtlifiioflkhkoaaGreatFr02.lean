/- Data in memory, read by types' shapes: slices of whatever element, opened out of an argument, kept under a frame. No program in sight. Conditions: none. -/
import Derived.Deep.Slices
import Derived.Deep.Fields
import Derived.ChangeSame
import Derived.ProofKit
import Derived.Lib.SmallJoins
import Derived.RegionTactic
import Derived.ChangeAlike
import Derived.Outline
import Derived.Deep.RegionWith
import Derived.StillTailTactics
import Derived.WalkSmall
import Derived.OneCell
import Derived.BigQuiet
import Derived.Deep.QuietTactic
import Derived.Test.YtlifiioflkhkoaaGreatFr01
import Derived.Test.YtlifiioflkhkoaaGreatProg
namespace Go.Proofs.YtlifiioflkhkoaaGreat
open Go.RowKit Go.ChangeShapes Go.WideShapes Go.Deep
set_option linter.unusedVariables false
set_option maxRecDepth 100000

/-- the blocks from lo to hi are as they were -/
def SameB (lo hi : Nat) (w w' : World) : Prop := ∀ k, lo ≤ k → k < hi → w'.heap[k]? = w.heap[k]?
theorem SameB.refl (lo hi : Nat) (w : World) : SameB lo hi w w := fun _ _ _ => rfl
theorem SameB.trans {lo hi : Nat} {a b c : World} (h : SameB lo hi a b) (k : SameB lo hi b c) : SameB lo hi a c := fun i h1 h2 => (k i h1 h2).trans (h i h1 h2)
theorem SameB.mono {lo hi lo' hi' : Nat} {w w' : World} (h : SameB lo hi w w') (h1 : lo ≤ lo') (h2 : hi' ≤ hi) : SameB lo' hi' w w' := fun k k1 k2 => h k (by omega) (by omega)
theorem SameB.cell {lo hi : Nat} {w w' : World} (h : SameB lo hi w w') {p : Addr} (h1 : lo ≤ p.block) (h2 : p.block < hi) : w'.cell? p = w.cell? p := World.cell?_of_block (w := w) (h p.block h1 h2)
theorem Below.sameB {B lo hi : Nat} {w w' : World} (h : Below B w w') (hB : hi ≤ B) : SameB lo hi w w' := fun k _ k2 => h.block k (by omega)
theorem grown_sameB {w w' : World} {g lo hi : Nat} (h : w.grownBy w' (some g)) (hi' : hi ≤ w.heap.size) (hg : g < lo ∨ hi ≤ g) : SameB lo hi w w' := fun k k1 k2 => h.block k (by omega) (by intro e; injection e with e; omega)

theorem SameB.setCell {lo hi : Nat} {a w : World} (h : SameB lo hi a w) {p : Addr} (hp : p.block < lo ∨ hi ≤ p.block) (u : Value) : SameB lo hi a (w.setCell p u) :=
  h.trans fun k k1 k2 => Below.heap_setCell w p u k (by omega)
theorem SameB.alloc {lo hi : Nat} {a w : World} (h : SameB lo hi a w) (hw : hi ≤ w.heap.size) (o : Obj) : SameB lo hi a (w.alloc o) :=
  h.trans fun k k1 k2 => Below.heap_alloc w o k (by omega)
theorem SameB.drewN {lo hi : Nat} {a w : World} (h : SameB lo hi a w) (n : Nat) : SameB lo hi a (w.drewN n) := h
theorem SameB.drew {lo hi : Nat} {a w : World} (h : SameB lo hi a w) : SameB lo hi a w.drew := h
theorem heap_new0 (w : World) (a b c : Obj) : (((w.alloc a).alloc b).alloc c).heap[w.heap.size]? = some a ∧ (((w.alloc a).alloc b).alloc c).heap[w.heap.size + 1]? = some b ∧ (((w.alloc a).alloc b).alloc c).heap[w.heap.size + 2]? = some c := by
  have h1 := heap_alloc_new w a
  have h2 := heap_alloc_new (w.alloc a) b
  have h3 := heap_alloc_new ((w.alloc a).alloc b) c
  have s1 : (w.alloc a).heap.size = w.heap.size + 1 := by simp
  have s2 : ((w.alloc a).alloc b).heap.size = w.heap.size + 2 := by simp
  rw [s1] at h2
  rw [s2] at h3
  exact ⟨(Below.heap_alloc _ c _ (by omega)).trans ((Below.heap_alloc _ b _ (by omega)).trans h1), (Below.heap_alloc _ c _ (by omega)).trans h2, h3⟩
/-- a slice's head -/
structure Hd where
  A : Option Addr
  n : Nat
  c : Nat

/-- how a datum lies in cells: the blocks that it reaches lie from lo to hi -/
abbrev Rel (α : Type) := World → Nat → Nat → α → List Value → Prop
structure Good {α : Type} (R : Rel α) : Prop where
  frame : ∀ {w w' lo hi a cs}, R w lo hi a cs → SameB lo hi w w' → R w' lo hi a cs
  wide : ∀ {w lo hi lo' hi' a cs}, R w lo hi a cs → lo' ≤ lo → hi ≤ hi' → R w lo' hi' a cs

/-- cells that are known from the datum alone -/
def FlatR {α : Type} (f : α → List Value) : Rel α := fun _ _ _ a cs => cs = f a
theorem good_flat {α : Type} (f : α → List Value) : Good (FlatR f) := ⟨fun h _ => h, fun h _ _ => h⟩

/-- the elements of a slice, k cells each -/
def RdS {α : Type} (k : Nat) (R : Rel α) (w : World) (lo hi : Nat) (A : Option Addr) (n : Nat) (L : List α) : Prop := L.length = n ∧
  (0 < n → ∃ b off, A = some ⟨b, off, none⟩ ∧ lo ≤ b ∧ b < hi ∧ ∀ j a, L[j]? = some a → ∃ es : List Value, es.length = k ∧ (∀ i u, es[i]? = some u → w.cell? ⟨b, off + j * k + i, none⟩ = some u) ∧ R w lo hi a es)
theorem RdS.nil {α : Type} (k : Nat) (R : Rel α) (w : World) (lo hi : Nat) (A : Option Addr) : RdS k R w lo hi A 0 [] := ⟨rfl, fun h => absurd h (by omega)⟩
theorem RdS.frame {α : Type} {k : Nat} {R : Rel α} (g : Good R) {w w' : World} {lo hi : Nat} {A : Option Addr} {n : Nat} {L : List α} (h : RdS k R w lo hi A n L) (hs : SameB lo hi w w') : RdS k R w' lo hi A n L := by
  obtain ⟨hl, h⟩ := h
  refine ⟨hl, fun hn => ?_⟩
  obtain ⟨b, off, rfl, h1, h2, h3⟩ := h hn
  refine ⟨b, off, rfl, h1, h2, fun j a hj => ?_⟩
  obtain ⟨es, e1, e2, e3⟩ := h3 j a hj
  exact ⟨es, e1, fun i u hu => (hs.cell h1 h2).trans (e2 i u hu), g.frame e3 hs⟩
theorem RdS.wide {α : Type} {k : Nat} {R : Rel α} (g : Good R) {w : World} {lo hi lo' hi' : Nat} {A : Option Addr} {n : Nat} {L : List α} (h : RdS k R w lo hi A n L) (hl : lo' ≤ lo) (hh : hi ≤ hi') : RdS k R w lo' hi' A n L := by
  obtain ⟨hl', h⟩ := h
  refine ⟨hl', fun hn => ?_⟩
  obtain ⟨b, off, rfl, h1, h2, h3⟩ := h hn
  refine ⟨b, off, rfl, by omega, by omega, fun j a hj => ?_⟩
  obtain ⟨es, e1, e2, e3⟩ := h3 j a hj
  exact ⟨es, e1, e2, g.wide e3 hl hh⟩
/-- a slice whose elements have k cells each -/
def SliceR {α : Type} (k : Nat) (R : Rel α) : Rel (List α) := fun w lo hi L cs => ∃ A n c, cs = [.slice A n c] ∧ n ≤ maxLen ∧ RdS k R w lo hi A n L
theorem good_slice {α : Type} {R : Rel α} (k : Nat) (g : Good R) : Good (SliceR k R) := by
  constructor
  · rintro w w' lo hi L cs ⟨A, n, c, rfl, hm, h⟩ hs
    exact ⟨A, n, c, rfl, hm, h.frame g hs⟩
  · rintro w lo hi lo' hi' L cs ⟨A, n, c, rfl, hm, h⟩ hl hh
    exact ⟨A, n, c, rfl, hm, h.wide g hl hh⟩

/-- every value of the type that can be read is such a datum -/
def Opens (P : Program) (t : TypeId) {α : Type} (R : Rel α) : Prop :=
  ∀ {H : Type} {enc : TypeId × Value → H} {w : World} {fuel : Nat} {cs : List Value} {x : DataW H × List MemPlace}, DataW.trod enc P w 0 (fun _ => true) true fuel t cs = some x → ∃ a, R w 0 w.heap.size a cs

theorem cell_lt {w : World} {a : Addr} {v : Value} (h : w.cell? a = some v) : a.block < w.heap.size := by
  unfold World.cell? at h
  split at h
  · rename_i hc; exact (Array.getElem?_eq_some_iff.1 hc).1
  · cases h

theorem list_of_all' {α : Type} (P : Nat → α → Prop) : ∀ n : Nat, (∀ i, i < n → ∃ a, P i a) → ∃ L : List α, L.length = n ∧ ∀ i a, L[i]? = some a → P i a := by
  intro n
  induction n with
  | zero => intro _; exact ⟨[], rfl, fun i a h => by simp at h⟩
  | succ n ih =>
    intro h
    obtain ⟨L, hl, hL⟩ := ih fun i hi => h i (by omega)
    obtain ⟨a, ha⟩ := h n (by omega)
    refine ⟨L ++ [a], by simp [hl], fun i b hb => ?_⟩
    rcases Nat.lt_or_ge i n with h' | h'
    · exact hL i b (by rwa [List.getElem?_append_left (by omega)] at hb)
    · rw [List.getElem?_append_right (by omega), hl] at hb
      have : i = n := by
        rcases Nat.eq_or_lt_of_le h' with h1 | h1
        · exact h1.symm
        · rw [List.getElem?_eq_none (by simp; omega)] at hb; cases hb
      subst this
      simp at hb
      subst hb; exact ha

theorem opens_slice {P : Program} {t e : TypeId} {k : Nat} {α : Type} {R : Rel α} (ht : P.underlying t = some (.slice e)) (hC : P.cellsOf e = k) (hk : 0 < k) (hR : Opens P e R) (g : Good R) : Opens P t (SliceR k R) := by
  intro H enc w fuel cs x h
  rcases open_slice ht h with ⟨rfl, _⟩ | ⟨a, len, cap, m, n, D, Pl, rfl, hb, hl, hm, hmm, hx, hel⟩
  · exact ⟨[], none, 0, 0, rfl, Nat.zero_le _, RdS.nil _ _ _ _ _ _⟩
  · simp only [if_true] at hmm
    subst hmm
    rw [hC] at hel
    have hall : ∀ i, i < len → ∃ p : α, ∃ es : List Value, es.length = k ∧ (∀ j u, es[j]? = some u → w.cell? (a.add (i * k + j)) = some u) ∧ R w 0 w.heap.size p es := by
      intro i hi
      obtain ⟨cs', hc, ht'⟩ := hel i (by omega)
      obtain ⟨_, hcl, hat⟩ := World.cells?_some hc
      obtain ⟨p, hp⟩ := hR ht'
      refine ⟨p, cs', hcl, fun j u hu => ?_, hp⟩
      have hj : j < k := by
        rcases Nat.lt_or_ge j k with h | h
        · exact h
        · rw [List.getElem?_eq_none (by omega)] at hu; cases hu
      have := hat j hj
      rw [Go.Deep.add_add] at this
      rw [this, hu]
    obtain ⟨L, hL, hLp⟩ := list_of_all' _ len hall
    refine ⟨L, some a, len, _, rfl, Nat.le_trans hl hm, hL, fun h0 => ?_⟩
    replace h0 : 0 < L.length := by omega
    obtain ⟨b, off, spot⟩ := a
    have h00 : L[0]? = some L[0] := List.getElem?_eq_getElem h0
    obtain ⟨es0, l0, c0, _⟩ := hLp 0 _ h00
    have c00 := c0 0 es0[0] (List.getElem?_eq_getElem (by omega))
    have hsp := World.cell?_spot c00
    have hbl := cell_lt c00
    have e0 : (⟨b, off, spot⟩ : Addr).add (0 * k + 0) = ⟨b, off, spot⟩ := by simp [Addr.add]
    rw [e0] at hsp hbl
    simp at hsp hbl
    subst hsp
    have hadd : ∀ j, (⟨b, off, none⟩ : Addr).add j = ⟨b, off + j, none⟩ := by
      intro j
      unfold Addr.add
      split
      · rename_i h; subst h; rfl
      · rfl
    refine ⟨b, off, rfl, Nat.zero_le _, hbl, fun j p hj => ?_⟩
    obtain ⟨es, l, c, r⟩ := hLp j p hj
    refine ⟨es, l, fun i u hu => ?_, r⟩
    have := c i u hu
    rw [hadd] at this
    rw [Nat.add_assoc]
    exact this

theorem own_at {w : World} {base e size n c : Nat} {A : Option Addr} {xs : List Value} (h : w.ownsRow base e size (.slice A n c) n xs) (hn : 0 < n) : ∃ g, A = some ⟨g, 0, none⟩ ∧ base ≤ g ∧ g < w.heap.size ∧ n ≤ c ∧
    (∀ j, j < n * size → w.cell? ⟨g, j, none⟩ = xs[j]?) ∧ ∀ j, w.frozen? ⟨g, j, none⟩ = false := by
  obtain ⟨g, hA⟩ : ∃ g, A = some ⟨g, 0, none⟩ := by
    rcases h.2 with ⟨h', h0⟩ | ⟨g, cap, cur, hv, _⟩
    · omega
    · injection hv with h1; exact ⟨g, h1⟩
  subst hA
  have hlt := h.lt g rfl
  have hc : n ≤ c := by
    rcases h.2 with ⟨h', h0⟩ | ⟨g, cap, cur, hv, _, _, h5, _⟩
    · omega
    · injection hv with h1 h2 h3; omega
  exact ⟨g, rfl, hlt.1, hlt.2, hc, fun j hj => h.cellAt j hj, fun j => h.frozenAt j⟩

/-! ### flat cells -/
theorem flat_length {α : Type} {f : α → List Value} {k : Nat} (hk : ∀ a, (f a).length = k) (L : List α) : (L.flatMap f).length = L.length * k := by
  induction L with
  | nil => simp
  | cons a L ih => rw [List.flatMap_cons, List.length_append, hk, ih, List.length_cons, Nat.add_mul]; omega
theorem flat_get {α : Type} {f : α → List Value} {k : Nat} (hk : ∀ a, (f a).length = k) : ∀ (L : List α) (j : Nat) (a : α) (i : Nat), L[j]? = some a → i < k → (L.flatMap f)[j * k + i]? = (f a)[i]? := by
  intro L
  induction L with
  | nil => intro j a i h; simp at h
  | cons b L ih =>
    intro j a i h hi
    rw [List.flatMap_cons]
    cases j with
    | zero =>
      simp at h; subst h
      rw [List.getElem?_append_left (by rw [hk]; omega)]; simp
    | succ j =>
      rw [List.getElem?_append_right (by rw [hk, Nat.add_mul]; omega), hk, show (j + 1) * k + i - k = j * k + i by rw [Nat.add_mul]; omega]
      exact ih j a i (by simpa using h) hi
theorem flat_ext {α : Type} {f : α → List Value} {k n : Nat} (hk : ∀ a, (f a).length = k) {L : List α} {ys : List Value} (hl : L.length = n) (hy : ys.length = n * k)
    (h : ∀ j a, L[j]? = some a → ∀ i, i < k → ys[j * k + i]? = (f a)[i]?) : ys = L.flatMap f := by
  apply List.ext_getElem?
  intro m
  by_cases hm : m < n * k
  · have hk0 : 0 < k := by
      rcases Nat.eq_zero_or_pos k with h0 | h0
      · subst h0; simp at hm
      · exact h0
    have hq : m / k < L.length := by rw [hl]; exact (Nat.div_lt_iff_lt_mul hk0).2 hm
    have hr := Nat.mod_lt m hk0
    have e := Nat.div_add_mod m k
    have := h (m / k) _ (List.getElem?_eq_getElem hq) (m % k) hr
    have h2 := flat_get hk L (m / k) _ (m % k) (List.getElem?_eq_getElem hq) hr
    rw [show m / k * k + m % k = m by rw [Nat.mul_comm]; exact e] at this h2
    rw [this, h2]
  · rw [List.getElem?_eq_none (by omega), List.getElem?_eq_none (by rw [flat_length hk, hl]; omega)]
theorem RdS.at {α : Type} {k : Nat} {f : α → List Value} {w : World} {lo hi : Nat} {A : Option Addr} {n : Nat} {L : List α} (h : RdS k (FlatR f) w lo hi A n L) {j : Nat} (hj : j < n) :
    ∃ b off a, A = some ⟨b, off, none⟩ ∧ lo ≤ b ∧ b < hi ∧ L[j]? = some a ∧ ∀ i u, (f a)[i]? = some u → w.cell? ⟨b, off + j * k + i, none⟩ = some u := by
  obtain ⟨hl, h⟩ := h
  obtain ⟨b, off, rfl, h1, h2, h3⟩ := h (by omega)
  have hja : L[j]? = some (L[j]'(by omega)) := List.getElem?_eq_getElem (by omega)
  obtain ⟨es, e1, e2, e3⟩ := h3 j _ hja
  exact ⟨b, off, _, rfl, h1, h2, hja, fun i u hu => e2 i u (by rw [e3]; exact hu)⟩
theorem rdS_own {α : Type} {k : Nat} {f : α → List Value} (hk : ∀ a, (f a).length = k) (hk0 : 0 < k) {w : World} {B e n c : Nat} {A : Option Addr} {L : List α} (h : w.ownsRow B e k (.slice A n c) n (L.flatMap f)) (hl : L.length = n) : RdS k (FlatR f) w B w.heap.size A n L := by
  refine ⟨hl, fun hn => ?_⟩
  rcases h.2 with ⟨h2, h3⟩ | ⟨g, cap, cur, hv, hB, hrest⟩
  · omega
  · injection hv with hA
    subst hA
    have hcells := h.cells (g := g) rfl
    have hlt := (h.lt g rfl).2
    refine ⟨g, 0, rfl, hB, hlt, fun j a hj => ⟨f a, hk a, fun i u hu => ?_, rfl⟩⟩
    have hi : i < k := by
      rcases Nat.lt_or_ge i k with h | h
      · exact h
      · rw [List.getElem?_eq_none (by rw [hk]; omega)] at hu; cases hu
    have h5 := hcells (j * k + i) u (by rw [flat_get hk L j a i hj hi, hu])
    have e : (⟨g, 0, none⟩ : Addr).add (j * k + i) = ⟨g, 0 + j * k + i, none⟩ := by unfold Addr.add; split <;> simp_all <;> omega
    rw [e] at h5
    exact h5

theorem take_eq_step {α : Type} {L M : List α} {k : Nat} {a : α} (h : L.take k = M.take k) (h1 : L[k]? = some a) (h2 : M[k]? = some a) : L.take (k + 1) = M.take (k + 1) := by
  have hl : k < L.length := (List.getElem?_eq_some_iff.1 h1).1
  have hm : k < M.length := (List.getElem?_eq_some_iff.1 h2).1
  rw [List.take_succ_eq_append_getElem hl, List.take_succ_eq_append_getElem hm, h]
  rw [List.getElem?_eq_getElem hl] at h1
  rw [List.getElem?_eq_getElem hm] at h2
  injection h1 with h1; injection h2 with h2
  rw [h1, h2]
theorem take_eq_done {α : Type} {L M : List α} {n : Nat} (h : L.take n = M.take n) (h1 : L.length = n) (h2 : M.length = n) : L = M := by
  rw [List.take_of_length_le (by omega), List.take_of_length_le (by omega)] at h; exact h
theorem ne_of_at {α : Type} {L M : List α} {k : Nat} {a b : α} (h1 : L[k]? = some a) (h2 : M[k]? = some b) (h : a ≠ b) : L ≠ M := by
  rintro rfl; rw [h1] at h2; injection h2 with h2; exact h h2

/-! ### kinds of elements -/
def ptC (p : Int × Int) : List Value := [.int .i64 p.1, .int .i64 p.2]
def knotC (p : Int × Int × Bool) : List Value := [.int .i64 p.1, .int .i64 p.2.1, .bool p.2.2]
def partC (p : Int × Int × Int) : List Value := [.int .i64 p.1, .int .i64 p.2.1, .int .i64 p.2.2]
def anchC (p : ByteArray × Int × Int) : List Value := [.string p.1, .int .i64 p.2.1, .int .i64 p.2.2]
def intC (n : Int) : List Value := [.int .i64 n]
def boolC (b : Bool) : List Value := [.bool b]
theorem ptC_len (p : Int × Int) : (ptC p).length = 2 := rfl
theorem knotC_len (p : Int × Int × Bool) : (knotC p).length = 3 := rfl
theorem intC_len (p : Int) : (intC p).length = 1 := rfl
end Go.Proofs.YtlifiioflkhkoaaGreat

/- The laws' own functions on slices of Pt. Conditions: as each states. -/
namespace Go.Proofs.YtlifiioflkhkoaaGreat
open Go.RowKit
set_option linter.unusedVariables false
set_option maxRecDepth 100000

theorem elemPt : Elem Tryz.prog 40 28 2 16 := elem_mk (z := .agg #[.int .i64 0, .int .i64 0]) Tryz.underlying40 (by kernel_rfl) rfl (by omega)
theorem infoPt : (Tryz.prog.info? 28).map (fun i => (i.zero, i.size, i.bytes)) = some (some (.agg #[.int .i64 0, .int .i64 0]), 2, 16) := by kernel_rfl

end Go.Proofs.YtlifiioflkhkoaaGreat

/- The laws' own functions on slices of Knot. Conditions: as each states. -/
namespace Go.Proofs.YtlifiioflkhkoaaGreat
open Go.RowKit
set_option linter.unusedVariables false
set_option maxRecDepth 100000

end Go.Proofs.YtlifiioflkhkoaaGreat

/- Outlines in memory: slices of loops, each a slice of knots; the laws' own functions on them. Conditions: as each states. -/
namespace Go.Proofs.YtlifiioflkhkoaaGreat
open Go.RowKit
set_option linter.unusedVariables false
set_option maxRecDepth 100000

abbrev Knot := Int × Int × Bool
/-- a loop is a slice of knots -/
abbrev loopR : Rel (List Knot) := SliceR 3 (FlatR knotC)
theorem good_loop : Good loopR := good_slice 3 (good_flat _)
/-- the loops of an outline -/
abbrev OutRd (w : World) (lo hi : Nat) (A : Option Addr) (n : Nat) (Ls : List (List Knot)) : Prop := RdS 1 loopR w lo hi A n Ls
end Go.Proofs.YtlifiioflkhkoaaGreat

/- An outline's copy: the laws' functions that turn an outline of theirs into one of the program's. Conditions: as each states. -/
namespace Go.Proofs.YtlifiioflkhkoaaGreat
open Go.RowKit
set_option linter.unusedVariables false
set_option maxRecDepth 100000

/-- no block of one is a block of the other -/
def ApartV (u v : Value) : Prop := ∀ g, u.ownBlock = some g → v.ownBlock ≠ some g
theorem own_lower {w : World} {lo lo' e size n : Nat} {v : Value} {xs : List Value} (h : w.ownsRow lo e size v n xs) (hl : lo' ≤ lo) : w.ownsRow lo' e size v n xs := by
  refine ⟨h.1, ?_⟩
  rcases h.2 with h2 | ⟨g, cap, cur, hv, hg, r⟩
  · exact .inl h2
  · exact .inr ⟨g, cap, cur, hv, Nat.le_trans hl hg, r⟩
end Go.Proofs.YtlifiioflkhkoaaGreat

/- The laws' own functions on slices of Bool. Conditions: as each states. -/
namespace Go.Proofs.YtlifiioflkhkoaaGreat
open Go.RowKit
set_option linter.unusedVariables false
set_option maxRecDepth 100000

theorem infoBool : (Tryz.prog.info? 4).map (fun i => (i.zero, i.size, i.bytes)) = some (some (.bool false), 1, 1) := by kernel_rfl

end Go.Proofs.YtlifiioflkhkoaaGreat

/- The laws' own functions on slices of Int64. Conditions: as each states. -/
namespace Go.Proofs.YtlifiioflkhkoaaGreat
open Go.RowKit
set_option linter.unusedVariables false
set_option maxRecDepth 100000

end Go.Proofs.YtlifiioflkhkoaaGreat

