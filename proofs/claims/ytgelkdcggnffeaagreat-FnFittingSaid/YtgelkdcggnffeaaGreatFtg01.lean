/- The closed facts of the row of FnFitting. Conditions: none. -/
import Derived.ProofKit
import Derived.WalkKit
import Derived.WalkSpells
import Derived.WalkLawsBesides
import Derived.Lib.Hide
import Derived.Maps.AppendAt
import Derived.Deep.AppendLies
import Derived.Deep.Draws
import Derived.OwnWalk
import Derived.RegionTactic
import Derived.Deep.Slices
import Derived.Deep.Fields
import Derived.ChangeSame
import Derived.Lib.SmallJoins
import Derived.Test.YtgelkdcggnffeaaGreatRows
import Derived.Test.YtgelkdcggnffeaaGreatEnter
namespace Go.Proofs.YtgelkdcggnffeaaGreat.fnFitting
open Go.RowKit
set_option linter.unusedVariables false
set_option maxRecDepth 100000
set_option maxHeartbeats 4000000 in
theorem closedF : joinedFacts Tryz.prog 3 Tryz.f3 Rows.fnFittingSpec Rows.fnFittingRow = true := by
  simp only [joinedFacts, Bool.and_eq_true]
  repeat' (refine And.intro ?_ ?_)
  all_goals (try (with_reducible exact mayEnter_yes))
  all_goals (try (rw [liftsFinal_no]; done))
  all_goals (try (as_aux_lemma => kernel_rfl))
end Go.Proofs.YtgelkdcggnffeaaGreat.fnFitting

/- Plain facts and words: no program in sight. Conditions: none. -/
namespace Go.Proofs.YtgelkdcggnffeaaGreat
open Go.RowKit
set_option linter.unusedVariables false
set_option maxRecDepth 100000

/-- a number lies in a range -/
def inB (n a b : Int) : Bool := decide (a ≤ n) && decide (n ≤ b)
theorem inB_iff {n a b : Int} : inB n a b = true ↔ a ≤ n ∧ n ≤ b := by simp [inB]
theorem inB_false {n a b : Int} : inB n a b = false ↔ n < a ∨ b < n := by
  simp only [inB, Bool.and_eq_false_iff, decide_eq_false_iff_not]; omega

/-- the integer nearest to a quotient, halves up -/
def rnd (n d : Int) : Int := (2 * n + d) / (2 * d)

theorem ret_int {k : IntKind} {a b : Int} (h : a = b) : Ending.returned (.int k a) = .returned (.int k b) := by rw [h]
theorem ret_bool {a b : Bool} (h : a = b) : Ending.returned (.bool a) = .returned (.bool b) := by rw [h]
theorem rnd_up {n d : Int} (hd : 0 < d) (h : d - n % d ≤ n % d) : n / d + 1 = rnd n d := by
  unfold rnd
  have h1 := Int.emod_add_mul_ediv n d
  have h2 := Int.emod_lt_of_pos n hd
  have h0 := Int.emod_nonneg n (Int.ne_of_gt hd)
  generalize n / d = q at *
  generalize n % d = r at *
  have : 2 * n + d = (2 * r - d) + (q + 1) * (2 * d) := by rw [← h1]; grind
  rw [this, Int.add_mul_ediv_right _ _ (by omega), Int.ediv_eq_zero_of_lt (by omega) (by omega)]; omega
theorem rnd_down {n d : Int} (hd : 0 < d) (h : n % d < d - n % d) : n / d = rnd n d := by
  unfold rnd
  have h1 := Int.emod_add_mul_ediv n d
  have h2 := Int.emod_lt_of_pos n hd
  have h0 := Int.emod_nonneg n (Int.ne_of_gt hd)
  generalize n / d = q at *
  generalize n % d = r at *
  have : 2 * n + d = (2 * r + d) + q * (2 * d) := by rw [← h1]; grind
  rw [this, Int.add_mul_ediv_right _ _ (by omega), Int.ediv_eq_zero_of_lt (by omega) (by omega)]; omega
theorem tmod_lt0 {n d : Int} (hd : 0 < d) (h : n.tmod d < 0) : n.tmod d + d = n % d ∧ n.tdiv d - 1 = n / d := by
  rw [Int.tdiv_eq_ediv, Int.tmod_eq_emod] at *
  split at h
  · have := Int.emod_nonneg n (Int.ne_of_gt hd); omega
  · rename_i hc
    rw [if_neg hc, if_neg hc]
    rw [Int.sign_eq_one_of_pos hd] at *
    have : (d.natAbs : Int) = d := by omega
    rw [this]; omega
theorem tmod_ge0 {n d : Int} (hd : 0 < d) (h : 0 ≤ n.tmod d) : n.tmod d = n % d ∧ n.tdiv d = n / d := by
  rw [Int.tdiv_eq_ediv, Int.tmod_eq_emod] at *
  split at h
  · rename_i hc; rw [if_pos hc, if_pos hc]; simp
  · rename_i hc
    have h2 := Int.emod_lt_of_pos n hd
    have : (d.natAbs : Int) = d := by omega
    omega
theorem tdiv_bd {n d : Int} {B : Int} (hd : 0 < d) (h1 : -B ≤ n) (h2 : n ≤ B) : -B ≤ n.tdiv d ∧ n.tdiv d ≤ B := by
  rcases Int.lt_or_le (n.tmod d) 0 with h | h
  · have ⟨_, e2⟩ := tmod_lt0 hd h
    have h3 : -B ≤ n / d := by
      rw [Int.le_ediv_iff_mul_le hd]
      rcases Int.lt_or_le B 0 with hB | hB
      · omega
      · have : B * 1 ≤ B * d := Int.mul_le_mul_of_nonneg_left (by omega) hB
        rw [Int.neg_mul]; omega
    have h4 : n / d < 0 := by
      rw [Int.ediv_lt_iff_lt_mul hd]
      have : n.tmod d ≤ 0 := by omega
      rcases Int.lt_or_le n 0 with hn | hn
      · omega
      · have := Int.tmod_nonneg d hn; omega
    have : -B ≤ 0 := by
      have : n < 0 := by
        rcases Int.lt_or_le n 0 with hn | hn
        · exact hn
        · have := Int.tmod_nonneg d hn; omega
      omega
    omega
  · have ⟨_, e2⟩ := tmod_ge0 hd h
    rw [e2]
    have hB : 0 ≤ B := by omega
    have hm : B * 1 ≤ B * d := Int.mul_le_mul_of_nonneg_left (by omega) hB
    constructor
    · rw [Int.le_ediv_iff_mul_le hd, Int.neg_mul]; omega
    · have := (Int.ediv_lt_iff_lt_mul (a := n) (b := B + 1) hd).2 (by rw [Int.add_mul]; omega)
      omega
end Go.Proofs.YtgelkdcggnffeaaGreat

/- Words for memory: element rows, appends onto a slice of the call's own, bytes that become a string. No program in sight. Conditions: none. -/
namespace Go.Proofs.YtgelkdcggnffeaaGreat
open Go.RowKit
set_option linter.unusedVariables false
set_option maxRecDepth 100000

/-- the slice type t has elements of type e, each of so many cells and bytes -/
structure Elem (P : Program) (t e : TypeId) (size bytes : Nat) : Prop where
  ht : P.underlying t = some (.slice e)
  hi : ∃ i z, P.info? e = some i ∧ i.zero = some z ∧ i.size = size ∧ i.bytes = bytes ∧ z.cells.size = size
  pos : 0 < size

theorem elem_mk {P : Program} {t e : TypeId} {z : Value} {size bytes : Nat} (ht : P.underlying t = some (.slice e))
    (h : (P.info? e).map (fun i => (i.zero, i.size, i.bytes)) = some (some z, size, bytes)) (hz : z.cells.size = size) (pos : 0 < size) : Elem P t e size bytes := by
  obtain ⟨i, h1, h2, h3, h4⟩ := info_parts h
  exact ⟨ht, ⟨i, z, h1, h2, h3, h4, hz⟩, pos⟩

/-- the source of an append: m elements with the cells news -/
def Src (w : World) (size : Nat) (A : Option Addr) (m : Nat) (news : List Value) : Prop :=
  news.length = m * size ∧ (∀ u ∈ news, u.oneCell' = true) ∧ (0 < m → ∃ ad, A = some ad ∧ ∀ j u, news[j]? = some u → w.cell? (ad.add j) = some u)

theorem run_app {P : Program} {w : World} {t e : TypeId} {size bytes : Nat} (E : Elem P t e size bytes) (ty : TypeId) {base : Nat} {v : Value} {n : Nat} {xs : List Value} (hown : w.ownsRow base e size v n xs)
    {A : Option Addr} {m c : Nat} {news : List Value} (hsrc : Src w size A m news) (h63 : n + m ≤ 1000000000) (hbytes : bytes ≤ 100000) (hbase : base ≤ w.heap.size) :
    ∃ v' w', (Builtin.append_ #[t, t] ty #[v, .slice A m c]).run P w = .ok v' w' ∧ w'.ownsRow base e size v' (n + m) (xs ++ news) ∧ w.grownBy w' v.ownBlock ∧
      (v'.ownBlock = v.ownBlock ∨ v'.ownBlock = some w.heap.size) := by
  obtain ⟨ht, ⟨i, z, hi, hz, hs, hby, hzs⟩, pos⟩ := E
  obtain ⟨hl, h1, hc⟩ := hsrc
  have hb : (n + m) * bytes ≤ 140737488355328 := by
    have : (n + m) * bytes ≤ 1000000000 * 100000 := Nat.mul_le_mul h63 hbytes
    omega
  rcases Nat.eq_zero_or_pos m with h0 | h0
  · subst h0
    obtain rfl : news = [] := List.eq_nil_of_length_eq_zero (by simpa using hl)
    rcases A with _ | ad
    · refine ⟨v, w, ?_, by simpa using hown, World.grownBy.refl w _, .inl rfl⟩
      rcases hown.2 with ⟨rfl, rfl⟩ | ⟨g, cap, cur, rfl, _, _, hnc, _⟩
      · simp [Builtin.append_, run_underlying ht, sizeOf, typeInfo, hi, Builtin.lenOf, Builtin.firstCells]
      · simp [Builtin.append_, run_underlying ht, sizeOf, typeInfo, hi, Builtin.lenOf, Builtin.firstCells, hnc, storeCells]
    · obtain ⟨v', w', h1, h2, h3, _, h5⟩ := run_append_own_at (P := P) w base t ty e i z size bytes ht hi hz hs hby hzs pos v n xs hown ad 0 c [] (by simp) (by simp) (by simp) (by unfold maxLen; omega) hb hbase
      exact ⟨v', w', h1, h2, h3, h5⟩
  · obtain ⟨ad, rfl, hcc⟩ := hc h0
    obtain ⟨v', w', h1, h2, h3, _, h5⟩ := run_append_own_at (P := P) w base t ty e i z size bytes ht hi hz hs hby hzs pos v n xs hown ad m c news hl hcc h1 (by unfold maxLen; omega) hb hbase
    exact ⟨v', w', h1, h2, h3, h5⟩

theorem own_form {w : World} {base e size n : Nat} {v : Value} {xs : List Value} (h : w.ownsRow base e size v n xs) : ∃ A c, v = .slice A n c := by
  rcases h.2 with ⟨rfl, rfl⟩ | ⟨g, cap, cur, rfl, _⟩
  · exact ⟨_, _, rfl⟩
  · exact ⟨_, _, rfl⟩

theorem wpAppAt {P : Program} {w : World} {ops : Array Oper} {rest : List Oper} {o : Oper} {a : Act} {Q : Exit → Act → World → Prop} (hgd : o.guard = none) (s x : Operand) {t e : TypeId} {size bytes : Nat} (E : Elem P t e size bytes)
    (ho : o.op = .call { callee := .builtin .append, args := #[s, x], argTypes := #[t, t] })
    {base : Nat} {v : Value} {n : Nat} {xs : List Value} (hs : a.eval s = v) (hown : w.ownsRow base e size v n xs)
    {A : Option Addr} {m c : Nat} {news : List Value} (hx : a.eval x = .slice A m c) (hsrc : Src w size A m news) (h63 : n + m ≤ 1000000000) (hbytes : bytes ≤ 100000) (hbase : base ≤ w.heap.size) (k : Nat) (hk : k = n + m)
    (h : ∀ A' c' w', w'.ownsRow base e size (.slice A' k c') k (xs ++ news) → w.grownBy w' v.ownBlock → ((Value.slice A' k c').ownBlock = v.ownBlock ∨ (Value.slice A' k c').ownBlock = some w.heap.size) → wpList P ops Q rest (a.put o.dst (.slice A' k c')) w') :
    wpList P ops Q (o :: rest) a w := by
  refine wpList_plain hgd fun K hK => ?_
  obtain ⟨v', w', hr, h2, h3, h4⟩ := run_app (P := P) E o.type hown (c := c) hsrc h63 hbytes hbase
  obtain ⟨A', c', rfl⟩ := own_form h2
  unfold Oper.wp execOp
  simp only [ho, resolve, invoke, builtin, Sem.run_bind, Sem.run_pure, Result.andThen_ok, List.map_toArray, List.map_cons, List.map_nil, hs, hx, hr]
  subst hk
  exact hK _ _ (h A' c' w' h2 h3 h4)

/-- what an append may have written lies from base on -/
theorem below_app {base : Nat} {w w' : World} {v : Value} {e size n : Nat} {xs : List Value} (hown : w.ownsRow base e size v n xs) (hg : w.grownBy w' v.ownBlock) (hb : base ≤ w.heap.size) : Below base w w' :=
  (Below.refl base w).grown hg hb (fun k hk => (hown.lt k hk).1)

theorem wpApp {P : Program} {w : World} {ops : Array Oper} {rest : List Oper} {o : Oper} {a : Act} {Q : Exit → Act → World → Prop} (hgd : o.guard = none) (s x : Operand) {t e : TypeId} {size bytes : Nat} (E : Elem P t e size bytes)
    (ho : o.op = .call { callee := .builtin .append, args := #[s, x], argTypes := #[t, t] })
    {base : Nat} {v : Value} {n : Nat} {xs : List Value} (hs : a.eval s = v) (hown : w.ownsRow base e size v n xs)
    {A : Option Addr} {m c : Nat} {news : List Value} (hx : a.eval x = .slice A m c) (hsrc : Src w size A m news) (h63 : n + m ≤ 1000000000) (hbytes : bytes ≤ 100000) (hbase : base ≤ w.heap.size) (k : Nat) (hk : k = n + m)
    (h : ∀ A' c' w', w'.ownsRow base e size (.slice A' k c') k (xs ++ news) → Below base w w' → wpList P ops Q rest (a.put o.dst (.slice A' k c')) w') :
    wpList P ops Q (o :: rest) a w :=
  wpAppAt hgd s x E ho hs hown hx hsrc h63 hbytes hbase k hk fun A' c' w' h1 h2 _ => h A' c' w' h1 (below_app hown h2 hbase)

/-- one new block of cells as the source of an append -/
theorem src_new {w : World} {size : Nat} {cs : List Value} {t : TypeId} (hl : cs.length = size) (h1 : ∀ u ∈ cs, u.oneCell' = true) : Src (w.alloc (.cells cs.toArray t)) size (some ⟨w.heap.size, 0, none⟩) 1 cs :=
  ⟨by simp [hl], h1, fun _ => ⟨_, rfl, fun j u hu => by
    have : (⟨w.heap.size, 0, none⟩ : Addr).add j = ⟨w.heap.size, j, none⟩ := by unfold Addr.add; split <;> simp_all
    rw [this, cell_of_row _ _ _ _ _ _ (heap_alloc_new w _)]
    simpa using hu⟩⟩

theorem src_at {w : World} {size b : Nat} {cs : List Value} {t : TypeId} (hl : cs.length = size) (h1 : ∀ u ∈ cs, u.oneCell' = true) (hb : b = w.heap.size) : Src (w.alloc (.cells cs.toArray t)) size (some ⟨b, 0, none⟩) 1 cs := by
  subst hb; exact src_new hl h1

/-- an owned row as the source of an append -/
theorem src_own {w : World} {base e size n : Nat} {A : Option Addr} {c : Nat} {xs : List Value} (h : w.ownsRow base e size (.slice A n c) n xs) (h1 : ∀ u ∈ xs, u.oneCell' = true) : Src w size A n xs := by
  refine ⟨h.1, h1, fun hn => ?_⟩
  rcases h.2 with ⟨h2, h3⟩ | ⟨g, cap, cur, hv, _⟩
  · omega
  · have hA : A = some ⟨g, 0, none⟩ := by injection hv
    subst hA
    exact ⟨_, rfl, h.cells (g := g) rfl⟩

theorem own_below {w w' : World} {base e size n : Nat} {v : Value} {xs : List Value} (h : w.ownsRow base e size v n xs) (hb : Below w.heap.size w w') : w'.ownsRow base e size v n xs :=
  h.kept (row := none) ⟨hb.os, hb.tape, hb.output, hb.size, fun k hk _ => hb.block k hk⟩ (by cases v.ownBlock <;> simp)
/-! ### bytes -/
def byteV (ds : List UInt8) : List Value := ds.map fun c => .int .u8 c.toNat
@[simp] theorem byteV_length (ds : List UInt8) : (byteV ds).length = ds.length := by simp [byteV]
theorem byteV_append (a b : List UInt8) : byteV (a ++ b) = byteV a ++ byteV b := by simp [byteV]

end Go.Proofs.YtgelkdcggnffeaaGreat

/- Data in memory, read by types' shapes: slices of whatever element, opened out of an argument, kept under a frame. No program in sight. Conditions: none. -/
namespace Go.Proofs.YtgelkdcggnffeaaGreat
open Go.RowKit Go.ChangeShapes Go.WideShapes Go.Deep
set_option linter.unusedVariables false
set_option maxRecDepth 100000

/-- the blocks from lo to hi are as they were -/
def SameB (lo hi : Nat) (w w' : World) : Prop := ∀ k, lo ≤ k → k < hi → w'.heap[k]? = w.heap[k]?
theorem SameB.refl (lo hi : Nat) (w : World) : SameB lo hi w w := fun _ _ _ => rfl
theorem SameB.trans {lo hi : Nat} {a b c : World} (h : SameB lo hi a b) (k : SameB lo hi b c) : SameB lo hi a c := fun i h1 h2 => (k i h1 h2).trans (h i h1 h2)
theorem SameB.mono {lo hi lo' hi' : Nat} {w w' : World} (h : SameB lo hi w w') (h1 : lo ≤ lo') (h2 : hi' ≤ hi) : SameB lo' hi' w w' := fun k k1 k2 => h k (by omega) (by omega)
theorem SameB.cell {lo hi : Nat} {w w' : World} (h : SameB lo hi w w') {p : Addr} (h1 : lo ≤ p.block) (h2 : p.block < hi) : w'.cell? p = w.cell? p := World.cell?_of_block (w := w) (h p.block h1 h2)
theorem Below.sameB {B lo hi : Nat} {w w' : World} (h : Below B w w') (hB : hi ≤ B) : SameB lo hi w w' := fun k _ k2 => h.block k (by omega)
theorem grown_sameB {w w' : World} {g lo hi : Nat} (h : w.grownBy w' (some g)) (hi' : hi ≤ w.heap.size) (hg : g < lo ∨ hi ≤ g) : SameB lo hi w w' := fun k k1 k2 => h.block k (by omega) (by intro e; injection e with e; omega)

theorem SameB.setCell {lo hi : Nat} {a w : World} (h : SameB lo hi a w) {p : Addr} (hp : p.block < lo ∨ hi ≤ p.block) (u : Value) : SameB lo hi a (w.setCell p u) :=
  h.trans fun k k1 k2 => Below.heap_setCell w p u k (by omega)
theorem SameB.alloc {lo hi : Nat} {a w : World} (h : SameB lo hi a w) (hw : hi ≤ w.heap.size) (o : Obj) : SameB lo hi a (w.alloc o) :=
  h.trans fun k k1 k2 => Below.heap_alloc w o k (by omega)
theorem SameB.drewN {lo hi : Nat} {a w : World} (h : SameB lo hi a w) (n : Nat) : SameB lo hi a (w.drewN n) := h
theorem SameB.drew {lo hi : Nat} {a w : World} (h : SameB lo hi a w) : SameB lo hi a w.drew := h
theorem heap_new0 (w : World) (a b c : Obj) : (((w.alloc a).alloc b).alloc c).heap[w.heap.size]? = some a ∧ (((w.alloc a).alloc b).alloc c).heap[w.heap.size + 1]? = some b ∧ (((w.alloc a).alloc b).alloc c).heap[w.heap.size + 2]? = some c := by
  have h1 := heap_alloc_new w a
  have h2 := heap_alloc_new (w.alloc a) b
  have h3 := heap_alloc_new ((w.alloc a).alloc b) c
  have s1 : (w.alloc a).heap.size = w.heap.size + 1 := by simp
  have s2 : ((w.alloc a).alloc b).heap.size = w.heap.size + 2 := by simp
  rw [s1] at h2
  rw [s2] at h3
  exact ⟨(Below.heap_alloc _ c _ (by omega)).trans ((Below.heap_alloc _ b _ (by omega)).trans h1), (Below.heap_alloc _ c _ (by omega)).trans h2, h3⟩
/-- a slice's head -/
structure Hd where
  A : Option Addr
  n : Nat
  c : Nat

/-- how a datum lies in cells: the blocks that it reaches lie from lo to hi -/
abbrev Rel (α : Type) := World → Nat → Nat → α → List Value → Prop
structure Good {α : Type} (R : Rel α) : Prop where
  frame : ∀ {w w' lo hi a cs}, R w lo hi a cs → SameB lo hi w w' → R w' lo hi a cs
  wide : ∀ {w lo hi lo' hi' a cs}, R w lo hi a cs → lo' ≤ lo → hi ≤ hi' → R w lo' hi' a cs

/-- cells that are known from the datum alone -/
def FlatR {α : Type} (f : α → List Value) : Rel α := fun _ _ _ a cs => cs = f a
theorem good_flat {α : Type} (f : α → List Value) : Good (FlatR f) := ⟨fun h _ => h, fun h _ _ => h⟩

/-- the elements of a slice, k cells each -/
def RdS {α : Type} (k : Nat) (R : Rel α) (w : World) (lo hi : Nat) (A : Option Addr) (n : Nat) (L : List α) : Prop := L.length = n ∧
  (0 < n → ∃ b off, A = some ⟨b, off, none⟩ ∧ lo ≤ b ∧ b < hi ∧ ∀ j a, L[j]? = some a → ∃ es : List Value, es.length = k ∧ (∀ i u, es[i]? = some u → w.cell? ⟨b, off + j * k + i, none⟩ = some u) ∧ R w lo hi a es)
theorem RdS.nil {α : Type} (k : Nat) (R : Rel α) (w : World) (lo hi : Nat) (A : Option Addr) : RdS k R w lo hi A 0 [] := ⟨rfl, fun h => absurd h (by omega)⟩
theorem RdS.frame {α : Type} {k : Nat} {R : Rel α} (g : Good R) {w w' : World} {lo hi : Nat} {A : Option Addr} {n : Nat} {L : List α} (h : RdS k R w lo hi A n L) (hs : SameB lo hi w w') : RdS k R w' lo hi A n L := by
  obtain ⟨hl, h⟩ := h
  refine ⟨hl, fun hn => ?_⟩
  obtain ⟨b, off, rfl, h1, h2, h3⟩ := h hn
  refine ⟨b, off, rfl, h1, h2, fun j a hj => ?_⟩
  obtain ⟨es, e1, e2, e3⟩ := h3 j a hj
  exact ⟨es, e1, fun i u hu => (hs.cell h1 h2).trans (e2 i u hu), g.frame e3 hs⟩
theorem RdS.wide {α : Type} {k : Nat} {R : Rel α} (g : Good R) {w : World} {lo hi lo' hi' : Nat} {A : Option Addr} {n : Nat} {L : List α} (h : RdS k R w lo hi A n L) (hl : lo' ≤ lo) (hh : hi ≤ hi') : RdS k R w lo' hi' A n L := by
  obtain ⟨hl', h⟩ := h
  refine ⟨hl', fun hn => ?_⟩
  obtain ⟨b, off, rfl, h1, h2, h3⟩ := h hn
  refine ⟨b, off, rfl, by omega, by omega, fun j a hj => ?_⟩
  obtain ⟨es, e1, e2, e3⟩ := h3 j a hj
  exact ⟨es, e1, e2, g.wide e3 hl hh⟩
/-- a slice whose elements have k cells each -/
def SliceR {α : Type} (k : Nat) (R : Rel α) : Rel (List α) := fun w lo hi L cs => ∃ A n c, cs = [.slice A n c] ∧ n ≤ maxLen ∧ RdS k R w lo hi A n L
theorem good_slice {α : Type} {R : Rel α} (k : Nat) (g : Good R) : Good (SliceR k R) := by
  constructor
  · rintro w w' lo hi L cs ⟨A, n, c, rfl, hm, h⟩ hs
    exact ⟨A, n, c, rfl, hm, h.frame g hs⟩
  · rintro w lo hi lo' hi' L cs ⟨A, n, c, rfl, hm, h⟩ hl hh
    exact ⟨A, n, c, rfl, hm, h.wide g hl hh⟩

/-- every value of the type that can be read is such a datum -/
def Opens (P : Program) (t : TypeId) {α : Type} (R : Rel α) : Prop :=
  ∀ {H : Type} {enc : TypeId × Value → H} {w : World} {fuel : Nat} {cs : List Value} {x : DataW H × List MemPlace}, DataW.trod enc P w 0 (fun _ => true) true fuel t cs = some x → ∃ a, R w 0 w.heap.size a cs

theorem cell_lt {w : World} {a : Addr} {v : Value} (h : w.cell? a = some v) : a.block < w.heap.size := by
  unfold World.cell? at h
  split at h
  · rename_i hc; exact (Array.getElem?_eq_some_iff.1 hc).1
  · cases h

theorem list_of_all' {α : Type} (P : Nat → α → Prop) : ∀ n : Nat, (∀ i, i < n → ∃ a, P i a) → ∃ L : List α, L.length = n ∧ ∀ i a, L[i]? = some a → P i a := by
  intro n
  induction n with
  | zero => intro _; exact ⟨[], rfl, fun i a h => by simp at h⟩
  | succ n ih =>
    intro h
    obtain ⟨L, hl, hL⟩ := ih fun i hi => h i (by omega)
    obtain ⟨a, ha⟩ := h n (by omega)
    refine ⟨L ++ [a], by simp [hl], fun i b hb => ?_⟩
    rcases Nat.lt_or_ge i n with h' | h'
    · exact hL i b (by rwa [List.getElem?_append_left (by omega)] at hb)
    · rw [List.getElem?_append_right (by omega), hl] at hb
      have : i = n := by
        rcases Nat.eq_or_lt_of_le h' with h1 | h1
        · exact h1.symm
        · rw [List.getElem?_eq_none (by simp; omega)] at hb; cases hb
      subst this
      simp at hb
      subst hb; exact ha

theorem opens_slice {P : Program} {t e : TypeId} {k : Nat} {α : Type} {R : Rel α} (ht : P.underlying t = some (.slice e)) (hC : P.cellsOf e = k) (hk : 0 < k) (hR : Opens P e R) (g : Good R) : Opens P t (SliceR k R) := by
  intro H enc w fuel cs x h
  rcases open_slice ht h with ⟨rfl, _⟩ | ⟨a, len, cap, m, n, D, Pl, rfl, hb, hl, hm, hmm, hx, hel⟩
  · exact ⟨[], none, 0, 0, rfl, Nat.zero_le _, RdS.nil _ _ _ _ _ _⟩
  · simp only [if_true] at hmm
    subst hmm
    rw [hC] at hel
    have hall : ∀ i, i < len → ∃ p : α, ∃ es : List Value, es.length = k ∧ (∀ j u, es[j]? = some u → w.cell? (a.add (i * k + j)) = some u) ∧ R w 0 w.heap.size p es := by
      intro i hi
      obtain ⟨cs', hc, ht'⟩ := hel i (by omega)
      obtain ⟨_, hcl, hat⟩ := World.cells?_some hc
      obtain ⟨p, hp⟩ := hR ht'
      refine ⟨p, cs', hcl, fun j u hu => ?_, hp⟩
      have hj : j < k := by
        rcases Nat.lt_or_ge j k with h | h
        · exact h
        · rw [List.getElem?_eq_none (by omega)] at hu; cases hu
      have := hat j hj
      rw [Go.Deep.add_add] at this
      rw [this, hu]
    obtain ⟨L, hL, hLp⟩ := list_of_all' _ len hall
    refine ⟨L, some a, len, _, rfl, Nat.le_trans hl hm, hL, fun h0 => ?_⟩
    replace h0 : 0 < L.length := by omega
    obtain ⟨b, off, spot⟩ := a
    have h00 : L[0]? = some L[0] := List.getElem?_eq_getElem h0
    obtain ⟨es0, l0, c0, _⟩ := hLp 0 _ h00
    have c00 := c0 0 es0[0] (List.getElem?_eq_getElem (by omega))
    have hsp := World.cell?_spot c00
    have hbl := cell_lt c00
    have e0 : (⟨b, off, spot⟩ : Addr).add (0 * k + 0) = ⟨b, off, spot⟩ := by simp [Addr.add]
    rw [e0] at hsp hbl
    simp at hsp hbl
    subst hsp
    have hadd : ∀ j, (⟨b, off, none⟩ : Addr).add j = ⟨b, off + j, none⟩ := by
      intro j
      unfold Addr.add
      split
      · rename_i h; subst h; rfl
      · rfl
    refine ⟨b, off, rfl, Nat.zero_le _, hbl, fun j p hj => ?_⟩
    obtain ⟨es, l, c, r⟩ := hLp j p hj
    refine ⟨es, l, fun i u hu => ?_, r⟩
    have := c i u hu
    rw [hadd] at this
    rw [Nat.add_assoc]
    exact this

theorem own_at {w : World} {base e size n c : Nat} {A : Option Addr} {xs : List Value} (h : w.ownsRow base e size (.slice A n c) n xs) (hn : 0 < n) : ∃ g, A = some ⟨g, 0, none⟩ ∧ base ≤ g ∧ g < w.heap.size ∧ n ≤ c ∧
    (∀ j, j < n * size → w.cell? ⟨g, j, none⟩ = xs[j]?) ∧ ∀ j, w.frozen? ⟨g, j, none⟩ = false := by
  obtain ⟨g, hA⟩ : ∃ g, A = some ⟨g, 0, none⟩ := by
    rcases h.2 with ⟨h', h0⟩ | ⟨g, cap, cur, hv, _⟩
    · omega
    · injection hv with h1; exact ⟨g, h1⟩
  subst hA
  have hlt := h.lt g rfl
  have hc : n ≤ c := by
    rcases h.2 with ⟨h', h0⟩ | ⟨g, cap, cur, hv, _, _, h5, _⟩
    · omega
    · injection hv with h1 h2 h3; omega
  exact ⟨g, rfl, hlt.1, hlt.2, hc, fun j hj => h.cellAt j hj, fun j => h.frozenAt j⟩

/-! ### flat cells -/
theorem flat_length {α : Type} {f : α → List Value} {k : Nat} (hk : ∀ a, (f a).length = k) (L : List α) : (L.flatMap f).length = L.length * k := by
  induction L with
  | nil => simp
  | cons a L ih => rw [List.flatMap_cons, List.length_append, hk, ih, List.length_cons, Nat.add_mul]; omega
theorem flat_get {α : Type} {f : α → List Value} {k : Nat} (hk : ∀ a, (f a).length = k) : ∀ (L : List α) (j : Nat) (a : α) (i : Nat), L[j]? = some a → i < k → (L.flatMap f)[j * k + i]? = (f a)[i]? := by
  intro L
  induction L with
  | nil => intro j a i h; simp at h
  | cons b L ih =>
    intro j a i h hi
    rw [List.flatMap_cons]
    cases j with
    | zero =>
      simp at h; subst h
      rw [List.getElem?_append_left (by rw [hk]; omega)]; simp
    | succ j =>
      rw [List.getElem?_append_right (by rw [hk, Nat.add_mul]; omega), hk, show (j + 1) * k + i - k = j * k + i by rw [Nat.add_mul]; omega]
      exact ih j a i (by simpa using h) hi
theorem flat_ext {α : Type} {f : α → List Value} {k n : Nat} (hk : ∀ a, (f a).length = k) {L : List α} {ys : List Value} (hl : L.length = n) (hy : ys.length = n * k)
    (h : ∀ j a, L[j]? = some a → ∀ i, i < k → ys[j * k + i]? = (f a)[i]?) : ys = L.flatMap f := by
  apply List.ext_getElem?
  intro m
  by_cases hm : m < n * k
  · have hk0 : 0 < k := by
      rcases Nat.eq_zero_or_pos k with h0 | h0
      · subst h0; simp at hm
      · exact h0
    have hq : m / k < L.length := by rw [hl]; exact (Nat.div_lt_iff_lt_mul hk0).2 hm
    have hr := Nat.mod_lt m hk0
    have e := Nat.div_add_mod m k
    have := h (m / k) _ (List.getElem?_eq_getElem hq) (m % k) hr
    have h2 := flat_get hk L (m / k) _ (m % k) (List.getElem?_eq_getElem hq) hr
    rw [show m / k * k + m % k = m by rw [Nat.mul_comm]; exact e] at this h2
    rw [this, h2]
  · rw [List.getElem?_eq_none (by omega), List.getElem?_eq_none (by rw [flat_length hk, hl]; omega)]
theorem RdS.at {α : Type} {k : Nat} {f : α → List Value} {w : World} {lo hi : Nat} {A : Option Addr} {n : Nat} {L : List α} (h : RdS k (FlatR f) w lo hi A n L) {j : Nat} (hj : j < n) :
    ∃ b off a, A = some ⟨b, off, none⟩ ∧ lo ≤ b ∧ b < hi ∧ L[j]? = some a ∧ ∀ i u, (f a)[i]? = some u → w.cell? ⟨b, off + j * k + i, none⟩ = some u := by
  obtain ⟨hl, h⟩ := h
  obtain ⟨b, off, rfl, h1, h2, h3⟩ := h (by omega)
  have hja : L[j]? = some (L[j]'(by omega)) := List.getElem?_eq_getElem (by omega)
  obtain ⟨es, e1, e2, e3⟩ := h3 j _ hja
  exact ⟨b, off, _, rfl, h1, h2, hja, fun i u hu => e2 i u (by rw [e3]; exact hu)⟩
theorem rdS_own {α : Type} {k : Nat} {f : α → List Value} (hk : ∀ a, (f a).length = k) (hk0 : 0 < k) {w : World} {B e n c : Nat} {A : Option Addr} {L : List α} (h : w.ownsRow B e k (.slice A n c) n (L.flatMap f)) (hl : L.length = n) : RdS k (FlatR f) w B w.heap.size A n L := by
  refine ⟨hl, fun hn => ?_⟩
  rcases h.2 with ⟨h2, h3⟩ | ⟨g, cap, cur, hv, hB, hrest⟩
  · omega
  · injection hv with hA
    subst hA
    have hcells := h.cells (g := g) rfl
    have hlt := (h.lt g rfl).2
    refine ⟨g, 0, rfl, hB, hlt, fun j a hj => ⟨f a, hk a, fun i u hu => ?_, rfl⟩⟩
    have hi : i < k := by
      rcases Nat.lt_or_ge i k with h | h
      · exact h
      · rw [List.getElem?_eq_none (by rw [hk]; omega)] at hu; cases hu
    have h5 := hcells (j * k + i) u (by rw [flat_get hk L j a i hj hi, hu])
    have e : (⟨g, 0, none⟩ : Addr).add (j * k + i) = ⟨g, 0 + j * k + i, none⟩ := by unfold Addr.add; split <;> simp_all <;> omega
    rw [e] at h5
    exact h5

/-! ### kinds of elements -/
def ptC (p : Int × Int) : List Value := [.int .i64 p.1, .int .i64 p.2]
def knotC (p : Int × Int × Bool) : List Value := [.int .i64 p.1, .int .i64 p.2.1, .bool p.2.2]
def partC (p : Int × Int × Int) : List Value := [.int .i64 p.1, .int .i64 p.2.1, .int .i64 p.2.2]
def anchC (p : ByteArray × Int × Int) : List Value := [.string p.1, .int .i64 p.2.1, .int .i64 p.2.2]
def intC (n : Int) : List Value := [.int .i64 n]
def boolC (b : Bool) : List Value := [.bool b]
theorem ptC_len (p : Int × Int) : (ptC p).length = 2 := rfl
theorem knotC_len (p : Int × Int × Bool) : (knotC p).length = 3 := rfl
theorem intC_len (p : Int) : (intC p).length = 1 := rfl
theorem boolC_len (p : Bool) : (boolC p).length = 1 := rfl
end Go.Proofs.YtgelkdcggnffeaaGreat

