/- The closed facts of the row of FnExactSceneText. Conditions: none. -/
import Derived.ProofKit
import Derived.WalkKit
import Derived.WalkSpells
import Derived.WalkLawsBesides
import Derived.Lib.Hide
import Derived.Maps.AppendAt
import Derived.Deep.AppendLies
import Derived.Deep.Draws
import Derived.OwnWalk
import Derived.RegionTactic
import Derived.Deep.Slices
import Derived.Deep.Fields
import Derived.ChangeSame
import Derived.Lib.SmallJoins
import Derived.ChangeAlike
import Derived.Outline
import Derived.Deep.RegionWith
import Derived.StillTailTactics
import Derived.BigQuiet
import Derived.Deep.QuietTactic
import Derived.WalkSmall
import Derived.Test.YtfkidklpjiiclaaGreatRows
import Derived.Test.YtfkidklpjiiclaaGreatEnter
import Derived.Test.YtfkidklpjiiclaaGreatProg
namespace Go.Proofs.YtfkidklpjiiclaaGreat.fnExactSceneText
open Go.RowKit
set_option linter.unusedVariables false
set_option maxRecDepth 100000
set_option maxHeartbeats 4000000 in
theorem closedF : joinedFacts Tryz.prog 4 Tryz.f4 Rows.fnExactSceneTextSpec Rows.fnExactSceneTextRow = true := by
  simp only [joinedFacts, Bool.and_eq_true]
  repeat' (refine And.intro ?_ ?_)
  all_goals (try (with_reducible exact mayEnter_yes))
  all_goals (try (rw [liftsFinal_no]; done))
  all_goals (try (as_aux_lemma => kernel_rfl))
end Go.Proofs.YtfkidklpjiiclaaGreat.fnExactSceneText

/- Plain facts and words: no program in sight. Conditions: none. -/
namespace Go.Proofs.YtfkidklpjiiclaaGreat
open Go.RowKit
set_option linter.unusedVariables false
set_option maxRecDepth 100000

/-- a number lies in a range -/
def inB (n a b : Int) : Bool := decide (a ≤ n) && decide (n ≤ b)
theorem inB_iff {n a b : Int} : inB n a b = true ↔ a ≤ n ∧ n ≤ b := by simp [inB]
theorem inB_false {n a b : Int} : inB n a b = false ↔ n < a ∨ b < n := by
  simp only [inB, Bool.and_eq_false_iff, decide_eq_false_iff_not]; omega

/-- the integer nearest to a quotient, halves up -/
def rnd (n d : Int) : Int := (2 * n + d) / (2 * d)

theorem ret_bool {a b : Bool} (h : a = b) : Ending.returned (.bool a) = .returned (.bool b) := by rw [h]
theorem ret_string {a b : ByteArray} (h : a = b) : Ending.returned (.string a) = .returned (.string b) := by rw [h]

theorem bytes_eq {a b : ByteArray} (h : (a.toList == b.toList) = true) : a = b := by
  have h := eq_of_beq h
  rw [ByteArray.toList_eq, ByteArray.toList_eq] at h
  cases a; cases b; simp at h; simpa using h
end Go.Proofs.YtfkidklpjiiclaaGreat

/- Words for memory: element rows, appends onto a slice of the call's own, bytes that become a string. No program in sight. Conditions: none. -/
namespace Go.Proofs.YtfkidklpjiiclaaGreat
open Go.RowKit
set_option linter.unusedVariables false
set_option maxRecDepth 100000

theorem bcell {W w1 : World} (hb : Below W.heap.size W w1) : (∀ b o, b < W.heap.size → w1.cell? ⟨b, o, none⟩ = W.cell? ⟨b, o, none⟩) ∧ (∀ b o, b < W.heap.size → w1.frozen? ⟨b, o, none⟩ = W.frozen? ⟨b, o, none⟩) :=
  ⟨fun b o h => hb.cell (p := ⟨b, o, none⟩) h, fun b o h => hb.frozen (p := ⟨b, o, none⟩) h⟩

/-- the slice type t has elements of type e, each of so many cells and bytes -/
structure Elem (P : Program) (t e : TypeId) (size bytes : Nat) : Prop where
  ht : P.underlying t = some (.slice e)
  hi : ∃ i z, P.info? e = some i ∧ i.zero = some z ∧ i.size = size ∧ i.bytes = bytes ∧ z.cells.size = size
  pos : 0 < size

theorem elem_mk {P : Program} {t e : TypeId} {z : Value} {size bytes : Nat} (ht : P.underlying t = some (.slice e))
    (h : (P.info? e).map (fun i => (i.zero, i.size, i.bytes)) = some (some z, size, bytes)) (hz : z.cells.size = size) (pos : 0 < size) : Elem P t e size bytes := by
  obtain ⟨i, h1, h2, h3, h4⟩ := info_parts h
  exact ⟨ht, ⟨i, z, h1, h2, h3, h4, hz⟩, pos⟩

/-- the source of an append: m elements with the cells news -/
def Src (w : World) (size : Nat) (A : Option Addr) (m : Nat) (news : List Value) : Prop :=
  news.length = m * size ∧ (∀ u ∈ news, u.oneCell' = true) ∧ (0 < m → ∃ ad, A = some ad ∧ ∀ j u, news[j]? = some u → w.cell? (ad.add j) = some u)

theorem run_app {P : Program} {w : World} {t e : TypeId} {size bytes : Nat} (E : Elem P t e size bytes) (ty : TypeId) {base : Nat} {v : Value} {n : Nat} {xs : List Value} (hown : w.ownsRow base e size v n xs)
    {A : Option Addr} {m c : Nat} {news : List Value} (hsrc : Src w size A m news) (h63 : n + m ≤ 1000000000) (hbytes : bytes ≤ 100000) (hbase : base ≤ w.heap.size) :
    ∃ v' w', (Builtin.append_ #[t, t] ty #[v, .slice A m c]).run P w = .ok v' w' ∧ w'.ownsRow base e size v' (n + m) (xs ++ news) ∧ w.grownBy w' v.ownBlock ∧
      (v'.ownBlock = v.ownBlock ∨ v'.ownBlock = some w.heap.size) := by
  obtain ⟨ht, ⟨i, z, hi, hz, hs, hby, hzs⟩, pos⟩ := E
  obtain ⟨hl, h1, hc⟩ := hsrc
  have hb : (n + m) * bytes ≤ 140737488355328 := by
    have : (n + m) * bytes ≤ 1000000000 * 100000 := Nat.mul_le_mul h63 hbytes
    omega
  rcases Nat.eq_zero_or_pos m with h0 | h0
  · subst h0
    obtain rfl : news = [] := List.eq_nil_of_length_eq_zero (by simpa using hl)
    rcases A with _ | ad
    · refine ⟨v, w, ?_, by simpa using hown, World.grownBy.refl w _, .inl rfl⟩
      rcases hown.2 with ⟨rfl, rfl⟩ | ⟨g, cap, cur, rfl, _, _, hnc, _⟩
      · simp [Builtin.append_, run_underlying ht, sizeOf, typeInfo, hi, Builtin.lenOf, Builtin.firstCells]
      · simp [Builtin.append_, run_underlying ht, sizeOf, typeInfo, hi, Builtin.lenOf, Builtin.firstCells, hnc, storeCells]
    · obtain ⟨v', w', h1, h2, h3, _, h5⟩ := run_append_own_at (P := P) w base t ty e i z size bytes ht hi hz hs hby hzs pos v n xs hown ad 0 c [] (by simp) (by simp) (by simp) (by unfold maxLen; omega) hb hbase
      exact ⟨v', w', h1, h2, h3, h5⟩
  · obtain ⟨ad, rfl, hcc⟩ := hc h0
    obtain ⟨v', w', h1, h2, h3, _, h5⟩ := run_append_own_at (P := P) w base t ty e i z size bytes ht hi hz hs hby hzs pos v n xs hown ad m c news hl hcc h1 (by unfold maxLen; omega) hb hbase
    exact ⟨v', w', h1, h2, h3, h5⟩

theorem own_form {w : World} {base e size n : Nat} {v : Value} {xs : List Value} (h : w.ownsRow base e size v n xs) : ∃ A c, v = .slice A n c := by
  rcases h.2 with ⟨rfl, rfl⟩ | ⟨g, cap, cur, rfl, _⟩
  · exact ⟨_, _, rfl⟩
  · exact ⟨_, _, rfl⟩

theorem wpAppAt {P : Program} {w : World} {ops : Array Oper} {rest : List Oper} {o : Oper} {a : Act} {Q : Exit → Act → World → Prop} (hgd : o.guard = none) (s x : Operand) {t e : TypeId} {size bytes : Nat} (E : Elem P t e size bytes)
    (ho : o.op = .call { callee := .builtin .append, args := #[s, x], argTypes := #[t, t] })
    {base : Nat} {v : Value} {n : Nat} {xs : List Value} (hs : a.eval s = v) (hown : w.ownsRow base e size v n xs)
    {A : Option Addr} {m c : Nat} {news : List Value} (hx : a.eval x = .slice A m c) (hsrc : Src w size A m news) (h63 : n + m ≤ 1000000000) (hbytes : bytes ≤ 100000) (hbase : base ≤ w.heap.size) (k : Nat) (hk : k = n + m)
    (h : ∀ A' c' w', w'.ownsRow base e size (.slice A' k c') k (xs ++ news) → w.grownBy w' v.ownBlock → ((Value.slice A' k c').ownBlock = v.ownBlock ∨ (Value.slice A' k c').ownBlock = some w.heap.size) → wpList P ops Q rest (a.put o.dst (.slice A' k c')) w') :
    wpList P ops Q (o :: rest) a w := by
  refine wpList_plain hgd fun K hK => ?_
  obtain ⟨v', w', hr, h2, h3, h4⟩ := run_app (P := P) E o.type hown (c := c) hsrc h63 hbytes hbase
  obtain ⟨A', c', rfl⟩ := own_form h2
  unfold Oper.wp execOp
  simp only [ho, resolve, invoke, builtin, Sem.run_bind, Sem.run_pure, Result.andThen_ok, List.map_toArray, List.map_cons, List.map_nil, hs, hx, hr]
  subst hk
  exact hK _ _ (h A' c' w' h2 h3 h4)

/-- what an append may have written lies from base on -/
theorem below_app {base : Nat} {w w' : World} {v : Value} {e size n : Nat} {xs : List Value} (hown : w.ownsRow base e size v n xs) (hg : w.grownBy w' v.ownBlock) (hb : base ≤ w.heap.size) : Below base w w' :=
  (Below.refl base w).grown hg hb (fun k hk => (hown.lt k hk).1)

theorem wpApp {P : Program} {w : World} {ops : Array Oper} {rest : List Oper} {o : Oper} {a : Act} {Q : Exit → Act → World → Prop} (hgd : o.guard = none) (s x : Operand) {t e : TypeId} {size bytes : Nat} (E : Elem P t e size bytes)
    (ho : o.op = .call { callee := .builtin .append, args := #[s, x], argTypes := #[t, t] })
    {base : Nat} {v : Value} {n : Nat} {xs : List Value} (hs : a.eval s = v) (hown : w.ownsRow base e size v n xs)
    {A : Option Addr} {m c : Nat} {news : List Value} (hx : a.eval x = .slice A m c) (hsrc : Src w size A m news) (h63 : n + m ≤ 1000000000) (hbytes : bytes ≤ 100000) (hbase : base ≤ w.heap.size) (k : Nat) (hk : k = n + m)
    (h : ∀ A' c' w', w'.ownsRow base e size (.slice A' k c') k (xs ++ news) → Below base w w' → wpList P ops Q rest (a.put o.dst (.slice A' k c')) w') :
    wpList P ops Q (o :: rest) a w :=
  wpAppAt hgd s x E ho hs hown hx hsrc h63 hbytes hbase k hk fun A' c' w' h1 h2 _ => h A' c' w' h1 (below_app hown h2 hbase)

/-- one new block of cells as the source of an append -/
theorem src_new {w : World} {size : Nat} {cs : List Value} {t : TypeId} (hl : cs.length = size) (h1 : ∀ u ∈ cs, u.oneCell' = true) : Src (w.alloc (.cells cs.toArray t)) size (some ⟨w.heap.size, 0, none⟩) 1 cs :=
  ⟨by simp [hl], h1, fun _ => ⟨_, rfl, fun j u hu => by
    have : (⟨w.heap.size, 0, none⟩ : Addr).add j = ⟨w.heap.size, j, none⟩ := by unfold Addr.add; split <;> simp_all
    rw [this, cell_of_row _ _ _ _ _ _ (heap_alloc_new w _)]
    simpa using hu⟩⟩

theorem src_at {w : World} {size b : Nat} {cs : List Value} {t : TypeId} (hl : cs.length = size) (h1 : ∀ u ∈ cs, u.oneCell' = true) (hb : b = w.heap.size) : Src (w.alloc (.cells cs.toArray t)) size (some ⟨b, 0, none⟩) 1 cs := by
  subst hb; exact src_new hl h1

/-- an owned row as the source of an append -/
theorem src_own {w : World} {base e size n : Nat} {A : Option Addr} {c : Nat} {xs : List Value} (h : w.ownsRow base e size (.slice A n c) n xs) (h1 : ∀ u ∈ xs, u.oneCell' = true) : Src w size A n xs := by
  refine ⟨h.1, h1, fun hn => ?_⟩
  rcases h.2 with ⟨h2, h3⟩ | ⟨g, cap, cur, hv, _⟩
  · omega
  · have hA : A = some ⟨g, 0, none⟩ := by injection hv
    subst hA
    exact ⟨_, rfl, h.cells (g := g) rfl⟩

theorem own_below {w w' : World} {base e size n : Nat} {v : Value} {xs : List Value} (h : w.ownsRow base e size v n xs) (hb : Below w.heap.size w w') : w'.ownsRow base e size v n xs :=
  h.kept (row := none) ⟨hb.os, hb.tape, hb.output, hb.size, fun k hk _ => hb.block k hk⟩ (by cases v.ownBlock <;> simp)
/-! ### bytes -/
def byteV (ds : List UInt8) : List Value := ds.map fun c => .int .u8 c.toNat
theorem byteV_one (ds : List UInt8) : ∀ u ∈ byteV ds, u.oneCell' = true := by
  intro u hu
  obtain ⟨c, _, rfl⟩ := List.mem_map.1 hu
  rfl
@[simp] theorem byteV_length (ds : List UInt8) : (byteV ds).length = ds.length := by simp [byteV]
theorem byteV_append (a b : List UInt8) : byteV (a ++ b) = byteV a ++ byteV b := by simp [byteV]

theorem foldl_push (ds : List UInt8) (s : ByteArray) : (ds.map fun c : UInt8 => (c.toNat : Int)).foldl (fun r n => r.push (UInt8.ofNat n.toNat)) s = ⟨s.data ++ ds.toArray⟩ := by
  induction ds generalizing s with
  | nil => cases s; simp
  | cons c ds ih =>
    simp only [List.map_cons, List.foldl_cons]
    rw [ih]
    cases s
    simp [ByteArray.push]

theorem run_bytes_str {P : Program} {w : World} {src dst e : TypeId} (hs : P.underlying src = some (.slice e)) (he : P.underlying e = some (.int .u8)) (hd : P.underlying dst = some .string)
    {A : Option Addr} {n c : Nat} {ds : List UInt8} (hsrc : Src w 1 A n (byteV ds)) (hA : A = none → n = 0) :
    (convert src dst (.slice A n c)).run P w = .ok (.string ⟨ds.toArray⟩) w := by
  rw [run_convert_bytes_string w src dst e A n c hs he hd]
  obtain ⟨hl, _, hc⟩ := hsrc
  simp at hl
  rcases A with _ | ad
  · have := hA rfl
    subst this
    obtain rfl : ds = [] := List.eq_nil_of_length_eq_zero hl
    simp [Conv.bytesToString, Sem.run_pure]; rfl
  · have hcells : ∀ j v, (byteV ds)[j]? = some v → w.cell? (ad.add j) = some v := by
      intro j v hv
      rcases Nat.eq_zero_or_pos n with h0 | h0
      · subst h0
        obtain rfl : ds = [] := List.eq_nil_of_length_eq_zero hl
        simp [byteV] at hv
      · obtain ⟨ad', h, hc⟩ := hc h0
        injection h with h
        subst h
        exact hc j v hv
    have hrun := run_loadCells_list (P := P) (w := w) ad (byteV ds) hcells
    simp only [byteV_length, hl] at hrun
    have e1 : byteV ds = (ds.map fun c : UInt8 => (c.toNat : Int)).map (Value.int .u8) := by simp [byteV]
    rw [e1] at hrun
    rw [run_bytesToString w ad n c _ hrun, foldl_push]
    have e2 : (ByteArray.empty).data = #[] := rfl
    rw [e2, Array.empty_append]
end Go.Proofs.YtfkidklpjiiclaaGreat

/- Data in memory, read by types' shapes: slices of whatever element, opened out of an argument, kept under a frame. No program in sight. Conditions: none. -/
namespace Go.Proofs.YtfkidklpjiiclaaGreat
open Go.RowKit Go.ChangeShapes Go.WideShapes Go.Deep
set_option linter.unusedVariables false
set_option maxRecDepth 100000

/-- the blocks from lo to hi are as they were -/
def SameB (lo hi : Nat) (w w' : World) : Prop := ∀ k, lo ≤ k → k < hi → w'.heap[k]? = w.heap[k]?
theorem SameB.refl (lo hi : Nat) (w : World) : SameB lo hi w w := fun _ _ _ => rfl
theorem SameB.trans {lo hi : Nat} {a b c : World} (h : SameB lo hi a b) (k : SameB lo hi b c) : SameB lo hi a c := fun i h1 h2 => (k i h1 h2).trans (h i h1 h2)
theorem SameB.mono {lo hi lo' hi' : Nat} {w w' : World} (h : SameB lo hi w w') (h1 : lo ≤ lo') (h2 : hi' ≤ hi) : SameB lo' hi' w w' := fun k k1 k2 => h k (by omega) (by omega)
theorem SameB.cell {lo hi : Nat} {w w' : World} (h : SameB lo hi w w') {p : Addr} (h1 : lo ≤ p.block) (h2 : p.block < hi) : w'.cell? p = w.cell? p := World.cell?_of_block (w := w) (h p.block h1 h2)
theorem SameB.frozen {lo hi : Nat} {w w' : World} (h : SameB lo hi w w') {p : Addr} (h1 : lo ≤ p.block) (h2 : p.block < hi) : w'.frozen? p = w.frozen? p := World.frozen?_of_block (w := w) (h p.block h1 h2)
theorem Below.sameB {B lo hi : Nat} {w w' : World} (h : Below B w w') (hB : hi ≤ B) : SameB lo hi w w' := fun k _ k2 => h.block k (by omega)
theorem SameB.setCell {lo hi : Nat} {a w : World} (h : SameB lo hi a w) {p : Addr} (hp : p.block < lo ∨ hi ≤ p.block) (u : Value) : SameB lo hi a (w.setCell p u) :=
  h.trans fun k k1 k2 => Below.heap_setCell w p u k (by omega)
theorem SameB.alloc {lo hi : Nat} {a w : World} (h : SameB lo hi a w) (hw : hi ≤ w.heap.size) (o : Obj) : SameB lo hi a (w.alloc o) :=
  h.trans fun k k1 k2 => Below.heap_alloc w o k (by omega)
theorem SameB.drewN {lo hi : Nat} {a w : World} (h : SameB lo hi a w) (n : Nat) : SameB lo hi a (w.drewN n) := h
theorem SameB.drew {lo hi : Nat} {a w : World} (h : SameB lo hi a w) : SameB lo hi a w.drew := h
theorem heap_new0 (w : World) (a b c : Obj) : (((w.alloc a).alloc b).alloc c).heap[w.heap.size]? = some a ∧ (((w.alloc a).alloc b).alloc c).heap[w.heap.size + 1]? = some b ∧ (((w.alloc a).alloc b).alloc c).heap[w.heap.size + 2]? = some c := by
  have h1 := heap_alloc_new w a
  have h2 := heap_alloc_new (w.alloc a) b
  have h3 := heap_alloc_new ((w.alloc a).alloc b) c
  have s1 : (w.alloc a).heap.size = w.heap.size + 1 := by simp
  have s2 : ((w.alloc a).alloc b).heap.size = w.heap.size + 2 := by simp
  rw [s1] at h2
  rw [s2] at h3
  exact ⟨(Below.heap_alloc _ c _ (by omega)).trans ((Below.heap_alloc _ b _ (by omega)).trans h1), (Below.heap_alloc _ c _ (by omega)).trans h2, h3⟩
/-- a slice's head -/
structure Hd where
  A : Option Addr
  n : Nat
  c : Nat

/-- how a datum lies in cells: the blocks that it reaches lie from lo to hi -/
abbrev Rel (α : Type) := World → Nat → Nat → α → List Value → Prop
structure Good {α : Type} (R : Rel α) : Prop where
  frame : ∀ {w w' lo hi a cs}, R w lo hi a cs → SameB lo hi w w' → R w' lo hi a cs
  wide : ∀ {w lo hi lo' hi' a cs}, R w lo hi a cs → lo' ≤ lo → hi ≤ hi' → R w lo' hi' a cs

/-- cells that are known from the datum alone -/
def FlatR {α : Type} (f : α → List Value) : Rel α := fun _ _ _ a cs => cs = f a
theorem good_flat {α : Type} (f : α → List Value) : Good (FlatR f) := ⟨fun h _ => h, fun h _ _ => h⟩

/-- the elements of a slice, k cells each -/
def RdS {α : Type} (k : Nat) (R : Rel α) (w : World) (lo hi : Nat) (A : Option Addr) (n : Nat) (L : List α) : Prop := L.length = n ∧
  (0 < n → ∃ b off, A = some ⟨b, off, none⟩ ∧ lo ≤ b ∧ b < hi ∧ ∀ j a, L[j]? = some a → ∃ es : List Value, es.length = k ∧ (∀ i u, es[i]? = some u → w.cell? ⟨b, off + j * k + i, none⟩ = some u) ∧ R w lo hi a es)
theorem RdS.nil {α : Type} (k : Nat) (R : Rel α) (w : World) (lo hi : Nat) (A : Option Addr) : RdS k R w lo hi A 0 [] := ⟨rfl, fun h => absurd h (by omega)⟩
theorem RdS.frame {α : Type} {k : Nat} {R : Rel α} (g : Good R) {w w' : World} {lo hi : Nat} {A : Option Addr} {n : Nat} {L : List α} (h : RdS k R w lo hi A n L) (hs : SameB lo hi w w') : RdS k R w' lo hi A n L := by
  obtain ⟨hl, h⟩ := h
  refine ⟨hl, fun hn => ?_⟩
  obtain ⟨b, off, rfl, h1, h2, h3⟩ := h hn
  refine ⟨b, off, rfl, h1, h2, fun j a hj => ?_⟩
  obtain ⟨es, e1, e2, e3⟩ := h3 j a hj
  exact ⟨es, e1, fun i u hu => (hs.cell h1 h2).trans (e2 i u hu), g.frame e3 hs⟩
theorem RdS.wide {α : Type} {k : Nat} {R : Rel α} (g : Good R) {w : World} {lo hi lo' hi' : Nat} {A : Option Addr} {n : Nat} {L : List α} (h : RdS k R w lo hi A n L) (hl : lo' ≤ lo) (hh : hi ≤ hi') : RdS k R w lo' hi' A n L := by
  obtain ⟨hl', h⟩ := h
  refine ⟨hl', fun hn => ?_⟩
  obtain ⟨b, off, rfl, h1, h2, h3⟩ := h hn
  refine ⟨b, off, rfl, by omega, by omega, fun j a hj => ?_⟩
  obtain ⟨es, e1, e2, e3⟩ := h3 j a hj
  exact ⟨es, e1, e2, g.wide e3 hl hh⟩
/-- a slice whose elements have k cells each -/
def SliceR {α : Type} (k : Nat) (R : Rel α) : Rel (List α) := fun w lo hi L cs => ∃ A n c, cs = [.slice A n c] ∧ n ≤ maxLen ∧ RdS k R w lo hi A n L
theorem good_slice {α : Type} {R : Rel α} (k : Nat) (g : Good R) : Good (SliceR k R) := by
  constructor
  · rintro w w' lo hi L cs ⟨A, n, c, rfl, hm, h⟩ hs
    exact ⟨A, n, c, rfl, hm, h.frame g hs⟩
  · rintro w lo hi lo' hi' L cs ⟨A, n, c, rfl, hm, h⟩ hl hh
    exact ⟨A, n, c, rfl, hm, h.wide g hl hh⟩

/-- every value of the type that can be read is such a datum -/
def Opens (P : Program) (t : TypeId) {α : Type} (R : Rel α) : Prop :=
  ∀ {H : Type} {enc : TypeId × Value → H} {w : World} {fuel : Nat} {cs : List Value} {x : DataW H × List MemPlace}, DataW.trod enc P w 0 (fun _ => true) true fuel t cs = some x → ∃ a, R w 0 w.heap.size a cs

theorem cell_lt {w : World} {a : Addr} {v : Value} (h : w.cell? a = some v) : a.block < w.heap.size := by
  unfold World.cell? at h
  split at h
  · rename_i hc; exact (Array.getElem?_eq_some_iff.1 hc).1
  · cases h

theorem list_of_all' {α : Type} (P : Nat → α → Prop) : ∀ n : Nat, (∀ i, i < n → ∃ a, P i a) → ∃ L : List α, L.length = n ∧ ∀ i a, L[i]? = some a → P i a := by
  intro n
  induction n with
  | zero => intro _; exact ⟨[], rfl, fun i a h => by simp at h⟩
  | succ n ih =>
    intro h
    obtain ⟨L, hl, hL⟩ := ih fun i hi => h i (by omega)
    obtain ⟨a, ha⟩ := h n (by omega)
    refine ⟨L ++ [a], by simp [hl], fun i b hb => ?_⟩
    rcases Nat.lt_or_ge i n with h' | h'
    · exact hL i b (by rwa [List.getElem?_append_left (by omega)] at hb)
    · rw [List.getElem?_append_right (by omega), hl] at hb
      have : i = n := by
        rcases Nat.eq_or_lt_of_le h' with h1 | h1
        · exact h1.symm
        · rw [List.getElem?_eq_none (by simp; omega)] at hb; cases hb
      subst this
      simp at hb
      subst hb; exact ha

theorem opens_slice {P : Program} {t e : TypeId} {k : Nat} {α : Type} {R : Rel α} (ht : P.underlying t = some (.slice e)) (hC : P.cellsOf e = k) (hk : 0 < k) (hR : Opens P e R) (g : Good R) : Opens P t (SliceR k R) := by
  intro H enc w fuel cs x h
  rcases open_slice ht h with ⟨rfl, _⟩ | ⟨a, len, cap, m, n, D, Pl, rfl, hb, hl, hm, hmm, hx, hel⟩
  · exact ⟨[], none, 0, 0, rfl, Nat.zero_le _, RdS.nil _ _ _ _ _ _⟩
  · simp only [if_true] at hmm
    subst hmm
    rw [hC] at hel
    have hall : ∀ i, i < len → ∃ p : α, ∃ es : List Value, es.length = k ∧ (∀ j u, es[j]? = some u → w.cell? (a.add (i * k + j)) = some u) ∧ R w 0 w.heap.size p es := by
      intro i hi
      obtain ⟨cs', hc, ht'⟩ := hel i (by omega)
      obtain ⟨_, hcl, hat⟩ := World.cells?_some hc
      obtain ⟨p, hp⟩ := hR ht'
      refine ⟨p, cs', hcl, fun j u hu => ?_, hp⟩
      have hj : j < k := by
        rcases Nat.lt_or_ge j k with h | h
        · exact h
        · rw [List.getElem?_eq_none (by omega)] at hu; cases hu
      have := hat j hj
      rw [Go.Deep.add_add] at this
      rw [this, hu]
    obtain ⟨L, hL, hLp⟩ := list_of_all' _ len hall
    refine ⟨L, some a, len, _, rfl, Nat.le_trans hl hm, hL, fun h0 => ?_⟩
    replace h0 : 0 < L.length := by omega
    obtain ⟨b, off, spot⟩ := a
    have h00 : L[0]? = some L[0] := List.getElem?_eq_getElem h0
    obtain ⟨es0, l0, c0, _⟩ := hLp 0 _ h00
    have c00 := c0 0 es0[0] (List.getElem?_eq_getElem (by omega))
    have hsp := World.cell?_spot c00
    have hbl := cell_lt c00
    have e0 : (⟨b, off, spot⟩ : Addr).add (0 * k + 0) = ⟨b, off, spot⟩ := by simp [Addr.add]
    rw [e0] at hsp hbl
    simp at hsp hbl
    subst hsp
    have hadd : ∀ j, (⟨b, off, none⟩ : Addr).add j = ⟨b, off + j, none⟩ := by
      intro j
      unfold Addr.add
      split
      · rename_i h; subst h; rfl
      · rfl
    refine ⟨b, off, rfl, Nat.zero_le _, hbl, fun j p hj => ?_⟩
    obtain ⟨es, l, c, r⟩ := hLp j p hj
    refine ⟨es, l, fun i u hu => ?_, r⟩
    have := c i u hu
    rw [hadd] at this
    rw [Nat.add_assoc]
    exact this

theorem opens_int {P : Program} {t : TypeId} {k : IntKind} (ht : P.underlying t = some (.int k)) : Opens P t (FlatR (α := Int) fun n => [.int k n]) := by
  intro H enc w fuel cs x h
  obtain ⟨n, rfl, _, _⟩ := DataW.trod_int ht h
  exact ⟨n, rfl⟩
theorem opens_bool {P : Program} {t : TypeId} (ht : P.underlying t = some .bool) : Opens P t (FlatR (α := Bool) fun b => [.bool b]) := by
  intro H enc w fuel cs x h
  obtain ⟨n, rfl, _⟩ := DataW.trod_bool ht h
  exact ⟨n, rfl⟩
/-- the fields of a struct, each by its own reading -/
theorem struct_fields {P : Program} {t : TypeId} {fs : Array Field} (ht : P.underlying t = some (.struct fs)) {H : Type} {enc : TypeId × Value → H} {w : World} {fuel : Nat} {cs : List Value} {x : DataW H × List MemPlace} (h : DataW.trod enc P w 0 (fun _ => true) true fuel t cs = some x) :
    cs.length = P.cellsOf t ∧ ∀ (i : Nat) (f : Field), fs[i]? = some f → ∃ n y, DataW.trod enc P w 0 (fun _ => true) true n f.type ((cs.drop f.offset).take (P.cellsOf f.type)) = some y := by
  obtain ⟨ys, n, _, _, hlen, hyl, hf⟩ := DataW.trod_struct ht h
  refine ⟨hlen, fun i f hi => ?_⟩
  have hlt : i < ys.length := by rw [hyl]; exact (Array.getElem?_eq_some_iff.1 hi).1
  exact ⟨n, ys[i], by rw [hf i f hi, List.getElem?_eq_getElem hlt]⟩
theorem struct_field {P : Program} {fs : Array Field} {H : Type} {enc : TypeId × Value → H} {w : World} {cs : List Value}
    (hf : ∀ (i : Nat) (f : Field), fs[i]? = some f → ∃ n y, DataW.trod enc P w 0 (fun _ => true) true n f.type ((cs.drop f.offset).take (P.cellsOf f.type)) = some y) (i : Nat) (T : TypeId) (off k : Nat) {f : Field} (h : fs[i]? = some f) (hT : f.type = T) (ho : f.offset = off) (hk : P.cellsOf T = k) :
    ∃ n y, DataW.trod enc P w 0 (fun _ => true) true n T ((cs.drop off).take k) = some y := by
  subst hT ho hk; exact hf i f h
theorem opens_struct1 {P : Program} {t : TypeId} {f0 : Field} {k : Nat} {α : Type} {R : Rel α} (ht : P.underlying t = some (.struct #[f0])) (hc : (P.cellsOf t, f0.offset, P.cellsOf f0.type) = (k, 0, k)) (h0 : Opens P f0.type R) : Opens P t R := by
  intro H enc w fuel cs x h
  obtain ⟨hl, hf⟩ := struct_fields ht h
  obtain ⟨n, y, hy⟩ := hf 0 f0 rfl
  simp only [Prod.mk.injEq] at hc
  obtain ⟨c1, c2, c3⟩ := hc
  rw [c2, c3, List.drop_zero, List.take_of_length_le (by omega)] at hy
  exact h0 hy

theorem own_at {w : World} {base e size n c : Nat} {A : Option Addr} {xs : List Value} (h : w.ownsRow base e size (.slice A n c) n xs) (hn : 0 < n) : ∃ g, A = some ⟨g, 0, none⟩ ∧ base ≤ g ∧ g < w.heap.size ∧ n ≤ c ∧
    (∀ j, j < n * size → w.cell? ⟨g, j, none⟩ = xs[j]?) ∧ ∀ j, w.frozen? ⟨g, j, none⟩ = false := by
  obtain ⟨g, hA⟩ : ∃ g, A = some ⟨g, 0, none⟩ := by
    rcases h.2 with ⟨h', h0⟩ | ⟨g, cap, cur, hv, _⟩
    · omega
    · injection hv with h1; exact ⟨g, h1⟩
  subst hA
  have hlt := h.lt g rfl
  have hc : n ≤ c := by
    rcases h.2 with ⟨h', h0⟩ | ⟨g, cap, cur, hv, _, _, h5, _⟩
    · omega
    · injection hv with h1 h2 h3; omega
  exact ⟨g, rfl, hlt.1, hlt.2, hc, fun j hj => h.cellAt j hj, fun j => h.frozenAt j⟩

/-! ### flat cells -/
theorem flat_length {α : Type} {f : α → List Value} {k : Nat} (hk : ∀ a, (f a).length = k) (L : List α) : (L.flatMap f).length = L.length * k := by
  induction L with
  | nil => simp
  | cons a L ih => rw [List.flatMap_cons, List.length_append, hk, ih, List.length_cons, Nat.add_mul]; omega
theorem flat_get {α : Type} {f : α → List Value} {k : Nat} (hk : ∀ a, (f a).length = k) : ∀ (L : List α) (j : Nat) (a : α) (i : Nat), L[j]? = some a → i < k → (L.flatMap f)[j * k + i]? = (f a)[i]? := by
  intro L
  induction L with
  | nil => intro j a i h; simp at h
  | cons b L ih =>
    intro j a i h hi
    rw [List.flatMap_cons]
    cases j with
    | zero =>
      simp at h; subst h
      rw [List.getElem?_append_left (by rw [hk]; omega)]; simp
    | succ j =>
      rw [List.getElem?_append_right (by rw [hk, Nat.add_mul]; omega), hk, show (j + 1) * k + i - k = j * k + i by rw [Nat.add_mul]; omega]
      exact ih j a i (by simpa using h) hi
theorem flat_ext {α : Type} {f : α → List Value} {k n : Nat} (hk : ∀ a, (f a).length = k) {L : List α} {ys : List Value} (hl : L.length = n) (hy : ys.length = n * k)
    (h : ∀ j a, L[j]? = some a → ∀ i, i < k → ys[j * k + i]? = (f a)[i]?) : ys = L.flatMap f := by
  apply List.ext_getElem?
  intro m
  by_cases hm : m < n * k
  · have hk0 : 0 < k := by
      rcases Nat.eq_zero_or_pos k with h0 | h0
      · subst h0; simp at hm
      · exact h0
    have hq : m / k < L.length := by rw [hl]; exact (Nat.div_lt_iff_lt_mul hk0).2 hm
    have hr := Nat.mod_lt m hk0
    have e := Nat.div_add_mod m k
    have := h (m / k) _ (List.getElem?_eq_getElem hq) (m % k) hr
    have h2 := flat_get hk L (m / k) _ (m % k) (List.getElem?_eq_getElem hq) hr
    rw [show m / k * k + m % k = m by rw [Nat.mul_comm]; exact e] at this h2
    rw [this, h2]
  · rw [List.getElem?_eq_none (by omega), List.getElem?_eq_none (by rw [flat_length hk, hl]; omega)]
theorem RdS.at {α : Type} {k : Nat} {f : α → List Value} {w : World} {lo hi : Nat} {A : Option Addr} {n : Nat} {L : List α} (h : RdS k (FlatR f) w lo hi A n L) {j : Nat} (hj : j < n) :
    ∃ b off a, A = some ⟨b, off, none⟩ ∧ lo ≤ b ∧ b < hi ∧ L[j]? = some a ∧ ∀ i u, (f a)[i]? = some u → w.cell? ⟨b, off + j * k + i, none⟩ = some u := by
  obtain ⟨hl, h⟩ := h
  obtain ⟨b, off, rfl, h1, h2, h3⟩ := h (by omega)
  have hja : L[j]? = some (L[j]'(by omega)) := List.getElem?_eq_getElem (by omega)
  obtain ⟨es, e1, e2, e3⟩ := h3 j _ hja
  exact ⟨b, off, _, rfl, h1, h2, hja, fun i u hu => e2 i u (by rw [e3]; exact hu)⟩
theorem rdS_own {α : Type} {k : Nat} {f : α → List Value} (hk : ∀ a, (f a).length = k) (hk0 : 0 < k) {w : World} {B e n c : Nat} {A : Option Addr} {L : List α} (h : w.ownsRow B e k (.slice A n c) n (L.flatMap f)) (hl : L.length = n) : RdS k (FlatR f) w B w.heap.size A n L := by
  refine ⟨hl, fun hn => ?_⟩
  rcases h.2 with ⟨h2, h3⟩ | ⟨g, cap, cur, hv, hB, hrest⟩
  · omega
  · injection hv with hA
    subst hA
    have hcells := h.cells (g := g) rfl
    have hlt := (h.lt g rfl).2
    refine ⟨g, 0, rfl, hB, hlt, fun j a hj => ⟨f a, hk a, fun i u hu => ?_, rfl⟩⟩
    have hi : i < k := by
      rcases Nat.lt_or_ge i k with h | h
      · exact h
      · rw [List.getElem?_eq_none (by rw [hk]; omega)] at hu; cases hu
    have h5 := hcells (j * k + i) u (by rw [flat_get hk L j a i hj hi, hu])
    have e : (⟨g, 0, none⟩ : Addr).add (j * k + i) = ⟨g, 0 + j * k + i, none⟩ := by unfold Addr.add; split <;> simp_all <;> omega
    rw [e] at h5
    exact h5

theorem take_eq_step {α : Type} {L M : List α} {k : Nat} {a : α} (h : L.take k = M.take k) (h1 : L[k]? = some a) (h2 : M[k]? = some a) : L.take (k + 1) = M.take (k + 1) := by
  have hl : k < L.length := (List.getElem?_eq_some_iff.1 h1).1
  have hm : k < M.length := (List.getElem?_eq_some_iff.1 h2).1
  rw [List.take_succ_eq_append_getElem hl, List.take_succ_eq_append_getElem hm, h]
  rw [List.getElem?_eq_getElem hl] at h1
  rw [List.getElem?_eq_getElem hm] at h2
  injection h1 with h1; injection h2 with h2
  rw [h1, h2]
theorem take_eq_done {α : Type} {L M : List α} {n : Nat} (h : L.take n = M.take n) (h1 : L.length = n) (h2 : M.length = n) : L = M := by
  rw [List.take_of_length_le (by omega), List.take_of_length_le (by omega)] at h; exact h
theorem ne_of_at {α : Type} {L M : List α} {k : Nat} {a b : α} (h1 : L[k]? = some a) (h2 : M[k]? = some b) (h : a ≠ b) : L ≠ M := by
  rintro rfl; rw [h1] at h2; injection h2 with h2; exact h h2

/-! ### kinds of elements -/
def ptC (p : Int × Int) : List Value := [.int .i64 p.1, .int .i64 p.2]
def knotC (p : Int × Int × Bool) : List Value := [.int .i64 p.1, .int .i64 p.2.1, .bool p.2.2]
def partC (p : Int × Int × Int) : List Value := [.int .i64 p.1, .int .i64 p.2.1, .int .i64 p.2.2]
def anchC (p : ByteArray × Int × Int) : List Value := [.string p.1, .int .i64 p.2.1, .int .i64 p.2.2]
def intC (n : Int) : List Value := [.int .i64 n]
def boolC (b : Bool) : List Value := [.bool b]
theorem ptC_len (p : Int × Int) : (ptC p).length = 2 := rfl
theorem knotC_len (p : Int × Int × Bool) : (knotC p).length = 3 := rfl
theorem partC_len (p : Int × Int × Int) : (partC p).length = 3 := rfl
theorem anchC_len (p : ByteArray × Int × Int) : (anchC p).length = 3 := rfl
theorem intC_len (p : Int) : (intC p).length = 1 := rfl
end Go.Proofs.YtfkidklpjiiclaaGreat

/- The laws' own functions on slices of Bool. Conditions: as each states. -/
namespace Go.Proofs.YtfkidklpjiiclaaGreat
open Go.RowKit
set_option linter.unusedVariables false
set_option maxRecDepth 100000

end Go.Proofs.YtfkidklpjiiclaaGreat

/- The laws' own functions on slices of Int64. Conditions: as each states. -/
namespace Go.Proofs.YtfkidklpjiiclaaGreat
open Go.RowKit
set_option linter.unusedVariables false
set_option maxRecDepth 100000

theorem infoInt64 : (Tryz.prog.info? 2).map (fun i => (i.zero, i.size, i.bytes)) = some (some (.int .i64 0), 1, 8) := by kernel_rfl

end Go.Proofs.YtfkidklpjiiclaaGreat

/- The laws' own functions on slices of Pt. Conditions: as each states. -/
namespace Go.Proofs.YtfkidklpjiiclaaGreat
open Go.RowKit
set_option linter.unusedVariables false
set_option maxRecDepth 100000

theorem toPt_any (x0 : Int) (x1 : Int) (w : World) :
    Calls Tryz.prog 157 #[.agg #[.int .i64 x0, .int .i64 x1]] w fun e w' => e = .returned (.agg #[.int .i64 x0, .int .i64 x1]) ∧ Below w.heap.size w w' := by
  go_enter Tryz.func157, Tryz.ntmps157
  go_wp2_with fail
  refine bodyPost_ret (v := .agg #[.int .i64 x0, .int .i64 x1]) (by simp [results, Tryz.results157, go_sem]) rfl ⟨rfl, ?_⟩
  repeat (first | exact Below.refl _ _ | assumption | refine Below.alloc ?_ (by simp <;> omega) _ | refine Below.drew ?_ | refine Below.setCell ?_ (by simp <;> omega) _ | (refine Below.trans ?_ (hb1.mono (by simp <;> omega))))

theorem eqPt_any (x0 : Int) (x1 : Int) (w : World) :
    Calls Tryz.prog 169 #[.agg #[.int .i64 x0, .int .i64 x1], .agg #[.int .i64 x0, .int .i64 x1]] w fun e w' => e = .returned (.bool true) ∧ Below w.heap.size w w' := by
  go_enter Tryz.func169, Tryz.ntmps169
  go_wp2_with fail
  go_ret
  refine ⟨rfl, ?_⟩
  repeat (first | exact Below.refl _ _ | assumption | refine Below.alloc ?_ (by simp <;> omega) _ | refine Below.drew ?_ | refine Below.setCell ?_ (by simp <;> omega) _ | (refine Below.trans ?_ (hb1.mono (by simp <;> omega))))

theorem elemPt : Elem Tryz.prog 85 148 2 16 := elem_mk (z := .agg #[.int .i64 0, .int .i64 0]) Tryz.underlying85 (by kernel_rfl) rfl (by omega)
theorem infoPt : (Tryz.prog.info? 148).map (fun i => (i.zero, i.size, i.bytes)) = some (some (.agg #[.int .i64 0, .int .i64 0]), 2, 16) := by kernel_rfl

theorem szPtS_any (A : Option Addr) (n c : Nat) (left : Int) (w : World) (hn : n ≤ 9223372036854775807) (h0 : 0 ≤ left) (h1 : left ≤ 1048576) (r : Int) (hr : r = if (n : Int) ≤ left then left - n else -1) :
    Calls Tryz.prog 95 #[.slice A n c, .int .i64 left] w fun e w' => e = .returned (.int .i64 r) ∧ w = w' := by
  by_cases h : (n : Int) ≤ left
  · rw [if_pos h] at hr
    subst hr
    go_enter Tryz.func95, Tryz.ntmps95
    go_wp2_with fail
    go_ret
    exact ⟨rfl, rfl⟩
  · rw [if_neg h] at hr
    subst hr
    go_enter Tryz.func95, Tryz.ntmps95
    go_wp2_with fail
    go_ret
    exact ⟨rfl, rfl⟩

set_option maxHeartbeats 1000000 in
theorem toPtS_any (A : Option Addr) (n c lo hi : Nat) (L : List (Int × Int)) (w : World) (hr : RdS 2 (FlatR ptC) w lo hi A n L) (hhi : hi ≤ w.heap.size) (hn : n ≤ 1048576) :
    Calls Tryz.prog 115 #[.slice A n c] w fun e w' => ∃ g, e = .returned (.slice (some ⟨g, 0, none⟩) n n) ∧ g = w.heap.size ∧ w'.ownsRow w.heap.size 148 2 (.slice (some ⟨g, 0, none⟩) n n) n (L.flatMap ptC) ∧ Below w.heap.size w w' := by
  obtain ⟨i0, hi0, hz0, hs0, hby0⟩ := info_parts infoPt
  replace hr := Lib.hid hr
  go_enter Tryz.func115, Tryz.ntmps115
  go_wp2_with (at_make; refine wpList_make_full _ rfl _ _ 85 rfl w.heap.size 148 i0 (.agg #[.int .i64 0, .int .i64 0]) 2 Tryz.underlying85 hi0 hz0 hs0 .i64 .i64 _ _ n rfl rfl rfl rfl (by rw [hby0]; omega) (by unfold maxLen; omega) (Nat.le_refl _) ?_; intro w0 hown0 hg0)
  have hb0 : Below w.heap.size w w0 := (Below.refl _ _).grown hg0 (Nat.le_refl _) (by simp)
  clear hg0
  go_loopw [4] (fun i wr => ∃ (k : Nat) (ys : List Value), i = .int .i64 k ∧ k ≤ n ∧ wr.ownsRow w.heap.size 148 2 (.slice (some ⟨w.heap.size, 0, none⟩) n n) n ys ∧ (∀ j a, j < k → L[j]? = some a → ∀ i, i < 2 → ys[j * 2 + i]? = (ptC a)[i]?) ∧ Below w.heap.size w wr) (fun i wr => n - (intOf i).toNat)
  case atStart => exact ⟨0, _, rfl, Nat.zero_le _, hown0, fun j a hj => absurd hj (Nat.not_lt_zero j), hb0⟩
  case round =>
    clear hown0 hb0
    obtain ⟨k, ys, rfl, hk, ho, hall, hbel⟩ := hrel
    replace hall := Lib.hid hall
    by_cases hlt : k < n
    · obtain ⟨b, off, ⟨x0, x1⟩, rfl, hb0, hb, hja, hcs⟩ := (hr.out.frame (good_flat _) (Below.sameB hbel hhi)).at hlt
      have q0 := hcs 0 _ rfl
      have q1 := hcs 1 _ rfl
      simp only [Nat.add_zero] at q0 q1
      clear hcs
      replace hja := Lib.hid hja
      replace ho := Lib.hid ho
      go_wp2_with (go_at_call 157; refine (toPt_any _ _ _).mono ?_; rintro e w1 ⟨rfl, hb1⟩; have ho1 := own_below ho.out hb1; obtain ⟨g, hg, _, hglt, _, hcell, hfr⟩ := own_at ho1 (by omega); injection hg with hg; injection hg with hg; subst hg; have hyl := ho1.1; have c0 := hcell (k * 2) (by omega); have c1 := hcell (k * 2 + 1) (by omega); rw [List.getElem?_eq_getElem (by omega)] at c0 c1; have f0 := hfr (k * 2); have f1 := hfr (k * 2 + 1); clear hcell hfr; replace ho1 := Lib.hid ho1; replace hyl := Lib.hid hyl; generalize ys[k * 2]'(by have := hyl.out; omega) = v0 at c0; generalize ys[k * 2 + 1]'(by have := hyl.out; omega) = v1 at c1)
      go_roundw
      case rel =>
        have hyl := ho1.out.1
        refine ⟨k + 1, _, by go_num, by omega, ((ho1.out.stored (k * 2) (.int .i64 x0)).1.stored (k * 2 + 1) (.int .i64 x1)).1, fun j a hj ha i hi => ?_, ((hbel.trans (hb1.mono hbel.size)).setCell (Nat.le_refl _) _).setCell (Nat.le_refl _) _⟩
        rcases Nat.lt_or_ge j k with h | h
        · rw [List.getElem?_set_ne (by omega), List.getElem?_set_ne (by omega)]
          exact hall.out j a h ha i hi
        · obtain rfl : j = k := by omega
          have ha := Option.some.inj (hja.out.symm.trans ha)
          subst ha
          obtain rfl | hi' : i = 0 ∨ 0 < i := by omega
          · simp only [Nat.add_zero]
            rw [List.getElem?_set_ne (by omega), List.getElem?_set_self (by first | omega | (simp only [List.length_set]; omega))]
            rfl
          obtain rfl | hi' : i = 1 ∨ 1 < i := by omega
          · skip
            rw [List.getElem?_set_self (by first | omega | (simp only [List.length_set]; omega))]
            rfl
          omega
      case measure => simp [intOf]; omega
    · have hkn : k = n := by omega
      replace hkn := Lib.hid hkn
      replace ho := Lib.hid ho
      go_wp2_with fail
      go_ret
      refine ⟨w.heap.size, rfl, rfl, ?_, hbel⟩
      have : ys = L.flatMap ptC := flat_ext (k := 2) (n := n) ptC_len hr.out.1 ho.out.1 fun j a ha i hi => by
        have h1 := hall.out j a (by rw [hkn.out]; have := (List.getElem?_eq_some_iff.1 ha).1; rw [hr.out.1] at this; exact this) ha i hi
        simpa using h1
      rw [← this]; exact ho.out

set_option maxRecDepth 100000 in
set_option maxHeartbeats 1000000 in
theorem eqPtS_any (A A' : Option Addr) (n c n' c' lo hi lo' hi' : Nat) (L : List (Int × Int)) (w : World) (h1 : RdS 2 (FlatR ptC) w lo hi A n L) (h2 : RdS 2 (FlatR ptC) w lo' hi' A' n' L) (hh1 : hi ≤ w.heap.size) (hh2 : hi' ≤ w.heap.size) (hn : n ≤ 1000000000) :
    Calls Tryz.prog 140 #[.slice A n c, .slice A' n' c'] w fun e w' => e = .returned (.bool true) ∧ Below w.heap.size w w' := by
  obtain rfl : n = n' := h1.1.symm.trans h2.1
  replace h1 := Lib.hid h1
  replace h2 := Lib.hid h2
  go_enter Tryz.func140, Tryz.ntmps140
  go_wp2_with fail
  go_loopw [5] (fun i wr => ∃ k : Nat, i = .int .i64 k ∧ k ≤ n ∧ Below w.heap.size w wr) (fun i wr => n - (intOf i).toNat)
  case atStart => exact ⟨0, rfl, Nat.zero_le _, Below.refl _ _⟩
  case round =>
    obtain ⟨k, rfl, hk, hbel⟩ := hrel
    have hsz := hbel.size
    by_cases hlt : k < n
    · obtain ⟨b, off, ⟨x0, x1⟩, rfl, hb0, hb, hja, hcs⟩ := (h1.out.frame (good_flat _) (Below.sameB hbel hh1)).at hlt
      obtain ⟨b', off', a', rfl, hb0', hb', hja', hcs'⟩ := (h2.out.frame (good_flat _) (Below.sameB hbel hh2)).at hlt
      have hja' := Option.some.inj (hja.symm.trans hja')
      subst hja' 
      have q0 := hcs 0 _ rfl
      have p0 := hcs' 0 _ rfl
      have q1 := hcs 1 _ rfl
      have p1 := hcs' 1 _ rfl
      simp only [Nat.add_zero] at q0 p0 q1 p1
      clear hcs hcs' hja
      have hbw : b < wr.heap.size := by omega
      have hbw' : b' < wr.heap.size := by omega
      clear hb0 hb0' hb hb' hsz hh1 hh2 h1 h2
      have hi : (0 : Int) ≤ (k : Int) ∧ (k : Int) < (n : Int) := by omega
      go_wp2_with fail
      go_still_tail 8, (by kernel_rfl)
      go_wp2_with (go_at_call 169; refine (eqPt_any _ _ _).mono ?_; rintro e w1 ⟨rfl, hb1⟩)
      go_roundw
      case rel => exact ⟨k + 1, by go_num, by omega, hbel.drew.trans (hb1.mono (by simp; exact hbel.size))⟩
      case measure => simp [intOf]; omega
    · go_wp2_with fail
      go_ret
      exact ⟨rfl, hbel⟩

end Go.Proofs.YtfkidklpjiiclaaGreat

