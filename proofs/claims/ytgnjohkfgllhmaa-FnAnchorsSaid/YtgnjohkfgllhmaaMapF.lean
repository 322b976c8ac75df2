/- A map of the call's own as a function from keys: made, looked up, stored. No program in sight. Conditions: none. -/
import Derived.Test.YtgnjohkfgllhmaaMem
import Derived.Maps.OwnOps
import Derived.Maps.OwnSet
import Derived.Maps.Views
namespace Go.Proofs.Ytgnjohkfgllhmaa
open Go.RowKit Go.Maps
set_option linter.unusedVariables false
set_option maxRecDepth 100000

/-- how an element reads -/
structure ElemRd (α : Type) where
  enc : α → Value
  dat : α → DataW Unit
  dec : Value → Option α
  de : ∀ a, dec (enc a) = some a
  inv : ∀ v a, dec v = some a → v = enc a
  inj : ∀ a b, dat a = dat b → a = b
def ElemRd.R {α : Type} (E : ElemRd α) (v : Value) : Option (DataW Unit × List MemPlace) := (E.dec v).map fun a => (E.dat a, [])
theorem ElemRd.R_mk {α : Type} (E : ElemRd α) (a : α) : E.R (E.enc a) = some (E.dat a, []) := by simp [ElemRd.R, E.de]
theorem ElemRd.R_inv {α : Type} (E : ElemRd α) {v : Value} {a : α} {ps : List MemPlace} (h : E.R v = some (E.dat a, ps)) : v = E.enc a := by
  unfold ElemRd.R at h
  cases hd : E.dec v with
  | none => rw [hd] at h; simp at h
  | some b =>
    rw [hd] at h
    simp at h
    rw [← E.inj _ _ h.1]
    exact E.inv v b hd
def boolE : ElemRd Bool := { enc := .bool, dat := fun x => .lit (.bool x), dec := fun v => match v with | .bool x => some x | _ => none, de := fun a => rfl, inv := fun v a h => by cases v <;> simp at h; rw [h], inj := fun a b h => by injection h with h; injection h }
def intE : ElemRd Int := { enc := .int .i64, dat := fun x => .lit (.int .i64 x), dec := fun v => match v with | .int .i64 x => some x | _ => none, de := fun a => rfl, inv := fun v a h => by
                             cases v <;> try (simp at h; done)
                             rename_i k n; cases k <;> simp at h; rw [h],
                           inj := fun a b h => by injection h with h; injection h }

/-- block b is a map that holds f -/
def MapF {α : Type} (E : ElemRd α) (w : World) (P : Program) (k : TypeId) (b n : Nat) (f : Lit → Option α) : Prop :=
  ∃ D : DataW Unit, w.ownsMap P k E.R b n D ∧ IsMap D ∧ ∀ kl z, D.atKey kl z = ((f kl).map E.dat).getD z
variable {α : Type} {E : ElemRd α} {w : World} {P : Program} {k : TypeId} {b n : Nat} {f : Lit → Option α}
theorem MapF.made (E : ElemRd α) (w : World) (P : Program) (k : TypeId) : MapF E (w.alloc (.map #[] 0)) P k w.heap.size 0 fun _ => none :=
  ⟨.map [], World.ownsMap_made w P k E.R, isMap_empty, fun kl z => rfl⟩
theorem MapF.kept {w' : World} {row : Option Nat} (h : MapF E w P k b n f) (hg : w.grownBy w' row) (hne : some b ≠ row) : MapF E w' P k b n f := by
  obtain ⟨D, h1, h2, h3⟩ := h
  exact ⟨D, h1.kept hg hne, h2, h3⟩
theorem MapF.same {w' : World} (h : MapF E w P k b n f) (hg : w'.heap[b]? = w.heap[b]?) : MapF E w' P k b n f := by
  obtain ⟨D, ⟨es, c, h0, hr⟩, h2, h3⟩ := h
  exact ⟨D, ⟨es, c, hg.trans h0, hr⟩, h2, h3⟩
theorem MapF.lt (h : MapF E w P k b n f) : b < w.heap.size := by
  obtain ⟨D, h1, h2, h3⟩ := h
  exact h1.lt
theorem MapF.below {w' : World} (h : MapF E w P k b n f) (hb : Below w.heap.size w w') : MapF E w' P k b n f := h.same (hb.block b h.lt)
theorem MapF.alloc (h : MapF E w P k b n f) (o : Obj) : MapF E (w.alloc o) P k b n f := h.same (Below.heap_alloc w o b h.lt)
theorem MapF.drew (h : MapF E w P k b n f) : MapF E w.drew P k b n f := h
theorem MapF.drewN (h : MapF E w P k b n f) (q : Nat) : MapF E (w.drewN q) P k b n f := h
theorem MapF.setCell (h : MapF E w P k b n f) {a : Addr} (ha : b ≠ a.block) (u : Value) : MapF E (w.setCell a u) P k b n f := h.same (Below.heap_setCell w a u b (by omega))
theorem MapF.mono {n' : Nat} (h : MapF E w P k b n f) (hn : n ≤ n') : MapF E w P k b n' f := by
  obtain ⟨D, h1, h2, h3⟩ := h
  exact ⟨D, h1.mono hn, h2, h3⟩
theorem MapF.congr {g : Lit → Option α} (h : MapF E w P k b n f) (hg : ∀ kl, f kl = g kl) : MapF E w P k b n g := by
  obtain ⟨D, h1, h2, h3⟩ := h
  exact ⟨D, h1, h2, fun kl z => by rw [h3, hg]⟩
theorem MapF.has (h : MapF E w P k b n f) (kl : Lit) : ∀ D : DataW Unit, (∀ kl z, D.atKey kl z = ((f kl).map E.dat).getD z) → Maps.has D kl = (f kl).isSome := by
  intro D h3
  cases hf : f kl with
  | none => exact has_false_of_atKey fun z => by rw [h3, hf]; rfl
  | some a => exact has_true_of_atKey (y := E.dat a) fun z => by rw [h3, hf]; rfl
def putF (f : Lit → Option α) (kl : Lit) (a : α) : Lit → Option α := fun k' => if k'.sameKey kl then some a else f k'
theorem putF_same (f : Lit → Option α) {kl : Lit} (hk : WideAt.IsKeyLit kl) (a : α) : putF f kl a kl = some a := if_pos (WideAt.sameKey_self hk)
theorem putF_ne (f : Lit → Option α) {kl k' : Lit} (h : k' ≠ kl) (a : α) : putF f kl a k' = f k' := if_neg (by rw [sameKey_ne h]; simp)

theorem run_lookup_f (t : TypeId) (e : TypeId) (K : Keyed P k) (ht : P.underlying t = some (.map k e)) (z0 : α) (hz : (zeroValue e).run P w = .ok (E.enc z0) w) (hown : MapF E w P k b n f) {key : Value} {kl : Lit} (hkey : keyOf P k key = some kl) (r : α) (hr : (f kl).getD z0 = r) :
    (Instr.lookup t (.map (some b)) key false).run P w = .ok (E.enc r) w := by
  obtain ⟨D, h1, h2, h3⟩ := hown
  obtain ⟨v, ps, hrun, hv⟩ := h1.lookup K ht hz (E.R_mk z0) hkey
  rw [h3] at hv
  have e1 : ((f kl).map E.dat).getD (E.dat z0) = E.dat ((f kl).getD z0) := by cases f kl <;> rfl
  rw [e1] at hv
  have hve := E.R_inv hv
  rw [hr] at hve
  rw [hrun, hve]
theorem wpList_lookup_f {ops : Array Oper} {rest : List Oper} {o : Oper} {a : Act} {Q : Exit → Act → World → Prop} (hg : o.guard = none) (m x : Operand) (t : TypeId) (hop : o.op = Op.lookup t m x false)
    (e : TypeId) (K : Keyed P k) (ht : P.underlying t = some (.map k e)) (z0 : α) (hz : (zeroValue e).run P w = .ok (E.enc z0) w) (hm : a.eval m = .map (some b)) (hown : MapF E w P k b n f) {key : Value} {kl : Lit} (hx : a.eval x = key) (hkey : keyOf P k key = some kl)
    (r : α) (hr : (f kl).getD z0 = r) (hK : wpList P ops Q rest (a.put o.dst (E.enc r)) w) : wpList P ops Q (o :: rest) a w := by
  refine wpList_plain hg fun K' hK' => ?_
  obtain ⟨D, h1, h2, h3⟩ := hown
  obtain ⟨v, ps, hrun, hv⟩ := h1.lookup K ht hz (E.R_mk z0) hkey
  rw [h3] at hv
  have e1 : ((f kl).map E.dat).getD (E.dat z0) = E.dat ((f kl).getD z0) := by cases f kl <;> rfl
  rw [e1] at hv
  have hve := E.R_inv hv
  rw [hr] at hve
  subst hve
  unfold Oper.wp
  simp [execOp, hop, hm, hx, hrun, Result.andThen]
  exact hK' _ _ hK
theorem wpList_lookup_f_ok {ops : Array Oper} {rest : List Oper} {o : Oper} {a : Act} {Q : Exit → Act → World → Prop} (hg : o.guard = none) (m x : Operand) (t : TypeId) (hop : o.op = Op.lookup t m x true)
    (e : TypeId) (K : Keyed P k) (ht : P.underlying t = some (.map k e)) (z0 : α) (hz : (zeroValue e).run P w = .ok (E.enc z0) w) (hm : a.eval m = .map (some b)) (hown : MapF E w P k b n f) {key : Value} {kl : Lit} (hx : a.eval x = key) (hkey : keyOf P k key = some kl)
    (r : α) (hr : (f kl).getD z0 = r) (s : Bool) (hs : (f kl).isSome = s) (hK : wpList P ops Q rest (a.put o.dst (.tuple #[E.enc r, .bool s])) w) : wpList P ops Q (o :: rest) a w := by
  have hh := hown.has kl
  obtain ⟨D, h1, h2, h3⟩ := hown
  refine wpList_lookup_own_ok w hg m x t hop k e K ht E.R hz (E.dat z0) [] (E.R_mk z0) b n D hm h1 key kl hx hkey fun v ps hv => ?_
  rw [h3] at hv
  have e1 : ((f kl).map E.dat).getD (E.dat z0) = E.dat ((f kl).getD z0) := by cases f kl <;> rfl
  rw [e1] at hv
  have hve := E.R_inv hv
  rw [hr] at hve
  subst hve
  rw [hh D h3, hs]
  exact hK
theorem wpList_mapUpdate_f {ops : Array Oper} {rest : List Oper} {o : Oper} {a : Act} {Q : Exit → Act → World → Prop} (hg : o.guard = none) (m x v : Operand) (t : TypeId) (hop : o.op = Op.mapUpdate t m x v)
    (e : TypeId) (K : Keyed P k) (ht : P.underlying t = some (.map k e)) (hm : a.eval m = .map (some b)) (hown : MapF E w P k b n f) (hn : n < maxLen) {key : Value} {kl : Lit} (hx : a.eval x = key) (hkey : keyOf P k key = some kl) (r : α) (hv : a.eval v = E.enc r)
    (hK : ∀ w', MapF E w' P k b (n + 1) (putF f kl r) → w.grownBy w' (some b) → wpList P ops Q rest (a.put o.dst undef) w') : wpList P ops Q (o :: rest) a w := by
  obtain ⟨D, h1, h2, h3⟩ := hown
  refine wpList_mapUpdate_own w hg m x v t hop k e K ht E.R b n D hm h1 hn key (E.enc r) kl hx hv hkey (E.dat r) [] (E.R_mk r) fun w' o1 g1 => ?_
  refine hK w' ⟨_, o1, h2.put _ _, fun k' z => ?_⟩ g1
  by_cases hk' : k' = kl
  · subst hk'
    rw [atKey_put_same h2 (K.key hkey), putF_same f (K.key hkey)]; rfl
  · rw [atKey_put_other hk', h3, putF_ne f hk']
theorem run_mapUpdate_f (t : TypeId) (e : TypeId) (K : Keyed P k) (ht : P.underlying t = some (.map k e)) (hown : MapF E w P k b n f) (hn : n < maxLen) {key : Value} {kl : Lit} (hkey : keyOf P k key = some kl) (r : α) {v : Value} (hv : v = E.enc r) :
    ∃ w', (Instr.mapUpdate t (.map (some b)) key v).run P w = .ok () w' ∧ MapF E w' P k b (n + 1) (putF f kl r) ∧ w.grownBy w' (some b) := by
  obtain ⟨D, h1, h2, h3⟩ := hown
  subst hv
  obtain ⟨w', hrun, r1, r2⟩ := h1.update K ht hn hkey (E.R_mk r)
  refine ⟨w', hrun, ⟨_, r1, h2.put _ _, fun k' z => ?_⟩, r2⟩
  by_cases hk' : k' = kl
  · subst hk'
    rw [atKey_put_same h2 (K.key hkey), putF_same f (K.key hkey)]; rfl
  · rw [atKey_put_other hk', h3, putF_ne f hk']
theorem grown_cell {w w' : World} {b : Nat} (hg : w.grownBy w' (some b)) {x o : Nat} (hx : x < w.heap.size) (hne : x ≠ b) : w'.cell? ⟨x, o, none⟩ = w.cell? ⟨x, o, none⟩ :=
  World.cell?_of_block (w := w) (hg.block x hx (by simpa using hne))
/-- a store into a map, as one step of a region that draws -/
theorem stepMapUpd_f {ops : Array Oper} {o : Oper} {a : Act} {K' : Act → World → Prop} {Q : Exit → Act → World → Prop} {E' : Prop} (hgd : o.guard = none) (m x v : Operand) (t : TypeId) (hop : o.op = Op.mapUpdate t m x v)
    (e : TypeId) (K : Keyed P k) (ht : P.underlying t = some (.map k e)) (hm : a.eval m = .map (some b)) (hown : MapF E w P k b n f) (hn : n < maxLen) {key : Value} {kl : Lit} (hx : a.eval x = key) (hkey : keyOf P k key = some kl) (r : α) (hv : a.eval v = E.enc r)
    (h : ∀ w', MapF E w' P k b (n + 1) (putF f kl r) → w.grownBy w' (some b) → K' (a.put o.dst undef) w') :
    if Region.wanted o (yielded ops a.tmps) = true then Oper.wp P o a w K' Q else E' := by
  have hw : Region.wanted o (yielded ops a.tmps) = true := by simp [Region.wanted, hgd]
  rw [if_pos hw]
  obtain ⟨D, h1, h2, h3⟩ := hown
  obtain ⟨w', hrun, r1, r2⟩ := h1.update K ht hn hkey (E.R_mk r)
  unfold Oper.wp
  simp [execOp, hop, hm, hx, hv, hrun, Result.andThen]
  refine h w' ⟨_, r1, h2.put _ _, fun k' z => ?_⟩ r2
  by_cases hk' : k' = kl
  · subst hk'
    rw [atKey_put_same h2 (K.key hkey), putF_same f (K.key hkey)]; rfl
  · rw [atKey_put_other hk', h3, putF_ne f hk']
end Go.Proofs.Ytgnjohkfgllhmaa
