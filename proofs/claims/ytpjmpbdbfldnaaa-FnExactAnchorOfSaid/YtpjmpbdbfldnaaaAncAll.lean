
import Derived.RegionTactic
import Derived.BigQuiet
import Derived.StillTailTactics
import Derived.IntWalk
import Derived.Test.YtpjmpbdbfldnaaaLcK
/- The place of an anchor of a glyph, out of its own anchors and of its parts: plain. Conditions: as each states. -/
namespace Go.Proofs.Ytpjmpbdbfldnaaa
open Go.RowKit Go.Maps
set_option linter.unusedVariables false
set_option maxRecDepth 100000
set_option maxRecDepth 8000

def ancPt (K : List Anch) (nm : ByteArray) : Option (Int × Int) := match K.findIdx? (fun a => decide (a.1 = nm)) with
  | some k => (K[k]?).map (·.2)
  | none => none
theorem anc_cases (K : List Anch) (nm : ByteArray) : (ancIdx K nm = -1 ∧ ancPt K nm = none) ∨ ∃ (k : Nat) (a : Anch), ancIdx K nm = (k : Int) ∧ K[k]? = some a ∧ ancPt K nm = some a.2 := by
  unfold ancIdx ancPt
  cases h : K.findIdx? (fun a => decide (a.1 = nm)) with
  | none => exact .inl ⟨rfl, rfl⟩
  | some k =>
    rw [List.findIdx?_eq_some_iff_getElem] at h
    exact .inr ⟨k, K[k]'h.1, rfl, List.getElem?_eq_getElem h.1, by simp [List.getElem?_eq_getElem h.1]⟩
def ancP (D : Int → Option (Int × Int)) : List Part → Option (Int × Int)
  | [] => none
  | p :: ps => match D p.1 with
    | some q => some (q.1 + p.2.1, q.2 + p.2.2)
    | none => ancP D ps
theorem ancP_append (D : Int → Option (Int × Int)) (ps qs : List Part) : ancP D (ps ++ qs) = match ancP D ps with
    | some q => some q
    | none => ancP D qs := by
  induction ps with
  | nil => rfl
  | cons p ps ih =>
    simp only [List.cons_append, ancP]
    cases D p.1 with
    | none => exact ih
    | some q => rfl
theorem ancP_hit {D : Int → Option (Int × Int)} {ps : List Part} {j : Nat} {q : Int × Int} (h : ancP D (ps.take j) = some q) : ancP D ps = some q := by
  rw [← List.take_append_drop j ps, ancP_append, h]
theorem ancP_step {D : Int → Option (Int × Int)} {ps : List Part} {j : Nat} {p : Part} (hp : ps[j]? = some p) (h : ancP D (ps.take j) = none) : ancP D (ps.take (j + 1)) = (D p.1).map fun q => (q.1 + p.2.1, q.2 + p.2.2) := by
  rw [take_snocG hp, ancP_append, h]
  simp only [ancP]
  cases D p.1 <;> rfl
theorem ancP_congr {D E : Int → Option (Int × Int)} {ps : List Part} (h : ∀ p ∈ ps, D p.1 = E p.1) : ancP D ps = ancP E ps := by
  induction ps with
  | nil => rfl
  | cons p ps ih => simp only [ancP]; rw [h p (by simp), ih fun q hq => h q (by simp [hq])]
theorem ancP_some {D : Int → Option (Int × Int)} {ps : List Part} {q : Int × Int} (h : ancP D ps = some q) : ∃ p ∈ ps, ∃ q', D p.1 = some q' ∧ q = (q'.1 + p.2.1, q'.2 + p.2.2) := by
  induction ps with
  | nil => cases h
  | cons p ps ih =>
    simp only [ancP] at h
    cases hd : D p.1 with
    | some q' => rw [hd] at h; injection h with h; exact ⟨p, by simp, q', hd, h.symm⟩
    | none =>
      rw [hd] at h
      obtain ⟨p', hp', r⟩ := ih h
      exact ⟨p', by simp [hp'], r⟩
/-- the first of a glyph's own, else of its parts -/
def orP (a b : Option (Int × Int)) : Option (Int × Int) := match a with
  | some q => some q
  | none => b
def ancG (L : List Gl) (nm : ByteArray) (D : Int → Option (Int × Int)) (x : Int) : Option (Int × Int) := match L[x.toNat]? with
  | some g => orP (ancPt g.anchors nm) (ancP D g.parts)
  | none => none
theorem ancG_eq {L : List Gl} {g : Gl} {x : Int} (h : L[x.toNat]? = some g) (nm : ByteArray) (D : Int → Option (Int × Int)) : ancG L nm D x = orP (ancPt g.anchors nm) (ancP D g.parts) := by unfold ancG; rw [h]
theorem ancG_none {L : List Gl} {x : Int} (h : L[x.toNat]? = none) (nm : ByteArray) (D : Int → Option (Int × Int)) : ancG L nm D x = none := by unfold ancG; rw [h]
theorem ancG_loc (L : List Gl) (nm : ByteArray) : Loc (tgts L) (ancG L nm) := by
  intro D E x ps hps hD
  obtain ⟨g, hg, rfl⟩ := tgts_get hps
  rw [ancG_eq hg, ancG_eq hg, ancP_congr fun p hp => hD p.1 (List.mem_map_of_mem (f := (·.1)) hp)]
def ancF (L : List Gl) (nm : ByteArray) (out : List Int) : Int → Option (Int × Int) := memF (ancG L nm) none out
theorem ancF_is {L : List Gl} {nm : ByteArray} {out : List Int} (ho : Ord (tgts L) out) {t : Nat} {x : Int} (hx : out[t]? = some x) {g : Gl} (hg : L[x.toNat]? = some g) : ancF L nm out x = orP (ancPt g.anchors nm) (ancP (ancF L nm out) g.parts) := by
  unfold ancF
  rw [memF_at (ancG_loc L nm) ho hx (tgts_at hg), ancG_eq hg]
/-- points within a bound -/
def BdP (B : Int) (o : Option (Int × Int)) : Prop := ∀ q, o = some q → (-B ≤ q.1 ∧ q.1 ≤ B) ∧ (-B ≤ q.2 ∧ q.2 ≤ B)
theorem BdP.mono {B C : Int} {o : Option (Int × Int)} (h : BdP B o) (hc : B ≤ C) : BdP C o := fun q hq => by have := h q hq; omega
theorem ancF_bd {L : List Gl} {nm : ByteArray} {out : List Int} (ho : Ord (tgts L) out) (hok : ∀ g ∈ L, glyphOk g = true) : ∀ (t : Nat) (x : Int), out[t]? = some x → BdP (262144 * ((t : Int) + 1)) (ancF L nm out x) := by
  refine memF_ind (Q := fun t x o => BdP (262144 * ((t : Int) + 1)) o) ho fun t x D hx hD q hq => ?_
  cases hg : L[x.toNat]? with
  | none => rw [ancG_none hg] at hq; cases hq
  | some g =>
    rw [ancG_eq hg] at hq
    have hgi := glyph_is (hok g (List.mem_of_getElem? hg))
    unfold orP at hq
    rcases anc_cases g.anchors nm with ⟨_, hn⟩ | ⟨k, a, _, ha, hn⟩
    · rw [hn] at hq
      obtain ⟨p, hp, q', hd, rfl⟩ := ancP_some hq
      have hpin := ho.ready t x hx _ (tgts_at hg) p.1 (List.mem_map_of_mem (f := (·.1)) hp)
      obtain ⟨s, hs, hb⟩ := hD p.1 hpin
      have hb := hb q' hd
      have hpo := hgi.2.2.2.2.1 p hp
      simp only [partOk, Bool.and_eq_true, ptOk_iff] at hpo
      have hst : 262144 * ((s : Int) + 1) ≤ 262144 * (t : Int) := by omega
      simp only
      omega
    · rw [hn] at hq
      injection hq with hq
      subst hq
      have hao := ptOk_iff.1 (hgi.2.2.2.2.2 a (List.mem_of_getElem? ha))
      have : (262144 : Int) ≤ 262144 * ((t : Int) + 1) := by omega
      omega

/-! ### what is remembered: a point and whether it is one -/
def oX (o : Option (Int × Int)) : Int := match o with
  | some q => q.1
  | none => 0
def oY (o : Option (Int × Int)) : Int := match o with
  | some q => q.2
  | none => 0
def pV (o : Option (Int × Int)) : Value := .agg #[.int .i64 (oX o), .int .i64 (oY o), .bool o.isSome]
def pD (v : Value) : Option (Option (Int × Int)) := match v with
  | .agg cs => (match cs.toList with
    | [.int .i64 x, .int .i64 y, .bool b] => if b then some (some (x, y)) else if x = 0 ∧ y = 0 then some none else none
    | _ => none)
  | _ => none
theorem pD_inv (v : Value) (o : Option (Int × Int)) (h : pD v = some o) : v = pV o := by
  cases v <;> try (simp [pD] at h; done)
  rename_i cs
  simp only [pD] at h
  split at h
  · rename_i x y b hcs
    have hcs2 : cs = #[.int .i64 x, .int .i64 y, .bool b] := by apply Array.toList_inj.1; rw [hcs]
    subst hcs2
    cases b
    · simp only [Bool.false_eq_true, if_false] at h
      split at h
      · rename_i hxy
        injection h with h
        subst h
        rw [hxy.1, hxy.2]; rfl
      · cases h
    · simp only [if_true] at h
      injection h with h
      subst h
      rfl
  · cases h
def pDat (o : Option (Int × Int)) : DataW Unit := match o with
  | some q => .agg [.lit (.int .i64 q.1), .lit (.int .i64 q.2), .lit (.bool true)]
  | none => .agg []
theorem pDat_inj (a b : Option (Int × Int)) (h : pDat a = pDat b) : a = b := by
  cases a <;> cases b <;> simp [pDat] at h
  · rfl
  · rename_i p q
    exact congrArg some (Prod.ext h.1 h.2)
def ancE : ElemRd (Option (Int × Int)) := { enc := pV, dat := pDat, dec := pD, de := fun o => by cases o <;> simp [pV, pD, oX, oY], inv := pD_inv, inj := pDat_inj }
def MemOkG {α : Type} (C : Int → α) (n : Nat) (f : Lit → Option α) : Prop := ∀ kl v, f kl = some v → ∃ j : Nat, j < n ∧ kl = .int .i64 j ∧ v = C j
theorem MemOkG.none {α : Type} (C : Int → α) (n : Nat) : MemOkG C n (fun _ => none) := fun kl v h => by cases h
theorem MemOkG.put {α : Type} {C : Int → α} {n : Nat} {f : Lit → Option α} (h : MemOkG C n f) {x : Int} (h0 : 0 ≤ x) (h1 : x < n) : MemOkG C n (putF f (.int .i64 x) (C x)) := fun kl v hv => by
  by_cases e : kl = .int .i64 x
  · subst e
    rw [putF_same _ (by trivial)] at hv
    injection hv with hv
    exact ⟨x.toNat, by omega, by rw [show ((x.toNat : Nat) : Int) = x by omega], by rw [show ((x.toNat : Nat) : Int) = x by omega, hv]⟩
  · rw [putF_ne _ e] at hv
    exact h kl v hv

/-! ### boxes -/
/-- a box of a point and a mark -/
structure Box3 (w : World) (b : Nat) (o : Option (Int × Int)) : Prop where
  c0 : w.cell? ⟨b, 0, none⟩ = some (.int .i64 (oX o))
  c1 : w.cell? ⟨b, 1, none⟩ = some (.int .i64 (oY o))
  c2 : w.cell? ⟨b, 2, none⟩ = some (.bool o.isSome)
  fz : ∀ i, w.frozen? ⟨b, i, none⟩ = false
  lt : b < w.heap.size
theorem Box3.grown {w w' : World} {b bm : Nat} {o : Option (Int × Int)} (h : Box3 w b o) (hg : w.grownBy w' (some bm)) (hne : b ≠ bm) : Box3 w' b o := by
  have hk : w'.heap[b]? = w.heap[b]? := hg.block b h.lt (by simpa using hne)
  exact ⟨(World.cell?_of_block (w := w) hk).trans h.c0, (World.cell?_of_block (w := w) hk).trans h.c1, (World.cell?_of_block (w := w) hk).trans h.c2, fun i => (World.frozen?_of_block (w := w) hk).trans (h.fz i), Nat.lt_of_lt_of_le h.lt hg.size⟩
theorem Box3.set {w : World} {b : Nat} {o : Option (Int × Int)} (h : Box3 w b o) (x y : Int) : Box3 (((w.setCell ⟨b, 0, none⟩ (.int .i64 x)).setCell ⟨b, 1, none⟩ (.int .i64 y)).setCell ⟨b, 2, none⟩ (.bool true)) b (some (x, y)) := by
  have e01 : (⟨b, 1, none⟩ : Addr) ≠ ⟨b, 0, none⟩ := by simp
  have e20 : (⟨b, 2, none⟩ : Addr) ≠ ⟨b, 0, none⟩ := by simp
  have e21 : (⟨b, 2, none⟩ : Addr) ≠ ⟨b, 1, none⟩ := by simp
  refine ⟨?_, ?_, ?_, fun i => ?_, by simpa using h.lt⟩
  · rw [World.cell?_setCell_other _ _ _ _ e20, World.cell?_setCell_other _ _ _ _ e01]
    exact World.cell?_setCell_same _ _ _ h.c0
  · rw [World.cell?_setCell_other _ _ _ _ e21]
    exact World.cell?_setCell_same _ _ _ (by rw [World.cell?_setCell_other _ _ _ _ e01.symm]; exact h.c1)
  · exact World.cell?_setCell_same _ _ _ (by rw [World.cell?_setCell_other _ _ _ _ e21.symm, World.cell?_setCell_other _ _ _ _ e20.symm]; exact h.c2)
  · rw [World.frozen?_setCell, World.frozen?_setCell, World.frozen?_setCell]; exact h.fz i
end Go.Proofs.Ytpjmpbdbfldnaaa

/- The anchor of a glyph or its parts: the program's walk. Conditions: as each states. -/
namespace Go.Proofs.Ytpjmpbdbfldnaaa
open Go.RowKit Go.Maps
set_option linter.unusedVariables false
set_option maxRecDepth 8000

/-- a set in its box -/
structure BoxSet (w : World) (b : Nat) (u : Int) (A : Option Addr) (n c : Nat) : Prop where
  c0 : w.cell? ⟨b, 0, none⟩ = some (.int .i64 u)
  c1 : w.cell? ⟨b, 1, none⟩ = some (.slice A n c)
  lt : b < w.heap.size
theorem BoxSet.grown {w w' : World} {b bm n c : Nat} {u : Int} {A : Option Addr} (h : BoxSet w b u A n c) (hg : w.grownBy w' (some bm)) (hne : b ≠ bm) : BoxSet w' b u A n c := by
  have hk : w'.heap[b]? = w.heap[b]? := hg.block b h.lt (by simpa using hne)
  exact ⟨(World.cell?_of_block (w := w) hk).trans h.c0, (World.cell?_of_block (w := w) hk).trans h.c1, Nat.lt_of_lt_of_le h.lt hg.size⟩
/-- a point in its box, writable -/
structure Box2 (w : World) (b : Nat) (x y : Int) : Prop where
  c0 : w.cell? ⟨b, 0, none⟩ = some (.int .i64 x)
  c1 : w.cell? ⟨b, 1, none⟩ = some (.int .i64 y)
  fz : ∀ i, w.frozen? ⟨b, i, none⟩ = false
  lt : b < w.heap.size
theorem Box2.grown {w w' : World} {b bm : Nat} {x y : Int} (h : Box2 w b x y) (hg : w.grownBy w' (some bm)) (hne : b ≠ bm) : Box2 w' b x y := by
  have hk : w'.heap[b]? = w.heap[b]? := hg.block b h.lt (by simpa using hne)
  exact ⟨(World.cell?_of_block (w := w) hk).trans h.c0, (World.cell?_of_block (w := w) hk).trans h.c1, fun i => (World.frozen?_of_block (w := w) hk).trans (h.fz i), Nat.lt_of_lt_of_le h.lt hg.size⟩
theorem Box2.of {w : World} {b : Nat} {t : TypeId} {x y : Int} (h : w.heap[b]? = some (.cells #[.int .i64 x, .int .i64 y] t (0, 0))) : Box2 w b x y :=
  ⟨by rw [Go.Joins.cell_of_block h]; rfl, by rw [Go.Joins.cell_of_block h]; rfl, Go.Joins.unfrozen_of_block h, (Array.getElem?_eq_some_iff.1 h).1⟩
theorem BoxSet.of {w : World} {b n c : Nat} {t : TypeId} {u : Int} {A : Option Addr} (h : w.heap[b]? = some (.cells #[.int .i64 u, .slice A n c] t (0, 0))) : BoxSet w b u A n c :=
  ⟨by rw [Go.Joins.cell_of_block h]; rfl, by rw [Go.Joins.cell_of_block h]; rfl, (Array.getElem?_eq_some_iff.1 h).1⟩
theorem Box3.of {w : World} {b : Nat} {t : TypeId} (h : w.heap[b]? = some (.cells #[.int .i64 0, .int .i64 0, .bool false] t (0, 0))) : Box3 w b none :=
  ⟨by rw [Go.Joins.cell_of_block h]; rfl, by rw [Go.Joins.cell_of_block h]; rfl, by rw [Go.Joins.cell_of_block h]; rfl, Go.Joins.unfrozen_of_block h, (Array.getElem?_eq_some_iff.1 h).1⟩
theorem BoxSet.keep {w w' : World} {b n c : Nat} {u : Int} {A : Option Addr} (h : BoxSet w b u A n c) (hk : w'.heap[b]? = w.heap[b]?) (hs : w.heap.size ≤ w'.heap.size) : BoxSet w' b u A n c :=
  ⟨(World.cell?_of_block (w := w) hk).trans h.c0, (World.cell?_of_block (w := w) hk).trans h.c1, Nat.lt_of_lt_of_le h.lt hs⟩
theorem Box2.keep {w w' : World} {b : Nat} {x y : Int} (h : Box2 w b x y) (hk : w'.heap[b]? = w.heap[b]?) (hs : w.heap.size ≤ w'.heap.size) : Box2 w' b x y :=
  ⟨(World.cell?_of_block (w := w) hk).trans h.c0, (World.cell?_of_block (w := w) hk).trans h.c1, fun i => (World.frozen?_of_block (w := w) hk).trans (h.fz i), Nat.lt_of_lt_of_le h.lt hs⟩
def set3 (w : World) (B : Nat) (x y : Int) : World := ((w.setCell ⟨B, 0, none⟩ (.int .i64 x)).setCell ⟨B, 1, none⟩ (.int .i64 y)).setCell ⟨B, 2, none⟩ (.bool true)
theorem set3_heap (w : World) (B : Nat) (x y : Int) {b : Nat} (hne : b ≠ B) : (set3 w B x y).heap[b]? = w.heap[b]? :=
  (Below.heap_setCell _ _ _ b hne).trans ((Below.heap_setCell _ _ _ b hne).trans (Below.heap_setCell _ _ _ b hne))
theorem set3_size (w : World) (B : Nat) (x y : Int) : (set3 w B x y).heap.size = w.heap.size := by simp [set3]
theorem set3_grown {w W : World} {row : Option Nat} {B : Nat} (h : w.grownBy W row) (ha : w.heap.size ≤ B) (x y : Int) : w.grownBy (set3 W B x y) row :=
  ⟨h.os, h.tape, h.output, by rw [set3_size]; exact h.size, fun k hk hne => (set3_heap W B x y (by omega)).trans (h.block k hk hne)⟩
def AnEnd (C : Int → Option (Int × Int)) (n bm : Nat) (x : Int) (W w' : World) (e : Ending) : Prop := ∃ f', e = .returned (.tuple #[.agg #[.int .i64 (oX (C x)), .int .i64 (oY (C x))], .bool (C x).isSome]) ∧ MapF ancE w' Try.prog 2 bm 40 f' ∧ MemOkG C n f' ∧ W.grownBy w' (some bm)
theorem grown_setNew {w W : World} {row : Option Nat} (h : w.grownBy W row) {a : Addr} (ha : w.heap.size ≤ a.block) (u : Value) : w.grownBy (W.setCell a u) row :=
  ⟨h.os, h.tape, h.output, by simpa using h.size, fun k hk hne => (Below.heap_setCell W a u k (by omega)).trans (h.block k hk hne)⟩
theorem grown_drew {w W : World} {row : Option Nat} (h : w.grownBy W row) : w.grownBy W.drew row := ⟨h.os, h.tape, h.output, h.size, h.block⟩
theorem zeroAnc (w : World) : (zeroValue 231).run Try.prog w = .ok (pV none) w := by kernel_rfl

set_option maxHeartbeats 8000000 in
theorem anchorOf_any (u : Int) (A : Option Addr) (n c lo hi bm : Nat) (L : List Gl) (nm : ByteArray) (out : List Int) (ho : Ord (tgts L) out) (hl : L.length = n) (hn : n ≤ 40) (hon : out.length = n) (hok : ∀ g ∈ L, glyphOk g = true) (hb : hi ≤ bm) :
    ∀ (t : Nat) (x : Int) (f : Lit → Option (Option (Int × Int))) (w : World), out[t]? = some x → MapF ancE w Try.prog 2 bm 40 f → MemOkG (ancF L nm out) n f → GsRd w lo hi A n L → hi ≤ w.heap.size →
    Calls Try.prog 152 #[.agg #[.int .i64 u, .slice A n c], .int .i64 x, .string nm, .map (some bm)] w fun e w' => AnEnd (ancF L nm out) n bm x w w' e := by
  have hbd := Lib.hid (fun (s : Nat) (y : Int) (h : out[s]? = some y) => show BdP 10485760 (ancF L nm out y) from (ancF_bd (nm := nm) ho hok s y h).mono (by have := (List.getElem?_eq_some_iff.1 h).1; omega))
  replace ho := Lib.hid ho
  replace hok := Lib.hid hok
  replace hl := Lib.hid hl
  replace hon := Lib.hid hon
  intro t
  induction t using Nat.strongRecOn with
  | ind t ih =>
    intro x f w hx hmap hmem hr hhi
    replace ih := Lib.hid ih
    obtain ⟨hx0, hxn⟩ := ho.out.rng x (List.mem_of_getElem? hx)
    rw [tgts_length, hl.out] at hxn
    have hwf : (Lit.int .i64 x).wf = true := WalkArith.wf_i64 (by omega)
    have hkey := Lib.hid (keyOf_int_mk Try.underlying2 hwf)
    have hbm := hmap.lt
    obtain ⟨o, hof⟩ : ∃ o, o = f (.int .i64 x) := ⟨_, rfl⟩
    have hr0 := hr
    replace hr := Lib.hid hr
    replace hwf := Lib.hid hwf
    have hnew := heap_new2 w (.cells #[.int .i64 u, .slice A n c] 84 (0, 0)) (.cells #[.int .i64 0, .int .i64 0] 29 (0, 0))
    have hbs1 := BoxSet.of hnew.1
    have hb21 := Box2.of hnew.2
    have hmap1 := Lib.hid ((hmap.alloc (.cells #[.int .i64 u, .slice A n c] 84 (0, 0))).alloc (.cells #[.int .i64 0, .int .i64 0] 29 (0, 0)))
    have hg1 : w.grownBy ((w.alloc (.cells #[.int .i64 u, .slice A n c] 84 (0, 0))).alloc (.cells #[.int .i64 0, .int .i64 0] 29 (0, 0))) (some bm) := grown_trans (World.grownBy_alloc _ _ _) (World.grownBy_alloc _ _ _)
    have hsz1 : w.heap.size + 1 < ((w.alloc (.cells #[.int .i64 u, .slice A n c] 84 (0, 0))).alloc (.cells #[.int .i64 0, .int .i64 0] 29 (0, 0))).heap.size := by simp
    have hr1 := Lib.hid (hr0.frame good_glyph (SameB.alloc (SameB.alloc (SameB.refl lo hi w) hhi (.cells #[.int .i64 u, .slice A n c] 84 (0, 0))) (by simp; omega) (.cells #[.int .i64 0, .int .i64 0] 29 (0, 0))))
    clear hnew hr0 hmap
    generalize hW1 : (w.alloc (.cells #[.int .i64 u, .slice A n c] 84 (0, 0))).alloc (.cells #[.int .i64 0, .int .i64 0] 29 (0, 0)) = W1 at *
    cases o with
    | some v =>
      obtain ⟨j, hj, ej, ev⟩ := hmem _ _ hof.symm
      have hvx : v = ancF L nm out x := by injection ej with _ ej; rw [ev, ej]
      have hgd : (f (.int .i64 x)).getD none = v := by rw [← hof]; rfl
      have hgs : (f (.int .i64 x)).isSome = true := by rw [← hof]; rfl
      replace hvx := Lib.hid hvx
      replace hgd := Lib.hid hgd
      replace hgs := Lib.hid hgs
      replace hmem := Lib.hid hmem
      obtain ⟨d0, d1, d2, d3⟩ := hb21
      clear hof ej ev hbs1
      go_enter Try.func152, Try.ntmps152
      go_wp2_with (at_lookup; refine wpList_lookup_f_ok rfl _ _ _ rfl 231 keyI Try.underlying180 none (zeroAnc _) rfl hmap1.out rfl hkey.out v hgd.out true hgs.out ?_; dsimp only [ancE, pV])
      have m0 : (W1.alloc (.cells #[.int .i64 (oX v), .int .i64 (oY v), .bool v.isSome] 231 (0, 0))).cell? ⟨W1.heap.size, 0, none⟩ = some (.int .i64 (oX v)) := by rw [Go.Joins.cell_of_block (heap_alloc_new W1 _)]; rfl
      have m1 : (W1.alloc (.cells #[.int .i64 (oX v), .int .i64 (oY v), .bool v.isSome] 231 (0, 0))).cell? ⟨W1.heap.size, 1, none⟩ = some (.int .i64 (oY v)) := by rw [Go.Joins.cell_of_block (heap_alloc_new W1 _)]; rfl
      have m2 : (W1.alloc (.cells #[.int .i64 (oX v), .int .i64 (oY v), .bool v.isSome] 231 (0, 0))).cell? ⟨W1.heap.size, 2, none⟩ = some (.bool v.isSome) := by rw [Go.Joins.cell_of_block (heap_alloc_new W1 _)]; rfl
      have hbA : Below W1.heap.size W1 (W1.alloc (.cells #[.int .i64 (oX v), .int .i64 (oY v), .bool v.isSome] 231 (0, 0))) := Go.Joins.below_alloc1 _ _
      have n0 := (hbA.cell (p := ⟨w.heap.size + 1, 0, none⟩) d3).trans d0
      have n1 := (hbA.cell (p := ⟨w.heap.size + 1, 1, none⟩) d3).trans d1
      have n2 := fun i => (hbA.frozen (p := ⟨w.heap.size + 1, i, none⟩) d3).trans (d2 i)
      have hm2 := Lib.hid (hmap1.out.alloc (.cells #[.int .i64 (oX v), .int .i64 (oY v), .bool v.isSome] 231 (0, 0)))
      have hg2 := grown_trans hg1 (World.grownBy_alloc W1 (.cells #[.int .i64 (oX v), .int .i64 (oY v), .bool v.isSome] 231 (0, 0)) (some bm))
      have hzz : w.heap.size + 1 < (W1.alloc (.cells #[.int .i64 (oX v), .int .i64 (oY v), .bool v.isSome] 231 (0, 0))).heap.size := Nat.lt_of_lt_of_le d3 hbA.size
      have hzw : W1.heap.size < (W1.alloc (.cells #[.int .i64 (oX v), .int .i64 (oY v), .bool v.isSome] 231 (0, 0))).heap.size := by simp
      have hne1 : ¬ W1.heap.size = w.heap.size + 1 := by omega
      have hne2 : ¬ w.heap.size + 1 = W1.heap.size := by omega
      replace hg2 := Lib.hid hg2
      clear d0 d1 d2 hg1 hbA
      replace hW1 := Lib.hid hW1
      generalize W1.alloc (.cells #[.int .i64 (oX v), .int .i64 (oY v), .bool v.isSome] 231 (0, 0)) = W2 at *
      go_region
      all_goals
        go_wp2_with fail
        refine bodyPost_ret (v := .tuple #[.agg #[.int .i64 (oX v), .int .i64 (oY v)], .bool v.isSome]) (by simp [results, Try.results152, go_sem, n0, n1]) rfl ⟨f, by rw [← hvx.out], ((hm2.out.setCell (by show bm ≠ w.heap.size + 1; omega) _).setCell (by show bm ≠ w.heap.size + 1; omega) _).drew, hmem.out, grown_drew (grown_setNew (a := ⟨w.heap.size + 1, 1, none⟩) (grown_setNew (a := ⟨w.heap.size + 1, 0, none⟩) hg2.out (by show w.heap.size ≤ w.heap.size + 1; omega) _) (by show w.heap.size ≤ w.heap.size + 1; omega) _)⟩
    | none =>
      have hgd : (f (.int .i64 x)).getD none = none := by rw [← hof]; rfl
      have hgs : (f (.int .i64 x)).isSome = false := by rw [← hof]; rfl
      replace hgd := Lib.hid hgd
      replace hgs := Lib.hid hgs
      replace hmem := Lib.hid hmem
      obtain ⟨b1, f1, d, hh, rfl, hb0, hb1, hja, hcs, hrg⟩ := gs_at hr1.out hxn
      have q0 := hcs 0 _ rfl
      have q1 := hcs 1 _ rfl
      have q2 := hcs 2 _ rfl
      have q3 := hcs 3 _ rfl
      have q4 := hcs 4 _ rfl
      have q5 := hcs 5 _ rfl
      have q6 := hcs 6 _ rfl
      simp only [Nat.add_zero] at q0 q1 q2 q3 q4 q5 q6
      have hgi := glyph_is (hok.out d (List.mem_of_getElem? hja))
      have hpn : hh.parts.n ≤ 6 := by rw [← hrg.2.1.1]; exact hgi.2.1
      have han : hh.anchors.n ≤ 6 := by rw [← hrg.2.2.1]; exact hgi.2.2.1
      have hval := Lib.hid (ancF_is (nm := nm) ho.out hx hja)
      have hready := Lib.hid (ho.out.ready t x hx _ (tgts_at hja))
      have hmv := Lib.hid (show ∀ p ∈ d.parts, (-262144 ≤ p.2.1 ∧ p.2.1 ≤ 262144) ∧ (-262144 ≤ p.2.2 ∧ p.2.2 ≤ 262144) from fun p hp => by
        have := hgi.2.2.2.2.1 p hp
        simp only [partOk, Bool.and_eq_true, ptOk_iff] at this
        exact this.2)
      have hxi : x < (n : Int) := by omega
      have hb1w' : b1 < W1.heap.size := by omega
      have hm1x := Lib.hid (fun a b => (hmap1.out.alloc a).alloc b)
      have hrp1x := trivial
      have hrpw := Lib.hid (show RdS 3 (FlatR partC) w lo hi hh.parts.A hh.parts.n d.parts from hrg.2.1.frame (good_flat _) (fun i h1 h2 => (grown_sameB hg1 hhi (.inr hb) i h1 h2).symm))
      obtain ⟨W4, hW4⟩ : ∃ W4, W4 = ((W1.alloc (.cells #[.int .i64 0, .int .i64 0, .bool false] 231 (0, 0))).alloc (.cells #[.string d.name, .int .i64 d.code, .int .i64 d.adv, .slice hh.out.A hh.out.n hh.out.c, .slice hh.parts.A hh.parts.n hh.parts.c, .slice hh.anchors.A hh.anchors.n hh.anchors.c, .string d.hints] 72 (0, 0))).alloc (.cells #[.int .i64 0, .int .i64 0, .bool false] 231 (0, 0)) := ⟨_, rfl⟩
      have hgW4 : W1.grownBy W4 (some bm) := by rw [hW4]; exact grown_trans (grown_trans (World.grownBy_alloc _ _ _) (World.grownBy_alloc _ _ _)) (World.grownBy_alloc _ _ _)
      have hnew3 := heap_new0 W1 (.cells #[.int .i64 0, .int .i64 0, .bool false] 231 (0, 0)) (.cells #[.string d.name, .int .i64 d.code, .int .i64 d.adv, .slice hh.out.A hh.out.n hh.out.c, .slice hh.parts.A hh.parts.n hh.parts.c, .slice hh.anchors.A hh.anchors.n hh.anchors.c, .string d.hints] 72 (0, 0)) (.cells #[.int .i64 0, .int .i64 0, .bool false] 231 (0, 0))
      rw [← hW4] at hnew3
      have hb34 : Box3 W4 (W1.heap.size + 1 + 1) none := Box3.of hnew3.2.2
      have g4 : W4.cell? ⟨W1.heap.size + 1, 4, none⟩ = some (.slice hh.parts.A hh.parts.n hh.parts.c) := by rw [Go.Joins.cell_of_block hnew3.2.1]; rfl
      have g5 : W4.cell? ⟨W1.heap.size + 1, 5, none⟩ = some (.slice hh.anchors.A hh.anchors.n hh.anchors.c) := by rw [Go.Joins.cell_of_block hnew3.2.1]; rfl
      have hz4 : W1.heap.size + 1 + 1 < W4.heap.size := hb34.lt
      have hs4 : SameB lo hi W1 W4 := grown_sameB hgW4 (by omega) (.inr hb)
      have hbs4 := hbs1.grown hgW4 (by omega)
      have hb24 := hb21.grown hgW4 (by omega)
      have hmap4 := hmap1.out
      have hmap4 : MapF ancE W4 Try.prog 2 bm 40 f := by rw [hW4]; exact ((hmap1.out.alloc _).alloc _).alloc _
      replace hmap4 := Lib.hid hmap4
      have hra4 := Lib.hid (hrg.2.2.frame (good_flat _) hs4)
      have hcA := Lib.hid (anchorAt_idx hh.anchors.A hh.anchors.n hh.anchors.c lo hi d.anchors nm W4 hra4.out (by omega) (by omega))
      have hgw4 := grown_trans hg1 hgW4
      have hac := Lib.hid (anc_cases d.anchors nm)
      obtain ⟨ai, hai⟩ : ∃ ai, ai = ancIdx d.anchors nm := ⟨_, rfl⟩
      rw [← hai] at hcA hac
      replace hai := Lib.hid hai
      obtain ⟨s0, s1, s2⟩ := hbs1
      replace hW4 := Lib.hid hW4
      clear hnew3
      clear hof hcs hrg hja hb0 hgi
      go_enter Try.func152, Try.ntmps152
      go_wp2_with (first | (at_lookup; refine wpList_lookup_f_ok rfl _ _ _ rfl 231 keyI Try.underlying180 none (zeroAnc _) rfl hmap1.out rfl hkey.out none hgd.out false hgs.out ?_; dsimp only [ancE, pV, oX, oY, Option.isSome]) | (at_lookup; refine wpList_lookup_f rfl _ _ _ rfl 231 keyI Try.underlying180 none (zeroAnc _) rfl (hm1x.out _ _) rfl hkey.out none hgd.out ?_; dsimp only [ancE, pV, oX, oY, Option.isSome]))
      rw [← hW4.out]
      refine hcA.out.mono ?_
      rintro e w5 ⟨rfl, hb5⟩
      have hg5 := below_grown hb5 (some bm)
      have hb35 := hb34.grown hg5 (by omega)
      have hbs5 := hbs4.grown hg5 (by omega)
      have hb25 := hb24.grown hg5 (by omega)
      have g45 := (grown_cellN hg5 (x := W1.heap.size + 1) (o := 4) (by omega) (by omega)).trans g4
      have g55 := (grown_cellN hg5 (x := W1.heap.size + 1) (o := 5) (by omega) (by omega)).trans g5
      have hgw5 := grown_trans hgw4 hg5
      have hmap5 := Lib.hid (hmap4.out.below hb5)
      have hra5 := Lib.hid (hra4.out.frame (good_flat _) (grown_sameB hg5 (by omega) (.inr hb)))
      have hsz5 := hg5.size
      have hz5 : W1.heap.size + 1 < w5.heap.size := by omega
      clear q0 q1 q2 q3 q4 q5 q6 s0 s1 g4 g5 hb5 hcA hb21 hb24 hbs4 hb34 hgd hgs hm1x hmap4 hra4
      replace hW1 := Lib.hid hW1
      obtain ⟨o0, ho0⟩ : ∃ o0, o0 = ancPt d.anchors nm := ⟨_, rfl⟩
      rw [← ho0] at hac hval
      replace ho0 := Lib.hid ho0
      rcases hac.out with ⟨hm1, hon0⟩ | ⟨ak, aa, hm1, hka, hon0⟩
      · subst hm1
        have hb36 := Lib.hid (show Box3 w5 (W1.heap.size + 1 + 1) o0 by rw [hon0]; exact hb35)
        replace hon0 := Lib.hid hon0
        have hbs6 := hbs5
        have hb26 := hb25
        have hmap6 := hmap5
        have hgw6 := hgw5
        go_wp2_with fail
        clear hb35 hbs5 hb25 hmap5 hgw5
        clear g45 g55 hrp1x
        go_loopw [55] (fun i wr => ∃ (j : Nat) (f' : Lit → Option (Option (Int × Int))) (o : Option (Int × Int)), i = .int .i64 j ∧ j ≤ hh.parts.n ∧ o = orP o0 (ancP (ancF L nm out) (d.parts.take j)) ∧ Box3 wr (W1.heap.size + 1 + 1) o ∧ BoxSet wr w.heap.size u (some ⟨b1, f1, none⟩) n c ∧ Box2 wr (w.heap.size + 1) 0 0 ∧ MapF ancE wr Try.prog 2 bm 40 f' ∧ MemOkG (ancF L nm out) n f' ∧ w.grownBy wr (some bm)) (fun i wr => hh.parts.n - (intOf i).toNat)
        case atStart => exact ⟨0, f, o0, rfl, Nat.zero_le _, by rw [List.take_zero]; unfold orP ancP; cases o0 <;> rfl, hb36.out, hbs6, hb26, hmap6.out, hmem.out, hgw6⟩
        case round =>
          clear hb36 hbs6 hb26 hmap6 hgw6
          obtain ⟨j, f', o, rfl, hj, hov, hb3r, hbsr, hb2r, hmr, hme, hgr⟩ := hrel
          replace hme := Lib.hid hme
          have hszr := hgr.size
          have hz3r := hb3r.lt
          have hsr : SameB lo hi w wr := grown_sameB hgr (by omega) (.inr hb)
          have hfinal : ∀ o', o' = orP o0 (ancP (ancF L nm out) d.parts) → o' = ancF L nm out x := fun o' h => by rw [h, hval.out]
          replace hfinal := Lib.hid hfinal
          by_cases hjl : j < hh.parts.n
          · obtain ⟨p1, g1, ⟨y0, y1, y2⟩, hA, _, hpw, hjb, hcs⟩ := (hrpw.out.frame (good_flat _) hsr).at hjl
            have q0 := hcs 0 _ rfl
            have q1 := hcs 1 _ rfl
            have q2 := hcs 2 _ rfl
            simp only [Nat.add_zero] at q0 q1 q2
            have hpw' : p1 < wr.heap.size := by omega
            have hji : (0 : Int) ≤ (j : Int) ∧ (j : Int) < (hh.parts.n : Int) := by omega
            have hbA : wr.grownBy (wr.alloc (.cells #[.int .i64 y0, .int .i64 y1, .int .i64 y2] 150 (0, 0))) (some bm) := World.grownBy_alloc _ _ _
            have hb3a := hb3r.grown hbA (by omega)
            have hbsa := hbsr.grown hbA (by omega)
            have hb2a := hb2r.grown hbA (by omega)
            have hga := grown_trans hgr hbA
            have hma := Lib.hid (hmr.alloc (.cells #[.int .i64 y0, .int .i64 y1, .int .i64 y2] 150 (0, 0)))
            rw [hA]
            replace hA := Lib.hid hA
            have hbsz := Lib.hid hbsa
            have hb2z := Lib.hid hb2a
            have hb3z := Lib.hid hb3a
            cases o with
            | some q =>
              have hox := Lib.hid (hfinal.out (some q) (by
                unfold orP at hov ⊢
                cases ho0c : o0 with
                | some q2 => rw [ho0c] at hov; exact hov
                | none =>
                  rw [ho0c] at hov
                  exact (ancP_hit hov.symm).symm))
              obtain ⟨d0, d1, d2, d3, d4⟩ := hb3a
              obtain ⟨e0, e1, e2, e3⟩ := hb2a
              dsimp only [Option.isSome] at d2
              replace hov := Lib.hid hov
              clear hbsa hb3r hbsr hb2r hmr hcs hjb hbA
              go_wp2_with (at_mapUpdate; refine wpList_mapUpdate_f rfl _ _ _ _ rfl 231 keyI Try.underlying180 rfl hma.out (by unfold maxLen; omega) rfl hkey.out (some q) rfl ?_; intro w7 hm7 hg7)
              clear d0 d1 d2 d3 d4 e0 e1 e2 e3
              have k3 := hb3z.out.grown hg7 (by omega)
              have k2 := hb2z.out.grown hg7 (by omega)
              have hg8 := grown_trans hga hg7
              obtain ⟨a0, a1, a2, a3, a4⟩ := k3
              obtain ⟨c0, c1, c2, c3⟩ := k2
              have hne1 : ¬ W1.heap.size + 1 + 1 = w.heap.size + 1 := by omega
              have hne2 : ¬ w.heap.size + 1 = W1.heap.size + 1 + 1 := by omega
              have hmx : MemOkG (ancF L nm out) n (putF f' (.int .i64 x) (some q)) := by rw [hox.out]; exact hme.out.put hx0 hxi
              have hm8 := hm7.tight keyI (N := 40) (fun kl hk => by
                obtain ⟨v, hv⟩ := Option.isSome_iff_exists.1 hk
                obtain ⟨i, hi, e, _⟩ := hmx kl v hv
                exact ⟨i, by omega, e⟩)
              replace hmx := Lib.hid hmx
              replace hm8 := Lib.hid hm8
              replace hg8 := Lib.hid hg8
              go_region
              all_goals
                go_wp2_with fail
                refine bodyPost_ret (v := .tuple #[.agg #[.int .i64 (oX (some q)), .int .i64 (oY (some q))], .bool (some q).isSome]) (by simp [results, Try.results152, go_sem, c0, c1]) rfl ⟨_, by rw [← hox.out], ((hm8.out.setCell (by show bm ≠ w.heap.size + 1; omega) _).setCell (by show bm ≠ w.heap.size + 1; omega) _).drew, hmx.out, grown_drew (grown_setNew (a := ⟨w.heap.size + 1, 1, none⟩) (grown_setNew (a := ⟨w.heap.size + 1, 0, none⟩) hg8.out (by show w.heap.size ≤ w.heap.size + 1; omega) _) (by show w.heap.size ≤ w.heap.size + 1; omega) _)⟩
            | none =>
              have hmemp := hready.out y0 (List.mem_map_of_mem (f := (·.1)) (List.mem_of_getElem? hjb))
              obtain ⟨sN, hsN⟩ := List.getElem?_of_mem hmemp
              have hst : sN < t := by
                have := (List.getElem?_eq_some_iff.1 hsN).1
                rw [List.length_take] at this; omega
              rw [List.getElem?_take_of_lt hst] at hsN
              have hcall := Lib.hid (ih.out sN hst y0 f' (wr.alloc (.cells #[.int .i64 y0, .int .i64 y1, .int .i64 y2] 150 (0, 0))) hsN hma.out hme.out ((hr.out.frame good_glyph hsr).frame good_glyph (SameB.alloc (SameB.refl lo hi wr) (by omega) _)) (by simp; omega))
              have hzb := hbd.out sN y0 hsN
              obtain ⟨⟨hmv1, hmv2⟩, hmv3, hmv4⟩ := hmv.out _ (List.mem_of_getElem? hjb)
              simp only at hmv1 hmv2 hmv3 hmv4
              have ho0n : o0 = none ∧ ancP (ancF L nm out) (d.parts.take j) = none := by
                unfold orP at hov
                cases ho0c : o0 with
                | some q2 => rw [ho0c] at hov; cases hov
                | none => rw [ho0c] at hov; exact ⟨rfl, hov.symm⟩
              have hstep := Lib.hid (show orP o0 (ancP (ancF L nm out) (d.parts.take (j + 1))) = (ancF L nm out y0).map fun q => (q.1 + y1, q.2 + y2) from by
                rw [ho0n.1]; exact ancP_step hjb ho0n.2)
              replace ho0n := Lib.hid ho0n
              replace hov := Lib.hid hov
              obtain ⟨p0, p1', p2⟩ : (wr.alloc (.cells #[.int .i64 y0, .int .i64 y1, .int .i64 y2] 150 (0, 0))).cell? ⟨wr.heap.size, 0, none⟩ = some (.int .i64 y0) ∧ (wr.alloc (.cells #[.int .i64 y0, .int .i64 y1, .int .i64 y2] 150 (0, 0))).cell? ⟨wr.heap.size, 1, none⟩ = some (.int .i64 y1) ∧ (wr.alloc (.cells #[.int .i64 y0, .int .i64 y1, .int .i64 y2] 150 (0, 0))).cell? ⟨wr.heap.size, 2, none⟩ = some (.int .i64 y2) := ⟨by rw [Go.Joins.cell_of_block (heap_alloc_new wr _)]; rfl, by rw [Go.Joins.cell_of_block (heap_alloc_new wr _)]; rfl, by rw [Go.Joins.cell_of_block (heap_alloc_new wr _)]; rfl⟩
              have hzp : wr.heap.size < (wr.alloc (.cells #[.int .i64 y0, .int .i64 y1, .int .i64 y2] 150 (0, 0))).heap.size := by simp
              obtain ⟨d0, d1, d2, d3, d4⟩ := hb3a
              obtain ⟨s0, s1, s3⟩ := hbsa
              dsimp only [Option.isSome] at d2
              replace hsN := Lib.hid hsN
              clear hb3r hbsr hb2r hmr hcs hjb hmemp
              go_wp2_with fail
              refine hcall.out.mono ?_
              rintro e w4 ⟨f2, rfl, hm4, hme4, hg4⟩
              have hb34' := hb3z.out.grown hg4 (by omega)
              have hbs4' := hbsz.out.grown hg4 (by omega)
              have hb24' := hb2z.out.grown hg4 (by omega)
              have hgw4' := grown_trans hga hg4
              have r0 := (grown_cellN hg4 (x := wr.heap.size) (o := 0) hzp (by omega)).trans p0
              have r1 := (grown_cellN hg4 (x := wr.heap.size) (o := 1) hzp (by omega)).trans p1'
              have r2 := (grown_cellN hg4 (x := wr.heap.size) (o := 2) hzp (by omega)).trans p2
              have hz4' : wr.heap.size < w4.heap.size := Nat.lt_of_lt_of_le hzp hg4.size
              replace hm4 := Lib.hid hm4
              replace hme4 := Lib.hid hme4
              clear d0 d1 d2 d3 d4 s0 s1 s3 p0 p1' p2 q0 q1 q2 hcall hbA hb2a
              generalize ancF L nm out y0 = z at hzb hstep ⊢
              cases z with
              | none =>
                dsimp only [oX, oY, Option.isSome]
                go_wp2_with fail
                go_roundw
                case rel => exact ⟨j + 1, f2, none, by go_num, by omega, hstep.out.symm, hb34'.grown (World.grownBy_alloc _ _ (some bm)) (by omega), hbs4'.grown (World.grownBy_alloc _ _ (some bm)) (by omega), hb24'.grown (World.grownBy_alloc _ _ (some bm)) (by omega), hm4.out.alloc _, hme4.out, grown_trans hgw4' (World.grownBy_alloc _ _ _)⟩
                case measure => simp [intOf]; omega
              | some q =>
                obtain ⟨qx, qy⟩ := q
                have hzq := hzb _ rfl
                obtain ⟨⟨hq1, hq2⟩, hq3, hq4⟩ := hzq
                simp only at hq1 hq2 hq3 hq4
                dsimp only [oX, oY, Option.isSome]
                have hb34z := Lib.hid hb34'
                obtain ⟨d0, d1, d2, d3, d4⟩ := hb34'
                go_wp2_with fail
                go_roundw
                case rel =>
                  have hk1 := hbs4'.keep (set3_heap w4 (W1.heap.size + 1 + 1) (qx + y1) (qy + y2) (by omega)) (Nat.le_of_eq (set3_size _ _ _ _).symm)
                  have hk2 := hb24'.keep (set3_heap w4 (W1.heap.size + 1 + 1) (qx + y1) (qy + y2) (by omega)) (Nat.le_of_eq (set3_size _ _ _ _).symm)
                  have hk3 := hm4.out.same (set3_heap w4 (W1.heap.size + 1 + 1) (qx + y1) (qy + y2) (by omega))
                  have hk4 : Box3 (set3 w4 (W1.heap.size + 1 + 1) (qx + y1) (qy + y2)) (W1.heap.size + 1 + 1) (some (qx + y1, qy + y2)) := hb34z.out.set _ _
                  have hk5 := set3_grown hgw4' (B := W1.heap.size + 1 + 1) (by omega) (qx + y1) (qy + y2)
                  exact ⟨j + 1, f2, some (qx + y1, qy + y2), by go_num, by omega, by rw [hstep.out]; rfl, hk4.grown (World.grownBy_alloc _ _ (some bm)) (by omega), hk1.grown (World.grownBy_alloc _ _ (some bm)) (by omega), hk2.grown (World.grownBy_alloc _ _ (some bm)) (by omega), hk3.alloc _, hme4.out, grown_trans hk5 (World.grownBy_alloc _ _ _)⟩
                case measure => simp [intOf]; omega
          · have hjn : j = hh.parts.n := by omega
            have hfull : d.parts.take j = d.parts := List.take_of_length_le (by rw [hrpw.out.1]; omega)
            have hox := Lib.hid (hfinal.out o (by rw [hov, hfull]))
            have hb3z := Lib.hid hb3r
            have hb2z := Lib.hid hb2r
            obtain ⟨d0, d1, d2, d3, d4⟩ := hb3r
            obtain ⟨e0, e1, e2, e3⟩ := hb2r
            replace hov := Lib.hid hov
            replace hjn := Lib.hid hjn
            replace hfull := Lib.hid hfull
            clear hbsr
            go_wp2_with (at_mapUpdate; refine wpList_mapUpdate_f rfl _ _ _ _ rfl 231 keyI Try.underlying180 rfl hmr (by unfold maxLen; omega) rfl hkey.out o rfl ?_; intro w7 hm7 hg7)
            clear d0 d1 d2 d3 d4 e0 e1 e2 e3
            have k3 := hb3z.out.grown hg7 (by omega)
            have k2 := hb2z.out.grown hg7 (by omega)
            have hg8 := grown_trans hgr hg7
            obtain ⟨a0, a1, a2, a3, a4⟩ := k3
            obtain ⟨c0, c1, c2, c3⟩ := k2
            have hne1 : ¬ W1.heap.size + 1 + 1 = w.heap.size + 1 := by omega
            have hne2 : ¬ w.heap.size + 1 = W1.heap.size + 1 + 1 := by omega
            have hmx : MemOkG (ancF L nm out) n (putF f' (.int .i64 x) (o)) := by rw [hox.out]; exact hme.out.put hx0 hxi
            have hm8 := hm7.tight keyI (N := 40) (fun kl hk => by
              obtain ⟨v, hv⟩ := Option.isSome_iff_exists.1 hk
              obtain ⟨i, hi, e, _⟩ := hmx kl v hv
              exact ⟨i, by omega, e⟩)
            replace hmx := Lib.hid hmx
            replace hm8 := Lib.hid hm8
            replace hg8 := Lib.hid hg8
            go_region
            all_goals
              go_wp2_with fail
              refine bodyPost_ret (v := .tuple #[.agg #[.int .i64 (oX (o)), .int .i64 (oY (o))], .bool (o).isSome]) (by simp [results, Try.results152, go_sem, c0, c1]) rfl ⟨_, by rw [← hox.out], ((hm8.out.setCell (by show bm ≠ w.heap.size + 1; omega) _).setCell (by show bm ≠ w.heap.size + 1; omega) _).drew, hmx.out, grown_drew (grown_setNew (a := ⟨w.heap.size + 1, 1, none⟩) (grown_setNew (a := ⟨w.heap.size + 1, 0, none⟩) hg8.out (by show w.heap.size ≤ w.heap.size + 1; omega) _) (by show w.heap.size ≤ w.heap.size + 1; omega) _)⟩
      · subst hm1
        have hakn : ak < hh.anchors.n := by have := (List.getElem?_eq_some_iff.1 hka).1; rw [hra5.out.1] at this; exact this
        obtain ⟨p2, g2, ⟨a0, a1, a2⟩, hA2, _, hp2, hkb, hcs2⟩ := hra5.out.at hakn
        have hab := Option.some.inj (hkb.symm.trans hka)
        subst hab
        have q1 := hcs2 1 _ rfl
        have q2 := hcs2 2 _ rfl
        rw [hA2] at g55
        have hp2w : p2 < w5.heap.size := by omega
        have haki : (0 : Int) ≤ (ak : Int) ∧ (ak : Int) < (hh.anchors.n : Int) := by omega
        have hb36 := Lib.hid (show Box3 (set3 w5 (W1.heap.size + 1 + 1) a1 a2) (W1.heap.size + 1 + 1) o0 by rw [hon0]; exact hb35.set a1 a2)
        replace hon0 := Lib.hid hon0
        have hbs6 := hbs5.keep (set3_heap w5 (W1.heap.size + 1 + 1) a1 a2 (by omega)) (Nat.le_of_eq (set3_size _ _ _ _).symm)
        have hb26 := hb25.keep (set3_heap w5 (W1.heap.size + 1 + 1) a1 a2 (by omega)) (Nat.le_of_eq (set3_size _ _ _ _).symm)
        have hmap6 := Lib.hid (hmap5.out.same (set3_heap w5 (W1.heap.size + 1 + 1) a1 a2 (by omega)))
        have hgw6 := set3_grown hgw5 (B := W1.heap.size + 1 + 1) (by omega) a1 a2
        obtain ⟨d0, d1, d2, d3, d4⟩ := hb35
        dsimp only [oX, oY, Option.isSome] at d0 d1 d2
        replace hA2 := Lib.hid hA2
        replace hka := Lib.hid hka
        clear hcs2 hkb
        go_wp2_with fail
        change Code.wp _ _ _ _ (set3 w5 (W1.heap.size + 1 + 1) a1 a2)
        clear d0 d1 d2 d3 d4 q1 q2 hbs5 hb25 hmap5 hgw5 hp2w
        generalize set3 w5 (W1.heap.size + 1 + 1) a1 a2 = w6 at *
        clear g45 g55 hrp1x
        go_loopw [55] (fun i wr => ∃ (j : Nat) (f' : Lit → Option (Option (Int × Int))) (o : Option (Int × Int)), i = .int .i64 j ∧ j ≤ hh.parts.n ∧ o = orP o0 (ancP (ancF L nm out) (d.parts.take j)) ∧ Box3 wr (W1.heap.size + 1 + 1) o ∧ BoxSet wr w.heap.size u (some ⟨b1, f1, none⟩) n c ∧ Box2 wr (w.heap.size + 1) 0 0 ∧ MapF ancE wr Try.prog 2 bm 40 f' ∧ MemOkG (ancF L nm out) n f' ∧ w.grownBy wr (some bm)) (fun i wr => hh.parts.n - (intOf i).toNat)
        case atStart => exact ⟨0, f, o0, rfl, Nat.zero_le _, by rw [List.take_zero]; unfold orP ancP; cases o0 <;> rfl, hb36.out, hbs6, hb26, hmap6.out, hmem.out, hgw6⟩
        case round =>
          clear hb36 hbs6 hb26 hmap6 hgw6
          obtain ⟨j, f', o, rfl, hj, hov, hb3r, hbsr, hb2r, hmr, hme, hgr⟩ := hrel
          replace hme := Lib.hid hme
          have hszr := hgr.size
          have hz3r := hb3r.lt
          have hsr : SameB lo hi w wr := grown_sameB hgr (by omega) (.inr hb)
          have hfinal : ∀ o', o' = orP o0 (ancP (ancF L nm out) d.parts) → o' = ancF L nm out x := fun o' h => by rw [h, hval.out]
          replace hfinal := Lib.hid hfinal
          by_cases hjl : j < hh.parts.n
          · obtain ⟨p1, g1, ⟨y0, y1, y2⟩, hA, _, hpw, hjb, hcs⟩ := (hrpw.out.frame (good_flat _) hsr).at hjl
            have q0 := hcs 0 _ rfl
            have q1 := hcs 1 _ rfl
            have q2 := hcs 2 _ rfl
            simp only [Nat.add_zero] at q0 q1 q2
            have hpw' : p1 < wr.heap.size := by omega
            have hji : (0 : Int) ≤ (j : Int) ∧ (j : Int) < (hh.parts.n : Int) := by omega
            have hbA : wr.grownBy (wr.alloc (.cells #[.int .i64 y0, .int .i64 y1, .int .i64 y2] 150 (0, 0))) (some bm) := World.grownBy_alloc _ _ _
            have hb3a := hb3r.grown hbA (by omega)
            have hbsa := hbsr.grown hbA (by omega)
            have hb2a := hb2r.grown hbA (by omega)
            have hga := grown_trans hgr hbA
            have hma := Lib.hid (hmr.alloc (.cells #[.int .i64 y0, .int .i64 y1, .int .i64 y2] 150 (0, 0)))
            rw [hA]
            replace hA := Lib.hid hA
            have hbsz := Lib.hid hbsa
            have hb2z := Lib.hid hb2a
            have hb3z := Lib.hid hb3a
            cases o with
            | some q =>
              have hox := Lib.hid (hfinal.out (some q) (by
                unfold orP at hov ⊢
                cases ho0c : o0 with
                | some q2 => rw [ho0c] at hov; exact hov
                | none =>
                  rw [ho0c] at hov
                  exact (ancP_hit hov.symm).symm))
              obtain ⟨d0, d1, d2, d3, d4⟩ := hb3a
              obtain ⟨e0, e1, e2, e3⟩ := hb2a
              dsimp only [Option.isSome] at d2
              replace hov := Lib.hid hov
              clear hbsa hb3r hbsr hb2r hmr hcs hjb hbA
              go_wp2_with (at_mapUpdate; refine wpList_mapUpdate_f rfl _ _ _ _ rfl 231 keyI Try.underlying180 rfl hma.out (by unfold maxLen; omega) rfl hkey.out (some q) rfl ?_; intro w7 hm7 hg7)
              clear d0 d1 d2 d3 d4 e0 e1 e2 e3
              have k3 := hb3z.out.grown hg7 (by omega)
              have k2 := hb2z.out.grown hg7 (by omega)
              have hg8 := grown_trans hga hg7
              obtain ⟨a0, a1, a2, a3, a4⟩ := k3
              obtain ⟨c0, c1, c2, c3⟩ := k2
              have hne1 : ¬ W1.heap.size + 1 + 1 = w.heap.size + 1 := by omega
              have hne2 : ¬ w.heap.size + 1 = W1.heap.size + 1 + 1 := by omega
              have hmx : MemOkG (ancF L nm out) n (putF f' (.int .i64 x) (some q)) := by rw [hox.out]; exact hme.out.put hx0 hxi
              have hm8 := hm7.tight keyI (N := 40) (fun kl hk => by
                obtain ⟨v, hv⟩ := Option.isSome_iff_exists.1 hk
                obtain ⟨i, hi, e, _⟩ := hmx kl v hv
                exact ⟨i, by omega, e⟩)
              replace hmx := Lib.hid hmx
              replace hm8 := Lib.hid hm8
              replace hg8 := Lib.hid hg8
              go_region
              all_goals
                go_wp2_with fail
                refine bodyPost_ret (v := .tuple #[.agg #[.int .i64 (oX (some q)), .int .i64 (oY (some q))], .bool (some q).isSome]) (by simp [results, Try.results152, go_sem, c0, c1]) rfl ⟨_, by rw [← hox.out], ((hm8.out.setCell (by show bm ≠ w.heap.size + 1; omega) _).setCell (by show bm ≠ w.heap.size + 1; omega) _).drew, hmx.out, grown_drew (grown_setNew (a := ⟨w.heap.size + 1, 1, none⟩) (grown_setNew (a := ⟨w.heap.size + 1, 0, none⟩) hg8.out (by show w.heap.size ≤ w.heap.size + 1; omega) _) (by show w.heap.size ≤ w.heap.size + 1; omega) _)⟩
            | none =>
              have hmemp := hready.out y0 (List.mem_map_of_mem (f := (·.1)) (List.mem_of_getElem? hjb))
              obtain ⟨sN, hsN⟩ := List.getElem?_of_mem hmemp
              have hst : sN < t := by
                have := (List.getElem?_eq_some_iff.1 hsN).1
                rw [List.length_take] at this; omega
              rw [List.getElem?_take_of_lt hst] at hsN
              have hcall := Lib.hid (ih.out sN hst y0 f' (wr.alloc (.cells #[.int .i64 y0, .int .i64 y1, .int .i64 y2] 150 (0, 0))) hsN hma.out hme.out ((hr.out.frame good_glyph hsr).frame good_glyph (SameB.alloc (SameB.refl lo hi wr) (by omega) _)) (by simp; omega))
              have hzb := hbd.out sN y0 hsN
              obtain ⟨⟨hmv1, hmv2⟩, hmv3, hmv4⟩ := hmv.out _ (List.mem_of_getElem? hjb)
              simp only at hmv1 hmv2 hmv3 hmv4
              have ho0n : o0 = none ∧ ancP (ancF L nm out) (d.parts.take j) = none := by
                unfold orP at hov
                cases ho0c : o0 with
                | some q2 => rw [ho0c] at hov; cases hov
                | none => rw [ho0c] at hov; exact ⟨rfl, hov.symm⟩
              have hstep := Lib.hid (show orP o0 (ancP (ancF L nm out) (d.parts.take (j + 1))) = (ancF L nm out y0).map fun q => (q.1 + y1, q.2 + y2) from by
                rw [ho0n.1]; exact ancP_step hjb ho0n.2)
              replace ho0n := Lib.hid ho0n
              replace hov := Lib.hid hov
              obtain ⟨p0, p1', p2⟩ : (wr.alloc (.cells #[.int .i64 y0, .int .i64 y1, .int .i64 y2] 150 (0, 0))).cell? ⟨wr.heap.size, 0, none⟩ = some (.int .i64 y0) ∧ (wr.alloc (.cells #[.int .i64 y0, .int .i64 y1, .int .i64 y2] 150 (0, 0))).cell? ⟨wr.heap.size, 1, none⟩ = some (.int .i64 y1) ∧ (wr.alloc (.cells #[.int .i64 y0, .int .i64 y1, .int .i64 y2] 150 (0, 0))).cell? ⟨wr.heap.size, 2, none⟩ = some (.int .i64 y2) := ⟨by rw [Go.Joins.cell_of_block (heap_alloc_new wr _)]; rfl, by rw [Go.Joins.cell_of_block (heap_alloc_new wr _)]; rfl, by rw [Go.Joins.cell_of_block (heap_alloc_new wr _)]; rfl⟩
              have hzp : wr.heap.size < (wr.alloc (.cells #[.int .i64 y0, .int .i64 y1, .int .i64 y2] 150 (0, 0))).heap.size := by simp
              obtain ⟨d0, d1, d2, d3, d4⟩ := hb3a
              obtain ⟨s0, s1, s3⟩ := hbsa
              dsimp only [Option.isSome] at d2
              replace hsN := Lib.hid hsN
              clear hb3r hbsr hb2r hmr hcs hjb hmemp
              go_wp2_with fail
              refine hcall.out.mono ?_
              rintro e w4 ⟨f2, rfl, hm4, hme4, hg4⟩
              have hb34' := hb3z.out.grown hg4 (by omega)
              have hbs4' := hbsz.out.grown hg4 (by omega)
              have hb24' := hb2z.out.grown hg4 (by omega)
              have hgw4' := grown_trans hga hg4
              have r0 := (grown_cellN hg4 (x := wr.heap.size) (o := 0) hzp (by omega)).trans p0
              have r1 := (grown_cellN hg4 (x := wr.heap.size) (o := 1) hzp (by omega)).trans p1'
              have r2 := (grown_cellN hg4 (x := wr.heap.size) (o := 2) hzp (by omega)).trans p2
              have hz4' : wr.heap.size < w4.heap.size := Nat.lt_of_lt_of_le hzp hg4.size
              replace hm4 := Lib.hid hm4
              replace hme4 := Lib.hid hme4
              clear d0 d1 d2 d3 d4 s0 s1 s3 p0 p1' p2 q0 q1 q2 hcall hbA hb2a
              generalize ancF L nm out y0 = z at hzb hstep ⊢
              cases z with
              | none =>
                dsimp only [oX, oY, Option.isSome]
                go_wp2_with fail
                go_roundw
                case rel => exact ⟨j + 1, f2, none, by go_num, by omega, hstep.out.symm, hb34'.grown (World.grownBy_alloc _ _ (some bm)) (by omega), hbs4'.grown (World.grownBy_alloc _ _ (some bm)) (by omega), hb24'.grown (World.grownBy_alloc _ _ (some bm)) (by omega), hm4.out.alloc _, hme4.out, grown_trans hgw4' (World.grownBy_alloc _ _ _)⟩
                case measure => simp [intOf]; omega
              | some q =>
                obtain ⟨qx, qy⟩ := q
                have hzq := hzb _ rfl
                obtain ⟨⟨hq1, hq2⟩, hq3, hq4⟩ := hzq
                simp only at hq1 hq2 hq3 hq4
                dsimp only [oX, oY, Option.isSome]
                have hb34z := Lib.hid hb34'
                obtain ⟨d0, d1, d2, d3, d4⟩ := hb34'
                go_wp2_with fail
                go_roundw
                case rel =>
                  have hk1 := hbs4'.keep (set3_heap w4 (W1.heap.size + 1 + 1) (qx + y1) (qy + y2) (by omega)) (Nat.le_of_eq (set3_size _ _ _ _).symm)
                  have hk2 := hb24'.keep (set3_heap w4 (W1.heap.size + 1 + 1) (qx + y1) (qy + y2) (by omega)) (Nat.le_of_eq (set3_size _ _ _ _).symm)
                  have hk3 := hm4.out.same (set3_heap w4 (W1.heap.size + 1 + 1) (qx + y1) (qy + y2) (by omega))
                  have hk4 : Box3 (set3 w4 (W1.heap.size + 1 + 1) (qx + y1) (qy + y2)) (W1.heap.size + 1 + 1) (some (qx + y1, qy + y2)) := hb34z.out.set _ _
                  have hk5 := set3_grown hgw4' (B := W1.heap.size + 1 + 1) (by omega) (qx + y1) (qy + y2)
                  exact ⟨j + 1, f2, some (qx + y1, qy + y2), by go_num, by omega, by rw [hstep.out]; rfl, hk4.grown (World.grownBy_alloc _ _ (some bm)) (by omega), hk1.grown (World.grownBy_alloc _ _ (some bm)) (by omega), hk2.grown (World.grownBy_alloc _ _ (some bm)) (by omega), hk3.alloc _, hme4.out, grown_trans hk5 (World.grownBy_alloc _ _ _)⟩
                case measure => simp [intOf]; omega
          · have hjn : j = hh.parts.n := by omega
            have hfull : d.parts.take j = d.parts := List.take_of_length_le (by rw [hrpw.out.1]; omega)
            have hox := Lib.hid (hfinal.out o (by rw [hov, hfull]))
            have hb3z := Lib.hid hb3r
            have hb2z := Lib.hid hb2r
            obtain ⟨d0, d1, d2, d3, d4⟩ := hb3r
            obtain ⟨e0, e1, e2, e3⟩ := hb2r
            replace hov := Lib.hid hov
            replace hjn := Lib.hid hjn
            replace hfull := Lib.hid hfull
            clear hbsr
            go_wp2_with (at_mapUpdate; refine wpList_mapUpdate_f rfl _ _ _ _ rfl 231 keyI Try.underlying180 rfl hmr (by unfold maxLen; omega) rfl hkey.out o rfl ?_; intro w7 hm7 hg7)
            clear d0 d1 d2 d3 d4 e0 e1 e2 e3
            have k3 := hb3z.out.grown hg7 (by omega)
            have k2 := hb2z.out.grown hg7 (by omega)
            have hg8 := grown_trans hgr hg7
            obtain ⟨a0, a1, a2, a3, a4⟩ := k3
            obtain ⟨c0, c1, c2, c3⟩ := k2
            have hne1 : ¬ W1.heap.size + 1 + 1 = w.heap.size + 1 := by omega
            have hne2 : ¬ w.heap.size + 1 = W1.heap.size + 1 + 1 := by omega
            have hmx : MemOkG (ancF L nm out) n (putF f' (.int .i64 x) (o)) := by rw [hox.out]; exact hme.out.put hx0 hxi
            have hm8 := hm7.tight keyI (N := 40) (fun kl hk => by
              obtain ⟨v, hv⟩ := Option.isSome_iff_exists.1 hk
              obtain ⟨i, hi, e, _⟩ := hmx kl v hv
              exact ⟨i, by omega, e⟩)
            replace hmx := Lib.hid hmx
            replace hm8 := Lib.hid hm8
            replace hg8 := Lib.hid hg8
            go_region
            all_goals
              go_wp2_with fail
              refine bodyPost_ret (v := .tuple #[.agg #[.int .i64 (oX (o)), .int .i64 (oY (o))], .bool (o).isSome]) (by simp [results, Try.results152, go_sem, c0, c1]) rfl ⟨_, by rw [← hox.out], ((hm8.out.setCell (by show bm ≠ w.heap.size + 1; omega) _).setCell (by show bm ≠ w.heap.size + 1; omega) _).drew, hmx.out, grown_drew (grown_setNew (a := ⟨w.heap.size + 1, 1, none⟩) (grown_setNew (a := ⟨w.heap.size + 1, 0, none⟩) hg8.out (by show w.heap.size ≤ w.heap.size + 1; omega) _) (by show w.heap.size ≤ w.heap.size + 1; omega) _)⟩
end Go.Proofs.Ytpjmpbdbfldnaaa

/- The anchor of a glyph of a set: the program's side. Conditions: as each states. -/
namespace Go.Proofs.Ytpjmpbdbfldnaaa
open Go.RowKit Go.Maps
set_option linter.unusedVariables false
set_option maxRecDepth 8000

def ancR (d : GSet) (x : Int) (nm : ByteArray) : Int × Int × Int := if askR d x = 0 then (match ancF d.gl nm (order (tgts d.gl)) x with
  | none => (0, 0, 3)
  | some q => if ptOk q.1 q.2 = true then (q.1, q.2, 0) else (0, 0, 2)) else (0, 0, askR d x)
theorem ancR_bad {d : GSet} {x : Int} {nm : ByteArray} (h : askR d x ≠ 0) : ancR d x nm = (0, 0, askR d x) := if_neg h
theorem ancR_ok {d : GSet} {x : Int} {nm : ByteArray} (h : askR d x = 0) : ancR d x nm = (match ancF d.gl nm (order (tgts d.gl)) x with
  | none => (0, 0, 3)
  | some q => if ptOk q.1 q.2 = true then (q.1, q.2, 0) else (0, 0, 2)) := if_pos h

set_option maxHeartbeats 4000000 in
theorem implAnchorOf_any (d : GSet) (h : GSetH) (x0 : Int) (nm : ByteArray) (r0 r1 r2 : Int) (heq : (r0, r1, r2) = ancR d x0 nm) (lo hi : Nat) (w : World) (hr : GSetRc w lo hi d h) (hhi : hi ≤ w.heap.size) (hm : d.small 1000000000) (hs : ∀ g ∈ d.gl, g.str) :
    Calls Try.prog 71 #[gsV d h, .int .i64 x0, .string nm] w fun e w' => e = .returned (.tuple #[.agg #[.int .i64 r0, .int .i64 r1], .int .i64 r2]) ∧ Below w.heap.size w w' := by
  obtain ⟨W, hW⟩ : ∃ W, W = (w.alloc (.cells #[.int .i64 d.unit, .slice h.gl.A h.gl.n h.gl.c] 84 (0, 0))).alloc (.cells #[.int .i64 0, .int .i64 0] 29 (0, 0)) := ⟨_, rfl⟩
  have hB0 : Below w.heap.size w W := by rw [hW]; exact Go.Joins.below_alloc2 _ _ _
  have hnew := heap_new2 w (.cells #[.int .i64 d.unit, .slice h.gl.A h.gl.n h.gl.c] 84 (0, 0)) (.cells #[.int .i64 0, .int .i64 0] 29 (0, 0))
  rw [← hW] at hnew
  have hbs := BoxSet.of hnew.1
  have hb2 := Box2.of hnew.2
  obtain ⟨q, hq⟩ : ∃ q, q = askR d x0 := ⟨_, rfl⟩
  have hc := Lib.hid (checkGlyph_any d h x0 q hq lo hi W (hr.frame good_glyphc (Below.sameB hB0 hhi)) (Nat.le_trans hhi hB0.size) hm hs)
  have hcs := ask_cases d x0
  by_cases hq0 : q = 0
  rotate_left
  · rw [ancR_bad (by rw [← hq]; exact hq0), ← hq] at heq
    rw [← hq] at hcs
    injection heq with e0 e1
    injection e1 with e1 e2
    subst e0 e1 e2
    have hq1 : r2 = 1 ∨ r2 = 2 := by omega
    replace hq := Lib.hid hq
    clear hr hm hs hcs hq0 hnew
    rcases hq1 with rfl | rfl
    all_goals
      go_enter Try.func71, Try.ntmps71
      obtain ⟨s0, s1, s2⟩ := hbs
      rw [hW] at s0 s1
      go_wp2_with fail
      rw [← hW]
      refine hc.out.mono ?_
      rintro e w1 ⟨rfl, hb1⟩
      have hg1 := below_grown hb1 none
      obtain ⟨c0, c1, c2, c3⟩ := hb2.keep (hb1.block _ hb2.lt) hb1.size
      have hB1 := hB0.trans (hb1.mono hB0.size)
      replace hW := Lib.hid hW
      go_wp2_with fail
      refine bodyPost_ret (v := .tuple #[.agg #[.int .i64 0, .int .i64 0], .int .i64 _]) (by simp [results, Try.results71, go_sem, c0, c1]) rfl ⟨rfl, (hB1.setCell (by show w.heap.size ≤ w.heap.size + 1; omega) _).setCell (by show w.heap.size ≤ w.heap.size + 1; omega) _⟩
  · subst hq0
    rw [ancR_ok hq.symm] at heq
    obtain ⟨_, hok, hx0, hxn⟩ : askR d x0 = 0 ∧ setOk d = true ∧ 0 ≤ x0 ∧ x0 < d.gl.length := by rcases hcs with h1 | h1 | h1; omega; omega; exact h1
    have hl := hr.1
    obtain ⟨t, ht⟩ := ord_at (set_is hok).2.2 hx0 hxn
    have hn40 : h.gl.n ≤ 40 := by rw [← hl]; exact (set_is hok).1
    have hcc := Lib.hid (fun (V : World) (hB : Below w.heap.size w V) => anchorOf_any d.unit h.gl.A h.gl.n h.gl.c lo hi V.heap.size d.gl nm (order (tgts d.gl)) (order_ord _) hl hn40 (by rw [(set_is hok).2.2, hl]) (set_is hok).2.1 (Nat.le_trans hhi hB.size) t x0 (fun _ => none) (V.alloc (.map #[] 0)) ht ((MapF.made ancE V Try.prog 2).mono (by omega)) (MemOkG.none _ _) ((GsRc.rd (hr.frame good_glyphc (Below.sameB hB hhi))).frame good_glyph (SameB.alloc (SameB.refl _ _ _) (Nat.le_trans hhi hB.size) _)) (by simp; have := hB.size; omega))
    have hmm := fun (t : TypeId) (V : World) => run_makeMap (P := Try.prog) t V
    generalize hz : ancF d.gl nm (order (tgts d.gl)) = C at heq hcc
    replace hz := Lib.hid hz
    obtain ⟨z, hzz⟩ : ∃ z, z = C x0 := ⟨_, rfl⟩
    rw [← hzz] at heq
    replace hq := Lib.hid hq
    replace hl := Lib.hid hl
    replace ht := Lib.hid ht
    clear hr hm hs hcs hok hnew
    obtain ⟨s0, s1, s2⟩ := hbs
    go_enter Try.func71, Try.ntmps71
    rw [hW] at s0 s1
    go_wp2_with fail
    rw [← hW]
    refine hc.out.mono ?_
    rintro e w1 ⟨rfl, hb1⟩
    have hB1 := hB0.trans (hb1.mono hB0.size)
    rw [← hW] at s0 s1
    have j0 := (hb1.cell (p := ⟨w.heap.size, 0, none⟩) s2).trans s0
    have j1 := (hb1.cell (p := ⟨w.heap.size, 1, none⟩) s2).trans s1
    have hz1 : w.heap.size < w1.heap.size := Nat.lt_of_lt_of_le s2 hb1.size
    have hb21 := hb2.keep (hb1.block _ hb2.lt) hb1.size
    replace hW := Lib.hid hW
    clear hc s0 s1 s2
    go_wp2_with fail
    refine (hcc.out _ hB1).mono ?_
    rintro e w2 ⟨f2, rfl, _, _, hg2⟩
    have hbA : w1.grownBy (w1.alloc (.map #[] 0)) (some w1.heap.size) := World.grownBy_alloc _ _ _
    have hg3 := grown_trans hbA hg2
    have hB2 : Below w.heap.size w w2 := hB1.grown hg3 hB1.size (fun j hj => by cases hj; exact hB1.size)
    have hb22 := hb21.grown hg3 (by have := hb21.lt; omega)
    have hb2z := Lib.hid hb22
    have hb2lt : w.heap.size + 1 < w1.heap.size := hb21.lt
    clear hb21 j0 j1 hbA
    rw [← hzz]
    replace hzz := Lib.hid hzz
    cases z with
    | none =>
      injection heq with e0 e1
      injection e1 with e1 e2
      subst e0 e1 e2
      obtain ⟨c0, c1, c2, c3⟩ := hb22
      dsimp only [oX, oY, Option.isSome]
      go_wp2_with fail
      refine bodyPost_ret (v := .tuple #[.agg #[.int .i64 0, .int .i64 0], .int .i64 3]) (by simp [results, Try.results71, go_sem, c0, c1, c3, World.cell?_alloc_lt]) rfl ⟨rfl, ?_⟩
      repeat (first | exact hB2 | refine Below.alloc ?_ (by first | exact hB2.size | (simp; exact hB2.size)) _ | refine Below.setCell ?_ (by show w.heap.size ≤ w.heap.size + 1; omega) _)
    | some q =>
      obtain ⟨qx, qy⟩ := q
      have cV := Lib.hid (fun V => validPt_any qx qy V)
      dsimp only [oX, oY, Option.isSome]
      cases hpt : ptOk qx qy with
      | false =>
        simp only [hpt] at heq
        injection heq with e0 e1
        injection e1 with e1 e2
        subst e0 e1 e2
        rw [hpt] at cV
        obtain ⟨c0, c1, c2, c3⟩ := hb22
        go_wp2_with fail
        refine (cV.out _).mono ?_
        rintro e w3 ⟨rfl, hb3⟩
        have hbV : Below w.heap.size w (w2.alloc (.cells #[.int .i64 qx, .int .i64 qy] 29 (0, 0))) := hB2.alloc hB2.size _
        have hB3 := hbV.trans (hb3.mono hbV.size)
        have hbz : Box2 (w2.alloc (.cells #[.int .i64 qx, .int .i64 qy] 29 (0, 0))) (w.heap.size + 1) 0 0 := hb2z.out.grown (World.grownBy_alloc _ _ (some w1.heap.size)) (by have := hb2lt; omega)
        obtain ⟨g0, g1, g2, g3⟩ := hbz.keep (hb3.block _ hbz.lt) hb3.size
        have hb9 : Box2 (w2.alloc (.cells #[.int .i64 qx, .int .i64 qy] 29 (0, 0))) w2.heap.size qx qy := Box2.of (heap_alloc_new w2 _)
        obtain ⟨v0, v1, v2, v3⟩ := hb9.keep (hb3.block _ hb9.lt) hb3.size
        clear c0 c1 c2 c3 hbz hb9 hb3 hbV
        go_wp2_with fail
        refine bodyPost_ret (v := .tuple #[.agg #[.int .i64 0, .int .i64 0], .int .i64 2]) (by simp [results, Try.results71, go_sem, g0, g1]) rfl ⟨rfl, ?_⟩
        repeat (first | exact hB3 | refine Below.alloc ?_ (by first | exact hB3.size | (simp; exact hB3.size)) _ | refine Below.setCell ?_ (by show w.heap.size ≤ w.heap.size + 1; omega) _)
      | true =>
        simp only [hpt] at heq
        injection heq with e0 e1
        injection e1 with e1 e2
        subst e0 e1 e2
        rw [hpt] at cV
        obtain ⟨c0, c1, c2, c3⟩ := hb22
        go_wp2_with fail
        refine (cV.out _).mono ?_
        rintro e w3 ⟨rfl, hb3⟩
        have hbV : Below w.heap.size w (w2.alloc (.cells #[.int .i64 r0, .int .i64 r1] 29 (0, 0))) := hB2.alloc hB2.size _
        have hB3 := hbV.trans (hb3.mono hbV.size)
        have hbz : Box2 (w2.alloc (.cells #[.int .i64 r0, .int .i64 r1] 29 (0, 0))) (w.heap.size + 1) 0 0 := hb2z.out.grown (World.grownBy_alloc _ _ (some w1.heap.size)) (by have := hb2lt; omega)
        obtain ⟨g0, g1, g2, g3⟩ := hbz.keep (hb3.block _ hbz.lt) hb3.size
        have hb9 : Box2 (w2.alloc (.cells #[.int .i64 r0, .int .i64 r1] 29 (0, 0))) w2.heap.size r0 r1 := Box2.of (heap_alloc_new w2 _)
        obtain ⟨v0, v1, v2, v3⟩ := hb9.keep (hb3.block _ hb9.lt) hb3.size
        clear c0 c1 c2 c3 hbz hb9 hb3 hbV
        go_wp2_with fail
        refine bodyPost_ret (v := .tuple #[.agg #[.int .i64 r0, .int .i64 r1], .int .i64 0]) (by simp [results, Try.results71, go_sem, g0, g1]) rfl ⟨rfl, ?_⟩
        repeat (first | exact hB3 | refine Below.alloc ?_ (by first | exact hB3.size | (simp; exact hB3.size)) _ | refine Below.setCell ?_ (by show w.heap.size ≤ w.heap.size + 1; omega) _)
end Go.Proofs.Ytpjmpbdbfldnaaa

/- The anchor of a glyph of a set: the reference's side. Conditions: as each states. -/
namespace Go.Proofs.Ytpjmpbdbfldnaaa
open Go.RowKit Go.Maps
set_option linter.unusedVariables false
set_option maxRecDepth 8000

theorem ancIdx_hit {K : List Anch} {nm : ByteArray} {k : Nat} {a : Anch} (h : K[k]? = some a) (ha : a.1 = nm) (hb : ∀ b ∈ K.take k, b.1 ≠ nm) : ancIdx K nm = (k : Int) := (ancIdx_is K nm).unique (.inr ⟨k, a, rfl, h, ha, hb⟩)
theorem ancIdx_miss {K : List Anch} {nm : ByteArray} (hb : ∀ b ∈ K, b.1 ≠ nm) : ancIdx K nm = -1 := (ancIdx_is K nm).unique (.inl ⟨rfl, hb⟩)

set_option maxHeartbeats 2000000 in
theorem l17Anchor_any (p o : Nat) (A : Option Addr) (n c lo hi : Nat) (K : List Anch) (nm : ByteArray) (w : World) (hp0 : p < w.heap.size) (k1 : w.cell? ⟨p, o + 5, none⟩ = some (.slice A n c)) (hr : RdS 3 (FlatR anchC) w lo hi A n K) (hhi : hi ≤ w.heap.size) (hn : n ≤ 1000000000) :
    Calls Try.prog 206 #[.pointer (some ⟨p, o, none⟩), .string nm] w fun e w' => e = .returned (.int .i64 (ancIdx K nm)) ∧ w = w' := by
  obtain ⟨r, hres⟩ : ∃ r, r = ancIdx K nm := ⟨_, rfl⟩
  rw [← hres]
  replace hres := Lib.hid hres
  have hl := Lib.hid hr.1
  replace hr := Lib.hid hr
  go_enter Try.func206, Try.ntmps206
  go_wp2_with fail
  go_loop [5] (fun i => ∃ k : Nat, k ≤ n ∧ i = .int .i64 k ∧ ∀ b ∈ K.take k, b.1 ≠ nm) (fun i => n - (intOf i).toNat)
  case atStart => exact ⟨0, Nat.zero_le _, rfl, by simp⟩
  case round =>
    obtain ⟨k, hk, rfl, hall⟩ := hrel
    replace hall := Lib.hid hall
    by_cases hlt : k < n
    · obtain ⟨b1, f1, ⟨y0, y1, y2⟩, rfl, _, hb1, hja, hcs⟩ := hr.out.at hlt
      have q0 := hcs 0 _ rfl
      simp only [Nat.add_zero] at q0
      have hb1w : b1 < w.heap.size := by omega
      have hki : (0 : Int) ≤ (k : Int) ∧ (k : Int) < (n : Int) := by omega
      replace hja := Lib.hid hja
      clear hcs
      by_cases e0 : y0 = nm
      · have hrk : r = (k : Int) := by rw [hres.out]; exact ancIdx_hit hja.out e0 hall.out
        subst hrk
        have u0 : (y0.toList == nm.toList) = true := by simp [e0]
        replace e0 := Lib.hid e0
        go_wp2_with fail
        go_ret
        exact ⟨rfl, rfl⟩
      · have u0 : (y0.toList == nm.toList) = false := bytes_neq e0
        replace e0 := Lib.hid e0
        go_wp2_with fail
        go_round
        case rel => exact ⟨k + 1, by omega, by go_num, free_step hall.out hja.out e0.out⟩
        case measure => simp [intOf]; omega
    · have hkn : k = n := by omega
      have hrk : r = -1 := by rw [hres.out]; exact ancIdx_miss (by have := hall.out; rwa [hkn, List.take_of_length_le (by rw [hl.out]; omega)] at this)
      subst hrk
      replace hkn := Lib.hid hkn
      go_wp2_with fail
      go_ret
      exact ⟨rfl, rfl⟩

/-! ### those that have it -/
def hvT (L : List Gl) (nm : ByteArray) (out : List Int) (t : Nat) : List Int := (out.take t).filter fun x => (ancF L nm out x).isSome
theorem hv_mem {L : List Gl} {nm : ByteArray} {out : List Int} {t : Nat} {p : Int} (h : p ∈ out.take t) : decide (p ∈ hvT L nm out t) = (ancF L nm out p).isSome := by
  unfold hvT
  rw [Bool.eq_iff_iff, decide_eq_true_iff, List.mem_filter]
  exact ⟨fun h2 => h2.2, fun h2 => ⟨h, h2⟩⟩
theorem hv_next {L : List Gl} {nm : ByteArray} {out : List Int} {t : Nat} {x : Int} (hx : out[t]? = some x) : hvT L nm out (t + 1) = if (ancF L nm out x).isSome then hvT L nm out t ++ [x] else hvT L nm out t := by
  unfold hvT
  rw [take_snoc_at hx, List.filter_append]
  cases h : (ancF L nm out x).isSome <;> simp [h]
theorem hv_len (L : List Gl) (nm : ByteArray) (out : List Int) (t : Nat) : (hvT L nm out t).length ≤ out.length := by
  unfold hvT
  exact Nat.le_trans (List.length_filter_le _ _) (List.length_take_le' _ _)
def anyP (C : Int → Option (Int × Int)) (ps : List Part) : Bool := (ancP C ps).isSome
theorem anyP_step {C : Int → Option (Int × Int)} {ps : List Part} {j : Nat} {p : Part} (h : ps[j]? = some p) : anyP C (ps.take (j + 1)) = (anyP C (ps.take j) || (C p.1).isSome) := by
  unfold anyP
  rw [take_snocG h, ancP_append]
  cases hc : ancP C (ps.take j) with
  | some q => rfl
  | none => simp only [ancP]; cases C p.1 <;> rfl

set_option maxHeartbeats 8000000 in
theorem l17Having_any (p o : Nat) (A : Option Addr) (n c lo hi : Nat) (L : List Gl) (nm : ByteArray) (w : World) (hp0 : p < w.heap.size) (k1 : w.cell? ⟨p, o + 1, none⟩ = some (.slice A n c)) (hr : GsRd w lo hi A n L) (hhi : hi ≤ w.heap.size) (hn : n ≤ 40) (hfull : (order (tgts L)).length = n) (hok : ∀ g ∈ L, g.parts.length ≤ 6 ∧ g.anchors.length ≤ 6) :
    Calls Try.prog 205 #[.pointer (some ⟨p, o, none⟩), .string nm] w fun e w' => ∃ A' c', e = .returned (.slice A' (hvT L nm (order (tgts L)) n).length c') ∧ w'.ownsRow w.heap.size 2 1 (.slice A' (hvT L nm (order (tgts L)) n).length c') (hvT L nm (order (tgts L)) n).length ((hvT L nm (order (tgts L)) n).flatMap intC) ∧ Below w.heap.size w w' := by
  have hl := hr.1
  have hco := Lib.hid (l17Order_any p o A n c lo hi L w hp0 k1 hr hhi hn (fun g hg => (hok g hg).1))
  rw [hfull] at hco
  obtain ⟨out, hout⟩ : ∃ out, out = order (tgts L) := ⟨_, rfl⟩
  have hord : Ord (tgts L) out := hout ▸ order_ord _
  rw [← hout] at hco hfull ⊢
  replace hl := Lib.hid hl
  replace hout := Lib.hid hout
  replace hord := Lib.hid hord
  replace hfull := Lib.hid hfull
  replace hr := Lib.hid hr
  replace hok := Lib.hid hok
  go_enter Try.func205, Try.ntmps205
  go_wp2_with fail
  refine hco.out.mono ?_
  rintro e w2 ⟨A2, c2, rfl, ho2, hb2⟩
  have k3 := (hb2.cell (p := ⟨p, o + 1, none⟩) hp0).trans k1
  have hp2 : p < w2.heap.size := Nat.lt_of_lt_of_le hp0 hb2.size
  have hrd2 := Lib.hid (rdS_own intC_len (by omega) ho2 hfull.out)
  have hs2 := hb2.size
  clear hco ho2 k1
  have hown0 : (w2.alloc (.cells #[] 2)).ownsRow w2.heap.size 2 1 (.slice (some ⟨w2.heap.size, 0, none⟩) 0 0) 0 [] := World.ownsRow_made w2 #[] 0 (Nat.le_refl _) (Nat.zero_le _) rfl
  go_wp2_with fail
  go_loopw [7, 6] (fun i v6 wr => ∃ (t : Nat) (A' : Option Addr) (c' : Nat), i = .int .i64 t ∧ t ≤ n ∧ v6 = .slice A' (hvT L nm out t).length c' ∧ wr.ownsRow w2.heap.size 2 1 (.slice A' (hvT L nm out t).length c') (hvT L nm out t).length ((hvT L nm out t).flatMap intC) ∧ Below w2.heap.size w2 wr) (fun i v6 wr => n - (intOf i).toNat)
  case atStart => exact ⟨0, _, 0, rfl, Nat.zero_le _, rfl, hown0, (Below.refl _ _).alloc (Nat.le_refl _) _⟩
  case round =>
    clear hown0
    obtain ⟨t, A', c', rfl, ht, rfl, ho, hbel⟩ := hrel
    have hsz := hbel.size
    have kr := (hbel.cell (p := ⟨p, o + 1, none⟩) hp2).trans k3
    have hzr : p < wr.heap.size := by omega
    have hB3 := hb2.trans (hbel.mono hb2.size)
    by_cases hlt : t < n
    · obtain ⟨b1, f1, x, rfl, _, hb1, hja, hcs⟩ := (hrd2.out.frame (good_flat _) (Below.sameB hbel (Nat.le_refl _))).at hlt
      have q0 := hcs 0 _ rfl
      simp only [Nat.mul_one, Nat.add_zero] at q0
      obtain ⟨hxl, hxr⟩ := hord.out.rng x (List.mem_of_getElem? hja)
      rw [tgts_length, hl.out] at hxr
      have hxi : x < (n : Int) := by omega
      have hti : (0 : Int) ≤ (t : Int) ∧ (t : Int) < (n : Int) := by omega
      obtain ⟨b2, f2, g, hh, rfl, hb0, hb2', hjb, hcs2, hrg⟩ := gs_at (hr.out.frame good_glyph (Below.sameB hB3 hhi)) hxr
      have q4 := hcs2 4 _ rfl
      have q5 := hcs2 5 _ rfl
      have hb1w : b1 < wr.heap.size := by omega
      have hb2w : b2 < wr.heap.size := by omega
      have hgp : hh.parts.n ≤ 6 := by rw [← hrg.2.1.1]; exact (hok.out g (List.mem_of_getElem? hjb)).1
      have hga : hh.anchors.n ≤ 6 := by rw [← hrg.2.2.1]; exact (hok.out g (List.mem_of_getElem? hjb)).2
      have hrp := Lib.hid hrg.2.1
      have hra := Lib.hid hrg.2.2
      have hval := Lib.hid (ancF_is (nm := nm) hord.out hja hjb)
      have hready := Lib.hid (hord.out.ready t x hja _ (tgts_at hjb))
      have hnext := Lib.hid (hv_next (L := L) (nm := nm) hja)
      have hvl := hv_len L nm out t
      have hvl40 : (hvT L nm out t).length ≤ 40 := by have := hfull.out; omega
      obtain ⟨H, hH⟩ : ∃ H, H = hvT L nm out t := ⟨_, rfl⟩
      have hmemH := Lib.hid (fun (y : Int) (h : y ∈ out.take t) => hv_mem (L := L) (nm := nm) h)
      rw [← hH] at ho hnext hvl40 hmemH ⊢
      have hac := Lib.hid (anc_cases g.anchors nm)
      replace hja := Lib.hid hja
      replace hH := Lib.hid hH
      replace ho := Lib.hid ho
      clear hcs hcs2 hjb hrg hb0 hb1 hb2' hvl
      go_wp2_with fail
      go_quiet (fail)
      have kq0 : (wr.drewN nq).cell? ⟨b1, f1 + t, none⟩ = some (.int .i64 x) := q0
      have kq4 : (wr.drewN nq).cell? ⟨b2, f2 + x.toNat * 7 + 4, none⟩ = some (.slice hh.parts.A hh.parts.n hh.parts.c) := q4
      have kq5 : (wr.drewN nq).cell? ⟨b2, f2 + x.toNat * 7 + 5, none⟩ = some (.slice hh.anchors.A hh.anchors.n hh.anchors.c) := q5
      have hbd := below_drewN hbel nq
      have hod : Hid ((wr.drewN nq).ownsRow w2.heap.size 2 1 (.slice A' H.length c') H.length (H.flatMap intC)) := ho.out
      have hrpd := Lib.hid (show RdS 3 (FlatR partC) (wr.drewN nq) lo hi hh.parts.A hh.parts.n g.parts from hrp.out)
      have hrad := Lib.hid (show RdS 3 (FlatR anchC) (wr.drewN nq) lo hi hh.anchors.A hh.anchors.n g.anchors from hra.out)
      have hb1d : b1 < (wr.drewN nq).heap.size := hb1w
      have hb2d : b2 < (wr.drewN nq).heap.size := hb2w
      have hsd : w2.heap.size ≤ (wr.drewN nq).heap.size := hsz
      have hhd : hi ≤ (wr.drewN nq).heap.size := by show hi ≤ wr.heap.size; omega
      clear q0 q4 q5 hbel ho hrp hra hb1w hb2w hsz kr hzr hB3
      generalize wr.drewN nq = wo at *
      obtain ⟨ai, hai⟩ : ∃ ai, ai = ancIdx g.anchors nm := ⟨_, rfl⟩
      have hcA := Lib.hid (l17Anchor_any b2 (f2 + x.toNat * 7) hh.anchors.A hh.anchors.n hh.anchors.c lo hi g.anchors nm wo hb2d kq5 hrad.out hhd (by omega))
      rw [← hai] at hcA hac
      replace hai := Lib.hid hai
      have hhas := Lib.hid (fun (y : Int) (b : Bool) (hb : b = decide (y ∈ H)) => l00Has_any A' H.length c' w2.heap.size wo.heap.size H y b hb wo (rdS_own intC_len (by omega) hod.out rfl) (Nat.le_refl _) (by omega))
      obtain ⟨o0, ho0⟩ : ∃ o0, o0 = ancPt g.anchors nm := ⟨_, rfl⟩
      rw [← ho0] at hac hval
      have hs0 : o0.isSome = decide (0 ≤ ai) := by
        rcases hac.out with ⟨h1, h2⟩ | ⟨k, a, h1, _, h2⟩
        · rw [h2, h1]; rfl
        · rw [h2, h1]; simp
      have hfin := Lib.hid (show (ancF L nm out x).isSome = (o0.isSome || anyP (ancF L nm out) g.parts) from by
        rw [hval.out]; unfold orP anyP; cases o0 <;> rfl)
      have hge : 0 ≤ ai ∨ ai < 0 := by omega
      replace ho0 := Lib.hid ho0
      replace hac := Lib.hid hac.out
      replace hs0 := Lib.hid hs0
      rcases hge with hai0 | hai0
      all_goals
        go_wp2_with (go_at_call 206; refine hcA.out.mono ?_; rintro e w' ⟨rfl, rfl⟩)
        go_loop [9, 10] (fun v9 v10 => ∃ (j : Nat) (b : Bool), v10 = .int .i64 j ∧ j ≤ hh.parts.n ∧ v9 = .bool b ∧ b = (o0.isSome || anyP (ancF L nm out) (g.parts.take j))) (fun v9 v10 => hh.parts.n - (intOf v10).toNat)
        case atStart => exact ⟨0, _, rfl, Nat.zero_le _, rfl, by rw [hs0.out, List.take_zero]; first | (rw [decide_eq_true hai0]; rfl) | (rw [decide_eq_false (by omega)]; rfl)⟩
        case round =>
          obtain ⟨j, b, rfl, hj, rfl, hb⟩ := hrel
          by_cases hjl : j < hh.parts.n
          · obtain ⟨p1, g1, ⟨y0, y1, y2⟩, hA, _, hpw, hjb, hcs⟩ := hrpd.out.at hjl
            have q1 := hcs 0 _ rfl
            simp only [Nat.add_zero] at q1
            have hpw' : p1 < wo.heap.size := by omega
            have hji : (0 : Int) ≤ (j : Int) ∧ (j : Int) < (hh.parts.n : Int) := by omega
            have hy0 := hready.out y0 (List.mem_map_of_mem (f := (·.1)) (List.mem_of_getElem? hjb))
            have hms := hmemH.out y0 hy0
            have hbn := Lib.hid (show (o0.isSome || anyP (ancF L nm out) (g.parts.take (j + 1))) = (b || (ancF L nm out y0).isSome) from by rw [anyP_step hjb, hb, Bool.or_assoc])
            rw [hA] at kq4
            replace hA := Lib.hid hA
            obtain ⟨tt, htt⟩ : ∃ tt, tt = (ancF L nm out y0).isSome := ⟨_, rfl⟩
            have hc := Lib.hid (hhas.out y0 tt (by rw [htt, hms]))
            rw [← htt] at hbn
            replace hms := Lib.hid hms
            replace htt := Lib.hid htt
            replace hb := Lib.hid hb
            clear hcs hjb hy0
            cases b
            · go_wp2_with (go_at_call 203; refine hc.out.mono ?_; rintro e w' ⟨rfl, rfl⟩)
              go_round
              case rel => exact ⟨j + 1, tt, by go_num, by omega, rfl, by rw [hbn.out]; rfl⟩
              case measure => simp [intOf]; omega
            · go_wp2_with fail
              go_round
              case rel => exact ⟨j + 1, true, by go_num, by omega, rfl, by rw [hbn.out]; rfl⟩
              case measure => simp [intOf]; omega
          · have hjn : j = hh.parts.n := by omega
            have hall : g.parts.take j = g.parts := List.take_of_length_le (by rw [hrpd.out.1]; omega)
            rw [hall] at hb
            have hbx := Lib.hid (hb.trans hfin.out.symm)
            replace hb := Lib.hid hb
            replace hall := Lib.hid hall
            replace hjn := Lib.hid hjn
            cases b
            · have hn2 := Lib.hid (show hvT L nm out (t + 1) = H by rw [hnext.out, ← hbx.out]; rfl)
              go_wp2_with fail
              go_roundw
              case rel => exact ⟨t + 1, A', c', by go_num, by omega, by rw [hn2.out], by rw [hn2.out]; exact hod.out, hbd⟩
              case measure => simp [intOf]; omega
            · have hn2 := Lib.hid (show hvT L nm out (t + 1) = H ++ [x] by rw [hnext.out, ← hbx.out]; rfl)
              go_wp2_with (at_builtin; refine wpApp rfl (.tmp 56) (.tmp 61) elemI64o rfl (base := w2.heap.size) (v := .slice A' H.length c') rfl (hod.out.alloc _) rfl (src_at (cs := [.int .i64 x]) rfl (by simp [Value.oneCell']) (by simp)) (by omega) (by omega) (by simp; omega) (H.length + 1) rfl ?_; intro A3 c3 w1 ho1 hb1; replace ho1 := Lib.hid ho1)
              go_roundw
              case rel =>
                refine ⟨t + 1, A3, c3, by go_num, by omega, ?_, ?_, (hbd.alloc hsd _).trans hb1⟩
                · rw [hn2.out, List.length_append]; rfl
                · rw [hn2.out, flat_int_snoc, List.length_append]; exact ho1.out
              case measure => simp [intOf]; omega
    · have htn : t = n := by omega
      have hfn := Lib.hid (show wr.ownsRow w.heap.size 2 1 (.slice A' (hvT L nm out n).length c') (hvT L nm out n).length ((hvT L nm out n).flatMap intC) by rw [← htn]; exact own_lower ho hs2)
      have hlv : (hvT L nm out t).length = (hvT L nm out n).length := by rw [htn]
      rw [hlv]
      replace htn := Lib.hid htn
      replace hlv := Lib.hid hlv
      go_wp2_with fail
      go_ret
      exact ⟨_, _, rfl, hfn.out, hB3⟩
end Go.Proofs.Ytpjmpbdbfldnaaa

/- The place of an anchor: the reference's walk. Conditions: as each states. -/
namespace Go.Proofs.Ytpjmpbdbfldnaaa
open Go.RowKit Go.Maps
set_option linter.unusedVariables false
set_option maxRecDepth 8000

def posI (out : List Int) (x : Int) : Nat := out.findIdx fun y => decide (y = x)
theorem posI_at {out : List Int} (hd : out.Nodup) {s : Nat} {x : Int} (h : out[s]? = some x) : posI out x = s := by
  have hl := (List.getElem?_eq_some_iff.1 h).1
  have hx : out[s] = x := by rw [List.getElem?_eq_getElem hl] at h; injection h
  unfold posI
  rw [List.findIdx_eq hl]
  refine ⟨by simp [hx], fun j hj => ?_⟩
  have hjl : j < out.length := by omega
  have hne : out[j] ≠ out[s] := by
    intro e
    have := (List.getElem_inj hd).1 e
    omega
  rw [← hx]; simpa using hne
def ancV (o : Option (Int × Int)) : Int × Int × Int := match o with
  | none => (0, 0, 3)
  | some q => if ptOk q.1 q.2 = true then (q.1, q.2, 0) else (0, 0, 2)

def set2 (w : World) (B : Nat) (x y : Int) : World := (w.setCell ⟨B, 0, none⟩ (.int .i64 x)).setCell ⟨B, 1, none⟩ (.int .i64 y)
theorem set2_heap (w : World) (B : Nat) (x y : Int) {b : Nat} (hne : b ≠ B) : (set2 w B x y).heap[b]? = w.heap[b]? :=
  (Below.heap_setCell _ _ _ b hne).trans (Below.heap_setCell _ _ _ b hne)
theorem set2_size (w : World) (B : Nat) (x y : Int) : (set2 w B x y).heap.size = w.heap.size := by simp [set2]
theorem Box2.other {w : World} {b c : Nat} {u v : Int} (h : Box2 w c u v) (x y : Int) (hne : c ≠ b) : Box2 (set2 w b x y) c u v := h.keep (set2_heap w b x y hne) (by rw [set2_size]; exact Nat.le_refl _)
theorem Box2.drew {w : World} {b : Nat} {x y : Int} (h : Box2 w b x y) : Box2 w.drew b x y := h.keep rfl (Nat.le_refl _)
theorem Box2.set {w : World} {b : Nat} {x0 y0 : Int} (h : Box2 w b x0 y0) (x y : Int) : Box2 (set2 w b x y) b x y := by
  have e01 : (⟨b, 1, none⟩ : Addr) ≠ ⟨b, 0, none⟩ := by simp
  unfold set2
  refine ⟨?_, ?_, fun i => ?_, by simpa using h.lt⟩
  · rw [World.cell?_setCell_other _ _ _ _ e01]
    exact World.cell?_setCell_same _ _ _ h.c0
  · exact World.cell?_setCell_same _ _ _ (by rw [World.cell?_setCell_other _ _ _ _ e01.symm]; exact h.c1)
  · rw [World.frozen?_setCell, World.frozen?_setCell]; exact h.fz i

set_option maxHeartbeats 8000000 in
theorem l17AnchorAt_any (p o : Nat) (d : GSet) (h : GSetH) (x0 : Int) (nm : ByteArray) (r0 r1 r2 : Int) (heq : (r0, r1, r2) = ancV (ancF d.gl nm (order (tgts d.gl)) x0)) (lo hi : Nat) (w : World) (hp0 : p < w.heap.size) (k1 : w.cell? ⟨p, o + 1, none⟩ = some (.slice h.gl.A h.gl.n h.gl.c)) (hr : GSetRd w lo hi d h) (hhi : hi ≤ w.heap.size) (hok : setOk d = true) (hx0 : 0 ≤ x0) (hxn : x0 < d.gl.length) :
    Calls Try.prog 151 #[.pointer (some ⟨p, o, none⟩), .int .i64 x0, .string nm] w fun e w' => e = .returned (.tuple #[.agg #[.int .i64 r0, .int .i64 r1], .int .i64 r2]) ∧ Below w.heap.size w w' := by
  obtain ⟨hn40, hgok, hfull⟩ := set_is hok
  have hl := hr.1
  obtain ⟨t0, ht0⟩ := ord_at hfull hx0 hxn
  have hB0 : Below w.heap.size w (w.alloc (.cells #[.int .i64 0, .int .i64 0] 29 (0, 0))) := Go.Joins.below_alloc1 _ _
  have hb60 : Box2 (w.alloc (.cells #[.int .i64 0, .int .i64 0] 29 (0, 0))) w.heap.size 0 0 := Box2.of (heap_alloc_new w _)
  have hn : h.gl.n ≤ 40 := by rw [← hl]; exact hn40
  have hcH := Lib.hid (l17Having_any p o h.gl.A h.gl.n h.gl.c lo hi d.gl nm (w.alloc (.cells #[.int .i64 0, .int .i64 0] 29 (0, 0))) (Nat.lt_of_lt_of_le hp0 hB0.size) ((hB0.cell hp0).trans k1) (hr.frame good_glyph (Below.sameB hB0 hhi)) (Nat.le_trans hhi hB0.size) hn (by rw [hfull, hl]) (fun g hg => ⟨(glyph_is (hgok g hg)).2.1, (glyph_is (hgok g hg)).2.2.1⟩))
  obtain ⟨out, hout⟩ : ∃ out, out = order (tgts d.gl) := ⟨_, rfl⟩
  have hord : Ord (tgts d.gl) out := hout ▸ order_ord _
  rw [← hout] at hcH heq ht0 hfull
  have hbd := Lib.hid (fun (s : Nat) (y : Int) (hy : out[s]? = some y) => show BdP 10485760 (ancF d.gl nm out y) from (ancF_bd (nm := nm) hord hgok s y hy).mono (by have := (List.getElem?_eq_some_iff.1 hy).1; omega))
  obtain ⟨H, hH⟩ : ∃ H, H = hvT d.gl nm out h.gl.n := ⟨_, rfl⟩
  have hHl : H.length ≤ 40 := by have := hv_len d.gl nm out h.gl.n; rw [← hH] at this; omega
  have hmem := Lib.hid (fun (s : Nat) (y : Int) (hy : out[s]? = some y) => show decide (y ∈ H) = (ancF d.gl nm out y).isSome from by
    rw [hH]; exact hv_mem (by rw [List.take_of_length_le (by rw [hfull, hl]; omega)]; exact List.mem_of_getElem? hy))
  rw [← hH] at hcH
  have hall := Lib.hid (fun (s : Nat) (y : Int) (hy : out[s]? = some y) => show 0 ≤ y ∧ y.toNat < h.gl.n from by have := hord.rng y (List.mem_of_getElem? hy); rw [tgts_length, hl] at this; exact this)
  obtain ⟨z, hz⟩ : ∃ z, z = ancF d.gl nm out x0 := ⟨_, rfl⟩
  rw [← hz] at heq
  replace hH := Lib.hid hH
  replace hout := Lib.hid hout
  replace hord := Lib.hid hord
  replace hfull := Lib.hid hfull
  replace hl := Lib.hid hl
  replace hr := Lib.hid hr
  replace hgok := Lib.hid hgok
  clear hok hn40
  go_enter Try.func151, Try.ntmps151
  go_wp2_with fail
  refine hcH.out.mono ?_
  rintro e w2 ⟨A2, c2, rfl, ho2, hb2⟩
  have hB2 := hB0.trans (hb2.mono hB0.size)
  have hb62 := hb60.keep (hb2.block _ hb60.lt) hb2.size
  have k2 := (hB2.cell (p := ⟨p, o + 1, none⟩) hp0).trans k1
  have hs2 := hB2.size
  have hs1 := hb2.size
  have hrd2 := Lib.hid (rdS_own intC_len (by omega) ho2 rfl)
  have hhas := Lib.hid (fun (W : World) (hs : SameB (w.alloc (.cells #[.int .i64 0, .int .i64 0] 29 (0, 0))).heap.size w2.heap.size w2 W) (hz : w2.heap.size ≤ W.heap.size) (y : Int) (b : Bool) (hb : b = decide (y ∈ H)) => l00Has_any A2 H.length c2 _ _ H y b hb W (hrd2.out.frame (good_flat _) hs) hz (by omega))
  clear hcH ho2 hb60 hb2 k1
  have hm0 := hmem.out t0 x0 ht0
  rw [← hz] at hm0
  cases z with
  | none =>
    injection heq with e0 e1
    injection e1 with e1 e2
    subst e0 e1 e2
    have hc0 := Lib.hid (hhas.out w2 (SameB.refl _ _ _) (Nat.le_refl _) x0 false (by rw [hm0]; rfl))
    replace hm0 := Lib.hid hm0
    replace hz := Lib.hid hz
    obtain ⟨c0, c1, c2', c3⟩ := hb62
    go_wp2_with (go_at_call 203; refine hc0.out.mono ?_; rintro e w' ⟨rfl, rfl⟩)
    refine bodyPost_ret (v := .tuple #[.agg #[.int .i64 0, .int .i64 0], .int .i64 3]) (by simp [results, Try.results151, go_sem, c0, c1]) rfl ⟨rfl, ?_⟩
    repeat (first | exact hB2 | refine Below.setCell ?_ (by show w.heap.size ≤ w.heap.size; omega) _)
  | some q =>
    obtain ⟨X0, Y0⟩ := q
    have hc0 := Lib.hid (hhas.out w2 (SameB.refl _ _ _) (Nat.le_refl _) x0 true (by rw [hm0]; rfl))
    obtain ⟨⟨hX1, hX2⟩, hY1, hY2⟩ := hbd.out t0 x0 ht0 _ hz.symm
    simp only at hX1 hX2 hY1 hY2
    replace hm0 := Lib.hid hm0
    replace heq := Lib.hid heq
    have hz0 := Lib.hid hz
    have hb69 : Box2 (w2.alloc (.cells #[.int .i64 0, .int .i64 0] 29 (0, 0))) w.heap.size 0 0 := hb62.grown (World.grownBy_alloc _ _ (some w2.heap.size)) (by have := hb62.lt; omega)
    have hb99 : Box2 (w2.alloc (.cells #[.int .i64 0, .int .i64 0] 29 (0, 0))) w2.heap.size 0 0 := Box2.of (heap_alloc_new w2 _)
    have hg9 : w2.grownBy (w2.alloc (.cells #[.int .i64 0, .int .i64 0] 29 (0, 0))) (some w2.heap.size) := World.grownBy_alloc _ _ _
    have hp6 : w.heap.size < w2.heap.size := hb62.lt
    go_wp2_with (go_at_call 203; refine hc0.out.mono ?_; rintro e w' ⟨rfl, rfl⟩)
    clear hz
    generalize w2.alloc (.cells #[.int .i64 0, .int .i64 0] 29 (0, 0)) = W9 at *
    go_loopw [1] (fun v1 wr => ∃ (x : Int) (s : Nat) (qx qy ax ay : Int), v1 = .int .i64 x ∧ out[s]? = some x ∧ ancF d.gl nm out x = some (qx, qy) ∧ ax + qx = X0 ∧ ay + qy = Y0 ∧ Box2 wr w2.heap.size ax ay ∧ w2.grownBy wr (some w2.heap.size)) (fun v1 wr => posI out (intOf v1))
    case atStart => exact ⟨x0, t0, X0, Y0, 0, 0, rfl, ht0, hz0.out.symm, by omega, by omega, hb99, hg9⟩
    case round =>
      clear hb69 hb99 hg9
      obtain ⟨x, s, qx, qy, ax, ay, rfl, hxs, hxq, hax, hay, hb9, hgr⟩ := hrel
      have hszr := hgr.size
      have hk0 : w2.heap.size < wr.heap.size := hb9.lt
      have hp2 : p < w2.heap.size := by omega
      have kr := (grown_cellN hgr (x := p) (o := o + 1) hp2 (by omega)).trans k2
      obtain ⟨hx0', hxn'⟩ := hall.out s x hxs
      have hxi : x < (h.gl.n : Int) := by omega
      have hsw : SameB lo hi w wr := fun i h1 h2 => (grown_sameB hgr (Nat.le_trans hhi hs2) (.inr (Nat.le_trans hhi hs2)) i h1 h2).trans ((Below.sameB hB2 hhi) i h1 h2)
      obtain ⟨b1, f1, g, hh, hA, hb0, hb1, hja, hcs, hrg⟩ := gs_at (hr.out.frame good_glyph hsw) hxn'
      have q4 := hcs 4 _ rfl
      have q5 := hcs 5 _ rfl
      have hb1w : b1 < wr.heap.size := by omega
      have hgi := glyph_is (hgok.out g (List.mem_of_getElem? hja))
      have hpn : hh.parts.n ≤ 6 := by rw [← hrg.2.1.1]; exact hgi.2.1
      have han : hh.anchors.n ≤ 6 := by rw [← hrg.2.2.1]; exact hgi.2.2.1
      obtain ⟨ai, hai⟩ : ∃ ai, ai = ancIdx g.anchors nm := ⟨_, rfl⟩
      have hcA := Lib.hid (l17Anchor_any b1 (f1 + x.toNat * 7) hh.anchors.A hh.anchors.n hh.anchors.c lo hi g.anchors nm wr hb1w q5 hrg.2.2 (by omega) (by omega))
      have hac := anc_cases g.anchors nm
      rw [← hai] at hcA hac
      have hval := ancF_is (nm := nm) hord.out hxs hja
      rw [hxq] at hval
      rw [hA] at kr
      have hbq := hbd.out s x hxs _ hxq
      obtain ⟨⟨hq1, hq2⟩, hq3, hq4⟩ := hbq
      simp only at hq1 hq2 hq3 hq4
      have hb6r : Box2 wr w.heap.size 0 0 := hb62.grown hgr (by omega)
      have hBr : Below w.heap.size w wr := hB2.grown hgr hB2.size (fun j hj => by cases hj; exact hB2.size)
      have hhasr := Lib.hid (hhas.out wr (grown_sameB hgr (Nat.le_refl _) (.inr (Nat.le_refl _))) hszr)
      have hready := Lib.hid (hord.out.ready s x hxs _ (tgts_at hja))
      have hmv := Lib.hid (show ∀ p ∈ g.parts, (-262144 ≤ p.2.1 ∧ p.2.1 ≤ 262144) ∧ (-262144 ≤ p.2.2 ∧ p.2.2 ≤ 262144) from fun p hp => by
        have := hgi.2.2.2.2.1 p hp
        simp only [partOk, Bool.and_eq_true, ptOk_iff] at this
        exact this.2)
      have hgZ := Lib.hid hgr
      have hb9z := Lib.hid hb9
      have hb6z := Lib.hid hb6r
      obtain ⟨v0, v1, v2, v3⟩ := hb9
      replace hai := Lib.hid hai
      replace hA := Lib.hid hA
      rcases hac with ⟨rfl, hon⟩ | ⟨k, aa, rfl, hka, hon⟩
      rotate_left
      · rw [hon] at hval
        unfold orP at hval
        injection hval with hval
        obtain ⟨p1, g1, ⟨y0, y1, y2⟩, hA1, _, hpw, hjb, hcs1⟩ := hrg.2.2.at (j := k) (by have := (List.getElem?_eq_some_iff.1 hka).1; rw [hrg.2.2.1] at this; exact this)
        rw [hjb] at hka
        injection hka with hka
        subst hka
        injection hval with e1 e2
        subst e1 e2
        rw [hA1] at q5
        have u1 := hcs1 1 _ rfl
        have u2 := hcs1 2 _ rfl
        have hkl : k < hh.anchors.n := by have := (List.getElem?_eq_some_iff.1 hjb).1; rw [hrg.2.2.1] at this; exact this
        have hkn : (0 : Int) ≤ (k : Int) ∧ (k : Int) < (hh.anchors.n : Int) := by omega
        have hpw' : p1 < wr.heap.size := by omega
        have hwx : IntKind.i64.wrap (ax + qx) = ax + qx := IntWalk.i64_in _ (by omega)
        have hwy : IntKind.i64.wrap (ay + qy) = ay + qy := IntWalk.i64_in _ (by omega)
        replace hax := Lib.hid hax
        replace hay := Lib.hid hay
        clear hcs hcs1 hrg hgr
        go_wp2_with (go_at_call 206; refine hcA.out.mono ?_; rintro e w' ⟨rfl, rfl⟩)
        go_still_tail 25, (by kernel_rfl)
        have hb9d := Lib.hid hb9z.out.drew
        have hb6d := Lib.hid hb6z.out.drew
        have hBd := Lib.hid (show Below w.heap.size w wr.drew from hBr.drew)
        have c0d : wr.drew.cell? ⟨w2.heap.size, 0, none⟩ = some (.int .i64 ax) := v0
        have c1d : wr.drew.cell? ⟨w2.heap.size, 1, none⟩ = some (.int .i64 ay) := v1
        have fzd : ∀ i, wr.drew.frozen? ⟨w2.heap.size, i, none⟩ = false := v2
        have ltd : w2.heap.size < wr.drew.heap.size := v3
        change wpList _ _ _ _ _ wr.drew
        clear hcA hhasr hmv hready hb9z hb6z hBr v0 v1 v2 v3 kr q4 q5 u1 u2 hb6r hgZ hszr hk0 hb1w hpw hpw' hsw
        generalize wr.drew = w4 at *
        have cV := Lib.hid (fun V => l03Ok_any (ax + qx) (ay + qy) V)
        obtain ⟨W5, hW5⟩ : ∃ W5, W5 = (w4.setCell ⟨w2.heap.size, 0, none⟩ (.int .i64 (ax + qx))).setCell ⟨w2.heap.size, 1, none⟩ (.int .i64 (ay + qy)) := ⟨_, rfl⟩
        have hb9e : Box2 W5 w2.heap.size (ax + qx) (ay + qy) := by rw [hW5]; exact hb9d.out.set _ _
        have hb6e : Box2 W5 w.heap.size 0 0 := by rw [hW5]; exact hb6d.out.other _ _ (by omega)
        have hBe : Below w.heap.size w W5 := by rw [hW5]; exact (hBd.out.setCell (by show w.heap.size ≤ w2.heap.size; exact hs2) _).setCell (by show w.heap.size ≤ w2.heap.size; exact hs2) _
        replace heq := heq.out
        unfold ancV at heq
        cases hpt : ptOk (ax + qx) (ay + qy) with
        | false =>
          rw [← hax.out, ← hay.out] at heq
          simp only [hpt] at heq
          injection heq with e0 e1
          injection e1 with e1 e2
          subst e0 e1 e2
          rw [hpt] at cV
          go_wp2_with fail
          rw [← hW5]
          refine (cV.out _).mono ?_
          rintro e w6 ⟨rfl, hb6⟩
          have hB6 := hBe.trans (hb6.mono hBe.size)
          obtain ⟨k0, k1, k2', k3⟩ := hb6e.keep (hb6.block _ hb6e.lt) hb6.size
          obtain ⟨v0, v1, v2, v3⟩ := hb9e.keep (hb6.block _ hb9e.lt) hb6.size
          replace hW5 := Lib.hid hW5
          clear hb9e hb6e hb6 c0d c1d fzd ltd
          go_wp2_with fail
          refine bodyPost_ret (v := .tuple #[.agg #[.int .i64 0, .int .i64 0], .int .i64 2]) (by simp [results, Try.results151, go_sem, k0, k1]) rfl ⟨rfl, ?_⟩
          repeat (first | exact hB6 | refine Below.setCell ?_ (by show w.heap.size ≤ w.heap.size; omega) _)
        | true =>
          rw [← hax.out, ← hay.out] at heq
          simp only [hpt] at heq
          injection heq with e0 e1
          injection e1 with e1 e2
          subst e0 e1 e2
          rw [hpt] at cV
          go_wp2_with fail
          rw [← hW5]
          refine (cV.out _).mono ?_
          rintro e w6 ⟨rfl, hb6⟩
          have hB6 := hBe.trans (hb6.mono hBe.size)
          obtain ⟨k0, k1, k2', k3⟩ := hb6e.keep (hb6.block _ hb6e.lt) hb6.size
          obtain ⟨v0, v1, v2, v3⟩ := hb9e.keep (hb6.block _ hb9e.lt) hb6.size
          replace hW5 := Lib.hid hW5
          clear hb9e hb6e hb6 c0d c1d fzd ltd
          go_wp2_with fail
          refine bodyPost_ret (v := .tuple #[.agg #[.int .i64 (ax + qx), .int .i64 (ay + qy)], .int .i64 0]) (by simp [results, Try.results151, go_sem, k0, k1]) rfl ⟨rfl, ?_⟩
          repeat (first | exact hB6 | refine Below.setCell ?_ (by show w.heap.size ≤ w.heap.size; omega) _)
      · rw [hon] at hval
        have hval : some (qx, qy) = ancP (ancF d.gl nm out) g.parts := hval
        have hrp := Lib.hid hrg.2.1
        have hchk := Lib.hid hval
        clear hcs hrg hgr hval
        go_wp2_with (go_at_call 206; refine hcA.out.mono ?_; rintro e w' ⟨rfl, rfl⟩)
        go_loop [12] (fun v12 => ∃ (j : Nat), v12 = .int .i64 j ∧ j ≤ hh.parts.n ∧ ancP (ancF d.gl nm out) (g.parts.take j) = none) (fun v12 => hh.parts.n - (intOf v12).toNat)
        case atStart => exact ⟨0, rfl, Nat.zero_le _, by rw [List.take_zero]; rfl⟩
        case round =>
          obtain ⟨j, rfl, hj, hnone⟩ := hrel
          have hjl : j < hh.parts.n := by
            by_cases hjl : j < hh.parts.n
            · exact hjl
            · have hv := hchk.out
              rw [List.take_of_length_le (by rw [hrp.out.1]; omega)] at hnone
              rw [hnone] at hv
              cases hv
          obtain ⟨p1, g1, ⟨y0, y1, y2⟩, hA1, _, hpw, hjb, hcs1⟩ := hrp.out.at hjl
          rw [hA1] at q4
          have u0 := hcs1 0 _ rfl
          have u1 := hcs1 1 _ rfl
          have u2 := hcs1 2 _ rfl
          simp only [Nat.add_zero] at u0
          have hpw' : p1 < wr.heap.size := by omega
          have hji : (0 : Int) ≤ (j : Int) ∧ (j : Int) < (hh.parts.n : Int) := by omega
          have hmem0 := hready.out y0 (List.mem_map_of_mem (f := (·.1)) (List.mem_of_getElem? hjb))
          obtain ⟨s', hs'⟩ := List.getElem?_of_mem hmem0
          have hs's : s' < s := by have := (List.getElem?_eq_some_iff.1 hs').1; rw [List.length_take] at this; omega
          rw [List.getElem?_take_of_lt hs's] at hs'
          have hms := hmem.out s' y0 hs'
          have hst := ancP_step hjb hnone
          obtain ⟨⟨m1, m2⟩, m3, m4⟩ := hmv.out _ (List.mem_of_getElem? hjb)
          simp only at m1 m2 m3 m4
          clear hcs1 hmem0
          cases hD : ancF d.gl nm out y0 with
          | none =>
            have hc := Lib.hid (hhasr.out y0 false (by rw [hms, hD]; rfl))
            rw [show ancF d.gl nm out (y0, y1, y2).1 = none from hD] at hst
            replace hst := Lib.hid hst
            replace hms := Lib.hid hms
            replace hD := Lib.hid hD
            go_wp2_with (go_at_call 203; refine hc.out.mono ?_; rintro e w' ⟨rfl, rfl⟩)
            go_round
            case rel => exact ⟨j + 1, by go_num, by omega, hst.out⟩
            case measure => simp [intOf]; omega
          | some z =>
            obtain ⟨px, py⟩ := z
            have hc := Lib.hid (hhasr.out y0 true (by rw [hms, hD]; rfl))
            rw [show ancF d.gl nm out (y0, y1, y2).1 = some (px, py) from hD] at hst
            have hh1 := (ancP_hit hst).symm.trans hchk.out.symm
            injection hh1 with hh1
            injection hh1 with e1 e2
            simp only at e1 e2
            replace hst := Lib.hid hst
            replace hms := Lib.hid hms
            replace hD := Lib.hid hD
            have hwx : IntKind.i64.wrap (ax + y1) = ax + y1 := IntWalk.i64_in _ (by omega)
            have hwy : IntKind.i64.wrap (ay + y2) = ay + y2 := IntWalk.i64_in _ (by omega)
            go_wp2_with (go_at_call 203; refine hc.out.mono ?_; rintro e w' ⟨rfl, rfl⟩)
            go_still_tail 25, (by kernel_rfl)
            have hb9d := Lib.hid hb9z.out.drew
            have hgd := Lib.hid (grown_drew hgZ.out)
            have c0d : wr.drew.cell? ⟨w2.heap.size, 0, none⟩ = some (.int .i64 ax) := v0
            have c1d : wr.drew.cell? ⟨w2.heap.size, 1, none⟩ = some (.int .i64 ay) := v1
            have fzd : ∀ i, wr.drew.frozen? ⟨w2.heap.size, i, none⟩ = false := v2
            have ltd : w2.heap.size < wr.drew.heap.size := v3
            have q4d : wr.drew.cell? ⟨b1, f1 + x.toNat * 7 + 4, none⟩ = some (.slice (some ⟨p1, g1, none⟩) hh.parts.n hh.parts.c) := q4
            have u0d : wr.drew.cell? ⟨p1, g1 + j * 3, none⟩ = some (.int .i64 y0) := u0
            have hbd1 : b1 < wr.drew.heap.size := hb1w
            have hpd1 : p1 < wr.drew.heap.size := hpw'
            have ne1 : ¬ b1 = w2.heap.size := by omega
            have ne2 : ¬ w2.heap.size = b1 := by omega
            have ne3 : ¬ p1 = w2.heap.size := by omega
            have ne4 : ¬ w2.heap.size = p1 := by omega
            change wpList _ _ _ _ _ wr.drew
            clear hc hcA hhasr hmv hready hb9z hb6z hBr v0 v1 v2 v3 kr q4 q5 u0 u1 u2 hb6r hgZ hszr hk0 hb1w hpw hpw' hsw hrp
            generalize wr.drew = w4 at *
            go_wp2_with fail
            go_roundw
            case rel => exact ⟨y0, s', px, py, ax + y1, ay + y2, rfl, hs', hD.out, by omega, by omega, hb9d.out.set _ _, grown_setNew (a := ⟨w2.heap.size, 1, none⟩) (grown_setNew (a := ⟨w2.heap.size, 0, none⟩) hgd.out (Nat.le_refl _) _) (Nat.le_refl _) _⟩
            case measure =>
              show posI out y0 < posI out x
              rw [posI_at hord.out.nodup hs', posI_at hord.out.nodup hxs]
              exact hs's
end Go.Proofs.Ytpjmpbdbfldnaaa

/- The anchor of a glyph of a set: the reference's door. Conditions: as each states. -/
namespace Go.Proofs.Ytpjmpbdbfldnaaa
open Go.RowKit Go.Maps
set_option linter.unusedVariables false
set_option maxRecDepth 8000

set_option maxHeartbeats 4000000 in
theorem specAnchorOf_any (d : GSet) (h : GSetH) (x0 : Int) (nm : ByteArray) (r0 r1 r2 : Int) (heq : (r0, r1, r2) = ancR d x0 nm) (lo hi : Nat) (w : World) (hr : GSetRd w lo hi d h) (hhi : hi ≤ w.heap.size) (hm : d.small 1000000000) (hs : ∀ g ∈ d.gl, g.str) :
    Calls Try.prog 70 #[gsV d h, .int .i64 x0, .string nm] w fun e w' => e = .returned (.tuple #[.agg #[.int .i64 r0, .int .i64 r1], .int .i64 r2]) ∧ Below w.heap.size w w' := by
  obtain ⟨W, hW⟩ : ∃ W, W = (w.alloc (.cells #[.int .i64 d.unit, .slice h.gl.A h.gl.n h.gl.c] 84 (0, 0))).alloc (.cells #[.int .i64 0, .int .i64 0] 29 (0, 0)) := ⟨_, rfl⟩
  have hB0 : Below w.heap.size w W := by rw [hW]; exact Go.Joins.below_alloc2 _ _ _
  have hnew := heap_new2 w (.cells #[.int .i64 d.unit, .slice h.gl.A h.gl.n h.gl.c] 84 (0, 0)) (.cells #[.int .i64 0, .int .i64 0] 29 (0, 0))
  rw [← hW] at hnew
  have hbs := BoxSet.of hnew.1
  have hb2 := Box2.of hnew.2
  obtain ⟨s0, s1, s2⟩ := hbs
  obtain ⟨q, hq⟩ : ∃ q, q = askR d x0 := ⟨_, rfl⟩
  have hrW := hr.frame good_glyph (Below.sameB hB0 hhi)
  have hc := Lib.hid (l17Ask_any w.heap.size 0 d h x0 q hq lo hi W s2 s0 s1 hrW (Nat.le_trans hhi hB0.size) hm hs)
  have hcs := ask_cases d x0
  by_cases hq0 : q = 0
  rotate_left
  · rw [ancR_bad (by rw [← hq]; exact hq0), ← hq] at heq
    rw [← hq] at hcs
    injection heq with e0 e1
    injection e1 with e1 e2
    subst e0 e1 e2
    have hq1 : r2 = 1 ∨ r2 = 2 := by omega
    replace hq := Lib.hid hq
    clear hr hm hs hcs hq0 hnew hrW s0 s1
    rcases hq1 with rfl | rfl
    all_goals
      go_enter Try.func70, Try.ntmps70
      go_wp2_with fail
      rw [← hW]
      refine hc.out.mono ?_
      rintro e w1 ⟨rfl, hb1⟩
      obtain ⟨c0, c1, c2, c3⟩ := hb2.keep (hb1.block _ hb2.lt) hb1.size
      have hB1 := hB0.trans (hb1.mono hB0.size)
      replace hW := Lib.hid hW
      go_wp2_with fail
      refine bodyPost_ret (v := .tuple #[.agg #[.int .i64 0, .int .i64 0], .int .i64 _]) (by simp [results, Try.results70, go_sem, c0, c1]) rfl ⟨rfl, (hB1.setCell (by show w.heap.size ≤ w.heap.size + 1; omega) _).setCell (by show w.heap.size ≤ w.heap.size + 1; omega) _⟩
  · subst hq0
    rw [ancR_ok hq.symm] at heq
    obtain ⟨_, hok, hx0, hxn⟩ : askR d x0 = 0 ∧ setOk d = true ∧ 0 ≤ x0 ∧ x0 < d.gl.length := by rcases hcs with h1 | h1 | h1; omega; omega; exact h1
    have hv : (r0, r1, r2) = ancV (ancF d.gl nm (order (tgts d.gl)) x0) := by
      rw [heq]
      unfold ancV
      cases ancF d.gl nm (order (tgts d.gl)) x0 <;> rfl
    have hcc := Lib.hid (fun (V : World) (hB : Below W.heap.size W V) => l17AnchorAt_any w.heap.size 0 d h x0 nm r0 r1 r2 hv lo hi V (Nat.lt_of_lt_of_le s2 hB.size) ((hB.cell (p := ⟨w.heap.size, 0 + 1, none⟩) s2).trans s1) (hrW.frame good_glyph (Below.sameB hB (Nat.le_trans hhi hB0.size))) (Nat.le_trans (Nat.le_trans hhi hB0.size) hB.size) hok hx0 hxn)
    replace hq := Lib.hid hq
    clear hr hm hs hcs hnew hrW s0 s1 heq hv
    go_enter Try.func70, Try.ntmps70
    go_wp2_with fail
    rw [← hW]
    refine hc.out.mono ?_
    rintro e w1 ⟨rfl, hb1⟩
    have hB1 := hB0.trans (hb1.mono hB0.size)
    have hb21 := hb2.keep (hb1.block _ hb2.lt) hb1.size
    replace hW := Lib.hid hW
    go_wp2_with fail
    refine (hcc.out _ hb1).mono ?_
    rintro e w2 ⟨rfl, hb22⟩
    have hB2 := hB1.trans (hb22.mono hB1.size)
    obtain ⟨c0, c1, c2, c3⟩ := hb21.keep (hb22.block _ hb21.lt) hb22.size
    clear hb22 hb21
    go_wp2_with fail
    refine bodyPost_ret (v := .tuple #[.agg #[.int .i64 r0, .int .i64 r1], .int .i64 r2]) (by simp [results, Try.results70, go_sem, c0, c1]) rfl ⟨rfl, (hB2.setCell (by show w.heap.size ≤ w.heap.size + 1; omega) _).setCell (by show w.heap.size ≤ w.heap.size + 1; omega) _⟩
end Go.Proofs.Ytpjmpbdbfldnaaa

