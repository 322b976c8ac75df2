
import Derived.Maps.Ext
import Derived.RegionTactic
import Derived.BigQuiet
import Derived.StillTailTactics
import Derived.IntWalk
import Derived.Deep.RegionHeld3
import Derived.Test.YtgnjohkfgllhmaaOkI
import Derived.Test.YtgnjohkfgllhmaaRec
import Derived.Test.YtgnjohkfgllhmaaMapF
import Derived.Test.YtgnjohkfgllhmaaDrAll
import Derived.Test.YtgnjohkfgllhmaaAddAll
/- The code of a glyph of a set: both sides. Conditions: as each states. -/
namespace Go.Proofs.Ytgnjohkfgllhmaa
open Go.RowKit
set_option linter.unusedVariables false
set_option maxRecDepth 100000

/-- 1: not valid; 2: no such glyph; 0: fine -/
def askR (d : GSet) (x : Int) : Int := if setOk d = true then (if 0 ≤ x ∧ x < d.gl.length then 0 else 2) else 1
theorem ask_1 {d : GSet} {x : Int} (h : setOk d = false) : askR d x = 1 := if_neg (by rw [h]; simp)
theorem ask_2 {d : GSet} {x : Int} (h : setOk d = true) (h1 : ¬ (0 ≤ x ∧ x < d.gl.length)) : askR d x = 2 := by unfold askR; rw [if_pos h, if_neg h1]
theorem ask_0 {d : GSet} {x : Int} (h : setOk d = true) (h1 : 0 ≤ x ∧ x < d.gl.length) : askR d x = 0 := by unfold askR; rw [if_pos h, if_pos h1]
theorem ask_cases (d : GSet) (x : Int) : askR d x = 1 ∨ askR d x = 2 ∨ (askR d x = 0 ∧ setOk d = true ∧ 0 ≤ x ∧ x < d.gl.length) := by
  cases h : setOk d
  · exact .inl (ask_1 h)
  · by_cases h1 : 0 ≤ x ∧ x < d.gl.length
    · exact .inr (.inr ⟨ask_0 h h1, rfl, h1.1, h1.2⟩)
    · exact .inr (.inl (ask_2 h h1))

set_option maxHeartbeats 2000000 in
theorem checkGlyph_any (d : GSet) (h : GSetH) (x : Int) (r : Int) (hrr : r = askR d x) (lo hi : Nat) (w : World) (hr : GSetRc w lo hi d h) (hhi : hi ≤ w.heap.size) (hm : d.small 1000000000) (hs : ∀ g ∈ d.gl, g.str) :
    Calls Try.prog 38 #[gsV d h, .int .i64 x] w fun e w' => e = .returned (.int .i64 r) ∧ Below w.heap.size w w' := by
  have hB0 : Below w.heap.size w (w.alloc (.cells #[.int .i64 d.unit, .slice h.gl.A h.gl.n h.gl.c] 26 (0, 0))) := Go.Joins.below_alloc1 _ _
  obtain ⟨v, hv⟩ : ∃ v, v = setOk d := ⟨_, rfl⟩
  have hl := hr.1
  have hn := (hm.gl hr.1).1
  have hc := Lib.hid (implValidGS_any d h v hv lo hi (w.alloc (.cells #[.int .i64 d.unit, .slice h.gl.A h.gl.n h.gl.c] 26 (0, 0))) (hr.frame good_glyphc (Below.sameB hB0 hhi)) (Nat.le_trans hhi hB0.size) hm hs)
  have k1 : (w.alloc (.cells #[.int .i64 d.unit, .slice h.gl.A h.gl.n h.gl.c] 26 (0, 0))).cell? ⟨w.heap.size, 1, none⟩ = some (.slice h.gl.A h.gl.n h.gl.c) := by rw [Go.Joins.cell_of_block (heap_alloc_new w _)]; rfl
  have hz : w.heap.size < (w.alloc (.cells #[.int .i64 d.unit, .slice h.gl.A h.gl.n h.gl.c] 26 (0, 0))).heap.size := by simp
  cases v with
  | false =>
    rw [ask_1 hv.symm] at hrr
    subst hrr
    clear hr hm hs hv hl k1
    go_enter Try.func38, Try.ntmps38
    go_wp2_with fail
    refine hc.out.mono ?_
    rintro e w1 ⟨rfl, hb1⟩
    go_wp2_with fail
    go_ret
    exact ⟨rfl, hB0.trans (hb1.mono hB0.size)⟩
  | true =>
    have hcs : (r = 0 ∧ 0 ≤ x ∧ x < (h.gl.n : Int)) ∨ (r = 2 ∧ x < 0) ∨ (r = 2 ∧ 0 ≤ x ∧ ¬ x < (h.gl.n : Int)) := by
      by_cases h2 : 0 ≤ x ∧ x < d.gl.length
      · rw [ask_0 hv.symm h2] at hrr; exact .inl ⟨hrr, by omega⟩
      · rw [ask_2 hv.symm h2] at hrr; by_cases h3 : x < 0
        · exact .inr (.inl ⟨hrr, h3⟩)
        · exact .inr (.inr ⟨hrr, by omega, by omega⟩)
    replace hrr := Lib.hid hrr
    replace hl := Lib.hid hl
    clear hr hm hs hv
    rcases hcs with ⟨rfl, h0, h1⟩ | ⟨rfl, h0⟩ | ⟨rfl, h0, h1⟩
    all_goals
      go_enter Try.func38, Try.ntmps38
      go_wp2_with fail
      refine hc.out.mono ?_
      rintro e w1 ⟨rfl, hb1⟩
      have k2 := (hb1.cell (p := ⟨w.heap.size, 1, none⟩) hz).trans k1
      have hz1 : w.heap.size < w1.heap.size := Nat.lt_of_lt_of_le hz hb1.size
      clear k1
      go_wp2_with fail
      go_ret
      exact ⟨rfl, hB0.trans (hb1.mono hB0.size)⟩
end Go.Proofs.Ytgnjohkfgllhmaa

/- The anchor of a glyph or its parts, the program's side: XAncP, XAncJ, XAncK in one, with the lemmas of LoopCount that they use. Conditions: as each states. -/
namespace Go.Proofs.Ytgnjohkfgllhmaa
open Go.RowKit Go.Maps
set_option linter.unusedVariables false
set_option maxRecDepth 100000

theorem MapF.tight {α : Type} {E : ElemRd α} {w : World} {P : Program} {k : TypeId} {b n : Nat} {f : Lit → Option α} (h : MapF E w P k b n f) (K : Keyed P k) {N : Nat} (hs : ∀ kl, (f kl).isSome = true → ∃ j : Nat, j < N ∧ kl = .int .i64 j) : MapF E w P k b N f := by
  obtain ⟨D, h1, h2, h3⟩ := h
  obtain ⟨es, hD, hsort, hkeys⟩ := h1.canon K
  obtain ⟨ms, clock, hb, F, hsz, hDm⟩ := h1
  refine ⟨D, ⟨ms, clock, hb, F, ?_, hDm⟩, h2, h3⟩
  have hlen : ms.size = es.length := by
    rw [hDm] at hD
    injection hD with hD
    rw [← hD, length_sorted]; simp
  rw [hlen]
  have hmem : ∀ p ∈ es, ∃ j : Nat, j < N ∧ p.1 = .int .i64 j := fun p hp => by
    refine hs p.1 ?_
    have hh : Maps.has D p.1 = true := by
      rw [hD]
      exact List.any_eq_true.2 ⟨p, hp, WideAt.sameKey_self (hkeys p hp)⟩
    rw [← hh]
    cases hf : f p.1 with
    | none => rw [has_false_of_atKey fun z => by rw [h3, hf]; rfl] at hh; cases hh
    | some a => exact hh.symm
  have hap := apart_of_rising hsort
  have hnd : (es.map fun p => match p.1 with | .int _ a => a.toNat | _ => 0).Nodup := by
    unfold List.Nodup
    rw [List.pairwise_map]
    refine List.Pairwise.imp_of_mem (fun {a b} ha hb hne => ?_) hap
    obtain ⟨j, _, ej⟩ := hmem a ha
    obtain ⟨j', _, ej'⟩ := hmem b hb
    rw [ej, ej'] at hne ⊢
    intro e
    simp at e
    exact hne (by rw [e])
  have := nodup_le hnd (n := N) fun x hx => by
    obtain ⟨p, hp, rfl⟩ := List.mem_map.1 hx
    obtain ⟨j, hj, ej⟩ := hmem p hp
    rw [ej]; simpa using hj
  simpa using this

theorem below_grown {W w' : World} (hb : Below W.heap.size W w') (row : Option Nat) : W.grownBy w' row := ⟨hb.os, hb.tape, hb.output, hb.size, fun k hk _ => hb.block k hk⟩
theorem zeroI64 (w : World) : (zeroValue 2).run Try.prog w = .ok (.int .i64 0) w := by kernel_rfl
theorem grown_trans {a b c : World} {row : Option Nat} (h : a.grownBy b row) (k : b.grownBy c row) : a.grownBy c row :=
  ⟨k.os.trans h.os, k.tape.trans h.tape, k.output.trans h.output, Nat.le_trans h.size k.size, fun i hi hne => (k.block i (Nat.lt_of_lt_of_le hi h.size) hne).trans (h.block i hi hne)⟩
theorem grown_cellN {w w' : World} {b : Nat} (hg : w.grownBy w' (some b)) {x o : Nat} (hx : x < w.heap.size) (hne : x ≠ b) : w'.cell? ⟨x, o, none⟩ = w.cell? ⟨x, o, none⟩ :=
  World.cell?_of_block (w := w) (hg.block x hx (by simpa using hne))

theorem ord_at {L : List Gl} (hfull : (order (tgts L)).length = L.length) {x : Int} (h0 : 0 ≤ x) (h1 : x < L.length) : ∃ t : Nat, (order (tgts L))[t]? = some x := by
  have := (order_ord (tgts L)).mem_of_full (by rw [hfull, tgts_length]) (i := x.toNat) (by rw [tgts_length]; omega)
  rw [show ((x.toNat : Nat) : Int) = x by omega] at this
  exact List.getElem?_of_mem this
def ancPt (K : List Anch) (nm : ByteArray) : Option (Int × Int) := match K.findIdx? (fun a => decide (a.1 = nm)) with
  | some k => (K[k]?).map (·.2)
  | none => none
theorem anc_cases (K : List Anch) (nm : ByteArray) : (ancIdx K nm = -1 ∧ ancPt K nm = none) ∨ ∃ (k : Nat) (a : Anch), ancIdx K nm = (k : Int) ∧ K[k]? = some a ∧ ancPt K nm = some a.2 := by
  unfold ancIdx ancPt
  cases h : K.findIdx? (fun a => decide (a.1 = nm)) with
  | none => exact .inl ⟨rfl, rfl⟩
  | some k =>
    rw [List.findIdx?_eq_some_iff_getElem] at h
    exact .inr ⟨k, K[k]'h.1, rfl, List.getElem?_eq_getElem h.1, by simp [List.getElem?_eq_getElem h.1]⟩
def ancP (D : Int → Option (Int × Int)) : List Part → Option (Int × Int)
  | [] => none
  | p :: ps => match D p.1 with
    | some q => some (q.1 + p.2.1, q.2 + p.2.2)
    | none => ancP D ps
theorem ancP_append (D : Int → Option (Int × Int)) (ps qs : List Part) : ancP D (ps ++ qs) = match ancP D ps with
    | some q => some q
    | none => ancP D qs := by
  induction ps with
  | nil => rfl
  | cons p ps ih =>
    simp only [List.cons_append, ancP]
    cases D p.1 with
    | none => exact ih
    | some q => rfl
theorem ancP_hit {D : Int → Option (Int × Int)} {ps : List Part} {j : Nat} {q : Int × Int} (h : ancP D (ps.take j) = some q) : ancP D ps = some q := by
  rw [← List.take_append_drop j ps, ancP_append, h]
theorem ancP_step {D : Int → Option (Int × Int)} {ps : List Part} {j : Nat} {p : Part} (hp : ps[j]? = some p) (h : ancP D (ps.take j) = none) : ancP D (ps.take (j + 1)) = (D p.1).map fun q => (q.1 + p.2.1, q.2 + p.2.2) := by
  rw [take_snocG hp, ancP_append, h]
  simp only [ancP]
  cases D p.1 <;> rfl
theorem ancP_congr {D E : Int → Option (Int × Int)} {ps : List Part} (h : ∀ p ∈ ps, D p.1 = E p.1) : ancP D ps = ancP E ps := by
  induction ps with
  | nil => rfl
  | cons p ps ih => simp only [ancP]; rw [h p (by simp), ih fun q hq => h q (by simp [hq])]
theorem ancP_some {D : Int → Option (Int × Int)} {ps : List Part} {q : Int × Int} (h : ancP D ps = some q) : ∃ p ∈ ps, ∃ q', D p.1 = some q' ∧ q = (q'.1 + p.2.1, q'.2 + p.2.2) := by
  induction ps with
  | nil => cases h
  | cons p ps ih =>
    simp only [ancP] at h
    cases hd : D p.1 with
    | some q' => rw [hd] at h; injection h with h; exact ⟨p, by simp, q', hd, h.symm⟩
    | none =>
      rw [hd] at h
      obtain ⟨p', hp', r⟩ := ih h
      exact ⟨p', by simp [hp'], r⟩
/-- the first of a glyph's own, else of its parts -/
def orP (a b : Option (Int × Int)) : Option (Int × Int) := match a with
  | some q => some q
  | none => b
def ancG (L : List Gl) (nm : ByteArray) (D : Int → Option (Int × Int)) (x : Int) : Option (Int × Int) := match L[x.toNat]? with
  | some g => orP (ancPt g.anchors nm) (ancP D g.parts)
  | none => none
theorem ancG_eq {L : List Gl} {g : Gl} {x : Int} (h : L[x.toNat]? = some g) (nm : ByteArray) (D : Int → Option (Int × Int)) : ancG L nm D x = orP (ancPt g.anchors nm) (ancP D g.parts) := by unfold ancG; rw [h]
theorem ancG_none {L : List Gl} {x : Int} (h : L[x.toNat]? = none) (nm : ByteArray) (D : Int → Option (Int × Int)) : ancG L nm D x = none := by unfold ancG; rw [h]
theorem ancG_loc (L : List Gl) (nm : ByteArray) : Loc (tgts L) (ancG L nm) := by
  intro D E x ps hps hD
  obtain ⟨g, hg, rfl⟩ := tgts_get hps
  rw [ancG_eq hg, ancG_eq hg, ancP_congr fun p hp => hD p.1 (List.mem_map_of_mem (f := (·.1)) hp)]
def ancF (L : List Gl) (nm : ByteArray) (out : List Int) : Int → Option (Int × Int) := memF (ancG L nm) none out
theorem ancF_is {L : List Gl} {nm : ByteArray} {out : List Int} (ho : Ord (tgts L) out) {t : Nat} {x : Int} (hx : out[t]? = some x) {g : Gl} (hg : L[x.toNat]? = some g) : ancF L nm out x = orP (ancPt g.anchors nm) (ancP (ancF L nm out) g.parts) := by
  unfold ancF
  rw [memF_at (ancG_loc L nm) ho hx (tgts_at hg), ancG_eq hg]
/-- points within a bound -/
def BdP (B : Int) (o : Option (Int × Int)) : Prop := ∀ q, o = some q → (-B ≤ q.1 ∧ q.1 ≤ B) ∧ (-B ≤ q.2 ∧ q.2 ≤ B)
theorem BdP.mono {B C : Int} {o : Option (Int × Int)} (h : BdP B o) (hc : B ≤ C) : BdP C o := fun q hq => by have := h q hq; omega
theorem ancF_bd {L : List Gl} {nm : ByteArray} {out : List Int} (ho : Ord (tgts L) out) (hok : ∀ g ∈ L, glyphOk g = true) : ∀ (t : Nat) (x : Int), out[t]? = some x → BdP (262144 * ((t : Int) + 1)) (ancF L nm out x) := by
  refine memF_ind (Q := fun t x o => BdP (262144 * ((t : Int) + 1)) o) ho fun t x D hx hD q hq => ?_
  cases hg : L[x.toNat]? with
  | none => rw [ancG_none hg] at hq; cases hq
  | some g =>
    rw [ancG_eq hg] at hq
    have hgi := glyph_is (hok g (List.mem_of_getElem? hg))
    unfold orP at hq
    rcases anc_cases g.anchors nm with ⟨_, hn⟩ | ⟨k, a, _, ha, hn⟩
    · rw [hn] at hq
      obtain ⟨p, hp, q', hd, rfl⟩ := ancP_some hq
      have hpin := ho.ready t x hx _ (tgts_at hg) p.1 (List.mem_map_of_mem (f := (·.1)) hp)
      obtain ⟨s, hs, hb⟩ := hD p.1 hpin
      have hb := hb q' hd
      have hpo := hgi.2.2.2.2.1 p hp
      simp only [partOk, Bool.and_eq_true, ptOk_iff] at hpo
      have hst : 262144 * ((s : Int) + 1) ≤ 262144 * (t : Int) := by omega
      simp only
      omega
    · rw [hn] at hq
      injection hq with hq
      subst hq
      have hao := ptOk_iff.1 (hgi.2.2.2.2.2 a (List.mem_of_getElem? ha))
      have : (262144 : Int) ≤ 262144 * ((t : Int) + 1) := by omega
      omega

/-! ### what is remembered: a point and whether it is one -/
def oX (o : Option (Int × Int)) : Int := match o with
  | some q => q.1
  | none => 0
def oY (o : Option (Int × Int)) : Int := match o with
  | some q => q.2
  | none => 0
def pV (o : Option (Int × Int)) : Value := .agg #[.int .i64 (oX o), .int .i64 (oY o), .bool o.isSome]
def pD (v : Value) : Option (Option (Int × Int)) := match v with
  | .agg cs => (match cs.toList with
    | [.int .i64 x, .int .i64 y, .bool b] => if b then some (some (x, y)) else if x = 0 ∧ y = 0 then some none else none
    | _ => none)
  | _ => none
theorem pD_inv (v : Value) (o : Option (Int × Int)) (h : pD v = some o) : v = pV o := by
  cases v <;> try (simp [pD] at h; done)
  rename_i cs
  simp only [pD] at h
  split at h
  · rename_i x y b hcs
    have hcs2 : cs = #[.int .i64 x, .int .i64 y, .bool b] := by apply Array.toList_inj.1; rw [hcs]
    subst hcs2
    cases b
    · simp only [Bool.false_eq_true, if_false] at h
      split at h
      · rename_i hxy
        injection h with h
        subst h
        rw [hxy.1, hxy.2]; rfl
      · cases h
    · simp only [if_true] at h
      injection h with h
      subst h
      rfl
  · cases h
def pDat (o : Option (Int × Int)) : DataW Unit := match o with
  | some q => .agg [.lit (.int .i64 q.1), .lit (.int .i64 q.2), .lit (.bool true)]
  | none => .agg []
theorem pDat_inj (a b : Option (Int × Int)) (h : pDat a = pDat b) : a = b := by
  cases a <;> cases b <;> simp [pDat] at h
  · rfl
  · rename_i p q
    exact congrArg some (Prod.ext h.1 h.2)
def ancE : ElemRd (Option (Int × Int)) := { enc := pV, dat := pDat, dec := pD, de := fun o => by cases o <;> simp [pV, pD, oX, oY], inv := pD_inv, inj := pDat_inj }
def MemOkG {α : Type} (C : Int → α) (n : Nat) (f : Lit → Option α) : Prop := ∀ kl v, f kl = some v → ∃ j : Nat, j < n ∧ kl = .int .i64 j ∧ v = C j
theorem MemOkG.none {α : Type} (C : Int → α) (n : Nat) : MemOkG C n (fun _ => none) := fun kl v h => by cases h
theorem MemOkG.put {α : Type} {C : Int → α} {n : Nat} {f : Lit → Option α} (h : MemOkG C n f) {x : Int} (h0 : 0 ≤ x) (h1 : x < n) : MemOkG C n (putF f (.int .i64 x) (C x)) := fun kl v hv => by
  by_cases e : kl = .int .i64 x
  · subst e
    rw [putF_same _ (by trivial)] at hv
    injection hv with hv
    exact ⟨x.toNat, by omega, by rw [show ((x.toNat : Nat) : Int) = x by omega], by rw [show ((x.toNat : Nat) : Int) = x by omega, hv]⟩
  · rw [putF_ne _ e] at hv
    exact h kl v hv

/-! ### boxes -/
/-- a box of a point and a mark -/
structure Box3 (w : World) (b : Nat) (o : Option (Int × Int)) : Prop where
  c0 : w.cell? ⟨b, 0, none⟩ = some (.int .i64 (oX o))
  c1 : w.cell? ⟨b, 1, none⟩ = some (.int .i64 (oY o))
  c2 : w.cell? ⟨b, 2, none⟩ = some (.bool o.isSome)
  fz : ∀ i, w.frozen? ⟨b, i, none⟩ = false
  lt : b < w.heap.size
theorem Box3.grown {w w' : World} {b bm : Nat} {o : Option (Int × Int)} (h : Box3 w b o) (hg : w.grownBy w' (some bm)) (hne : b ≠ bm) : Box3 w' b o := by
  have hk : w'.heap[b]? = w.heap[b]? := hg.block b h.lt (by simpa using hne)
  exact ⟨(World.cell?_of_block (w := w) hk).trans h.c0, (World.cell?_of_block (w := w) hk).trans h.c1, (World.cell?_of_block (w := w) hk).trans h.c2, fun i => (World.frozen?_of_block (w := w) hk).trans (h.fz i), Nat.lt_of_lt_of_le h.lt hg.size⟩
theorem Box3.set {w : World} {b : Nat} {o : Option (Int × Int)} (h : Box3 w b o) (x y : Int) : Box3 (((w.setCell ⟨b, 0, none⟩ (.int .i64 x)).setCell ⟨b, 1, none⟩ (.int .i64 y)).setCell ⟨b, 2, none⟩ (.bool true)) b (some (x, y)) := by
  have e01 : (⟨b, 1, none⟩ : Addr) ≠ ⟨b, 0, none⟩ := by simp
  have e20 : (⟨b, 2, none⟩ : Addr) ≠ ⟨b, 0, none⟩ := by simp
  have e21 : (⟨b, 2, none⟩ : Addr) ≠ ⟨b, 1, none⟩ := by simp
  refine ⟨?_, ?_, ?_, fun i => ?_, by simpa using h.lt⟩
  · rw [World.cell?_setCell_other _ _ _ _ e20, World.cell?_setCell_other _ _ _ _ e01]
    exact World.cell?_setCell_same _ _ _ h.c0
  · rw [World.cell?_setCell_other _ _ _ _ e21]
    exact World.cell?_setCell_same _ _ _ (by rw [World.cell?_setCell_other _ _ _ _ e01.symm]; exact h.c1)
  · exact World.cell?_setCell_same _ _ _ (by rw [World.cell?_setCell_other _ _ _ _ e21.symm, World.cell?_setCell_other _ _ _ _ e20.symm]; exact h.c2)
  · rw [World.frozen?_setCell, World.frozen?_setCell, World.frozen?_setCell]; exact h.fz i
set_option maxRecDepth 8000
/-- a set in its box -/
structure BoxSet (w : World) (b : Nat) (u : Int) (A : Option Addr) (n c : Nat) : Prop where
  c0 : w.cell? ⟨b, 0, none⟩ = some (.int .i64 u)
  c1 : w.cell? ⟨b, 1, none⟩ = some (.slice A n c)
  lt : b < w.heap.size
theorem BoxSet.grown {w w' : World} {b bm n c : Nat} {u : Int} {A : Option Addr} (h : BoxSet w b u A n c) (hg : w.grownBy w' (some bm)) (hne : b ≠ bm) : BoxSet w' b u A n c := by
  have hk : w'.heap[b]? = w.heap[b]? := hg.block b h.lt (by simpa using hne)
  exact ⟨(World.cell?_of_block (w := w) hk).trans h.c0, (World.cell?_of_block (w := w) hk).trans h.c1, Nat.lt_of_lt_of_le h.lt hg.size⟩
/-- a point in its box, writable -/
structure Box2 (w : World) (b : Nat) (x y : Int) : Prop where
  c0 : w.cell? ⟨b, 0, none⟩ = some (.int .i64 x)
  c1 : w.cell? ⟨b, 1, none⟩ = some (.int .i64 y)
  fz : ∀ i, w.frozen? ⟨b, i, none⟩ = false
  lt : b < w.heap.size
theorem Box2.grown {w w' : World} {b bm : Nat} {x y : Int} (h : Box2 w b x y) (hg : w.grownBy w' (some bm)) (hne : b ≠ bm) : Box2 w' b x y := by
  have hk : w'.heap[b]? = w.heap[b]? := hg.block b h.lt (by simpa using hne)
  exact ⟨(World.cell?_of_block (w := w) hk).trans h.c0, (World.cell?_of_block (w := w) hk).trans h.c1, fun i => (World.frozen?_of_block (w := w) hk).trans (h.fz i), Nat.lt_of_lt_of_le h.lt hg.size⟩
theorem Box2.of {w : World} {b : Nat} {t : TypeId} {x y : Int} (h : w.heap[b]? = some (.cells #[.int .i64 x, .int .i64 y] t (0, 0))) : Box2 w b x y :=
  ⟨by rw [Go.Joins.cell_of_block h]; rfl, by rw [Go.Joins.cell_of_block h]; rfl, Go.Joins.unfrozen_of_block h, (Array.getElem?_eq_some_iff.1 h).1⟩
theorem BoxSet.of {w : World} {b n c : Nat} {t : TypeId} {u : Int} {A : Option Addr} (h : w.heap[b]? = some (.cells #[.int .i64 u, .slice A n c] t (0, 0))) : BoxSet w b u A n c :=
  ⟨by rw [Go.Joins.cell_of_block h]; rfl, by rw [Go.Joins.cell_of_block h]; rfl, (Array.getElem?_eq_some_iff.1 h).1⟩
theorem Box3.of {w : World} {b : Nat} {t : TypeId} (h : w.heap[b]? = some (.cells #[.int .i64 0, .int .i64 0, .bool false] t (0, 0))) : Box3 w b none :=
  ⟨by rw [Go.Joins.cell_of_block h]; rfl, by rw [Go.Joins.cell_of_block h]; rfl, by rw [Go.Joins.cell_of_block h]; rfl, Go.Joins.unfrozen_of_block h, (Array.getElem?_eq_some_iff.1 h).1⟩
theorem BoxSet.keep {w w' : World} {b n c : Nat} {u : Int} {A : Option Addr} (h : BoxSet w b u A n c) (hk : w'.heap[b]? = w.heap[b]?) (hs : w.heap.size ≤ w'.heap.size) : BoxSet w' b u A n c :=
  ⟨(World.cell?_of_block (w := w) hk).trans h.c0, (World.cell?_of_block (w := w) hk).trans h.c1, Nat.lt_of_lt_of_le h.lt hs⟩
theorem Box2.keep {w w' : World} {b : Nat} {x y : Int} (h : Box2 w b x y) (hk : w'.heap[b]? = w.heap[b]?) (hs : w.heap.size ≤ w'.heap.size) : Box2 w' b x y :=
  ⟨(World.cell?_of_block (w := w) hk).trans h.c0, (World.cell?_of_block (w := w) hk).trans h.c1, fun i => (World.frozen?_of_block (w := w) hk).trans (h.fz i), Nat.lt_of_lt_of_le h.lt hs⟩
def set3 (w : World) (B : Nat) (x y : Int) : World := ((w.setCell ⟨B, 0, none⟩ (.int .i64 x)).setCell ⟨B, 1, none⟩ (.int .i64 y)).setCell ⟨B, 2, none⟩ (.bool true)
theorem set3_heap (w : World) (B : Nat) (x y : Int) {b : Nat} (hne : b ≠ B) : (set3 w B x y).heap[b]? = w.heap[b]? :=
  (Below.heap_setCell _ _ _ b hne).trans ((Below.heap_setCell _ _ _ b hne).trans (Below.heap_setCell _ _ _ b hne))
theorem set3_size (w : World) (B : Nat) (x y : Int) : (set3 w B x y).heap.size = w.heap.size := by simp [set3]
theorem set3_grown {w W : World} {row : Option Nat} {B : Nat} (h : w.grownBy W row) (ha : w.heap.size ≤ B) (x y : Int) : w.grownBy (set3 W B x y) row :=
  ⟨h.os, h.tape, h.output, by rw [set3_size]; exact h.size, fun k hk hne => (set3_heap W B x y (by omega)).trans (h.block k hk hne)⟩
def AnEnd (C : Int → Option (Int × Int)) (n bm : Nat) (x : Int) (W w' : World) (e : Ending) : Prop := ∃ f', e = .returned (.tuple #[.agg #[.int .i64 (oX (C x)), .int .i64 (oY (C x))], .bool (C x).isSome]) ∧ MapF ancE w' Try.prog 2 bm 40 f' ∧ MemOkG C n f' ∧ W.grownBy w' (some bm)
theorem grown_setNew {w W : World} {row : Option Nat} (h : w.grownBy W row) {a : Addr} (ha : w.heap.size ≤ a.block) (u : Value) : w.grownBy (W.setCell a u) row :=
  ⟨h.os, h.tape, h.output, by simpa using h.size, fun k hk hne => (Below.heap_setCell W a u k (by omega)).trans (h.block k hk hne)⟩
theorem grown_drew {w W : World} {row : Option Nat} (h : w.grownBy W row) : w.grownBy W.drew row := ⟨h.os, h.tape, h.output, h.size, h.block⟩
theorem zeroAnc (w : World) : (zeroValue 148).run Try.prog w = .ok (pV none) w := by kernel_rfl

set_option maxHeartbeats 8000000 in
theorem anchorOf_any (u : Int) (A : Option Addr) (n c lo hi bm : Nat) (L : List Gl) (nm : ByteArray) (out : List Int) (ho : Ord (tgts L) out) (hl : L.length = n) (hn : n ≤ 40) (hon : out.length = n) (hok : ∀ g ∈ L, glyphOk g = true) (hb : hi ≤ bm) :
    ∀ (t : Nat) (x : Int) (f : Lit → Option (Option (Int × Int))) (w : World), out[t]? = some x → MapF ancE w Try.prog 2 bm 40 f → MemOkG (ancF L nm out) n f → GsRd w lo hi A n L → hi ≤ w.heap.size →
    Calls Try.prog 39 #[.agg #[.int .i64 u, .slice A n c], .int .i64 x, .string nm, .map (some bm)] w fun e w' => AnEnd (ancF L nm out) n bm x w w' e := by
  have hbd := Lib.hid (fun (s : Nat) (y : Int) (h : out[s]? = some y) => show BdP 10485760 (ancF L nm out y) from (ancF_bd (nm := nm) ho hok s y h).mono (by have := (List.getElem?_eq_some_iff.1 h).1; omega))
  replace ho := Lib.hid ho
  replace hok := Lib.hid hok
  replace hl := Lib.hid hl
  replace hon := Lib.hid hon
  intro t
  induction t using Nat.strongRecOn with
  | ind t ih =>
    intro x f w hx hmap hmem hr hhi
    replace ih := Lib.hid ih
    obtain ⟨hx0, hxn⟩ := ho.out.rng x (List.mem_of_getElem? hx)
    rw [tgts_length, hl.out] at hxn
    have hwf : (Lit.int .i64 x).wf = true := WalkArith.wf_i64 (by omega)
    have hkey := Lib.hid (keyOf_int_mk Try.underlying2 hwf)
    have hbm := hmap.lt
    obtain ⟨o, hof⟩ : ∃ o, o = f (.int .i64 x) := ⟨_, rfl⟩
    have hr0 := hr
    replace hr := Lib.hid hr
    replace hwf := Lib.hid hwf
    have hnew := heap_new2 w (.cells #[.int .i64 u, .slice A n c] 26 (0, 0)) (.cells #[.int .i64 0, .int .i64 0] 30 (0, 0))
    have hbs1 := BoxSet.of hnew.1
    have hb21 := Box2.of hnew.2
    have hmap1 := Lib.hid ((hmap.alloc (.cells #[.int .i64 u, .slice A n c] 26 (0, 0))).alloc (.cells #[.int .i64 0, .int .i64 0] 30 (0, 0)))
    have hg1 : w.grownBy ((w.alloc (.cells #[.int .i64 u, .slice A n c] 26 (0, 0))).alloc (.cells #[.int .i64 0, .int .i64 0] 30 (0, 0))) (some bm) := grown_trans (World.grownBy_alloc _ _ _) (World.grownBy_alloc _ _ _)
    have hsz1 : w.heap.size + 1 < ((w.alloc (.cells #[.int .i64 u, .slice A n c] 26 (0, 0))).alloc (.cells #[.int .i64 0, .int .i64 0] 30 (0, 0))).heap.size := by simp
    have hr1 := Lib.hid (hr0.frame good_glyph (SameB.alloc (SameB.alloc (SameB.refl lo hi w) hhi (.cells #[.int .i64 u, .slice A n c] 26 (0, 0))) (by simp; omega) (.cells #[.int .i64 0, .int .i64 0] 30 (0, 0))))
    clear hnew hr0 hmap
    generalize hW1 : (w.alloc (.cells #[.int .i64 u, .slice A n c] 26 (0, 0))).alloc (.cells #[.int .i64 0, .int .i64 0] 30 (0, 0)) = W1 at *
    cases o with
    | some v =>
      obtain ⟨j, hj, ej, ev⟩ := hmem _ _ hof.symm
      have hvx : v = ancF L nm out x := by injection ej with _ ej; rw [ev, ej]
      have hgd : (f (.int .i64 x)).getD none = v := by rw [← hof]; rfl
      have hgs : (f (.int .i64 x)).isSome = true := by rw [← hof]; rfl
      replace hvx := Lib.hid hvx
      replace hgd := Lib.hid hgd
      replace hgs := Lib.hid hgs
      replace hmem := Lib.hid hmem
      obtain ⟨d0, d1, d2, d3⟩ := hb21
      clear hof ej ev hbs1
      go_enter Try.func39, Try.ntmps39
      go_wp2_with (at_lookup; refine wpList_lookup_f_ok rfl _ _ _ rfl 148 keyI Try.underlying86 none (zeroAnc _) rfl hmap1.out rfl hkey.out v hgd.out true hgs.out ?_; dsimp only [ancE, pV])
      have m0 : (W1.alloc (.cells #[.int .i64 (oX v), .int .i64 (oY v), .bool v.isSome] 148 (0, 0))).cell? ⟨W1.heap.size, 0, none⟩ = some (.int .i64 (oX v)) := by rw [Go.Joins.cell_of_block (heap_alloc_new W1 _)]; rfl
      have m1 : (W1.alloc (.cells #[.int .i64 (oX v), .int .i64 (oY v), .bool v.isSome] 148 (0, 0))).cell? ⟨W1.heap.size, 1, none⟩ = some (.int .i64 (oY v)) := by rw [Go.Joins.cell_of_block (heap_alloc_new W1 _)]; rfl
      have m2 : (W1.alloc (.cells #[.int .i64 (oX v), .int .i64 (oY v), .bool v.isSome] 148 (0, 0))).cell? ⟨W1.heap.size, 2, none⟩ = some (.bool v.isSome) := by rw [Go.Joins.cell_of_block (heap_alloc_new W1 _)]; rfl
      have hbA : Below W1.heap.size W1 (W1.alloc (.cells #[.int .i64 (oX v), .int .i64 (oY v), .bool v.isSome] 148 (0, 0))) := Go.Joins.below_alloc1 _ _
      have n0 := (hbA.cell (p := ⟨w.heap.size + 1, 0, none⟩) d3).trans d0
      have n1 := (hbA.cell (p := ⟨w.heap.size + 1, 1, none⟩) d3).trans d1
      have n2 := fun i => (hbA.frozen (p := ⟨w.heap.size + 1, i, none⟩) d3).trans (d2 i)
      have hm2 := Lib.hid (hmap1.out.alloc (.cells #[.int .i64 (oX v), .int .i64 (oY v), .bool v.isSome] 148 (0, 0)))
      have hg2 := grown_trans hg1 (World.grownBy_alloc W1 (.cells #[.int .i64 (oX v), .int .i64 (oY v), .bool v.isSome] 148 (0, 0)) (some bm))
      have hzz : w.heap.size + 1 < (W1.alloc (.cells #[.int .i64 (oX v), .int .i64 (oY v), .bool v.isSome] 148 (0, 0))).heap.size := Nat.lt_of_lt_of_le d3 hbA.size
      have hzw : W1.heap.size < (W1.alloc (.cells #[.int .i64 (oX v), .int .i64 (oY v), .bool v.isSome] 148 (0, 0))).heap.size := by simp
      have hne1 : ¬ W1.heap.size = w.heap.size + 1 := by omega
      have hne2 : ¬ w.heap.size + 1 = W1.heap.size := by omega
      replace hg2 := Lib.hid hg2
      clear d0 d1 d2 hg1 hbA
      replace hW1 := Lib.hid hW1
      generalize W1.alloc (.cells #[.int .i64 (oX v), .int .i64 (oY v), .bool v.isSome] 148 (0, 0)) = W2 at *
      go_region
      all_goals
        go_wp2_with fail
        refine bodyPost_ret (v := .tuple #[.agg #[.int .i64 (oX v), .int .i64 (oY v)], .bool v.isSome]) (by simp [results, Try.results39, go_sem, n0, n1]) rfl ⟨f, by rw [← hvx.out], ((hm2.out.setCell (by show bm ≠ w.heap.size + 1; omega) _).setCell (by show bm ≠ w.heap.size + 1; omega) _).drew, hmem.out, grown_drew (grown_setNew (a := ⟨w.heap.size + 1, 1, none⟩) (grown_setNew (a := ⟨w.heap.size + 1, 0, none⟩) hg2.out (by show w.heap.size ≤ w.heap.size + 1; omega) _) (by show w.heap.size ≤ w.heap.size + 1; omega) _)⟩
    | none =>
      have hgd : (f (.int .i64 x)).getD none = none := by rw [← hof]; rfl
      have hgs : (f (.int .i64 x)).isSome = false := by rw [← hof]; rfl
      replace hgd := Lib.hid hgd
      replace hgs := Lib.hid hgs
      replace hmem := Lib.hid hmem
      obtain ⟨b1, f1, d, hh, rfl, hb0, hb1, hja, hcs, hrg⟩ := gs_at hr1.out hxn
      have q0 := hcs 0 _ rfl
      have q1 := hcs 1 _ rfl
      have q2 := hcs 2 _ rfl
      have q3 := hcs 3 _ rfl
      have q4 := hcs 4 _ rfl
      have q5 := hcs 5 _ rfl
      have q6 := hcs 6 _ rfl
      simp only [Nat.add_zero] at q0 q1 q2 q3 q4 q5 q6
      have hgi := glyph_is (hok.out d (List.mem_of_getElem? hja))
      have hpn : hh.parts.n ≤ 6 := by rw [← hrg.2.1.1]; exact hgi.2.1
      have han : hh.anchors.n ≤ 6 := by rw [← hrg.2.2.1]; exact hgi.2.2.1
      have hval := Lib.hid (ancF_is (nm := nm) ho.out hx hja)
      have hready := Lib.hid (ho.out.ready t x hx _ (tgts_at hja))
      have hmv := Lib.hid (show ∀ p ∈ d.parts, (-262144 ≤ p.2.1 ∧ p.2.1 ≤ 262144) ∧ (-262144 ≤ p.2.2 ∧ p.2.2 ≤ 262144) from fun p hp => by
        have := hgi.2.2.2.2.1 p hp
        simp only [partOk, Bool.and_eq_true, ptOk_iff] at this
        exact this.2)
      have hxi : x < (n : Int) := by omega
      have hb1w' : b1 < W1.heap.size := by omega
      have hm1x := Lib.hid (fun a b => (hmap1.out.alloc a).alloc b)
      have hrp1x := trivial
      have hrpw := Lib.hid (show RdS 3 (FlatR partC) w lo hi hh.parts.A hh.parts.n d.parts from hrg.2.1.frame (good_flat _) (fun i h1 h2 => (grown_sameB hg1 hhi (.inr hb) i h1 h2).symm))
      obtain ⟨W4, hW4⟩ : ∃ W4, W4 = ((W1.alloc (.cells #[.int .i64 0, .int .i64 0, .bool false] 148 (0, 0))).alloc (.cells #[.string d.name, .int .i64 d.code, .int .i64 d.adv, .slice hh.out.A hh.out.n hh.out.c, .slice hh.parts.A hh.parts.n hh.parts.c, .slice hh.anchors.A hh.anchors.n hh.anchors.c, .string d.hints] 39 (0, 0))).alloc (.cells #[.int .i64 0, .int .i64 0, .bool false] 148 (0, 0)) := ⟨_, rfl⟩
      have hgW4 : W1.grownBy W4 (some bm) := by rw [hW4]; exact grown_trans (grown_trans (World.grownBy_alloc _ _ _) (World.grownBy_alloc _ _ _)) (World.grownBy_alloc _ _ _)
      have hnew3 := heap_new0 W1 (.cells #[.int .i64 0, .int .i64 0, .bool false] 148 (0, 0)) (.cells #[.string d.name, .int .i64 d.code, .int .i64 d.adv, .slice hh.out.A hh.out.n hh.out.c, .slice hh.parts.A hh.parts.n hh.parts.c, .slice hh.anchors.A hh.anchors.n hh.anchors.c, .string d.hints] 39 (0, 0)) (.cells #[.int .i64 0, .int .i64 0, .bool false] 148 (0, 0))
      rw [← hW4] at hnew3
      have hb34 : Box3 W4 (W1.heap.size + 1 + 1) none := Box3.of hnew3.2.2
      have g4 : W4.cell? ⟨W1.heap.size + 1, 4, none⟩ = some (.slice hh.parts.A hh.parts.n hh.parts.c) := by rw [Go.Joins.cell_of_block hnew3.2.1]; rfl
      have g5 : W4.cell? ⟨W1.heap.size + 1, 5, none⟩ = some (.slice hh.anchors.A hh.anchors.n hh.anchors.c) := by rw [Go.Joins.cell_of_block hnew3.2.1]; rfl
      have hz4 : W1.heap.size + 1 + 1 < W4.heap.size := hb34.lt
      have hs4 : SameB lo hi W1 W4 := grown_sameB hgW4 (by omega) (.inr hb)
      have hbs4 := hbs1.grown hgW4 (by omega)
      have hb24 := hb21.grown hgW4 (by omega)
      have hmap4 := hmap1.out
      have hmap4 : MapF ancE W4 Try.prog 2 bm 40 f := by rw [hW4]; exact ((hmap1.out.alloc _).alloc _).alloc _
      replace hmap4 := Lib.hid hmap4
      have hra4 := Lib.hid (hrg.2.2.frame (good_flat _) hs4)
      have hcA := Lib.hid (anchorAt_idx hh.anchors.A hh.anchors.n hh.anchors.c lo hi d.anchors nm W4 hra4.out (by omega) (by omega))
      have hgw4 := grown_trans hg1 hgW4
      have hac := Lib.hid (anc_cases d.anchors nm)
      obtain ⟨ai, hai⟩ : ∃ ai, ai = ancIdx d.anchors nm := ⟨_, rfl⟩
      rw [← hai] at hcA hac
      replace hai := Lib.hid hai
      obtain ⟨s0, s1, s2⟩ := hbs1
      replace hW4 := Lib.hid hW4
      clear hnew3
      clear hof hcs hrg hja hb0 hgi
      go_enter Try.func39, Try.ntmps39
      go_wp2_with (first | (at_lookup; refine wpList_lookup_f_ok rfl _ _ _ rfl 148 keyI Try.underlying86 none (zeroAnc _) rfl hmap1.out rfl hkey.out none hgd.out false hgs.out ?_; dsimp only [ancE, pV, oX, oY, Option.isSome]) | (at_lookup; refine wpList_lookup_f rfl _ _ _ rfl 148 keyI Try.underlying86 none (zeroAnc _) rfl (hm1x.out _ _) rfl hkey.out none hgd.out ?_; dsimp only [ancE, pV, oX, oY, Option.isSome]))
      rw [← hW4.out]
      refine hcA.out.mono ?_
      rintro e w5 ⟨rfl, hb5⟩
      have hg5 := below_grown hb5 (some bm)
      have hb35 := hb34.grown hg5 (by omega)
      have hbs5 := hbs4.grown hg5 (by omega)
      have hb25 := hb24.grown hg5 (by omega)
      have g45 := (grown_cellN hg5 (x := W1.heap.size + 1) (o := 4) (by omega) (by omega)).trans g4
      have g55 := (grown_cellN hg5 (x := W1.heap.size + 1) (o := 5) (by omega) (by omega)).trans g5
      have hgw5 := grown_trans hgw4 hg5
      have hmap5 := Lib.hid (hmap4.out.below hb5)
      have hra5 := Lib.hid (hra4.out.frame (good_flat _) (grown_sameB hg5 (by omega) (.inr hb)))
      have hsz5 := hg5.size
      have hz5 : W1.heap.size + 1 < w5.heap.size := by omega
      clear q0 q1 q2 q3 q4 q5 q6 s0 s1 g4 g5 hb5 hcA hb21 hb24 hbs4 hb34 hgd hgs hm1x hmap4 hra4
      replace hW1 := Lib.hid hW1
      obtain ⟨o0, ho0⟩ : ∃ o0, o0 = ancPt d.anchors nm := ⟨_, rfl⟩
      rw [← ho0] at hac hval
      replace ho0 := Lib.hid ho0
      rcases hac.out with ⟨hm1, hon0⟩ | ⟨ak, aa, hm1, hka, hon0⟩
      · subst hm1
        have hb36 := Lib.hid (show Box3 w5 (W1.heap.size + 1 + 1) o0 by rw [hon0]; exact hb35)
        replace hon0 := Lib.hid hon0
        have hbs6 := hbs5
        have hb26 := hb25
        have hmap6 := hmap5
        have hgw6 := hgw5
        go_wp2_with fail
        clear hb35 hbs5 hb25 hmap5 hgw5
        clear g45 g55 hrp1x
        go_loopw [55] (fun i wr => ∃ (j : Nat) (f' : Lit → Option (Option (Int × Int))) (o : Option (Int × Int)), i = .int .i64 j ∧ j ≤ hh.parts.n ∧ o = orP o0 (ancP (ancF L nm out) (d.parts.take j)) ∧ Box3 wr (W1.heap.size + 1 + 1) o ∧ BoxSet wr w.heap.size u (some ⟨b1, f1, none⟩) n c ∧ Box2 wr (w.heap.size + 1) 0 0 ∧ MapF ancE wr Try.prog 2 bm 40 f' ∧ MemOkG (ancF L nm out) n f' ∧ w.grownBy wr (some bm)) (fun i wr => hh.parts.n - (intOf i).toNat)
        case atStart => exact ⟨0, f, o0, rfl, Nat.zero_le _, by rw [List.take_zero]; unfold orP ancP; cases o0 <;> rfl, hb36.out, hbs6, hb26, hmap6.out, hmem.out, hgw6⟩
        case round =>
          clear hb36 hbs6 hb26 hmap6 hgw6
          obtain ⟨j, f', o, rfl, hj, hov, hb3r, hbsr, hb2r, hmr, hme, hgr⟩ := hrel
          replace hme := Lib.hid hme
          have hszr := hgr.size
          have hz3r := hb3r.lt
          have hsr : SameB lo hi w wr := grown_sameB hgr (by omega) (.inr hb)
          have hfinal : ∀ o', o' = orP o0 (ancP (ancF L nm out) d.parts) → o' = ancF L nm out x := fun o' h => by rw [h, hval.out]
          replace hfinal := Lib.hid hfinal
          by_cases hjl : j < hh.parts.n
          · obtain ⟨p1, g1, ⟨y0, y1, y2⟩, hA, _, hpw, hjb, hcs⟩ := (hrpw.out.frame (good_flat _) hsr).at hjl
            have q0 := hcs 0 _ rfl
            have q1 := hcs 1 _ rfl
            have q2 := hcs 2 _ rfl
            simp only [Nat.add_zero] at q0 q1 q2
            have hpw' : p1 < wr.heap.size := by omega
            have hji : (0 : Int) ≤ (j : Int) ∧ (j : Int) < (hh.parts.n : Int) := by omega
            have hbA : wr.grownBy (wr.alloc (.cells #[.int .i64 y0, .int .i64 y1, .int .i64 y2] 32 (0, 0))) (some bm) := World.grownBy_alloc _ _ _
            have hb3a := hb3r.grown hbA (by omega)
            have hbsa := hbsr.grown hbA (by omega)
            have hb2a := hb2r.grown hbA (by omega)
            have hga := grown_trans hgr hbA
            have hma := Lib.hid (hmr.alloc (.cells #[.int .i64 y0, .int .i64 y1, .int .i64 y2] 32 (0, 0)))
            rw [hA]
            replace hA := Lib.hid hA
            have hbsz := Lib.hid hbsa
            have hb2z := Lib.hid hb2a
            have hb3z := Lib.hid hb3a
            cases o with
            | some q =>
              have hox := Lib.hid (hfinal.out (some q) (by
                unfold orP at hov ⊢
                cases ho0c : o0 with
                | some q2 => rw [ho0c] at hov; exact hov
                | none =>
                  rw [ho0c] at hov
                  exact (ancP_hit hov.symm).symm))
              obtain ⟨d0, d1, d2, d3, d4⟩ := hb3a
              obtain ⟨e0, e1, e2, e3⟩ := hb2a
              dsimp only [Option.isSome] at d2
              replace hov := Lib.hid hov
              clear hbsa hb3r hbsr hb2r hmr hcs hjb hbA
              go_wp2_with (at_mapUpdate; refine wpList_mapUpdate_f rfl _ _ _ _ rfl 148 keyI Try.underlying86 rfl hma.out (by unfold maxLen; omega) rfl hkey.out (some q) rfl ?_; intro w7 hm7 hg7)
              clear d0 d1 d2 d3 d4 e0 e1 e2 e3
              have k3 := hb3z.out.grown hg7 (by omega)
              have k2 := hb2z.out.grown hg7 (by omega)
              have hg8 := grown_trans hga hg7
              obtain ⟨a0, a1, a2, a3, a4⟩ := k3
              obtain ⟨c0, c1, c2, c3⟩ := k2
              have hne1 : ¬ W1.heap.size + 1 + 1 = w.heap.size + 1 := by omega
              have hne2 : ¬ w.heap.size + 1 = W1.heap.size + 1 + 1 := by omega
              have hmx : MemOkG (ancF L nm out) n (putF f' (.int .i64 x) (some q)) := by rw [hox.out]; exact hme.out.put hx0 hxi
              have hm8 := hm7.tight keyI (N := 40) (fun kl hk => by
                obtain ⟨v, hv⟩ := Option.isSome_iff_exists.1 hk
                obtain ⟨i, hi, e, _⟩ := hmx kl v hv
                exact ⟨i, by omega, e⟩)
              replace hmx := Lib.hid hmx
              replace hm8 := Lib.hid hm8
              replace hg8 := Lib.hid hg8
              go_region
              all_goals
                go_wp2_with fail
                refine bodyPost_ret (v := .tuple #[.agg #[.int .i64 (oX (some q)), .int .i64 (oY (some q))], .bool (some q).isSome]) (by simp [results, Try.results39, go_sem, c0, c1]) rfl ⟨_, by rw [← hox.out], ((hm8.out.setCell (by show bm ≠ w.heap.size + 1; omega) _).setCell (by show bm ≠ w.heap.size + 1; omega) _).drew, hmx.out, grown_drew (grown_setNew (a := ⟨w.heap.size + 1, 1, none⟩) (grown_setNew (a := ⟨w.heap.size + 1, 0, none⟩) hg8.out (by show w.heap.size ≤ w.heap.size + 1; omega) _) (by show w.heap.size ≤ w.heap.size + 1; omega) _)⟩
            | none =>
              have hmemp := hready.out y0 (List.mem_map_of_mem (f := (·.1)) (List.mem_of_getElem? hjb))
              obtain ⟨sN, hsN⟩ := List.getElem?_of_mem hmemp
              have hst : sN < t := by
                have := (List.getElem?_eq_some_iff.1 hsN).1
                rw [List.length_take] at this; omega
              rw [List.getElem?_take_of_lt hst] at hsN
              have hcall := Lib.hid (ih.out sN hst y0 f' (wr.alloc (.cells #[.int .i64 y0, .int .i64 y1, .int .i64 y2] 32 (0, 0))) hsN hma.out hme.out ((hr.out.frame good_glyph hsr).frame good_glyph (SameB.alloc (SameB.refl lo hi wr) (by omega) _)) (by simp; omega))
              have hzb := hbd.out sN y0 hsN
              obtain ⟨⟨hmv1, hmv2⟩, hmv3, hmv4⟩ := hmv.out _ (List.mem_of_getElem? hjb)
              simp only at hmv1 hmv2 hmv3 hmv4
              have ho0n : o0 = none ∧ ancP (ancF L nm out) (d.parts.take j) = none := by
                unfold orP at hov
                cases ho0c : o0 with
                | some q2 => rw [ho0c] at hov; cases hov
                | none => rw [ho0c] at hov; exact ⟨rfl, hov.symm⟩
              have hstep := Lib.hid (show orP o0 (ancP (ancF L nm out) (d.parts.take (j + 1))) = (ancF L nm out y0).map fun q => (q.1 + y1, q.2 + y2) from by
                rw [ho0n.1]; exact ancP_step hjb ho0n.2)
              replace ho0n := Lib.hid ho0n
              replace hov := Lib.hid hov
              obtain ⟨p0, p1', p2⟩ : (wr.alloc (.cells #[.int .i64 y0, .int .i64 y1, .int .i64 y2] 32 (0, 0))).cell? ⟨wr.heap.size, 0, none⟩ = some (.int .i64 y0) ∧ (wr.alloc (.cells #[.int .i64 y0, .int .i64 y1, .int .i64 y2] 32 (0, 0))).cell? ⟨wr.heap.size, 1, none⟩ = some (.int .i64 y1) ∧ (wr.alloc (.cells #[.int .i64 y0, .int .i64 y1, .int .i64 y2] 32 (0, 0))).cell? ⟨wr.heap.size, 2, none⟩ = some (.int .i64 y2) := ⟨by rw [Go.Joins.cell_of_block (heap_alloc_new wr _)]; rfl, by rw [Go.Joins.cell_of_block (heap_alloc_new wr _)]; rfl, by rw [Go.Joins.cell_of_block (heap_alloc_new wr _)]; rfl⟩
              have hzp : wr.heap.size < (wr.alloc (.cells #[.int .i64 y0, .int .i64 y1, .int .i64 y2] 32 (0, 0))).heap.size := by simp
              obtain ⟨d0, d1, d2, d3, d4⟩ := hb3a
              obtain ⟨s0, s1, s3⟩ := hbsa
              dsimp only [Option.isSome] at d2
              replace hsN := Lib.hid hsN
              clear hb3r hbsr hb2r hmr hcs hjb hmemp
              go_wp2_with fail
              refine hcall.out.mono ?_
              rintro e w4 ⟨f2, rfl, hm4, hme4, hg4⟩
              have hb34' := hb3z.out.grown hg4 (by omega)
              have hbs4' := hbsz.out.grown hg4 (by omega)
              have hb24' := hb2z.out.grown hg4 (by omega)
              have hgw4' := grown_trans hga hg4
              have r0 := (grown_cellN hg4 (x := wr.heap.size) (o := 0) hzp (by omega)).trans p0
              have r1 := (grown_cellN hg4 (x := wr.heap.size) (o := 1) hzp (by omega)).trans p1'
              have r2 := (grown_cellN hg4 (x := wr.heap.size) (o := 2) hzp (by omega)).trans p2
              have hz4' : wr.heap.size < w4.heap.size := Nat.lt_of_lt_of_le hzp hg4.size
              replace hm4 := Lib.hid hm4
              replace hme4 := Lib.hid hme4
              clear d0 d1 d2 d3 d4 s0 s1 s3 p0 p1' p2 q0 q1 q2 hcall hbA hb2a
              generalize ancF L nm out y0 = z at hzb hstep ⊢
              cases z with
              | none =>
                dsimp only [oX, oY, Option.isSome]
                go_wp2_with fail
                go_roundw
                case rel => exact ⟨j + 1, f2, none, by go_num, by omega, hstep.out.symm, hb34'.grown (World.grownBy_alloc _ _ (some bm)) (by omega), hbs4'.grown (World.grownBy_alloc _ _ (some bm)) (by omega), hb24'.grown (World.grownBy_alloc _ _ (some bm)) (by omega), hm4.out.alloc _, hme4.out, grown_trans hgw4' (World.grownBy_alloc _ _ _)⟩
                case measure => simp [intOf]; omega
              | some q =>
                obtain ⟨qx, qy⟩ := q
                have hzq := hzb _ rfl
                obtain ⟨⟨hq1, hq2⟩, hq3, hq4⟩ := hzq
                simp only at hq1 hq2 hq3 hq4
                dsimp only [oX, oY, Option.isSome]
                have hb34z := Lib.hid hb34'
                obtain ⟨d0, d1, d2, d3, d4⟩ := hb34'
                go_wp2_with fail
                go_roundw
                case rel =>
                  have hk1 := hbs4'.keep (set3_heap w4 (W1.heap.size + 1 + 1) (qx + y1) (qy + y2) (by omega)) (Nat.le_of_eq (set3_size _ _ _ _).symm)
                  have hk2 := hb24'.keep (set3_heap w4 (W1.heap.size + 1 + 1) (qx + y1) (qy + y2) (by omega)) (Nat.le_of_eq (set3_size _ _ _ _).symm)
                  have hk3 := hm4.out.same (set3_heap w4 (W1.heap.size + 1 + 1) (qx + y1) (qy + y2) (by omega))
                  have hk4 : Box3 (set3 w4 (W1.heap.size + 1 + 1) (qx + y1) (qy + y2)) (W1.heap.size + 1 + 1) (some (qx + y1, qy + y2)) := hb34z.out.set _ _
                  have hk5 := set3_grown hgw4' (B := W1.heap.size + 1 + 1) (by omega) (qx + y1) (qy + y2)
                  exact ⟨j + 1, f2, some (qx + y1, qy + y2), by go_num, by omega, by rw [hstep.out]; rfl, hk4.grown (World.grownBy_alloc _ _ (some bm)) (by omega), hk1.grown (World.grownBy_alloc _ _ (some bm)) (by omega), hk2.grown (World.grownBy_alloc _ _ (some bm)) (by omega), hk3.alloc _, hme4.out, grown_trans hk5 (World.grownBy_alloc _ _ _)⟩
                case measure => simp [intOf]; omega
          · have hjn : j = hh.parts.n := by omega
            have hfull : d.parts.take j = d.parts := List.take_of_length_le (by rw [hrpw.out.1]; omega)
            have hox := Lib.hid (hfinal.out o (by rw [hov, hfull]))
            have hb3z := Lib.hid hb3r
            have hb2z := Lib.hid hb2r
            obtain ⟨d0, d1, d2, d3, d4⟩ := hb3r
            obtain ⟨e0, e1, e2, e3⟩ := hb2r
            replace hov := Lib.hid hov
            replace hjn := Lib.hid hjn
            replace hfull := Lib.hid hfull
            clear hbsr
            go_wp2_with (at_mapUpdate; refine wpList_mapUpdate_f rfl _ _ _ _ rfl 148 keyI Try.underlying86 rfl hmr (by unfold maxLen; omega) rfl hkey.out o rfl ?_; intro w7 hm7 hg7)
            clear d0 d1 d2 d3 d4 e0 e1 e2 e3
            have k3 := hb3z.out.grown hg7 (by omega)
            have k2 := hb2z.out.grown hg7 (by omega)
            have hg8 := grown_trans hgr hg7
            obtain ⟨a0, a1, a2, a3, a4⟩ := k3
            obtain ⟨c0, c1, c2, c3⟩ := k2
            have hne1 : ¬ W1.heap.size + 1 + 1 = w.heap.size + 1 := by omega
            have hne2 : ¬ w.heap.size + 1 = W1.heap.size + 1 + 1 := by omega
            have hmx : MemOkG (ancF L nm out) n (putF f' (.int .i64 x) (o)) := by rw [hox.out]; exact hme.out.put hx0 hxi
            have hm8 := hm7.tight keyI (N := 40) (fun kl hk => by
              obtain ⟨v, hv⟩ := Option.isSome_iff_exists.1 hk
              obtain ⟨i, hi, e, _⟩ := hmx kl v hv
              exact ⟨i, by omega, e⟩)
            replace hmx := Lib.hid hmx
            replace hm8 := Lib.hid hm8
            replace hg8 := Lib.hid hg8
            go_region
            all_goals
              go_wp2_with fail
              refine bodyPost_ret (v := .tuple #[.agg #[.int .i64 (oX (o)), .int .i64 (oY (o))], .bool (o).isSome]) (by simp [results, Try.results39, go_sem, c0, c1]) rfl ⟨_, by rw [← hox.out], ((hm8.out.setCell (by show bm ≠ w.heap.size + 1; omega) _).setCell (by show bm ≠ w.heap.size + 1; omega) _).drew, hmx.out, grown_drew (grown_setNew (a := ⟨w.heap.size + 1, 1, none⟩) (grown_setNew (a := ⟨w.heap.size + 1, 0, none⟩) hg8.out (by show w.heap.size ≤ w.heap.size + 1; omega) _) (by show w.heap.size ≤ w.heap.size + 1; omega) _)⟩
      · subst hm1
        have hakn : ak < hh.anchors.n := by have := (List.getElem?_eq_some_iff.1 hka).1; rw [hra5.out.1] at this; exact this
        obtain ⟨p2, g2, ⟨a0, a1, a2⟩, hA2, _, hp2, hkb, hcs2⟩ := hra5.out.at hakn
        have hab := Option.some.inj (hkb.symm.trans hka)
        subst hab
        have q1 := hcs2 1 _ rfl
        have q2 := hcs2 2 _ rfl
        rw [hA2] at g55
        have hp2w : p2 < w5.heap.size := by omega
        have haki : (0 : Int) ≤ (ak : Int) ∧ (ak : Int) < (hh.anchors.n : Int) := by omega
        have hb36 := Lib.hid (show Box3 (set3 w5 (W1.heap.size + 1 + 1) a1 a2) (W1.heap.size + 1 + 1) o0 by rw [hon0]; exact hb35.set a1 a2)
        replace hon0 := Lib.hid hon0
        have hbs6 := hbs5.keep (set3_heap w5 (W1.heap.size + 1 + 1) a1 a2 (by omega)) (Nat.le_of_eq (set3_size _ _ _ _).symm)
        have hb26 := hb25.keep (set3_heap w5 (W1.heap.size + 1 + 1) a1 a2 (by omega)) (Nat.le_of_eq (set3_size _ _ _ _).symm)
        have hmap6 := Lib.hid (hmap5.out.same (set3_heap w5 (W1.heap.size + 1 + 1) a1 a2 (by omega)))
        have hgw6 := set3_grown hgw5 (B := W1.heap.size + 1 + 1) (by omega) a1 a2
        obtain ⟨d0, d1, d2, d3, d4⟩ := hb35
        dsimp only [oX, oY, Option.isSome] at d0 d1 d2
        replace hA2 := Lib.hid hA2
        replace hka := Lib.hid hka
        clear hcs2 hkb
        go_wp2_with fail
        change Code.wp _ _ _ _ (set3 w5 (W1.heap.size + 1 + 1) a1 a2)
        clear d0 d1 d2 d3 d4 q1 q2 hbs5 hb25 hmap5 hgw5 hp2w
        generalize set3 w5 (W1.heap.size + 1 + 1) a1 a2 = w6 at *
        clear g45 g55 hrp1x
        go_loopw [55] (fun i wr => ∃ (j : Nat) (f' : Lit → Option (Option (Int × Int))) (o : Option (Int × Int)), i = .int .i64 j ∧ j ≤ hh.parts.n ∧ o = orP o0 (ancP (ancF L nm out) (d.parts.take j)) ∧ Box3 wr (W1.heap.size + 1 + 1) o ∧ BoxSet wr w.heap.size u (some ⟨b1, f1, none⟩) n c ∧ Box2 wr (w.heap.size + 1) 0 0 ∧ MapF ancE wr Try.prog 2 bm 40 f' ∧ MemOkG (ancF L nm out) n f' ∧ w.grownBy wr (some bm)) (fun i wr => hh.parts.n - (intOf i).toNat)
        case atStart => exact ⟨0, f, o0, rfl, Nat.zero_le _, by rw [List.take_zero]; unfold orP ancP; cases o0 <;> rfl, hb36.out, hbs6, hb26, hmap6.out, hmem.out, hgw6⟩
        case round =>
          clear hb36 hbs6 hb26 hmap6 hgw6
          obtain ⟨j, f', o, rfl, hj, hov, hb3r, hbsr, hb2r, hmr, hme, hgr⟩ := hrel
          replace hme := Lib.hid hme
          have hszr := hgr.size
          have hz3r := hb3r.lt
          have hsr : SameB lo hi w wr := grown_sameB hgr (by omega) (.inr hb)
          have hfinal : ∀ o', o' = orP o0 (ancP (ancF L nm out) d.parts) → o' = ancF L nm out x := fun o' h => by rw [h, hval.out]
          replace hfinal := Lib.hid hfinal
          by_cases hjl : j < hh.parts.n
          · obtain ⟨p1, g1, ⟨y0, y1, y2⟩, hA, _, hpw, hjb, hcs⟩ := (hrpw.out.frame (good_flat _) hsr).at hjl
            have q0 := hcs 0 _ rfl
            have q1 := hcs 1 _ rfl
            have q2 := hcs 2 _ rfl
            simp only [Nat.add_zero] at q0 q1 q2
            have hpw' : p1 < wr.heap.size := by omega
            have hji : (0 : Int) ≤ (j : Int) ∧ (j : Int) < (hh.parts.n : Int) := by omega
            have hbA : wr.grownBy (wr.alloc (.cells #[.int .i64 y0, .int .i64 y1, .int .i64 y2] 32 (0, 0))) (some bm) := World.grownBy_alloc _ _ _
            have hb3a := hb3r.grown hbA (by omega)
            have hbsa := hbsr.grown hbA (by omega)
            have hb2a := hb2r.grown hbA (by omega)
            have hga := grown_trans hgr hbA
            have hma := Lib.hid (hmr.alloc (.cells #[.int .i64 y0, .int .i64 y1, .int .i64 y2] 32 (0, 0)))
            rw [hA]
            replace hA := Lib.hid hA
            have hbsz := Lib.hid hbsa
            have hb2z := Lib.hid hb2a
            have hb3z := Lib.hid hb3a
            cases o with
            | some q =>
              have hox := Lib.hid (hfinal.out (some q) (by
                unfold orP at hov ⊢
                cases ho0c : o0 with
                | some q2 => rw [ho0c] at hov; exact hov
                | none =>
                  rw [ho0c] at hov
                  exact (ancP_hit hov.symm).symm))
              obtain ⟨d0, d1, d2, d3, d4⟩ := hb3a
              obtain ⟨e0, e1, e2, e3⟩ := hb2a
              dsimp only [Option.isSome] at d2
              replace hov := Lib.hid hov
              clear hbsa hb3r hbsr hb2r hmr hcs hjb hbA
              go_wp2_with (at_mapUpdate; refine wpList_mapUpdate_f rfl _ _ _ _ rfl 148 keyI Try.underlying86 rfl hma.out (by unfold maxLen; omega) rfl hkey.out (some q) rfl ?_; intro w7 hm7 hg7)
              clear d0 d1 d2 d3 d4 e0 e1 e2 e3
              have k3 := hb3z.out.grown hg7 (by omega)
              have k2 := hb2z.out.grown hg7 (by omega)
              have hg8 := grown_trans hga hg7
              obtain ⟨a0, a1, a2, a3, a4⟩ := k3
              obtain ⟨c0, c1, c2, c3⟩ := k2
              have hne1 : ¬ W1.heap.size + 1 + 1 = w.heap.size + 1 := by omega
              have hne2 : ¬ w.heap.size + 1 = W1.heap.size + 1 + 1 := by omega
              have hmx : MemOkG (ancF L nm out) n (putF f' (.int .i64 x) (some q)) := by rw [hox.out]; exact hme.out.put hx0 hxi
              have hm8 := hm7.tight keyI (N := 40) (fun kl hk => by
                obtain ⟨v, hv⟩ := Option.isSome_iff_exists.1 hk
                obtain ⟨i, hi, e, _⟩ := hmx kl v hv
                exact ⟨i, by omega, e⟩)
              replace hmx := Lib.hid hmx
              replace hm8 := Lib.hid hm8
              replace hg8 := Lib.hid hg8
              go_region
              all_goals
                go_wp2_with fail
                refine bodyPost_ret (v := .tuple #[.agg #[.int .i64 (oX (some q)), .int .i64 (oY (some q))], .bool (some q).isSome]) (by simp [results, Try.results39, go_sem, c0, c1]) rfl ⟨_, by rw [← hox.out], ((hm8.out.setCell (by show bm ≠ w.heap.size + 1; omega) _).setCell (by show bm ≠ w.heap.size + 1; omega) _).drew, hmx.out, grown_drew (grown_setNew (a := ⟨w.heap.size + 1, 1, none⟩) (grown_setNew (a := ⟨w.heap.size + 1, 0, none⟩) hg8.out (by show w.heap.size ≤ w.heap.size + 1; omega) _) (by show w.heap.size ≤ w.heap.size + 1; omega) _)⟩
            | none =>
              have hmemp := hready.out y0 (List.mem_map_of_mem (f := (·.1)) (List.mem_of_getElem? hjb))
              obtain ⟨sN, hsN⟩ := List.getElem?_of_mem hmemp
              have hst : sN < t := by
                have := (List.getElem?_eq_some_iff.1 hsN).1
                rw [List.length_take] at this; omega
              rw [List.getElem?_take_of_lt hst] at hsN
              have hcall := Lib.hid (ih.out sN hst y0 f' (wr.alloc (.cells #[.int .i64 y0, .int .i64 y1, .int .i64 y2] 32 (0, 0))) hsN hma.out hme.out ((hr.out.frame good_glyph hsr).frame good_glyph (SameB.alloc (SameB.refl lo hi wr) (by omega) _)) (by simp; omega))
              have hzb := hbd.out sN y0 hsN
              obtain ⟨⟨hmv1, hmv2⟩, hmv3, hmv4⟩ := hmv.out _ (List.mem_of_getElem? hjb)
              simp only at hmv1 hmv2 hmv3 hmv4
              have ho0n : o0 = none ∧ ancP (ancF L nm out) (d.parts.take j) = none := by
                unfold orP at hov
                cases ho0c : o0 with
                | some q2 => rw [ho0c] at hov; cases hov
                | none => rw [ho0c] at hov; exact ⟨rfl, hov.symm⟩
              have hstep := Lib.hid (show orP o0 (ancP (ancF L nm out) (d.parts.take (j + 1))) = (ancF L nm out y0).map fun q => (q.1 + y1, q.2 + y2) from by
                rw [ho0n.1]; exact ancP_step hjb ho0n.2)
              replace ho0n := Lib.hid ho0n
              replace hov := Lib.hid hov
              obtain ⟨p0, p1', p2⟩ : (wr.alloc (.cells #[.int .i64 y0, .int .i64 y1, .int .i64 y2] 32 (0, 0))).cell? ⟨wr.heap.size, 0, none⟩ = some (.int .i64 y0) ∧ (wr.alloc (.cells #[.int .i64 y0, .int .i64 y1, .int .i64 y2] 32 (0, 0))).cell? ⟨wr.heap.size, 1, none⟩ = some (.int .i64 y1) ∧ (wr.alloc (.cells #[.int .i64 y0, .int .i64 y1, .int .i64 y2] 32 (0, 0))).cell? ⟨wr.heap.size, 2, none⟩ = some (.int .i64 y2) := ⟨by rw [Go.Joins.cell_of_block (heap_alloc_new wr _)]; rfl, by rw [Go.Joins.cell_of_block (heap_alloc_new wr _)]; rfl, by rw [Go.Joins.cell_of_block (heap_alloc_new wr _)]; rfl⟩
              have hzp : wr.heap.size < (wr.alloc (.cells #[.int .i64 y0, .int .i64 y1, .int .i64 y2] 32 (0, 0))).heap.size := by simp
              obtain ⟨d0, d1, d2, d3, d4⟩ := hb3a
              obtain ⟨s0, s1, s3⟩ := hbsa
              dsimp only [Option.isSome] at d2
              replace hsN := Lib.hid hsN
              clear hb3r hbsr hb2r hmr hcs hjb hmemp
              go_wp2_with fail
              refine hcall.out.mono ?_
              rintro e w4 ⟨f2, rfl, hm4, hme4, hg4⟩
              have hb34' := hb3z.out.grown hg4 (by omega)
              have hbs4' := hbsz.out.grown hg4 (by omega)
              have hb24' := hb2z.out.grown hg4 (by omega)
              have hgw4' := grown_trans hga hg4
              have r0 := (grown_cellN hg4 (x := wr.heap.size) (o := 0) hzp (by omega)).trans p0
              have r1 := (grown_cellN hg4 (x := wr.heap.size) (o := 1) hzp (by omega)).trans p1'
              have r2 := (grown_cellN hg4 (x := wr.heap.size) (o := 2) hzp (by omega)).trans p2
              have hz4' : wr.heap.size < w4.heap.size := Nat.lt_of_lt_of_le hzp hg4.size
              replace hm4 := Lib.hid hm4
              replace hme4 := Lib.hid hme4
              clear d0 d1 d2 d3 d4 s0 s1 s3 p0 p1' p2 q0 q1 q2 hcall hbA hb2a
              generalize ancF L nm out y0 = z at hzb hstep ⊢
              cases z with
              | none =>
                dsimp only [oX, oY, Option.isSome]
                go_wp2_with fail
                go_roundw
                case rel => exact ⟨j + 1, f2, none, by go_num, by omega, hstep.out.symm, hb34'.grown (World.grownBy_alloc _ _ (some bm)) (by omega), hbs4'.grown (World.grownBy_alloc _ _ (some bm)) (by omega), hb24'.grown (World.grownBy_alloc _ _ (some bm)) (by omega), hm4.out.alloc _, hme4.out, grown_trans hgw4' (World.grownBy_alloc _ _ _)⟩
                case measure => simp [intOf]; omega
              | some q =>
                obtain ⟨qx, qy⟩ := q
                have hzq := hzb _ rfl
                obtain ⟨⟨hq1, hq2⟩, hq3, hq4⟩ := hzq
                simp only at hq1 hq2 hq3 hq4
                dsimp only [oX, oY, Option.isSome]
                have hb34z := Lib.hid hb34'
                obtain ⟨d0, d1, d2, d3, d4⟩ := hb34'
                go_wp2_with fail
                go_roundw
                case rel =>
                  have hk1 := hbs4'.keep (set3_heap w4 (W1.heap.size + 1 + 1) (qx + y1) (qy + y2) (by omega)) (Nat.le_of_eq (set3_size _ _ _ _).symm)
                  have hk2 := hb24'.keep (set3_heap w4 (W1.heap.size + 1 + 1) (qx + y1) (qy + y2) (by omega)) (Nat.le_of_eq (set3_size _ _ _ _).symm)
                  have hk3 := hm4.out.same (set3_heap w4 (W1.heap.size + 1 + 1) (qx + y1) (qy + y2) (by omega))
                  have hk4 : Box3 (set3 w4 (W1.heap.size + 1 + 1) (qx + y1) (qy + y2)) (W1.heap.size + 1 + 1) (some (qx + y1, qy + y2)) := hb34z.out.set _ _
                  have hk5 := set3_grown hgw4' (B := W1.heap.size + 1 + 1) (by omega) (qx + y1) (qy + y2)
                  exact ⟨j + 1, f2, some (qx + y1, qy + y2), by go_num, by omega, by rw [hstep.out]; rfl, hk4.grown (World.grownBy_alloc _ _ (some bm)) (by omega), hk1.grown (World.grownBy_alloc _ _ (some bm)) (by omega), hk2.grown (World.grownBy_alloc _ _ (some bm)) (by omega), hk3.alloc _, hme4.out, grown_trans hk5 (World.grownBy_alloc _ _ _)⟩
                case measure => simp [intOf]; omega
          · have hjn : j = hh.parts.n := by omega
            have hfull : d.parts.take j = d.parts := List.take_of_length_le (by rw [hrpw.out.1]; omega)
            have hox := Lib.hid (hfinal.out o (by rw [hov, hfull]))
            have hb3z := Lib.hid hb3r
            have hb2z := Lib.hid hb2r
            obtain ⟨d0, d1, d2, d3, d4⟩ := hb3r
            obtain ⟨e0, e1, e2, e3⟩ := hb2r
            replace hov := Lib.hid hov
            replace hjn := Lib.hid hjn
            replace hfull := Lib.hid hfull
            clear hbsr
            go_wp2_with (at_mapUpdate; refine wpList_mapUpdate_f rfl _ _ _ _ rfl 148 keyI Try.underlying86 rfl hmr (by unfold maxLen; omega) rfl hkey.out o rfl ?_; intro w7 hm7 hg7)
            clear d0 d1 d2 d3 d4 e0 e1 e2 e3
            have k3 := hb3z.out.grown hg7 (by omega)
            have k2 := hb2z.out.grown hg7 (by omega)
            have hg8 := grown_trans hgr hg7
            obtain ⟨a0, a1, a2, a3, a4⟩ := k3
            obtain ⟨c0, c1, c2, c3⟩ := k2
            have hne1 : ¬ W1.heap.size + 1 + 1 = w.heap.size + 1 := by omega
            have hne2 : ¬ w.heap.size + 1 = W1.heap.size + 1 + 1 := by omega
            have hmx : MemOkG (ancF L nm out) n (putF f' (.int .i64 x) (o)) := by rw [hox.out]; exact hme.out.put hx0 hxi
            have hm8 := hm7.tight keyI (N := 40) (fun kl hk => by
              obtain ⟨v, hv⟩ := Option.isSome_iff_exists.1 hk
              obtain ⟨i, hi, e, _⟩ := hmx kl v hv
              exact ⟨i, by omega, e⟩)
            replace hmx := Lib.hid hmx
            replace hm8 := Lib.hid hm8
            replace hg8 := Lib.hid hg8
            go_region
            all_goals
              go_wp2_with fail
              refine bodyPost_ret (v := .tuple #[.agg #[.int .i64 (oX (o)), .int .i64 (oY (o))], .bool (o).isSome]) (by simp [results, Try.results39, go_sem, c0, c1]) rfl ⟨_, by rw [← hox.out], ((hm8.out.setCell (by show bm ≠ w.heap.size + 1; omega) _).setCell (by show bm ≠ w.heap.size + 1; omega) _).drew, hmx.out, grown_drew (grown_setNew (a := ⟨w.heap.size + 1, 1, none⟩) (grown_setNew (a := ⟨w.heap.size + 1, 0, none⟩) hg8.out (by show w.heap.size ≤ w.heap.size + 1; omega) _) (by show w.heap.size ≤ w.heap.size + 1; omega) _)⟩
def ancR (d : GSet) (x : Int) (nm : ByteArray) : Int × Int × Int := if askR d x = 0 then (match ancF d.gl nm (order (tgts d.gl)) x with
  | none => (0, 0, 3)
  | some q => if ptOk q.1 q.2 = true then (q.1, q.2, 0) else (0, 0, 2)) else (0, 0, askR d x)
theorem ancR_bad {d : GSet} {x : Int} {nm : ByteArray} (h : askR d x ≠ 0) : ancR d x nm = (0, 0, askR d x) := if_neg h
theorem ancR_ok {d : GSet} {x : Int} {nm : ByteArray} (h : askR d x = 0) : ancR d x nm = (match ancF d.gl nm (order (tgts d.gl)) x with
  | none => (0, 0, 3)
  | some q => if ptOk q.1 q.2 = true then (q.1, q.2, 0) else (0, 0, 2)) := if_pos h

set_option maxHeartbeats 4000000 in
theorem implAnchorOf_any (d : GSet) (h : GSetH) (x0 : Int) (nm : ByteArray) (r0 r1 r2 : Int) (heq : (r0, r1, r2) = ancR d x0 nm) (lo hi : Nat) (w : World) (hr : GSetRc w lo hi d h) (hhi : hi ≤ w.heap.size) (hm : d.small 1000000000) (hs : ∀ g ∈ d.gl, g.str) :
    Calls Try.prog 13 #[gsV d h, .int .i64 x0, .string nm] w fun e w' => e = .returned (.tuple #[.agg #[.int .i64 r0, .int .i64 r1], .int .i64 r2]) ∧ Below w.heap.size w w' := by
  obtain ⟨W, hW⟩ : ∃ W, W = (w.alloc (.cells #[.int .i64 d.unit, .slice h.gl.A h.gl.n h.gl.c] 26 (0, 0))).alloc (.cells #[.int .i64 0, .int .i64 0] 30 (0, 0)) := ⟨_, rfl⟩
  have hB0 : Below w.heap.size w W := by rw [hW]; exact Go.Joins.below_alloc2 _ _ _
  have hnew := heap_new2 w (.cells #[.int .i64 d.unit, .slice h.gl.A h.gl.n h.gl.c] 26 (0, 0)) (.cells #[.int .i64 0, .int .i64 0] 30 (0, 0))
  rw [← hW] at hnew
  have hbs := BoxSet.of hnew.1
  have hb2 := Box2.of hnew.2
  obtain ⟨q, hq⟩ : ∃ q, q = askR d x0 := ⟨_, rfl⟩
  have hc := Lib.hid (checkGlyph_any d h x0 q hq lo hi W (hr.frame good_glyphc (Below.sameB hB0 hhi)) (Nat.le_trans hhi hB0.size) hm hs)
  have hcs := ask_cases d x0
  by_cases hq0 : q = 0
  rotate_left
  · rw [ancR_bad (by rw [← hq]; exact hq0), ← hq] at heq
    rw [← hq] at hcs
    injection heq with e0 e1
    injection e1 with e1 e2
    subst e0 e1 e2
    have hq1 : r2 = 1 ∨ r2 = 2 := by omega
    replace hq := Lib.hid hq
    clear hr hm hs hcs hq0 hnew
    rcases hq1 with rfl | rfl
    all_goals
      go_enter Try.func13, Try.ntmps13
      obtain ⟨s0, s1, s2⟩ := hbs
      rw [hW] at s0 s1
      go_wp2_with fail
      rw [← hW]
      refine hc.out.mono ?_
      rintro e w1 ⟨rfl, hb1⟩
      have hg1 := below_grown hb1 none
      obtain ⟨c0, c1, c2, c3⟩ := hb2.keep (hb1.block _ hb2.lt) hb1.size
      have hB1 := hB0.trans (hb1.mono hB0.size)
      replace hW := Lib.hid hW
      go_wp2_with fail
      refine bodyPost_ret (v := .tuple #[.agg #[.int .i64 0, .int .i64 0], .int .i64 _]) (by simp [results, Try.results13, go_sem, c0, c1]) rfl ⟨rfl, (hB1.setCell (by show w.heap.size ≤ w.heap.size + 1; omega) _).setCell (by show w.heap.size ≤ w.heap.size + 1; omega) _⟩
  · subst hq0
    rw [ancR_ok hq.symm] at heq
    obtain ⟨_, hok, hx0, hxn⟩ : askR d x0 = 0 ∧ setOk d = true ∧ 0 ≤ x0 ∧ x0 < d.gl.length := by rcases hcs with h1 | h1 | h1; omega; omega; exact h1
    have hl := hr.1
    obtain ⟨t, ht⟩ := ord_at (set_is hok).2.2 hx0 hxn
    have hn40 : h.gl.n ≤ 40 := by rw [← hl]; exact (set_is hok).1
    have hcc := Lib.hid (fun (V : World) (hB : Below w.heap.size w V) => anchorOf_any d.unit h.gl.A h.gl.n h.gl.c lo hi V.heap.size d.gl nm (order (tgts d.gl)) (order_ord _) hl hn40 (by rw [(set_is hok).2.2, hl]) (set_is hok).2.1 (Nat.le_trans hhi hB.size) t x0 (fun _ => none) (V.alloc (.map #[] 0)) ht ((MapF.made ancE V Try.prog 2).mono (by omega)) (MemOkG.none _ _) ((GsRc.rd (hr.frame good_glyphc (Below.sameB hB hhi))).frame good_glyph (SameB.alloc (SameB.refl _ _ _) (Nat.le_trans hhi hB.size) _)) (by simp; have := hB.size; omega))
    have hmm := fun (t : TypeId) (V : World) => run_makeMap (P := Try.prog) t V
    generalize hz : ancF d.gl nm (order (tgts d.gl)) = C at heq hcc
    replace hz := Lib.hid hz
    obtain ⟨z, hzz⟩ : ∃ z, z = C x0 := ⟨_, rfl⟩
    rw [← hzz] at heq
    replace hq := Lib.hid hq
    replace hl := Lib.hid hl
    replace ht := Lib.hid ht
    clear hr hm hs hcs hok hnew
    obtain ⟨s0, s1, s2⟩ := hbs
    go_enter Try.func13, Try.ntmps13
    rw [hW] at s0 s1
    go_wp2_with fail
    rw [← hW]
    refine hc.out.mono ?_
    rintro e w1 ⟨rfl, hb1⟩
    have hB1 := hB0.trans (hb1.mono hB0.size)
    rw [← hW] at s0 s1
    have j0 := (hb1.cell (p := ⟨w.heap.size, 0, none⟩) s2).trans s0
    have j1 := (hb1.cell (p := ⟨w.heap.size, 1, none⟩) s2).trans s1
    have hz1 : w.heap.size < w1.heap.size := Nat.lt_of_lt_of_le s2 hb1.size
    have hb21 := hb2.keep (hb1.block _ hb2.lt) hb1.size
    replace hW := Lib.hid hW
    clear hc s0 s1 s2
    go_wp2_with fail
    refine (hcc.out _ hB1).mono ?_
    rintro e w2 ⟨f2, rfl, _, _, hg2⟩
    have hbA : w1.grownBy (w1.alloc (.map #[] 0)) (some w1.heap.size) := World.grownBy_alloc _ _ _
    have hg3 := grown_trans hbA hg2
    have hB2 : Below w.heap.size w w2 := hB1.grown hg3 hB1.size (fun j hj => by cases hj; exact hB1.size)
    have hb22 := hb21.grown hg3 (by have := hb21.lt; omega)
    have hb2z := Lib.hid hb22
    have hb2lt : w.heap.size + 1 < w1.heap.size := hb21.lt
    clear hb21 j0 j1 hbA
    rw [← hzz]
    replace hzz := Lib.hid hzz
    cases z with
    | none =>
      injection heq with e0 e1
      injection e1 with e1 e2
      subst e0 e1 e2
      obtain ⟨c0, c1, c2, c3⟩ := hb22
      dsimp only [oX, oY, Option.isSome]
      go_wp2_with fail
      refine bodyPost_ret (v := .tuple #[.agg #[.int .i64 0, .int .i64 0], .int .i64 3]) (by simp [results, Try.results13, go_sem, c0, c1, c3, World.cell?_alloc_lt]) rfl ⟨rfl, ?_⟩
      repeat (first | exact hB2 | refine Below.alloc ?_ (by first | exact hB2.size | (simp; exact hB2.size)) _ | refine Below.setCell ?_ (by show w.heap.size ≤ w.heap.size + 1; omega) _)
    | some q =>
      obtain ⟨qx, qy⟩ := q
      have cV := Lib.hid (fun V => validPt_any qx qy V)
      dsimp only [oX, oY, Option.isSome]
      cases hpt : ptOk qx qy with
      | false =>
        simp only [hpt] at heq
        injection heq with e0 e1
        injection e1 with e1 e2
        subst e0 e1 e2
        rw [hpt] at cV
        obtain ⟨c0, c1, c2, c3⟩ := hb22
        go_wp2_with fail
        refine (cV.out _).mono ?_
        rintro e w3 ⟨rfl, hb3⟩
        have hbV : Below w.heap.size w (w2.alloc (.cells #[.int .i64 qx, .int .i64 qy] 30 (0, 0))) := hB2.alloc hB2.size _
        have hB3 := hbV.trans (hb3.mono hbV.size)
        have hbz : Box2 (w2.alloc (.cells #[.int .i64 qx, .int .i64 qy] 30 (0, 0))) (w.heap.size + 1) 0 0 := hb2z.out.grown (World.grownBy_alloc _ _ (some w1.heap.size)) (by have := hb2lt; omega)
        obtain ⟨g0, g1, g2, g3⟩ := hbz.keep (hb3.block _ hbz.lt) hb3.size
        have hb9 : Box2 (w2.alloc (.cells #[.int .i64 qx, .int .i64 qy] 30 (0, 0))) w2.heap.size qx qy := Box2.of (heap_alloc_new w2 _)
        obtain ⟨v0, v1, v2, v3⟩ := hb9.keep (hb3.block _ hb9.lt) hb3.size
        clear c0 c1 c2 c3 hbz hb9 hb3 hbV
        go_wp2_with fail
        refine bodyPost_ret (v := .tuple #[.agg #[.int .i64 0, .int .i64 0], .int .i64 2]) (by simp [results, Try.results13, go_sem, g0, g1]) rfl ⟨rfl, ?_⟩
        repeat (first | exact hB3 | refine Below.alloc ?_ (by first | exact hB3.size | (simp; exact hB3.size)) _ | refine Below.setCell ?_ (by show w.heap.size ≤ w.heap.size + 1; omega) _)
      | true =>
        simp only [hpt] at heq
        injection heq with e0 e1
        injection e1 with e1 e2
        subst e0 e1 e2
        rw [hpt] at cV
        obtain ⟨c0, c1, c2, c3⟩ := hb22
        go_wp2_with fail
        refine (cV.out _).mono ?_
        rintro e w3 ⟨rfl, hb3⟩
        have hbV : Below w.heap.size w (w2.alloc (.cells #[.int .i64 r0, .int .i64 r1] 30 (0, 0))) := hB2.alloc hB2.size _
        have hB3 := hbV.trans (hb3.mono hbV.size)
        have hbz : Box2 (w2.alloc (.cells #[.int .i64 r0, .int .i64 r1] 30 (0, 0))) (w.heap.size + 1) 0 0 := hb2z.out.grown (World.grownBy_alloc _ _ (some w1.heap.size)) (by have := hb2lt; omega)
        obtain ⟨g0, g1, g2, g3⟩ := hbz.keep (hb3.block _ hbz.lt) hb3.size
        have hb9 : Box2 (w2.alloc (.cells #[.int .i64 r0, .int .i64 r1] 30 (0, 0))) w2.heap.size r0 r1 := Box2.of (heap_alloc_new w2 _)
        obtain ⟨v0, v1, v2, v3⟩ := hb9.keep (hb3.block _ hb9.lt) hb3.size
        clear c0 c1 c2 c3 hbz hb9 hb3 hbV
        go_wp2_with fail
        refine bodyPost_ret (v := .tuple #[.agg #[.int .i64 r0, .int .i64 r1], .int .i64 0]) (by simp [results, Try.results13, go_sem, g0, g1]) rfl ⟨rfl, ?_⟩
        repeat (first | exact hB3 | refine Below.alloc ?_ (by first | exact hB3.size | (simp; exact hB3.size)) _ | refine Below.setCell ?_ (by show w.heap.size ≤ w.heap.size + 1; omega) _)
end Go.Proofs.Ytgnjohkfgllhmaa

/- A drawn set of glyphs: spec.l17Draw, spec.A2Set. Conditions: as each states. -/
namespace Go.Proofs.Ytgnjohkfgllhmaa
open Go.RowKit
set_option linter.unusedVariables false
set_option maxRecDepth 100000
set_option maxRecDepth 100000

theorem DrOk.outSm {d : Gl} (h : DrOk d) : OutSm d.out := by
  have h1 := h.ol
  have h2 := h.ok
  refine ⟨by omega, ?_⟩
  have : ∀ (L : List (List Knot)), (∀ K ∈ L, K.length ≤ 9) → kN L ≤ 9 * L.length := fun L hL => by
    induction L with
    | nil => simp [kN]
    | cons K L ih =>
      have e1 := hL K (List.mem_cons_self ..)
      have e2 := ih fun K' hK' => hL K' (List.mem_cons_of_mem _ hK')
      simp [kN] at e2 ⊢
      omega
  have := this d.out h2
  omega
theorem DrOk.small {d : Gl} (h : DrOk d) : d.small 1000000000 := by
  have h1 := h.ol
  have h2 := h.ok
  have h3 := h.pl
  have h4 := h.al
  exact ⟨by omega, fun K hK => by have := h2 K hK; omega, by omega, by omega⟩
theorem DrOk.str {d : Gl} (h : DrOk d) : d.str := ⟨by have := h.nm; simp only [maxLen]; omega, by have := h.hl; simp only [maxLen]; omega, fun a ha => by have := h.as' a ha; simp only [maxLen]; omega⟩
theorem GsX.nextS {w w1 w2 : World} {lo k c c' B : Nat} {A A' : Option Addr} {L : List Gl} {ys : List Value} {hs : Nat → GlH} {iv : Nat → Nat × Nat} {d : Gl} {h' : GlH} (h : GsX w lo w.heap.size A k c L ys hs iv) (hlo : lo ≤ w.heap.size) (hb : SameB lo w.heap.size w w1) (hbz : w.heap.size ≤ w1.heap.size) (hx : GlX w1 w.heap.size B d h') (hB1 : w.heap.size ≤ B) (hB2 : B ≤ w1.heap.size)
    (ho : w2.ownsRow lo 39 7 (.slice A' (k + 1) c') (k + 1) (ys ++ glC d h')) (hg : w1.grownBy w2 (Value.slice A k c).ownBlock)
    (hbk : (Value.slice A' (k + 1) c').ownBlock = (Value.slice A k c).ownBlock ∨ ∃ b, B ≤ b ∧ (Value.slice A' (k + 1) c').ownBlock = some b) :
    GsX w2 lo w2.heap.size A' (k + 1) c' (L ++ [d]) (ys ++ glC d h') (fun j => if j = k then h' else hs j) (fun j => if j = k then (w.heap.size, B) else iv j) := by
  obtain ⟨e1, e2, e3, e4, e5, e6⟩ := h
  have hyl := e2.1
  have hz := hg.size
  refine ⟨by simp [e1], ho, fun g hg' => ?_, fun j g hj => ?_, fun j hj => ?_, fun i j hij hj => ?_⟩
  · refine ⟨(ho.lt g hg').2, fun j hj => ?_⟩
    rcases hbk with hbk | ⟨b, hb1, hb2⟩
    · rw [hbk] at hg'
      obtain ⟨f1, f2⟩ := e3 g hg'
      by_cases hjk : j = k
      · simp only [hjk, if_pos]; exact .inl f1
      · simp only [if_neg hjk]; exact f2 j (by omega)
    · rw [hb2] at hg'
      injection hg' with hg'
      subst hg'
      by_cases hjk : j = k
      · simp only [hjk, if_pos]; exact .inr hb1
      · simp only [if_neg hjk]; have := (e5 j (by omega)).2.2; exact .inr (by omega)
  · by_cases hjk : j = k
    · subst hjk
      rw [List.getElem?_append_right (by omega), e1, Nat.sub_self] at hj
      simp at hj
      subst hj
      simp only [if_pos]
      refine ⟨fun i u hu => ?_, hx.same fun b hb1 hb2 => hg.block b (by omega) fun e => ?_⟩
      · rw [List.getElem?_append_right (by omega), hyl, show j * 7 + i - j * 7 = i by omega]; exact hu
      · have := (e3 b e.symm).1; omega
    · have hjl := (List.getElem?_eq_some_iff.1 hj).1
      simp at hjl
      rw [List.getElem?_append_left (by omega)] at hj
      simp only [if_neg hjk]
      obtain ⟨k1, k2⟩ := e4 j g hj
      refine ⟨fun i u hu => ?_, ?_⟩
      · have := glC_7 hu
        rw [List.getElem?_append_left (by omega)]
        exact k1 i u hu
      · have e5j := e5 j (by omega)
        refine (k2.same (hb.mono e5j.1 e5j.2.2)).same fun b hb1 hb2 => hg.block b (by omega) fun e => ?_
        rcases (e3 b e.symm).2 j (by omega) with hh | hh <;> omega
  · by_cases hjk : j = k
    · simp only [hjk, if_pos]; exact ⟨hlo, hB1, by omega⟩
    · simp only [if_neg hjk]; have h5j := e5 j (by omega); exact ⟨h5j.1, by omega, by omega⟩
  · by_cases hjk : j = k
    · simp only [hjk, if_pos]
      rw [if_neg (by omega)]
      exact (e5 i (by omega)).2.2
    · simp only [if_neg hjk]
      rw [if_neg (by omega)]
      exact e6 i j hij (by omega)
end Go.Proofs.Ytgnjohkfgllhmaa

/- A drawn set of glyphs: spec.l17Draw. Conditions: as each states. -/
namespace Go.Proofs.Ytgnjohkfgllhmaa
open Go.RowKit
set_option linter.unusedVariables false
set_option maxRecDepth 100000
set_option maxRecDepth 100000

theorem row5 (w : World) (a b c d e : Int) : RdS 1 (FlatR intC) (w.alloc (.cells #[.int .i64 a, .int .i64 b, .int .i64 c, .int .i64 d, .int .i64 e] 2 (0, 0))) w.heap.size (w.alloc (.cells #[.int .i64 a, .int .i64 b, .int .i64 c, .int .i64 d, .int .i64 e] 2 (0, 0))).heap.size (some ⟨w.heap.size, 0, none⟩) 5 [a, b, c, d, e] := by
  have h : (w.alloc (.cells #[.int .i64 a, .int .i64 b, .int .i64 c, .int .i64 d, .int .i64 e] 2 (0, 0))).ownsRow w.heap.size 2 1 (.slice (some ⟨w.heap.size, 0, none⟩) 5 5) 5 [.int .i64 a, .int .i64 b, .int .i64 c, .int .i64 d, .int .i64 e] := World.ownsRow_lit w #[.int .i64 a, .int .i64 b, .int .i64 c, .int .i64 d, .int .i64 e] 5 (Nat.le_refl _) (by decide) (by simp)
  exact rdS_own intC_len (by omega) h rfl
theorem gsX_none (w : World) (lo hi c : Nat) (hs : Nat → GlH) (iv : Nat → Nat × Nat) : GsX w lo hi none 0 0 [] [] hs iv :=
  ⟨rfl, World.ownsRow_nil _ _ _ _, fun g hg => by simp [Value.ownBlock] at hg, fun j g hj => by simp at hj, fun j hj => absurd hj (Nat.not_lt_zero j), fun i j _ hj => absurd hj (Nat.not_lt_zero j)⟩
theorem setOk_none : setOk ⟨1000, []⟩ = true := by rfl

set_option maxHeartbeats 8000000 in
theorem l17Draw_any (b k : Nat) (w : World) (hs : Src0 w b k) (hk : k ≤ 999800000) :
    Calls Try.prog 28 #[.pointer (some ⟨b, 0, none⟩), .int .i64 7] w fun e w' => ∃ (d : GSet) (A : Option Addr) (n c : Nat) (ys : List Value) (hs : Nat → GlH) (iv : Nat → Nat × Nat), e = .returned (.agg #[.int .i64 d.unit, .slice A n c]) ∧ setOk d = true ∧ d.gl.length ≤ 7 ∧ (∀ g ∈ d.gl, DrOk g) ∧ GsX w' w.heap.size w'.heap.size A n c d.gl ys hs iv ∧ w.grownBy w' (some b) := by
  have hbl := hs.lt
  have hb0 : Below w.heap.size w (w.alloc (.cells #[.int .i64 0, .slice none 0 0] 26 (0, 0))) := Go.Joins.below_alloc1 _ _
  have hs0 := hs.kept hb0 hbl
  have HR0 := heap_alloc_new w (.cells #[.int .i64 0, .slice none 0 0] 26 (0, 0))
  have hz0 : (w.alloc (.cells #[.int .i64 0, .slice none 0 0] 26 (0, 0))).heap.size = w.heap.size + 1 := by simp
  have G0 := grown_of hb0 (some b)
  clear hs
  go_enter Try.func28, Try.ntmps28
  go_upto_region 1 with fail
  generalize w.alloc (.cells #[.int .i64 0, .slice none 0 0] 26 (0, 0)) = w0 at *
  have hcA := Lib.hid (among_any b k _ 5 5 _ _ _ _ (hs0.kept (Go.Joins.below_alloc1 w0 (.cells #[.int .i64 1000, .int .i64 1000, .int .i64 2048, .int .i64 16, .int .i64 16384] 2 (0, 0))) (by omega)) (by omega) (row5 w0 1000 1000 2048 16 16384) (.inl (by omega)) (Nat.le_refl _) (by decide) (by decide))
  have G1 := grown_tr G0 (grown_of (Go.Joins.below_alloc1 w0 (.cells #[.int .i64 1000, .int .i64 1000, .int .i64 2048, .int .i64 16, .int .i64 16384] 2 (0, 0))) (some b))
  have hz1 : w.heap.size + 1 ≤ w0.heap.size := by omega
  replace HR0 := Lib.hid HR0
  replace G1 := Lib.hid G1
  clear hz0 hs0 hb0 G0
  go_wp2_with fail
  refine hcA.out.mono ?_
  rintro e w1 ⟨u, k1, rfl, -, hs1, hk1, hg1⟩
  have G2 := Lib.hid (grown_tr G1.out hg1)
  have HR1 := Lib.hid ((hg1.block w.heap.size (by simp; omega) (by intro e; injection e with e; omega)).trans ((Below.heap_alloc _ _ _ (by omega)).trans HR0.out))
  have hzz : w0.heap.size + 1 ≤ w1.heap.size := by have := hg1.size; simpa using this
  clear hcA G1 HR0 hg1
  have hs2 := hs1.kept (Go.Joins.below_alloc1 w1 (.cells #[.int .i64 u, .slice none 0 0] 26 (0, 0))) (by omega)
  have hcP := Lib.hid (pick_any b k1 8 _ hs2 (by omega))
  have G3 := Lib.hid (grown_tr G2.out (grown_of (Go.Joins.below_alloc1 w1 (.cells #[.int .i64 u, .slice none 0 0] 26 (0, 0))) (some b)))
  have HX := Lib.hid (heap_alloc_new w1 (.cells #[.int .i64 u, .slice none 0 0] 26 (0, 0)))
  clear hs1 hs2
  go_wp2_with fail
  refine hcP.out.mono ?_
  rintro e w2 ⟨r, k2, rfl, hr0, hr8, -, hs2, hk2, hg2⟩
  have hr7 : r < 8 := hr8 (by decide)
  have hz2 : w1.heap.size + 1 ≤ w2.heap.size := by have := hg2.size; simpa using this
  have HX2 := Lib.hid ((hg2.block w1.heap.size (by simp) (by intro e; injection e with e; omega)).trans HX.out)
  have HR2 := Lib.hid ((hg2.block w.heap.size (by simp; omega) (by intro e; injection e with e; omega)).trans ((Below.heap_alloc _ _ _ (by omega)).trans HR1.out))
  have G4 := Lib.hid (grown_tr G3.out hg2)
  obtain ⟨X, hX⟩ : ∃ X, X = w1.heap.size := ⟨_, rfl⟩
  rw [← hX] at hz2 HX2 hzz
  obtain ⟨N, rfl⟩ : ∃ N : Nat, r = (N : Int) := ⟨r.toNat, by omega⟩
  replace hs2 := Lib.hid hs2
  clear hcP G2 G3 HR1 HX hg2 hr8 hr0
  go_wp2_with fail
  rw [← hX]
  clear hX
  go_loopw [7] (fun i wr => ∃ (t k' : Nat) (L : List Gl) (Ao : Option Addr) (co : Nat) (ys : List Value) (hs : Nat → GlH) (iv : Nat → Nat × Nat), i = .int .i64 t ∧ t ≤ N ∧ (∀ g ∈ L, DrOk g) ∧ GsX wr (X + 1) wr.heap.size Ao t co L ys hs iv ∧ wr.heap[X]? = some (.cells #[.int .i64 u, .slice Ao t co] 26 (0, 0)) ∧ wr.heap[w.heap.size]? = some (.cells #[.int .i64 0, .slice none 0 0] 26 (0, 0)) ∧ X + 1 ≤ wr.heap.size ∧ Src0 wr b k' ∧ k' ≤ k + 10 + 1000 * t ∧ w.grownBy wr (some b)) (fun i wr => N - (intOf i).toNat)
  case atStart => exact ⟨0, k2, [], none, 0, [], fun _ => ⟨⟨none, 0, 0⟩, ⟨none, 0, 0⟩, ⟨none, 0, 0⟩⟩, fun _ => (0, 0), rfl, Nat.zero_le _, fun g hg => by simp at hg, gsX_none _ _ _ 0 _ _, HX2.out, HR2.out, hz2, hs2.out, by omega, G4.out⟩
  case round =>
    clear HX2 HR2 hs2 G4
    obtain ⟨t, k3, L, Ao, co, ys, hs', iv, rfl, ht, hok, hx, q2, q1, hz, hs3, hk3, hG⟩ := hrel
    have hown := Lib.hid hx.2.1
    have hll := Lib.hid hx.1
    have hbX : b < X := by omega
    have hwX : w.heap.size < X := by omega
    have c0 : wr.cell? ⟨X, 0, none⟩ = some (.int .i64 u) := by rw [Go.Joins.cell_of_block q2]; rfl
    have c1 : wr.cell? ⟨X, 1, none⟩ = some (.slice Ao t co) := by rw [Go.Joins.cell_of_block q2]; rfl
    have f2 : ∀ o, wr.frozen? ⟨X, o, none⟩ = false := Go.Joins.unfrozen_of_block q2
    have hzX : X < wr.heap.size := by omega
    have hsm := Lib.hid (fun g hg => (hok g hg).outSm)
    have hrd := Lib.hid (hx.rdc hsm.out).rd
    replace hok := Lib.hid hok
    replace hx := Lib.hid hx
    replace hG := Lib.hid hG
    by_cases hlt : t < N
    · have hti : (t : Int) < (N : Int) := by omega
      have hcall := Lib.hid (l17DrawGlyph_any b k3 t wr.drew (hs3.keepL fun g _ => rfl) (by omega) (by omega))
      replace q1 := Lib.hid q1
      replace q2 := Lib.hid q2
      clear hs3 hrd hsm
      go_wp2_with fail
      go_region_law (first | (refine stepAppN rfl (.tmp 22) (.tmp 26) elemGlyph rfl (v := .slice Ao t co) (n := t) (xs := ys) rfl ((own_grown hown.out hG1.out (by omega)).alloc _) rfl (src_at (cs := [.string dg.name, .int .i64 dg.code, .int .i64 dg.adv, .slice h4.out.A h4.out.n h4.out.c, .slice h4.parts.A h4.parts.n h4.parts.c, .slice h4.anchors.A h4.anchors.n h4.anchors.c, .string dg.hints]) rfl (by simp [Value.oneCell']) (by simp)) (by omega) (by omega) (by simp; omega) (t + 1) rfl ?_; intro A4 c4 w4 ho4 hg4 hbk4; have hne : (Value.slice Ao t co).ownBlock ≠ some X := (fun e => by have := (hown.out.lt _ e).1; omega); have hk4 : w4.heap[X]? = wr.heap[X]? := ((hg4.block _ (by simp; omega) (fun e => hne e.symm)).trans (Below.heap_alloc _ _ _ (by omega))).trans (hG1.out.block X hzX (by intro e; injection e with e; omega)); have r4 : w4.cell? ⟨X, 1, none⟩ = some (.slice Ao t co) := ((World.cell?_of_block hk4).trans c1); have f4 : ∀ o, w4.frozen? ⟨X, o, none⟩ = false := (fun o => (World.frozen?_of_block hk4).trans (f2 o)); replace hk4 := Lib.hid hk4; clear hne; replace ho4 := Lib.hid ho4; replace hg4 := Lib.hid hg4; replace hbk4 := Lib.hid hbk4) | (go_simp; go_at_call 72; refine hcall.out.mono ?_; rintro e w3 ⟨dg, h4, k4, rfl, hX1, hd4, hs4, hk4', hg3⟩; have hG1 : wr.grownBy w3 (some b) := (show wr.grownBy w3 (some b) from ⟨hg3.os, hg3.tape, hg3.output, hg3.size, hg3.block⟩); have hs1 : wr.heap.size ≤ w3.heap.size := hG1.size; have r3 : w3.cell? ⟨X, 1, none⟩ = some (.slice Ao t co) := (World.cell?_of_block (hG1.block X hzX (by intro e; injection e with e; omega))).trans c1; replace hX1 := Lib.hid hX1; replace hG1 := Lib.hid hG1; replace hs4 := Lib.hid hs4; have hs2 : X < w3.heap.size := (by omega); clear hg3; dsimp only))
      all_goals
        go_wp2_with fail
        go_roundw
        case rel =>
          have hB := hG1.out
          have hg4 := hg4.out
          have hgs : w3.heap.size + 1 ≤ w4.heap.size := by have := hg4.size; simpa using this
          have ho := hown.out
          have hrow3 := (own_grown ho hB (by omega)).alloc (.cells #[.string dg.name, .int .i64 dg.code, .int .i64 dg.adv, .slice h4.out.A h4.out.n h4.out.c, .slice h4.parts.A h4.parts.n h4.parts.c, .slice h4.anchors.A h4.anchors.n h4.anchors.c, .string dg.hints] 39 (0, 0))
          have hne : ∀ g, g ≤ X → (Value.slice Ao t co).ownBlock ≠ some g := fun g hg e => by have := (ho.lt _ e).1; omega
          have hk1 : w4.heap[w.heap.size]? = wr.heap[w.heap.size]? := ((hg4.block _ (by simp; omega) (fun e => hne _ (by omega) e.symm)).trans (Below.heap_alloc _ _ _ (by omega))).trans (hB.block _ (by omega) (by intro e; injection e with e; omega))
          have hxw := (hX1.out.wide (lo' := wr.heap.size) (Nat.le_refl _) (Nat.le_refl _)).same ((SameB.refl _ _ w3).alloc (Nat.le_refl _) (.cells #[.string dg.name, .int .i64 dg.code, .int .i64 dg.adv, .slice h4.out.A h4.out.n h4.out.c, .slice h4.parts.A h4.parts.n h4.parts.c, .slice h4.anchors.A h4.anchors.n h4.anchors.c, .string dg.hints] 39 (0, 0)))
          have hsb : SameB (X + 1) wr.heap.size wr (w3.alloc (.cells #[.string dg.name, .int .i64 dg.code, .int .i64 dg.adv, .slice h4.out.A h4.out.n h4.out.c, .slice h4.parts.A h4.parts.n h4.parts.c, .slice h4.anchors.A h4.anchors.n h4.anchors.c, .string dg.hints] 39 (0, 0))) := fun g h1 h2 => (Below.heap_alloc _ _ _ (by omega)).trans (hB.block g h2 (by intro e; injection e with e; omega))
          have hnx := GsX.nextS (w1 := w3.alloc (.cells #[.string dg.name, .int .i64 dg.code, .int .i64 dg.adv, .slice h4.out.A h4.out.n h4.out.c, .slice h4.parts.A h4.parts.n h4.parts.c, .slice h4.anchors.A h4.anchors.n h4.anchors.c, .string dg.hints] 39 (0, 0))) hx.out hz hsb (by simp; omega) hxw (by omega) (by simp) ho4.out hg4 (hbk4.out.imp id fun e => ⟨_, by simp, e⟩)
          refine ⟨t + 1, k4, L ++ [dg], A4, c4, _, _, _, by go_num, by omega, ?_, (hnx.same ((SameB.refl _ _ w4).setCell (.inl (by simp)) _)).wide (Nat.le_refl _) (by simp), Go.Joins.block_setCell (hk4.out.trans q2.out) _, ?_, by simp; omega, ?_, by omega, ?_⟩
          · intro g hg
            rcases List.mem_append.1 hg with h1 | h1
            · exact hok.out g h1
            · rw [List.mem_singleton] at h1; subst h1; exact hd4
          · exact (Below.heap_setCell _ _ _ _ (by simp only; omega)).trans (hk1.trans q1.out)
          · exact hs4.out.keepL fun g hg => (Below.heap_setCell _ _ _ _ (by simp only; omega)).trans ((hg4.block _ (by simp; omega) (fun e => hne _ (by omega) e.symm)).trans (Below.heap_alloc _ _ _ (by omega)))
          · exact grown_setO (grown_app (grown_allocA (grown_tr hG.out hB) _) hrow3 hg4 (by omega)) (by omega) _ _
        case measure => simp [intOf]; omega
    · obtain rfl : t = N := by omega
      have hti : ¬ (t : Int) < (t : Int) := by omega
      have hcO := Lib.hid (l17Ok_any X 0 u Ao t co (X + 1) wr.heap.size L (setOk ⟨u, L⟩) rfl wr (by omega) c0 c1 hrd.out (Nat.le_refl _) (by omega) (fun g hg => (hok.out g hg).small) (fun g hg => (hok.out g hg).str))
      have d0 : wr.cell? ⟨w.heap.size, 0, none⟩ = some (.int .i64 0) := by rw [Go.Joins.cell_of_block q1]; rfl
      have d1 : wr.cell? ⟨w.heap.size, 1, none⟩ = some (.slice none 0 0) := by rw [Go.Joins.cell_of_block q1]; rfl
      have df : ∀ o, wr.frozen? ⟨w.heap.size, o, none⟩ = false := Go.Joins.unfrozen_of_block q1
      clear hs3 hrd hsm q1 q2
      go_wp2_with fail
      refine hcO.out.mono ?_
      rintro e w3 ⟨rfl, hb3⟩
      have e0 : w3.cell? ⟨X, 0, none⟩ = some (.int .i64 u) := (hb3.cell hzX).trans c0
      have e1 : w3.cell? ⟨X, 1, none⟩ = some (.slice Ao t co) := (hb3.cell hzX).trans c1
      have hwl : w.heap.size < wr.heap.size := by omega
      have e2 : w3.cell? ⟨w.heap.size, 0, none⟩ = some (.int .i64 0) := (hb3.cell hwl).trans d0
      have e3 : w3.cell? ⟨w.heap.size, 1, none⟩ = some (.slice none 0 0) := (hb3.cell hwl).trans d1
      have ef : ∀ o, w3.frozen? ⟨w.heap.size, o, none⟩ = false := fun o => (World.frozen?_of_block (hb3.block _ hwl)).trans (df o)
      have hwl3 : w.heap.size < w3.heap.size := by have := hb3.size; omega
      have hx3 := Lib.hid (hx.out.same (Below.sameB hb3 (Nat.le_refl _)))
      have hG3 := Lib.hid (grown_tr hG.out (grown_of hb3 (some b)))
      have hz3 := hb3.size
      replace hb3 := Lib.hid hb3
      have ht7 : t ≤ 7 := by omega
      clear hcO c0 c1 f2 d0 d1 df hx
      cases hv : setOk ⟨u, L⟩
      · replace hv := Lib.hid hv
        go_wp2_with fail
        refine bodyPost_ret (v := .agg #[.int .i64 1000, .slice none 0 0]) (by simp [results, Try.results28, go_sem, e2, e3]) rfl ⟨⟨1000, []⟩, none, 0, 0, [], fun _ => ⟨⟨none, 0, 0⟩, ⟨none, 0, 0⟩, ⟨none, 0, 0⟩⟩, fun _ => (0, 0), rfl, setOk_none, by simp, fun g hg => by simp at hg, gsX_none _ _ _ 0 _ _, ?_⟩
        exact grown_setO (grown_setO hG3.out (Nat.le_refl _) _ _) (Nat.le_refl _) _ _
      · replace hv := Lib.hid hv
        go_wp2_with fail
        refine bodyPost_ret (v := .agg #[.int .i64 u, .slice Ao t co]) (by simp [results, Try.results28, go_sem, e2, e3]) rfl ⟨⟨u, L⟩, Ao, t, co, ys, hs', iv, rfl, hv.out, ?_, hok.out, ?_, ?_⟩
        · have := hll.out
          show L.length ≤ 7
          omega
        · exact (hx3.out.same (((SameB.refl _ _ w3).setCell (.inl (by simp only; omega)) _).setCell (.inl (by simp only; omega)) _)).wide (by omega) (by simp; omega)
        · exact grown_setO (grown_setO hG3.out (Nat.le_refl _) _ _) (Nat.le_refl _) _ _
end Go.Proofs.Ytgnjohkfgllhmaa

/- A valid drawn set: spec.A2Set. Conditions: as each states. -/
namespace Go.Proofs.Ytgnjohkfgllhmaa
open Go.RowKit
set_option linter.unusedVariables false
set_option maxRecDepth 100000
set_option maxRecDepth 100000

theorem A2Set_any (A : Option Addr) (n c lo hi : Nat) (L : List Int) (w : World) (hr : RdS 1 u8R w lo hi A n L) (hhi : hi ≤ w.heap.size) (hn : n ≤ 1000000000) :
    Calls Try.prog 8 #[.slice A n c] w fun e w' => ∃ (d : GSet) (A : Option Addr) (n c : Nat) (ys : List Value) (hs : Nat → GlH) (iv : Nat → Nat × Nat), e = .returned (.agg #[.int .i64 d.unit, .slice A n c]) ∧ setOk d = true ∧ d.gl.length ≤ 7 ∧ (∀ g ∈ d.gl, DrOk g) ∧ GsX w' w.heap.size w'.heap.size A n c d.gl ys hs iv ∧ Below w.heap.size w w' := by
  have hb0 : Below w.heap.size w (w.alloc (.cells #[.int .i64 0, .slice none 0 0] 26 (0, 0))) := Go.Joins.below_alloc1 _ _
  have HR0 := heap_alloc_new w (.cells #[.int .i64 0, .slice none 0 0] 26 (0, 0))
  have hz0 : (w.alloc (.cells #[.int .i64 0, .slice none 0 0] 26 (0, 0))).heap.size = w.heap.size + 1 := by simp
  go_enter Try.func8, Try.ntmps8
  go_upto_region 1 with fail
  generalize w.alloc (.cells #[.int .i64 0, .slice none 0 0] 26 (0, 0)) = w0 at *
  have hr0 := Lib.hid (hr.frame good_u8 (Below.sameB hb0 hhi))
  have hz1 : w.heap.size + 1 ≤ w0.heap.size := by omega
  replace HR0 := Lib.hid HR0
  replace hb0 := Lib.hid hb0
  clear hz0 hr
  go_wp2_with fail
  refine (l00From_any _ _ _ _).mono ?_
  rintro e w1 ⟨rfl, hs1, hb1⟩
  have hS1 : Src0 w1 w0.heap.size 0 := ⟨A, n, c, lo, hi, 0, L, hs1, hr0.out.frame good_u8 (Below.sameB hb1 (by omega)), by omega, hn⟩
  have HR1 := Lib.hid ((hb1.block w.heap.size (by omega)).trans HR0.out)
  have hc := Lib.hid (l17Draw_any w0.heap.size 0 w1 hS1 (by omega))
  have hz2 := hb1.size
  have hbb := Lib.hid (hb0.out.trans (hb1.mono (by omega)))
  have hb1' := Lib.hid hb1
  clear hs1 hS1 hb1 HR0 hr0 hb0
  go_wp2_with fail
  refine hc.out.mono ?_
  rintro e w2 ⟨d, A', n', c', ys, hs, iv, rfl, hok, hl, hdr, hx, hg⟩
  have h2 := hg.block w.heap.size (by omega) (by intro e; injection e with e; omega)
  have e0 : w2.cell? ⟨w.heap.size, 0, none⟩ = some (.int .i64 0) := by rw [Go.Joins.cell_of_block (h2.trans HR1.out)]; rfl
  have e1 : w2.cell? ⟨w.heap.size, 1, none⟩ = some (.slice none 0 0) := by rw [Go.Joins.cell_of_block (h2.trans HR1.out)]; rfl
  have ef : ∀ o, w2.frozen? ⟨w.heap.size, o, none⟩ = false := Go.Joins.unfrozen_of_block (h2.trans HR1.out)
  have hB : Below w.heap.size w w2 := by
    have hq := hbb.out
    refine ⟨hg.os.trans hq.os, hg.tape.trans hq.tape, hg.output.trans hq.output, by have := hg.size; have := hq.size; omega, fun g hg' => ?_⟩
    exact (hg.block g (by omega) (by intro e; injection e with e; omega)).trans (hq.block g hg')
  have hz3 := hg.size
  have hwl : w.heap.size < w2.heap.size := by omega
  replace hx := Lib.hid hx
  replace hok := Lib.hid hok
  replace hdr := Lib.hid hdr
  replace hB := Lib.hid hB
  clear hc HR1 h2 hg hbb hb1'
  go_wp2_with fail
  refine bodyPost_ret (v := .agg #[.int .i64 d.unit, .slice A' n' c']) (by simp [results, Try.results8, go_sem, e0, e1]) rfl ⟨d, A', n', c', ys, hs, iv, rfl, hok.out, hl, hdr.out, ?_, ?_⟩
  · exact (hx.out.same (((SameB.refl _ _ w2).setCell (.inl (by simp only; omega)) _).setCell (.inl (by simp only; omega)) _)).wide (by omega) (by simp)
  · exact (hB.out.setCell (p := ⟨w.heap.size, 0, none⟩) (Nat.le_refl _) _).setCell (p := ⟨w.heap.size, 1, none⟩) (Nat.le_refl _) _
end Go.Proofs.Ytgnjohkfgllhmaa

/- The law on anchors: plain. A set with one glyph more, whose part is a glyph of the set. Conditions: as each states. -/
namespace Go.Proofs.Ytgnjohkfgllhmaa
open Go.RowKit
set_option linter.unusedVariables false
set_option maxRecDepth 100000

theorem orderF_fix {T : List (List Int)} : ∀ (f : Nat) {out : List Int}, Ord T out → T.length + 1 ≤ out.length + f → passK T (orderF T f out) T.length = orderF T f out
  | 0, out, ho, h => by have := ho.le; omega
  | f + 1, out, ho, h => by
    unfold orderF
    split
    · next e => exact passK_eq e
    · next e => exact orderF_fix f (ho.passK _) (by have := passK_le T out T.length; omega)
theorem order_fix (T : List (List Int)) : passK T (order T) T.length = order T := orderF_fix _ (Ord.nil T) (by simp)
theorem fix_step {T : List (List Int)} {out : List Int} : ∀ (K : Nat), passK T out K = out → ∀ i, i < K → stepO T out i = out
  | 0, _, i, hi => absurd hi (Nat.not_lt_zero i)
  | K + 1, h, i, hi => by
    have e : passK T out (K + 1) = stepO T (passK T out K) K := rfl
    obtain ⟨s, hs⟩ := stepO_pre T (passK T out K) K
    have hl := passK_le T out K
    have hK : passK T out K = out := passK_eq (by
      have := congrArg List.length (e.symm.trans h)
      rw [hs, List.length_append] at this
      omega)
    by_cases hiK : i = K
    · subst hiK
      rw [e, hK] at h
      exact h
    · exact fix_step K hK i (by omega)
theorem order_closed {T : List (List Int)} {i : Nat} {ps : List Int} (hi : T[i]? = some ps) (h : ∀ p ∈ ps, p ∈ order T) : (i : Int) ∈ order T := by
  have hl := (List.getElem?_eq_some_iff.1 hi).1
  have := fix_step _ (order_fix T) i hl
  by_cases h0 : (i : Int) ∈ order T
  · exact h0
  · rw [stepO_add hi h0 h] at this
    have := congrArg List.length this
    simp at this
theorem sub_len : ∀ (l m : List Int), l.Nodup → (∀ x ∈ l, x ∈ m) → l.length ≤ m.length
  | [], m, _, _ => Nat.zero_le _
  | a :: l, m, hd, h => by
    have ha := h a (List.mem_cons_self ..)
    rw [List.nodup_cons] at hd
    have := sub_len l (m.erase a) hd.2 fun x hx => (List.mem_erase_of_ne (fun e : x = a => hd.1 (e ▸ hx))).2 (h x (List.mem_cons_of_mem _ hx))
    rw [List.length_erase_of_mem ha] at this
    have := List.length_pos_of_mem ha
    simp
    omega
theorem order_snoc {T : List (List Int)} {ps : List Int} (hf : (order T).length = T.length) (hps : ∀ p ∈ ps, 0 ≤ p ∧ p < T.length) : (order (T ++ [ps])).length = T.length + 1 := by
  have ho := order_ord T
  have hin : ∀ (t : Nat) (x : Int), (order T)[t]? = some x → x ∈ order (T ++ [ps]) := by
    intro t
    induction t using Nat.strongRecOn with
    | ind t ih =>
      intro x hx
      have hr := ho.rng x (List.mem_of_getElem? hx)
      have hT : T[x.toNat]? = some T[x.toNat] := List.getElem?_eq_getElem hr.2
      have := order_closed (T := T ++ [ps]) (i := x.toNat) (ps := T[x.toNat]) (by rw [List.getElem?_append_left hr.2]; exact hT) (fun p hp => by
        have := ho.ready t x hx _ hT p hp
        obtain ⟨s, hs⟩ := List.getElem?_of_mem this
        rw [List.getElem?_take] at hs
        split at hs
        · next h => exact ih s h p hs
        · cases hs)
      rwa [Int.toNat_of_nonneg hr.1] at this
  have hold : ∀ i : Nat, i < T.length → (i : Int) ∈ order (T ++ [ps]) := fun i hi => by
    obtain ⟨t, ht⟩ := List.getElem?_of_mem (ho.mem_of_full hf hi)
    exact hin t _ ht
  have hnew : (T.length : Int) ∈ order (T ++ [ps]) := order_closed (ps := ps) (by simp) fun p hp => by
    have := hps p hp
    have h2 := hold p.toNat (by omega)
    rwa [Int.toNat_of_nonneg this.1] at h2
  have h1 := (order_ord (T ++ [ps])).le
  simp at h1
  have hnd : ((List.range (T.length + 1)).map (fun i : Nat => (i : Int))).Nodup := by
    unfold List.Nodup
    rw [List.pairwise_map]
    refine List.Pairwise.imp (fun {a b} hab e => hab (by omega)) List.nodup_range
  have h2 := sub_len _ (order (T ++ [ps])) hnd fun x hx => by
    obtain ⟨i, hi, rfl⟩ := List.mem_map.1 hx
    rw [List.mem_range] at hi
    by_cases e : i = T.length
    · subst e; exact hnew
    · exact hold i (by omega)
  simp at h2
  omega

/-- the glyph that is added -/
def zzNew : ByteArray := ⟨#[122, 122, 46, 110, 101, 119]⟩
def newG (k : Nat) : Gl := ⟨zzNew, 60000, 0, [], [((k : Int), ((7 : Int), (-9 : Int)))], [], ⟨#[]⟩⟩
theorem newG_ok {k : Nat} (hk : k < 40) : glyphOk (newG k) = true := by
  have h1 : nameB zzNew = true := by decide
  have h2 : inB (k : Int) 0 39 = true := inB_iff.2 ⟨by omega, by omega⟩
  have h3 : ptOk 7 (-9) = true := by decide
  have h4 : partOk ((k : Int), ((7 : Int), (-9 : Int))) = true := by unfold partOk; rw [h2, h3]; rfl
  have h5 : outOk [] = true := by decide
  have h6 : anchsOk [] = true := by decide
  have h7 : inB 60000 (-1) 65535 = true := by decide
  have h8 : inB 0 0 262144 = true := by decide
  unfold glyphOk newG
  simp only [h1, h5, h6, h7, h8, List.all_cons, List.all_nil, h4]
  rfl
theorem tgts_snoc (L : List Gl) (k : Nat) : tgts (L ++ [newG k]) = tgts L ++ [[(k : Int)]] := by simp [tgts, newG]
theorem set_snoc {u : Int} {L : List Gl} {k : Nat} (hok : setOk ⟨u, L⟩ = true) (hl : L.length < 40) (hk : k < L.length) (hc : L.any (fun b => clash b (newG k)) = false) : setOk ⟨u, L ++ [newG k]⟩ = true := by
  have hp := hok
  simp only [setOk, Bool.and_eq_true, decide_eq_true_eq] at hp
  obtain ⟨⟨⟨h1, h2⟩, h3⟩, h4⟩ := hp
  rw [set_eq (s := ⟨u, L ++ [newG k]⟩) h1 (by simp; omega) ?_]
  · rw [decide_eq_true_eq]
    show (order (tgts (L ++ [newG k]))).length = (L ++ [newG k]).length
    rw [tgts_snoc, order_snoc (by rw [h4, tgts_length]) (fun p hp => by
      rw [List.mem_singleton] at hp; subst hp; rw [tgts_length]; omega), tgts_length]
    simp
  · rw [List.all_eq_true]
    intro j hj
    rw [List.mem_range] at hj
    simp only [List.length_append, List.length_singleton] at hj
    show glAt (L ++ [newG k]) j = true
    by_cases hjn : j < L.length
    · have e : (L ++ [newG k])[j]? = some L[j] := by rw [List.getElem?_append_left hjn]; exact List.getElem?_eq_getElem hjn
      have := range_at h3 hjn
      rw [glAt_eq (List.getElem?_eq_getElem hjn)] at this
      rw [glAt_eq e, List.take_append_of_le_length (by omega)]
      exact this
    · have hj' : j = L.length := by omega
      subst hj'
      have e : (L ++ [newG k])[L.length]? = some (newG k) := by simp
      rw [glAt_eq e, newG_ok (by omega), List.take_left' rfl]
      show glFree L (newG k) = true
      unfold glFree
      rw [List.any_eq_false] at hc
      rw [List.all_eq_true]
      intro b hb
      have := hc b hb
      simpa using this
theorem find_new {L : List Gl} {k : Nat} (hc : L.any (fun b => clash b (newG k)) = false) : findG (L ++ [newG k]) (fun g : Gl => decide ((0 : Int) ≤ 60000) && decide (g.code = 60000)) = L.length := by
  refine findG_hit (k := L.length) (g := newG k) (by simp) rfl fun b hb => ?_
  rw [List.take_left' rfl] at hb
  rw [List.any_eq_false] at hc
  have hcb := hc b hb
  by_cases h : b.code = 60000
  · exact absurd (show clash b (newG k) = true by unfold clash newG; rw [h]; simp) hcb
  · simp [h]
theorem ancF_bd6 {L : List Gl} {nm : ByteArray} {out : List Int} (ho : Ord (tgts L) out) (h1 : ∀ g ∈ L, ∀ p ∈ g.parts, InSq 600 p.2) (h2 : ∀ g ∈ L, ∀ a ∈ g.anchors, InSq 600 a.2) : ∀ (t : Nat) (x : Int), out[t]? = some x → BdP (600 * ((t : Int) + 1)) (ancF L nm out x) := by
  refine memF_ind (Q := fun t x o => BdP (600 * ((t : Int) + 1)) o) ho fun t x D hx hD q hq => ?_
  cases hg : L[x.toNat]? with
  | none => rw [ancG_none hg] at hq; cases hq
  | some g =>
    rw [ancG_eq hg] at hq
    unfold orP at hq
    rcases anc_cases g.anchors nm with ⟨_, hn⟩ | ⟨k, a, _, ha, hn⟩
    · rw [hn] at hq
      obtain ⟨p, hp, q', hd, rfl⟩ := ancP_some hq
      have hpin := ho.ready t x hx _ (tgts_at hg) p.1 (List.mem_map_of_mem (f := (·.1)) hp)
      obtain ⟨s, hs, hb⟩ := hD p.1 hpin
      have hb := hb q' hd
      have hpo := h1 g (List.mem_of_getElem? hg) p hp
      have hpo1 := hpo.1
      have hpo2 := hpo.2
      simp only
      omega
    · rw [hn] at hq
      injection hq with hq
      subst hq
      have hao := h2 g (List.mem_of_getElem? hg) a (List.mem_of_getElem? ha)
      have hao1 := hao.1
      have hao2 := hao.2
      omega
theorem ask_in {d : GSet} {x : Int} (h : setOk d = true) (h0 : 0 ≤ x) (h1 : x < d.gl.length) : askR d x = 0 := by unfold askR; rw [if_pos h, if_pos ⟨h0, h1⟩]
theorem anch_plain {u : Int} {L : List Gl} {k : Nat} (hok : setOk ⟨u, L ++ [newG k]⟩ = true) (hl : L.length ≤ 7) (hk : k < L.length) (h1 : ∀ g ∈ L, ∀ p ∈ g.parts, InSq 600 p.2) (h2 : ∀ g ∈ L, ∀ a ∈ g.anchors, InSq 600 a.2) (nm : ByteArray) :
    (ancR ⟨u, L ++ [newG k]⟩ k nm = (0, 0, 3) ∧ ancR ⟨u, L ++ [newG k]⟩ L.length nm = (0, 0, 3)) ∨ ∃ x y : Int, (-10000 ≤ x ∧ x ≤ 10000) ∧ (-10000 ≤ y ∧ y ≤ 10000) ∧ ancR ⟨u, L ++ [newG k]⟩ k nm = (x, y, 0) ∧ ancR ⟨u, L ++ [newG k]⟩ L.length nm = (x + 7, y + -9, 0) := by
  have hfull := (set_is hok).2.2
  have hlen : (L ++ [newG k]).length = L.length + 1 := by simp
  have ho := order_ord (tgts (L ++ [newG k]))
  have hle := ho.le
  rw [tgts_length, hlen] at hle
  obtain ⟨t, ht⟩ := ord_at hfull (x := (k : Int)) (by omega) (by show (k : Int) < ((L ++ [newG k]).length : Nat); rw [hlen]; omega)
  obtain ⟨s, hs⟩ := ord_at hfull (x := (L.length : Int)) (by omega) (by show (L.length : Int) < ((L ++ [newG k]).length : Nat); rw [hlen]; omega)
  have hn : ancF (L ++ [newG k]) nm (order (tgts (L ++ [newG k]))) L.length = orP (ancPt [] nm) (ancP (ancF (L ++ [newG k]) nm (order (tgts (L ++ [newG k])))) [((k : Int), ((7 : Int), (-9 : Int)))]) :=
    ancF_is ho hs (g := newG k) (by simp)
  have hb := ancF_bd6 (nm := nm) ho (fun g hg p hp => by
      rcases List.mem_append.1 hg with h | h
      · exact h1 g h p hp
      · rw [List.mem_singleton] at h; subst h
        simp only [newG, List.mem_singleton] at hp
        subst hp
        exact ⟨⟨by simp, by simp⟩, ⟨by simp, by simp⟩⟩) (fun g hg a ha => by
      rcases List.mem_append.1 hg with h | h
      · exact h2 g h a ha
      · rw [List.mem_singleton] at h; subst h
        simp [newG] at ha) t k ht
  have htl : t < L.length + 1 := Nat.lt_of_lt_of_le (List.getElem?_eq_some_iff.1 ht).1 hle
  have b1 : ((k : Nat) : Int) < (((L ++ [newG k]).length : Nat) : Int) := by rw [hlen]; omega
  have b2 : ((L.length : Nat) : Int) < (((L ++ [newG k]).length : Nat) : Int) := by rw [hlen]; omega
  have a1 : askR ⟨u, L ++ [newG k]⟩ (k : Int) = 0 := ask_in hok (Int.natCast_nonneg _) b1
  have a2 : askR ⟨u, L ++ [newG k]⟩ (L.length : Int) = 0 := ask_in hok (Int.natCast_nonneg _) b2
  rw [ancR_ok a1, ancR_ok a2]
  simp only
  rw [hn]
  have he : ancPt [] nm = none := rfl
  rw [he]
  simp only [orP, ancP]
  cases hq : ancF (L ++ [newG k]) nm (order (tgts (L ++ [newG k]))) k with
  | none => exact .inl ⟨rfl, rfl⟩
  | some q =>
    have hb := hb q hq
    refine .inr ⟨q.1, q.2, by omega, by omega, ?_, ?_⟩
    · simp only
      rw [if_pos (ptOk_iff.2 (by omega))]
    · simp only
      rw [if_pos (ptOk_iff.2 (by omega))]
theorem addR_new {d : GSet} {k : Nat} (hok : setOk d = true) (hl : d.gl.length ≤ 7) (hk : k < d.gl.length) :
    addR d (newG k) = (⟨0, []⟩, 4) ∨ addR d (newG k) = (⟨d.unit, d.gl ++ [newG k]⟩, 0) ∧ d.gl.any (fun b => clash b (newG k)) = false := by
  cases hc : d.gl.any (fun b => clash b (newG k)) with
  | true => exact .inl (add_4 hok (newG_ok (by omega)) hc)
  | false =>
    refine .inr ⟨add_0 hok (newG_ok (by omega)) hc ?_ (by omega), rfl⟩
    simp [newG]
    omega
end Go.Proofs.Ytgnjohkfgllhmaa

/- The law on anchors: its walk. Conditions: as it states. -/
namespace Go.Proofs.Ytgnjohkfgllhmaa
open Go.RowKit
set_option linter.unusedVariables false
set_option maxRecDepth 100000
set_option maxRecDepth 100000

theorem a2At_any (A : Option Addr) (n c lo hi : Nat) (L : List Int) (k : Nat) (m : Int) (w : World) (hr : RdS 1 u8R w lo hi A n L) (hn : n ≤ 1000000000) (hk : k ≤ 1000) (hm0 : 1 ≤ m) (hm1 : m ≤ 1000000) :
    Calls Try.prog 9 #[.slice A n c, .int .i64 (k : Int), .int .i64 m] w fun e w' => ∃ r : Int, e = .returned (.int .i64 r) ∧ 0 ≤ r ∧ r < m ∧ w = w' := by
  by_cases hlt : k < n
  · obtain ⟨b1, o1, v, rfl, _, hbw, hv0, hv1, q0⟩ := u8_at hr hlt
    clear hr
    have hki : (0 : Int) ≤ (k : Int) ∧ (k : Int) < (n : Int) := by omega
    have hv := Int.emod_nonneg v (show m ≠ 0 by omega)
    have hv' := Int.emod_lt_of_pos v (show 0 < m by omega)
    go_enter Try.func9, Try.ntmps9
    go_wp2_with fail
    go_ret
    exact ⟨_, rfl, hv, hv', rfl⟩
  · clear hr
    go_enter Try.func9, Try.ntmps9
    go_wp2_with fail
    go_ret
    exact ⟨0, rfl, by omega, by omega, rfl⟩
theorem a2Long_any (A0 : Option Addr) (n0 c0 : Nat) (b : Bool) (hb : b = decide ((3000 : Int) < (n0 : Int))) (w : World) (h0 : n0 ≤ 9223372036854775807) :
    Calls Try.prog 7 #[.slice A0 n0 c0, .slice none 0 0] w fun e w' => e = .returned (.bool b) ∧ w = w' := by
  replace hb := Lib.hid hb
  by_cases h2 : (3000 : Int) < (n0 : Int)
  all_goals
    go_enter Try.func7, Try.ntmps7
    go_wp2_with fail
    go_ret
    exact ⟨ret_bool (by rw [hb.out]; simp [h2]), rfl⟩
theorem newG_sm {k : Nat} : (newG k).small 1048576 := ⟨by simp [newG], by simp [newG], by simp [newG], by simp [newG]⟩
theorem newG_str {k : Nat} : (newG k).str := ⟨by show 6 ≤ maxLen; simp [maxLen], by show 0 ≤ maxLen; simp [maxLen], by simp [newG]⟩

set_option maxHeartbeats 16000000 in
theorem lawAnchors_walk (A0 : Option Addr) (n0 c0 : Nat) (L0 : List Int) {w : World} (hr0 : RdS 1 u8R w 0 w.heap.size A0 n0 L0) (hm0 : n0 ≤ maxLen) :
    Calls Try.prog 3 #[.slice A0 n0 c0] w fun e w' => e = .returned (.bool true) ∧ Below w.heap.size w w' := by
  unfold maxLen at hm0
  obtain ⟨b, hb⟩ : ∃ b : Bool, b = decide ((3000 : Int) < (n0 : Int)) := ⟨_, rfl⟩
  have hlong := Lib.hid (a2Long_any A0 n0 c0 b hb w (by omega))
  cases b
  rotate_left
  · clear hb hr0
    go_enter Try.func3, Try.ntmps3
    go_wp2_with fail
    refine hlong.out.mono ?_
    rintro e w' ⟨rfl, rfl⟩
    go_wp2_with fail
    go_ret
    exact ⟨rfl, Below.refl _ _⟩
  have hn0 : n0 ≤ 3000 := by simp at hb; omega
  clear hb
  have hset := Lib.hid (A2Set_any A0 n0 c0 0 w.heap.size L0 w hr0 (Nat.le_refl _) (by omega))
  have hat := Lib.hid (fun (m : Int) (W : World) (hb : Below w.heap.size w W) (h0 : 1 ≤ m) (h1 : m ≤ 7) => a2At_any A0 n0 c0 0 w.heap.size L0 0 m W (hr0.frame good_u8 (Below.sameB hb (Nat.le_refl _))) (by omega) (by omega) h0 (by omega))
  clear hr0
  go_enter Try.func3, Try.ntmps3
  go_wp2_with fail
  refine hlong.out.mono ?_
  rintro e w' ⟨rfl, rfl⟩
  go_wp2_with fail
  refine hset.out.mono ?_
  rintro e w1 ⟨d, A, n, c, ys, hs, iv, rfl, hok, hl, hdr, hx, hB1⟩
  have hlen : d.gl.length = n := hx.1
  have hn7 : n ≤ 7 := by omega
  replace hx := Lib.hid hx
  replace hok := Lib.hid hok
  replace hdr := Lib.hid hdr
  have hz1 := hB1.size
  have hHX := Lib.hid (heap_alloc_new w1 (.cells #[.int .i64 d.unit, .slice A n c] 26 (0, 0)))
  have hB2 := Lib.hid (hB1.trans ((Go.Joins.below_alloc1 w1 (.cells #[.int .i64 d.unit, .slice A n c] 26 (0, 0))).mono hz1))
  replace hlen := Lib.hid hlen
  clear hB1 hlong hset hl
  by_cases hn1 : n = 0
  · subst hn1
    clear hat
    go_wp2_with fail
    go_ret
    exact ⟨rfl, hB2.out⟩
  have hni : ¬ (n : Int) = 0 := by omega
  have hati := Lib.hid (hat.out (n : Int) _ hB2.out (by omega) (by omega))
  clear hat
  go_wp2_with fail
  refine hati.out.mono ?_
  rintro e w2 ⟨r, rfl, hr0, hrn, rfl⟩
  obtain ⟨k, rfl⟩ : ∃ k : Nat, r = (k : Int) := ⟨r.toNat, by omega⟩
  have hkn : k < n := by omega
  clear hati
  go_wp2_with fail
  obtain ⟨W3, hW3⟩ : ∃ W, W = ((w1.alloc (.cells #[.int .i64 d.unit, .slice A n c] 26 (0, 0))).alloc (.cells #[.int .i64 (k : Int), .int .i64 7, .int .i64 (-9)] 32 (0, 0))).alloc (.cells #[.string ⟨#[122, 122, 46, 110, 101, 119]⟩, .int .i64 60000, .int .i64 0, .slice none 0 0, .slice (some ⟨w1.heap.size + 1, 0, none⟩) 1 1, .slice none 0 0, .string ⟨#[]⟩] 39 (0, 0)) := ⟨_, rfl⟩
  have hW1 : Below w1.heap.size w1 W3 := by rw [hW3]; exact (((Below.refl _ _).alloc (Nat.le_refl _) _).alloc (by simp) _).alloc (by simp <;> omega) _
  have hWl : w1.heap.size + 3 ≤ W3.heap.size := by rw [hW3]; simp
  have hP : W3.ownsRow (w1.heap.size + 1) 32 3 (.slice (some ⟨w1.heap.size + 1, 0, none⟩) 1 1) 1 [.int .i64 (k : Int), .int .i64 7, .int .i64 (-9)] := by
    have := (World.ownsRow_lit (e := 32) (size := 3) (w1.alloc (.cells #[.int .i64 d.unit, .slice A n c] 26 (0, 0))) #[.int .i64 (k : Int), .int .i64 7, .int .i64 (-9)] 1 (Nat.le_refl _) (by decide) (by simp)).alloc (.cells #[.string ⟨#[122, 122, 46, 110, 101, 119]⟩, .int .i64 60000, .int .i64 0, .slice none 0 0, .slice (some ⟨w1.heap.size + 1, 0, none⟩) 1 1, .slice none 0 0, .string ⟨#[]⟩] 39 (0, 0))
    rw [hW3]
    simpa using this
  have hgr : GlRd W3 0 W3.heap.size (newG k) ⟨⟨none, 0, 0⟩, ⟨some ⟨w1.heap.size + 1, 0, none⟩, 1, 1⟩, ⟨none, 0, 0⟩⟩ := ⟨⟨rfl, fun h => absurd h (Nat.lt_irrefl 0)⟩, (rdS_own partC_len (by omega) hP rfl).wide (good_flat _) (Nat.zero_le _) (Nat.le_refl _), ⟨rfl, fun h => absurd h (Nat.lt_irrefl 0)⟩⟩
  have hsr : GSetRc W3 0 W3.heap.size d ⟨⟨A, n, c⟩⟩ := ((hx.out.rdc fun g hg => (hdr.out g hg).outSm).frame good_glyphc (Below.sameB hW1 (Nat.le_refl _))).wide good_glyphc (Nat.zero_le _) (by omega)
  have hBW : Below w.heap.size w W3 := by
    rw [hW3]
    exact (hB2.out.alloc (by simp; omega) _).alloc (by simp; omega) _
  have hAdd := Lib.hid (fun (R : GSet × Int) (hR : R = addR d (newG k)) => implAdd_any d (newG k) ⟨⟨A, n, c⟩⟩ ⟨⟨none, 0, 0⟩, ⟨some ⟨w1.heap.size + 1, 0, none⟩, 1, 1⟩, ⟨none, 0, 0⟩⟩ R hR 0 W3.heap.size W3 hsr hgr (Nat.le_refl _) ⟨by have := hlen.out; omega, fun g hg => ((setOk_sm hok.out).2 g hg).small⟩ newG_sm (fun g hg => (hdr.out g hg).str) newG_str (Nat.le_refl 0))
  have hW3' := Lib.hid hBW
  have hpl := Lib.hid (anch_plain (u := d.unit) (L := d.gl) (k := k))
  have hRR := addR_new (k := k) hok.out (by have := hlen.out; omega) (by have := hlen.out; omega)
  replace hW3 := Lib.hid hW3
  clear hP hgr hsr hBW hB2 hHX
  rw [← hW3.out]
  clear hW3
  rcases hRR with hR | ⟨hR, hcl⟩
  · have hA := Lib.hid (hAdd.out _ hR.symm)
    clear hAdd hpl
    refine hA.out.mono ?_
    rintro e w4 ⟨A', n', c', ys', hs', iv', rfl, -, hb4⟩
    have hB4 := Lib.hid (hW3'.out.trans (hb4.mono hW3'.out.size))
    clear hb4 hA hW3'
    go_wp2_with fail
    go_ret
    exact ⟨rfl, hB4.out.alloc (hB4.out.size) _⟩
  · obtain ⟨t, ht⟩ : ∃ t : GSet, t = ⟨d.unit, d.gl ++ [newG k]⟩ := ⟨_, rfl⟩
    have htg : t.gl = d.gl ++ [newG k] := by rw [ht]
    have hld := hlen.out
    have hok2 : setOk t = true := by rw [ht]; exact set_snoc hok.out (by omega) (by omega) hcl
    have hfd : ((n : Int), true) = foundR t (fun g : Gl => decide ((0 : Int) ≤ 60000) && decide (g.code = 60000)) := by
      have hf := find_new hcl
      rw [found_hit hok2 (by rw [htg, hf]; omega), htg, hf, hld]
    have hmT : t.small 1000000000 := ⟨by rw [htg]; simp; omega, fun g hg => ((setOk_sm hok2).2 g hg).small.mono (by decide)⟩
    have hsT : ∀ g ∈ t.gl, g.str := fun g hg => by
      rw [htg] at hg
      rcases List.mem_append.1 hg with h | h
      · exact (hdr.out g h).str
      · rw [List.mem_singleton] at h; subst h; exact newG_str
    have hsm : ∀ g ∈ t.gl, OutSm g.out := fun g hg => ((setOk_sm hok2).2 g hg).outSm
    have hpp := hpl.out (by rw [← ht]; exact hok2) (by omega) (by omega) (fun g hg => (hdr.out g hg).pm) (fun g hg => (hdr.out g hg).am) ⟨#[116, 111, 112]⟩
    rw [← ht, hld] at hpp
    have hA := Lib.hid (hAdd.out (t, 0) (by rw [hR, ht]))
    clear hAdd hpl hR hcl
    replace hok2 := Lib.hid hok2
    replace hfd := Lib.hid hfd
    replace hpp := Lib.hid hpp
    replace hmT := Lib.hid hmT
    replace hsT := Lib.hid hsT
    replace ht := Lib.hid ht
    replace htg := Lib.hid htg
    clear hld
    refine hA.out.mono ?_
    rintro e w4 ⟨A', n', c', ys', hs', iv', rfl, hx', hb4⟩
    have hrc := Lib.hid (hx'.rdc hsm)
    have hz4 := hb4.size
    have hB4 := Lib.hid (hW3'.out.trans (hb4.mono hW3'.out.size))
    have hB5 := Lib.hid (hB4.out.alloc (hB4.out.size) (.cells #[.int .i64 t.unit, .slice A' n' c'] 26 (0, 0)))
    have hY := Lib.hid (heap_alloc_new w4 (.cells #[.int .i64 t.unit, .slice A' n' c'] 26 (0, 0)))
    have hT : Hid (GSetRc (w4.alloc (.cells #[.int .i64 t.unit, .slice A' n' c'] 26 (0, 0))) 0 (w4.alloc (.cells #[.int .i64 t.unit, .slice A' n' c'] 26 (0, 0))).heap.size t ⟨⟨A', n', c'⟩⟩) := (hrc.out.frame good_glyphc ((SameB.refl _ _ w4).alloc (Nat.le_refl _) _)).wide good_glyphc (Nat.zero_le _) (by simp)
    have hzl : (w4.alloc (.cells #[.int .i64 t.unit, .slice A' n' c'] 26 (0, 0))).heap.size = w4.heap.size + 1 := by simp
    clear hx' hsm hrc hA hb4
    go_wp2_with fail
    generalize w4.alloc (.cells #[.int .i64 t.unit, .slice A' n' c'] 26 (0, 0)) = W5 at *
    have hz5 : w4.heap.size < W5.heap.size := by omega
    refine (implGlyphOfChar_any t ⟨⟨A', n', c'⟩⟩ 60000 n true hfd.out 0 W5.heap.size W5 hT.out (Nat.le_refl _) hmT.out hsT.out).mono ?_
    rintro e w6 ⟨rfl, hb6⟩
    clear hzl
    have hY6 := (hb6.block _ hz5).trans hY.out
    have y0 : w6.cell? ⟨w4.heap.size, 0, none⟩ = some (.int .i64 t.unit) := by rw [Go.Joins.cell_of_block hY6]; rfl
    have y1 : w6.cell? ⟨w4.heap.size, 1, none⟩ = some (.slice A' n' c') := by rw [Go.Joins.cell_of_block hY6]; rfl
    have hT6 : GSetRc w6 0 W5.heap.size t ⟨⟨A', n', c'⟩⟩ := hT.out.frame good_glyphc (Below.sameB hb6 (Nat.le_refl _))
    have hz6 := hb6.size
    have hV := Lib.hid (specValidGS_any t ⟨⟨A', n', c'⟩⟩ true hok2.out.symm 0 W5.heap.size w6 hT6.rd hz6 hmT.out hsT.out)
    have hB6 := Lib.hid (hB5.out.trans (hb6.mono hB5.out.size))
    replace hb6 := Lib.hid hb6
    replace hY6 := Lib.hid hY6
    replace hT6 := Lib.hid hT6
    clear hY
    go_wp2_with fail
    refine hV.out.mono ?_
    rintro e w7 ⟨rfl, hb7⟩
    obtain ⟨r0, r1, r2, s0, s1, s2, p1, p2, hcase⟩ : ∃ r0 r1 r2 s0 s1 s2 : Int, (r0, r1, r2) = ancR t k ⟨#[116, 111, 112]⟩ ∧ (s0, s1, s2) = ancR t n ⟨#[116, 111, 112]⟩ ∧ (r2 = 3 ∧ s2 = 3 ∨ r2 = 0 ∧ s2 = 0 ∧ s0 = r0 + 7 ∧ s1 = r1 + -9 ∧ (-10000 ≤ r0 ∧ r0 ≤ 10000) ∧ -10000 ≤ r1 ∧ r1 ≤ 10000) := by
      rcases hpp.out with ⟨p1, p2⟩ | ⟨x, y, hx, hy, p1, p2⟩
      · exact ⟨_, _, _, _, _, _, p1.symm, p2.symm, .inl ⟨rfl, rfl⟩⟩
      · exact ⟨_, _, _, _, _, _, p1.symm, p2.symm, .inr ⟨rfl, rfl, rfl, rfl, hx, hy⟩⟩
    replace hcase := Lib.hid hcase
    replace p1 := Lib.hid p1
    replace p2 := Lib.hid p2
    have hzq : w4.heap.size < w6.heap.size := by omega
    have hY7 := Lib.hid ((hb7.block _ hzq).trans hY6.out)
    have y0 : w7.cell? ⟨w4.heap.size, 0, none⟩ = some (.int .i64 t.unit) := by rw [Go.Joins.cell_of_block hY7.out]; rfl
    have y1 : w7.cell? ⟨w4.heap.size, 1, none⟩ = some (.slice A' n' c') := by rw [Go.Joins.cell_of_block hY7.out]; rfl
    have hz7 := hb7.size
    have hT7 : Hid (GSetRc w7 0 W5.heap.size t ⟨⟨A', n', c'⟩⟩) := hT6.out.frame good_glyphc (Below.sameB hb7 (by omega))
    have hB7 := Lib.hid (hB6.out.trans (hb7.mono hB6.out.size))
    have hc1 := Lib.hid (implAnchorOf_any t ⟨⟨A', n', c'⟩⟩ k ⟨#[116, 111, 112]⟩ r0 r1 r2 p1.out 0 W5.heap.size w7 hT7.out (by omega) hmT.out hsT.out)
    clear hb7 hV hY6 hT6 hB6 hb6 hpp
    go_wp2_with fail
    refine hc1.out.mono ?_
    rintro e w8 ⟨rfl, hb8⟩
    have hz8 := hb8.size
    have hzq7 : w4.heap.size < w7.heap.size := by omega
    have hY8 := (hb8.block _ hzq7).trans hY7.out
    have hzb : (w8.alloc (.cells #[.int .i64 r0, .int .i64 r1] 30 (0, 0))).heap.size = w8.heap.size + 1 := by simp
    have hbb : Below w8.heap.size w8 (w8.alloc (.cells #[.int .i64 r0, .int .i64 r1] 30 (0, 0))) := Go.Joins.below_alloc1 _ _
    have hPt := Lib.hid (heap_alloc_new w8 (.cells #[.int .i64 r0, .int .i64 r1] 30 (0, 0)))
    have hY9 := Lib.hid ((hbb.block _ (by omega)).trans hY8)
    have hT9 : Hid (GSetRc (w8.alloc (.cells #[.int .i64 r0, .int .i64 r1] 30 (0, 0))) 0 W5.heap.size t ⟨⟨A', n', c'⟩⟩) := (hT7.out.frame good_glyphc (Below.sameB hb8 (by omega))).frame good_glyphc (Below.sameB hbb (by omega))
    have hB9 := Lib.hid ((hB7.out.trans (hb8.mono hB7.out.size)).trans (hbb.mono (by have := hB7.out.size; omega)))
    have hc2 := Lib.hid (implAnchorOf_any t ⟨⟨A', n', c'⟩⟩ n ⟨#[116, 111, 112]⟩ s0 s1 s2 p2.out 0 W5.heap.size _ hT9.out (by omega) hmT.out hsT.out)
    have y0 : (w8.alloc (.cells #[.int .i64 r0, .int .i64 r1] 30 (0, 0))).cell? ⟨w4.heap.size, 0, none⟩ = some (.int .i64 t.unit) := by rw [Go.Joins.cell_of_block hY9.out]; rfl
    have y1 : (w8.alloc (.cells #[.int .i64 r0, .int .i64 r1] 30 (0, 0))).cell? ⟨w4.heap.size, 1, none⟩ = some (.slice A' n' c') := by rw [Go.Joins.cell_of_block hY9.out]; rfl
    have e0 : w8.cell? ⟨w4.heap.size, 0, none⟩ = some (.int .i64 t.unit) := by rw [Go.Joins.cell_of_block hY8]; rfl
    have e1 : w8.cell? ⟨w4.heap.size, 1, none⟩ = some (.slice A' n' c') := by rw [Go.Joins.cell_of_block hY8]; rfl
    have hzq8 : w4.heap.size < w8.heap.size := by omega
    clear hb8 hc1 hY7 hT7 hB7 hbb hzb hY8
    go_wp2_with fail
    refine hc2.out.mono ?_
    rintro e w10 ⟨rfl, hb10⟩
    have hPl : w8.heap.size < w10.heap.size := by have := hb10.size; simp at this; omega
    have hP10 := (hb10.block w8.heap.size (by simp)).trans hPt.out
    have g0 : w10.cell? ⟨w8.heap.size, 0, none⟩ = some (.int .i64 r0) := by rw [Go.Joins.cell_of_block hP10]; rfl
    have g1 : w10.cell? ⟨w8.heap.size, 1, none⟩ = some (.int .i64 r1) := by rw [Go.Joins.cell_of_block hP10]; rfl
    have hB10 := Lib.hid (hB9.out.trans (hb10.mono hB9.out.size))
    clear hb10 hc2 hPt hY9 hT9 hB9 hP10
    rcases hcase.out with ⟨rfl, rfl⟩ | ⟨rfl, rfl, rfl, rfl, ⟨hx1, hx2⟩, hy1, hy2⟩
    · clear hcase
      go_wp2_with fail
      go_ret
      exact ⟨rfl, hB10.out.alloc hB10.out.size _⟩
    · clear hcase
      go_wp2_with fail
      go_ret
      exact ⟨ret_bool (beq_iff_eq.2 (by omega)), hB10.out.alloc hB10.out.size _⟩
end Go.Proofs.Ytgnjohkfgllhmaa

