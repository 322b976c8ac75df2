/- The depth of a glyph: both sides. Conditions: as each states. -/
import Derived.BigQuiet
import Derived.StillTailTactics
import Derived.IntWalk
import Derived.Maps.Ext
import Derived.Test.YtgdkabljgabjoaaGreatDoorGw17
namespace Go.Proofs.YtgdkabljgabjoaaGreatDoor
open Go.RowKit
set_option linter.unusedVariables false
set_option maxRecDepth 100000

def depR (d : GSet) (x : Int) : Int × Int := (if askR d x = 0 then depF (tgts d.gl) (order (tgts d.gl)) x else 0, askR d x)
theorem DepR.drew {w : World} {lo B n : Nat} {D : Nat → Int} (h : DepR w lo B n D) : DepR w.drew lo B n D := by
  obtain ⟨ys, h1, h2⟩ := h
  exact ⟨ys, h1.drew, h2⟩
theorem DepR.drewN {w : World} {lo B n : Nat} {D : Nat → Int} (h : DepR w lo B n D) (q : Nat) : DepR (w.drewN q) lo B n D := h
end Go.Proofs.YtgdkabljgabjoaaGreatDoor

/- The depth of a glyph: the program's side. Conditions: as it states. -/
namespace Go.Proofs.YtgdkabljgabjoaaGreatDoor
open Go.RowKit
set_option linter.unusedVariables false
set_option maxRecDepth 100000

theorem set_parts {d : GSet} (h : setOk d = true) : ∀ g ∈ d.gl, g.parts.length ≤ 6 ∧ ∀ q ∈ g.parts, 0 ≤ q.1 ∧ q.1 < (d.gl.length : Int) := fun g hg => by
  obtain ⟨h1, h2, h3⟩ := set_is h
  refine ⟨(glyph_is (h2 g hg)).2.1, fun q hq => ?_⟩
  obtain ⟨j, hj⟩ := List.getElem?_of_mem hg
  have := (order_ord (tgts d.gl)).parts_lt (by rw [h3, tgts_length]) (tgts_at hj) (List.mem_map_of_mem (f := (·.1)) hq)
  rw [tgts_length] at this
  omega

set_option maxHeartbeats 2000000 in
theorem implGlyphDepth_any (d : GSet) (h : GSetH) (x0 : Int) (r0 r1 : Int) (heq : (r0, r1) = depR d x0) (lo hi : Nat) (w : World) (hr : GSetRc w lo hi d h) (hhi : hi ≤ w.heap.size) (hm : d.small 1000000000) (hs : ∀ g ∈ d.gl, g.str) :
    Calls Tryz.prog 21 #[gsV d h, .int .i64 x0] w fun e w' => e = .returned (.tuple #[.int .i64 r0, .int .i64 r1]) ∧ Below w.heap.size w w' := by
  have hB0 : Below w.heap.size w (w.alloc (.cells #[.int .i64 d.unit, .slice h.gl.A h.gl.n h.gl.c] 36 (0, 0))) := Go.Joins.below_alloc1 _ _
  have k1 : (w.alloc (.cells #[.int .i64 d.unit, .slice h.gl.A h.gl.n h.gl.c] 36 (0, 0))).cell? ⟨w.heap.size, 1, none⟩ = some (.slice h.gl.A h.gl.n h.gl.c) := by rw [Go.Joins.cell_of_block (heap_alloc_new w _)]; rfl
  have hz : w.heap.size < (w.alloc (.cells #[.int .i64 d.unit, .slice h.gl.A h.gl.n h.gl.c] 36 (0, 0))).heap.size := by simp
  obtain ⟨q, hq⟩ : ∃ q, q = askR d x0 := ⟨_, rfl⟩
  have hc := Lib.hid (checkGlyph_any d h x0 q hq lo hi (w.alloc (.cells #[.int .i64 d.unit, .slice h.gl.A h.gl.n h.gl.c] 36 (0, 0))) (hr.frame good_glyphc (Below.sameB hB0 hhi)) (Nat.le_trans hhi hB0.size) hm hs)
  have hcs := ask_cases d x0
  unfold depR at heq
  rw [← hq] at hcs heq
  injection heq with e0 e1
  by_cases hq0 : q = 0
  rotate_left
  · rw [if_neg hq0] at e0
    subst e0 e1
    have hq1 : r1 = 1 ∨ r1 = 2 := by omega
    replace hq := Lib.hid hq
    clear hr hm hs hcs k1 hq0
    rcases hq1 with rfl | rfl
    all_goals
      go_enter Tryz.func21, Tryz.ntmps21
      go_wp2_with fail
      refine hc.out.mono ?_
      rintro e w1 ⟨rfl, hb1⟩
      go_wp2_with fail
      go_ret2
      exact ⟨rfl, hB0.trans (hb1.mono hB0.size)⟩
  · rw [if_pos hq0] at e0
    obtain ⟨_, hok, hx0, hxn⟩ : q = 0 ∧ setOk d = true ∧ 0 ≤ x0 ∧ x0 < d.gl.length := by rcases hcs with h1 | h1 | h1; omega; omega; exact h1
    subst hq0
    subst e1
    have hl := hr.1
    have hps := set_parts hok
    rw [hl] at hps hxn
    have hfull : true = decide ((order (tgts d.gl)).length = h.gl.n) := by rw [(set_is hok).2.2, hl]; simp
    have hn40 : h.gl.n ≤ 40 := by rw [← hl]; exact (set_is hok).1
    have hcd := Lib.hid (fun (W : World) (hB : Below w.heap.size w W) => depthsOf_any h.gl.A h.gl.n h.gl.c lo hi d.gl true hfull W (GsRc.rd (hr.frame good_glyphc (Below.sameB hB hhi))) (Nat.le_trans hhi hB.size) hn40 hps)
    replace e0 := Lib.hid e0
    replace hl := Lib.hid hl
    replace hq := Lib.hid hq
    clear hr hm hs hcs hok hps hfull
    go_enter Tryz.func21, Tryz.ntmps21
    go_wp2_with fail
    refine hc.out.mono ?_
    rintro e w1 ⟨rfl, hb1⟩
    have hB1 := hB0.trans (hb1.mono hB0.size)
    have k2 := (hb1.cell (p := ⟨w.heap.size, 1, none⟩) hz).trans k1
    have hz1 : w.heap.size < w1.heap.size := Nat.lt_of_lt_of_le hz hb1.size
    clear hc k1
    go_wp2_with fail
    refine (hcd.out _ hB1).mono ?_
    rintro e w2 ⟨A', m, c', rfl, hyes, hb2⟩
    obtain ⟨rfl, rfl, rfl, hdep⟩ := hyes rfl
    obtain ⟨c1, _, _⟩ := hdep.at (j := x0.toNat) (by omega)
    rw [show ((x0.toNat : Nat) : Int) = x0 by omega, ← e0.out] at c1
    have hX := hdep.lt
    clear hdep hyes
    go_wp2_with fail
    go_ret2
    exact ⟨rfl, hB1.trans (hb2.mono hB1.size)⟩
end Go.Proofs.YtgdkabljgabjoaaGreatDoor

/- The number of loops of a glyph: the reference's side. Conditions: as each states. -/
namespace Go.Proofs.YtgdkabljgabjoaaGreatDoor
open Go.RowKit
set_option linter.unusedVariables false
set_option maxRecDepth 100000

def cntR (d : GSet) (x : Int) : Int × Int := (if askR d x = 0 then cntF d.gl (order (tgts d.gl)) x else 0, askR d x)
end Go.Proofs.YtgdkabljgabjoaaGreatDoor

/- The number of loops of a glyph: both sides. Conditions: as each states. -/
namespace Go.Proofs.YtgdkabljgabjoaaGreatDoor
open Go.RowKit Go.Maps
set_option linter.unusedVariables false
set_option maxRecDepth 100000

/-! ### the program's side: a map that remembers -/
theorem MapF.tight {α : Type} {E : ElemRd α} {w : World} {P : Program} {k : TypeId} {b n : Nat} {f : Lit → Option α} (h : MapF E w P k b n f) (K : Keyed P k) {N : Nat} (hs : ∀ kl, (f kl).isSome = true → ∃ j : Nat, j < N ∧ kl = .int .i64 j) : MapF E w P k b N f := by
  obtain ⟨D, h1, h2, h3⟩ := h
  obtain ⟨es, hD, hsort, hkeys⟩ := h1.canon K
  obtain ⟨ms, clock, hb, F, hsz, hDm⟩ := h1
  refine ⟨D, ⟨ms, clock, hb, F, ?_, hDm⟩, h2, h3⟩
  have hlen : ms.size = es.length := by
    rw [hDm] at hD
    injection hD with hD
    rw [← hD, length_sorted]; simp
  rw [hlen]
  have hmem : ∀ p ∈ es, ∃ j : Nat, j < N ∧ p.1 = .int .i64 j := fun p hp => by
    refine hs p.1 ?_
    have hh : Maps.has D p.1 = true := by
      rw [hD]
      exact List.any_eq_true.2 ⟨p, hp, WideAt.sameKey_self (hkeys p hp)⟩
    rw [← hh]
    cases hf : f p.1 with
    | none => rw [has_false_of_atKey fun z => by rw [h3, hf]; rfl] at hh; cases hh
    | some a => exact hh.symm
  have hap := apart_of_rising hsort
  have hnd : (es.map fun p => match p.1 with | .int _ a => a.toNat | _ => 0).Nodup := by
    unfold List.Nodup
    rw [List.pairwise_map]
    refine List.Pairwise.imp_of_mem (fun {a b} ha hb hne => ?_) hap
    obtain ⟨j, _, ej⟩ := hmem a ha
    obtain ⟨j', _, ej'⟩ := hmem b hb
    rw [ej, ej'] at hne ⊢
    intro e
    simp at e
    exact hne (by rw [e])
  have := nodup_le hnd (n := N) fun x hx => by
    obtain ⟨p, hp, rfl⟩ := List.mem_map.1 hx
    obtain ⟨j, hj, ej⟩ := hmem p hp
    rw [ej]; simpa using hj
  simpa using this

/-- what is remembered is right -/
def MemOk (C : Int → Int) (n : Nat) (f : Lit → Option Int) : Prop := ∀ kl v, f kl = some v → ∃ j : Nat, j < n ∧ kl = .int .i64 j ∧ v = C j
theorem MemOk.none (C : Int → Int) (n : Nat) : MemOk C n (fun _ => none) := fun kl v h => by cases h
theorem MemOk.put {C : Int → Int} {n : Nat} {f : Lit → Option Int} (h : MemOk C n f) {x : Int} (h0 : 0 ≤ x) (h1 : x < n) : MemOk C n (putF f (.int .i64 x) (C x)) := fun kl v hv => by
  by_cases e : kl = .int .i64 x
  · subst e
    rw [putF_same _ (by trivial)] at hv
    injection hv with hv
    exact ⟨x.toNat, by omega, by rw [show ((x.toNat : Nat) : Int) = x by omega], by rw [show ((x.toNat : Nat) : Int) = x by omega, hv]⟩
  · rw [putF_ne _ e] at hv
    exact h kl v hv
def LcEnd (C : Int → Int) (n bm : Nat) (x : Int) (W w' : World) (e : Ending) : Prop := ∃ f', e = .returned (.int .i64 (C x)) ∧ MapF intE w' Tryz.prog 2 bm 40 f' ∧ MemOk C n f' ∧ W.grownBy w' (some bm)
theorem zeroI64 (w : World) : (zeroValue 2).run Tryz.prog w = .ok (.int .i64 0) w := by kernel_rfl
theorem cntF_is {L : List Gl} {out : List Int} (ho : Ord (tgts L) out) {t : Nat} {x : Int} (hx : out[t]? = some x) {g : Gl} (hg : L[x.toNat]? = some g) (hg12 : g.out.length ≤ 12) : cntF L out x = cntM (cntF L out) g.out.length g.parts := by
  rw [cnt_M _ _ _ (by omega) fun p _ => (cntF_bd L out p.1).1]
  unfold cntF
  rw [memF_at (cntG_loc L) ho hx (tgts_at hg), cntG_eq hg]
end Go.Proofs.YtgdkabljgabjoaaGreatDoor

