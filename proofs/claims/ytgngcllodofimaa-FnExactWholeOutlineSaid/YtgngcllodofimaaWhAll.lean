
import Derived.Deep.RegionHeld3
import Derived.Test.YtgngcllodofimaaRec
import Derived.Test.YtgngcllodofimaaCopyW
import Derived.Test.YtgngcllodofimaaRegT
import Derived.Test.YtgngcllodofimaaOutM
import Derived.Test.YtgngcllodofimaaLcAll
import Derived.Test.YtgngcllodofimaaOutE
import Derived.Test.YtgngcllodofimaaMkAll
/- The whole outline of a glyph: its own loops and those of its parts, moved. No walk in sight. Conditions: as each states. -/
namespace Go.Proofs.Ytgngcllodofimaa
set_option linter.unusedVariables false
set_option maxRecDepth 100000

def movP (m : Int × Int) (q : Knot) : Knot := (q.1 + m.1, q.2.1 + m.2, q.2.2)
/-- of one glyph, given those of its parts -/
def wholeG (L : List Gl) (C : Int → Int) (D : Int → Int × Int → List (List Knot)) (x : Int) : Int × Int → List (List Knot) := match L[x.toNat]? with
  | some g => fun m => g.out.map (List.map (movP m)) ++ g.parts.flatMap fun p => if 0 < C p.1 then D p.1 (m.1 + p.2.1, m.2 + p.2.2) else []
  | none => fun _ => []
theorem wholeG_eq {L : List Gl} {g : Gl} {x : Int} (h : L[x.toNat]? = some g) (C : Int → Int) (D : Int → Int × Int → List (List Knot)) : wholeG L C D x = fun m => g.out.map (List.map (movP m)) ++ g.parts.flatMap fun p => if 0 < C p.1 then D p.1 (m.1 + p.2.1, m.2 + p.2.2) else [] := by unfold wholeG; rw [h]
theorem flatMap_congr' {α β : Type} {f g : α → List β} {l : List α} (h : ∀ a ∈ l, f a = g a) : l.flatMap f = l.flatMap g := by
  induction l with
  | nil => rfl
  | cons a l ih => rw [List.flatMap_cons, List.flatMap_cons, h a List.mem_cons_self, ih fun b hb => h b (List.mem_cons_of_mem _ hb)]
theorem wholeG_loc (L : List Gl) (C : Int → Int) : Loc (tgts L) (wholeG L C) := by
  intro D E x ps hps hD
  obtain ⟨g, hg, rfl⟩ := tgts_get hps
  rw [wholeG_eq hg, wholeG_eq hg]
  funext m
  congr 1
  refine flatMap_congr' fun p hp => ?_
  rw [hD p.1 (List.mem_map_of_mem (f := (·.1)) hp)]
def wholeF (L : List Gl) (C : Int → Int) (out : List Int) : Int → Int × Int → List (List Knot) := memF (wholeG L C) (fun _ => []) out
theorem wholeF_at {L : List Gl} {C : Int → Int} {out : List Int} (ho : Ord (tgts L) out) {t : Nat} {x : Int} (hx : out[t]? = some x) {g : Gl} (hg : L[x.toNat]? = some g) (m : Int × Int) :
    wholeF L C out x m = g.out.map (List.map (movP m)) ++ g.parts.flatMap fun p => if 0 < C p.1 then wholeF L C out p.1 (m.1 + p.2.1, m.2 + p.2.2) else [] := by
  have hps : (tgts L)[x.toNat]? = some (g.parts.map (·.1)) := by unfold tgts; rw [List.getElem?_map, hg]; rfl
  unfold wholeF
  rw [memF_at (wholeG_loc L C) ho hx hps, wholeG_eq hg]
theorem cntF_at {L : List Gl} {out : List Int} (ho : Ord (tgts L) out) {t : Nat} {x : Int} (hx : out[t]? = some x) {g : Gl} (hg : L[x.toNat]? = some g) : cntF L out x = min (cntS (cntF L out) g.out.length g.parts) 13 := by
  have hps : (tgts L)[x.toNat]? = some (g.parts.map (·.1)) := by unfold tgts; rw [List.getElem?_map, hg]; rfl
  unfold cntF
  rw [memF_at (cntG_loc L) ho hx hps, cntG_eq hg]
/-- the part stands ahead of the glyph in the order -/
theorem part_at {L : List Gl} {out : List Int} (ho : Ord (tgts L) out) {t : Nat} {x : Int} (hx : out[t]? = some x) {g : Gl} (hg : L[x.toNat]? = some g) {p : Part} (hp : p ∈ g.parts) : ∃ s, s < t ∧ out[s]? = some p.1 := by
  have hps : (tgts L)[x.toNat]? = some (g.parts.map (·.1)) := by unfold tgts; rw [List.getElem?_map, hg]; rfl
  have hm := ho.ready t x hx _ hps p.1 (List.mem_map_of_mem (f := (·.1)) hp)
  obtain ⟨s, hs⟩ := List.getElem?_of_mem hm
  have hst : s < t := by
    have := (List.getElem?_eq_some_iff.1 hs).1
    rw [List.length_take] at this; omega
  rw [List.getElem?_take_of_lt hst] at hs
  exact ⟨s, hst, hs⟩
theorem sum_parts (C : Int → Int) (W : Int → Int × Int → List (List Knot)) (m : Int × Int) (ps : List Part) (h : ∀ p ∈ ps, ∀ m', C p.1 ≤ 12 → ((W p.1 m').length : Int) = C p.1) (h0 : ∀ p ∈ ps, 0 ≤ C p.1) (a : Int) (ha : 0 ≤ a) (hs : cntS C a ps ≤ 12) :
    a + ((ps.flatMap fun p => if 0 < C p.1 then W p.1 (m.1 + p.2.1, m.2 + p.2.2) else []).length : Int) = cntS C a ps := by
  induction ps generalizing a with
  | nil => simp [cntS]
  | cons p ps ih =>
    have hp0 := h0 p List.mem_cons_self
    have e : cntS C a (p :: ps) = cntS C (a + C p.1) ps := rfl
    rw [e] at hs ⊢
    have hmono : a + C p.1 ≤ cntS C (a + C p.1) ps := by
      have hb : ∀ (qs : List Part) (b : Int), (∀ q ∈ qs, 0 ≤ C q.1) → b ≤ cntS C b qs := by
        intro qs
        induction qs with
        | nil => intro b _; exact Int.le_refl _
        | cons q qs ih2 =>
          intro b hq
          have h1 := hq q List.mem_cons_self
          have h2 := ih2 (b + C q.1) fun r hr => hq r (List.mem_cons_of_mem _ hr)
          show b ≤ cntS C (b + C q.1) qs
          omega
      exact hb ps _ fun q hq => h0 q (List.mem_cons_of_mem _ hq)
    have h1 := ih (fun q hq => h q (List.mem_cons_of_mem _ hq)) (fun q hq => h0 q (List.mem_cons_of_mem _ hq)) (a + C p.1) (by omega) hs
    rw [← h1, List.flatMap_cons, List.length_append]
    by_cases hc : 0 < C p.1
    · rw [if_pos hc]
      have h2 := h p List.mem_cons_self (m.1 + p.2.1, m.2 + p.2.2) (by omega)
      push_cast
      omega
    · rw [if_neg hc]
      have : C p.1 = 0 := by omega
      simp only [List.length_nil]
      push_cast
      omega
/-- as many loops as are counted, where these are not too many -/
theorem wholeF_len {L : List Gl} {out : List Int} (ho : Ord (tgts L) out) : ∀ (t : Nat) (x : Int), out[t]? = some x → (∃ g, L[x.toNat]? = some g) → (∀ (t' : Nat) (y : Int), out[t']? = some y → ∃ g, L[y.toNat]? = some g) → ∀ (m : Int × Int), cntF L out x ≤ 12 → ((wholeF L (cntF L out) out x m).length : Int) = cntF L out x := by
  intro t
  induction t using Nat.strongRecOn with
  | _ t ih =>
    intro x hx ⟨g, hg⟩ hall m hc
    rw [wholeF_at ho hx hg, cntF_at ho hx hg, List.length_append, List.length_map]
    rw [cntF_at ho hx hg] at hc
    have hs : cntS (cntF L out) g.out.length g.parts ≤ 12 := by omega
    have h1 := sum_parts (cntF L out) (wholeF L (cntF L out) out) m g.parts (fun p hp m' hcp => by
      obtain ⟨s, hst, hso⟩ := part_at ho hx hg hp
      exact ih s hst p.1 hso (hall s p.1 hso) hall m' hcp) (fun p _ => (cntF_bd L out p.1).1) g.out.length (by omega) hs
    push_cast
    omega
/-- what a part has is no more than what the glyph has -/
theorem part_le {L : List Gl} {out : List Int} (ho : Ord (tgts L) out) {t : Nat} {x : Int} (hx : out[t]? = some x) {g : Gl} (hg : L[x.toNat]? = some g) (hc : cntF L out x ≤ 12) {p : Part} (hp : p ∈ g.parts) : cntF L out p.1 ≤ 12 := by
  rw [cntF_at ho hx hg] at hc
  have hs : cntS (cntF L out) g.out.length g.parts ≤ 12 := by omega
  have hb : ∀ (qs : List Part) (b : Int), p ∈ qs → 0 ≤ b → (∀ q ∈ qs, 0 ≤ cntF L out q.1) → cntF L out p.1 ≤ cntS (cntF L out) b qs := by
    intro qs
    induction qs with
    | nil => intro b h; cases h
    | cons q qs ih =>
      intro b hm hb0 hq
      have hq0 := hq q List.mem_cons_self
      show _ ≤ cntS (cntF L out) (b + cntF L out q.1) qs
      rcases List.mem_cons.1 hm with rfl | hm
      · have := (cntS_bd (cntF L out) (b + cntF L out p.1) qs 13 fun q _ => cntF_bd L out q.1).1
        omega
      · exact ih _ hm (by omega) fun r hr => hq r (List.mem_cons_of_mem _ hr)
  have := hb g.parts g.out.length hp (by omega) fun q _ => (cntF_bd L out q.1).1
  omega
end Go.Proofs.Ytgngcllodofimaa

/- The whole outline of a glyph: the reference's walk. Printed by mk_whs.py. Conditions: as each states. -/
namespace Go.Proofs.Ytgngcllodofimaa
open Go.RowKit
set_option linter.unusedVariables false
set_option maxRecDepth 100000

theorem OutTo.more {w : World} {lo k co : Nat} {Ao : Option Addr} {ys : List Value} {Ls Ls' : List (List Knot)} (h : OutTo w lo Ao k co ys Ls) (he : ∀ j, j < k → Ls'[j]? = Ls[j]?) : OutTo w lo Ao k co ys Ls' := ⟨h.1, fun j K hj hK => h.2.1 j K hj (by rw [← he j hj]; exact hK), h.2.2⟩
/-- the loops so far: the box X of their slice, and the rows above it -/
def WO (w : World) (X Z : Nat) (Lr : List (List Knot)) (Ao : Option Addr) (co : Nat) (ys : List Value) : Prop := OutTo w Z Ao Lr.length co ys Lr ∧ w.heap[X]? = some (.cells #[.slice Ao Lr.length co] 46 (0, 0)) ∧ X < w.heap.size ∧ Z ≤ X
theorem WO.below {w w' : World} {X Z co : Nat} {Lr : List (List Knot)} {Ao : Option Addr} {ys : List Value} (h : WO w X Z Lr Ao co ys) (hb : Below w.heap.size w w') : WO w' X Z Lr Ao co ys :=
  ⟨h.1.kept hb, (hb.block X h.2.2.1).trans h.2.1, Nat.lt_of_lt_of_le h.2.2.1 hb.size, h.2.2.2⟩
theorem OutTo.setOther {w : World} {Z k co X : Nat} {Ao : Option Addr} {ys : List Value} {Ls : List (List Knot)} {cs : Array Value} (h : OutTo w Z Ao k co ys Ls) (hX : w.heap[X]? = some (.cells cs 46 (0, 0))) (j : Nat) (u : Value) : OutTo (w.setCell ⟨X, j, none⟩ u) Z Ao k co ys Ls := by
  obtain ⟨h1, h2, h3⟩ := h
  have ne1 : (Value.slice Ao k co).ownBlock ≠ some X := fun e => by
    obtain ⟨cc, hcc⟩ := own_kind h1 e
    rw [hX] at hcc
    injection hcc with hcc
    injection hcc with _ h5 _
    exact absurd h5 (by decide)
  refine ⟨ownsRow_setCell_other h1 ne1 _, fun i K hi hK => ?_, h3⟩
  obtain ⟨Aj, cj, h4, h6⟩ := h2 i K hi hK
  refine ⟨Aj, cj, h4, ownsRow_setCell_other h6 (fun e => ?_) _⟩
  obtain ⟨cc, hcc⟩ := own_kind h6 e
  rw [hX] at hcc
  injection hcc with hcc
  injection hcc with _ h5 _
  exact absurd h5 (by decide)
/-- no block but X and those of loops has changed -/
def FrT (X : Nat) (w w' : World) : Prop := ∀ (b : Nat) (cs : Array Value) (ty : TypeId), w.heap[b]? = some (.cells cs ty (0, 0)) → b ≠ X → ty ≠ 145 → w'.heap[b]? = some (.cells cs ty (0, 0))
theorem FrT.refl (X : Nat) (w : World) : FrT X w w := fun b cs ty h _ _ => h
theorem FrT.trans {X : Nat} {a b c : World} (h : FrT X a b) (k : FrT X b c) : FrT X a c := fun g cs ty h1 h2 h3 => k g cs ty (h g cs ty h1 h2 h3) h2 h3
theorem FrT.below {X : Nat} {w a b : World} (h : FrT X w a) (hb : Below a.heap.size a b) : FrT X w b := fun g cs ty h1 h2 h3 => by
  have h4 := h g cs ty h1 h2 h3
  have hlt := (Array.getElem?_eq_some_iff.1 h4).1
  exact (hb.block g hlt).trans h4
theorem FrT.grown {X lo size n : Nat} {w a b : World} {v : Value} {xs : List Value} (h : FrT X w a) (ho : a.ownsRow lo 145 size v n xs) (hg : a.grownBy b v.ownBlock) : FrT X w b := fun g cs ty h1 h2 h3 => by
  have h4 := h g cs ty h1 h2 h3
  have hlt := (Array.getElem?_eq_some_iff.1 h4).1
  refine (hg.block g hlt fun e => ?_).trans h4
  obtain ⟨cc, hcc⟩ := own_kind ho e.symm
  rw [h4] at hcc
  injection hcc with hcc
  injection hcc with _ h5 _
  exact h3 h5
theorem FrT.setX {X j : Nat} {w a : World} (h : FrT X w a) (u : Value) : FrT X w (a.setCell ⟨X, j, none⟩ u) := fun g cs ty h1 h2 h3 => (Below.heap_setCell _ _ _ _ (by simp; exact h2)).trans (h g cs ty h1 h2 h3)
theorem take_snoc {α : Type} {L : List α} {k : Nat} {a : α} (h : L[k]? = some a) : L.take (k + 1) = L.take k ++ [a] := by
  rw [List.take_add_one, h]; rfl
/-- what the walk asks of each glyph -/
def GlB (g : Gl) : Prop := g.out.length ≤ 12 ∧ (∀ K ∈ g.out, K.length ≤ 60 ∧ ∀ q ∈ K, (-262144 ≤ q.1 ∧ q.1 ≤ 262144) ∧ (-262144 ≤ q.2.1 ∧ q.2.1 ≤ 262144)) ∧ g.parts.length ≤ 6 ∧ ∀ r ∈ g.parts, (-262144 ≤ r.2.1 ∧ r.2.1 ≤ 262144) ∧ (-262144 ≤ r.2.2 ∧ r.2.2 ≤ 262144)

set_option maxHeartbeats 16000000 in
theorem l17Whole_any (p o Bc : Nat) (A : Option Addr) (n c lo hi : Nat) (L : List Gl) (out : List Int) (ho : Ord (tgts L) out) (hl : L.length = n) (hn : n ≤ 40) (hB : ∀ g ∈ L, GlB g) :
    ∀ (t : Nat) (x m1 m2 : Int) (X Z : Nat) (Lr : List (List Knot)) (Ao : Option Addr) (co : Nat) (ys : List Value) (w : World), out[t]? = some x → cntF L out x ≤ 12 → (Lr.length : Int) + cntF L out x ≤ 12 →
    (-1000000 * (100 - (t : Int)) ≤ m1 ∧ m1 ≤ 1000000 * (100 - (t : Int))) → (-1000000 * (100 - (t : Int)) ≤ m2 ∧ m2 ≤ 1000000 * (100 - (t : Int))) →
    w.cell? ⟨p, o + 1, none⟩ = some (.slice A n c) → (∀ j : Nat, j < n → w.cell? ⟨Bc, j, none⟩ = some (.int .i64 (cntF L out j))) → GsRd w lo hi A n L → hi ≤ Z → p < Z → Bc < Z → WO w X Z Lr Ao co ys →
    Calls Try.prog 179 #[.pointer (some ⟨p, o, none⟩), .slice (some ⟨Bc, 0, none⟩) n n, .int .i64 x, .agg #[.int .i64 m1, .int .i64 m2], .pointer (some ⟨X, 0, none⟩)] w fun e w' =>
      e = .returned (.tuple #[]) ∧ (∃ Ao' co' ys', WO w' X Z (Lr ++ wholeF L (cntF L out) out x (m1, m2)) Ao' co' ys') ∧ Below Z w w' ∧ FrT X w w' := by
  replace ho := Lib.hid ho
  replace hB := Lib.hid hB
  replace hl := Lib.hid hl
  intro t
  induction t using Nat.strongRecOn with
  | ind t ih =>
    intro x m1 m2 X Z Lr Ao co ys w hx hc12 hr12 hm1 hm2 hcp hcB hr hhi hpX hBX hw
    replace ih := Lib.hid ih
    obtain ⟨hx0, hxn⟩ := ho.out.rng x (List.mem_of_getElem? hx)
    rw [tgts_length, hl.out] at hxn
    have htl : t < 40 := by
      have h1 := ho.out.le
      have h2 := (List.getElem?_eq_some_iff.1 hx).1
      rw [tgts_length, hl.out] at h1
      omega
    obtain ⟨b1, f1, d, hh, rfl, hb0, hb1, hja, hcs, hrg⟩ := gs_at hr hxn
    have hxe : ((x.toNat : Nat) : Int) = x := by omega
    have q3 := hcs 3 _ rfl
    have q4 := hcs 4 _ rfl
    obtain ⟨xn, hxn'⟩ : ∃ xn, xn = x.toNat := ⟨_, rfl⟩
    rw [← hxn'] at q3 q4 hxe hxn
    have hxi : (xn : Int) < (n : Int) := by omega
    have hwe := wholeF_at (C := cntF L out) ho.out hx hja (m1, m2)
    obtain ⟨hg1, hg2, hg3, hg4⟩ := hB.out d (List.mem_of_getElem? hja)
    have hall : ∀ (t' : Nat) (y : Int), out[t']? = some y → ∃ g, L[y.toNat]? = some g := fun t' y hy => by
      obtain ⟨h0, h1⟩ := ho.out.rng y (List.mem_of_getElem? hy)
      rw [tgts_length] at h1
      exact ⟨_, List.getElem?_eq_getElem h1⟩
    have hlen := wholeF_len ho.out t x hx ⟨d, hja⟩ hall (m1, m2) hc12
    replace hall := Lib.hid hall
    have hol := hrg.1.1
    have hnb := Lib.hid (heap_alloc_new w (.cells #[.int .i64 m1, .int .i64 m2] 25 (0, 0)))
    have hw1 := hw.below (Go.Joins.below_alloc1 w (.cells #[.int .i64 m1, .int .i64 m2] 25 (0, 0)))
    have hXw := hw.2.2.1
    have hZX := hw.2.2.2
    subst hxe
    replace hcs := Lib.hid hcs
    replace hwe := Lib.hid hwe
    replace hlen := Lib.hid hlen
    replace hja := Lib.hid hja
    replace hrg := Lib.hid hrg
    replace hr := Lib.hid hr
    replace hcB := Lib.hid hcB
    replace hx := Lib.hid hx
    replace hg2 := Lib.hid hg2
    replace hg4 := Lib.hid hg4
    replace hw1 := Lib.hid hw1
    replace hxn' := Lib.hid hxn'
    have hpw : p < w.heap.size := by omega
    have hb1w : b1 < w.heap.size := by omega
    go_enter Try.func179, Try.ntmps179
    go_wp2_with fail
    generalize hw0 : w.alloc (.cells #[.int .i64 m1, .int .i64 m2] 25 (0, 0)) = w0 at *
    have hz0 : w0.heap.size = w.heap.size + 1 := by rw [← hw0]; simp
    have hb00 : Below w.heap.size w w0 := by rw [← hw0]; exact Go.Joins.below_alloc1 _ _
    have hzl : w0.heap.size ≤ w.heap.size + 1 := by omega
    have hzg : w.heap.size + 1 ≤ w0.heap.size := by omega
    clear hw0 hz0
    have hdn : d.out.length = hh.out.n := hol
    go_loopw [11] (fun i wr => ∃ (k : Nat) (Ao1 : Option Addr) (co1 : Nat) (ys1 : List Value), i = .int .i64 k ∧ k ≤ hh.out.n ∧ WO wr X Z (Lr ++ (d.out.take k).map (List.map (movP (m1, m2)))) Ao1 co1 ys1 ∧ Below Z w wr ∧ wr.heap[w.heap.size]? = some (.cells #[.int .i64 m1, .int .i64 m2] 25 (0, 0)) ∧ w.heap.size + 1 ≤ wr.heap.size ∧ FrT X w wr) (fun i wr => hh.out.n - (intOf i).toNat)
    case atStart =>
      exact ⟨0, Ao, co, ys, rfl, Nat.zero_le _, by simpa using hw1.out, hb00.mono (by omega), hnb.out, hzg, (FrT.refl X w).below hb00⟩
    case round =>
      clear hw1 hnb
      obtain ⟨k, Ao1, co1, ys1, rfl, hk, hwo, hbel, HP, hz5, hfr⟩ := hrel
      obtain ⟨w5, hw5⟩ : ∃ v, v = wr := ⟨_, rfl⟩
      subst hw5
      replace HP := Lib.hid HP
      replace hfr := Lib.hid hfr
      have c3 : w5.cell? ⟨b1, f1 + xn * 7 + 3, none⟩ = some (.slice hh.out.A hh.out.n hh.out.c) := (hbel.cell (by simp; omega)).trans q3
      have hb1r : b1 < w5.heap.size := by omega
      by_cases hlt : k < hh.out.n
      · obtain ⟨b3, f3, K, A2, n2, c2, hA, hb30, hb3h, hka, qk, hmx, hrk⟩ := out_at hrg.out.1 hlt
        have hn2 := hrk.1
        subst hn2
        rw [hA] at c3
        have qkr : w5.cell? ⟨b3, f3 + k, none⟩ = some (.slice A2 K.length c2) := (hbel.cell (by simp; omega)).trans qk
        have hb3w : b3 < w5.heap.size := by omega
        obtain ⟨hKl, hKc⟩ := hg2.out K (List.mem_of_getElem? hka)
        have hst := Lib.hid (take_snoc hka)
        have hki : (k : Int) < (hh.out.n : Int) := by omega
        have hlb : w5.heap.size < (w5.alloc (.cells #[.slice none 0 0] 145 (0, 0))).heap.size := by simp
        replace hwo := Lib.hid hwo
        replace hka := Lib.hid hka
        replace hrk := Lib.hid hrk
        replace hKc := Lib.hid hKc
        go_wp2_with fail
        clear qkr hb3w
        go_loopw [14] (fun i wr => ∃ (q : Nat) (Al : Option Addr) (cl : Nat), i = .int .i64 q ∧ q ≤ K.length ∧ wr.heap[w5.heap.size]? = some (.cells #[.slice Al q cl] 145 (0, 0)) ∧ wr.ownsRow (w5.heap.size + 1) 147 3 (.slice Al q cl) q (((K.map (movP (m1, m2))).take q).flatMap knotC) ∧ w5.heap.size + 1 ≤ wr.heap.size ∧ Below w5.heap.size w5 wr) (fun i wr => K.length - (intOf i).toNat)
        case atStart =>
          exact ⟨0, none, 0, rfl, Nat.zero_le _, heap_alloc_new w5 _, World.ownsRow_nil _ _ _ _, by simp, Go.Joins.below_alloc1 _ _⟩
        case round =>
          clear hlb
          obtain ⟨q, Al, cl, rfl, hq, HL, hrow, hzr, hbi⟩ := hrel
          replace HL := Lib.hid HL
          replace hrow := Lib.hid hrow
          by_cases hql : q < K.length
          · have hbX : Below Z w wr := hbel.trans (hbi.mono (by omega))
            obtain ⟨b2, off2, y, rfl, hb20, hb2h, hy, hcy⟩ := hrk.out.at hql
            have p0 := (hbX.cell (p := ⟨b2, off2 + q * 3 + 0, none⟩) (by simp; omega)).trans (hcy 0 _ rfl)
            have p1 := (hbX.cell (p := ⟨b2, off2 + q * 3 + 1, none⟩) (by simp; omega)).trans (hcy 1 _ rfl)
            have p2 := (hbX.cell (p := ⟨b2, off2 + q * 3 + 2, none⟩) (by simp; omega)).trans (hcy 2 _ rfl)
            simp only [Nat.add_zero] at p0
            obtain ⟨hcx, hcy'⟩ := hKc.out y (List.mem_of_getElem? hy)
            have hyt := take_snoc (L := K.map (movP (m1, m2))) (k := q) (a := movP (m1, m2) y) (by rw [List.getElem?_map, hy]; rfl)
            obtain ⟨y1, y2, z⟩ := y
            dsimp only [movP] at p0 p1 p2 hcx hcy' hyt
            have HPr := (hbi.block w.heap.size (by omega)).trans HP.out
            have cm1 : wr.cell? ⟨w.heap.size, 0, none⟩ = some (.int .i64 m1) := by rw [Go.Joins.cell_of_block HPr]; rfl
            have cm2 : wr.cell? ⟨w.heap.size, 1, none⟩ = some (.int .i64 m2) := by rw [Go.Joins.cell_of_block HPr]; rfl
            have e1 : IntKind.i64.wrap (y1 + m1) = y1 + m1 := IntWalk.i64_in _ (by omega)
            have e2 : IntKind.i64.wrap (y2 + m2) = y2 + m2 := IntWalk.i64_in _ (by omega)
            have hqi : (q : Int) < (K.length : Int) := by omega
            have hq0 : (0 : Int) ≤ (q : Int) := by omega
            have hb2r : b2 < wr.heap.size := by omega
            have hwr : w.heap.size < wr.heap.size := by omega
            replace hyt := Lib.hid hyt
            replace hy := Lib.hid hy
            clear hcy HPr
            go_wp2_with fail
            go_region_held3 (fun w' => w'.cell? ⟨b2, off2 + q * 3, none⟩ = some (.int .i64 y1) ∧ w'.cell? ⟨b2, off2 + q * 3 + 1, none⟩ = some (.int .i64 y2) ∧ w'.cell? ⟨w.heap.size, 0, none⟩ = some (.int .i64 m1) ∧ w'.cell? ⟨w.heap.size, 1, none⟩ = some (.int .i64 m2)) (first | exact ⟨p0, p1, cm1, cm2⟩ | exact ⟨Lib.cell?_alloc_some _ p0, Lib.cell?_alloc_some _ p1, Lib.cell?_alloc_some _ cm1, Lib.cell?_alloc_some _ cm2⟩) (fail)
            go_wp2_with fail
            have hrl : ∀ b, (Value.slice Al q cl).ownBlock = some b → w5.heap.size + 1 ≤ b ∧ b < wr.heap.size := fun b hb => hrow.out.lt b hb
            have hnL : (Value.slice Al q cl).ownBlock ≠ some w5.heap.size := fun e => by have := (hrl _ e).1; omega
            have hnB : (Value.slice Al q cl).ownBlock ≠ some wr.heap.size := fun e => by have := (hrl _ e).2; omega
            have hn2 : (Value.slice Al q cl).ownBlock ≠ some b2 := fun e => by have := (hrl _ e).1; omega
            have hx15 := heap_alloc_new wr (.cells #[.int .i64 (y1 + m1), .int .i64 (y2 + m2)] 25 (0, 0))
            have x0 : (wr.alloc (.cells #[.int .i64 (y1 + m1), .int .i64 (y2 + m2)] 25 (0, 0))).drew.drew.cell? ⟨wr.heap.size, 0, none⟩ = some (.int .i64 (y1 + m1)) := by show (wr.alloc (.cells #[.int .i64 (y1 + m1), .int .i64 (y2 + m2)] 25 (0, 0))).cell? _ = _; rw [Go.Joins.cell_of_block hx15]; rfl
            have x1 : (wr.alloc (.cells #[.int .i64 (y1 + m1), .int .i64 (y2 + m2)] 25 (0, 0))).drew.drew.cell? ⟨wr.heap.size, 1, none⟩ = some (.int .i64 (y2 + m2)) := by show (wr.alloc (.cells #[.int .i64 (y1 + m1), .int .i64 (y2 + m2)] 25 (0, 0))).cell? _ = _; rw [Go.Joins.cell_of_block hx15]; rfl
            have x2 : (wr.alloc (.cells #[.int .i64 (y1 + m1), .int .i64 (y2 + m2)] 25 (0, 0))).drew.drew.cell? ⟨b2, off2 + q * 3 + 2, none⟩ = some (.bool z) := Lib.cell?_alloc_some _ p2
            have HL6 : Hid ((wr.alloc (.cells #[.int .i64 (y1 + m1), .int .i64 (y2 + m2)] 25 (0, 0))).drew.drew.heap[w5.heap.size]? = some (.cells #[.slice Al q cl] 145 (0, 0))) := (Below.heap_alloc _ _ _ (by omega)).trans HL.out
            have x3 : (wr.alloc (.cells #[.int .i64 (y1 + m1), .int .i64 (y2 + m2)] 25 (0, 0))).drew.drew.cell? ⟨w5.heap.size, 0, none⟩ = some (.slice Al q cl) := by show (wr.alloc (.cells #[.int .i64 (y1 + m1), .int .i64 (y2 + m2)] 25 (0, 0))).cell? _ = _; rw [Go.Joins.cell_of_block ((Below.heap_alloc _ _ _ (by omega)).trans HL.out)]; rfl
            have row6 : Hid ((wr.alloc (.cells #[.int .i64 (y1 + m1), .int .i64 (y2 + m2)] 25 (0, 0))).drew.drew.ownsRow (w5.heap.size + 1) 147 3 (.slice Al q cl) q (((K.map (movP (m1, m2))).take q).flatMap knotC)) := World.ownsRow.drew (World.ownsRow.drew (hrow.out.alloc _))
            have hb6 : Below w5.heap.size w5 (wr.alloc (.cells #[.int .i64 (y1 + m1), .int .i64 (y2 + m2)] 25 (0, 0))).drew.drew := (hbi.alloc hbi.size _).drew.drew
            have hz6 : (wr.alloc (.cells #[.int .i64 (y1 + m1), .int .i64 (y2 + m2)] 25 (0, 0))).drew.drew.heap.size = wr.heap.size + 1 := by show (wr.alloc (.cells #[.int .i64 (y1 + m1), .int .i64 (y2 + m2)] 25 (0, 0))).heap.size = _; simp
            have hz6l : (wr.alloc (.cells #[.int .i64 (y1 + m1), .int .i64 (y2 + m2)] 25 (0, 0))).drew.drew.heap.size ≤ wr.heap.size + 1 := by omega
            have hz6g : wr.heap.size + 1 ≤ (wr.alloc (.cells #[.int .i64 (y1 + m1), .int .i64 (y2 + m2)] 25 (0, 0))).drew.drew.heap.size := by omega
            clear hx15 p0 p1 p2 cm1 cm2 hz6 hrl
            obtain ⟨w6, hw6⟩ : ∃ v, v = (wr.alloc (.cells #[.int .i64 (y1 + m1), .int .i64 (y2 + m2)] 25 (0, 0))).drew := ⟨_, rfl⟩
            rw [← hw6]
            rw [← hw6] at x0 x1 x2 x3 HL6 row6 hb6 hz6l hz6g
            replace hw6 := Lib.hid hw6
            have hz6l' : w6.heap.size ≤ wr.heap.size + 1 := hz6l
            have hz6g' : wr.heap.size + 1 ≤ w6.heap.size := hz6g
            refine wp_region_head 11 (fun w' => w'.cell? ⟨w5.heap.size, 0, none⟩ = some (.slice Al q cl) ∧ w'.cell? ⟨wr.heap.size, 0, none⟩ = some (.int .i64 (y1 + m1)) ∧ w'.cell? ⟨wr.heap.size, 1, none⟩ = some (.int .i64 (y2 + m2)) ∧ w'.cell? ⟨b2, off2 + q * 3 + 2, none⟩ = some (.bool z)) (by kernel_rfl) (by kernel_rfl) (by exact ⟨x3, x0, x1, x2⟩) (fun hHeld => ?_)
            simp only [List.take_succ_cons, List.take_zero, List.drop_succ_cons, List.drop_zero]
            refine wpAnyH_take (i := 0) (v := ?_) ((List.getElem?_toArray).trans rfl) (by kernel_rfl) (by kernel_rfl) (by kernel_rfl) (fun _ _ _ h => h) (Or.inl ⟨by rfl, ?_⟩) (by assumption) ?_
            rotate_left
            · (intro w hSw; (try dsimp only at hSw); go_simp; (try (with_reducible rfl)))
            (try simp only [Act.put, List.setIfInBounds_toArray, List.set_cons_zero, List.set_cons_succ])
            refine wpAnyH_take (i := 1) (v := ?_) ((List.getElem?_toArray).trans rfl) (by kernel_rfl) (by kernel_rfl) (by kernel_rfl) (fun _ _ _ h => h) (Or.inl ⟨by rfl, ?_⟩) (by assumption) ?_
            rotate_left
            · (intro w hSw; (try dsimp only at hSw); go_simp; (try (with_reducible rfl)))
            (try simp only [Act.put, List.setIfInBounds_toArray, List.set_cons_zero, List.set_cons_succ])
            refine wpAnyH_take (i := 2) (v := ?_) ((List.getElem?_toArray).trans rfl) (by kernel_rfl) (by kernel_rfl) (by kernel_rfl) (fun _ _ _ h => h) (Or.inl ⟨by rfl, ?_⟩) (by assumption) ?_
            rotate_left
            · (intro w hSw; (try dsimp only at hSw); go_simp; (try (with_reducible rfl)))
            (try simp only [Act.put, List.setIfInBounds_toArray, List.set_cons_zero, List.set_cons_succ])
            refine wpAnyH_take (i := 3) (v := ?_) ((List.getElem?_toArray).trans rfl) (by kernel_rfl) (by kernel_rfl) (by kernel_rfl) (fun _ _ _ h => h) (Or.inl ⟨by rfl, ?_⟩) (by assumption) ?_
            rotate_left
            · (intro w hSw; (try dsimp only at hSw); go_simp; (try (with_reducible rfl)))
            (try simp only [Act.put, List.setIfInBounds_toArray, List.set_cons_zero, List.set_cons_succ])
            refine wpAnyH_take (i := 4) (v := ?_) ((List.getElem?_toArray).trans rfl) (by kernel_rfl) (by kernel_rfl) (by kernel_rfl) (fun _ _ _ h => h) (Or.inl ⟨by rfl, ?_⟩) (by assumption) ?_
            rotate_left
            · (intro w hSw; (try dsimp only at hSw); go_simp; (try (with_reducible rfl)))
            (try simp only [Act.put, List.setIfInBounds_toArray, List.set_cons_zero, List.set_cons_succ])
            refine wpAnyH_take (i := 5) (v := ?_) ((List.getElem?_toArray).trans rfl) (by kernel_rfl) (by kernel_rfl) (by kernel_rfl) (fun _ _ _ h => h) (Or.inl ⟨by rfl, ?_⟩) (by assumption) ?_
            rotate_left
            · (intro w hSw; (try dsimp only at hSw); go_simp; (try (with_reducible rfl)))
            (try simp only [Act.put, List.setIfInBounds_toArray, List.set_cons_zero, List.set_cons_succ])
            refine wpAnyH_take (i := 6) (v := ?_) ((List.getElem?_toArray).trans rfl) (by kernel_rfl) (by kernel_rfl) (by kernel_rfl) (fun _ _ _ h => h) (Or.inl ⟨by rfl, ?_⟩) (by assumption) ?_
            rotate_left
            · (intro w hSw; (try dsimp only at hSw); go_simp; (try (with_reducible rfl)))
            (try simp only [Act.put, List.setIfInBounds_toArray, List.set_cons_zero, List.set_cons_succ])
            refine wpAnyH_take (i := 7) (v := ?_) ((List.getElem?_toArray).trans rfl) (by kernel_rfl) (by kernel_rfl) (by kernel_rfl) (fun _ _ _ h => h) (Or.inl ⟨by rfl, ?_⟩) (by assumption) ?_
            rotate_left
            · (intro w hSw; (try dsimp only at hSw); go_simp; (try (with_reducible rfl)))
            (try simp only [Act.put, List.setIfInBounds_toArray, List.set_cons_zero, List.set_cons_succ])
            refine wpAnyH_take (i := 8) (v := ?_) ((List.getElem?_toArray).trans rfl) (by kernel_rfl) (by kernel_rfl) (by kernel_rfl) (fun _ _ _ h => h) (Or.inl ⟨by rfl, ?_⟩) (by assumption) ?_
            rotate_left
            · (intro w hSw; (try dsimp only at hSw); go_simp; (try (with_reducible rfl)))
            (try simp only [Act.put, List.setIfInBounds_toArray, List.set_cons_zero, List.set_cons_succ])
            refine wpAnyH_ready (rs := [9]) (by kernel_rfl) (by simp) ?_
            refine AllReadyH.cons ((List.getElem?_toArray).trans rfl) (fun K0 hK0 => ?_) AllReadyH.nil
            go_simp
            refine hK0.out _ _ ?_ (fun hHeld => ?_)
            · (exact ⟨Lib.cell?_alloc_some _ x3, Lib.cell?_alloc_some _ x0, Lib.cell?_alloc_some _ x1, Lib.cell?_alloc_some _ x2⟩)
            clear hK0 K0
            (try simp only [Act.put, List.setIfInBounds_toArray, List.set_cons_zero, List.set_cons_succ])
            refine wpAnyH_ready (rs := [10]) (by kernel_rfl) (by simp) ?_
            refine AllReadyH.cons ((List.getElem?_toArray).trans rfl) (fun K0 hK0 => ?_) AllReadyH.nil
            (refine stepAppAt rfl (.tmp 70) (.tmp 78) elemKnot rfl (v := .slice Al q cl) (n := q) (xs := ((K.map (movP (m1, m2))).take q).flatMap knotC) rfl (row6.out.alloc _) rfl (src_at (cs := [.int .i64 (y1 + m1), .int .i64 (y2 + m2), .bool z]) rfl (by simp [Value.oneCell']) (by simp)) (by omega) (by omega) (by first | omega | (simp <;> omega)) (q + 1) rfl ?_; intro A4 c4 w7 ho7 hg7; have hz7 := hg7.size; (try simp at hz7); have HL7 : Hid (w7.heap[w5.heap.size]? = some (.cells #[.slice Al q cl] 145 (0, 0))) := (hg7.block w5.heap.size (by first | omega | (simp <;> omega)) (fun e => hnL e.symm)).trans ((Below.heap_alloc _ _ _ (by omega)).trans HL6.out); have kz0 : w7.cell? ⟨wr.heap.size, 0, none⟩ = some (.int .i64 (y1 + m1)) := (World.cell?_of_block (hg7.block wr.heap.size (by first | omega | (simp <;> omega)) (fun e => hnB e.symm))).trans (Lib.cell?_alloc_some _ x0); have kz1 : w7.cell? ⟨wr.heap.size, 1, none⟩ = some (.int .i64 (y2 + m2)) := (World.cell?_of_block (hg7.block wr.heap.size (by first | omega | (simp <;> omega)) (fun e => hnB e.symm))).trans (Lib.cell?_alloc_some _ x1); have kz2 : w7.cell? ⟨b2, off2 + q * 3 + 2, none⟩ = some (.bool z) := (World.cell?_of_block (hg7.block b2 (by first | omega | (simp <;> omega)) (fun e => hn2 e.symm))).trans (Lib.cell?_alloc_some _ x2); have kz3 : w7.cell? ⟨w5.heap.size, 0, none⟩ = some (.slice Al q cl) := (by rw [Go.Joins.cell_of_block HL7.out]; rfl); have kzf : ∀ o, w7.frozen? ⟨w5.heap.size, o, none⟩ = false := Go.Joins.unfrozen_of_block HL7.out; have hb7 : Hid (Below w5.heap.size w5 w7) := (hb6.alloc hb6.size _).trans (below_app (own_lower (row6.out.alloc _) (by omega)) hg7 (by first | omega | (simp <;> omega))); replace ho7 := Lib.hid ho7; clear hg7)
            refine hK0.out _ _ ?_ (fun hHeld => ?_)
            · (exact ⟨kz3, kz0, kz1, kz2⟩)
            clear hK0 K0
            (try simp only [Act.put, List.setIfInBounds_toArray, List.set_cons_zero, List.set_cons_succ])
            refine wpAnyH_done (by kernel_rfl) ?_ _
            show wpList _ _ _ _ _ _
            go_wp2_with fail
            go_roundw
            case rel =>
              refine ⟨q + 1, A4, c4, by go_num, by omega, Go.Joins.block_setCell HL7.out _, ?_, by simp; omega, hb7.out.setCell (Nat.le_refl _) _⟩
              rw [hyt.out, List.flatMap_append]
              exact ownsRow_setCell_below ho7.out (Nat.lt_succ_self _) _
            case measure => simp [intOf]; omega
          · have hqn : K.length = q := by omega
            have hfin := hrow.out
            have hKm : (K.map (movP (m1, m2))).length = K.length := List.length_map ..
            rw [List.take_of_length_le (by omega)] at hfin
            have cL : wr.drew.cell? ⟨w5.heap.size, 0, none⟩ = some (.slice Al q cl) := by show wr.cell? _ = _; rw [Go.Joins.cell_of_block HL.out]; rfl
            have hwr0 := hwo.out.below hbi
            have HXr := Lib.hid hwr0.2.1
            have cX : wr.drew.cell? ⟨X, 0, none⟩ = some (.slice Ao1 (Lr ++ (d.out.take k).map (List.map (movP (m1, m2)))).length co1) := by show wr.cell? _ = _; rw [Go.Joins.cell_of_block HXr.out]; rfl
            have hlw : w5.heap.size < wr.heap.size := by omega
            have hX5 : Z ≤ w5.heap.size := by have := hwo.out.2.2.1; omega
            replace hfin := Lib.hid hfin
            replace hqn := Lib.hid hqn
            replace hKm := Lib.hid hKm
            replace hwr0 := Lib.hid hwr0
            obtain ⟨N, hN⟩ : ∃ N, N = (Lr ++ (d.out.take k).map (List.map (movP (m1, m2)))).length := ⟨_, rfl⟩
            rw [← hN] at cX HXr
            have hN12 : N ≤ 12 := by
              have h1 := hlen.out
              rw [hwe.out] at h1
              rw [hN]
              simp only [List.length_append, List.length_map, List.length_take] at h1 ⊢
              omega
            replace hN := Lib.hid hN
            have hown := hwr0.out.1.1
            rw [← hN.out] at hown
            have HPr := Lib.hid ((hbi.block w.heap.size (by omega)).trans HP.out)
            have hnX : (Value.slice Ao1 N co1).ownBlock ≠ some X := fun e => by
              obtain ⟨cc, hcc⟩ := own_kind hown e
              rw [HXr.out] at hcc
              injection hcc with hcc
              injection hcc with _ h2 _
              exact absurd h2 (by decide)
            have hnP : (Value.slice Ao1 N co1).ownBlock ≠ some w.heap.size := fun e => by
              obtain ⟨cc, hcc⟩ := own_kind hown e
              rw [HPr.out] at hcc
              injection hcc with hcc
              injection hcc with _ h2 _
              exact absurd h2 (by decide)
            have hnL : (Value.slice Ao1 N co1).ownBlock ≠ some w5.heap.size := fun e => by
              obtain ⟨cc, hcc⟩ := own_kind hown e
              rw [HL.out] at hcc
              injection hcc with hcc
              injection hcc with hcc
              have h3 := (hwo.out.1.1.lt _ (by rw [hN.out] at e; exact e)).2
              omega
            have hownd := Lib.hid (World.ownsRow.drew hown)
            have hwrz : wr.drew.heap.size = wr.heap.size := rfl
            have hzd : wr.heap.size ≤ wr.drew.heap.size := Nat.le_refl _
            have hXr : X < wr.heap.size := hwr0.out.2.2.1
            have hwr1 : w.heap.size < wr.heap.size := by omega
            clear hown
            go_wp2_with fail
            refine wp_region_head 8 (fun w' => w'.cell? ⟨X, 0, none⟩ = some (.slice Ao1 N co1) ∧ w'.cell? ⟨w5.heap.size, 0, none⟩ = some (.slice Al q cl)) (by kernel_rfl) (by kernel_rfl) (by exact ⟨cX, cL⟩) (fun hHeld => ?_)
            simp only [List.take_succ_cons, List.take_zero, List.drop_succ_cons, List.drop_zero]
            refine wpAnyH_take (i := 0) (v := ?_) ((List.getElem?_toArray).trans rfl) (by kernel_rfl) (by kernel_rfl) (by kernel_rfl) (fun _ _ _ h => h) (Or.inl ⟨by rfl, ?_⟩) (by assumption) ?_
            rotate_left
            · (intro w hSw; (try dsimp only at hSw); go_simp; (try (with_reducible rfl)))
            (try simp only [Act.put, List.setIfInBounds_toArray, List.set_cons_zero, List.set_cons_succ])
            refine wpAnyH_take (i := 1) (v := ?_) ((List.getElem?_toArray).trans rfl) (by kernel_rfl) (by kernel_rfl) (by kernel_rfl) (fun _ _ _ h => h) (Or.inl ⟨by rfl, ?_⟩) (by assumption) ?_
            rotate_left
            · (intro w hSw; (try dsimp only at hSw); go_simp; (try (with_reducible rfl)))
            (try simp only [Act.put, List.setIfInBounds_toArray, List.set_cons_zero, List.set_cons_succ])
            refine wpAnyH_take (i := 2) (v := ?_) ((List.getElem?_toArray).trans rfl) (by kernel_rfl) (by kernel_rfl) (by kernel_rfl) (fun _ _ _ h => h) (Or.inl ⟨by rfl, ?_⟩) (by assumption) ?_
            rotate_left
            · (intro w hSw; (try dsimp only at hSw); go_simp; (try (with_reducible rfl)))
            (try simp only [Act.put, List.setIfInBounds_toArray, List.set_cons_zero, List.set_cons_succ])
            refine wpAnyH_take (i := 3) (v := ?_) ((List.getElem?_toArray).trans rfl) (by kernel_rfl) (by kernel_rfl) (by kernel_rfl) (fun _ _ _ h => h) (Or.inl ⟨by rfl, ?_⟩) (by assumption) ?_
            rotate_left
            · (intro w hSw; (try dsimp only at hSw); go_simp; (try (with_reducible rfl)))
            (try simp only [Act.put, List.setIfInBounds_toArray, List.set_cons_zero, List.set_cons_succ])
            refine wpAnyH_take (i := 4) (v := ?_) ((List.getElem?_toArray).trans rfl) (by kernel_rfl) (by kernel_rfl) (by kernel_rfl) (fun _ _ _ h => h) (Or.inl ⟨by rfl, ?_⟩) (by assumption) ?_
            rotate_left
            · (intro w hSw; (try dsimp only at hSw); go_simp; (try (with_reducible rfl)))
            (try simp only [Act.put, List.setIfInBounds_toArray, List.set_cons_zero, List.set_cons_succ])
            refine wpAnyH_take (i := 5) (v := ?_) ((List.getElem?_toArray).trans rfl) (by kernel_rfl) (by kernel_rfl) (by kernel_rfl) (fun _ _ _ h => h) (Or.inl ⟨by rfl, ?_⟩) (by assumption) ?_
            rotate_left
            · (intro w hSw; (try dsimp only at hSw); go_simp; (try (with_reducible rfl)))
            (try simp only [Act.put, List.setIfInBounds_toArray, List.set_cons_zero, List.set_cons_succ])
            refine wpAnyH_ready (rs := [6]) (by kernel_rfl) (by simp) ?_
            refine AllReadyH.cons ((List.getElem?_toArray).trans rfl) (fun K0 hK0 => ?_) AllReadyH.nil
            go_simp
            refine hK0.out _ _ ?_ (fun hHeld => ?_)
            · (exact ⟨Lib.cell?_alloc_some _ cX, Lib.cell?_alloc_some _ cL⟩)
            clear hK0 K0
            (try simp only [Act.put, List.setIfInBounds_toArray, List.set_cons_zero, List.set_cons_succ])
            refine wpAnyH_ready (rs := [7]) (by kernel_rfl) (by simp) ?_
            refine AllReadyH.cons ((List.getElem?_toArray).trans rfl) (fun K0 hK0 => ?_) AllReadyH.nil
            (refine stepAppAt rfl (.tmp 85) (.tmp 87) elemLoop rfl (v := .slice Ao1 N co1) (n := N) (xs := ys1) rfl (hownd.out.alloc _) rfl (src_at (cs := [.slice Al q cl]) rfl (by simp [Value.oneCell']) (by simp)) (by omega) (by omega) (by first | omega | (simp <;> omega)) (N + 1) rfl ?_; intro A4 c4 w7 ho7 hg7; have hz7 := hg7.size; (try simp at hz7); have HX7 : Hid (w7.heap[X]? = some (.cells #[.slice Ao1 N co1] 46 (0, 0))) := (hg7.block X (by first | omega | (simp <;> omega)) (fun e => hnX e.symm)).trans ((Below.heap_alloc _ _ _ (by omega)).trans HXr.out); have HP7 : Hid (w7.heap[w.heap.size]? = some (.cells #[.int .i64 m1, .int .i64 m2] 25 (0, 0))) := (hg7.block w.heap.size (by first | omega | (simp <;> omega)) (fun e => hnP e.symm)).trans ((Below.heap_alloc _ _ _ (by omega)).trans HPr.out); have kz0 : w7.cell? ⟨X, 0, none⟩ = some (.slice Ao1 N co1) := (by rw [Go.Joins.cell_of_block HX7.out]; rfl); have kzf : ∀ o, w7.frozen? ⟨X, o, none⟩ = false := Go.Joins.unfrozen_of_block HX7.out; have kz1 : w7.cell? ⟨w5.heap.size, 0, none⟩ = some (.slice Al q cl) := (World.cell?_of_block (hg7.block w5.heap.size (by first | omega | (simp <;> omega)) (fun e => hnL e.symm))).trans (Lib.cell?_alloc_some _ cL); have hB7 : Hid (Below Z w w7) := ((hbel.trans (hbi.mono (by omega))).drew.alloc (by omega) _).trans (below_app (own_lower (hownd.out.alloc _) (by omega)) hg7 (by first | omega | (simp <;> omega))); replace ho7 := Lib.hid ho7; replace hg7 := Lib.hid hg7)
            refine hK0.out _ _ ?_ (fun hHeld => ?_)
            · (exact ⟨kz0, kz1⟩)
            clear hK0 K0
            (try simp only [Act.put, List.setIfInBounds_toArray, List.set_cons_zero, List.set_cons_succ])
            refine wpAnyH_done (by kernel_rfl) ?_ _
            show wpList _ _ _ _ _ _
            go_wp2_with fail
            go_roundw
            case rel =>
              have hq' := hqn.out
              have hK' : (K.map (movP (m1, m2))).length = q := hKm.out.trans hq'
              have e1 : Lr ++ (d.out.take (k + 1)).map (List.map (movP (m1, m2))) = (Lr ++ (d.out.take k).map (List.map (movP (m1, m2)))) ++ [K.map (movP (m1, m2))] := by rw [hst.out, List.map_append, List.append_assoc]; rfl
              have e2 : (Lr ++ (d.out.take (k + 1)).map (List.map (movP (m1, m2)))).length = N + 1 := by rw [e1, List.length_append, ← hN.out]; rfl
              have hto := (hwo.out.1).more (Ls' := (Lr ++ (d.out.take k).map (List.map (movP (m1, m2)))) ++ [K.map (movP (m1, m2))]) (fun j hj => List.getElem?_append_left hj)
              rw [← hN.out] at hto
              have hKN : ((Lr ++ (d.out.take k).map (List.map (movP (m1, m2)))) ++ [K.map (movP (m1, m2))])[N]? = some (K.map (movP (m1, m2))) := by rw [List.getElem?_append_right (by rw [hN.out]; exact Nat.le_refl _), ← hN.out]; simp
              have hnx := OutTo.next (w1 := wr.drew.alloc (.cells #[.slice Al q cl] 145)) hto hKN ((hbi.drew).alloc hbi.size _) (A2 := Al) (c2 := cl) (B := w5.heap.size + 1) (by rw [hK']; exact World.ownsRow.alloc (World.ownsRow.drew hfin.out) _) (Nat.le_succ _) hX5 (by rw [hK']; exact ho7.out) hg7.out
              refine ⟨k + 1, A4, c4, ys1 ++ [.slice Al (K.map (movP (m1, m2))).length cl], by go_num, by omega, ⟨?_, ?_, by simp; omega, hZX⟩, hB7.out.setCell (p := ⟨X, 0, none⟩) hZX _, (Below.heap_setCell _ _ _ _ (by simp; omega)).trans HP7.out, by simp; omega, (((hfr.out.below hbi).below ((Below.refl _ _).drew.alloc (Nat.le_refl _) (.cells #[.slice Al q cl] 145 (0, 0)))).grown (hownd.out.alloc _) hg7.out).setX _⟩
              · rw [e1]
                have h9 := hnx.setOther HX7.out 0 (.slice A4 (N + 1) c4)
                rw [show ((Lr ++ (d.out.take k).map (List.map (movP (m1, m2)))) ++ [K.map (movP (m1, m2))]).length = N + 1 by rw [← e1]; exact e2]
                exact h9
              · rw [e2]; exact Go.Joins.block_setCell HX7.out _
            case measure => simp [intOf]; omega
      · have hkn : hh.out.n = k := by omega
        have hwo0 := hwo
        rw [List.take_of_length_le (by omega)] at hwo0
        have hpl := hrg.out.2.1.1
        replace hwo0 := Lib.hid hwo0
        have c4 : w5.cell? ⟨b1, f1 + xn * 7 + 4, none⟩ = some (.slice hh.parts.A hh.parts.n hh.parts.c) := (hbel.cell (by simp; omega)).trans q4
        have hki : ¬ ((k : Int) < (hh.out.n : Int)) := by omega
        clear hwo
        go_wp2_with fail
        go_loopw [16] (fun i wr => ∃ (r : Nat) (Ao1 : Option Addr) (co1 : Nat) (ys1 : List Value), i = .int .i64 r ∧ r ≤ hh.parts.n ∧ WO wr X Z ((Lr ++ d.out.map (List.map (movP (m1, m2)))) ++ (d.parts.take r).flatMap (fun r => if 0 < cntF L out r.1 then wholeF L (cntF L out) out r.1 (m1 + r.2.1, m2 + r.2.2) else [])) Ao1 co1 ys1 ∧ Below Z w wr ∧ wr.heap[w.heap.size]? = some (.cells #[.int .i64 m1, .int .i64 m2] 25 (0, 0)) ∧ w.heap.size + 1 ≤ wr.heap.size ∧ FrT X w wr) (fun i wr => hh.parts.n - (intOf i).toNat)
        case atStart => exact ⟨0, Ao1, co1, ys1, rfl, Nat.zero_le _, by simpa using hwo0.out, hbel, HP.out, hz5, hfr.out⟩
        case round =>
          clear hwo0 hbel HP hz5 hfr c3 c4 hb1r hki
          obtain ⟨r, Ao2, co2, ys2, rfl, hrk, hwo, hbel, HP, hz5, hfr⟩ := hrel
          obtain ⟨w6, hw6⟩ : ∃ v, v = wr := ⟨_, rfl⟩
          subst hw6
          replace HP := Lib.hid HP
          replace hfr := Lib.hid hfr
          have c4 : w6.cell? ⟨b1, f1 + xn * 7 + 4, none⟩ = some (.slice hh.parts.A hh.parts.n hh.parts.c) := (hbel.cell (by simp; omega)).trans q4
          have hb1r : b1 < w6.heap.size := by omega
          by_cases hlt : r < hh.parts.n
          · obtain ⟨b4, f4, y, hA, hb40, hb4h, hy, hcy⟩ := hrg.out.2.1.at hlt
            rw [hA] at c4
            have p0 := (hbel.cell (p := ⟨b4, f4 + r * 3 + 0, none⟩) (by simp; omega)).trans (hcy 0 _ rfl)
            have p1 := (hbel.cell (p := ⟨b4, f4 + r * 3 + 1, none⟩) (by simp; omega)).trans (hcy 1 _ rfl)
            have p2 := (hbel.cell (p := ⟨b4, f4 + r * 3 + 2, none⟩) (by simp; omega)).trans (hcy 2 _ rfl)
            simp only [Nat.add_zero] at p0
            obtain ⟨hmv1, hmv2⟩ := hg4.out y (List.mem_of_getElem? hy)
            obtain ⟨s0, hst, hso⟩ := part_at ho.out hx.out (by rw [← hxn'.out]; exact hja.out) (List.mem_of_getElem? hy)
            obtain ⟨hy0, hyn⟩ := ho.out.rng y.1 (List.mem_of_getElem? hso)
            rw [tgts_length, hl.out] at hyn
            have hcy12 := part_le ho.out hx.out (by rw [← hxn'.out]; exact hja.out) hc12 (List.mem_of_getElem? hy)
            have hst2 := take_snoc hy
            have hwl := wholeF_len ho.out s0 y.1 hso (hall.out s0 y.1 hso) hall.out (m1 + y.2.1, m2 + y.2.2) hcy12
            have hcb0 := (cntF_bd L out y.1).1
            have hfl : ((d.parts.take (r + 1)).flatMap (fun r => if 0 < cntF L out r.1 then wholeF L (cntF L out) out r.1 (m1 + r.2.1, m2 + r.2.2) else [])).length ≤ (d.parts.flatMap (fun r => if 0 < cntF L out r.1 then wholeF L (cntF L out) out r.1 (m1 + r.2.1, m2 + r.2.2) else [])).length := by
              conv => rhs; rw [← List.take_append_drop (r + 1) d.parts]
              rw [List.flatMap_append, List.length_append]
              omega
            have hfe : (d.parts.take (r + 1)).flatMap (fun r => if 0 < cntF L out r.1 then wholeF L (cntF L out) out r.1 (m1 + r.2.1, m2 + r.2.2) else []) = (d.parts.take r).flatMap (fun r => if 0 < cntF L out r.1 then wholeF L (cntF L out) out r.1 (m1 + r.2.1, m2 + r.2.2) else []) ++ (if 0 < cntF L out y.1 then wholeF L (cntF L out) out y.1 (m1 + y.2.1, m2 + y.2.2) else []) := by
              rw [hst2, List.flatMap_append]; simp
            rw [hfe, List.length_append] at hfl
            have htot := hlen.out
            rw [hwe.out, List.length_append, List.length_map] at htot
            obtain ⟨yg, mv1, mv2⟩ := y
            dsimp only at p0 p1 p2 hmv1 hmv2 hso hy0 hyn hcy12 hwl hcb0 hfl hfe
            obtain ⟨yn, hyn'⟩ : ∃ yn : Nat, (yn : Int) = yg := ⟨yg.toNat, by omega⟩
            subst hyn'
            have hyl : yn < n := by simpa using hyn
            have hyi : (yn : Int) < (n : Int) := by omega
            have cc := (hbel.cell (p := ⟨Bc, yn, none⟩) (by simp; omega)).trans (hcB.out yn hyl)
            have hBcw : Bc < w6.heap.size := by omega
            have cm1 : w6.cell? ⟨w.heap.size, 0, none⟩ = some (.int .i64 m1) := by rw [Go.Joins.cell_of_block HP.out]; rfl
            have cm2 : w6.cell? ⟨w.heap.size, 1, none⟩ = some (.int .i64 m2) := by rw [Go.Joins.cell_of_block HP.out]; rfl
            have e1 : IntKind.i64.wrap (m1 + mv1) = m1 + mv1 := IntWalk.i64_in _ (by omega)
            have e2 : IntKind.i64.wrap (m2 + mv2) = m2 + mv2 := IntWalk.i64_in _ (by omega)
            have hri : (r : Int) < (hh.parts.n : Int) := by omega
            have hb4w : b4 < w6.heap.size := by omega
            have hww : w.heap.size < w6.heap.size := by omega
            have hwo2 := hwo.below (Go.Joins.below_alloc1 w6 (.cells #[.int .i64 yn, .int .i64 mv1, .int .i64 mv2] 42 (0, 0)))
            have hfr2 := hfr.out.below (Go.Joins.below_alloc1 w6 (.cells #[.int .i64 yn, .int .i64 mv1, .int .i64 mv2] 42 (0, 0)))
            have hb62 : Below Z w (w6.alloc (.cells #[.int .i64 yn, .int .i64 mv1, .int .i64 mv2] 42 (0, 0))) := hbel.alloc (by omega) _
            have hz62 : w6.heap.size ≤ (w6.alloc (.cells #[.int .i64 yn, .int .i64 mv1, .int .i64 mv2] 42 (0, 0))).heap.size := by simp
            have HP2 := (Below.heap_alloc w6 (.cells #[.int .i64 yn, .int .i64 mv1, .int .i64 mv2] 42 (0, 0)) _ (by omega)).trans HP.out
            have hlW := hwo.1.1.1
            replace hfe := Lib.hid hfe
            replace hst2 := Lib.hid hst2
            replace hwo2 := Lib.hid hwo2
            replace hfr2 := Lib.hid hfr2
            replace HP2 := Lib.hid HP2
            replace hso := Lib.hid hso
            replace hwl := Lib.hid hwl
            replace hy := Lib.hid hy
            replace htot := Lib.hid htot
            replace hfl := Lib.hid hfl
            replace hwo := Lib.hid hwo
            by_cases hC : 0 < cntF L out yn
            · go_wp2_with fail
              have hcall := ih.out s0 hst yn (m1 + mv1) (m2 + mv2) X Z _ Ao2 co2 ys2 (w6.alloc (.cells #[.int .i64 yn, .int .i64 mv1, .int .i64 mv2] 42 (0, 0))) hso.out hcy12 (by
                have h1 := htot.out
                have h2 := hfl.out
                have h3 := hwl.out
                rw [if_pos hC] at h2
                simp only [List.length_append, List.length_map] at h1 h2 ⊢
                push_cast at h1 h2 ⊢
                omega) (by omega) (by omega) ((hb62.cell (p := ⟨p, o + 1, none⟩) (by simp; omega)).trans hcp) (fun j hj => (hb62.cell (p := ⟨Bc, j, none⟩) (by simp; omega)).trans (hcB.out j hj)) (hr.out.frame good_glyph (Below.sameB hb62 hhi)) hhi hpX hBX hwo2.out
              refine hcall.mono ?_
              clear hcall
              rintro e w7 ⟨rfl, ⟨Ao3, co3, ys3, hwo3⟩, hb7, hfr7⟩
              have hz7 := hb7.size
              replace hwo3 := Lib.hid hwo3
              go_wp2_with fail
              go_roundw
              case rel =>
                refine ⟨r + 1, Ao3, co3, ys3, by go_num, by omega, ?_, hb62.trans hb7, hfr7 _ _ _ HP2.out (by omega) (by decide), by omega, hfr2.out.trans hfr7⟩
                rw [hfe.out, if_pos hC, ← List.append_assoc]
                exact hwo3.out
              case measure => simp [intOf]; omega
            · have hCi : ¬ (cntF L out yn > 0) := hC
              go_wp2_with fail
              go_roundw
              case rel =>
                refine ⟨r + 1, Ao2, co2, ys2, by go_num, by omega, ?_, hb62, HP2.out, by omega, hfr2.out⟩
                rw [hfe.out, if_neg hC, List.append_nil]
                exact hwo2.out
              case measure => simp [intOf]; omega
          · have hrn : hh.parts.n = r := by omega
            have hfin := hwo
            rw [List.take_of_length_le (by omega), List.append_assoc] at hfin
            have hwe' := hwe.out
            replace hfin := Lib.hid hfin
            have hri : ¬ ((r : Int) < (hh.parts.n : Int)) := by omega
            clear hwo
            go_wp2_with fail
            go_end0
            refine ⟨rfl, ⟨Ao2, co2, ys2, ?_⟩, hbel, hfr.out⟩
            first | exact hfin.out | (rw [hwe']; exact hfin.out)
end Go.Proofs.Ytgngcllodofimaa

/- Two lists of loops joined. No walk in sight. Conditions: as each states. -/
namespace Go.Proofs.Ytgngcllodofimaa
open Go.RowKit
set_option linter.unusedVariables false
set_option maxRecDepth 100000

/-- the loops of a call, appended to those so far: they lie above all that stood before -/
theorem OutTo.join {w w1 w2 : World} {lo B k co n2 c2 cc : Nat} {Ao A2 A3 : Option Addr} {ys ys2 : List Value} {Ls Ls2 : List (List Knot)} (h : OutTo w lo Ao k co ys Ls) (hk : Ls.length = k) (hb : Below w.heap.size w w1) (h2 : OutTo w1 B A2 n2 c2 ys2 Ls2) (hk2 : Ls2.length = n2) (hB : w.heap.size ≤ B) (hlo : lo ≤ w.heap.size)
    (ho : w2.ownsRow lo 145 1 (.slice A3 (k + n2) cc) (k + n2) (ys ++ ys2)) (hg : w1.grownBy w2 (Value.slice Ao k co).ownBlock) : OutTo w2 lo A3 (k + n2) cc (ys ++ ys2) (Ls ++ Ls2) := by
  obtain ⟨h1, h3, h4⟩ := h
  obtain ⟨g1, g3, g4⟩ := h2
  have hyl := h1.1
  have hyl2 := g1.1
  rw [Nat.mul_one] at hyl hyl2
  have h1' := own_below h1 hb
  have hne : ∀ {g : Nat} {v : Value} {n : Nat} {xs : List Value} {B' : Nat}, w1.ownsRow B' 147 3 v n xs → v.ownBlock = some g → w2.heap[g]? = w1.heap[g]? := fun {g v n xs B'} hv hg' =>
    hg.block g (hv.lt g hg').2 fun e => own_ne_kind hv h1' (by decide) hg' e.symm
  have hold : ∀ (j : Nat) (v : Value), ys[j]? = some v → ∀ g, v.ownBlock = some g → g < w.heap.size := fun j v hv g hg' => by
    have hjl := (List.getElem?_eq_some_iff.1 hv).1
    obtain ⟨Aj, cj, h5, h6⟩ := h3 j _ (by omega) (List.getElem?_eq_getElem (by omega))
    rw [hv] at h5
    injection h5 with h5
    subst h5
    exact (h6.lt g hg').2
  have hnew : ∀ (j : Nat) (v : Value), ys2[j]? = some v → ∀ g, v.ownBlock = some g → B ≤ g := fun j v hv g hg' => by
    have hjl := (List.getElem?_eq_some_iff.1 hv).1
    obtain ⟨Aj, cj, h5, h6⟩ := g3 j _ (by omega) (List.getElem?_eq_getElem (by omega))
    rw [hv] at h5
    injection h5 with h5
    subst h5
    exact (h6.lt g hg').1
  refine ⟨ho, fun j K hj hK => ?_, fun i j u v hij hu hv => ?_⟩
  · by_cases hjk : j < k
    · rw [List.getElem?_append_left (by omega)] at hK
      obtain ⟨Aj, cj, h5, h6⟩ := h3 j K hjk hK
      exact ⟨Aj, cj, by rw [List.getElem?_append_left (by omega)]; exact h5, own_same (own_below h6 hb) fun g hg' => hne (own_below h6 hb) hg'⟩
    · rw [List.getElem?_append_right (by omega), hk] at hK
      obtain ⟨Aj, cj, h5, h6⟩ := g3 (j - k) K (by omega) hK
      exact ⟨Aj, cj, by rw [List.getElem?_append_right (by omega), hyl]; exact h5, own_lower (own_same h6 fun g hg' => hne h6 hg') (by omega)⟩
  · by_cases hik : i < k
    · rw [List.getElem?_append_left (by omega)] at hu
      by_cases hjk : j < k
      · rw [List.getElem?_append_left (by omega)] at hv
        exact h4 i j u v hij hu hv
      · rw [List.getElem?_append_right (by omega), hyl] at hv
        exact fun g e1 e2 => by have := hold i u hu g e1; have := hnew _ v hv g e2; omega
    · rw [List.getElem?_append_right (by omega), hyl] at hu
      by_cases hjk : j < k
      · rw [List.getElem?_append_left (by omega)] at hv
        exact fun g e1 e2 => by have := hnew _ u hu g e1; have := hold j v hv g e2; omega
      · rw [List.getElem?_append_right (by omega), hyl] at hv
        exact g4 (i - k) (j - k) u v (by omega) hu hv
end Go.Proofs.Ytgngcllodofimaa

/- A list that is turned from its head on; two cells of a knot stored. No walk in sight. Conditions: as each states. -/
namespace Go.Proofs.Ytgngcllodofimaa
open Go.RowKit
set_option linter.unusedVariables false
set_option maxRecDepth 100000

theorem take_step {α : Type} {L : List α} {k : Nat} {a : α} (h : L[k]? = some a) : L.take (k + 1) = L.take k ++ [a] := by
  rw [List.take_add_one, h]; rfl
/-- the first k of one list, then the other -/
def mixT {α : Type} (M K : List α) (k : Nat) : List α := M.take k ++ K.drop k
theorem mixT_zero {α : Type} (M K : List α) : mixT M K 0 = K := by simp [mixT]
theorem mixT_len {α : Type} {M K : List α} (h : M.length = K.length) (k : Nat) : (mixT M K k).length = K.length := by
  unfold mixT; rw [List.length_append, List.length_take, List.length_drop]; omega
theorem mixT_all {α : Type} {M K : List α} (h : M.length = K.length) : mixT M K K.length = M := by
  unfold mixT; rw [List.drop_length, ← h, List.take_length, List.append_nil]
theorem mixT_at {α : Type} {M K : List α} (h : M.length = K.length) {k : Nat} (hk : k < K.length) : (mixT M K k)[k]? = K[k]? := by
  unfold mixT
  rw [List.getElem?_append_right (by rw [List.length_take]; omega), List.length_take, Nat.min_eq_left (by omega), Nat.sub_self, List.getElem?_drop, Nat.add_zero]
theorem mixT_set {α : Type} {M K : List α} (h : M.length = K.length) {k : Nat} {m : α} (hm : M[k]? = some m) : (mixT M K k).set k m = mixT M K (k + 1) := by
  have hk := (List.getElem?_eq_some_iff.1 hm).1
  unfold mixT
  rw [List.set_append_right _ _ (by rw [List.length_take]; omega), List.length_take, Nat.min_eq_left (by omega), Nat.sub_self, take_step hm, List.append_assoc]
  congr 1
  rw [List.drop_eq_getElem_cons (by omega)]
  rfl
theorem flat_set2 {L : List Knot} {q : Nat} {a b x1 x2 : Int} {z : Bool} (hq : L[q]? = some (a, b, z)) : ((L.flatMap knotC).set (q * 3) (.int .i64 x1)).set (q * 3 + 1) (.int .i64 x2) = (L.set q (x1, x2, z)).flatMap knotC := by
  have hql := (List.getElem?_eq_some_iff.1 hq).1
  have hfl : (L.flatMap knotC).length = L.length * 3 := flat_length knotC_len L
  refine flat_ext (n := L.length) knotC_len (by rw [List.length_set]) (by rw [List.length_set, List.length_set]; exact hfl) fun j k hj i hi => ?_
  by_cases hjq : j = q
  · subst hjq
    rw [List.getElem?_set_self hql] at hj
    injection hj with hj; subst hj
    match i, hi with
    | 0, _ => rw [List.getElem?_set_ne (by omega)]; simp only [Nat.add_zero]; rw [List.getElem?_set_self (by omega)]; rfl
    | 1, _ => rw [List.getElem?_set_self (by rw [List.length_set]; omega)]; rfl
    | 2, _ => rw [List.getElem?_set_ne (by omega), List.getElem?_set_ne (by omega), flat_get knotC_len L j _ 2 hq (by omega)]; rfl
  · rw [List.getElem?_set_ne (Ne.symm hjq)] at hj
    rw [List.getElem?_set_ne (by omega), List.getElem?_set_ne (by omega)]
    exact flat_get knotC_len L j k i hj hi
theorem set_same {α : Type} {L : List α} {k : Nat} {a : α} (h : L[k]? = some a) : L.set k a = L := by
  apply List.ext_getElem?
  intro i
  by_cases hi : i = k
  · subst hi; rw [List.getElem?_set_self (List.getElem?_eq_some_iff.1 h).1]; exact h.symm
  · rw [List.getElem?_set_ne (Ne.symm hi)]
theorem mixT_next {α : Type} {M K : List α} (h : M.length = K.length) {L : List (List α)} {j q : Nat} {m : α} (hm : M[q]? = some m) : (L.set j (mixT M K q)).set j ((mixT M K q).set q m) = L.set j (mixT M K (q + 1)) := by
  rw [List.set_set, mixT_set h hm]
end Go.Proofs.Ytgngcllodofimaa

/- The whole outline of a glyph: the program's walk. Printed by mk_whi.py. Conditions: as each states. -/
namespace Go.Proofs.Ytgngcllodofimaa
open Go.RowKit Go.Maps
set_option linter.unusedVariables false
set_option maxRecDepth 100000


/-- a map of the call's own is no row -/
theorem map_ne_own {α : Type} {E : ElemRd α} {w : World} {P : Program} {k : TypeId} {b n : Nat} {f : Lit → Option α} {lo e size m : Nat} {v : Value} {xs : List Value} (h : MapF E w P k b n f) (ho : w.ownsRow lo e size v m xs) : some b ≠ v.ownBlock := by
  intro he
  obtain ⟨D, ⟨es, c, h0, _⟩, _⟩ := h
  obtain ⟨cs, h1⟩ := own_kind ho he.symm
  rw [h0] at h1
  cases h1
theorem OutTo.map {w w' : World} {P : Program} {kt : TypeId} {bm n : Nat} {f : Lit → Option Int} {lo k co : Nat} {Ao : Option Addr} {ys : List Value} {Ls : List (List Knot)} (h : OutTo w lo Ao k co ys Ls) (hm : MapF intE w P kt bm n f) (hg : w.grownBy w' (some bm)) : OutTo w' lo Ao k co ys Ls := by
  obtain ⟨h1, h2, h3⟩ := h
  have hs : ∀ {e size n : Nat} {v : Value} {xs : List Value}, w.ownsRow lo e size v n xs → w'.ownsRow lo e size v n xs := fun {e size n v xs} ho => own_same ho fun g hg' => hg.block g (ho.lt g hg').2 fun e => map_ne_own hm ho (e.symm.trans hg'.symm)
  exact ⟨hs h1, fun j K hj hK => by obtain ⟨Aj, cj, h4, h5⟩ := h2 j K hj hK; exact ⟨Aj, cj, h4, hs h5⟩, h3⟩
theorem OutTo.one {w : World} {lo k co : Nat} {Ao : Option Addr} {ys : List Value} {Ls : List (List Knot)} (h : OutTo w lo Ao k co ys Ls) (hk : Ls.length = k) : ∀ u ∈ ys, u.oneCell' = true := fun u hu => by
  obtain ⟨j, hj⟩ := List.getElem?_of_mem hu
  have hjl := (List.getElem?_eq_some_iff.1 hj).1
  have hyl := h.1.1
  obtain ⟨Aj, cj, h4, _⟩ := h.2.1 j _ (by omega) (List.getElem?_eq_getElem (by omega))
  rw [hj] at h4
  injection h4 with h4
  subst h4
  rfl
theorem OutTo.base {w : World} {lo lo' k co : Nat} {Ao : Option Addr} {ys : List Value} {Ls : List (List Knot)} (h : OutTo w lo Ao k co ys Ls) (hl : lo' ≤ lo) : OutTo w lo' Ao k co ys Ls :=
  ⟨own_lower h.1 hl, fun j K hj hK => by obtain ⟨Aj, cj, h4, h5⟩ := h.2.1 j K hj hK; exact ⟨Aj, cj, h4, own_lower h5 hl⟩, h.2.2⟩


set_option maxHeartbeats 16000000 in
theorem wholeLoops_any (u : Int) (A : Option Addr) (n c lo hi : Nat) (L : List Gl) (out : List Int) (ho : Ord (tgts L) out) (hl : L.length = n) (hn : n ≤ 40) (hB : ∀ g ∈ L, GlB g) :
    ∀ (t : Nat) (x m1 m2 : Int) (w : World), out[t]? = some x → cntF L out x ≤ 12 →
    (-1000000 * (100 - (t : Int)) ≤ m1 ∧ m1 ≤ 1000000 * (100 - (t : Int))) → (-1000000 * (100 - (t : Int)) ≤ m2 ∧ m2 ≤ 1000000 * (100 - (t : Int))) → GsRd w lo hi A n L → hi ≤ w.heap.size →
    Calls Try.prog 127 #[.agg #[.int .i64 u, .slice A n c], .int .i64 x, .agg #[.int .i64 m1, .int .i64 m2]] w fun e w' => ∃ Ao k co ys, e = .returned (.slice Ao k co) ∧ k = (wholeF L (cntF L out) out x (m1, m2)).length ∧ OutTo w' w.heap.size Ao k co ys (wholeF L (cntF L out) out x (m1, m2)) ∧ Below w.heap.size w w' := by
  replace ho := Lib.hid ho
  replace hB := Lib.hid hB
  replace hl := Lib.hid hl
  intro t
  induction t using Nat.strongRecOn with
  | ind t ih =>
    intro x m1 m2 w hx hc12 hm1 hm2 hr hhi
    replace ih := Lib.hid ih
    obtain ⟨hx0, hxn⟩ := ho.out.rng x (List.mem_of_getElem? hx)
    rw [tgts_length, hl.out] at hxn
    have htl : t < 40 := by
      have h1 := ho.out.le
      have h2 := (List.getElem?_eq_some_iff.1 hx).1
      rw [tgts_length, hl.out] at h1
      omega
    obtain ⟨b1, f1, d, hh, rfl, hb0, hb1, hja, hcs, hrg⟩ := gs_at hr hxn
    have hB0 : Below w.heap.size w ((w.alloc (.cells #[.int .i64 u, .slice (some ⟨b1, f1, none⟩) n c] 39 (0, 0))).alloc (.cells #[.int .i64 m1, .int .i64 m2] 25 (0, 0))) := Go.Joins.below_alloc2 _ _ _
    have hxe : ((x.toNat : Nat) : Int) = x := by omega
    obtain ⟨xn, hxn'⟩ : ∃ xn, xn = x.toNat := ⟨_, rfl⟩
    rw [← hxn'] at hxe hxn hja hcs
    have q0 := hcs 0 _ rfl
    have q1 := hcs 1 _ rfl
    have q2 := hcs 2 _ rfl
    have q3 := hcs 3 _ rfl
    have q4 := hcs 4 _ rfl
    have q5 := hcs 5 _ rfl
    have q6 := hcs 6 _ rfl
    simp only [Nat.add_zero] at q0
    have hxi : (xn : Int) < (n : Int) := by omega
    have hz0 : ((w.alloc (.cells #[.int .i64 u, .slice (some ⟨b1, f1, none⟩) n c] 39 (0, 0))).alloc (.cells #[.int .i64 m1, .int .i64 m2] 25 (0, 0))).heap.size = w.heap.size + 2 := by simp
    have hb1w : b1 < w.heap.size := by omega
    subst hxe
    replace hja := Lib.hid hja
    replace hrg := Lib.hid hrg
    replace hr := Lib.hid hr
    replace hx := Lib.hid hx
    replace hxn' := Lib.hid hxn'
    clear hcs
    go_enter Try.func127, Try.ntmps127
    go_wp2_with fail
    have hnew := heap_new0 w (.cells #[.int .i64 u, .slice (some ⟨b1, f1, none⟩) n c] 39 (0, 0)) (.cells #[.int .i64 m1, .int .i64 m2] 25 (0, 0)) (.cells #[.string d.name, .int .i64 d.code, .int .i64 d.adv, .slice hh.out.A hh.out.n hh.out.c, .slice hh.parts.A hh.parts.n hh.parts.c, .slice hh.anchors.A hh.anchors.n hh.anchors.c, .string d.hints] 49 (0, 0))
    have hB3 : Below w.heap.size w (((w.alloc (.cells #[.int .i64 u, .slice (some ⟨b1, f1, none⟩) n c] 39 (0, 0))).alloc (.cells #[.int .i64 m1, .int .i64 m2] 25 (0, 0))).alloc (.cells #[.string d.name, .int .i64 d.code, .int .i64 d.adv, .slice hh.out.A hh.out.n hh.out.c, .slice hh.parts.A hh.parts.n hh.parts.c, .slice hh.anchors.A hh.anchors.n hh.anchors.c, .string d.hints] 49 (0, 0))) := (((Below.refl _ _).alloc (Nat.le_refl _) _).alloc (by simp) _).alloc (by simp <;> omega) _
    have hz3 : (((w.alloc (.cells #[.int .i64 u, .slice (some ⟨b1, f1, none⟩) n c] 39 (0, 0))).alloc (.cells #[.int .i64 m1, .int .i64 m2] 25 (0, 0))).alloc (.cells #[.string d.name, .int .i64 d.code, .int .i64 d.adv, .slice hh.out.A hh.out.n hh.out.c, .slice hh.parts.A hh.parts.n hh.parts.c, .slice hh.anchors.A hh.anchors.n hh.anchors.c, .string d.hints] 49 (0, 0))).heap.size = w.heap.size + 3 := by simp
    have hz3l : (((w.alloc (.cells #[.int .i64 u, .slice (some ⟨b1, f1, none⟩) n c] 39 (0, 0))).alloc (.cells #[.int .i64 m1, .int .i64 m2] 25 (0, 0))).alloc (.cells #[.string d.name, .int .i64 d.code, .int .i64 d.adv, .slice hh.out.A hh.out.n hh.out.c, .slice hh.parts.A hh.parts.n hh.parts.c, .slice hh.anchors.A hh.anchors.n hh.anchors.c, .string d.hints] 49 (0, 0))).heap.size ≤ w.heap.size + 3 := by omega
    have hz3g : w.heap.size + 3 ≤ (((w.alloc (.cells #[.int .i64 u, .slice (some ⟨b1, f1, none⟩) n c] 39 (0, 0))).alloc (.cells #[.int .i64 m1, .int .i64 m2] 25 (0, 0))).alloc (.cells #[.string d.name, .int .i64 d.code, .int .i64 d.adv, .slice hh.out.A hh.out.n hh.out.c, .slice hh.parts.A hh.parts.n hh.parts.c, .slice hh.anchors.A hh.anchors.n hh.anchors.c, .string d.hints] 49 (0, 0))).heap.size := by omega
    clear hz3 hz0 hB0 q0 q1 q2 q3 q4 q5 q6
    generalize (((w.alloc (.cells #[.int .i64 u, .slice (some ⟨b1, f1, none⟩) n c] 39 (0, 0))).alloc (.cells #[.int .i64 m1, .int .i64 m2] 25 (0, 0))).alloc (.cells #[.string d.name, .int .i64 d.code, .int .i64 d.adv, .slice hh.out.A hh.out.n hh.out.c, .slice hh.parts.A hh.parts.n hh.parts.c, .slice hh.anchors.A hh.anchors.n hh.anchors.c, .string d.hints] 49 (0, 0))) = w0 at *
    obtain ⟨HG, HM, HE⟩ := hnew
    replace HG := Lib.hid HG
    replace HM := Lib.hid HM
    replace HE := Lib.hid HE
    obtain ⟨hg1, hg2, hg3, hg4⟩ := hB.out d (List.mem_of_getElem? hja.out)
    have hol := hrg.out.1.1
    replace hg2 := Lib.hid hg2
    replace hg4 := Lib.hid hg4
    go_loopw [8, 25] (fun ov i wr => ∃ (k : Nat) (Ao : Option Addr) (co : Nat) (ys : List Value), i = .int .i64 k ∧ ov = .slice Ao k co ∧ k ≤ hh.out.n ∧ OutTo wr (w.heap.size + 3) Ao k co ys (d.out.map (List.map (movP (m1, m2)))) ∧ Below w0.heap.size w0 wr) (fun ov i wr => hh.out.n - (intOf i).toNat)
    case atStart => exact ⟨0, none, 0, [], rfl, rfl, Nat.zero_le _, ⟨World.ownsRow_nil _ _ _ _, fun j K hj => absurd hj (Nat.not_lt_zero j), fun i j u v _ hu => by simp at hu⟩, Below.refl _ _⟩
    case round =>
      obtain ⟨k, Ao, co, ys, rfl, rfl, hk, hto, hbel⟩ := hrel
      obtain ⟨w5, hw5⟩ : ∃ v, v = wr := ⟨_, rfl⟩
      subst hw5
      have hz5 := hbel.size
      have hB5 : Below w.heap.size w w5 := hB3.trans (hbel.mono (by omega))
      replace hto := Lib.hid hto
      by_cases hlt : k < hh.out.n
      · obtain ⟨b3, f3, K, A2, n2, c2, hA, hb30, hb3h, hka, qk, hmx, hrk⟩ := out_at hrg.out.1 hlt
        have hn2 := hrk.1
        subst hn2
        rw [hA]
        have qkr : w5.cell? ⟨b3, f3 + k, none⟩ = some (.slice A2 K.length c2) := (hB5.cell (by simp; omega)).trans qk
        have hb3w : b3 < w5.heap.size := by omega
        have hki : (k : Int) < (hh.out.n : Int) := by omega
        obtain ⟨hKl, hKc⟩ := hg2.out K (List.mem_of_getElem? hka)
        replace hka := Lib.hid hka
        replace hrk := Lib.hid hrk
        replace hKc := Lib.hid hKc
        go_wp2_with fail
        have hzL : (w5.alloc (.cells #[.slice A2 K.length c2] 145 (0, 0))).heap.size = w5.heap.size + 1 := by simp
        have hBL : Below w.heap.size w (w5.alloc (.cells #[.slice A2 K.length c2] 145 (0, 0))) := hB5.alloc hB5.size _
        refine (cloneKnot_any A2 K.length c2 lo hi K (w5.alloc (.cells #[.slice A2 K.length c2] 145 (0, 0))) (hrk.out.frame (good_flat _) (Below.sameB hBL hhi)) (by omega) (rdS_none hrk.out)).mono ?_
        rintro e w6 ⟨Ak, ck, rfl, hok, hb6⟩
        rw [hzL] at hok hb6
        have hz6 := hb6.size
        rw [hzL] at hz6
        have hb56 : Below w5.heap.size w5 w6 := (Go.Joins.below_alloc1 w5 (.cells #[.slice A2 K.length c2] 145 (0, 0))).trans (hb6.mono (Nat.le_succ _))
        have hok0 : w6.ownsRow (w5.heap.size + 1) 147 3 (.slice Ak K.length ck) K.length ((mixT (K.map (movP (m1, m2))) K 0).flatMap knotC) := by rw [mixT_zero]; exact hok
        replace hok0 := Lib.hid hok0
        have hlenK : (K.map (movP (m1, m2))).length = K.length := List.length_map ..
        replace hlenK := Lib.hid hlenK
        clear hzL hok hb6 qkr hb3w
        go_wp2_with fail
        go_loopw [34] (fun i wr => ∃ q : Nat, i = .int .i64 q ∧ q ≤ K.length ∧ wr.ownsRow (w5.heap.size + 1) 147 3 (.slice Ak K.length ck) K.length ((mixT (K.map (movP (m1, m2))) K q).flatMap knotC) ∧ Below w5.heap.size w5 wr) (fun i wr => K.length - (intOf i).toNat)
        case atStart => exact ⟨0, rfl, Nat.zero_le _, hok0.out, hb56⟩
        case round =>
          clear hok0 hb56
          obtain ⟨q, rfl, hq, hok, hb56⟩ := hrel
          have hz7 := hb56.size
          by_cases hql : q < K.length
          · obtain ⟨y, hy⟩ : ∃ y, K[q]? = some y := ⟨_, List.getElem?_eq_getElem hql⟩
            have hyq : (mixT (K.map (movP (m1, m2))) K q)[q]? = some y := by rw [mixT_at hlenK.out hql]; exact hy
            obtain ⟨g, rfl, hgl, hgs, _, hcg, hfg⟩ := own_at hok (by omega)
            obtain ⟨hcx, hcy⟩ := hKc.out y (List.mem_of_getElem? hy)
            have hkey := mixT_set hlenK.out (k := q) (m := movP (m1, m2) y) (by rw [List.getElem?_map, hy]; rfl)
            obtain ⟨y1, y2, z⟩ := y
            dsimp only [movP] at hcx hcy hkey
            have hKql := mixT_len hlenK.out q
            have c0 := hcg (q * 3) (by omega)
            have c1 := hcg (q * 3 + 1) (by omega)
            have v0 := flat_get knotC_len _ q _ 0 hyq (by omega)
            have v1 := flat_get knotC_len _ q _ 1 hyq (by omega)
            simp only [Nat.add_zero] at v0
            rw [v0] at c0
            rw [v1] at c1
            simp only [knotC, List.getElem?_cons_zero, List.getElem?_cons_succ] at c0 c1
            have fz0 := hfg (q * 3)
            have fz1 := hfg (q * 3 + 1)
            have s0 := (World.ownsRow.drew hok).stored (q * 3) (.int .i64 (y1 + m1))
            have s1 := s0.1.stored (q * 3 + 1) (.int .i64 (y2 + m2))
            rw [flat_set2 hyq, hkey] at s1
            replace s1 := Lib.hid s1
            have HMr := (hb56.block (w.heap.size + 1) (by omega)).trans ((hbel.block (w.heap.size + 1) (by omega)).trans HM.out)
            have cm1 : wr.cell? ⟨w.heap.size + 1, 0, none⟩ = some (.int .i64 m1) := by rw [Go.Joins.cell_of_block HMr]; rfl
            have cm2 : wr.cell? ⟨w.heap.size + 1, 1, none⟩ = some (.int .i64 m2) := by rw [Go.Joins.cell_of_block HMr]; rfl
            have e1 : IntKind.i64.wrap (y1 + m1) = y1 + m1 := IntWalk.i64_in _ (by omega)
            have e2 : IntKind.i64.wrap (y2 + m2) = y2 + m2 := IntWalk.i64_in _ (by omega)
            have hqi : (q : Int) < (K.length : Int) := by omega
            have hq0 : (0 : Int) ≤ (q : Int) := by omega
            replace hy := Lib.hid hy
            clear hcg hfg v0 v1 s0 hkey hKql hyq HMr
            go_wp2_with fail
            go_still_tail 21, (by kernel_rfl)
            go_wp2_with fail
            go_roundw
            case rel => exact ⟨q + 1, by go_num, by omega, s1.out.1, (hb56.drew.setCell (p := ⟨g, q * 3, none⟩) (by simp; omega) _).setCell (p := ⟨g, q * 3 + 1, none⟩) (by simp; omega) _⟩
            case measure => simp [intOf]; omega
          · have hqn : K.length = q := by omega
            have hfin := hok
            rw [← hqn, mixT_all hlenK.out] at hfin
            have oy : Hid (wr.ownsRow (w.heap.size + 3) 145 1 (.slice Ao k co) k ys) := own_below hto.out.1 hb56
            have hk12 : k ≤ 12 := by omega
            have hKk : (d.out.map (List.map (movP (m1, m2))))[k]? = some (K.map (movP (m1, m2))) := by rw [List.getElem?_map, hka.out]; rfl
            replace hfin := Lib.hid hfin
            replace hqn := Lib.hid hqn
            replace hKk := Lib.hid hKk
            clear hok
            go_wp2_with (at_builtin; refine wpAppAt rfl (.tmp 61) (.tmp 64) elemLoop rfl (v := .slice Ao k co) (n := k) (xs := ys) rfl (oy.out.alloc _) rfl (src_at (cs := [.slice Ak K.length ck]) rfl (by simp [Value.oneCell']) (by simp)) (by omega) (by omega) (by first | omega | (simp <;> omega)) (k + 1) rfl ?_; intro A4 c4 w8 ho8 hg8 hv8; have hz8 := hg8.size; (try simp at hz8); have hb8 : Hid (Below (w.heap.size + 3) _ w8) := below_app (oy.out.alloc _) hg8 (by first | omega | (simp <;> omega)); replace ho8 := Lib.hid ho8; replace hg8 := Lib.hid hg8; clear hv8)
            go_roundw
            case rel =>
              have hKL : (K.map (movP (m1, m2))).length = K.length := hlenK.out
              have hnx := OutTo.next (w1 := wr.alloc (.cells #[.slice Ak K.length ck] 145 (0, 0))) hto.out hKk.out (hb56.alloc (by omega) _) (A2 := Ak) (c2 := ck) (B := w5.heap.size + 1) (by rw [hKL]; exact hfin.out.alloc _) (Nat.le_succ _) (by omega) (by rw [hKL]; exact ho8.out) hg8.out
              exact ⟨k + 1, A4, c4, _, by go_num, rfl, by omega, hnx, ((hbel.trans (hb56.mono (by omega))).alloc (by omega) _).trans (hb8.out.mono (by omega))⟩
            case measure => simp [intOf]; omega
      · have hkn : hh.out.n = k := by omega
        have hki : ¬ ((k : Int) < (hh.out.n : Int)) := by omega
        have hmm := fun (t : TypeId) (W : World) => run_makeMap (P := Try.prog) t W
        have HE5 := Lib.hid ((hbel.block (w.heap.size + 2) (by omega)).trans HE.out)
        have ce4 : (w5.alloc (.map #[] 0)).cell? ⟨w.heap.size + 2, 4, none⟩ = some (.slice hh.parts.A hh.parts.n hh.parts.c) := Lib.cell?_alloc_some _ (by rw [Go.Joins.cell_of_block HE5.out]; rfl)
        have ce4' : w5.cell? ⟨w.heap.size + 2, 4, none⟩ = some (.slice hh.parts.A hh.parts.n hh.parts.c) := by rw [Go.Joins.cell_of_block HE5.out]; rfl
        have hl5 : w.heap.size + 2 < w5.heap.size := by omega
        have hja' : L[(xn : Int).toNat]? = some d := by rw [Int.toNat_natCast]; exact hja.out
        obtain ⟨base, hbase⟩ : ∃ b, b = d.out.map (List.map (movP (m1, m2))) := ⟨_, rfl⟩
        obtain ⟨F, hF⟩ : ∃ F : Part → List (List Knot), F = fun p => if 0 < cntF L out p.1 then wholeF L (cntF L out) out p.1 (m1 + p.2.1, m2 + p.2.2) else [] := ⟨_, rfl⟩
        have hWx : wholeF L (cntF L out) out xn (m1, m2) = base ++ d.parts.flatMap F := by rw [hbase, hF]; exact wholeF_at ho.out hx.out hja' (m1, m2)
        have hlenW : ((base ++ d.parts.flatMap F).length : Int) = cntF L out xn := by
          rw [← hWx]
          exact wholeF_len ho.out t xn hx.out ⟨d, hja'⟩ (fun t' y hy => by
            obtain ⟨h0, h1⟩ := ho.out.rng _ (List.mem_of_getElem? hy)
            rw [tgts_length] at h1
            exact ⟨_, List.getElem?_eq_getElem (by omega)⟩) (m1, m2) hc12
        have hle12 : ∀ j, (base ++ (d.parts.take j).flatMap F).length ≤ 12 := fun j => by
          have e : d.parts.flatMap F = (d.parts.take j).flatMap F ++ (d.parts.drop j).flatMap F := by rw [← List.flatMap_append, List.take_append_drop]
          rw [e] at hlenW
          simp only [List.length_append] at hlenW ⊢
          omega
        have hbl : base.length = k := by rw [hbase, List.length_map]; omega
        have hpl := hrg.out.2.1.1
        have hmap0 : MapF intE (w5.alloc (.map #[] 0)) Try.prog 2 w5.heap.size 40 (fun _ => none) := (MapF.made intE w5 Try.prog 2).mono (by omega)
        have hto0 : OutTo (w5.alloc (.map #[] 0)) (w.heap.size + 3) Ao k co ys (base ++ (d.parts.take 0).flatMap F) := by
          rw [List.take_zero, List.flatMap_nil, List.append_nil, hbase]
          exact hto.out.kept (Go.Joins.below_alloc1 _ _)
        have hz6 : (w5.alloc (.map #[] 0)).heap.size = w5.heap.size + 1 := by simp
        have hB6 : Below w.heap.size w (w5.alloc (.map #[] 0)) := hB5.alloc (by omega) _
        have HG6 := (Below.heap_alloc w5 (.map #[] 0) w.heap.size (by omega)).trans ((hbel.block w.heap.size (by omega)).trans HG.out)
        have HM6 := (Below.heap_alloc w5 (.map #[] 0) (w.heap.size + 1) (by omega)).trans ((hbel.block (w.heap.size + 1) (by omega)).trans HM.out)
        replace hmap0 := Lib.hid hmap0
        replace hto0 := Lib.hid hto0
        replace HG6 := Lib.hid HG6
        replace HM6 := Lib.hid HM6
        replace hbase := Lib.hid hbase
        replace hF := Lib.hid hF
        replace hWx := Lib.hid hWx
        replace hlenW := Lib.hid hlenW
        replace hja' := Lib.hid hja'
        replace hbl := Lib.hid hbl
        go_wp2_with fail
        clear hto ce4 ce4' HE5
        obtain ⟨w6, hw6⟩ : ∃ v, v = w5.alloc (.map #[] 0) := ⟨_, rfl⟩
        rw [← hw6] at hmap0 hto0 hz6 hB6 HG6 HM6 ⊢
        replace hw6 := Lib.hid hw6
        have hz6l : w6.heap.size ≤ w5.heap.size + 1 := by omega
        have hz6g : w5.heap.size + 1 ≤ w6.heap.size := by omega
        clear hz6
        go_loopw [8, 71] (fun ov i wr => ∃ (j k2 : Nat) (A2 : Option Addr) (c2 : Nat) (ys2 : List Value) (f' : Lit → Option Int), i = .int .i64 j ∧ ov = .slice A2 k2 c2 ∧ j ≤ hh.parts.n ∧ k2 = (base ++ (d.parts.take j).flatMap F).length ∧ OutTo wr (w.heap.size + 3) A2 k2 c2 ys2 (base ++ (d.parts.take j).flatMap F) ∧ MapF intE wr Try.prog 2 w5.heap.size 40 f' ∧ MemOk (cntF L out) n f' ∧ Below (w.heap.size + 3) w6 wr) (fun ov i wr => hh.parts.n - (intOf i).toNat)
        case atStart => exact ⟨0, k, Ao, co, ys, _, rfl, rfl, Nat.zero_le _, by rw [List.take_zero, List.flatMap_nil, List.append_nil]; exact hbl.out.symm, hto0.out, hmap0.out, MemOk.none _ _, Below.refl _ _⟩
        case round =>
          clear hmap0 hto0
          obtain ⟨j, k2, A2, c2, ys2, f', rfl, rfl, hj, hk2, hto2, hmap2, hmem2, hb2⟩ := hrel
          have hz2 := hb2.size
          have hBr : Below w.heap.size w wr := hB6.trans (hb2.mono (by omega))
          have HGr := (hb2.block w.heap.size (by omega)).trans HG6.out
          have HMr := (hb2.block (w.heap.size + 1) (by omega)).trans HM6.out
          have g0 : wr.cell? ⟨w.heap.size, 0, none⟩ = some (.int .i64 u) := by rw [Go.Joins.cell_of_block HGr]; rfl
          have g1 : wr.cell? ⟨w.heap.size, 1, none⟩ = some (.slice (some ⟨b1, f1, none⟩) n c) := by rw [Go.Joins.cell_of_block HGr]; rfl
          have hzr : w.heap.size + 1 < wr.heap.size := by omega
          have hzr0 : w.heap.size < wr.heap.size := by omega
          have hk12 := hle12 j
          rw [← hk2] at hk12
          replace hk2 := Lib.hid hk2
          replace hto2 := Lib.hid hto2
          replace hmem2 := Lib.hid hmem2
          by_cases hjl : j < hh.parts.n
          · obtain ⟨p1, o1, ⟨y0, y1, y2⟩, hA, _, hpw, hjb, hcs⟩ := (hrg.out.2.1.frame (good_flat _) (Below.sameB hBr hhi)).at hjl
            have q0 := hcs 0 _ rfl
            have q1 := hcs 1 _ rfl
            have q2 := hcs 2 _ rfl
            simp only [Nat.add_zero] at q0 q1 q2
            have hpw' : p1 < wr.heap.size := by omega
            have hmemp := List.mem_of_getElem? hjb
            obtain ⟨sN, hst, hsN⟩ := part_at ho.out hx.out hja'.out hmemp
            have hcy := part_le ho.out hx.out hja'.out hc12 hmemp
            obtain ⟨hgb1, hgb2⟩ := hg4.out _ hmemp
            dsimp only at hgb1 hgb2 hsN hcy
            have hzb := cntF_bd L out y0
            have hcall := Lib.hid (loopCount_any u (some ⟨b1, f1, none⟩) n c lo hi w5.heap.size L out ho.out hl.out hn (fun g hg => ⟨(hB.out g hg).1, (hB.out g hg).2.2.1⟩) (by omega) sN y0 f' (wr.alloc (.cells #[.int .i64 y0, .int .i64 y1, .int .i64 y2] 42 (0, 0))) hsN (hmap2.alloc _) hmem2.out ((hr.out.frame good_glyph (Below.sameB hBr hhi)).frame good_glyph (SameB.alloc (SameB.refl lo hi wr) (by omega) _)) (by simp; omega))
            have hih := Lib.hid (fun (W : World) (hBW : Below w.heap.size w W) => ih.out sN hst y0 (m1 + y1) (m2 + y2) W hsN hcy (by omega) (by omega) (hr.out.frame good_glyph (Below.sameB hBW hhi)) (Nat.le_trans hhi hBW.size))
            have hnx : base ++ (d.parts.take (j + 1)).flatMap F = (base ++ (d.parts.take j).flatMap F) ++ F (y0, y1, y2) := by rw [take_snoc hjb, List.flatMap_append, ← List.append_assoc]; simp
            have hFy : F (y0, y1, y2) = if 0 < cntF L out y0 then wholeF L (cntF L out) out y0 (m1 + y1, m2 + y2) else [] := by rw [hF.out]
            have hle1 := hle12 (j + 1)
            rw [hnx, List.length_append, ← hk2.out] at hle1
            rw [hA]
            replace hA := Lib.hid hA
            replace hsN := Lib.hid hsN
            replace hjb := Lib.hid hjb
            replace hnx := Lib.hid hnx
            replace hFy := Lib.hid hFy
            have hj0 : (0 : Int) ≤ (j : Int) ∧ (j : Int) < (hh.parts.n : Int) := by omega
            clear hcs hmemp
            go_wp2_with fail
            refine hcall.out.mono ?_
            rintro e w8 ⟨f2, rfl, hm8, hme8, hg8⟩
            have hgr8 : wr.grownBy w8 (some w5.heap.size) := grown_trans (World.grownBy_alloc wr _ _) hg8
            have hz8 := hg8.size
            simp at hz8
            have hto8 := Lib.hid (hto2.out.map hmap2 hgr8)
            have hb8 : Below (w.heap.size + 3) w6 w8 := hb2.grown hgr8 (by omega) (fun k hk => by cases hk; omega)
            have hB8 : Below w.heap.size w w8 := hB6.trans (hb8.mono (by omega))
            have HP8 := (hg8.block wr.heap.size (by simp) (by intro e; injection e with e; have := hmap2.lt; omega)).trans (heap_alloc_new wr _)
            have e0 : w8.cell? ⟨wr.heap.size, 0, none⟩ = some (.int .i64 y0) := by rw [Go.Joins.cell_of_block HP8]; rfl
            have e1 : w8.cell? ⟨wr.heap.size, 1, none⟩ = some (.int .i64 y1) := by rw [Go.Joins.cell_of_block HP8]; rfl
            have e2 : w8.cell? ⟨wr.heap.size, 2, none⟩ = some (.int .i64 y2) := by rw [Go.Joins.cell_of_block HP8]; rfl
            have HG8 := (hb8.block w.heap.size (by omega)).trans HG6.out
            have HM8 := (hb8.block (w.heap.size + 1) (by omega)).trans HM6.out
            have g80 : w8.cell? ⟨w.heap.size, 0, none⟩ = some (.int .i64 u) := by rw [Go.Joins.cell_of_block HG8]; rfl
            have g81 : w8.cell? ⟨w.heap.size, 1, none⟩ = some (.slice (some ⟨b1, f1, none⟩) n c) := by rw [Go.Joins.cell_of_block HG8]; rfl
            have cm1 : w8.cell? ⟨w.heap.size + 1, 0, none⟩ = some (.int .i64 m1) := by rw [Go.Joins.cell_of_block HM8]; rfl
            have cm2 : w8.cell? ⟨w.heap.size + 1, 1, none⟩ = some (.int .i64 m2) := by rw [Go.Joins.cell_of_block HM8]; rfl
            have a1 : IntKind.i64.wrap (m1 + y1) = m1 + y1 := IntWalk.i64_in _ (by omega)
            have a2 : IntKind.i64.wrap (m2 + y2) = m2 + y2 := IntWalk.i64_in _ (by omega)
            have hlr8 : wr.heap.size < w8.heap.size := by omega
            have hlm8 : w.heap.size + 1 < w8.heap.size := by omega
            have hlg8 : w.heap.size < w8.heap.size := by omega
            replace hm8 := Lib.hid hm8
            replace hme8 := Lib.hid hme8
            clear hcall hmap2 hto2 q0 q1 q2 g0 g1 HGr HMr HP8 HG8 HM8 hgr8 hg8
            obtain ⟨z, hz⟩ : ∃ z, z = cntF L out y0 := ⟨_, rfl⟩
            rw [← hz] at hzb ⊢
            have hFz := hFy.out
            rw [← hz] at hFz
            replace hz := Lib.hid hz
            by_cases hz0 : 0 < z
            · rw [if_pos hz0] at hFz
              replace hFz := Lib.hid hFz
              go_wp2_with fail
              refine (hih.out w8 hB8).mono ?_
              rintro e w9 ⟨A3, k3, c3, ys3, rfl, hk3, hto3, hb9⟩
              have hz9 := hb9.size
              rw [hFz.out, ← hk3] at hle1
              have ho9 := Lib.hid (own_below hto8.out.1 hb9)
              have hs9 := Lib.hid (src_own hto3.1 (hto3.one hk3.symm))
              have hm9 := Lib.hid (hm8.out.below hb9)
              have hb69 := hb8.trans (hb9.mono (by omega))
              replace hto3 := Lib.hid hto3
              replace hk3 := Lib.hid hk3
              clear e0 e1 e2 g80 g81 cm1 cm2 hih
              go_wp2_with (at_builtin; refine wpAppAt rfl (.tmp 81) (.tmp 98) elemLoop rfl (v := .slice A2 k2 c2) (n := k2) (xs := ys2) rfl ho9.out rfl hs9.out (by omega) (by omega) (by omega) (k2 + k3) rfl ?_; intro A4 c4 w10 ho10 hg10 hv10; clear hv10; have hz10 := hg10.size; replace ho10 := Lib.hid ho10; replace hg10 := Lib.hid hg10)
              go_roundw
              case rel =>
                have hto10 := OutTo.join hto8.out hk2.out.symm hb9 hto3.out hk3.out.symm (Nat.le_refl _) (by omega) ho10.out hg10.out
                exact ⟨j + 1, k2 + k3, A4, c4, _, f2, by go_num, rfl, by omega, by rw [hnx.out, hFz.out, List.length_append, ← hk2.out, ← hk3.out], by rw [hnx.out, hFz.out]; exact hto10, hm9.out.kept hg10.out (map_ne_own hm9.out ho9.out), hme8.out, hb69.trans (below_app ho9.out hg10.out (by omega))⟩
              case measure => simp [intOf]; omega
            · rw [if_neg hz0] at hFz
              replace hFz := Lib.hid hFz
              go_wp2_with fail
              go_roundw
              case rel => exact ⟨j + 1, k2, A2, c2, ys2, f2, by go_num, rfl, by omega, by rw [hnx.out, hFz.out, List.append_nil]; exact hk2.out, by rw [hnx.out, hFz.out, List.append_nil]; exact hto8.out, hm8.out, hme8.out, hb8⟩
              case measure => simp [intOf]; omega
          · have hjn : j = hh.parts.n := by omega
            have hfull : d.parts.take j = d.parts := List.take_of_length_le (by rw [hrg.out.2.1.1]; omega)
            have hkf := hk2.out
            have htf := hto2.out
            rw [hfull, ← hWx.out] at hkf htf
            replace hfull := Lib.hid hfull
            replace hkf := Lib.hid hkf
            replace htf := Lib.hid htf
            clear hk2 hto2
            go_wp2_with fail
            go_ret
            exact ⟨A2, k2, c2, ys2, rfl, hkf.out, htf.out.base (by omega), hBr⟩
end Go.Proofs.Ytgngcllodofimaa

/- The whole outline of a glyph: the reference's doors. Printed by mk_wht.py. Conditions: as each states. -/
namespace Go.Proofs.Ytgngcllodofimaa
open Go.RowKit
set_option linter.unusedVariables false
set_option maxRecDepth 100000

theorem out_bd {Ls : List (List Knot)} (h : outOk Ls = true) : Ls.length ≤ 12 ∧ ∀ K ∈ Ls, K.length ≤ 60 ∧ ∀ q ∈ K, (-262144 ≤ q.1 ∧ q.1 ≤ 262144) ∧ (-262144 ≤ q.2.1 ∧ q.2.1 ≤ 262144) := by
  simp only [outOk, Bool.and_eq_true, List.all_eq_true, decide_eq_true_eq] at h
  refine ⟨h.2, fun K hK => ⟨?_, fun q hq => ?_⟩⟩
  · have h3 := h.1 K hK
    simp only [loopOk, Bool.and_eq_true] at h3
    have := (inB_iff.1 h3.1.1).2
    omega
  · have h3 := h.1 K hK
    simp only [loopOk, Bool.and_eq_true, List.all_eq_true] at h3
    exact ptOk_iff.1 (h3.2 q hq)
theorem set_glb {d : GSet} (h : setOk d = true) : ∀ g ∈ d.gl, GlB g := fun g hg => by
  have h1 := glyph_is ((set_is h).2.1 g hg)
  obtain ⟨h2, h3⟩ := out_bd h1.1
  refine ⟨h2, h3, h1.2.1, fun r hr => ?_⟩
  have h4 := h1.2.2.2.2.1 r hr
  simp only [partOk, Bool.and_eq_true] at h4
  exact ptOk_iff.1 h4.2
theorem wholeF_bd {L : List Gl} {out : List Int} {C : Int → Int} (ho : Ord (tgts L) out) (hB : ∀ g ∈ L, GlB g) : ∀ (t : Nat) (x : Int), out[t]? = some x → ∀ (m : Int × Int), ∀ K ∈ wholeF L C out x m, K.length ≤ 60 := by
  intro t
  induction t using Nat.strongRecOn with
  | ind t ih =>
    intro x hx m K hK
    obtain ⟨h0, h1⟩ := ho.rng x (List.mem_of_getElem? hx)
    rw [tgts_length] at h1
    have hg : L[x.toNat]? = some L[x.toNat] := List.getElem?_eq_getElem h1
    rw [wholeF_at ho hx hg] at hK
    rcases List.mem_append.1 hK with hK | hK
    · obtain ⟨K', h2, rfl⟩ := List.mem_map.1 hK
      rw [List.length_map]
      exact ((hB _ (List.mem_of_getElem? hg)).2.1 K' h2).1
    · obtain ⟨p, h2, h3⟩ := List.mem_flatMap.1 hK
      obtain ⟨s, hs, hso⟩ := part_at ho hx hg h2
      split at h3
      · exact ih s hs p.1 hso _ K h3
      · cases h3
def whoW (d : GSet) (x : Int) : List (List Knot) := wholeF d.gl (cntF d.gl (order (tgts d.gl))) (order (tgts d.gl)) x (0, 0)
def whoF (d : GSet) (x : Int) : List (List Knot) × Int := if 12 < cntF d.gl (order (tgts d.gl)) x then ([], 5) else if outOk (whoW d x) then (whoW d x, 0) else ([], 2)
def whoR (d : GSet) (x : Int) : List (List Knot) × Int := if askR d x = 0 then whoF d x else ([], askR d x)
theorem own_emptyW (w : World) (lo : Nat) : OutOwn w lo none 0 0 [] := ⟨[], rfl, World.ownsRow_nil _ _ _ _, fun j K h => by simp at h, fun i j u v _ h => by simp at h⟩

set_option maxHeartbeats 8000000 in
theorem l17Outline_any (p o : Nat) (d : GSet) (h : GSetH) (x : Int) (hx0 : 0 ≤ x) (hxl : x < d.gl.length) (lo hi : Nat) (w : World) (hp0 : p < w.heap.size) (k1 : w.cell? ⟨p, o + 1, none⟩ = some (.slice h.gl.A h.gl.n h.gl.c)) (hr : GSetRd w lo hi d h) (hhi : hi ≤ w.heap.size) (hok : setOk d = true) (R : List (List Knot) × Int) (hR : R = whoF d x) :
    Calls Try.prog 125 #[.pointer (some ⟨p, o, none⟩), .int .i64 x] w fun e w' => ∃ A' n' c', e = .returned (.tuple #[.agg #[.slice A' n' c'], .int .i64 R.2]) ∧ OutOwn w' w.heap.size A' n' c' R.1 ∧ Below w.heap.size w w' := by
  have hB0 : Below w.heap.size w (w.alloc (.cells #[.slice none 0 0] 46 (0, 0))) := Go.Joins.below_alloc1 _ _
  have hz0 : (w.alloc (.cells #[.slice none 0 0] 46 (0, 0))).heap.size = w.heap.size + 1 := by simp
  have hnb := heap_alloc_new w (.cells #[.slice none 0 0] 46 (0, 0))
  have hcnt := Lib.hid (l17Counts_any p o d h lo hi (w.alloc (.cells #[.slice none 0 0] 46 (0, 0))) (by omega) ((hB0.cell (by simp; omega)).trans k1) (hr.frame good_glyph (SameB.alloc (SameB.refl _ _ _) hhi _)) (by omega) hok)
  have hl := hr.1
  have hn40 := (set_is hok).1
  have hfull := (set_is hok).2.2
  obtain ⟨t, ht⟩ := ord_at hfull hx0 hxl
  generalize hw0 : w.alloc (.cells #[.slice none 0 0] 46 (0, 0)) = w0 at *
  replace hw0 := Lib.hid hw0
  obtain ⟨xn, hxn⟩ : ∃ xn : Nat, (xn : Int) = x := ⟨x.toNat, by omega⟩
  subst hxn
  have hxi : (xn : Int) < (h.gl.n : Int) := by omega
  have hxN : xn < h.gl.n := by omega
  obtain ⟨C, hC⟩ : ∃ C, C = cntF d.gl (order (tgts d.gl)) (xn : Int) := ⟨_, rfl⟩
  go_enter Try.func125, Try.ntmps125
  go_wp2_with fail
  rw [hw0.out]
  refine hcnt.out.mono ?_
  rintro e w1 ⟨B, rfl, hdep, hb1⟩
  have hz1 := hb1.size
  have hB1 : Below w.heap.size w w1 := hB0.trans (hb1.mono (by omega))
  obtain ⟨cB, _, hBl⟩ := hdep.at hxN
  rw [← hC] at cB
  have HR := (hb1.block w.heap.size (by omega)).trans hnb
  have cR : w1.cell? ⟨w.heap.size, 0, none⟩ = some (.slice none 0 0) := by rw [Go.Joins.cell_of_block HR]; rfl
  have fR : ∀ o, w1.frozen? ⟨w.heap.size, o, none⟩ = false := Go.Joins.unfrozen_of_block HR
  have hRl : w.heap.size < w1.heap.size := by omega
  by_cases h12 : 12 < C
  · have hm' : R = ([], 5) := by rw [hR, whoF, ← hC, if_pos h12]
    subst hm'
    clear hR
    go_wp2_with fail
    refine bodyPost_ret (v := .tuple #[.agg #[.slice none 0 0], .int .i64 5]) (by simp [results, Try.results125, go_sem, cR]) rfl ⟨none, 0, 0, rfl, own_emptyW _ _, hB1.setCell (p := ⟨w.heap.size, 0, none⟩) (Nat.le_refl _) _⟩
  · obtain ⟨v2, hv2⟩ : ∃ v, v = outOk (whoW d xn) := ⟨_, rfl⟩
    have hm' : R = if v2 then (whoW d xn, 0) else ([], 2) := by rw [hR, whoF, ← hC, if_neg h12, ← hv2]
    clear hR
    replace hm' := Lib.hid hm'
    go_wp2_with fail
    have hz3 : ((w1.alloc (.cells #[] 145 (0, 0))).alloc (.cells #[.slice (some ⟨w1.heap.size, 0, none⟩) 0 0] 46 (0, 0))).heap.size = w1.heap.size + 2 := by simp
    have hb13 : Below w1.heap.size w1 ((w1.alloc (.cells #[] 145 (0, 0))).alloc (.cells #[.slice (some ⟨w1.heap.size, 0, none⟩) 0 0] 46 (0, 0))) := Go.Joins.below_alloc2 _ _ _
    have hwo : WO ((w1.alloc (.cells #[] 145 (0, 0))).alloc (.cells #[.slice (some ⟨w1.heap.size, 0, none⟩) 0 0] 46 (0, 0))) (w1.heap.size + 1) w1.heap.size [] (some ⟨w1.heap.size, 0, none⟩) 0 [] := by
      refine ⟨⟨World.ownsRow.alloc (World.ownsRow_made w1 #[] 0 (Nat.le_refl _) (Nat.zero_le _) rfl) _, fun j K hj => absurd hj (Nat.not_lt_zero j), fun i j u v _ hu => by simp at hu⟩, ?_, by rw [hz3]; omega, Nat.le_succ _⟩
      have := heap_alloc_new (w1.alloc (.cells #[] 145 (0, 0))) (.cells #[.slice (some ⟨w1.heap.size, 0, none⟩) 0 0] 46 (0, 0))
      rw [show (w1.alloc (.cells #[] 145 (0, 0))).heap.size = w1.heap.size + 1 by simp] at this
      exact this
    have htl := (List.getElem?_eq_some_iff.1 ht).1
    have hcall := l17Whole_any p o B h.gl.A h.gl.n h.gl.c lo hi d.gl (order (tgts d.gl)) (order_ord _) hl (by omega) (set_glb hok) t xn 0 0 (w1.heap.size + 1) w1.heap.size [] (some ⟨w1.heap.size, 0, none⟩) 0 [] ((w1.alloc (.cells #[] 145 (0, 0))).alloc (.cells #[.slice (some ⟨w1.heap.size, 0, none⟩) 0 0] 46 (0, 0))) ht (by rw [← hC]; omega) (by rw [← hC]; simp; omega) (by omega) (by omega) ((hb13.cell (p := ⟨p, o + 1, none⟩) (by simp; omega)).trans ((hB1.cell (p := ⟨p, o + 1, none⟩) (by simp; omega)).trans k1)) (fun j hj => (hb13.cell (p := ⟨B, j, none⟩) (by simp; omega)).trans (hdep.at hj).1) ((hr.frame good_glyph (Below.sameB hB1 hhi)).frame good_glyph (Below.sameB hb13 (by omega))) (by omega) (by omega) (by omega) hwo
    refine hcall.mono ?_
    clear hcall
    rintro e w4 ⟨rfl, ⟨A4, c4, ys4, hwo4⟩, hb4, _⟩
    have hz4 := hb4.size
    rw [List.nil_append] at hwo4
    change WO w4 _ _ (whoW d xn) A4 c4 ys4 at hwo4
    have hb14 := hb13.trans hb4
    have hB4 : Below w.heap.size w w4 := hB1.trans (hb14.mono (by omega))
    have hown : OutOwn w4 w1.heap.size A4 (whoW d xn).length c4 (whoW d xn) := ⟨ys4, rfl, hwo4.1.1, fun j K hj => hwo4.1.2.1 j K (List.getElem?_eq_some_iff.1 hj).1 hj, hwo4.1.2.2⟩
    have hKb : ∀ K ∈ whoW d xn, K.length ≤ 60 := wholeF_bd (order_ord _) (set_glb hok) t xn ht (0, 0)
    have hnb2 : ((whoW d xn).length : Int) = C := by
      rw [hC]
      refine wholeF_len (order_ord _) t xn ht (by obtain ⟨h0, h1⟩ := (order_ord (tgts d.gl)).rng _ (List.mem_of_getElem? ht); rw [tgts_length] at h1; exact ⟨_, List.getElem?_eq_getElem h1⟩) (fun t' y hy => by obtain ⟨h0, h1⟩ := (order_ord (tgts d.gl)).rng _ (List.mem_of_getElem? hy); rw [tgts_length] at h1; exact ⟨_, List.getElem?_eq_getElem h1⟩) (0, 0) (by rw [← hC]; omega)
    have cX : w4.cell? ⟨w1.heap.size + 1, 0, none⟩ = some (.slice A4 (whoW d xn).length c4) := by rw [Go.Joins.cell_of_block hwo4.2.1]; rfl
    have hval := Lib.hid (l10Ok_any (w1.heap.size + 1) A4 (whoW d xn).length c4 w1.heap.size w4.heap.size (whoW d xn) v2 hv2 w4 hwo4.2.2.1 cX (hown.rd (fun K hK => by have := hKb K hK; unfold maxLen; omega)) (Nat.le_refl _) (by omega) (fun K hK => by have := hKb K hK; omega))
    obtain ⟨n4, hn4⟩ : ∃ n4, n4 = (whoW d xn).length := ⟨_, rfl⟩
    have hXl := hwo4.2.2.1
    rw [← hn4] at cX hown
    replace hn4 := Lib.hid hn4
    replace hv2 := Lib.hid hv2
    clear hwo hwo4 hKb hnb2 htl hdep cB hcnt
    go_wp2_with fail
    refine hval.out.mono ?_
    rintro e w5 ⟨rfl, hb5⟩
    have hz5 := hb5.size
    have hB5 := hB4.trans (hb5.mono hB4.size)
    have hb15 := hb14.trans (hb5.mono hb14.size)
    have HR5 := (hb15.block w.heap.size hRl).trans HR
    have cR5 : w5.cell? ⟨w.heap.size, 0, none⟩ = some (.slice none 0 0) := by rw [Go.Joins.cell_of_block HR5]; rfl
    have fR5 : ∀ o, w5.frozen? ⟨w.heap.size, o, none⟩ = false := Go.Joins.unfrozen_of_block HR5
    have hR5l : w.heap.size < w5.heap.size := by omega
    have cX5 := (hb5.cell (p := ⟨w1.heap.size + 1, 0, none⟩) (by simp; omega)).trans cX
    have hX5 : w1.heap.size + 1 < w5.heap.size := by omega
    clear cR fR cX hval
    cases v2 with
    | false =>
      have hmm := hm'.out
      simp only [Bool.false_eq_true, if_false] at hmm
      subst hmm
      go_wp2_with fail
      refine bodyPost_ret (v := .tuple #[.agg #[.slice none 0 0], .int .i64 2]) (by simp [results, Try.results125, go_sem, cR5]) rfl ⟨none, 0, 0, rfl, own_emptyW _ _, hB5.setCell (p := ⟨w.heap.size, 0, none⟩) (Nat.le_refl _) _⟩
    | true =>
      have hmm := hm'.out
      simp only [if_true] at hmm
      subst hmm
      have ho5 := Lib.hid (hown.kept hb5)
      clear hown
      go_wp2_with fail
      refine bodyPost_ret (v := .tuple #[.agg #[.slice A4 n4 c4], .int .i64 0]) (by simp [results, Try.results125, go_sem, cR5]) rfl ⟨A4, n4, c4, rfl, ?_, hB5.setCell (p := ⟨w.heap.size, 0, none⟩) (Nat.le_refl _) _⟩
      obtain ⟨ys, g1, g2, g3, g4⟩ := ho5.out
      exact ⟨ys, g1, own_lower (ownsRow_setCell_below g2 (show w.heap.size < w1.heap.size by omega) _) (by omega), fun j K hj => by obtain ⟨Aj, cj, g5, g6⟩ := g3 j K hj; exact ⟨Aj, cj, g5, own_lower (ownsRow_setCell_below g6 (show w.heap.size < w1.heap.size by omega) _) (by omega)⟩, g4⟩

set_option maxHeartbeats 4000000 in
theorem specWhole_any (d : GSet) (h : GSetH) (x : Int) (R : List (List Knot) × Int) (hR : R = whoR d x) (lo hi : Nat) (w : World) (hr : GSetRd w lo hi d h) (hhi : hi ≤ w.heap.size) (hm : d.small 1000000000) (hs : ∀ g ∈ d.gl, g.str) :
    Calls Try.prog 52 #[gsV d h, .int .i64 x] w fun e w' => ∃ A' n' c', e = .returned (.tuple #[.agg #[.slice A' n' c'], .int .i64 R.2]) ∧ OutOwn w' w.heap.size A' n' c' R.1 ∧ Below w.heap.size w w' := by
  have hnew := heap_new2 w (.cells #[.int .i64 d.unit, .slice h.gl.A h.gl.n h.gl.c] 39 (0, 0)) (.cells #[.slice none 0 0] 46 (0, 0))
  have hB0 : Below w.heap.size w ((w.alloc (.cells #[.int .i64 d.unit, .slice h.gl.A h.gl.n h.gl.c] 39 (0, 0))).alloc (.cells #[.slice none 0 0] 46 (0, 0))) := Go.Joins.below_alloc2 _ _ _
  have hz0 : ((w.alloc (.cells #[.int .i64 d.unit, .slice h.gl.A h.gl.n h.gl.c] 39 (0, 0))).alloc (.cells #[.slice none 0 0] 46 (0, 0))).heap.size = w.heap.size + 2 := by simp
  generalize hw0 : ((w.alloc (.cells #[.int .i64 d.unit, .slice h.gl.A h.gl.n h.gl.c] 39 (0, 0))).alloc (.cells #[.slice none 0 0] 46 (0, 0))) = w0 at *
  replace hw0 := Lib.hid hw0
  have k0 : w0.cell? ⟨w.heap.size, 0, none⟩ = some (.int .i64 d.unit) := by rw [Go.Joins.cell_of_block hnew.1]; rfl
  have k1 : w0.cell? ⟨w.heap.size, 0 + 1, none⟩ = some (.slice h.gl.A h.gl.n h.gl.c) := by rw [Go.Joins.cell_of_block hnew.1]; rfl
  have hask := Lib.hid (l17Ask_any w.heap.size 0 d h x _ rfl lo hi w0 (by omega) k0 k1 (hr.frame good_glyph (Below.sameB hB0 hhi)) (by omega) hm hs)
  obtain ⟨q, hq⟩ : ∃ q, q = askR d x := ⟨_, rfl⟩
  rw [← hq] at hask
  have hzl : w0.heap.size ≤ w.heap.size + 2 := by omega
  have hzg : w.heap.size + 2 ≤ w0.heap.size := by omega
  clear hz0
  by_cases hq0 : q = 0
  · have hin : setOk d = true ∧ 0 ≤ x ∧ x < d.gl.length := by
      rw [hq] at hq0
      unfold askR at hq0
      split at hq0
      · rename_i h1
        split at hq0
        · rename_i h2; exact ⟨h1, h2⟩
        · cases hq0
      · cases hq0
    have hRF : R = whoF d x := by rw [hR, whoR, ← hq, hq0, if_pos rfl]
    subst hq0
    have hout := Lib.hid (fun W (hS : Below w0.heap.size w0 W) => l17Outline_any w.heap.size 0 d h x hin.2.1 hin.2.2 lo hi W (by have := hS.size; omega) ((hS.cell (by simp; omega)).trans k1) (hr.frame good_glyph (Below.sameB (hB0.trans (hS.mono (by omega))) hhi)) (by have := hS.size; omega) hin.1 R hRF)
    clear hR hq hin hRF hr hm hs k0 k1
    go_enter Try.func52, Try.ntmps52
    go_wp2_with fail
    rw [hw0.out]
    refine hask.out.mono ?_
    rintro e w1 ⟨rfl, hb1⟩
    have hz1 := hb1.size
    go_wp2_with fail
    refine (hout.out _ hb1).mono ?_
    rintro e w2 ⟨A2, n2, c2, rfl, ho2, hb2⟩
    have hz2 := hb2.size
    have hb12 := hb1.trans (hb2.mono hz1)
    have hB2 : Below w.heap.size w w2 := hB0.trans (hb12.mono (by omega))
    have HR := (hb12.block (w.heap.size + 1) (by omega)).trans hnew.2
    have cR : w2.cell? ⟨w.heap.size + 1, 0, none⟩ = some (.slice none 0 0) := by rw [Go.Joins.cell_of_block HR]; rfl
    have fR : ∀ o, w2.frozen? ⟨w.heap.size + 1, o, none⟩ = false := Go.Joins.unfrozen_of_block HR
    have hRl : w.heap.size + 1 < w2.heap.size := by omega
    replace ho2 := Lib.hid ho2
    clear hask hout hb1 hb2 hb12 hnew
    go_wp2_with fail
    refine bodyPost_ret (v := .tuple #[.agg #[.slice A2 n2 c2], .int .i64 R.2]) (by simp [results, Try.results52, go_sem, cR]) rfl ⟨A2, n2, c2, rfl, ?_, hB2.setCell (p := ⟨w.heap.size + 1, 0, none⟩) (by simp) _⟩
    obtain ⟨ys, g1, g2, g3, g4⟩ := ho2.out
    exact ⟨ys, g1, own_lower (ownsRow_setCell_below g2 (show w.heap.size + 1 < w1.heap.size by omega) _) (by omega), fun j K hj => by obtain ⟨Aj, cj, g5, g6⟩ := g3 j K hj; exact ⟨Aj, cj, g5, own_lower (ownsRow_setCell_below g6 (show w.heap.size + 1 < w1.heap.size by omega) _) (by omega)⟩, g4⟩
  · have hm' : R = ([], q) := by rw [hR, whoR, ← hq, if_neg hq0]
    subst hm'
    clear hR hq hr hm hs k0 k1
    go_enter Try.func52, Try.ntmps52
    go_wp2_with fail
    rw [hw0.out]
    refine hask.out.mono ?_
    rintro e w1 ⟨rfl, hb1⟩
    have hz1 := hb1.size
    have hB1 : Below w.heap.size w w1 := hB0.trans (hb1.mono (by omega))
    have HR := (hb1.block (w.heap.size + 1) (by omega)).trans hnew.2
    have cR : w1.cell? ⟨w.heap.size + 1, 0, none⟩ = some (.slice none 0 0) := by rw [Go.Joins.cell_of_block HR]; rfl
    have fR : ∀ o, w1.frozen? ⟨w.heap.size + 1, o, none⟩ = false := Go.Joins.unfrozen_of_block HR
    have hRl : w.heap.size + 1 < w1.heap.size := by omega
    clear hask hb1 hnew
    go_wp2_with fail
    refine bodyPost_ret (v := .tuple #[.agg #[.slice none 0 0], .int .i64 q]) (by simp [results, Try.results52, go_sem, cR]) rfl ⟨none, 0, 0, rfl, own_emptyW _ _, hB1.setCell (p := ⟨w.heap.size + 1, 0, none⟩) (by simp) _⟩
end Go.Proofs.Ytgngcllodofimaa

/- The whole outline of a glyph: the program's side. Conditions: as each states. -/
namespace Go.Proofs.Ytgngcllodofimaa
open Go.RowKit
set_option linter.unusedVariables false
set_option maxRecDepth 100000

set_option maxHeartbeats 8000000 in
theorem implWhole_any (d : GSet) (h : GSetH) (x : Int) (R : List (List Knot) × Int) (hR : R = whoR d x) (lo hi : Nat) (w : World) (hr : GSetRc w lo hi d h) (hhi : hi ≤ w.heap.size) (hm : d.small 1000000000) (hs : ∀ g ∈ d.gl, g.str) :
    Calls Try.prog 53 #[gsV d h, .int .i64 x] w fun e w' => ∃ A' n' c', e = .returned (.tuple #[.agg #[.slice A' n' c'], .int .i64 R.2]) ∧ OutOwn w' w.heap.size A' n' c' R.1 ∧ Below w.heap.size w w' := by
  have hnew := heap_new2 w (.cells #[.int .i64 d.unit, .slice h.gl.A h.gl.n h.gl.c] 39 (0, 0)) (.cells #[.slice none 0 0] 46 (0, 0))
  have hB0 : Below w.heap.size w ((w.alloc (.cells #[.int .i64 d.unit, .slice h.gl.A h.gl.n h.gl.c] 39 (0, 0))).alloc (.cells #[.slice none 0 0] 46 (0, 0))) := Go.Joins.below_alloc2 _ _ _
  have hz0 : ((w.alloc (.cells #[.int .i64 d.unit, .slice h.gl.A h.gl.n h.gl.c] 39 (0, 0))).alloc (.cells #[.slice none 0 0] 46 (0, 0))).heap.size = w.heap.size + 2 := by simp
  obtain ⟨w0, hw0⟩ : ∃ v, v = ((w.alloc (.cells #[.int .i64 d.unit, .slice h.gl.A h.gl.n h.gl.c] 39 (0, 0))).alloc (.cells #[.slice none 0 0] 46 (0, 0))) := ⟨_, rfl⟩
  rw [← hw0] at hnew hB0 hz0
  have k0 : w0.cell? ⟨w.heap.size, 0, none⟩ = some (.int .i64 d.unit) := by rw [Go.Joins.cell_of_block hnew.1]; rfl
  have k1 : w0.cell? ⟨w.heap.size, 1, none⟩ = some (.slice h.gl.A h.gl.n h.gl.c) := by rw [Go.Joins.cell_of_block hnew.1]; rfl
  have hzl : w0.heap.size ≤ w.heap.size + 2 := by omega
  have hzg : w.heap.size + 2 ≤ w0.heap.size := by omega
  clear hz0
  obtain ⟨q, hq⟩ : ∃ q, q = askR d x := ⟨_, rfl⟩
  obtain ⟨C, hC⟩ : ∃ C, C = if q = 0 then cntF d.gl (order (tgts d.gl)) x else 0 := ⟨_, rfl⟩
  have hc := Lib.hid (implLoopCount_any d h x C q (by unfold cntR; rw [hC, hq]) lo hi w0 (hr.frame good_glyphc (Below.sameB hB0 hhi)) (Nat.le_trans hhi hB0.size) hm hs)
  have hcs := ask_cases d x
  rw [← hq] at hcs
  have hwl : w.heap.size < w0.heap.size := by omega
  by_cases hq0 : q = 0
  rotate_left
  · have hm' : R = ([], q) := by rw [hR, whoR, ← hq, if_neg hq0]
    subst hm'
    clear hR hq hr hm hs hC hcs
    go_enter Try.func53, Try.ntmps53
    go_wp2_with fail
    rw [← hw0]
    go_wp2_with fail
    refine hc.out.mono ?_
    rintro e w1 ⟨rfl, hb1⟩
    have hz1 := hb1.size
    have hB1 : Below w.heap.size w w1 := hB0.trans (hb1.mono (by omega))
    have HR := (hb1.block (w.heap.size + 1) (by omega)).trans hnew.2
    have cR : w1.cell? ⟨w.heap.size + 1, 0, none⟩ = some (.slice none 0 0) := by rw [Go.Joins.cell_of_block HR]; rfl
    have fR : ∀ o, w1.frozen? ⟨w.heap.size + 1, o, none⟩ = false := Go.Joins.unfrozen_of_block HR
    have hRl : w.heap.size + 1 < w1.heap.size := by omega
    clear hc hb1 hnew k0 k1
    go_wp2_with fail
    refine bodyPost_ret (v := .tuple #[.agg #[.slice none 0 0], .int .i64 q]) (by simp [results, Try.results53, go_sem, cR]) rfl ⟨none, 0, 0, rfl, own_emptyW _ _, hB1.setCell (p := ⟨w.heap.size + 1, 0, none⟩) (by simp) _⟩
  · subst hq0
    obtain ⟨hok, hx0, hxl⟩ : setOk d = true ∧ 0 ≤ x ∧ x < d.gl.length := by
      rcases hcs with h1 | h1 | h1
      · cases h1
      · cases h1
      · exact h1.2
    have hRF : R = whoF d x := by rw [hR, whoR, ← hq, if_pos rfl]
    simp only [if_true] at hC
    have hl := hr.1
    obtain ⟨t, ht⟩ := ord_at (set_is hok).2.2 hx0 hxl
    have hn40 : h.gl.n ≤ 40 := by rw [← hl]; exact (set_is hok).1
    have hall : ∀ (t' : Nat) (y : Int), (order (tgts d.gl))[t']? = some y → ∃ g, d.gl[y.toNat]? = some g := fun t' y hy => by
      obtain ⟨h0, h1⟩ := (order_ord (tgts d.gl)).rng _ (List.mem_of_getElem? hy)
      rw [tgts_length] at h1
      exact ⟨_, List.getElem?_eq_getElem (by omega)⟩
    have hCb := cntF_bd d.gl (order (tgts d.gl)) x
    rw [← hC] at hCb
    have hlen : C ≤ 12 → ((whoW d x).length : Int) = C := fun h12 => by
      rw [hC]
      exact wholeF_len (order_ord _) t x ht (hall t x ht) hall (0, 0) (by rw [← hC]; exact h12)
    have hKb : ∀ K ∈ whoW d x, K.length ≤ 60 := wholeF_bd (order_ord _) (set_glb hok) t x ht (0, 0)
    have hwhole := Lib.hid (fun (W : World) (h12 : C ≤ 12) (hBW : Below w.heap.size w W) => wholeLoops_any d.unit h.gl.A h.gl.n h.gl.c lo hi d.gl (order (tgts d.gl)) (order_ord _) hl hn40 (set_glb hok) t x 0 0 W ht (by rw [← hC]; exact h12) (by have := (List.getElem?_eq_some_iff.1 ht).1; have := (order_ord (tgts d.gl)).le; rw [tgts_length] at this; omega) (by have := (List.getElem?_eq_some_iff.1 ht).1; have := (order_ord (tgts d.gl)).le; rw [tgts_length] at this; omega) (GsRc.rd (hr.frame good_glyphc (Below.sameB hBW hhi))) (Nat.le_trans hhi hBW.size))
    have hW : wholeF d.gl (cntF d.gl (order (tgts d.gl))) (order (tgts d.gl)) x (0, 0) = whoW d x := rfl
    rw [hW] at hwhole
    obtain ⟨v2, hv2⟩ : ∃ v, v = outOk (whoW d x) := ⟨_, rfl⟩
    have hRR : R = if 12 < C then ([], 5) else if v2 then (whoW d x, 0) else ([], 2) := by rw [hRF, whoF, ← hC, ← hv2]
    obtain ⟨Lw, hLw⟩ : ∃ l, l = whoW d x := ⟨_, rfl⟩
    rw [← hLw] at hlen hKb hwhole hv2 hRR
    replace hC := Lib.hid hC
    replace hLw := Lib.hid hLw
    replace hRR := Lib.hid hRR
    replace hv2 := Lib.hid hv2
    clear hR hRF hW hq hm hs hcs hall hr
    go_enter Try.func53, Try.ntmps53
    go_wp2_with fail
    rw [← hw0]
    go_wp2_with fail
    refine hc.out.mono ?_
    rintro e w1 ⟨rfl, hb1⟩
    have hz1 := hb1.size
    have hB1 : Below w.heap.size w w1 := hB0.trans (hb1.mono (by omega))
    have HR := (hb1.block (w.heap.size + 1) (by omega)).trans hnew.2
    have cR : w1.cell? ⟨w.heap.size + 1, 0, none⟩ = some (.slice none 0 0) := by rw [Go.Joins.cell_of_block HR]; rfl
    have fR : ∀ o, w1.frozen? ⟨w.heap.size + 1, o, none⟩ = false := Go.Joins.unfrozen_of_block HR
    have hRl : w.heap.size + 1 < w1.heap.size := by omega
    by_cases h12 : 12 < C
    · have hm' := hRR.out
      rw [if_pos h12] at hm'
      subst hm'
      clear hc hb1 hnew k0 k1
      go_wp2_with fail
      refine bodyPost_ret (v := .tuple #[.agg #[.slice none 0 0], .int .i64 5]) (by simp [results, Try.results53, go_sem, cR]) rfl ⟨none, 0, 0, rfl, own_emptyW _ _, hB1.setCell (p := ⟨w.heap.size + 1, 0, none⟩) (by simp) _⟩
    have hm' := hRR.out
    rw [if_neg h12] at hm'
    have hm2 := Lib.hid hm'
    have hl12 := hlen (by omega)
    clear hm'
    by_cases hC0 : 0 < C
    · have j0 : w1.cell? ⟨w.heap.size, 0, none⟩ = some (.int .i64 d.unit) := (hb1.cell (by simp; omega)).trans k0
      have j1 : w1.cell? ⟨w.heap.size, 1, none⟩ = some (.slice h.gl.A h.gl.n h.gl.c) := (hb1.cell (by simp; omega)).trans k1
      have hwl1 : w.heap.size < w1.heap.size := by omega
      go_wp2_with fail
      refine (hwhole.out _ (by omega) (hB1.alloc hB1.size _)).mono ?_
      rintro e w2 ⟨A2, k2, c2, ys2, rfl, hk2, hto2, hb2⟩
      have hzW : (w1.alloc (.cells #[.slice none 0 0] 46 (0, 0))).heap.size = w1.heap.size + 1 := by simp
      rw [hzW] at hto2 hb2
      have hz2 := hb2.size
      rw [hzW] at hz2
      have hown : OutOwn w2 (w1.heap.size + 1) A2 k2 c2 Lw := ⟨ys2, hk2.symm, hto2.1, fun j K hj => hto2.2.1 j K (by rw [hk2]; exact (List.getElem?_eq_some_iff.1 hj).1) hj, hto2.2.2⟩
      have hB2 : Below w.heap.size w w2 := (hB1.alloc hB1.size _).trans (hb2.mono (by omega))
      have HX := (hb2.block w1.heap.size (by omega)).trans (heap_alloc_new w1 _)
      have fX : ∀ o, w2.frozen? ⟨w1.heap.size, o, none⟩ = false := Go.Joins.unfrozen_of_block HX
      have hXl : w1.heap.size < w2.heap.size := by omega
      have cX : w2.cell? ⟨w1.heap.size, 0, none⟩ = some (.slice none 0 0) := by rw [Go.Joins.cell_of_block HX]; rfl
      have HR2 := ((hb2.block (w.heap.size + 1) (by omega)).trans ((Below.heap_alloc w1 _ (w.heap.size + 1) (by omega)))).trans HR
      have fR2 : ∀ o, w2.frozen? ⟨w.heap.size + 1, o, none⟩ = false := Go.Joins.unfrozen_of_block HR2
      have cR2 : w2.cell? ⟨w.heap.size + 1, 0, none⟩ = some (.slice none 0 0) := by rw [Go.Joins.cell_of_block HR2]; rfl
      have hRl2 : w.heap.size + 1 < w2.heap.size := by omega
      have hown3 := hown.stored_below (a := ⟨w1.heap.size, 0, none⟩) (by simp) (.slice A2 k2 c2)
      have hk12 : k2 ≤ 12 := by omega
      have hval := Lib.hid (validOutline_any A2 k2 c2 (w1.heap.size + 1) (w2.setCell ⟨w1.heap.size, 0, none⟩ (.slice A2 k2 c2)).heap.size Lw v2 hv2.out _ (hown3.rd (fun K hK => by have := hKb K hK; unfold maxLen; omega)) (Nat.le_refl _) (by omega) (fun K hK => by have := hKb K hK; omega))
      replace hown3 := Lib.hid hown3
      replace hk2 := Lib.hid hk2
      clear hc hb1 k0 k1 j0 j1 hown hto2 hwhole
      go_wp2_with fail
      refine hval.out.mono ?_
      rintro e w3 ⟨rfl, hb3⟩
      have hzs : (w2.setCell ⟨w1.heap.size, 0, none⟩ (.slice A2 k2 c2)).heap.size = w2.heap.size := by simp
      have hz3 := hb3.size
      rw [hzs] at hz3 hb3
      have HX3 : w3.heap[w1.heap.size]? = some (.cells #[.slice A2 k2 c2] 46 (0, 0)) := (hb3.block w1.heap.size (by omega)).trans (Go.Joins.block_setCell HX _)
      have cX3 : w3.cell? ⟨w1.heap.size, 0, none⟩ = some (.slice A2 k2 c2) := by rw [Go.Joins.cell_of_block HX3]; rfl
      have HR3 := ((hb3.block (w.heap.size + 1) (by omega)).trans (Below.heap_setCell w2 ⟨w1.heap.size, 0, none⟩ _ (w.heap.size + 1) (by simp; omega))).trans HR2
      have fR3 : ∀ o, w3.frozen? ⟨w.heap.size + 1, o, none⟩ = false := Go.Joins.unfrozen_of_block HR3
      have cR3 : w3.cell? ⟨w.heap.size + 1, 0, none⟩ = some (.slice none 0 0) := by rw [Go.Joins.cell_of_block HR3]; rfl
      have hRl3 : w.heap.size + 1 < w3.heap.size := by omega
      have hXl3 : w1.heap.size < w3.heap.size := by omega
      have hB3 : Below w.heap.size w w3 := (hB2.setCell (p := ⟨w1.heap.size, 0, none⟩) (by simp; omega) _).trans (hb3.mono (by omega))
      have hown4 := Lib.hid (hown3.out.kept (by rw [hzs]; exact hb3))
      clear hval hb3 HX HR2 fR2 cR2 HR fR cR fX cX hnew
      cases v2 with
      | false =>
        have hm3 := hm2.out
        simp only [Bool.false_eq_true, if_false] at hm3
        subst hm3
        go_wp2_with fail
        refine bodyPost_ret (v := .tuple #[.agg #[.slice none 0 0], .int .i64 2]) (by simp [results, Try.results53, go_sem, cR3]) rfl ⟨none, 0, 0, rfl, own_emptyW _ _, hB3.setCell (p := ⟨w.heap.size + 1, 0, none⟩) (by simp) _⟩
      | true =>
        have hm3 := hm2.out
        simp only [if_true] at hm3
        subst hm3
        go_wp2_with fail
        refine bodyPost_ret (v := .tuple #[.agg #[.slice A2 k2 c2], .int .i64 0]) (by simp [results, Try.results53, go_sem, cR3]) rfl ⟨A2, k2, c2, rfl, (hown4.out.stored_below (a := ⟨w.heap.size + 1, 0, none⟩) (by simp; omega) _).base (by omega), hB3.setCell (p := ⟨w.heap.size + 1, 0, none⟩) (by simp) _⟩
    · have hL0 : Lw = [] := List.length_eq_zero_iff.1 (by omega)
      subst hL0
      have e2 : v2 = true := by rw [hv2.out]; rfl
      subst e2
      have hm3 := hm2.out
      simp only [if_true] at hm3
      subst hm3
      have hzW : (w1.alloc (.cells #[.slice none 0 0] 46 (0, 0))).heap.size = w1.heap.size + 1 := by simp
      have hval := Lib.hid (validOutline_any none 0 0 0 0 [] true rfl (w1.alloc (.cells #[.slice none 0 0] 46 (0, 0))) ⟨rfl, fun h => absurd h (Nat.lt_irrefl 0)⟩ (Nat.zero_le _) (by omega) (fun K hK => by cases hK))
      go_wp2_with fail
      refine hval.out.mono ?_
      rintro e w3 ⟨rfl, hb3⟩
      have hz3 := hb3.size
      rw [hzW] at hz3 hb3
      have HX3 := (hb3.block w1.heap.size (by omega)).trans (heap_alloc_new w1 _)
      have cX3 : w3.cell? ⟨w1.heap.size, 0, none⟩ = some (.slice none 0 0) := by rw [Go.Joins.cell_of_block HX3]; rfl
      have HR3 := ((hb3.block (w.heap.size + 1) (by omega)).trans (Below.heap_alloc w1 _ (w.heap.size + 1) (by omega))).trans HR
      have fR3 : ∀ o, w3.frozen? ⟨w.heap.size + 1, o, none⟩ = false := Go.Joins.unfrozen_of_block HR3
      have cR3 : w3.cell? ⟨w.heap.size + 1, 0, none⟩ = some (.slice none 0 0) := by rw [Go.Joins.cell_of_block HR3]; rfl
      have hRl3 : w.heap.size + 1 < w3.heap.size := by omega
      have hXl3 : w1.heap.size < w3.heap.size := by omega
      have hB3 : Below w.heap.size w w3 := (hB1.alloc hB1.size _).trans (hb3.mono (by omega))
      clear hval hb3 HR fR cR hnew hc k0 k1 hwhole
      go_wp2_with fail
      refine bodyPost_ret (v := .tuple #[.agg #[.slice none 0 0], .int .i64 0]) (by simp [results, Try.results53, go_sem, cR3]) rfl ⟨none, 0, 0, rfl, own_emptyW _ _, hB3.setCell (p := ⟨w.heap.size + 1, 0, none⟩) (by simp) _⟩
end Go.Proofs.Ytgngcllodofimaa

/- Outlines that are small enough (without the moving of outlines). No walk in sight. Conditions: none. -/
namespace Go.Proofs.Ytgngcllodofimaa
set_option linter.unusedVariables false
set_option maxRecDepth 100000
theorem sumMem {L : List Nat} {x : Nat} (h : x ∈ L) : x ≤ L.sum := by
  induction L with
  | nil => simp at h
  | cons a L ih =>
    rcases List.mem_cons.1 h with rfl | h
    · simp
    · have := ih h; simp; omega
def OutSm (R : List (List Knot)) : Prop := R.length ≤ 1048576 ∧ kN R ≤ 1048576
theorem OutSm.k {R : List (List Knot)} (h : OutSm R) : ∀ K ∈ R, K.length ≤ 1048576 := fun K hK => Nat.le_trans (sumMem (List.mem_map_of_mem (f := List.length) hK)) h.2
theorem OutSm.map {R : List (List Knot)} (h : OutSm R) (f : Knot → Knot) : OutSm (R.map (List.map f)) := by
  refine ⟨by rw [List.length_map]; exact h.1, ?_⟩
  have : (R.map (List.map f)).map List.length = R.map List.length := by rw [List.map_map]; apply List.map_congr_left; intro a _; simp
  unfold kN; rw [this]; exact h.2
theorem OutSm.nil : OutSm [] := ⟨by simp, by simp [kN]⟩
theorem RdS.capped {α : Type} {k : Nat} {f : α → List Value} {w : World} {lo hi hi' : Nat} {A : Option Addr} {n : Nat} {L : List α} (h : RdS k (FlatR f) w lo hi A n L) (hb : ∀ b off, A = some ⟨b, off, none⟩ → b < hi') : RdS k (FlatR f) w lo hi' A n L := by
  refine ⟨h.1, fun hn => ?_⟩
  obtain ⟨b, off, h1, h2, h3, h4⟩ := h.2 hn
  exact ⟨b, off, h1, h2, hb b off h1, h4⟩
theorem OutIn.rdIn {w : World} {lo hi n c : Nat} {A : Option Addr} {ys : List Value} {Ls : List (List Knot)} (h : OutIn w lo hi A n c ys Ls) (hm : OutSm Ls) : OutRd w lo hi A n Ls := by
  obtain ⟨h1, h2, h3, h4, h5, h6⟩ := h
  refine ⟨h1, fun hn => ?_⟩
  obtain ⟨g, rfl, hg1, hg2, _, hc, _⟩ := own_at h2 hn
  refine ⟨g, 0, rfl, hg1, h5 g rfl, fun j K hj => ?_⟩
  obtain ⟨Aj, cj, h7, h8⟩ := h3 j K hj
  refine ⟨[.slice Aj K.length cj], rfl, fun i u hu => ?_, Aj, K.length, cj, rfl, by have := hm.k K (List.mem_of_getElem? hj); unfold maxLen; omega, (rdS_own knotC_len (by omega) h8 rfl).capped fun b off e => h6 j _ b h7 (by subst e; rfl)⟩
  match i, hu with
  | 0, hu =>
    injection hu with hu
    subst hu
    have hjl := (List.getElem?_eq_some_iff.1 hj).1
    simp only [Nat.mul_one, Nat.add_zero, Nat.zero_add]
    rw [hc j (by omega), h7]
theorem OutSm.mk {R : List (List Knot)} (h : OutSm R) (m : Int) : OutSm (mkLs m R) := ⟨by rw [mkLs_length]; exact h.1, by unfold kN; rw [mkLs_lens]; exact h.2⟩
theorem have_then {G : Prop} (T : Prop) (h : T) (k : T → G) : G := k h
theorem OutRd_widen {w : World} {lo hi lo' : Nat} {A : Option Addr} {n : Nat} {Ls : List (List Knot)} (h : OutRd w lo hi A n Ls) (hl : lo' ≤ lo) : OutRd w lo' hi A n Ls := h.wide good_loop hl (Nat.le_refl _)
end Go.Proofs.Ytgngcllodofimaa

/- The law on WholeOutline. Printed by lawwho.py. Conditions: as it states. -/
namespace Go.Proofs.Ytgngcllodofimaa
open Go.RowKit
set_option linter.unusedVariables false
set_option maxRecDepth 100000

/-- outside lo..hi the world is as it was -/
structure Keep (lo hi : Nat) (w w' : World) : Prop where
  bel : Below lo w w'
  sam : SameB hi w.heap.size w w'
  size : w.heap.size ≤ w'.heap.size
theorem Keep.of_below {w w' : World} (h : Below w.heap.size w w') : Keep w.heap.size w.heap.size w w' := ⟨h, fun b h1 h2 => absurd h1 (by omega), h.size⟩
theorem Keep.block {lo hi : Nat} {w w' : World} (h : Keep lo hi w w') (b : Nat) (hb : b < lo ∨ hi ≤ b) (hlt : b < w.heap.size) : w'.heap[b]? = w.heap[b]? := by
  rcases hb with hb | hb
  · exact h.bel.block b hb
  · exact h.sam b hb hlt
theorem Keep.sameB {lo hi lo' hi' : Nat} {w w' : World} (h : Keep lo hi w w') (hh : hi' ≤ lo ∨ hi ≤ lo') (h2 : hi' ≤ w.heap.size) : SameB lo' hi' w w' := fun b h3 h4 => h.block b (by omega) (by omega)
theorem Keep.row {w w' : World} {n c g : Nat} (hg : w.grownBy w' (Value.slice (some ⟨g, 0, none⟩) n c).ownBlock) (hz : w'.heap.size = w.heap.size) : Keep g (g + 1) w w' := by
  refine ⟨⟨hg.os, hg.tape, hg.output, hg.size, fun b hb => ?_⟩, fun b h1 h2 => hg.block b h2 fun e => ?_, hg.size⟩
  · rcases Nat.lt_or_ge b w.heap.size with h | h
    · exact hg.block b h fun e => by simp [Value.ownBlock] at e; omega
    · rw [Array.getElem?_eq_none (by omega), Array.getElem?_eq_none (by omega)]
  · simp [Value.ownBlock] at e; omega
theorem whoR_sm (d : GSet) (x : Int) : OutSm (whoR d x).1 := by
  unfold whoR
  split
  · unfold whoF
    split
    · exact OutSm.nil
    · split
      · rename_i h
        obtain ⟨h1, h2⟩ := out_bd h
        refine ⟨by show (whoW d x).length ≤ _; omega, ?_⟩
        have hs : ∀ Ls : List (List Knot), (∀ K ∈ Ls, K.length ≤ 60) → kN Ls ≤ Ls.length * 60 := by
          intro Ls
          induction Ls with
          | nil => intro _; simp [kN]
          | cons K Ls ih =>
            intro h
            have a := h K List.mem_cons_self
            have b := ih fun K' hK' => h K' (List.mem_cons_of_mem _ hK')
            unfold kN at b ⊢
            simp only [List.map_cons, List.sum_cons, List.length_cons]
            omega
        have := hs (whoW d x) fun K hK => (h2 K hK).1
        show kN (whoW d x) ≤ _
        omega
      · exact OutSm.nil
  · exact OutSm.nil

set_option maxHeartbeats 16000000 in
theorem lawWhole_walk (d : GSet) (h : GSetH) (x0 : Int) {w : World} (hr : GSetRd w 0 w.heap.size d h) (hm : d.small maxLen) (hst : ∀ g ∈ d.gl, g.str) (wx0 : (Lit.int .i64 x0).wf = true) :
    Calls Try.prog 8 #[gsV d h, .int .i64 x0] w fun e w' => e = .returned (.bool true) ∧ Below w.heap.size w w' := by
  obtain ⟨R, hR⟩ : ∃ R, R = whoR d x0 := ⟨_, rfl⟩
  have sR : OutSm R.1 := by rw [hR]; exact whoR_sm d x0
  obtain ⟨R1, hR1⟩ : ∃ R1, R1 = R.1 := ⟨_, rfl⟩
  obtain ⟨code, hcode⟩ : ∃ x, x = R.2 := ⟨_, rfl⟩
  have hspec := Lib.hid (specWhole_any d (x := x0) (R := R) (hR := hR))
  have himpl := Lib.hid (implWhole_any d (x := x0) (R := R) (hR := hR))
  rw [← hR1, ← hcode] at hspec himpl
  rw [← hR1] at sR
  have hRn := sR.1
  have hRk := sR.2
  replace sR := Lib.hid sR
  replace hr := Lib.hid hr
  replace hm := Lib.hid hm
  replace hst := Lib.hid hst
  clear hR hR1 hcode
  have hB : Below w.heap.size w w := Below.refl _ _
  have hk := Keep.of_below (Go.Joins.below_alloc1 w (.cells #[.int .i64 d.unit, .slice h.gl.A h.gl.n h.gl.c] 87 (0, 0)))
  have hzz : (w.alloc (.cells #[.int .i64 d.unit, .slice h.gl.A h.gl.n h.gl.c] 87 (0, 0))).heap.size = w.heap.size + 1 := by simp
  have bS : Hid ((w.alloc (.cells #[.int .i64 d.unit, .slice h.gl.A h.gl.n h.gl.c] 87 (0, 0))).heap[w.heap.size]? = some (.cells #[.int .i64 d.unit, .slice h.gl.A h.gl.n h.gl.c] 87 (0, 0))) := heap_alloc_new w _
  go_enter Try.func8, Try.ntmps8
  go_wp2_with fail
  generalize w.alloc (.cells #[.int .i64 d.unit, .slice h.gl.A h.gl.n h.gl.c] 87 (0, 0)) = w0 at *
  have hzl0 : w0.heap.size ≤ w.heap.size + 1 := by omega
  have hzg0 : w.heap.size + 1 ≤ w0.heap.size := by omega
  clear hzz
  have hz0 := hk.size
  have hB0 : Below w.heap.size w w0 := hB.trans (hk.bel.mono (by omega))
  clear hk
  have qbS0 : w0.cell? ⟨w.heap.size, 0, none⟩ = some (.int .i64 d.unit) := by rw [Go.Joins.cell_of_block bS.out]; rfl
  have qbS1 : w0.cell? ⟨w.heap.size, 1, none⟩ = some (.slice h.gl.A h.gl.n h.gl.c) := by rw [Go.Joins.cell_of_block bS.out]; rfl
  have qbSl : w.heap.size < w0.heap.size := by omega
  go_wp2_with fail
  clear qbS0 qbS1 qbSl
  refine (szGlyphSet_any d h 1048576 0 w.heap.size _ (hr.out.frame good_glyph (Below.sameB hB0 (Nat.le_refl _))) hB0.size hm.out hst.out (by omega) (by omega)).mono ?_
  rintro e w1 ⟨rz, rfl, hrz, hc⟩
  have hk := Keep.of_below hc
  clear hc
  have hz1 := hk.size
  have hB1 : Below w.heap.size w w1 := hB0.trans (hk.bel.mono (by omega))
  replace bS := Lib.hid ((hk.block w.heap.size (by omega) (by omega)).trans bS.out)
  clear hk
  rcases hrz with hn1 | ⟨hn1, hl1, hm1⟩
  · go_wp2_with fail
    go_ret
    exact ⟨rfl, hB1⟩
  have hgn : h.gl.n ≤ 1048576 := by rw [← hr.out.1]; exact hm1.l
  replace hm1 := Lib.hid hm1
  clear hl1
  have qbS0 : w1.cell? ⟨w.heap.size, 0, none⟩ = some (.int .i64 d.unit) := by rw [Go.Joins.cell_of_block bS.out]; rfl
  have qbS1 : w1.cell? ⟨w.heap.size, 1, none⟩ = some (.slice h.gl.A h.gl.n h.gl.c) := by rw [Go.Joins.cell_of_block bS.out]; rfl
  have qbSl : w.heap.size < w1.heap.size := by omega
  go_wp2_with fail
  clear qbS0 qbS1 qbSl
  refine (toGlyphSet_any d h 0 w.heap.size _ (hr.out.frame good_glyph (Below.sameB hB1 (Nat.le_refl _))) hB1.size hm1.out).mono ?_
  rintro e w2 ⟨k2, rfl, rd2, hc⟩
  replace rd2 := Lib.hid rd2
  have hk := Keep.of_below hc
  clear hc
  have hz2 := hk.size
  have hB2 : Below w.heap.size w w2 := hB1.trans (hk.bel.mono (by omega))
  replace bS := Lib.hid ((hk.block w.heap.size (by omega) (by omega)).trans bS.out)
  clear hk
  go_wp2_with fail
  refine (hspec.out k2 _ _ _ (GsRc.rd rd2.out) (Nat.le_refl _) (hm1.out.mono (by omega)) hst.out).mono ?_
  rintro e w3 ⟨A5, n5, c5, rfl, ho5, hc⟩
  have rdw := Lib.hid (ho5.rd (fun K h => by have := sR.out.k K h; unfold maxLen; omega))
  have hn5 : n5 ≤ 1048576 := by rw [← rdw.out.1]; exact hRn
  clear ho5 rd2
  have hk := Keep.of_below hc
  clear hc
  have hz3 := hk.size
  have hB3 : Below w.heap.size w w3 := hB2.trans (hk.bel.mono (by omega))
  replace bS := Lib.hid ((hk.block w.heap.size (by omega) (by omega)).trans bS.out)
  clear hk
  have hk := Keep.of_below (Go.Joins.below_alloc1 w3 (.cells #[.slice A5 n5 c5] 46 (0, 0)))
  have hzz : (w3.alloc (.cells #[.slice A5 n5 c5] 46 (0, 0))).heap.size = w3.heap.size + 1 := by simp
  have bW : Hid ((w3.alloc (.cells #[.slice A5 n5 c5] 46 (0, 0))).heap[w3.heap.size]? = some (.cells #[.slice A5 n5 c5] 46 (0, 0))) := heap_alloc_new w3 _
  have qbS0 : w3.cell? ⟨w.heap.size, 0, none⟩ = some (.int .i64 d.unit) := by rw [Go.Joins.cell_of_block bS.out]; rfl
  have qbS1 : w3.cell? ⟨w.heap.size, 1, none⟩ = some (.slice h.gl.A h.gl.n h.gl.c) := by rw [Go.Joins.cell_of_block bS.out]; rfl
  have qbSl : w.heap.size < w3.heap.size := by omega
  go_wp2_with fail
  clear qbS0 qbS1 qbSl
  generalize w3.alloc (.cells #[.slice A5 n5 c5] 46 (0, 0)) = w4 at *
  have hzl4 : w4.heap.size ≤ w3.heap.size + 1 := by omega
  have hzg4 : w3.heap.size + 1 ≤ w4.heap.size := by omega
  clear hzz
  have hz4 := hk.size
  have hB4 : Below w.heap.size w w4 := hB3.trans (hk.bel.mono (by omega))
  replace bS := Lib.hid ((hk.block w.heap.size (by omega) (by omega)).trans bS.out)
  replace rdw := Lib.hid (rdw.out.frame good_loop (hk.sameB (by omega) (by omega)))
  clear hk
  refine (toGlyphSet_mk d h 0 w.heap.size _ (hr.out.frame good_glyph (Below.sameB hB4 (Nat.le_refl _))) hB4.size hm1.out).mono ?_
  rintro e w5 ⟨k6, rfl, rd6, hc⟩
  have hk6 : k6.gl.n ≤ 1048576 := by rw [← rd6.1.1]; exact hm1.out.l
  replace rd6 := Lib.hid rd6
  have hk := Keep.of_below hc
  clear hc
  have hz5 := hk.size
  have hB5 : Below w.heap.size w w5 := hB4.trans (hk.bel.mono (by omega))
  replace bS := Lib.hid ((hk.block w.heap.size (by omega) (by omega)).trans bS.out)
  replace bW := Lib.hid ((hk.block w3.heap.size (by omega) (by omega)).trans bW.out)
  replace rdw := Lib.hid (rdw.out.frame good_loop (hk.sameB (by omega) (by omega)))
  clear hk
  have hk := Keep.of_below (Go.Joins.below_alloc1 w5 (.cells #[.int .i64 d.unit, .slice k6.gl.A k6.gl.n k6.gl.c] 39 (0, 0)))
  have hzz : (w5.alloc (.cells #[.int .i64 d.unit, .slice k6.gl.A k6.gl.n k6.gl.c] 39 (0, 0))).heap.size = w5.heap.size + 1 := by simp
  have b8 : Hid ((w5.alloc (.cells #[.int .i64 d.unit, .slice k6.gl.A k6.gl.n k6.gl.c] 39 (0, 0))).heap[w5.heap.size]? = some (.cells #[.int .i64 d.unit, .slice k6.gl.A k6.gl.n k6.gl.c] 39 (0, 0))) := heap_alloc_new w5 _
  go_wp2_with fail
  generalize w5.alloc (.cells #[.int .i64 d.unit, .slice k6.gl.A k6.gl.n k6.gl.c] 39 (0, 0)) = w6 at *
  have hzl6 : w6.heap.size ≤ w5.heap.size + 1 := by omega
  have hzg6 : w5.heap.size + 1 ≤ w6.heap.size := by omega
  clear hzz
  have hz6 := hk.size
  have hB6 : Below w.heap.size w w6 := hB5.trans (hk.bel.mono (by omega))
  replace bS := Lib.hid ((hk.block w.heap.size (by omega) (by omega)).trans bS.out)
  replace bW := Lib.hid ((hk.block w3.heap.size (by omega) (by omega)).trans bW.out)
  replace rdw := Lib.hid (rdw.out.frame good_loop (hk.sameB (by omega) (by omega)))
  replace rd6 := Lib.hid (rd6.out.frame good_glyphc (hk.sameB (by omega) (by omega)))
  clear hk
  refine (himpl.out k6 w4.heap.size w5.heap.size _ (rd6.out.1) (by omega) (hm1.out.mono (by omega)) hst.out).mono ?_
  rintro e w7 ⟨A8, n8, c8, rfl, ho8, hc⟩
  obtain ⟨ys8, ing⟩ := ho8.in
  replace ing := Lib.hid ing
  have hn8 : n8 ≤ 1048576 := by rw [← ing.out.1]; exact hRn
  clear ho8
  have hk := Keep.of_below hc
  clear hc
  have hz7 := hk.size
  have hB7 : Below w.heap.size w w7 := hB6.trans (hk.bel.mono (by omega))
  replace bS := Lib.hid ((hk.block w.heap.size (by omega) (by omega)).trans bS.out)
  replace bW := Lib.hid ((hk.block w3.heap.size (by omega) (by omega)).trans bW.out)
  replace b8 := Lib.hid ((hk.block w5.heap.size (by omega) (by omega)).trans b8.out)
  replace rdw := Lib.hid (rdw.out.frame good_loop (hk.sameB (by omega) (by omega)))
  replace rd6 := Lib.hid (rd6.out.frame good_glyphc (hk.sameB (by omega) (by omega)))
  clear hk
  have hk := Keep.of_below (Go.Joins.below_alloc1 w7 (.cells #[.slice A8 n8 c8] 46 (0, 0)))
  have hzz : (w7.alloc (.cells #[.slice A8 n8 c8] 46 (0, 0))).heap.size = w7.heap.size + 1 := by simp
  have b9 : Hid ((w7.alloc (.cells #[.slice A8 n8 c8] 46 (0, 0))).heap[w7.heap.size]? = some (.cells #[.slice A8 n8 c8] 46 (0, 0))) := heap_alloc_new w7 _
  have qbW0 : w7.cell? ⟨w3.heap.size, 0, none⟩ = some (.slice A5 n5 c5) := by rw [Go.Joins.cell_of_block bW.out]; rfl
  have qbWl : w3.heap.size < w7.heap.size := by omega
  go_wp2_with fail
  clear qbW0 qbWl
  generalize w7.alloc (.cells #[.slice A8 n8 c8] 46 (0, 0)) = w8 at *
  have hzl8 : w8.heap.size ≤ w7.heap.size + 1 := by omega
  have hzg8 : w7.heap.size + 1 ≤ w8.heap.size := by omega
  clear hzz
  have hz8 := hk.size
  have hB8 : Below w.heap.size w w8 := hB7.trans (hk.bel.mono (by omega))
  replace bS := Lib.hid ((hk.block w.heap.size (by omega) (by omega)).trans bS.out)
  replace bW := Lib.hid ((hk.block w3.heap.size (by omega) (by omega)).trans bW.out)
  replace b8 := Lib.hid ((hk.block w5.heap.size (by omega) (by omega)).trans b8.out)
  replace rdw := Lib.hid (rdw.out.frame good_loop (hk.sameB (by omega) (by omega)))
  replace rd6 := Lib.hid (rd6.out.frame good_glyphc (hk.sameB (by omega) (by omega)))
  replace ing := Lib.hid (ing.out.same (hk.sameB (by omega) (by omega)))
  clear hk
  refine (eqOutline_any A8 A5 n8 c8 n5 c5 w6.heap.size w7.heap.size w2.heap.size w3.heap.size R1 _ (ing.out.rdIn sR.out) rdw.out (by omega) (by omega) (by omega) (fun K h => by have := sR.out.k K h; omega)).mono ?_
  rintro e w9 ⟨rfl, hc⟩
  have hk := Keep.of_below hc
  clear hc
  have hz9 := hk.size
  have hB9 : Below w.heap.size w w9 := hB8.trans (hk.bel.mono (by omega))
  replace bS := Lib.hid ((hk.block w.heap.size (by omega) (by omega)).trans bS.out)
  replace bW := Lib.hid ((hk.block w3.heap.size (by omega) (by omega)).trans bW.out)
  replace b8 := Lib.hid ((hk.block w5.heap.size (by omega) (by omega)).trans b8.out)
  replace b9 := Lib.hid ((hk.block w7.heap.size (by omega) (by omega)).trans b9.out)
  replace rdw := Lib.hid (rdw.out.frame good_loop (hk.sameB (by omega) (by omega)))
  replace rd6 := Lib.hid (rd6.out.frame good_glyphc (hk.sameB (by omega) (by omega)))
  replace ing := Lib.hid (ing.out.same (hk.sameB (by omega) (by omega)))
  clear hk
  have qb80 : w9.cell? ⟨w5.heap.size, 0, none⟩ = some (.int .i64 d.unit) := by rw [Go.Joins.cell_of_block b8.out]; rfl
  have qb81 : w9.cell? ⟨w5.heap.size, 1, none⟩ = some (.slice k6.gl.A k6.gl.n k6.gl.c) := by rw [Go.Joins.cell_of_block b8.out]; rfl
  have qb8l : w5.heap.size < w9.heap.size := by omega
  have qbS0 : w9.cell? ⟨w.heap.size, 0, none⟩ = some (.int .i64 d.unit) := by rw [Go.Joins.cell_of_block bS.out]; rfl
  have qbS1 : w9.cell? ⟨w.heap.size, 1, none⟩ = some (.slice h.gl.A h.gl.n h.gl.c) := by rw [Go.Joins.cell_of_block bS.out]; rfl
  have qbSl : w.heap.size < w9.heap.size := by omega
  go_wp2_with fail
  go_region_held3 (fun w' => w'.cell? ⟨w5.heap.size, 0, none⟩ = some (.int .i64 d.unit) ∧ w'.cell? ⟨w5.heap.size, 1, none⟩ = some (.slice k6.gl.A k6.gl.n k6.gl.c) ∧ w'.cell? ⟨w.heap.size, 0, none⟩ = some (.int .i64 d.unit) ∧ w'.cell? ⟨w.heap.size, 1, none⟩ = some (.slice h.gl.A h.gl.n h.gl.c)) (first | exact ⟨qb80, qb81, qbS0, qbS1⟩ | exact s10 | exact s11)
    (first
      | (go_at_call 47; (with_reducible refine (toGlyphSet_any d h 0 w.heap.size _ ?_ ?_ hm1.out).mono ?_); exact (hr.out.frame good_glyph (Below.sameB hB9.drew (Nat.le_refl _))); exact hB9.size; rintro e w10 ⟨k10, rfl, rd10, hc10⟩; have hb10 : Below w9.heap.size w9 w10 := (Below.refl _ _).drew.trans hc10; have hz10 : w9.heap.size ≤ w10.heap.size := hb10.size; have s10 : w10.cell? ⟨w5.heap.size, 0, none⟩ = some (.int .i64 d.unit) ∧ w10.cell? ⟨w5.heap.size, 1, none⟩ = some (.slice k6.gl.A k6.gl.n k6.gl.c) ∧ w10.cell? ⟨w.heap.size, 0, none⟩ = some (.int .i64 d.unit) ∧ w10.cell? ⟨w.heap.size, 1, none⟩ = some (.slice h.gl.A h.gl.n h.gl.c) := ⟨(hb10.cell (by simp; omega)).trans qb80, (hb10.cell (by simp; omega)).trans qb81, (hb10.cell (by simp; omega)).trans qbS0, (hb10.cell (by simp; omega)).trans qbS1⟩; have rd6x := Lib.hid (rd6.out.frame good_glyphc (Below.sameB hb10 (by omega))); replace rd10 := Lib.hid rd10; clear hc10)
      | (go_at_call 49; (with_reducible refine (eqGlyphSet_any d k6 k10 _ _ _ _ _ (GsRc.rd (GsRm.c rd6x.out)) (GsRc.rd rd10.out) ?_ ?_ ?_).mono ?_); (omega); (exact Nat.le_refl _); exact hm1.out.mono (by omega); rintro e w11 ⟨rfl, hc11⟩; have s11 : w11.cell? ⟨w5.heap.size, 0, none⟩ = some (.int .i64 d.unit) ∧ w11.cell? ⟨w5.heap.size, 1, none⟩ = some (.slice k6.gl.A k6.gl.n k6.gl.c) ∧ w11.cell? ⟨w.heap.size, 0, none⟩ = some (.int .i64 d.unit) ∧ w11.cell? ⟨w.heap.size, 1, none⟩ = some (.slice h.gl.A h.gl.n h.gl.c) := ⟨(hc11.cell (by simp; omega)).trans s10.1, (hc11.cell (by simp; omega)).trans s10.2.1, (hc11.cell (by simp; omega)).trans s10.2.2.1, (hc11.cell (by simp; omega)).trans s10.2.2.2⟩; have hk := Keep.of_below (hb10.trans (hc11.mono hz10)); clear hc11))
  clear qb80 qb81 qb8l qbS0 qbS1 qbSl
  clear s10 s11 rd10 rd6x hz10
  have hz11 := hk.size
  have hB11 : Below w.heap.size w w11 := hB9.trans (hk.bel.mono (by omega))
  replace bS := Lib.hid ((hk.block w.heap.size (by omega) (by omega)).trans bS.out)
  replace bW := Lib.hid ((hk.block w3.heap.size (by omega) (by omega)).trans bW.out)
  replace b8 := Lib.hid ((hk.block w5.heap.size (by omega) (by omega)).trans b8.out)
  replace b9 := Lib.hid ((hk.block w7.heap.size (by omega) (by omega)).trans b9.out)
  replace rdw := Lib.hid (rdw.out.frame good_loop (hk.sameB (by omega) (by omega)))
  replace rd6 := Lib.hid (rd6.out.frame good_glyphc (hk.sameB (by omega) (by omega)))
  replace ing := Lib.hid (ing.out.same (hk.sameB (by omega) (by omega)))
  clear hk
  have qb80 : w11.cell? ⟨w5.heap.size, 0, none⟩ = some (.int .i64 d.unit) := by rw [Go.Joins.cell_of_block b8.out]; rfl
  have qb81 : w11.cell? ⟨w5.heap.size, 1, none⟩ = some (.slice k6.gl.A k6.gl.n k6.gl.c) := by rw [Go.Joins.cell_of_block b8.out]; rfl
  have qb8l : w5.heap.size < w11.heap.size := by omega
  go_wp2_with fail
  clear qb80 qb81 qb8l
  refine (markGlyphSet_w d k6 w4.heap.size w5.heap.size 1 _ rd6.out.2 (by omega) (by omega) (by omega) (by omega) hk6).mono ?_
  rintro e w12 ⟨m12, rfl, hm12, hM⟩
  have hk : Keep w4.heap.size w5.heap.size w11 w12 := ⟨hM.below (by omega), hM.sameB (.inr (Nat.le_refl _)) (Nat.le_refl _), hM.size⟩
  have hm12' : ¬ m12 < 0 := by omega
  have hd12 : decide (m12 < 0) = false := by simpa using hm12'
  clear hM rd6 hm12 hm12'
  have hz12 := hk.size
  have hB12 : Below w.heap.size w w12 := hB11.trans (hk.bel.mono (by omega))
  replace bS := Lib.hid ((hk.block w.heap.size (by omega) (by omega)).trans bS.out)
  replace bW := Lib.hid ((hk.block w3.heap.size (by omega) (by omega)).trans bW.out)
  replace b8 := Lib.hid ((hk.block w5.heap.size (by omega) (by omega)).trans b8.out)
  replace b9 := Lib.hid ((hk.block w7.heap.size (by omega) (by omega)).trans b9.out)
  replace rdw := Lib.hid (rdw.out.frame good_loop (hk.sameB (by omega) (by omega)))
  replace ing := Lib.hid (ing.out.same (hk.sameB (by omega) (by omega)))
  clear hk
  have qb90 : w12.cell? ⟨w7.heap.size, 0, none⟩ = some (.slice A8 n8 c8) := by rw [Go.Joins.cell_of_block b9.out]; rfl
  have qb9l : w7.heap.size < w12.heap.size := by omega
  have qbW0 : w12.cell? ⟨w3.heap.size, 0, none⟩ = some (.slice A5 n5 c5) := by rw [Go.Joins.cell_of_block bW.out]; rfl
  have qbWl : w3.heap.size < w12.heap.size := by omega
  go_wp2_with fail
  clear qb90 qb9l qbW0 qbWl
  refine (eqOutline_any A8 A5 n8 c8 n5 c5 w6.heap.size w7.heap.size w2.heap.size w3.heap.size R1 _ (ing.out.rdIn sR.out) rdw.out (by omega) (by omega) (by omega) (fun K h => by have := sR.out.k K h; omega)).mono ?_
  rintro e w13 ⟨rfl, hc⟩
  have hk := Keep.of_below hc
  clear hc
  have hz13 := hk.size
  have hB13 : Below w.heap.size w w13 := hB12.trans (hk.bel.mono (by omega))
  replace bS := Lib.hid ((hk.block w.heap.size (by omega) (by omega)).trans bS.out)
  replace bW := Lib.hid ((hk.block w3.heap.size (by omega) (by omega)).trans bW.out)
  replace b8 := Lib.hid ((hk.block w5.heap.size (by omega) (by omega)).trans b8.out)
  replace b9 := Lib.hid ((hk.block w7.heap.size (by omega) (by omega)).trans b9.out)
  replace rdw := Lib.hid (rdw.out.frame good_loop (hk.sameB (by omega) (by omega)))
  replace ing := Lib.hid (ing.out.same (hk.sameB (by omega) (by omega)))
  clear hk
  have qb90 : w13.cell? ⟨w7.heap.size, 0, none⟩ = some (.slice A8 n8 c8) := by rw [Go.Joins.cell_of_block b9.out]; rfl
  have qb9l : w7.heap.size < w13.heap.size := by omega
  go_wp2_with fail
  clear qb90 qb9l
  refine (markOutline_any A8 n8 c8 w6.heap.size w7.heap.size ys8 R1 1 _ ing.out (by omega) (by omega) (by omega) (by omega) hn8 sR.out.2).mono ?_
  rintro e w14 ⟨rfl, hbm, hsm, ing'⟩
  have hk : Keep w6.heap.size w7.heap.size w13 w14 := ⟨hbm, hsm, hbm.size⟩
  replace ing := Lib.hid ing'
  clear hbm hsm ing'
  have hz14 := hk.size
  have hB14 : Below w.heap.size w w14 := hB13.trans (hk.bel.mono (by omega))
  replace bS := Lib.hid ((hk.block w.heap.size (by omega) (by omega)).trans bS.out)
  replace bW := Lib.hid ((hk.block w3.heap.size (by omega) (by omega)).trans bW.out)
  replace b8 := Lib.hid ((hk.block w5.heap.size (by omega) (by omega)).trans b8.out)
  replace b9 := Lib.hid ((hk.block w7.heap.size (by omega) (by omega)).trans b9.out)
  replace rdw := Lib.hid (rdw.out.frame good_loop (hk.sameB (by omega) (by omega)))
  clear hk
  have hm1b : ¬ ((1 : Int) + 3 * (kN R1 : Int) < 0) := by omega
  have qb90 : w14.cell? ⟨w7.heap.size, 0, none⟩ = some (.slice A8 n8 c8) := by rw [Go.Joins.cell_of_block b9.out]; rfl
  have qb9l : w7.heap.size < w14.heap.size := by omega
  go_wp2_with fail
  clear qb90 qb9l
  refine (heldOutline_any A8 n8 c8 w6.heap.size w7.heap.size R1 1 _ (ing.out.rdIn (sR.out.mk 1)) (by omega) (by omega) (by omega) hn8 sR.out.2).mono ?_
  rintro e w15 ⟨rfl, hc⟩
  have hk := Keep.of_below hc
  clear hc
  have hz15 := hk.size
  have hB15 : Below w.heap.size w w15 := hB14.trans (hk.bel.mono (by omega))
  replace bS := Lib.hid ((hk.block w.heap.size (by omega) (by omega)).trans bS.out)
  replace bW := Lib.hid ((hk.block w3.heap.size (by omega) (by omega)).trans bW.out)
  replace b8 := Lib.hid ((hk.block w5.heap.size (by omega) (by omega)).trans b8.out)
  replace b9 := Lib.hid ((hk.block w7.heap.size (by omega) (by omega)).trans b9.out)
  replace rdw := Lib.hid (rdw.out.frame good_loop (hk.sameB (by omega) (by omega)))
  replace ing := Lib.hid (ing.out.same (hk.sameB (by omega) (by omega)))
  clear hk
  have qbS0 : w15.cell? ⟨w.heap.size, 0, none⟩ = some (.int .i64 d.unit) := by rw [Go.Joins.cell_of_block bS.out]; rfl
  have qbS1 : w15.cell? ⟨w.heap.size, 1, none⟩ = some (.slice h.gl.A h.gl.n h.gl.c) := by rw [Go.Joins.cell_of_block bS.out]; rfl
  have qbSl : w.heap.size < w15.heap.size := by omega
  go_wp2_with fail
  clear qbS0 qbS1 qbSl
  refine (toGlyphSet_any d h 0 w.heap.size _ (hr.out.frame good_glyph (Below.sameB hB15 (Nat.le_refl _))) hB15.size hm1.out).mono ?_
  rintro e w16 ⟨k16, rfl, rd16, hc⟩
  replace rd16 := Lib.hid rd16
  have hk := Keep.of_below hc
  clear hc
  have hz16 := hk.size
  have hB16 : Below w.heap.size w w16 := hB15.trans (hk.bel.mono (by omega))
  replace bS := Lib.hid ((hk.block w.heap.size (by omega) (by omega)).trans bS.out)
  replace bW := Lib.hid ((hk.block w3.heap.size (by omega) (by omega)).trans bW.out)
  replace b8 := Lib.hid ((hk.block w5.heap.size (by omega) (by omega)).trans b8.out)
  replace b9 := Lib.hid ((hk.block w7.heap.size (by omega) (by omega)).trans b9.out)
  replace rdw := Lib.hid (rdw.out.frame good_loop (hk.sameB (by omega) (by omega)))
  replace ing := Lib.hid (ing.out.same (hk.sameB (by omega) (by omega)))
  clear hk
  go_wp2_with fail
  refine (himpl.out k16 _ _ _ rd16.out (Nat.le_refl _) (hm1.out.mono (by omega)) hst.out).mono ?_
  rintro e w17 ⟨A17, n17, c17, rfl, ho17, hc⟩
  have rdh := Lib.hid (ho17.rd (fun K h => by have := sR.out.k K h; unfold maxLen; omega))
  have hn17 : n17 ≤ 1048576 := by rw [← rdh.out.1]; exact hRn
  clear ho17 rd16
  have hk := Keep.of_below hc
  clear hc
  have hz17 := hk.size
  have hB17 : Below w.heap.size w w17 := hB16.trans (hk.bel.mono (by omega))
  replace bS := Lib.hid ((hk.block w.heap.size (by omega) (by omega)).trans bS.out)
  replace bW := Lib.hid ((hk.block w3.heap.size (by omega) (by omega)).trans bW.out)
  replace b8 := Lib.hid ((hk.block w5.heap.size (by omega) (by omega)).trans b8.out)
  replace b9 := Lib.hid ((hk.block w7.heap.size (by omega) (by omega)).trans b9.out)
  replace rdw := Lib.hid (rdw.out.frame good_loop (hk.sameB (by omega) (by omega)))
  replace ing := Lib.hid (ing.out.same (hk.sameB (by omega) (by omega)))
  clear hk
  have hk := Keep.of_below (Go.Joins.below_alloc1 w17 (.cells #[.slice A17 n17 c17] 46 (0, 0)))
  have hzz : (w17.alloc (.cells #[.slice A17 n17 c17] 46 (0, 0))).heap.size = w17.heap.size + 1 := by simp
  have bG : Hid ((w17.alloc (.cells #[.slice A17 n17 c17] 46 (0, 0))).heap[w17.heap.size]? = some (.cells #[.slice A17 n17 c17] 46 (0, 0))) := heap_alloc_new w17 _
  have qbW0 : w17.cell? ⟨w3.heap.size, 0, none⟩ = some (.slice A5 n5 c5) := by rw [Go.Joins.cell_of_block bW.out]; rfl
  have qbWl : w3.heap.size < w17.heap.size := by omega
  go_wp2_with fail
  clear qbW0 qbWl
  generalize w17.alloc (.cells #[.slice A17 n17 c17] 46 (0, 0)) = w18 at *
  have hzl18 : w18.heap.size ≤ w17.heap.size + 1 := by omega
  have hzg18 : w17.heap.size + 1 ≤ w18.heap.size := by omega
  clear hzz
  have hz18 := hk.size
  have hB18 : Below w.heap.size w w18 := hB17.trans (hk.bel.mono (by omega))
  replace bS := Lib.hid ((hk.block w.heap.size (by omega) (by omega)).trans bS.out)
  replace bW := Lib.hid ((hk.block w3.heap.size (by omega) (by omega)).trans bW.out)
  replace b8 := Lib.hid ((hk.block w5.heap.size (by omega) (by omega)).trans b8.out)
  replace b9 := Lib.hid ((hk.block w7.heap.size (by omega) (by omega)).trans b9.out)
  replace rdw := Lib.hid (rdw.out.frame good_loop (hk.sameB (by omega) (by omega)))
  replace ing := Lib.hid (ing.out.same (hk.sameB (by omega) (by omega)))
  replace rdh := Lib.hid (rdh.out.frame good_loop (hk.sameB (by omega) (by omega)))
  clear hk
  refine (eqOutline_any A17 A5 n17 c17 n5 c5 w16.heap.size w17.heap.size w2.heap.size w3.heap.size R1 _ rdh.out rdw.out (by omega) (by omega) (by omega) (fun K h => by have := sR.out.k K h; omega)).mono ?_
  rintro e w19 ⟨rfl, hc⟩
  have hk := Keep.of_below hc
  clear hc
  have hz19 := hk.size
  have hB19 : Below w.heap.size w w19 := hB18.trans (hk.bel.mono (by omega))
  replace bS := Lib.hid ((hk.block w.heap.size (by omega) (by omega)).trans bS.out)
  replace bW := Lib.hid ((hk.block w3.heap.size (by omega) (by omega)).trans bW.out)
  replace b8 := Lib.hid ((hk.block w5.heap.size (by omega) (by omega)).trans b8.out)
  replace b9 := Lib.hid ((hk.block w7.heap.size (by omega) (by omega)).trans b9.out)
  replace bG := Lib.hid ((hk.block w17.heap.size (by omega) (by omega)).trans bG.out)
  replace rdw := Lib.hid (rdw.out.frame good_loop (hk.sameB (by omega) (by omega)))
  replace ing := Lib.hid (ing.out.same (hk.sameB (by omega) (by omega)))
  replace rdh := Lib.hid (rdh.out.frame good_loop (hk.sameB (by omega) (by omega)))
  clear hk
  have qb90 : w19.cell? ⟨w7.heap.size, 0, none⟩ = some (.slice A8 n8 c8) := by rw [Go.Joins.cell_of_block b9.out]; rfl
  have qb9l : w7.heap.size < w19.heap.size := by omega
  go_wp2_with fail
  clear qb90 qb9l
  refine (heldOutline_any A8 n8 c8 w6.heap.size w7.heap.size R1 1 _ (ing.out.rdIn (sR.out.mk 1)) (by omega) (by omega) (by omega) hn8 sR.out.2).mono ?_
  rintro e w20 ⟨rfl, hc⟩
  have hk := Keep.of_below hc
  clear hc
  have hz20 := hk.size
  have hB20 : Below w.heap.size w w20 := hB19.trans (hk.bel.mono (by omega))
  replace bS := Lib.hid ((hk.block w.heap.size (by omega) (by omega)).trans bS.out)
  replace bW := Lib.hid ((hk.block w3.heap.size (by omega) (by omega)).trans bW.out)
  replace b8 := Lib.hid ((hk.block w5.heap.size (by omega) (by omega)).trans b8.out)
  replace b9 := Lib.hid ((hk.block w7.heap.size (by omega) (by omega)).trans b9.out)
  replace bG := Lib.hid ((hk.block w17.heap.size (by omega) (by omega)).trans bG.out)
  replace rdw := Lib.hid (rdw.out.frame good_loop (hk.sameB (by omega) (by omega)))
  replace ing := Lib.hid (ing.out.same (hk.sameB (by omega) (by omega)))
  replace rdh := Lib.hid (rdh.out.frame good_loop (hk.sameB (by omega) (by omega)))
  clear hk
  go_wp2_with fail
  go_ret
  exact ⟨rfl, hB20⟩
end Go.Proofs.Ytgngcllodofimaa

