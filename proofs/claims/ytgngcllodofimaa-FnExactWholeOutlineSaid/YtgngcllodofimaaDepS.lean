/- The depth of a glyph: both sides. Conditions: as each states. -/
import Derived.BigQuiet
import Derived.StillTailTactics
import Derived.IntWalk
import Derived.Test.YtgngcllodofimaaAsk
import Derived.Test.YtgngcllodofimaaRound
namespace Go.Proofs.Ytgngcllodofimaa
open Go.RowKit
set_option linter.unusedVariables false
set_option maxRecDepth 100000

def depR (d : GSet) (x : Int) : Int × Int := (if askR d x = 0 then depF (tgts d.gl) (order (tgts d.gl)) x else 0, askR d x)
theorem DepR.drew {w : World} {lo B n : Nat} {D : Nat → Int} (h : DepR w lo B n D) : DepR w.drew lo B n D := by
  obtain ⟨ys, h1, h2⟩ := h
  exact ⟨ys, h1.drew, h2⟩
theorem DepR.drewN {w : World} {lo B n : Nat} {D : Nat → Int} (h : DepR w lo B n D) (q : Nat) : DepR (w.drewN q) lo B n D := h
theorem made_int {n j : Nat} (hj : j < n) : (madeCells (Value.int .i64 0).cells (n * 1)).toList[j]? = some (.int .i64 0) := by
  have e : (Value.int .i64 0).cells = #[.int .i64 0] := rfl
  rw [e, toList_madeCells_one, List.getElem?_replicate, if_pos (by omega)]
/-- what is known when t glyphs are done -/
def dz (T : List (List Int)) (out : List Int) (t : Nat) (j : Nat) : Int := if (j : Int) ∈ out.take t then depF T out j else 0
theorem dz_0 (T : List (List Int)) (out : List Int) (j : Nat) : dz T out 0 j = 0 := if_neg (by simp)
theorem dz_new {T : List (List Int)} {out : List Int} (ho : Ord T out) {t : Nat} {x : Int} (hx : out[t]? = some x) : dz T out t x.toNat = 0 := by
  have h0 := (ho.rng x (List.mem_of_getElem? hx)).1
  refine if_neg fun h => ?_
  rw [show ((x.toNat : Nat) : Int) = x by omega] at h
  have hd := ho.nodup
  rw [← List.take_append_drop t out, List.nodup_append] at hd
  have hl := (List.getElem?_eq_some_iff.1 hx).1
  refine hd.2.2 x h x ?_ rfl
  rw [List.drop_eq_getElem_cons hl]
  rw [List.getElem?_eq_getElem hl] at hx; injection hx with hx
  rw [hx]; exact List.mem_cons_self
theorem dz_in {T : List (List Int)} {out : List Int} {t : Nat} {p : Int} (h0 : 0 ≤ p) (h : p ∈ out.take t) : dz T out t p.toNat = depF T out p := by
  unfold dz; rw [show ((p.toNat : Nat) : Int) = p by omega, if_pos h]
theorem dz_step {T : List (List Int)} {out : List Int} (ho : Ord T out) {t : Nat} {x : Int} (hx : out[t]? = some x) {ps : List Int} (hps : T[x.toNat]? = some ps) (j : Nat) : (if j = x.toNat then dOf (depF T out) ps else dz T out t j) = dz T out (t + 1) j := by
  have h0 := (ho.rng x (List.mem_of_getElem? hx)).1
  unfold dz
  rw [take_snoc_at hx]
  by_cases h : j = x.toNat
  · subst h
    rw [if_pos rfl, show ((x.toNat : Nat) : Int) = x by omega, if_pos (by simp), depF_at ho hx hps]
  · rw [if_neg h]
    by_cases h2 : (j : Int) ∈ out.take t
    · rw [if_pos h2, if_pos (by simp [h2])]
    · rw [if_neg h2, if_neg (by simp only [List.mem_append, List.mem_singleton]; rintro (h3 | h3); exact h2 h3; omega)]
theorem imax_max (a b : Int) : imax a b = max a b := by unfold imax; split <;> omega

end Go.Proofs.Ytgngcllodofimaa
