/- Outlines that are small enough (without the moving of outlines). No walk in sight. Conditions: none. -/
import Derived.Test.YtgdkabljgabjoaaGreatDoorRb05
namespace Go.Proofs.YtgdkabljgabjoaaGreatDoor
set_option linter.unusedVariables false
set_option maxRecDepth 100000
theorem sumMem {L : List Nat} {x : Nat} (h : x ∈ L) : x ≤ L.sum := by
  induction L with
  | nil => simp at h
  | cons a L ih =>
    rcases List.mem_cons.1 h with rfl | h
    · simp
    · have := ih h; simp; omega
def OutSm (R : List (List Knot)) : Prop := R.length ≤ 1048576 ∧ kN R ≤ 1048576
theorem OutSm.k {R : List (List Knot)} (h : OutSm R) : ∀ K ∈ R, K.length ≤ 1048576 := fun K hK => Nat.le_trans (sumMem (List.mem_map_of_mem (f := List.length) hK)) h.2
theorem OutSm.map {R : List (List Knot)} (h : OutSm R) (f : Knot → Knot) : OutSm (R.map (List.map f)) := by
  refine ⟨by rw [List.length_map]; exact h.1, ?_⟩
  have : (R.map (List.map f)).map List.length = R.map List.length := by rw [List.map_map]; apply List.map_congr_left; intro a _; simp
  unfold kN; rw [this]; exact h.2
theorem OutSm.nil : OutSm [] := ⟨by simp, by simp [kN]⟩
theorem RdS.capped {α : Type} {k : Nat} {f : α → List Value} {w : World} {lo hi hi' : Nat} {A : Option Addr} {n : Nat} {L : List α} (h : RdS k (FlatR f) w lo hi A n L) (hb : ∀ b off, A = some ⟨b, off, none⟩ → b < hi') : RdS k (FlatR f) w lo hi' A n L := by
  refine ⟨h.1, fun hn => ?_⟩
  obtain ⟨b, off, h1, h2, h3, h4⟩ := h.2 hn
  exact ⟨b, off, h1, h2, hb b off h1, h4⟩
theorem OutIn.rdIn {w : World} {lo hi n c : Nat} {A : Option Addr} {ys : List Value} {Ls : List (List Knot)} (h : OutIn w lo hi A n c ys Ls) (hm : OutSm Ls) : OutRd w lo hi A n Ls := by
  obtain ⟨h1, h2, h3, h4, h5, h6⟩ := h
  refine ⟨h1, fun hn => ?_⟩
  obtain ⟨g, rfl, hg1, hg2, _, hc, _⟩ := own_at h2 hn
  refine ⟨g, 0, rfl, hg1, h5 g rfl, fun j K hj => ?_⟩
  obtain ⟨Aj, cj, h7, h8⟩ := h3 j K hj
  refine ⟨[.slice Aj K.length cj], rfl, fun i u hu => ?_, Aj, K.length, cj, rfl, by have := hm.k K (List.mem_of_getElem? hj); unfold maxLen; omega, (rdS_own knotC_len (by omega) h8 rfl).capped fun b off e => h6 j _ b h7 (by subst e; rfl)⟩
  match i, hu with
  | 0, hu =>
    injection hu with hu
    subst hu
    have hjl := (List.getElem?_eq_some_iff.1 hj).1
    simp only [Nat.mul_one, Nat.add_zero, Nat.zero_add]
    rw [hc j (by omega), h7]
theorem OutSm.mk {R : List (List Knot)} (h : OutSm R) (m : Int) : OutSm (mkLs m R) := ⟨by rw [mkLs_length]; exact h.1, by unfold kN; rw [mkLs_lens]; exact h.2⟩
theorem have_then {G : Prop} (T : Prop) (h : T) (k : T → G) : G := k h
theorem OutRd_widen {w : World} {lo hi lo' : Nat} {A : Option Addr} {n : Nat} {Ls : List (List Knot)} (h : OutRd w lo hi A n Ls) (hl : lo' ≤ lo) : OutRd w lo' hi A n Ls := h.wide good_loop hl (Nat.le_refl _)
end Go.Proofs.YtgdkabljgabjoaaGreatDoor

