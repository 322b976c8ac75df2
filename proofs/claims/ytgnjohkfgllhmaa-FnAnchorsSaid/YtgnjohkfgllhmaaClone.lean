/- slices.Clone at knots; the sums of points. Conditions: as each states. -/
import Derived.Test.YtgnjohkfgllhmaaOutM
namespace Go.Proofs.Ytgnjohkfgllhmaa
open Go.RowKit
set_option linter.unusedVariables false
set_option maxRecDepth 100000

theorem src_rd {α : Type} {k : Nat} {f : α → List Value} (hk : ∀ a, (f a).length = k) (h1 : ∀ a, ∀ u ∈ f a, u.oneCell' = true) {w : World} {lo hi : Nat} {A : Option Addr} {n : Nat} {L : List α} (h : RdS k (FlatR f) w lo hi A n L) : Src w k A n (L.flatMap f) := by
  refine ⟨by rw [flat_length hk, h.1], fun u hu => ?_, fun hn => ?_⟩
  · obtain ⟨a, _, ha⟩ := List.mem_flatMap.1 hu
    exact h1 a u ha
  · obtain ⟨hl, hx⟩ := h
    obtain ⟨b, off, rfl, _, _, h3⟩ := hx hn
    refine ⟨_, rfl, fun j u hj => ?_⟩
    have hjl := (List.getElem?_eq_some_iff.1 hj).1
    rw [flat_length hk, hl] at hjl
    have hk0 : 0 < k := by
      rcases Nat.eq_zero_or_pos k with h0 | h0
      · subst h0; simp at hjl
      · exact h0
    have hq : j / k < L.length := by rw [hl]; exact (Nat.div_lt_iff_lt_mul hk0).2 hjl
    have hm := Nat.mod_lt j hk0
    have e := Nat.div_add_mod j k
    obtain ⟨es, e1, e2, e3⟩ := h3 (j / k) _ (List.getElem?_eq_getElem hq)
    have h5 := flat_get hk L (j / k) _ (j % k) (List.getElem?_eq_getElem hq) hm
    rw [show j / k * k + j % k = j by rw [Nat.mul_comm]; exact e, hj] at h5
    have e3' : es = f L[j / k] := e3
    have h6 := e2 (j % k) u (by rw [e3']; exact h5.symm)
    rw [show (⟨b, off, none⟩ : Addr).add j = ⟨b, off + j, none⟩ by unfold Addr.add; split <;> simp_all, show off + j = off + j / k * k + j % k by rw [Nat.add_assoc, Nat.mul_comm (j / k) k, e]]
    exact h6
theorem src_new0 {w : World} {size m : Nat} {A : Option Addr} {news : List Value} (h : Src w size A m news) (o : Obj) : Src (w.alloc o) size A m news := by
  obtain ⟨h1, h2, h3⟩ := h
  refine ⟨h1, h2, fun hm => ?_⟩
  obtain ⟨ad, h4, h5⟩ := h3 hm
  exact ⟨ad, h4, fun j u hj => Lib.cell?_alloc_some _ (h5 j u hj)⟩
theorem knot_one (a : Knot) : ∀ u ∈ knotC a, u.oneCell' = true := by
  intro u hu; simp [knotC] at hu; rcases hu with rfl | rfl | rfl <;> rfl

set_option maxHeartbeats 1000000 in
theorem cloneKnot_any (A : Option Addr) (n c lo hi : Nat) (K : List Knot) (w : World) (hr : RdS 3 (FlatR knotC) w lo hi A n K) (hn : n ≤ 1048576) (hz : A = none → n = 0) :
    Calls Try.prog 120 #[.slice A n c] w fun e w' => ∃ A' c', e = .returned (.slice A' n c') ∧ w'.ownsRow w.heap.size 167 3 (.slice A' n c') n (K.flatMap knotC) ∧ Below w.heap.size w w' := by
  have hs := src_rd knotC_len knot_one hr
  have hl := hr.1
  have hu : Try.prog.underlying 105 = some (.slice 167) := Try.underlying105
  have q22 : ∀ (w : World) (a : Option Addr) (n c n' c' : Nat), (binOp .eql 105 (.slice a n c) (.slice none n' c')).run Try.prog w = .ok (.bool a.isNone) w := fun w a n c n' c' => Lib.run_eql_slice_nil w _ _ a n c n' c' hu
  clear hr
  cases A with
  | none =>
    obtain rfl := hz rfl
    have hK : K = [] := List.eq_nil_of_length_eq_zero hl
    subst hK
    clear hs hl hz
    go_enter Try.func120, Try.ntmps120
    go_wp2_with fail
    go_ret
    exact ⟨none, 0, rfl, World.ownsRow_nil _ _ _ _, Below.refl _ _⟩
  | some a =>
    replace hs := Lib.hid hs
    replace hl := Lib.hid hl
    clear hz
    go_enter Try.func120, Try.ntmps120
    go_wp2_with (at_builtin; refine wpApp rfl (.tmp 5) (.tmp 6) elemKnot rfl (base := w.heap.size) (v := .slice (some ⟨w.heap.size, 0, none⟩) 0 0) rfl (World.ownsRow_made w #[] 0 (Nat.le_refl _) (Nat.zero_le _) rfl) rfl (src_new0 hs.out _) (by omega) (by omega) (by simp) n (by omega) ?_; intro A' c' w1 ho1 hb1; replace ho1 := Lib.hid ho1)
    go_ret
    exact ⟨A', c', rfl, by simpa using ho1.out, ((Below.refl _ _).alloc (Nat.le_refl _) _).trans hb1⟩

end Go.Proofs.Ytgnjohkfgllhmaa
