/- The law on the instructions of a program. Conditions: as each states. -/
import Derived.Test.YtjlkdmnellbaeaaHintS
namespace Go.Proofs.Ytjlkdmnellbaeaa
open Go.RowKit
set_option linter.unusedVariables false

theorem implHintsOf_any (s : ByteArray) (w : World) (hs : s.size ≤ 1048576) :
    Calls Try.prog 40 #[.string s] w fun e w' =>
      ((∀ L, hintList s = some L → nestB (codesOf L) = false) ∧ e = .returned (.tuple #[.slice none 0 0, .bool false]) ∧ Below w.heap.size w w') ∨
      ∃ L A c, hintList s = some L ∧ nestB (codesOf L) = true ∧ e = .returned (.tuple #[.slice A L.length c, .bool true]) ∧ w'.ownsRow w.heap.size 29 2 (.slice A L.length c) L.length (hintCells L) ∧ Below w.heap.size w w' := by
  go_enter Try.func40, Try.ntmps40
  go_wp2_with fail
  refine (readHints_any s _ hs).mono ?_
  rintro e w1 (⟨h1, rfl, hb1⟩ | ⟨L, A, c, vp, h1, rfl, hown, hps, hb1⟩)
  · replace h1 := Lib.hid h1
    go_wp2_with fail
    go_ret2
    exact .inl ⟨fun L hL => absurd (h1.out.symm.trans hL) (by simp), rfl, hb1⟩
  · replace h1 := Lib.hid h1
    clear hps
    cases hb : nestB (codesOf L)
    · go_wp2_with fail
      go_ret2
      exact .inl ⟨fun L' hL => by rw [h1.out] at hL; injection hL with hL; subst hL; exact hb, rfl, hb1⟩
    · go_wp2_with fail
      go_ret2
      exact .inr ⟨L, A, c, h1.out, hb, rfl, hown, hb1⟩

theorem hintList_len {s : ByteArray} {L : List (Int × Int)} (h : hintList s = some L) : L.length ≤ 400 := by
  unfold hintList at h
  split at h
  · cases h
  · have := parse_len h; omega

set_option maxHeartbeats 800000 in
theorem lawHintsOf_walk (s : ByteArray) (_ : s.size ≤ maxLen) (w : World) :
    Calls Try.prog 13 #[.string s] w fun e w' => e = .returned (.bool true) ∧ Below w.heap.size w w' := by
  by_cases hs : (1048576 : Int) < s.size
  · go_enter Try.func13, Try.ntmps13
    go_wp2_with fail
    go_ret
    exact ⟨rfl, Below.refl _ _⟩
  have hs' : s.size ≤ 1048576 := by omega
  go_enter Try.func13, Try.ntmps13
  go_wp2_with fail
  refine (specHintsOf_any s _ hs').mono ?_
  rintro e w1 (⟨h1, rfl, hb1⟩ | ⟨L, A, c, h1, h2, rfl, hown, hb1⟩)
  · replace h1 := Lib.hid h1
    go_wp2_with fail
    refine (implHintsOf_any s _ hs').mono ?_
    rintro e w2 (⟨g1, rfl, hb2⟩ | ⟨L, A, c, g1, g2, rfl, hown, hb2⟩)
    · have hB2 := hb1.trans (hb2.mono hb1.size)
      clear g1
      have hempty : ∀ w, RdH w none 0 [] := fun w => ⟨rfl, fun h => absurd h (Nat.lt_irrefl 0)⟩
      have hmk : ∀ w, Marked w none 0 1 := fun w h => absurd h (Nat.lt_irrefl 0)
      go_wp2_with fail
      refine (eqHintS_any _ _ _ _ _ [] _ (hempty _) (hempty _) (by omega)).mono ?_
      rintro e w3 ⟨rfl, hb3⟩
      go_wp2_with fail
      refine (markHintS_any _ _ _ 0 _ 1 _ (World.ownsRow_nil _ _ _ _) (by omega) (by omega) (by omega)).mono ?_
      rintro e w4 ⟨rfl, hg4, hm4⟩
      replace hm4 := Lib.hid hm4
      replace hg4 := Lib.hid hg4
      have s3 := hb3.size
      have s4 := hg4.out.size
      have hB4 : Below w.heap.size w w4 := (hB2.trans (hb3.mono hB2.size)).grown hg4.out (by have := hB2.size; omega) (by intro k hk; simp [Value.ownBlock] at hk)
      go_wp2_with fail
      refine (heldHintS_any _ _ _ 1 _ hm4.out (by omega) (by omega) (by omega)).mono ?_
      rintro e w' ⟨rfl, rfl⟩
      go_wp2_with fail
      refine (implHintsOf_any s _ hs').mono ?_
      rintro e w5 (⟨g1, rfl, hb5⟩ | ⟨L, A, c, g1, g2, rfl, hown, hb5⟩)
      · clear g1
        go_wp2_with fail
        refine (eqHintS_any _ _ _ _ _ [] _ (hempty _) (hempty _) (by omega)).mono ?_
        rintro e w6 ⟨rfl, hb6⟩
        go_wp2_with fail
        refine (heldHintS_any _ _ _ 1 _ (hmk _) (by omega) (by omega) (by omega)).mono ?_
        rintro e w' ⟨rfl, rfl⟩
        go_wp2_with fail
        go_ret
        exact ⟨rfl, (hB4.trans (hb5.mono hB4.size)).trans (hb6.mono (by have := hB4.size; have := hb5.size; omega))⟩
      · exact absurd g2 (by rw [h1.out L g1]; simp)
    · exact absurd g2 (by rw [h1.out L g1]; simp)
  · replace h1 := Lib.hid h1
    replace h2 := Lib.hid h2
    have hl := hintList_len h1.out
    replace hown := Lib.hid hown
    go_wp2_with fail
    refine (implHintsOf_any s _ hs').mono ?_
    rintro e w2 (⟨g1, rfl, hb2⟩ | ⟨L', A2, c2, g1, g2, rfl, hown2, hb2⟩)
    · exact absurd h2.out (by rw [g1 L h1.out]; simp)
    · obtain rfl : L = L' := by have := h1.out.symm.trans g1; injection this with this
      clear g1 g2
      replace hown2 := Lib.hid hown2
      have hB2 := hb1.trans (hb2.mono hb1.size)
      have hown1 := Lib.hid (own_below hown.out hb2)
      have hap : Apart (.slice A L.length c) (.slice A2 L.length c2) := fun g hg hg' => by
        have := hown.out.lt g hg
        have := hown2.out.lt g hg'
        omega
      replace hap := Lib.hid hap
      go_wp2_with fail
      refine (eqHintS_any _ _ _ _ _ L _ (rdH_own hown2.out rfl) (rdH_own hown1.out rfl) (by omega)).mono ?_
      rintro e w3 ⟨rfl, hb3⟩
      go_wp2_with fail
      refine (markHintS_any _ _ _ w1.heap.size _ 1 _ (own_below hown2.out hb3) (by omega) (by omega) (by omega)).mono ?_
      rintro e w4 ⟨rfl, hg4, hm4⟩
      replace hm4 := Lib.hid hm4
      replace hg4 := Lib.hid hg4
      have s3 := hb3.size
      have s4 := hg4.out.size
      have hB4 : Below w.heap.size w w4 := (hB2.trans (hb3.mono hB2.size)).grown hg4.out (by have := hB2.size; omega) (fun k hk => by have := hown2.out.lt k hk; have := hb1.size; omega)
      go_wp2_with fail
      refine (heldHintS_any _ _ _ 1 _ hm4.out (by omega) (by omega) (by omega)).mono ?_
      rintro e w' ⟨rfl, rfl⟩
      go_wp2_with fail
      refine (implHintsOf_any s _ hs').mono ?_
      rintro e w5 (⟨g1, rfl, hb5⟩ | ⟨L', A3, c3, g1, g2, rfl, hown3, hb5⟩)
      · exact absurd h2.out (by rw [g1 _ h1.out]; simp)
      · obtain rfl : L = L' := by have := h1.out.symm.trans g1; injection this with this
        clear g1 g2
        replace hown3 := Lib.hid hown3
        have hown4 := Lib.hid (own_below (own_grown (own_below hown1.out hb3) hg4.out hap.out) hb5)
        go_wp2_with fail
        refine (eqHintS_any _ _ _ _ _ L _ (rdH_own hown3.out rfl) (rdH_own hown4.out rfl) (by omega)).mono ?_
        rintro e w6 ⟨rfl, hb6⟩
        have hm6 := Lib.hid ((hm4.out.below hb5).below hb6)
        go_wp2_with fail
        refine (heldHintS_any _ _ _ 1 _ hm6.out (by omega) (by omega) (by omega)).mono ?_
        rintro e w' ⟨rfl, rfl⟩
        go_wp2_with fail
        go_ret
        exact ⟨rfl, (hB4.trans (hb5.mono hB4.size)).trans (hb6.mono (by have := hB4.size; have := hb5.size; omega))⟩
end Go.Proofs.Ytjlkdmnellbaeaa
