/- Nested lists of codes, and the partners in them. No program in sight. Conditions: none. -/
import Derived.Deep.RegionWith
import Derived.StillTailTactics
import Derived.Test.YtpmpbfkpiocleaaDoorAs19
import Derived.Test.YtpmpbfkpiocleaaDoorAs24
namespace Go.Proofs.YtpmpbfkpiocleaaDoor
open Go.RowKit
set_option linter.unusedVariables false
set_option maxRecDepth 100000

/-- a list of codes that leaves the open blocks as they were, wherever at most 6 - m are open -/
def Bal (m : Nat) (C : List Int) : Prop := ∀ (X Y ps : List Int) (st : List (Nat × Nat)), st.length + m ≤ 6 → pTo (X ++ (C ++ Y)) X.length = some (ps, st) → ∃ ps', pTo (X ++ (C ++ Y)) (X.length + C.length) = some (ps', st)
theorem Bal.nil (m : Nat) : Bal m [] := fun X Y ps st _ h => ⟨ps, by simpa using h⟩
theorem Bal.mono {m m' : Nat} {C : List Int} (h : Bal m C) (hm : m ≤ m') : Bal m' C := fun X Y ps st hs hp => h X Y ps st (by omega) hp
theorem Bal.app {m : Nat} {A B : List Int} (ha : Bal m A) (hb : Bal m B) : Bal m (A ++ B) := by
  intro X Y ps st hs hp
  rw [List.append_assoc] at hp ⊢
  obtain ⟨ps1, h1⟩ := ha X (B ++ Y) ps st hs hp
  have e : X ++ (A ++ (B ++ Y)) = (X ++ A) ++ (B ++ Y) := by simp
  rw [e] at h1 ⊢
  obtain ⟨ps2, h2⟩ := hb (X ++ A) Y ps1 st hs (by rw [List.length_append]; exact h1)
  refine ⟨ps2, ?_⟩
  rw [List.length_append] at h2 ⊢
  rw [← Nat.add_assoc]
  exact h2
theorem code_at (X : List Int) (c : Int) (Y : List Int) : (X ++ (c :: Y)).getD X.length 0 = c := by
  simp [List.getD_eq_getElem?_getD]
theorem Bal.one {c : Int} (h1 : c ≠ 35) (h2 : c ≠ 44) (h3 : c ≠ 36) (h4 : c ≠ 37) (h5 : c ≠ 38) (m : Nat) : Bal m [c] := by
  intro X Y ps st hs hp
  have hc : (X ++ ([c] ++ Y)).getD X.length 0 = c := code_at X c Y
  refine ⟨ps.set X.length (-1), ?_⟩
  show pTo _ (X.length + 1) = _
  rw [pTo, hp]
  simp only [Option.bind_some, pStep]
  rw [hc, if_neg (by omega), if_neg (by omega), if_neg (by omega)]
theorem bal_open {m : Nat} {A R : List Int} (ha : Bal m A) {c : Int} (hc : c = 35 ∨ c = 44) (X Y ps : List Int) (st : List (Nat × Nat)) (hs : st.length + (m + 1) ≤ 6) (hp : pTo (X ++ ((c :: (A ++ R)) ++ Y)) X.length = some (ps, st)) :
    ∃ ps', pTo (X ++ ((c :: (A ++ R)) ++ Y)) (X.length + 1 + A.length) = some (ps', (X.length, X.length) :: st) := by
  have hca : (X ++ ((c :: (A ++ R)) ++ Y)).getD X.length 0 = c := code_at X c _
  have h1 : pTo (X ++ ((c :: (A ++ R)) ++ Y)) (X.length + 1) = some (ps.set X.length (-1), (X.length, X.length) :: st) := by
    rw [pTo, hp]
    simp only [Option.bind_some, pStep]
    rw [hca, if_pos hc, if_neg (by omega)]
  have e : X ++ ((c :: (A ++ R)) ++ Y) = (X ++ [c]) ++ (A ++ (R ++ Y)) := by simp
  rw [e] at h1 ⊢
  have hl : (X ++ [c]).length = X.length + 1 := by simp
  obtain ⟨ps2, h2⟩ := ha (X ++ [c]) (R ++ Y) (ps.set X.length (-1)) ((X.length, X.length) :: st) (by rw [List.length_cons]; omega) (by rw [hl]; exact h1)
  rw [hl] at h2
  exact ⟨ps2, h2⟩
theorem Bal.rep {m : Nat} {A : List Int} (ha : Bal m A) : Bal (m + 1) (44 :: (A ++ [38])) := by
  intro X Y ps st hs hp
  obtain ⟨ps1, h1⟩ := bal_open ha (.inr rfl) X Y ps st hs hp
  have hca : (X ++ ((44 :: (A ++ [38])) ++ Y)).getD X.length 0 = 44 := code_at X 44 _
  have hcb : (X ++ ((44 :: (A ++ [38])) ++ Y)).getD (X.length + 1 + A.length) 0 = 38 := by
    have := code_at (X ++ 44 :: A) 38 Y
    rw [show (X ++ 44 :: A).length = X.length + 1 + A.length by simp; omega] at this
    simpa using this
  refine ⟨(ps1.set (X.length + 1 + A.length) (-1)).set X.length ((X.length + 1 + A.length : Nat) : Int), ?_⟩
  rw [show X.length + (44 :: (A ++ [38])).length = (X.length + 1 + A.length) + 1 by simp; omega, pTo, h1]
  simp only [Option.bind_some, pStep]
  rw [hcb, if_neg (by omega), if_neg (by omega), if_pos (by omega), hca, if_pos (by omega)]
theorem Bal.iff {m : Nat} {A : List Int} (ha : Bal m A) : Bal (m + 1) (35 :: (A ++ [37])) := by
  intro X Y ps st hs hp
  obtain ⟨ps1, h1⟩ := bal_open ha (.inl rfl) X Y ps st hs hp
  have hca : (X ++ ((35 :: (A ++ [37])) ++ Y)).getD X.length 0 = 35 := code_at X 35 _
  have hcb : (X ++ ((35 :: (A ++ [37])) ++ Y)).getD (X.length + 1 + A.length) 0 = 37 := by
    have := code_at (X ++ 35 :: A) 37 Y
    rw [show (X ++ 35 :: A).length = X.length + 1 + A.length by simp; omega] at this
    simpa using this
  refine ⟨(ps1.set (X.length + 1 + A.length) (-1)).set X.length ((X.length + 1 + A.length : Nat) : Int), ?_⟩
  rw [show X.length + (35 :: (A ++ [37])).length = (X.length + 1 + A.length) + 1 by simp; omega, pTo, h1]
  simp only [Option.bind_some, pStep]
  rw [hcb, if_neg (by omega), if_neg (by omega), if_pos (by omega), hca, if_pos (by omega)]
theorem Bal.ife {m : Nat} {A B : List Int} (ha : Bal m A) (hb : Bal m B) : Bal (m + 1) (35 :: (A ++ (36 :: (B ++ [37])))) := by
  intro X Y ps st hs hp
  obtain ⟨ps1, h1⟩ := bal_open ha (.inl rfl) X Y ps st hs hp
  have hca : (X ++ ((35 :: (A ++ (36 :: (B ++ [37])))) ++ Y)).getD X.length 0 = 35 := code_at X 35 _
  have hcb : (X ++ ((35 :: (A ++ (36 :: (B ++ [37])))) ++ Y)).getD (X.length + 1 + A.length) 0 = 36 := by
    have := code_at (X ++ 35 :: A) 36 (B ++ 37 :: Y)
    rw [show (X ++ 35 :: A).length = X.length + 1 + A.length by simp; omega] at this
    simpa using this
  obtain ⟨I, hI⟩ : ∃ I, I = X.length + 1 + A.length := ⟨_, rfl⟩
  have h2 : pTo (X ++ ((35 :: (A ++ (36 :: (B ++ [37])))) ++ Y)) (I + 1) = some ((ps1.set I (-1)).set X.length (I : Int), (X.length, I) :: st) := by
    rw [hI, pTo, h1]
    simp only [Option.bind_some, pStep]
    rw [hcb, if_neg (by omega), if_pos rfl, hca, if_pos (by simp)]
  have e : X ++ ((35 :: (A ++ (36 :: (B ++ [37])))) ++ Y) = (X ++ 35 :: (A ++ [36])) ++ (B ++ (37 :: Y)) := by simp
  have hl : (X ++ 35 :: (A ++ [36])).length = I + 1 := by rw [hI]; simp; omega
  rw [e] at h2 hca ⊢
  obtain ⟨ps3, h3⟩ := hb (X ++ 35 :: (A ++ [36])) (37 :: Y) ((ps1.set I (-1)).set X.length (I : Int)) ((X.length, I) :: st) (by rw [List.length_cons]; omega) (by rw [hl]; exact h2)
  rw [hl] at h3
  have hcd : ((X ++ 35 :: (A ++ [36])) ++ (B ++ (37 :: Y))).getD (I + 1 + B.length) 0 = 37 := by
    have := code_at (X ++ 35 :: (A ++ 36 :: B)) 37 Y
    rw [show (X ++ 35 :: (A ++ 36 :: B)).length = I + 1 + B.length by rw [hI]; simp; omega] at this
    simpa using this
  refine ⟨(ps3.set (I + 1 + B.length) (-1)).set I ((I + 1 + B.length : Nat) : Int), ?_⟩
  rw [show X.length + (35 :: (A ++ (36 :: (B ++ [37])))).length = (I + 1 + B.length) + 1 by rw [hI]; simp; omega, pTo, h3]
  simp only [Option.bind_some, pStep]
  rw [hcd, if_neg (by omega), if_neg (by omega), if_pos (by omega), hca, if_pos (by omega)]
theorem nest_of {C : List Int} (h : Bal 6 C) : nestB C = true := by
  obtain ⟨ps', h1⟩ := h [] [] (List.replicate C.length 0) [] (by simp) (by simp [pTo])
  unfold nestB pAll
  simp at h1
  rw [h1]

/-- what a scan finds -/
theorem scanF_is {codes : List Int} {t : Nat} : ∀ (f i : Nat) (d : Int), 0 ≤ scanF codes t f i d →
    ∃ k : Nat, scanF codes t f i d = k ∧ i ≤ k ∧ k < codes.length ∧ ((codes.getD k 0 = 36 ∧ codes.getD t 0 = 35) ∨ ((codes.getD k 0 = 37 ∨ codes.getD k 0 = 38) ∧ (codes.getD k 0 = 38 ↔ codes.getD t 0 = 44))) := by
  intro f
  induction f with
  | zero => intro i d h; simp [scanF] at h
  | succ f ih =>
    intro i d h
    rw [scanF] at h ⊢
    split at h
    · omega
    · rename_i h1
      rw [if_neg h1]
      split at h
      · rename_i h2
        rw [if_pos h2]
        obtain ⟨k, e, h3, h4⟩ := ih (i + 1) _ h
        exact ⟨k, e, by omega, h4⟩
      · rename_i h2
        rw [if_neg h2]
        split at h
        · rename_i h3
          rw [if_pos h3]
          split at h
          · rename_i h4
            rw [if_pos h4]
            exact ⟨i, rfl, Nat.le_refl _, by omega, .inl ⟨h3, h4.2⟩⟩
          · rename_i h4
            rw [if_neg h4]
            obtain ⟨k, e, h5, h6⟩ := ih (i + 1) _ h
            exact ⟨k, e, by omega, h6⟩
        · rename_i h3
          rw [if_neg h3]
          split at h
          · rename_i h4
            rw [if_pos h4]
            split at h
            · rename_i h5
              rw [if_pos h5]
              split at h
              · rename_i h6
                rw [if_pos h6]
                exact ⟨i, rfl, Nat.le_refl _, by omega, .inr ⟨h4, h6⟩⟩
              · omega
            · rename_i h5
              rw [if_neg h5]
              obtain ⟨k, e, h6, h7⟩ := ih (i + 1) _ h
              exact ⟨k, e, by omega, h7⟩
          · rename_i h4
            rw [if_neg h4]
            obtain ⟨k, e, h5, h6⟩ := ih (i + 1) _ h
            exact ⟨k, e, by omega, h6⟩
/-- the partner in a nested list -/
theorem partner_is {codes : List Int} (h : nestB codes = true) {t : Nat} (ht : t < codes.length) (hc : codes.getD t 0 = 35 ∨ codes.getD t 0 = 36 ∨ codes.getD t 0 = 44) :
    ∃ k : Nat, scan codes t = k ∧ t < k ∧ k < codes.length ∧ (codes.getD t 0 = 44 → codes.getD k 0 = 38) ∧ (codes.getD t 0 = 36 → codes.getD k 0 = 37) ∧ (codes.getD t 0 = 35 → codes.getD k 0 = 37 ∨ codes.getD k 0 = 36) := by
  unfold nestB at h
  split at h
  · rename_i ps he
    rcases partner_law he ht with ⟨_, h1, h2⟩ | ⟨h1, h2, h3, _⟩
    · rw [h1] at h2
      obtain ⟨k, e, h3, h4, h5⟩ := scanF_is _ _ _ h2
      refine ⟨k, e, by omega, h4, fun h6 => ?_, fun h6 => ?_, fun h6 => ?_⟩ <;> rcases h5 with ⟨g1, g2⟩ | ⟨g1, g2⟩ <;> omega
    · omega
  · cases h
end Go.Proofs.YtpmpbfkpiocleaaDoor

/- The laws' own functions on slices of instructions. Conditions: as each states. -/
namespace Go.Proofs.YtpmpbfkpiocleaaDoor
open Go.RowKit
set_option linter.unusedVariables false
set_option maxRecDepth 100000

/-- the cells of a marked slice -/
def Marked (w : World) (A : Option Addr) (n : Nat) (m : Int) : Prop := 0 < n → ∃ b off, A = some ⟨b, off, none⟩ ∧ b < w.heap.size ∧ ∀ j, j < n → w.cell? ⟨b, off + j * 2, none⟩ = some (.int .i64 (m + 2 * j)) ∧ w.cell? ⟨b, off + j * 2 + 1, none⟩ = some (.int .i64 (m + 2 * j + 1))

theorem Marked.below {w w' : World} {A : Option Addr} {n : Nat} {m : Int} (h : Marked w A n m) (hb : Below w.heap.size w w') : Marked w' A n m := by
  intro hn
  obtain ⟨b, off, rfl, hlt, hc⟩ := h hn
  exact ⟨b, off, rfl, Nat.lt_of_lt_of_le hlt hb.size, fun j hj => ⟨(hb.cell (p := ⟨b, off + j * 2, none⟩) hlt).trans (hc j hj).1, (hb.cell (p := ⟨b, off + j * 2 + 1, none⟩) hlt).trans (hc j hj).2⟩⟩

end Go.Proofs.YtpmpbfkpiocleaaDoor

