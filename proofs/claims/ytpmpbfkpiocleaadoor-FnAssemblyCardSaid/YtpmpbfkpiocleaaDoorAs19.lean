/- The partner of an instruction: the scan finds what the nesting notes. No program in sight. Conditions: none. -/
import Derived.Test.YtpmpbfkpiocleaaDoorAs18
namespace Go.Proofs.YtpmpbfkpiocleaaDoor
open Go.RowKit
set_option linter.unusedVariables false
set_option maxRecDepth 100000

/-- the scan, from i on, so many blocks deep -/
def scanF (codes : List Int) (at_ : Nat) : Nat → Nat → Int → Int
  | 0, _, _ => -1
  | f + 1, i, d =>
    if codes.length ≤ i then -1
    else if codes.getD i 0 = 35 ∨ codes.getD i 0 = 44 then scanF codes at_ f (i + 1) (d + 1)
    else if codes.getD i 0 = 36 then (if d = 0 ∧ codes.getD at_ 0 = 35 then (i : Int) else scanF codes at_ f (i + 1) d)
    else if codes.getD i 0 = 37 ∨ codes.getD i 0 = 38 then
      (if d = 0 then (if (codes.getD i 0 = 38 ↔ codes.getD at_ 0 = 44) then (i : Int) else -1) else scanF codes at_ f (i + 1) (d - 1))
    else scanF codes at_ f (i + 1) d
def scan (codes : List Int) (at_ : Nat) : Int := scanF codes at_ (codes.length + 1) (at_ + 1) 0

/-- behind its block nothing turns the partner at t any more -/
def Still (t : Nat) (x : Int) (k : Nat) (ps : List Int) (st : List (Nat × Nat)) : Prop := t < k ∧ t < ps.length ∧ ps.getD t 0 = x ∧ ∀ p ∈ st, p.2 ≠ t

theorem getD_set_ne (ps : List Int) (i j : Nat) (x : Int) (h : i ≠ j) : (ps.set i x).getD j 0 = ps.getD j 0 := by
  simp [List.getD_eq_getElem?_getD, List.getElem?_set_ne h]
theorem getD_set_self (ps : List Int) (i : Nat) (x : Int) (h : i < ps.length) : (ps.set i x).getD i 0 = x := by
  simp [List.getD_eq_getElem?_getD, h]

theorem still_step {codes : List Int} {t k : Nat} {x : Int} {ps ps' : List Int} {st st' : List (Nat × Nat)} (h : Still t x k ps st) (hs : pStep codes k (ps, st) = some (ps', st')) : Still t x (k + 1) ps' st' := by
  obtain ⟨h1, h2, h3, h4⟩ := h
  have hk : k ≠ t := by omega
  simp only [pStep] at hs
  by_cases c1 : codes.getD k 0 = 35 ∨ codes.getD k 0 = 44
  · rw [if_pos c1] at hs
    split at hs
    · cases hs
    · injection hs with hs; injection hs with e1 e2; subst e1; subst e2
      refine ⟨by omega, by simpa using h2, by rw [getD_set_ne _ _ _ _ hk, h3], fun p hp => ?_⟩
      rcases List.mem_cons.1 hp with rfl | hp
      · exact hk
      · exact h4 p hp
  · rw [if_neg c1] at hs
    by_cases c2 : codes.getD k 0 = 36
    · rw [if_pos c2] at hs
      rcases st with _ | ⟨⟨o, l⟩, r⟩
      · cases hs
      · dsimp only at hs
        split at hs
        · rename_i hc
          injection hs with hs; injection hs with e1 e2; subst e1; subst e2
          have hl : l ≠ t := h4 (o, l) (by simp)
          refine ⟨by omega, by simpa using h2, by rw [getD_set_ne _ _ _ _ (by omega), getD_set_ne _ _ _ _ hk, h3], fun p hp => ?_⟩
          rcases List.mem_cons.1 hp with rfl | hp
          · exact hk
          · exact h4 p (List.mem_cons_of_mem _ hp)
        · cases hs
    · rw [if_neg c2] at hs
      by_cases c3 : codes.getD k 0 = 37 ∨ codes.getD k 0 = 38
      · rw [if_pos c3] at hs
        rcases st with _ | ⟨⟨o, l⟩, r⟩
        · cases hs
        · dsimp only at hs
          split at hs
          · injection hs with hs; injection hs with e1 e2; subst e1; subst e2
            have hl : l ≠ t := h4 (o, l) (by simp)
            exact ⟨by omega, by simpa using h2, by rw [getD_set_ne _ _ _ _ hl, getD_set_ne _ _ _ _ hk, h3], fun p hp => h4 p (List.mem_cons_of_mem _ hp)⟩
          · cases hs
      · rw [if_neg c3] at hs
        injection hs with hs; injection hs with e1 e2; subst e1; subst e2
        exact ⟨by omega, by simpa using h2, by rw [getD_set_ne _ _ _ _ hk, h3], h4⟩

theorem pTo_succ {codes : List Int} {k n : Nat} {r : List Int × List (Nat × Nat)} (h : pTo codes n = some r) (hk : k + 1 ≤ n) : ∃ s s', pTo codes k = some s ∧ pStep codes k s = some s' ∧ pTo codes (k + 1) = some s' := by
  cases h1 : pTo codes (k + 1) with
  | none => rw [pTo_none h1 n hk] at h; cases h
  | some s' =>
    have h2 := h1
    rw [pTo] at h2
    cases h3 : pTo codes k with
    | none => rw [h3] at h2; cases h2
    | some s => rw [h3] at h2; exact ⟨s, s', rfl, h2, rfl⟩

theorem still_end {codes : List Int} {t : Nat} {x : Int} {r : List Int × List (Nat × Nat)} (hr : pTo codes codes.length = some r) :
    ∀ (m k : Nat) (ps : List Int) (st : List (Nat × Nat)), k + m = codes.length → pTo codes k = some (ps, st) → Still t x k ps st → r.1.getD t 0 = x := by
  intro m
  induction m with
  | zero =>
    intro k ps st hk h hst
    obtain rfl : k = codes.length := by omega
    rw [h] at hr; injection hr with hr; subst hr
    exact hst.2.2.1
  | succ m ih =>
    intro k ps st hk h hst
    obtain ⟨s, s', h1, h2, h3⟩ := pTo_succ hr (k := k) (by omega)
    rw [h] at h1; injection h1 with h1; subst h1
    obtain ⟨ps', st'⟩ := s'
    exact ih (k + 1) ps' st' (by omega) h3 (still_step hst h2)

/-- the block of t is open, under some others -/
structure Open_ (codes : List Int) (t k : Nat) (ps : List Int) (st : List (Nat × Nat)) (d : Nat) : Prop where
  lt : t < k
  len : t < ps.length
  ex : ∃ (e r : List (Nat × Nat)) (o : Nat), st = e ++ (o, t) :: r ∧ e.length = d ∧ (∀ p ∈ e, t < p.1 ∧ t < p.2) ∧ (∀ p ∈ r, p.2 ≠ t) ∧ o ≤ t ∧
    (codes.getD t 0 = 35 ∧ o = t ∧ codes.getD o 0 = 35 ∨ codes.getD t 0 = 44 ∧ o = t ∧ codes.getD o 0 = 44 ∨ codes.getD t 0 = 36 ∧ o < t ∧ codes.getD o 0 = 35)

theorem scan_open {codes : List Int} {t : Nat} {r : List Int × List (Nat × Nat)} (hr : pTo codes codes.length = some r) (hr0 : r.2 = []) :
    ∀ (m k : Nat) (ps : List Int) (st : List (Nat × Nat)) (d f : Nat), k + m = codes.length → pTo codes k = some (ps, st) → Open_ codes t k ps st d → m < f → r.1.getD t 0 = scanF codes t f k d ∧ 0 ≤ r.1.getD t 0 := by
  intro m
  induction m with
  | zero =>
    intro k ps st d f hk h ho hf
    obtain rfl : k = codes.length := by omega
    rw [h] at hr; injection hr with hr; subst hr
    obtain ⟨e, r', o, h1, _⟩ := ho.ex
    simp at hr0
    rw [hr0] at h1
    simp at h1
  | succ m ih =>
    intro k ps st d f hk h ho hf
    obtain ⟨f, rfl⟩ : ∃ g, f = g + 1 := ⟨f - 1, by omega⟩
    obtain ⟨s, s', h1, h2, h3⟩ := pTo_succ hr (k := k) (by omega)
    rw [h] at h1; injection h1 with h1; subst h1
    obtain ⟨ps', st'⟩ := s'
    obtain ⟨hlt, hlen, e, r', o, rfl, hd, he, hr', hot, hcase⟩ := ho
    have hkt : k ≠ t := by omega
    rw [scanF, if_neg (by omega)]
    simp only [pStep] at h2
    by_cases c1 : codes.getD k 0 = 35 ∨ codes.getD k 0 = 44
    · rw [if_pos c1] at h2 ⊢
      split at h2
      · cases h2
      · injection h2 with h2; injection h2 with e1 e2; subst e1; subst e2
        have := ih (k + 1) _ _ (d + 1) f (by omega) h3 ⟨by omega, by simpa using hlen, (k, k) :: e, r', o, rfl, by simp [hd], fun p hp => by
          rcases List.mem_cons.1 hp with rfl | hp
          · exact ⟨hlt, hlt⟩
          · exact he p hp, hr', hot, hcase⟩ (by omega)
        simpa using this
    · rw [if_neg c1] at h2 ⊢
      by_cases c2 : codes.getD k 0 = 36
      · rw [if_pos c2] at h2 ⊢
        rcases e with _ | ⟨⟨o1, l1⟩, e⟩
        · simp only [List.nil_append] at h2
          split at h2
          · rename_i hc
            injection h2 with h2; injection h2 with e1 e2; subst e1; subst e2
            have hd0 : d = 0 := by simpa using hd.symm
            have hct : codes.getD t 0 = 35 ∧ o = t := by
              rcases hcase with ⟨a, b, c⟩ | ⟨a, b, c⟩ | ⟨a, b, c⟩
              · exact ⟨a, b⟩
              · omega
              · omega
            rw [if_pos ⟨by omega, hct.1⟩]
            have hst : Still t (k : Int) (k + 1) ((ps.set k (-1)).set o k) ((o, k) :: r') := by
              refine ⟨by omega, by simpa using hlen, ?_, fun p hp => ?_⟩
              · rw [hct.2]; exact getD_set_self _ _ _ (by simpa using hlen)
              · rcases List.mem_cons.1 hp with rfl | hp
                · exact hkt
                · exact hr' p hp
            have := still_end hr m (k + 1) _ _ (by omega) h3 hst
            rw [this]; exact ⟨rfl, by omega⟩
          · cases h2
        · simp only [List.cons_append] at h2
          split at h2
          · rename_i hc
            injection h2 with h2; injection h2 with e1 e2; subst e1; subst e2
            have hd0 : ¬ d = 0 := by simp at hd; omega
            rw [if_neg (by omega)]
            have h1' := he (o1, l1) (by simp)
            exact ih (k + 1) _ _ d f (by omega) h3 ⟨by omega, by simpa using hlen, (o1, k) :: e, r', o, rfl, by simpa using hd, fun p hp => by
              rcases List.mem_cons.1 hp with rfl | hp
              · exact ⟨h1'.1, hlt⟩
              · exact he p (List.mem_cons_of_mem _ hp), hr', hot, hcase⟩ (by omega)
          · cases h2
      · rw [if_neg c2] at h2 ⊢
        by_cases c3 : codes.getD k 0 = 37 ∨ codes.getD k 0 = 38
        · rw [if_pos c3] at h2 ⊢
          rcases e with _ | ⟨⟨o1, l1⟩, e⟩
          · simp only [List.nil_append] at h2
            split at h2
            · rename_i hc
              injection h2 with h2; injection h2 with e1 e2; subst e1; subst e2
              have hd0 : d = 0 := by simpa using hd.symm
              rw [if_pos (by omega), if_pos (by
                rcases hcase with ⟨a, b, c⟩ | ⟨a, b, c⟩ | ⟨a, b, c⟩ <;> rcases c3 with c3 | c3 <;> rw [a, c3] <;> rw [c, c3] at hc <;> simp at hc ⊢)]
              have hst : Still t (k : Int) (k + 1) ((ps.set k (-1)).set t k) r' := ⟨by omega, by simpa using hlen, getD_set_self _ _ _ (by simpa using hlen), hr'⟩
              have := still_end hr m (k + 1) _ _ (by omega) h3 hst
              rw [this]; exact ⟨rfl, by omega⟩
            · cases h2
          · simp only [List.cons_append] at h2
            split at h2
            · injection h2 with h2; injection h2 with e1 e2; subst e1; subst e2
              have hd0 : ¬ (d : Int) = 0 := by simp at hd; omega
              rw [if_neg hd0]
              have := ih (k + 1) _ _ (d - 1) f (by omega) h3 ⟨by omega, by simpa using hlen, e, r', o, rfl, by simp at hd; omega, fun p hp => he p (List.mem_cons_of_mem _ hp), hr', hot, hcase⟩ (by omega)
              have e : ((d - 1 : Nat) : Int) = (d : Int) - 1 := by omega
              rw [← e]; exact this
            · cases h2
        · rw [if_neg c3] at h2 ⊢
          injection h2 with h2; injection h2 with e1 e2; subst e1; subst e2
          exact ih (k + 1) _ _ d f (by omega) h3 ⟨by omega, by simpa using hlen, e, r', o, rfl, hd, he, hr', hot, hcase⟩ (by omega)

theorem pinv_all {codes : List Int} : ∀ (k : Nat) (ps : List Int) (st : List (Nat × Nat)), k ≤ codes.length → pTo codes k = some (ps, st) → PInv codes k ps st := by
  intro k
  induction k with
  | zero => intro ps st _ h; simp [pTo] at h; obtain ⟨rfl, rfl⟩ := h; exact PInv.start codes
  | succ k ih =>
    intro ps' st' hk h
    obtain ⟨⟨ps, st⟩, s', h1, h2, h3⟩ := pTo_succ (k := k) h (Nat.le_refl _)
    rw [h] at h3; injection h3 with h3; subst h3
    have hi := ih ps st (by omega) h1
    have h4 := h2
    simp only [pStep] at h2
    by_cases c1 : codes.getD k 0 = 35 ∨ codes.getD k 0 = 44
    · rw [if_pos c1] at h2
      split at h2
      · cases h2
      · injection h2 with h2; injection h2 with e1 e2; subst e1; subst e2
        exact hi.push c1 (by omega)
    · rw [if_neg c1] at h2
      by_cases c2 : codes.getD k 0 = 36
      · rw [if_pos c2] at h2
        rcases st with _ | ⟨⟨o, l⟩, r⟩
        · cases h2
        · dsimp only at h2
          split at h2
          · rename_i hc
            injection h2 with h2; injection h2 with e1 e2; subst e1; subst e2
            exact hi.else_yes c2 hc.1 hc.2
          · cases h2
      · rw [if_neg c2] at h2
        by_cases c3 : codes.getD k 0 = 37 ∨ codes.getD k 0 = 38
        · rw [if_pos c3] at h2
          rcases st with _ | ⟨⟨o, l⟩, r⟩
          · cases h2
          · dsimp only at h2
            split at h2
            · rename_i hc
              injection h2 with h2; injection h2 with e1 e2; subst e1; subst e2
              exact hi.end_yes c3 hc
            · cases h2
        · rw [if_neg c3] at h2
          injection h2 with h2; injection h2 with e1 e2; subst e1; subst e2
          exact hi.other (by omega) (by omega) (by omega) (by omega) (by omega)

theorem partner_law {codes : List Int} {ps : List Int} (h : pAll codes = some (ps, [])) {t : Nat} (ht : t < codes.length) :
    ((codes.getD t 0 = 35 ∨ codes.getD t 0 = 36 ∨ codes.getD t 0 = 44) ∧ ps.getD t 0 = scan codes t ∧ 0 ≤ ps.getD t 0) ∨
    (codes.getD t 0 ≠ 35 ∧ codes.getD t 0 ≠ 36 ∧ codes.getD t 0 ≠ 44 ∧ ps.getD t 0 = -1) := by
  obtain ⟨⟨ps0, st0⟩, ⟨ps1, st1⟩, h1, h2, h3⟩ := pTo_succ (k := t) h (by omega)
  have hi := pinv_all t ps0 st0 (by omega) h1
  have hl : t < ps0.length := by rw [hi.len]; exact ht
  simp only [pStep] at h2
  by_cases c1 : codes.getD t 0 = 35 ∨ codes.getD t 0 = 44
  · rw [if_pos c1] at h2
    split at h2
    · cases h2
    · injection h2 with h2; injection h2 with e1 e2; subst e1; subst e2
      left
      refine ⟨by omega, ?_⟩
      have ho : Open_ codes t (t + 1) (ps0.set t (-1)) ((t, t) :: st0) 0 := by
        refine ⟨by omega, by simpa using hl, [], st0, t, rfl, rfl, by simp, fun p hp => ?_, Nat.le_refl _, ?_⟩
        · have := hi.lt p hp; omega
        · rcases c1 with c1 | c1
          · exact .inl ⟨c1, rfl, c1⟩
          · exact .inr (.inl ⟨c1, rfl, c1⟩)
      exact scan_open h rfl (codes.length - (t + 1)) (t + 1) _ _ 0 (codes.length + 1) (by omega) h3 ho (by omega)
  · rw [if_neg c1] at h2
    by_cases c2 : codes.getD t 0 = 36
    · rw [if_pos c2] at h2
      rcases st0 with _ | ⟨⟨o, l⟩, r⟩
      · cases h2
      · dsimp only at h2
        split at h2
        · rename_i hc
          injection h2 with h2; injection h2 with e1 e2; subst e1; subst e2
          left
          refine ⟨by omega, ?_⟩
          have hol := hi.lt (o, l) (by simp)
          dsimp only at hol
          have ho : Open_ codes t (t + 1) ((ps0.set t (-1)).set o t) ((o, t) :: r) 0 := by
            refine ⟨by omega, by simpa using hl, [], r, o, rfl, rfl, by simp, fun p hp => ?_, by omega, ?_⟩
            · have := hi.lt p (List.mem_cons_of_mem _ hp); omega
            · exact .inr (.inr ⟨c2, by omega, hc.1⟩)
          exact scan_open h rfl (codes.length - (t + 1)) (t + 1) _ _ 0 (codes.length + 1) (by omega) h3 ho (by omega)
        · cases h2
    · right
      refine ⟨by omega, c2, by omega, ?_⟩
      have hst : Still t (-1) (t + 1) ps1 st1 := by
        rw [if_neg c2] at h2
        by_cases c3 : codes.getD t 0 = 37 ∨ codes.getD t 0 = 38
        · rw [if_pos c3] at h2
          rcases st0 with _ | ⟨⟨o, l⟩, r⟩
          · cases h2
          · dsimp only at h2
            split at h2
            · injection h2 with h2; injection h2 with e1 e2; subst e1; subst e2
              have hol := hi.lt (o, l) (by simp)
              dsimp only at hol
              refine ⟨by omega, by simpa using hl, ?_, fun p hp => ?_⟩
              · rw [getD_set_ne _ _ _ _ (by omega)]; exact getD_set_self _ _ _ hl
              · have := hi.lt p (List.mem_cons_of_mem _ hp); omega
            · cases h2
        · rw [if_neg c3] at h2
          injection h2 with h2; injection h2 with e1 e2; subst e1; subst e2
          refine ⟨by omega, by simpa using hl, getD_set_self _ _ _ hl, fun p hp => ?_⟩
          have := hi.lt p hp; omega
      exact still_end h (codes.length - (t + 1)) (t + 1) ps1 st1 (by omega) h3 hst
end Go.Proofs.YtpmpbfkpiocleaaDoor

