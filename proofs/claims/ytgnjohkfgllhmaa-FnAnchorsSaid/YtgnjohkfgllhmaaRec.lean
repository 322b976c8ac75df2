/- What is reckoned of a glyph out of what is reckoned of its parts: in the order in which parts come first. No walk in sight. Conditions: as each states. -/
import Derived.Test.YtgnjohkfgllhmaaGlB
namespace Go.Proofs.Ytgnjohkfgllhmaa
set_option linter.unusedVariables false
set_option maxRecDepth 100000

def memF {α : Type} (G : (Int → α) → Int → α) (z : α) (out : List Int) : Int → α := out.foldl (fun D x => fun j => if j = x then G D x else D j) (fun _ => z)
variable {α : Type} {G : (Int → α) → Int → α} {z : α} {T : List (List Int)} {out : List Int}
theorem memF_nil (G : (Int → α) → Int → α) (z : α) (j : Int) : memF G z [] j = z := rfl
theorem memF_snoc (G : (Int → α) → Int → α) (z : α) (out : List Int) (x j : Int) : memF G z (out ++ [x]) j = if j = x then G (memF G z out) x else memF G z out j := by
  unfold memF; rw [List.foldl_append]; rfl
theorem memF_out {j : Int} (h : j ∉ out) : memF G z out j = z := by
  induction out using list_snoc_ind with
  | h0 => rfl
  | h1 l a ih =>
    rw [memF_snoc, if_neg (by rintro rfl; exact h (by simp))]
    exact ih fun hm => h (by simp [hm])
theorem memF_stay {s : List Int} {j : Int} (h : j ∉ s) : memF G z (out ++ s) j = memF G z out j := by
  induction s using list_snoc_ind with
  | h0 => simp
  | h1 l a ih => rw [← List.append_assoc, memF_snoc, if_neg (by rintro rfl; exact h (by simp)), ih fun hm => h (by simp [hm])]
theorem memF_take (ho : Ord T out) {t : Nat} {j : Int} (h : j ∈ out.take t) : memF G z out j = memF G z (out.take t) j := by
  have e := List.take_append_drop t out
  have hd := ho.nodup
  rw [← e, List.nodup_append] at hd
  conv => lhs; rw [← e]
  exact memF_stay fun hm => hd.2.2 j h j hm rfl
/-- what is reckoned of x asks of x's parts alone -/
def Loc (T : List (List Int)) (G : (Int → α) → Int → α) : Prop := ∀ (D E : Int → α) (x : Int) (ps : List Int), T[x.toNat]? = some ps → (∀ p ∈ ps, D p = E p) → G D x = G E x
theorem take_snoc_at {l : List Int} {t : Nat} {x : Int} (h : l[t]? = some x) : l.take (t + 1) = l.take t ++ [x] := by
  have hl := (List.getElem?_eq_some_iff.1 h).1
  rw [List.take_succ_eq_append_getElem hl]
  rw [List.getElem?_eq_getElem hl] at h
  injection h with h; rw [h]
theorem memF_at (hG : Loc T G) (ho : Ord T out) {t : Nat} {x : Int} (h : out[t]? = some x) {ps : List Int} (hps : T[x.toNat]? = some ps) : memF G z out x = G (memF G z out) x := by
  have e := take_snoc_at h
  rw [memF_take ho (t := t + 1) (by rw [e]; simp), e, memF_snoc, if_pos rfl]
  exact hG _ _ x ps hps fun p hp => (memF_take ho (ho.ready t x h ps hps p hp)).symm
/-- what holds of each that is reckoned -/
theorem memF_ind {Q : Nat → Int → α → Prop} (ho : Ord T out) (hstep : ∀ (t : Nat) (x : Int) (D : Int → α), out[t]? = some x → (∀ p ∈ out.take t, ∃ s, s < t ∧ Q s p (D p)) → Q t x (G D x)) : ∀ (t : Nat) (x : Int), out[t]? = some x → Q t x (memF G z out x) := by
  intro t
  induction t using Nat.strongRecOn with
  | ind t ih =>
    intro x hx
    have e := take_snoc_at hx
    rw [memF_take ho (t := t + 1) (by rw [e]; simp), e, memF_snoc, if_pos rfl]
    refine hstep t x _ hx fun p hp => ?_
    obtain ⟨s, hs⟩ := List.getElem?_of_mem hp
    have hst : s < t := by
      have := (List.getElem?_eq_some_iff.1 hs).1
      rw [List.length_take] at this; omega
    rw [List.getElem?_take_of_lt hst] at hs
    exact ⟨s, hst, by rw [← memF_take ho hp]; exact ih s hst p hs⟩

/-! ### the number of loops -/
def cntS (D : Int → Int) (a : Int) (ps : List Part) : Int := ps.foldl (fun a p => a + D p.1) a
def cntM (D : Int → Int) (a : Int) (ps : List Part) : Int := ps.foldl (fun a p => min (a + D p.1) 13) a
theorem cntS_snoc (D : Int → Int) (a : Int) (ps : List Part) (p : Part) : cntS D a (ps ++ [p]) = cntS D a ps + D p.1 := by unfold cntS; rw [List.foldl_append]; rfl
theorem cntM_snoc (D : Int → Int) (a : Int) (ps : List Part) (p : Part) : cntM D a (ps ++ [p]) = min (cntM D a ps + D p.1) 13 := by unfold cntM; rw [List.foldl_append]; rfl
theorem cnt_M (D : Int → Int) (a : Int) (ps : List Part) (ha : a ≤ 13) (hD : ∀ p ∈ ps, 0 ≤ D p.1) : cntM D a ps = min (cntS D a ps) 13 := by
  induction ps using list_snoc_ind with
  | h0 => simp only [cntM, cntS, List.foldl_nil]; omega
  | h1 l p ih =>
    rw [cntM_snoc, cntS_snoc, ih fun p hp => hD p (by simp [hp])]
    have := hD p (by simp)
    omega
theorem cntS_bd (D : Int → Int) (a : Int) (ps : List Part) (B : Int) (hD : ∀ p ∈ ps, 0 ≤ D p.1 ∧ D p.1 ≤ B) : a ≤ cntS D a ps ∧ cntS D a ps ≤ a + ps.length * B := by
  induction ps using list_snoc_ind with
  | h0 => simp [cntS]
  | h1 l p ih =>
    rw [cntS_snoc]
    have h1 := ih fun p hp => hD p (by simp [hp])
    have h2 := hD p (by simp)
    have e : (((l ++ [p]).length : Nat) : Int) * B = l.length * B + B := by
      rw [List.length_append]; simp only [List.length_cons, List.length_nil, Nat.zero_add]; rw [Int.natCast_add, Int.add_mul]; simp
    rw [e]
    omega
theorem cntS_congr {D E : Int → Int} {ps : List Part} (a : Int) (h : ∀ p ∈ ps, D p.1 = E p.1) : cntS D a ps = cntS E a ps := by
  induction ps using list_snoc_ind with
  | h0 => rfl
  | h1 l p ih => rw [cntS_snoc, cntS_snoc, ih fun p hp => h p (by simp [hp]), h p (by simp)]
def cntG (L : List Gl) (D : Int → Int) (x : Int) : Int := match L[x.toNat]? with
  | some g => min (cntS D g.out.length g.parts) 13
  | none => 0
theorem cntG_eq {L : List Gl} {g : Gl} {x : Int} (h : L[x.toNat]? = some g) (D : Int → Int) : cntG L D x = min (cntS D g.out.length g.parts) 13 := by unfold cntG; rw [h]
theorem cntG_none {L : List Gl} {x : Int} (h : L[x.toNat]? = none) (D : Int → Int) : cntG L D x = 0 := by unfold cntG; rw [h]
theorem tgts_get {L : List Gl} {j : Nat} {ps : List Int} (h : (tgts L)[j]? = some ps) : ∃ g, L[j]? = some g ∧ ps = g.parts.map (·.1) := by
  unfold tgts at h
  rw [List.getElem?_map] at h
  cases hg : L[j]? with
  | none => rw [hg] at h; cases h
  | some g => rw [hg] at h; injection h with h; exact ⟨g, rfl, h.symm⟩
theorem cntG_loc (L : List Gl) : Loc (tgts L) (cntG L) := by
  intro D E x ps hps hD
  obtain ⟨g, hg, rfl⟩ := tgts_get hps
  rw [cntG_eq hg, cntG_eq hg, cntS_congr _ fun p hp => hD p.1 (List.mem_map_of_mem (f := (·.1)) hp)]
def cntF (L : List Gl) (out : List Int) : Int → Int := memF (cntG L) 0 out
theorem cntF_bd (L : List Gl) (out : List Int) (j : Int) : 0 ≤ cntF L out j ∧ cntF L out j ≤ 13 := by
  unfold cntF
  induction out using list_snoc_ind generalizing j with
  | h0 => rw [memF_nil]; omega
  | h1 l a ih =>
    rw [memF_snoc]
    split
    · cases hg : L[a.toNat]? with
      | none => rw [cntG_none hg]; omega
      | some g =>
        rw [cntG_eq hg]
        have := (cntS_bd (memF (cntG L) 0 l) g.out.length g.parts 13 fun p _ => ih p.1).1
        omega
    · exact ih j
end Go.Proofs.Ytgnjohkfgllhmaa
