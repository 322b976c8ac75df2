/- The lines of a set's text: plain facts. Conditions: as each states. -/
import Derived.Test.YtgdkabljgabjoaaGreatDoorRb37
import Derived.Test.YtgdkabljgabjoaaGreatDoorRb12
namespace Go.Proofs.YtgdkabljgabjoaaGreatDoor
set_option linter.unusedVariables false
set_option maxRecDepth 100000

def patE : List UInt8 := [10, 101, 110, 100, 10]
theorem index_skip {a : UInt8} {l sub : List UInt8} {n : Nat} (h : sub.isPrefixOf (a :: l) = false) (hi : Lib.index l sub = (n : Int)) : Lib.index (a :: l) sub = ((n + 1 : Nat) : Int) := by
  rw [Lib.index, h, hi, if_neg (by simp), if_neg (by rw [beq_iff_eq]; omega)]
  omega
theorem index_run : ∀ (l : List UInt8) {r : List UInt8} {n : Nat}, (∀ x ∈ l, x ≠ 10) → Lib.index r patE = (n : Int) → Lib.index (l ++ r) patE = ((l.length + n : Nat) : Int)
  | [], r, n, _, h => by simpa using h
  | a :: l, r, n, h, hi => by
    have ih := index_run l (fun x hx => h x (by simp [hx])) hi
    have ha : a ≠ 10 := h a (by simp)
    have hp : patE.isPrefixOf (a :: (l ++ r)) = false := by simp [patE, List.isPrefixOf, Ne.symm ha]
    have := index_skip hp ih
    rw [List.cons_append, this]
    simp; omega
theorem line_not {l r : List UInt8} (h : ∀ x ∈ l, x ≠ 10) (hl : l ≠ endW) : patE.isPrefixOf (10 :: (l ++ 10 :: r)) = false := by
  cases hb : patE.isPrefixOf (10 :: (l ++ 10 :: r)) with
  | false => rfl
  | true =>
    rw [List.isPrefixOf_iff_prefix] at hb
    obtain ⟨t, ht⟩ := hb
    exfalso
    have h2 : endW ++ 10 :: t = l ++ 10 :: r := by
      have := List.tail_eq_of_cons_eq (show (10 : UInt8) :: (endW ++ 10 :: t) = 10 :: (l ++ 10 :: r) from ht)
      exact this
    exact hl (cut_uniq (c := 10) (by decide) h h2).1.symm
theorem index_lines : ∀ (Ls : List (List UInt8)) (t : List UInt8), (∀ l ∈ Ls, (∀ x ∈ l, x ≠ 10) ∧ l ≠ endW) → Lib.index (10 :: (Ls.flatMap endl ++ (endW ++ 10 :: t))) patE = (((Ls.flatMap endl).length : Nat) : Int)
  | [], t, _ => by
    have hp : patE.isPrefixOf (10 :: (endW ++ 10 :: t)) = true := by simp [patE, endW, List.isPrefixOf]
    show Lib.index (10 :: (endW ++ 10 :: t)) patE = 0
    rw [Lib.index, if_pos hp]
  | l :: Ls, t, h => by
    have ih := index_lines Ls t fun l' hl' => h l' (by simp [hl'])
    obtain ⟨h1, h2⟩ := h l (by simp)
    have e : (l :: Ls).flatMap endl ++ (endW ++ 10 :: t) = l ++ 10 :: (Ls.flatMap endl ++ (endW ++ 10 :: t)) := by simp [endl]
    rw [e]
    have := index_skip (line_not h1 h2) (index_run l h1 ih)
    rw [this]
    simp [endl]
    omega
/-- the lines between the first and the last -/
def midL (g : Gl) : List (List UInt8) := g.out.map loopW ++ (g.parts.map partW ++ (g.anchors.map anchW ++ hintW g.hints.data.toList))
theorem glLines_mid (g : Gl) : glLines g = headW g.name.data.toList g.code g.adv :: (midL g ++ [endW]) := by simp [glLines, midL]
theorem midL_not {g : Gl} : ∀ l ∈ midL g, l ≠ endW := by
  intro l hl
  simp only [midL, List.mem_append, List.mem_map] at hl
  rcases hl with ⟨K, _, rfl⟩ | ⟨p, _, rfl⟩ | ⟨a, _, rfl⟩ | hl
  · simp [loopW, endW]
  · simp [partW, endW]
  · simp [anchW, endW]
  · unfold hintW at hl
    split at hl
    · cases hl
    · rw [List.mem_singleton] at hl; subst hl; simp [endW]
theorem head_not {nm : List UInt8} {c a : Int} : headW nm c a ≠ endW := by simp [headW, endW]
theorem gl_no10 {g : Gl} (h : glyphOk g = true) : ∀ l ∈ glLines g, ∀ c ∈ l, c ≠ 10 := by
  obtain ⟨h1, _, _, _, _, h6⟩ := glyphOk_parts h
  exact glLines_no h1 fun a ha => (h6 a ha).1
theorem index_gl {g : Gl} (h : glyphOk g = true) (t : List UInt8) : ∃ n : Nat, Lib.index (glyphT g ++ t) patE = (n : Int) ∧ n + 5 = (glyphT g).length := by
  have h10 := gl_no10 h
  have e : glyphT g = headW g.name.data.toList g.code g.adv ++ 10 :: ((midL g).flatMap endl ++ (endW ++ [10])) := by
    rw [glyphT_lines, glLines_mid]; simp [endl]
  have h1 := index_lines (midL g) t fun l hl => ⟨h10 l (by rw [glLines_mid]; simp [hl]), midL_not l hl⟩
  have h2 := index_run (headW g.name.data.toList g.code g.adv) (h10 _ (by rw [glLines_mid]; simp)) h1
  refine ⟨(headW g.name.data.toList g.code g.adv).length + ((midL g).flatMap endl).length, ?_, ?_⟩
  · rw [← h2, e]; congr 1; simp
  · rw [e]; simp [endW]; omega
/-! ### a set's lines -/
def unitW (u : Int) : List UInt8 := [117, 110, 105, 116, 32] ++ decL u
theorem setT_cut (d : GSet) : setT d = unitW d.unit ++ 10 :: d.gl.flatMap glyphT := by unfold setT unitW; simp
theorem unitW_no {u : Int} : ∀ c ∈ unitW u, c ≠ 10 := by
  intro c hc
  unfold unitW at hc
  rcases List.mem_append.1 hc with hc | hc
  · have : ∀ c ∈ ([117, 110, 105, 116, 32] : List UInt8), c ≠ 10 := by decide
    exact this c hc
  · exact decL_no10 c hc
theorem setOk_gl {d : GSet} (h : setOk d = true) : (16 ≤ d.unit ∧ d.unit ≤ 16384) ∧ d.gl.length ≤ 40 ∧ ∀ g ∈ d.gl, glyphOk g = true := by
  unfold setOk at h
  simp only [Bool.and_eq_true, decide_eq_true_eq] at h
  refine ⟨inB_iff.1 h.1.1.1, h.1.1.2, fun g hg => ?_⟩
  obtain ⟨j, hj⟩ := List.getElem?_of_mem hg
  have h1 := range_at h.1.2 (List.getElem?_eq_some_iff.1 hj).1
  rw [glAt_eq hj, Bool.and_eq_true] at h1
  exact h1.1
theorem flat_lines (L : List Gl) : L.flatMap glyphT = (L.flatMap glLines).flatMap endl := by
  induction L with
  | nil => rfl
  | cons g L ih => rw [List.flatMap_cons, List.flatMap_cons, List.flatMap_append, ih, glyphT_lines]
theorem set_split {d : GSet} (h : setOk d = true) : splitF 10 (setT d) = unitW d.unit :: (d.gl.flatMap glLines ++ [[]]) := by
  rw [setT_cut, splitF_hit 10 _ _ unitW_no, flat_lines, split_lines]
  intro l hl
  rw [List.mem_flatMap] at hl
  obtain ⟨g, hg, hl⟩ := hl
  exact gl_no10 ((setOk_gl h).2.2 g hg) l hl
theorem unit_words (u : Int) : splitF 32 (unitW u) = [[117, 110, 105, 116], decL u] := by
  have e : unitW u = [117, 110, 105, 116] ++ 32 :: decL u := by unfold unitW; simp
  rw [e, splitF_hit 32 _ _ (by decide), splitF_last 32 _ decL_no32]
/-- where the lines of glyph k begin -/
def fromL (L : List Gl) (k : Nat) : Nat := 1 + ((L.take k).flatMap glLines).length
theorem fromL_next {L : List Gl} {k : Nat} {g : Gl} (h : L[k]? = some g) : fromL L (k + 1) = fromL L k + (glLines g).length := by
  unfold fromL; rw [take_next h, List.flatMap_append]; simp; omega
theorem sub_at {L : List Gl} {k : Nat} {g : Gl} {a : List UInt8} (h : L[k]? = some g) : ∀ j, j < (glLines g).length → (a :: (L.flatMap glLines ++ [[]]))[fromL L k + j]? = (glLines g)[j]? := by
  intro j hj
  have hl := (List.getElem?_eq_some_iff.1 h).1
  have e : L = L.take k ++ g :: L.drop (k + 1) := by
    have := List.take_append_drop k L
    rw [List.drop_eq_getElem_cons hl] at this
    rw [List.getElem?_eq_getElem hl] at h
    injection h with h
    rw [h] at this
    exact this.symm
  have e2 : L.flatMap glLines = (L.take k).flatMap glLines ++ (glLines g ++ (L.drop (k + 1)).flatMap glLines) := by
    conv => lhs; rw [e]
    rw [List.flatMap_append, List.flatMap_cons]
  rw [show fromL L k + j = ((L.take k).flatMap glLines).length + j + 1 by unfold fromL; omega, List.getElem?_cons_succ, e2, List.append_assoc, List.getElem?_append_right (by omega), Nat.add_sub_cancel_left, List.append_assoc, List.getElem?_append_left hj]
theorem fromL_le {L : List Gl} {k : Nat} : fromL L k ≤ 1 + (L.flatMap glLines).length := by
  have e : L.flatMap glLines = (L.take k).flatMap glLines ++ (L.drop k).flatMap glLines := by
    rw [← List.flatMap_append, List.take_append_drop]
  unfold fromL; rw [e, List.length_append]; omega
theorem fromL_all {L : List Gl} {k : Nat} (h : L.length ≤ k) : fromL L k = 1 + (L.flatMap glLines).length := by
  unfold fromL; rw [List.take_of_length_le h]
/-- where a reader of the lines stands -/
def Stand (L : List Gl) (k fr i : Nat) : Prop := fr = fromL L k ∧ ((∃ g, L[k]? = some g ∧ fr ≤ i ∧ i < fr + (glLines g).length) ∨ L.length ≤ k ∧ fr ≤ i)
theorem Stand.start (L : List Gl) : Stand L 0 1 1 := by
  refine ⟨by simp [fromL], ?_⟩
  cases L with
  | nil => exact .inr ⟨Nat.le_refl _, Nat.le_refl _⟩
  | cons g L => exact .inl ⟨g, rfl, Nat.le_refl _, by have := glLines_two g; omega⟩
theorem stand_next {L : List Gl} {k fr : Nat} {g : Gl} (hg : L[k]? = some g) (hf : fr = fromL L k) : Stand L (k + 1) (fr + (glLines g).length) (fr + (glLines g).length) := by
  refine ⟨by rw [fromL_next hg, hf], ?_⟩
  cases h : L[k + 1]? with
  | none => exact .inr ⟨List.getElem?_eq_none_iff.1 h, Nat.le_refl _⟩
  | some g' => exact .inl ⟨g', rfl, Nat.le_refl _, by have := glLines_two g'; omega⟩
theorem end_at {g : Gl} {j : Nat} {l : List UInt8} (h : (glLines g)[j]? = some l) : (l = endW → j + 1 = (glLines g).length) ∧ (l ≠ endW → j + 1 < (glLines g).length) := by
  have hj := (List.getElem?_eq_some_iff.1 h).1
  have e : (glLines g).length = (midL g).length + 2 := by rw [glLines_mid]; simp
  rw [glLines_mid] at h
  cases j with
  | zero =>
    simp at h
    subst h
    exact ⟨fun he => absurd he head_not, fun _ => by omega⟩
  | succ j =>
    rw [List.getElem?_cons_succ, List.getElem?_append] at h
    split at h
    · next hlt => exact ⟨fun he => absurd he (midL_not l (List.mem_of_getElem? h)), fun _ => by omega⟩
    · next hge =>
      have hj0 : j - (midL g).length = 0 := by omega
      rw [hj0] at h
      simp at h
      subst h
      exact ⟨fun _ => by omega, fun hne => absurd rfl hne⟩
end Go.Proofs.YtgdkabljgabjoaaGreatDoor

/- What is reckoned of a glyph out of what is reckoned of its parts: in the order in which parts come first. No walk in sight. Conditions: as each states. -/
namespace Go.Proofs.YtgdkabljgabjoaaGreatDoor
set_option linter.unusedVariables false
set_option maxRecDepth 100000

def memF {α : Type} (G : (Int → α) → Int → α) (z : α) (out : List Int) : Int → α := out.foldl (fun D x => fun j => if j = x then G D x else D j) (fun _ => z)
variable {α : Type} {G : (Int → α) → Int → α} {z : α} {T : List (List Int)} {out : List Int}
theorem memF_nil (G : (Int → α) → Int → α) (z : α) (j : Int) : memF G z [] j = z := rfl
theorem memF_snoc (G : (Int → α) → Int → α) (z : α) (out : List Int) (x j : Int) : memF G z (out ++ [x]) j = if j = x then G (memF G z out) x else memF G z out j := by
  unfold memF; rw [List.foldl_append]; rfl
theorem memF_out {j : Int} (h : j ∉ out) : memF G z out j = z := by
  induction out using list_snoc_ind with
  | h0 => rfl
  | h1 l a ih =>
    rw [memF_snoc, if_neg (by rintro rfl; exact h (by simp))]
    exact ih fun hm => h (by simp [hm])
theorem memF_stay {s : List Int} {j : Int} (h : j ∉ s) : memF G z (out ++ s) j = memF G z out j := by
  induction s using list_snoc_ind with
  | h0 => simp
  | h1 l a ih => rw [← List.append_assoc, memF_snoc, if_neg (by rintro rfl; exact h (by simp)), ih fun hm => h (by simp [hm])]
theorem memF_take (ho : Ord T out) {t : Nat} {j : Int} (h : j ∈ out.take t) : memF G z out j = memF G z (out.take t) j := by
  have e := List.take_append_drop t out
  have hd := ho.nodup
  rw [← e, List.nodup_append] at hd
  conv => lhs; rw [← e]
  exact memF_stay fun hm => hd.2.2 j h j hm rfl
/-- what is reckoned of x asks of x's parts alone -/
def Loc (T : List (List Int)) (G : (Int → α) → Int → α) : Prop := ∀ (D E : Int → α) (x : Int) (ps : List Int), T[x.toNat]? = some ps → (∀ p ∈ ps, D p = E p) → G D x = G E x
theorem take_snoc_at {l : List Int} {t : Nat} {x : Int} (h : l[t]? = some x) : l.take (t + 1) = l.take t ++ [x] := by
  have hl := (List.getElem?_eq_some_iff.1 h).1
  rw [List.take_succ_eq_append_getElem hl]
  rw [List.getElem?_eq_getElem hl] at h
  injection h with h; rw [h]
theorem memF_at (hG : Loc T G) (ho : Ord T out) {t : Nat} {x : Int} (h : out[t]? = some x) {ps : List Int} (hps : T[x.toNat]? = some ps) : memF G z out x = G (memF G z out) x := by
  have e := take_snoc_at h
  rw [memF_take ho (t := t + 1) (by rw [e]; simp), e, memF_snoc, if_pos rfl]
  exact hG _ _ x ps hps fun p hp => (memF_take ho (ho.ready t x h ps hps p hp)).symm
/-- what holds of each that is reckoned -/
theorem memF_ind {Q : Nat → Int → α → Prop} (ho : Ord T out) (hstep : ∀ (t : Nat) (x : Int) (D : Int → α), out[t]? = some x → (∀ p ∈ out.take t, ∃ s, s < t ∧ Q s p (D p)) → Q t x (G D x)) : ∀ (t : Nat) (x : Int), out[t]? = some x → Q t x (memF G z out x) := by
  intro t
  induction t using Nat.strongRecOn with
  | ind t ih =>
    intro x hx
    have e := take_snoc_at hx
    rw [memF_take ho (t := t + 1) (by rw [e]; simp), e, memF_snoc, if_pos rfl]
    refine hstep t x _ hx fun p hp => ?_
    obtain ⟨s, hs⟩ := List.getElem?_of_mem hp
    have hst : s < t := by
      have := (List.getElem?_eq_some_iff.1 hs).1
      rw [List.length_take] at this; omega
    rw [List.getElem?_take_of_lt hst] at hs
    exact ⟨s, hst, by rw [← memF_take ho hp]; exact ih s hst p hs⟩

/-! ### the number of loops -/
def cntS (D : Int → Int) (a : Int) (ps : List Part) : Int := ps.foldl (fun a p => a + D p.1) a
def cntM (D : Int → Int) (a : Int) (ps : List Part) : Int := ps.foldl (fun a p => min (a + D p.1) 13) a
theorem cntS_snoc (D : Int → Int) (a : Int) (ps : List Part) (p : Part) : cntS D a (ps ++ [p]) = cntS D a ps + D p.1 := by unfold cntS; rw [List.foldl_append]; rfl
theorem cntM_snoc (D : Int → Int) (a : Int) (ps : List Part) (p : Part) : cntM D a (ps ++ [p]) = min (cntM D a ps + D p.1) 13 := by unfold cntM; rw [List.foldl_append]; rfl
theorem cnt_M (D : Int → Int) (a : Int) (ps : List Part) (ha : a ≤ 13) (hD : ∀ p ∈ ps, 0 ≤ D p.1) : cntM D a ps = min (cntS D a ps) 13 := by
  induction ps using list_snoc_ind with
  | h0 => simp only [cntM, cntS, List.foldl_nil]; omega
  | h1 l p ih =>
    rw [cntM_snoc, cntS_snoc, ih fun p hp => hD p (by simp [hp])]
    have := hD p (by simp)
    omega
theorem cntS_bd (D : Int → Int) (a : Int) (ps : List Part) (B : Int) (hD : ∀ p ∈ ps, 0 ≤ D p.1 ∧ D p.1 ≤ B) : a ≤ cntS D a ps ∧ cntS D a ps ≤ a + ps.length * B := by
  induction ps using list_snoc_ind with
  | h0 => simp [cntS]
  | h1 l p ih =>
    rw [cntS_snoc]
    have h1 := ih fun p hp => hD p (by simp [hp])
    have h2 := hD p (by simp)
    have e : (((l ++ [p]).length : Nat) : Int) * B = l.length * B + B := by
      rw [List.length_append]; simp only [List.length_cons, List.length_nil, Nat.zero_add]; rw [Int.natCast_add, Int.add_mul]; simp
    rw [e]
    omega
theorem cntS_congr {D E : Int → Int} {ps : List Part} (a : Int) (h : ∀ p ∈ ps, D p.1 = E p.1) : cntS D a ps = cntS E a ps := by
  induction ps using list_snoc_ind with
  | h0 => rfl
  | h1 l p ih => rw [cntS_snoc, cntS_snoc, ih fun p hp => h p (by simp [hp]), h p (by simp)]
def cntG (L : List Gl) (D : Int → Int) (x : Int) : Int := match L[x.toNat]? with
  | some g => min (cntS D g.out.length g.parts) 13
  | none => 0
theorem cntG_eq {L : List Gl} {g : Gl} {x : Int} (h : L[x.toNat]? = some g) (D : Int → Int) : cntG L D x = min (cntS D g.out.length g.parts) 13 := by unfold cntG; rw [h]
theorem cntG_none {L : List Gl} {x : Int} (h : L[x.toNat]? = none) (D : Int → Int) : cntG L D x = 0 := by unfold cntG; rw [h]
theorem tgts_get {L : List Gl} {j : Nat} {ps : List Int} (h : (tgts L)[j]? = some ps) : ∃ g, L[j]? = some g ∧ ps = g.parts.map (·.1) := by
  unfold tgts at h
  rw [List.getElem?_map] at h
  cases hg : L[j]? with
  | none => rw [hg] at h; cases h
  | some g => rw [hg] at h; injection h with h; exact ⟨g, rfl, h.symm⟩
theorem cntG_loc (L : List Gl) : Loc (tgts L) (cntG L) := by
  intro D E x ps hps hD
  obtain ⟨g, hg, rfl⟩ := tgts_get hps
  rw [cntG_eq hg, cntG_eq hg, cntS_congr _ fun p hp => hD p.1 (List.mem_map_of_mem (f := (·.1)) hp)]
def cntF (L : List Gl) (out : List Int) : Int → Int := memF (cntG L) 0 out
theorem cntF_bd (L : List Gl) (out : List Int) (j : Int) : 0 ≤ cntF L out j ∧ cntF L out j ≤ 13 := by
  unfold cntF
  induction out using list_snoc_ind generalizing j with
  | h0 => rw [memF_nil]; omega
  | h1 l a ih =>
    rw [memF_snoc]
    split
    · cases hg : L[a.toNat]? with
      | none => rw [cntG_none hg]; omega
      | some g =>
        rw [cntG_eq hg]
        have := (cntS_bd (memF (cntG L) 0 l) g.out.length g.parts 13 fun p _ => ih p.1).1
        omega
    · exact ih j
end Go.Proofs.YtgdkabljgabjoaaGreatDoor

