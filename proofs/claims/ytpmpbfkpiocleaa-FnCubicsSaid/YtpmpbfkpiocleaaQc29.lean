/- A region that draws its order, whose last operations wait for all that stand ahead of them: its head by itself (with what is held in S), its tail in order. No program in sight. Conditions: as each states. -/
import Derived.StillTail
import Derived.Deep.RegionHeld3
import Derived.Test.YtpmpbfkpiocleaaQc01
namespace Go.Proofs.Ytpmpbfkpiocleaa
set_option linter.unusedVariables false
set_option maxRecDepth 100000

/-- what is to be shown behind the head: the tail, in order -/
def QTail (P : Program) (ops : Array Oper) (l : List Oper) (Q : Exit → Act → World → Prop) : Exit → Act → World → Prop
  | .normal, a, w => wpList P ops Q l a w
  | e, a, w => Q e a w
theorem wp_of_tail {P : Program} {Q : Exit → Act → World → Prop} {ops : Array Oper} {l : List Oper} {o : Oper} {a : Act} {w : World} {K K' : Act → World → Prop} (h : ∀ a w, K a w → K' a w)
    (hh : Oper.wp P o a w K (QTail P ops l Q)) : Oper.wp P o a w K' Q := by
  have h1 := Oper.wp_mono h hh
  clear hh
  unfold Oper.wp at *
  generalize (execOp a.eval o).run P w = r at *
  cases r with
  | ok n w' =>
    cases n <;> first
      | exact h1
      | (refine Calls.mono h1 fun e w'' he => ?_
         cases e <;> exact he)
  | halt x w' => cases x <;> exact h1
theorem wpAny_more {P : Program} {md : Region.Mode} {ops : Array Oper} {Q : Exit → Act → World → Prop} : ∀ (g : Nat) (listed : Array Bool) (a : Act) (w : World), wpAny P md ops Q g listed a w → wpAny P md ops Q (g + 1) listed a w
  | 0, listed, a, w, h => ⟨fun _ => h.2, by rw [h.1]; intro i hi; cases hi⟩
  | g + 1, listed, a, w, h => ⟨h.1, fun i hi => wpOp_mono (fun a' w' h' => wpAny_more g _ a' w' h') (h.2 i hi)⟩
theorem wpAny_plus {P : Program} {md : Region.Mode} {ops : Array Oper} {Q : Exit → Act → World → Prop} {g : Nat} {listed : Array Bool} {a : Act} {w : World} (h : wpAny P md ops Q g listed a w) (k : Nat) : wpAny P md ops Q (k + g) listed a w := by
  induction k with
  | zero => rw [Nat.zero_add]; exact h
  | succ k ih => rw [show k + 1 + g = (k + g) + 1 by omega]; exact wpAny_more _ _ _ _ ih
theorem leastN {p : Nat → Prop} (hp : ∀ j, p j ∨ ¬ p j) : ∀ (j : Nat), p j → ∃ i, i ≤ j ∧ p i ∧ ∀ k, k < i → ¬ p k := by
  intro j
  induction j using Nat.strongRecOn with
  | _ j ih =>
    intro hj
    by_cases h : ∃ k, k < j ∧ p k
    · obtain ⟨k, hk, hpk⟩ := h
      obtain ⟨i, h1, h2, h3⟩ := ih k hk hpk
      exact ⟨i, by omega, h2, h3⟩
    · exact ⟨j, Nat.le_refl _, hj, fun k hk hpk => h ⟨k, hk, hpk⟩⟩

def backRB (l : List Oper) (n : Nat) : Bool := (List.range n).all fun i => match l[i]? with
  | some o => o.after.all (fun e => decide (e.on < i)) && o.guard.isNone
  | none => false
def maskL (n m : Nat) : Array Bool := (List.replicate n true ++ List.replicate m false).toArray
def headRB (l : List Oper) (n : Nat) : Bool := decide (n < l.length) && Region.sinkB .any l.toArray n && Region.chainB .any l.toArray n && backRB l n && Region.seqB .any l.toArray (l.length - n) n (maskL n (l.length - n))
theorem back_specR {l : List Oper} {n i : Nat} (h : backRB l n = true) (hi : i < n) : ∃ o, l[i]? = some o ∧ (∀ e ∈ o.after, e.on < i) ∧ o.guard = none := by
  have h1 := List.all_eq_true.1 h i (List.mem_range.2 hi)
  cases ho : l[i]? with
  | none => rw [ho] at h1; cases h1
  | some o =>
    rw [ho] at h1
    simp only [Bool.and_eq_true] at h1
    refine ⟨o, rfl, fun e he => ?_, by simpa using h1.2⟩
    have := Array.all_eq_true'.1 h1.1 e he
    simpa using this

structure HRel (n : Nat) (l : List Oper) (h f : Array Bool) : Prop where
  hs : h.size = n
  fs : f.size = l.length
  hn : n < l.length
  eq : ∀ j, j < n → f.getD j true = h.getD j true
  tl : ∀ t, n ≤ t → t < l.length → f.getD t true = false
theorem getD_two {a : Array Bool} {j : Nat} (hj : j < a.size) : a.getD j false = a.getD j true := by simp [hj]
theorem getD_out {a : Array Bool} {j : Nat} {d : Bool} (hj : a.size ≤ j) : a.getD j d = d := by simp [Array.getElem?_eq_none hj]
theorem HRel.fb {n : Nat} {l : List Oper} {h f : Array Bool} (r : HRel n l h f) (j : Nat) : f.getD j false = h.getD j false := by
  rcases Nat.lt_or_ge j n with hj | hj
  · rw [getD_two (by have := r.fs; have := r.hn; omega), getD_two (by have := r.hs; omega)]
    exact r.eq j hj
  · rw [getD_out (a := h) (by have := r.hs; omega)]
    rcases Nat.lt_or_ge j l.length with h2 | h2
    · rw [getD_two (by have := r.fs; omega)]; exact r.tl j hj h2
    · exact getD_out (by have := r.fs; omega)
theorem ready_head {md : Region.Mode} {n : Nat} {l : List Oper} {h f : Array Bool} (r : HRel n l h f) {j : Nat} (hj : j < n) : j ∈ Region.ready md l.toArray f ↔ j ∈ Region.ready md (l.take n).toArray h := by
  rw [mem_ready, mem_ready, r.eq j hj]
  have e : (l.take n).toArray[j]? = l.toArray[j]? := by simp [hj]
  rw [e]
  simp only [r.fb]
theorem HRel.set {n : Nat} {l : List Oper} {h f : Array Bool} (r : HRel n l h f) {i : Nat} (hi : i < n) : HRel n l (h.setIfInBounds i true) (f.setIfInBounds i true) := by
  refine ⟨by simp [r.hs], by simp [r.fs], r.hn, fun j hj => ?_, fun t h1 h2 => ?_⟩
  · by_cases hij : i = j
    · subst hij
      have h1 := r.hs
      have h2 := r.fs
      have h3 := r.hn
      simp [hi, h1, show i < f.size by omega]
    · rw [getD_set_ne true hij, getD_set_ne true hij]; exact r.eq j hj
  · rw [getD_set_ne true (by omega)]; exact r.tl t h1 h2
theorem HRel.mask {n : Nat} {l : List Oper} {h f : Array Bool} (r : HRel n l h f) (hall : ∀ j, j < n → h.getD j true = true) : f = maskL n (l.length - n) := by
  have h1 := r.hn
  apply Array.ext
  · rw [r.fs]; simp [maskL]; omega
  · intro i hi1 hi2
    rw [r.fs] at hi1
    have hg : f[i] = f.getD i true := by simp [show i < f.size by rw [r.fs]; exact hi1]
    rw [hg]
    rcases Nat.lt_or_ge i n with hj | hj
    · rw [r.eq i hj, hall i hj]
      simp [maskL, hj]
    · rw [r.tl i hj hi1]
      simp [maskL, List.getElem_append, Nat.not_lt.2 hj]

theorem wpAny_of_take {P : Program} {Q : Exit → Act → World → Prop} {n : Nat} {l : List Oper} (hs : Region.sinkB .any l.toArray n = true) (hc : Region.chainB .any l.toArray n = true) (hb : backRB l n = true) (hq : Region.seqB .any l.toArray (l.length - n) n (maskL n (l.length - n)) = true) :
    ∀ (fuel : Nat) (h f : Array Bool) (a : Act) (w : World), HRel n l h f → HeadInv .any l.toArray n f → wpAny P .any (l.take n).toArray (QTail P l.toArray (l.drop n) Q) fuel h a w → wpAny P .any l.toArray Q (fuel + (l.length - n)) f a w := by
  intro fuel
  induction fuel with
  | zero =>
    intro h f a w r inv hh
    by_cases hall : ∀ j, j < n → h.getD j true = true
    · rw [r.mask hall, Nat.zero_add]
      have hdl : (l.drop n).length = l.length - n := by simp
      have := wpAny_of_seq (md := .any) (ops := l.toArray) (Q' := Q) (l.drop n) n (maskL n (l.length - n)) a w (fun j => by simp [List.getElem?_drop]) (by rw [hdl]; exact hq) hh.2
      rwa [hdl] at this
    · exfalso
      obtain ⟨j, hj⟩ : ∃ j, j < n ∧ h.getD j true = false := by
        refine Classical.byContradiction fun hno => hall fun j hj => ?_
        cases hv : h.getD j true with
        | true => rfl
        | false => exact absurd ⟨j, hj, hv⟩ hno
      obtain ⟨i, hi, hpi, hmin⟩ := leastN (p := fun j => j < n ∧ h.getD j true = false) (fun j => Classical.em _) j hj
      obtain ⟨o, ho, hon, _⟩ := back_specR hb hpi.1
      have hr : i ∈ Region.ready .any (l.take n).toArray h := mem_ready.2 ⟨hpi.2, o, by simpa [List.getElem?_take, hpi.1] using ho, fun e he _ => by
        have h1 := hon e he
        have h2 := hmin e.on h1
        rw [getD_two (by have := r.hs; have := hpi.1; omega)]
        cases hv : h.getD e.on true with
        | true => rfl
        | false => exact absurd ⟨by have := hpi.1; omega, hv⟩ h2⟩
      rw [hh.1] at hr
      cases hr
  | succ fuel ih =>
    intro h f a w r inv hh
    by_cases hall : ∀ j, j < n → h.getD j true = true
    · have h0 : Region.ready .any (l.take n).toArray h = [] := by
        cases hr : Region.ready .any (l.take n).toArray h with
        | nil => rfl
        | cons x xs =>
          exfalso
          have hx : x ∈ Region.ready .any (l.take n).toArray h := by rw [hr]; exact List.mem_cons_self
          obtain ⟨h1, o, h2, _⟩ := mem_ready.1 hx
          have hxn : x < n := by
            have h3 := (Array.getElem?_eq_some_iff.1 h2).1
            simp at h3; omega
          rw [hall x hxn] at h1; cases h1
      rw [r.mask hall]
      have hdl : (l.drop n).length = l.length - n := by simp
      have := wpAny_of_seq (md := .any) (ops := l.toArray) (Q' := Q) (l.drop n) n (maskL n (l.length - n)) a w (fun j => by simp [List.getElem?_drop]) (by rw [hdl]; exact hq) (hh.1 h0)
      rw [hdl] at this
      exact wpAny_plus this _
    · obtain ⟨j, hj⟩ : ∃ j, j < n ∧ h.getD j true = false := by
        refine Classical.byContradiction fun hno => hall fun j hj => ?_
        cases hv : h.getD j true with
        | true => rfl
        | false => exact absurd ⟨j, hj, hv⟩ hno
      obtain ⟨i, hi, hpi, hmin⟩ := leastN (p := fun j => j < n ∧ h.getD j true = false) (fun j => Classical.em _) j hj
      obtain ⟨o, ho, hon, _⟩ := back_specR hb hpi.1
      have hr : i ∈ Region.ready .any (l.take n).toArray h := mem_ready.2 ⟨hpi.2, o, by simpa [List.getElem?_take, hpi.1] using ho, fun e he _ => by
        have h1 := hon e he
        have h2 := hmin e.on h1
        rw [getD_two (by have := r.hs; have := hpi.1; omega)]
        cases hv : h.getD e.on true with
        | true => rfl
        | false => exact absurd ⟨by have := hpi.1; omega, hv⟩ h2⟩
      have hrf := (ready_head r hpi.1).2 hr
      rw [show fuel + 1 + (l.length - n) = (fuel + (l.length - n)) + 1 by omega]
      refine ⟨fun h0 => (by rw [h0] at hrf; cases hrf), fun k hk => ?_⟩
      have hkn : k < n := by
        rcases Nat.lt_or_ge k n with h1 | h1
        · exact h1
        · exact absurd hk (tail_waits hs hc (by simpa using r.hn) inv (n - i) i rfl hpi.1 (by rw [r.eq i hpi.1]; exact hpi.2) k h1)
      have hkh := (ready_head r hkn).1 hk
      have hop := hh.2 k hkh
      obtain ⟨o', ho', _, hgd⟩ := back_specR hb hkn
      have e1 : (l.take n).toArray[k]? = some o' := by simpa [List.getElem?_take, hkn] using ho'
      have e2 : l.toArray[k]? = some o' := by simpa using ho'
      have hw : ∀ y, Region.wanted o' y = true := fun y => by simp [Region.wanted, hgd]
      unfold wpOp at hop ⊢
      rw [e1] at hop
      rw [e2]
      simp only [hw, if_true] at hop ⊢
      rcases hop with hop | ⟨h1, h2⟩
      · exact .inl (wp_of_tail (fun a' w' h' => ih _ _ a' w' (r.set hkn) (inv.set hk hkn) h') hop)
      · exact .inr ⟨h1, h2⟩

end Go.Proofs.Ytpmpbfkpiocleaa

