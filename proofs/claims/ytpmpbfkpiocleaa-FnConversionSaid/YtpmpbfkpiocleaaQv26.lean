/- A region that draws its order, whose last operations wait for all that stand ahead of them: its head by itself (with what is held in S), its tail in order. No program in sight. Conditions: as each states. -/
import Derived.StillTail
import Derived.Deep.RegionHeld3
import Derived.Test.YtpmpbfkpiocleaaQv01
namespace Go.Proofs.Ytpmpbfkpiocleaa
set_option linter.unusedVariables false
set_option maxRecDepth 100000

/-- what is to be shown behind the head: the tail, in order -/
def QTail (P : Program) (ops : Array Oper) (l : List Oper) (Q : Exit → Act → World → Prop) : Exit → Act → World → Prop
  | .normal, a, w => wpList P ops Q l a w
  | e, a, w => Q e a w
theorem wp_of_tail {P : Program} {Q : Exit → Act → World → Prop} {ops : Array Oper} {l : List Oper} {o : Oper} {a : Act} {w : World} {K K' : Act → World → Prop} (h : ∀ a w, K a w → K' a w)
    (hh : Oper.wp P o a w K (QTail P ops l Q)) : Oper.wp P o a w K' Q := by
  have h1 := Oper.wp_mono h hh
  clear hh
  unfold Oper.wp at *
  generalize (execOp a.eval o).run P w = r at *
  cases r with
  | ok n w' =>
    cases n <;> first
      | exact h1
      | (refine Calls.mono h1 fun e w'' he => ?_
         cases e <;> exact he)
  | halt x w' => cases x <;> exact h1
theorem wpAny_more {P : Program} {md : Region.Mode} {ops : Array Oper} {Q : Exit → Act → World → Prop} : ∀ (g : Nat) (listed : Array Bool) (a : Act) (w : World), wpAny P md ops Q g listed a w → wpAny P md ops Q (g + 1) listed a w
  | 0, listed, a, w, h => ⟨fun _ => h.2, by rw [h.1]; intro i hi; cases hi⟩
  | g + 1, listed, a, w, h => ⟨h.1, fun i hi => wpOp_mono (fun a' w' h' => wpAny_more g _ a' w' h') (h.2 i hi)⟩
theorem wpAny_plus {P : Program} {md : Region.Mode} {ops : Array Oper} {Q : Exit → Act → World → Prop} {g : Nat} {listed : Array Bool} {a : Act} {w : World} (h : wpAny P md ops Q g listed a w) (k : Nat) : wpAny P md ops Q (k + g) listed a w := by
  induction k with
  | zero => rw [Nat.zero_add]; exact h
  | succ k ih => rw [show k + 1 + g = (k + g) + 1 by omega]; exact wpAny_more _ _ _ _ ih
theorem leastN {p : Nat → Prop} (hp : ∀ j, p j ∨ ¬ p j) : ∀ (j : Nat), p j → ∃ i, i ≤ j ∧ p i ∧ ∀ k, k < i → ¬ p k := by
  intro j
  induction j using Nat.strongRecOn with
  | _ j ih =>
    intro hj
    by_cases h : ∃ k, k < j ∧ p k
    · obtain ⟨k, hk, hpk⟩ := h
      obtain ⟨i, h1, h2, h3⟩ := ih k hk hpk
      exact ⟨i, by omega, h2, h3⟩
    · exact ⟨j, Nat.le_refl _, hj, fun k hk hpk => h ⟨k, hk, hpk⟩⟩

def backRB (l : List Oper) (n : Nat) : Bool := (List.range n).all fun i => match l[i]? with
  | some o => o.after.all (fun e => decide (e.on < i)) && o.guard.isNone
  | none => false
def maskL (n m : Nat) : Array Bool := (List.replicate n true ++ List.replicate m false).toArray
def headRB (l : List Oper) (n : Nat) : Bool := decide (n < l.length) && Region.sinkB .any l.toArray n && Region.chainB .any l.toArray n && backRB l n && Region.seqB .any l.toArray (l.length - n) n (maskL n (l.length - n))
theorem back_specR {l : List Oper} {n i : Nat} (h : backRB l n = true) (hi : i < n) : ∃ o, l[i]? = some o ∧ (∀ e ∈ o.after, e.on < i) ∧ o.guard = none := by
  have h1 := List.all_eq_true.1 h i (List.mem_range.2 hi)
  cases ho : l[i]? with
  | none => rw [ho] at h1; cases h1
  | some o =>
    rw [ho] at h1
    simp only [Bool.and_eq_true] at h1
    refine ⟨o, rfl, fun e he => ?_, by simpa using h1.2⟩
    have := Array.all_eq_true'.1 h1.1 e he
    simpa using this

structure HRel (n : Nat) (l : List Oper) (h f : Array Bool) : Prop where
  hs : h.size = n
  fs : f.size = l.length
  hn : n < l.length
  eq : ∀ j, j < n → f.getD j true = h.getD j true
  tl : ∀ t, n ≤ t → t < l.length → f.getD t true = false
theorem getD_two {a : Array Bool} {j : Nat} (hj : j < a.size) : a.getD j false = a.getD j true := by simp [hj]
theorem getD_out {a : Array Bool} {j : Nat} {d : Bool} (hj : a.size ≤ j) : a.getD j d = d := by simp [Array.getElem?_eq_none hj]
theorem HRel.fb {n : Nat} {l : List Oper} {h f : Array Bool} (r : HRel n l h f) (j : Nat) : f.getD j false = h.getD j false := by
  rcases Nat.lt_or_ge j n with hj | hj
  · rw [getD_two (by have := r.fs; have := r.hn; omega), getD_two (by have := r.hs; omega)]
    exact r.eq j hj
  · rw [getD_out (a := h) (by have := r.hs; omega)]
    rcases Nat.lt_or_ge j l.length with h2 | h2
    · rw [getD_two (by have := r.fs; omega)]; exact r.tl j hj h2
    · exact getD_out (by have := r.fs; omega)
theorem ready_head {md : Region.Mode} {n : Nat} {l : List Oper} {h f : Array Bool} (r : HRel n l h f) {j : Nat} (hj : j < n) : j ∈ Region.ready md l.toArray f ↔ j ∈ Region.ready md (l.take n).toArray h := by
  rw [mem_ready, mem_ready, r.eq j hj]
  have e : (l.take n).toArray[j]? = l.toArray[j]? := by simp [hj]
  rw [e]
  simp only [r.fb]
theorem HRel.set {n : Nat} {l : List Oper} {h f : Array Bool} (r : HRel n l h f) {i : Nat} (hi : i < n) : HRel n l (h.setIfInBounds i true) (f.setIfInBounds i true) := by
  refine ⟨by simp [r.hs], by simp [r.fs], r.hn, fun j hj => ?_, fun t h1 h2 => ?_⟩
  · by_cases hij : i = j
    · subst hij
      have h1 := r.hs
      have h2 := r.fs
      have h3 := r.hn
      simp [hi, h1, show i < f.size by omega]
    · rw [getD_set_ne true hij, getD_set_ne true hij]; exact r.eq j hj
  · rw [getD_set_ne true (by omega)]; exact r.tl t h1 h2
theorem HRel.mask {n : Nat} {l : List Oper} {h f : Array Bool} (r : HRel n l h f) (hall : ∀ j, j < n → h.getD j true = true) : f = maskL n (l.length - n) := by
  have h1 := r.hn
  apply Array.ext
  · rw [r.fs]; simp [maskL]; omega
  · intro i hi1 hi2
    rw [r.fs] at hi1
    have hg : f[i] = f.getD i true := by simp [show i < f.size by rw [r.fs]; exact hi1]
    rw [hg]
    rcases Nat.lt_or_ge i n with hj | hj
    · rw [r.eq i hj, hall i hj]
      simp [maskL, hj]
    · rw [r.tl i hj hi1]
      simp [maskL, List.getElem_append, Nat.not_lt.2 hj]

theorem wpAny_of_take {P : Program} {Q : Exit → Act → World → Prop} {n : Nat} {l : List Oper} (hs : Region.sinkB .any l.toArray n = true) (hc : Region.chainB .any l.toArray n = true) (hb : backRB l n = true) (hq : Region.seqB .any l.toArray (l.length - n) n (maskL n (l.length - n)) = true) :
    ∀ (fuel : Nat) (h f : Array Bool) (a : Act) (w : World), HRel n l h f → HeadInv .any l.toArray n f → wpAny P .any (l.take n).toArray (QTail P l.toArray (l.drop n) Q) fuel h a w → wpAny P .any l.toArray Q (fuel + (l.length - n)) f a w := by
  intro fuel
  induction fuel with
  | zero =>
    intro h f a w r inv hh
    by_cases hall : ∀ j, j < n → h.getD j true = true
    · rw [r.mask hall, Nat.zero_add]
      have hdl : (l.drop n).length = l.length - n := by simp
      have := wpAny_of_seq (md := .any) (ops := l.toArray) (Q' := Q) (l.drop n) n (maskL n (l.length - n)) a w (fun j => by simp [List.getElem?_drop]) (by rw [hdl]; exact hq) hh.2
      rwa [hdl] at this
    · exfalso
      obtain ⟨j, hj⟩ : ∃ j, j < n ∧ h.getD j true = false := by
        refine Classical.byContradiction fun hno => hall fun j hj => ?_
        cases hv : h.getD j true with
        | true => rfl
        | false => exact absurd ⟨j, hj, hv⟩ hno
      obtain ⟨i, hi, hpi, hmin⟩ := leastN (p := fun j => j < n ∧ h.getD j true = false) (fun j => Classical.em _) j hj
      obtain ⟨o, ho, hon, _⟩ := back_specR hb hpi.1
      have hr : i ∈ Region.ready .any (l.take n).toArray h := mem_ready.2 ⟨hpi.2, o, by simpa [List.getElem?_take, hpi.1] using ho, fun e he _ => by
        have h1 := hon e he
        have h2 := hmin e.on h1
        rw [getD_two (by have := r.hs; have := hpi.1; omega)]
        cases hv : h.getD e.on true with
        | true => rfl
        | false => exact absurd ⟨by have := hpi.1; omega, hv⟩ h2⟩
      rw [hh.1] at hr
      cases hr
  | succ fuel ih =>
    intro h f a w r inv hh
    by_cases hall : ∀ j, j < n → h.getD j true = true
    · have h0 : Region.ready .any (l.take n).toArray h = [] := by
        cases hr : Region.ready .any (l.take n).toArray h with
        | nil => rfl
        | cons x xs =>
          exfalso
          have hx : x ∈ Region.ready .any (l.take n).toArray h := by rw [hr]; exact List.mem_cons_self
          obtain ⟨h1, o, h2, _⟩ := mem_ready.1 hx
          have hxn : x < n := by
            have h3 := (Array.getElem?_eq_some_iff.1 h2).1
            simp at h3; omega
          rw [hall x hxn] at h1; cases h1
      rw [r.mask hall]
      have hdl : (l.drop n).length = l.length - n := by simp
      have := wpAny_of_seq (md := .any) (ops := l.toArray) (Q' := Q) (l.drop n) n (maskL n (l.length - n)) a w (fun j => by simp [List.getElem?_drop]) (by rw [hdl]; exact hq) (hh.1 h0)
      rw [hdl] at this
      exact wpAny_plus this _
    · obtain ⟨j, hj⟩ : ∃ j, j < n ∧ h.getD j true = false := by
        refine Classical.byContradiction fun hno => hall fun j hj => ?_
        cases hv : h.getD j true with
        | true => rfl
        | false => exact absurd ⟨j, hj, hv⟩ hno
      obtain ⟨i, hi, hpi, hmin⟩ := leastN (p := fun j => j < n ∧ h.getD j true = false) (fun j => Classical.em _) j hj
      obtain ⟨o, ho, hon, _⟩ := back_specR hb hpi.1
      have hr : i ∈ Region.ready .any (l.take n).toArray h := mem_ready.2 ⟨hpi.2, o, by simpa [List.getElem?_take, hpi.1] using ho, fun e he _ => by
        have h1 := hon e he
        have h2 := hmin e.on h1
        rw [getD_two (by have := r.hs; have := hpi.1; omega)]
        cases hv : h.getD e.on true with
        | true => rfl
        | false => exact absurd ⟨by have := hpi.1; omega, hv⟩ h2⟩
      have hrf := (ready_head r hpi.1).2 hr
      rw [show fuel + 1 + (l.length - n) = (fuel + (l.length - n)) + 1 by omega]
      refine ⟨fun h0 => (by rw [h0] at hrf; cases hrf), fun k hk => ?_⟩
      have hkn : k < n := by
        rcases Nat.lt_or_ge k n with h1 | h1
        · exact h1
        · exact absurd hk (tail_waits hs hc (by simpa using r.hn) inv (n - i) i rfl hpi.1 (by rw [r.eq i hpi.1]; exact hpi.2) k h1)
      have hkh := (ready_head r hkn).1 hk
      have hop := hh.2 k hkh
      obtain ⟨o', ho', _, hgd⟩ := back_specR hb hkn
      have e1 : (l.take n).toArray[k]? = some o' := by simpa [List.getElem?_take, hkn] using ho'
      have e2 : l.toArray[k]? = some o' := by simpa using ho'
      have hw : ∀ y, Region.wanted o' y = true := fun y => by simp [Region.wanted, hgd]
      unfold wpOp at hop ⊢
      rw [e1] at hop
      rw [e2]
      simp only [hw, if_true] at hop ⊢
      rcases hop with hop | ⟨h1, h2⟩
      · exact .inl (wp_of_tail (fun a' w' h' => ih _ _ a' w' (r.set hkn) (inv.set hk hkn) h') hop)
      · exact .inr ⟨h1, h2⟩

end Go.Proofs.Ytpmpbfkpiocleaa

/- A region that draws its order, whose first operations only make memory and whose values are told by predicates that stay true where memory grows: each operation by itself, once, in whatever order they come up. No program in sight. Conditions: as each states. -/
namespace Go.Proofs.Ytpmpbfkpiocleaa
open Go.RowKit
set_option linter.unusedVariables false
set_option maxRecDepth 100000

/-- a predicate on a value that stays true where the memory only grows -/
def Stays (V : Value → World → Prop) : Prop := ∀ v w w', V v w → Below w.heap.size w w' → V v w'
def dstL (l : List Oper) (j : Nat) : Option Tmp := (l[j]?).bind (·.dst)
/-- the frame, with the values f j in the slots of the first n operations -/
def putsL (l : List Oper) (a : Act) (f : Nat → Value) : Nat → Act
  | 0 => a
  | n + 1 => (putsL l a f n).put (dstL l n) (f n)
def dstB (l : List Oper) (n : Nat) : Bool := (List.range n).all fun i => (List.range n).all fun j => i == j || (dstL l i).isNone || dstL l i != dstL l j
def upd (f : Nat → Value) (i : Nat) (v : Value) : Nat → Value := fun j => if j = i then v else f j
theorem dst_ne {l : List Oper} {n i j : Nat} (h : dstB l n = true) (hi : i < n) (hj : j < n) (hij : i ≠ j) : dstL l i = none ∨ dstL l i ≠ dstL l j := by
  have h1 := List.all_eq_true.1 (List.all_eq_true.1 h i (List.mem_range.2 hi)) j (List.mem_range.2 hj)
  simp only [Bool.or_eq_true, beq_iff_eq, Option.isNone_iff_eq_none, bne_iff_ne, ne_eq] at h1
  rcases h1 with (h1 | h1) | h1
  · exact absurd h1 hij
  · exact .inl h1
  · exact .inr h1
theorem put_put (a : Act) (d : Option Tmp) (u v : Value) : (a.put d u).put d v = a.put d v := by
  cases d with
  | none => rfl
  | some d => simp [Act.put]
theorem put_comm (a : Act) (d e : Option Tmp) (u v : Value) (h : d = none ∨ d ≠ e) : (a.put e u).put d v = (a.put d v).put e u := by
  cases d with
  | none => rfl
  | some d =>
    cases e with
    | none => rfl
    | some e =>
      have hne : d ≠ e := by
        rcases h with h | h
        · cases h
        · exact fun h2 => h (by rw [h2])
      simp only [Act.put]
      rw [Array.setIfInBounds_comm _ _ (Ne.symm hne)]
theorem putsL_congr {l : List Oper} {a : Act} {f g : Nat → Value} : ∀ {n : Nat}, (∀ j, j < n → f j = g j) → putsL l a f n = putsL l a g n := by
  intro n
  induction n with
  | zero => intro _; rfl
  | succ n ih => intro h; simp only [putsL]; rw [ih fun j hj => h j (by omega), h n (by omega)]
theorem putsL_put {l : List Oper} {a : Act} {m : Nat} (hd : dstB l m = true) {i : Nat} {v : Value} {f : Nat → Value} : ∀ {n : Nat}, n ≤ m → i < n → (putsL l a f n).put (dstL l i) v = putsL l a (upd f i v) n := by
  intro n
  induction n with
  | zero => intro _ hi; omega
  | succ n ih =>
    intro hn hi
    simp only [putsL]
    by_cases hin : i = n
    · subst hin
      rw [put_put, putsL_congr (f := f) (g := upd f i v) fun j hj => by unfold upd; rw [if_neg (by omega)]]
      simp [upd]
    · rw [put_comm _ _ _ _ _ (dst_ne hd (by omega) (by omega) hin), ih (by omega) (by omega)]
      simp [upd, Ne.symm hin]
theorem putsL_self (l : List Oper) (a : Act) : ∀ n : Nat, putsL l a (fun j => match dstL l j with | some d => a.tmps.getD d undef | none => undef) n = a := by
  intro n
  induction n with
  | zero => rfl
  | succ n ih =>
    simp only [putsL]
    rw [ih]
    cases hd : dstL l n with
    | none => rfl
    | some d =>
      simp only [Act.put]
      have : a.tmps.setIfInBounds d (a.tmps.getD d undef) = a.tmps := by
        refine Array.ext_getElem? fun k => ?_
        rw [Array.getElem?_setIfInBounds]
        by_cases hk : d = k
        · subst hk
          rw [if_pos rfl]
          by_cases hlt : d < a.tmps.size
          · simp [Array.getD, hlt]
          · simp [hlt]
        · rw [if_neg hk]
      rw [this]

theorem countP_less {p q : Nat → Bool} {i : Nat} : ∀ {L : List Nat}, i ∈ L → p i = true → q i = false → (∀ j, q j = true → p j = true) → L.countP q + 1 ≤ L.countP p := by
  intro L hi hp hq hqp
  have hle : ∀ (M : List Nat), M.countP q ≤ M.countP p := fun M => List.countP_mono_left fun j _ h => hqp j h
  induction L with
  | nil => cases hi
  | cons a L ih =>
    rw [List.countP_cons, List.countP_cons]
    rcases List.mem_cons.1 hi with rfl | hi
    · have := hle L
      simp [hp, hq]; omega
    · have h1 := ih hi
      have h2 : (if q a = true then 1 else 0) ≤ (if p a = true then 1 else 0) := by
        cases hqa : q a with
        | false => simp
        | true => simp [hqp a hqa]
      omega

theorem belowDr {w w' : World} (h : Below w.drew.heap.size w.drew w') : Below w.heap.size w w' := (Below.drew (Below.refl w.heap.size w)).trans h
/-- one operation: its value meets its predicate, memory only grows -/
def StepOf (P : Program) (Q : Exit → Act → World → Prop) (l : List Oper) (n : Nat) (a0 : Act) (w0 : World) (V : Nat → Value → World → Prop) (i : Nat) : Prop :=
  ∀ o, l[i]? = some o → ∀ (f : Nat → Value) (w : World) (K : Act → World → Prop), Below w0.heap.size w0 w → (∀ k, o.after.toList.any (fun e => Region.binds .any e && e.on == k) = true → V k (f k) w) →
    (∀ v w', V i v w' → Below w.heap.size w w' → K ((putsL l a0 f n).put o.dst v) w') → Oper.wp P o (putsL l a0 f n) w K Q

theorem wpAny_stays {P : Program} {Q : Exit → Act → World → Prop} {l : List Oper} {n : Nat} (hn : n ≤ l.length) (hb : backRB l n = true) (hd : dstB l n = true) {a0 : Act} {w0 : World} {V : Nat → Value → World → Prop} (hV : ∀ j, j < n → Stays (V j))
    (step : ∀ i, i < n → StepOf P Q l n a0 w0 V i) (fin : ∀ f w, Below w0.heap.size w0 w → (∀ j, j < n → V j (f j) w) → Q .normal (putsL l a0 f n) w) :
    ∀ (fuel : Nat) (listed : Array Bool) (f : Nat → Value) (w : World), listed.size = n → (∀ j, j < n → listed.getD j false = true → V j (f j) w) → Below w0.heap.size w0 w →
      (List.range n).countP (fun j => !listed.getD j true) ≤ fuel → wpAny P .any (l.take n).toArray Q fuel listed (putsL l a0 f n) w := by
  have hall : ∀ (listed : Array Bool), listed.size = n → Region.ready .any (l.take n).toArray listed = [] → ∀ j, j < n → listed.getD j true = true := by
    intro listed hs h0 j hj
    cases hv : listed.getD j true with
    | true => rfl
    | false =>
      obtain ⟨i, hi, hpi, hmin⟩ := leastN (p := fun j => j < n ∧ listed.getD j true = false) (fun j => Classical.em _) j ⟨hj, hv⟩
      obtain ⟨o, ho, hon, _⟩ := back_specR hb hpi.1
      have hr : i ∈ Region.ready .any (l.take n).toArray listed := mem_ready.2 ⟨hpi.2, o, by simpa [List.getElem?_take, hpi.1] using ho, fun e he _ => by
        have h1 := hon e he
        have h2 := hmin e.on h1
        rw [getD_two (by have := hpi.1; omega)]
        cases hv : listed.getD e.on true with
        | true => rfl
        | false => exact absurd ⟨by have := hpi.1; omega, hv⟩ h2⟩
      rw [h0] at hr
      cases hr
  have hend : ∀ (listed : Array Bool) (f : Nat → Value) (w : World), listed.size = n → (∀ j, j < n → listed.getD j true = true) → (∀ j, j < n → listed.getD j false = true → V j (f j) w) → Below w0.heap.size w0 w → Q .normal (putsL l a0 f n) w := by
    intro listed f w hs ha hf hB
    exact fin f w hB fun j hj => hf j hj (by rw [getD_two (by omega)]; exact ha j hj)
  intro fuel
  induction fuel with
  | zero =>
    intro listed f w hs hf hB hc
    have ha : ∀ j, j < n → listed.getD j true = true := by
      intro j hj
      cases hv : listed.getD j true with
      | true => rfl
      | false =>
        have h1 : 0 < (List.range n).countP (fun j => !listed.getD j true) := List.countP_pos_iff.2 ⟨j, List.mem_range.2 hj, by simp only [hv]; rfl⟩
        omega
    refine ⟨?_, hend listed f w hs ha hf hB⟩
    cases hr : Region.ready .any (l.take n).toArray listed with
    | nil => rfl
    | cons x xs =>
      exfalso
      have hx : x ∈ Region.ready .any (l.take n).toArray listed := by rw [hr]; exact List.mem_cons_self
      obtain ⟨h1, o, h2, _⟩ := mem_ready.1 hx
      have hxn : x < n := by
        have h3 := (Array.getElem?_eq_some_iff.1 h2).1
        simp at h3; omega
      rw [ha x hxn] at h1; cases h1
  | succ fuel ih =>
    intro listed f w hs hf hB hc
    refine ⟨fun h0 => hend listed f w hs (hall listed hs h0) hf hB, fun i hi => ?_⟩
    obtain ⟨h1, o, h2, h3⟩ := mem_ready.1 hi
    have hin : i < n := by
      have h4 := (Array.getElem?_eq_some_iff.1 h2).1
      simp at h4; omega
    obtain ⟨o', ho', _, hgd⟩ := back_specR hb hin
    have e1 : (l.take n).toArray[i]? = some o' := by simpa [List.getElem?_take, hin] using ho'
    have eo : o = o' := by rw [e1] at h2; exact (Option.some.inj h2).symm
    subst eo
    have hw : ∀ y, Region.wanted o y = true := fun y => by simp [Region.wanted, hgd]
    unfold wpOp
    rw [e1]
    simp only [hw, if_true]
    refine .inl (step i hin o ho' f w _ hB ?_ ?_)
    · intro k hk
      obtain ⟨e, he, hbe⟩ := List.any_eq_true.1 hk
      have he := Array.mem_toList_iff.1 he
      simp only [Bool.and_eq_true, beq_iff_eq] at hbe
      have hl := h3 e he hbe.1
      rw [hbe.2] at hl
      have hkn : k < n := by
        rcases Nat.lt_or_ge k n with h | h
        · exact h
        · rw [getD_out (by omega)] at hl; cases hl
      exact hf k hkn hl
    · intro v w' hv hbw
      have hdst : o.dst = dstL l i := by unfold dstL; rw [ho']; rfl
      rw [hdst, putsL_put hd (Nat.le_refl n) hin]
      refine ih _ _ _ (by simp [hs]) ?_ (hB.trans (hbw.mono hB.size)) ?_
      · intro j hj hl
        unfold upd
        by_cases hji : j = i
        · subst hji; rw [if_pos rfl]; exact hv
        · rw [if_neg hji]
          rw [getD_set_ne false (Ne.symm hji)] at hl
          exact hV j hj _ _ _ (hf j hj hl) hbw
      · have := countP_less (p := fun j => !listed.getD j true) (q := fun j => !(listed.setIfInBounds i true).getD j true) (i := i) (L := List.range n) (List.mem_range.2 hin) (by simp only [h1]; rfl) (by simp [hs, hin]) (fun j hj => by
          by_cases hji : j = i
          · subst hji; simp only [h1]; rfl
          · rw [getD_set_ne true (Ne.symm hji)] at hj; exact hj)
        omega

/-- a region that draws: its first n operations each by itself, the others in order -/
theorem wp_region_stays {P : Program} {Q : Exit → Act → World → Prop} {id : Nat} {a : Act} {w : World} {l : List Oper} (n : Nat) (V : Nat → Value → World → Prop) (hm : P.follows .mixedOrders = true) (hB : (headRB l n && dstB l n) = true) (hV : ∀ j, j < n → Stays (V j))
    (step : ∀ i, i < n → StepOf P (QTail P l.toArray (l.drop n) Q) l n a w.drew V i) (fin : ∀ f w', Below w.heap.size w w' → (∀ j, j < n → V j (f j) w') → wpList P l.toArray Q (l.drop n) (putsL l a f n) w') : (Code.region id l.toArray true).wp P Q a w := by
  rw [Bool.and_eq_true] at hB
  obtain ⟨hB, hd⟩ := hB
  simp only [headRB, Bool.and_eq_true, decide_eq_true_eq] at hB
  obtain ⟨⟨⟨⟨hn, hs⟩, hc⟩, hb⟩, hq⟩ := hB
  have inv0 : HeadInv .any l.toArray n (Array.replicate l.length false) :=
    ⟨by simp, fun j oj _ hl => (by rw [getD_replicate_false] at hl; cases hl), fun t _ ht => getD_in (by simpa using ht) (getD_replicate_false _ _)⟩
  have r0 : HRel n l (Array.replicate n false) (Array.replicate l.length false) :=
    ⟨by simp, by simp, hn, fun j hj => by rw [getD_in (by simp; omega) (getD_replicate_false _ _), getD_in (by simp; omega) (getD_replicate_false _ _)], fun t _ ht => getD_in (by simpa using ht) (getD_replicate_false _ _)⟩
  refine wp_region_any hm ?_
  have h1 := wpAny_stays (P := P) (Q := QTail P l.toArray (l.drop n) Q) (Nat.le_of_lt hn) hb hd hV step (fun f w' hB hf => fin f w' ((Below.drew (Below.refl _ w)).trans hB) hf) n (Array.replicate n false) (fun j => match dstL l j with | some d => a.tmps.getD d undef | none => undef) w.drew (by simp) (fun j hj hl => by rw [getD_replicate_false] at hl; cases hl) (Below.refl _ _) (Nat.le_trans List.countP_le_length (by simp))
  rw [putsL_self] at h1
  have := wpAny_of_take hs hc hb hq n _ _ a _ r0 inv0 h1
  rw [show n + (l.length - n) = l.toArray.size by simp; omega] at this
  simpa using this
/-! ### the whole region, with an invariant of its own in the place of Below -/
end Go.Proofs.Ytpmpbfkpiocleaa

