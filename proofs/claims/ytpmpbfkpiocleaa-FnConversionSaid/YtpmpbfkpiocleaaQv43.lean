/- A region that draws, whose operations make memory: each of them once, in whatever order; values of two of them may be told apart. Conditions: as each states. -/
import Derived.Test.YtpmpbfkpiocleaaQv26
import Derived.Test.YtpmpbfkpiocleaaQv42
namespace Go.Proofs.Ytpmpbfkpiocleaa
open Go.RowKit
set_option linter.unusedVariables false
set_option maxRecDepth 100000

/-- one operation: its value meets its predicate, memory only grows -/
def StepOfE (P : Program) (Q : Exit → Act → World → Prop) (l : List Oper) (n : Nat) (a0 : Act) (w0 : World) (V : Nat → Value → World → Prop) (E : Nat → Nat → Bool) (i : Nat) : Prop :=
  ∀ o, l[i]? = some o → ∀ (f : Nat → Value) (w : World) (K : Act → World → Prop), Below w0.heap.size w0 w → (∀ k, o.after.toList.any (fun e => Region.binds .any e && e.on == k) = true → V k (f k) w) →
    (∀ v w', V i v w' → Below w.heap.size w w' → (∀ j u, j < n → j ≠ i → V j u w → E i j = true → v ≠ u) → K ((putsL l a0 f n).put o.dst v) w') → Oper.wp P o (putsL l a0 f n) w K Q

theorem wpAny_staysE {P : Program} {Q : Exit → Act → World → Prop} {l : List Oper} {n : Nat} (hn : n ≤ l.length) (hb : backRB l n = true) (hd : dstB l n = true) {a0 : Act} {w0 : World} {V : Nat → Value → World → Prop} {E : Nat → Nat → Bool} (hE : ∀ i j, E i j = E j i) (hV : ∀ j, j < n → Stays (V j))
    (step : ∀ i, i < n → StepOfE P Q l n a0 w0 V E i) (fin : ∀ f w, Below w0.heap.size w0 w → (∀ j, j < n → V j (f j) w) → (∀ j k, j < n → k < n → j ≠ k → E j k = true → f j ≠ f k) → Q .normal (putsL l a0 f n) w) :
    ∀ (fuel : Nat) (listed : Array Bool) (f : Nat → Value) (w : World), listed.size = n → (∀ j, j < n → listed.getD j false = true → V j (f j) w) → (∀ j k, j < n → k < n → j ≠ k → listed.getD j false = true → listed.getD k false = true → E j k = true → f j ≠ f k) → Below w0.heap.size w0 w →
      (List.range n).countP (fun j => !listed.getD j true) ≤ fuel → wpAny P .any (l.take n).toArray Q fuel listed (putsL l a0 f n) w := by
  have hall : ∀ (listed : Array Bool), listed.size = n → Region.ready .any (l.take n).toArray listed = [] → ∀ j, j < n → listed.getD j true = true := by
    intro listed hs h0 j hj
    cases hv : listed.getD j true with
    | true => rfl
    | false =>
      obtain ⟨i, hi, hpi, hmin⟩ := leastN (p := fun j => j < n ∧ listed.getD j true = false) (fun j => Classical.em _) j ⟨hj, hv⟩
      obtain ⟨o, ho, hon, _⟩ := back_specR hb hpi.1
      have hr : i ∈ Region.ready .any (l.take n).toArray listed := mem_ready.2 ⟨hpi.2, o, by simpa [List.getElem?_take, hpi.1] using ho, fun e he _ => by
        have h1 := hon e he
        have h2 := hmin e.on h1
        rw [getD_two (by have := hpi.1; omega)]
        cases hv : listed.getD e.on true with
        | true => rfl
        | false => exact absurd ⟨by have := hpi.1; omega, hv⟩ h2⟩
      rw [h0] at hr
      cases hr
  have hend : ∀ (listed : Array Bool) (f : Nat → Value) (w : World), listed.size = n → (∀ j, j < n → listed.getD j true = true) → (∀ j, j < n → listed.getD j false = true → V j (f j) w) → (∀ j k, j < n → k < n → j ≠ k → listed.getD j false = true → listed.getD k false = true → E j k = true → f j ≠ f k) → Below w0.heap.size w0 w → Q .normal (putsL l a0 f n) w := by
    intro listed f w hs ha hf hD hB
    exact fin f w hB (fun j hj => hf j hj (by rw [getD_two (by omega)]; exact ha j hj)) (fun j k hj hk hjk he => hD j k hj hk hjk (by rw [getD_two (by omega)]; exact ha j hj) (by rw [getD_two (by omega)]; exact ha k hk) he)
  intro fuel
  induction fuel with
  | zero =>
    intro listed f w hs hf hD hB hc
    have ha : ∀ j, j < n → listed.getD j true = true := by
      intro j hj
      cases hv : listed.getD j true with
      | true => rfl
      | false =>
        have h1 : 0 < (List.range n).countP (fun j => !listed.getD j true) := List.countP_pos_iff.2 ⟨j, List.mem_range.2 hj, by simp only [hv]; rfl⟩
        omega
    refine ⟨?_, hend listed f w hs ha hf hD hB⟩
    cases hr : Region.ready .any (l.take n).toArray listed with
    | nil => rfl
    | cons x xs =>
      exfalso
      have hx : x ∈ Region.ready .any (l.take n).toArray listed := by rw [hr]; exact List.mem_cons_self
      obtain ⟨h1, o, h2, _⟩ := mem_ready.1 hx
      have hxn : x < n := by
        have h3 := (Array.getElem?_eq_some_iff.1 h2).1
        simp at h3; omega
      rw [ha x hxn] at h1; cases h1
  | succ fuel ih =>
    intro listed f w hs hf hD hB hc
    refine ⟨fun h0 => hend listed f w hs (hall listed hs h0) hf hD hB, fun i hi => ?_⟩
    obtain ⟨h1, o, h2, h3⟩ := mem_ready.1 hi
    have hin : i < n := by
      have h4 := (Array.getElem?_eq_some_iff.1 h2).1
      simp at h4; omega
    obtain ⟨o', ho', _, hgd⟩ := back_specR hb hin
    have e1 : (l.take n).toArray[i]? = some o' := by simpa [List.getElem?_take, hin] using ho'
    have eo : o = o' := by rw [e1] at h2; exact (Option.some.inj h2).symm
    subst eo
    have hw : ∀ y, Region.wanted o y = true := fun y => by simp [Region.wanted, hgd]
    unfold wpOp
    rw [e1]
    simp only [hw, if_true]
    refine .inl (step i hin o ho' f w _ hB ?_ ?_)
    · intro k hk
      obtain ⟨e, he, hbe⟩ := List.any_eq_true.1 hk
      have he := Array.mem_toList_iff.1 he
      simp only [Bool.and_eq_true, beq_iff_eq] at hbe
      have hl := h3 e he hbe.1
      rw [hbe.2] at hl
      have hkn : k < n := by
        rcases Nat.lt_or_ge k n with h | h
        · exact h
        · rw [getD_out (by omega)] at hl; cases hl
      exact hf k hkn hl
    · intro v w' hv hbw hne
      have hdst : o.dst = dstL l i := by unfold dstL; rw [ho']; rfl
      rw [hdst, putsL_put hd (Nat.le_refl n) hin]
      refine ih _ _ _ (by simp [hs]) ?_ ?_ (hB.trans (hbw.mono hB.size)) ?_
      · intro j hj hl
        unfold upd
        by_cases hji : j = i
        · subst hji; rw [if_pos rfl]; exact hv
        · rw [if_neg hji]
          rw [getD_set_ne false (Ne.symm hji)] at hl
          exact hV j hj _ _ _ (hf j hj hl) hbw
      · intro j k hj hk hjk hl1 hl2 he
        unfold upd
        by_cases hji : j = i
        · subst hji
          have hki : k ≠ j := fun h => hjk h.symm
          rw [if_pos rfl, if_neg hki]
          rw [getD_set_ne false (Ne.symm hki)] at hl2
          exact hne k _ hk hki (hf k hk hl2) he
        · rw [if_neg hji]
          rw [getD_set_ne false (Ne.symm hji)] at hl1
          by_cases hki : k = i
          · subst hki
            rw [if_pos rfl]
            exact (hne j _ hj hji (hf j hj hl1) (by rw [hE]; exact he)).symm
          · rw [if_neg hki]
            rw [getD_set_ne false (Ne.symm hki)] at hl2
            exact hD j k hj hk hjk hl1 hl2 he
      · have := countP_less (p := fun j => !listed.getD j true) (q := fun j => !(listed.setIfInBounds i true).getD j true) (i := i) (L := List.range n) (List.mem_range.2 hin) (by simp only [h1]; rfl) (by simp [hs, hin]) (fun j hj => by
          by_cases hji : j = i
          · subst hji; simp only [h1]; rfl
          · rw [getD_set_ne true (Ne.symm hji)] at hj; exact hj)
        omega

/-- a region that draws: its first n operations each by itself, the others in order -/
theorem wp_region_staysE {P : Program} {Q : Exit → Act → World → Prop} {id : Nat} {a : Act} {w : World} {l : List Oper} (n : Nat) (V : Nat → Value → World → Prop) (E : Nat → Nat → Bool) (hE : ∀ i j, E i j = E j i) (hm : P.follows .mixedOrders = true) (hB : (headRB l n && dstB l n) = true) (hV : ∀ j, j < n → Stays (V j))
    (step : ∀ i, i < n → StepOfE P (QTail P l.toArray (l.drop n) Q) l n a w.drew V E i) (fin : ∀ f w', Below w.heap.size w w' → (∀ j, j < n → V j (f j) w') → (∀ j k, j < n → k < n → j ≠ k → E j k = true → f j ≠ f k) → wpList P l.toArray Q (l.drop n) (putsL l a f n) w') : (Code.region id l.toArray true).wp P Q a w := by
  rw [Bool.and_eq_true] at hB
  obtain ⟨hB, hd⟩ := hB
  simp only [headRB, Bool.and_eq_true, decide_eq_true_eq] at hB
  obtain ⟨⟨⟨⟨hn, hs⟩, hc⟩, hb⟩, hq⟩ := hB
  have inv0 : HeadInv .any l.toArray n (Array.replicate l.length false) :=
    ⟨by simp, fun j oj _ hl => (by rw [getD_replicate_false] at hl; cases hl), fun t _ ht => getD_in (by simpa using ht) (getD_replicate_false _ _)⟩
  have r0 : HRel n l (Array.replicate n false) (Array.replicate l.length false) :=
    ⟨by simp, by simp, hn, fun j hj => by rw [getD_in (by simp; omega) (getD_replicate_false _ _), getD_in (by simp; omega) (getD_replicate_false _ _)], fun t _ ht => getD_in (by simpa using ht) (getD_replicate_false _ _)⟩
  refine wp_region_any hm ?_
  have h1 := wpAny_staysE (P := P) (Q := QTail P l.toArray (l.drop n) Q) (Nat.le_of_lt hn) hb hd hE hV step (fun f w' hB hf hD => fin f w' ((Below.drew (Below.refl _ w)).trans hB) hf hD) n (Array.replicate n false) (fun j => match dstL l j with | some d => a.tmps.getD d undef | none => undef) w.drew (by simp) (fun j hj hl => by rw [getD_replicate_false] at hl; cases hl) (fun j k hj hk hjk hl _ => by rw [getD_replicate_false] at hl; cases hl) (Below.refl _ _) (Nat.le_trans List.countP_le_length (by simp))
  rw [show putsL l a (fun j => match dstL l j with | some d => a.tmps.getD d undef | none => undef) n = a from putsL_self l a n] at h1
  have := wpAny_of_take hs hc hb hq n _ _ a _ r0 inv0 h1
  rw [show n + (l.length - n) = l.toArray.size by simp; omega] at this
  simpa using this
end Go.Proofs.Ytpmpbfkpiocleaa

/- Quadratics of a cubic: the program's side. Printed by mk_cv7.py. Conditions: as each states. -/
namespace Go.Proofs.Ytpmpbfkpiocleaa
open Go.RowKit
set_option linter.unusedVariables false
set_option maxRecDepth 100000

def VInts3 (B : List Int) (v : Value) (w : World) : Prop := ∃ p lo hi, v = .slice (some ⟨p, 0, none⟩) 3 3 ∧ RdS 1 (FlatR intC) w lo hi (some ⟨p, 0, none⟩) 3 B ∧ hi ≤ w.heap.size
theorem VInts3.stays (B : List Int) : Stays (VInts3 B) := fun v w w' ⟨p, lo, hi, h1, h2, h3⟩ hb => ⟨p, lo, hi, h1, h2.frame (good_flat _) (Below.sameB hb h3), Nat.le_trans h3 hb.size⟩
theorem three_ints (w : World) (a b c : Int) : RdS 1 (FlatR intC) (w.alloc (.cells #[.int .i64 a, .int .i64 b, .int .i64 c] 2 (0, 0))) w.heap.size (w.alloc (.cells #[.int .i64 a, .int .i64 b, .int .i64 c] 2 (0, 0))).heap.size (some ⟨w.heap.size, 0, none⟩) 3 [a, b, c] := by
  have h : (w.alloc (.cells #[.int .i64 a, .int .i64 b, .int .i64 c] 2 (0, 0))).ownsRow w.heap.size 2 1 (.slice (some ⟨w.heap.size, 0, none⟩) 3 3) 3 [.int .i64 a, .int .i64 b, .int .i64 c] := World.ownsRow_lit w #[.int .i64 a, .int .i64 b, .int .i64 c] 3 (Nat.le_refl _) (by decide) (by simp)
  exact rdS_own intC_len (by omega) h rfl
theorem VInts3.new (w : World) (a b c : Int) : VInts3 [a, b, c] (.slice (some ⟨w.heap.size, 0, none⟩) 3 3) (w.alloc (.cells #[.int .i64 a, .int .i64 b, .int .i64 c] 2 (0, 0))) := ⟨_, _, _, rfl, three_ints w a b c, Nat.le_refl _⟩
/-- two operations whose values differ -/
def E2 (a b i j : Nat) : Bool := (i == a && j == b) || (i == b && j == a)
theorem E2_comm (a b : Nat) : ∀ i j, E2 a b i j = E2 a b j i := fun i j => by unfold E2; rw [Bool.or_comm, Bool.and_comm, Bool.and_comm (j == b)]
theorem E2_no {a b i j : Nat} (h1 : i ≠ a) (h2 : i ≠ b) : ¬ E2 a b i j = true := by simp [E2, h1, h2]
theorem E2_is {a b i j c : Nat} (h : E2 a b i j = true) (hc : (i = a ∧ c = b ∧ i ≠ b) ∨ (i = b ∧ c = a ∧ i ≠ a)) : j = c := by
  simp [E2] at h
  omega
theorem VBox.fresh {B : Nat} {o : Obj} {u : Value} {w : World} (h : VBox B o u w) : Value.pointer (some ⟨w.heap.size, 0, none⟩) ≠ u := by
  obtain ⟨b, rfl, _, hb⟩ := h
  intro e
  injection e with e
  injection e with e
  injection e with e
  have := (Array.getElem?_eq_some_iff.1 hb).1
  omega
/-- a new slice of one quadratic -/
def VQuad (B : Nat) (x : Qd) (v : Value) (w : World) : Prop := ∃ b, v = .slice (some ⟨b, 0, none⟩) 1 1 ∧ B ≤ b ∧ QB w b x
theorem VQuad.stays (B : Nat) (x : Qd) : Stays (VQuad B x) := fun v w w' ⟨b, h1, h2, h3⟩ hb => ⟨b, h1, h2, h3.below hb⟩
def qdC (x : Qd) : List Value := [.int .i64 x.ax, .int .i64 x.ay, .int .i64 x.bx, .int .i64 x.b, .int .i64 x.cx, .int .i64 x.cy]
theorem qdC_len (x : Qd) : (qdC x).length = 6 := rfl
/-- the quadratics for all parts -/
def quadsL (q : Cb) (n : Nat) : List Qd := (List.range n).map fun k : Nat => quadC q (k : Int) (n : Int)
theorem quadsL_len (q : Cb) (n : Nat) : (quadsL q n).length = n := by simp [quadsL]
theorem quadsL_at (q : Cb) {n k : Nat} (hk : k < n) : (quadsL q n)[k]? = some (quadC q (k : Int) (n : Int)) := by
  unfold quadsL
  rw [List.getElem?_map, List.getElem?_range hk]; rfl
theorem quadsL_take (q : Cb) {n k : Nat} (hk : k < n) : (quadsL q n).take (k + 1) = (quadsL q n).take k ++ [quadC q (k : Int) (n : Int)] := by
  rw [List.take_add_one, quadsL_at q hk]; rfl

/-- what a call of blossom gives -/
def BloAt (q : Cb) (N t0 t1 t2 x y : Int) : Prop := ∀ tp c lo hi w, RdS 1 (FlatR intC) w lo hi (some ⟨tp, 0, none⟩) 3 [t0, t1, t2] → hi ≤ w.heap.size → Calls Try.prog 51 #[cbV q, .int .i64 N, .slice (some ⟨tp, 0, none⟩) 3 c] w fun e w' => e = .returned (.agg #[.int .i64 x, .int .i64 y]) ∧ Below w.heap.size w w'
theorem bloAt (q : Cb) (hq : q.ok) (N t0 t1 t2 : Int) (hN : N ≤ 64) (h0 : 0 ≤ t0 ∧ t0 ≤ N) (h1 : 0 ≤ t1 ∧ t1 ≤ N) (h2 : 0 ≤ t2 ∧ t2 ≤ N) : BloAt q N t0 t1 t2 (bloC q.ax q.bx q.cx q.dx t0 t1 t2 N) (bloC q.ay q.b q.cy q.dy t0 t1 t2 N) :=
  fun tp c lo hi w hr hhi => blossom_any q hq N t0 t1 t2 tp c lo hi w hN h0 h1 h2 hr hhi
end Go.Proofs.Ytpmpbfkpiocleaa

