/- What a line adds to a glyph that is being read: plain facts. Conditions: as each states. -/
import Derived.StillTail
import Derived.Deep.RegionHeld3
import Derived.Test.YtgdkabljgabjoaaGreatDoorRb24
import Derived.Test.YtgdkabljgabjoaaGreatDoorRb01
namespace Go.Proofs.YtgdkabljgabjoaaGreatDoor
set_option linter.unusedVariables false
set_option maxRecDepth 100000

def kGlyph : List UInt8 := [103, 108, 121, 112, 104]
def kLoop : List UInt8 := [108, 111, 111, 112]
def kPart : List UInt8 := [112, 97, 114, 116]
def kAnch : List UInt8 := [97, 110, 99, 104, 111, 114]
def kHint : List UInt8 := [104, 105, 110, 116, 115]
/-- what a line of this kind with this rest adds -/
inductive KindTo (d : Gl) (k r : List UInt8) (d' : Gl) : Prop where
  | head (nm : ByteArray) (c a : Int) (h : nameB nm = true) (hc : c.natAbs < 10 ^ 18) (ha : a.natAbs < 10 ^ 18) (hk : k = kGlyph) (hr : r = nm.data.toList ++ [32] ++ decL c ++ [32] ++ decL a) (hd : d' = ⟨nm, c, a, d.out, d.parts, d.anchors, d.hints⟩)
  | loop (K : List Knot) (h : loopOk K = true) (hk : k = kLoop) (hr : r = loopT K) (hd : d' = ⟨d.name, d.code, d.adv, d.out ++ [K], d.parts, d.anchors, d.hints⟩)
  | part (p : Part) (h : p.1.natAbs < 10 ^ 18) (h2 : ptOk p.2.1 p.2.2 = true) (hk : k = kPart) (hr : r = decL p.1 ++ [32] ++ ptT p.2.1 p.2.2) (hd : d' = ⟨d.name, d.code, d.adv, d.out, d.parts ++ [p], d.anchors, d.hints⟩)
  | anch (a : Anch) (h : nameB a.1 = true) (h2 : ptOk a.2.1 a.2.2 = true) (hk : k = kAnch) (hr : r = a.1.data.toList ++ [32] ++ ptT a.2.1 a.2.2) (hd : d' = ⟨d.name, d.code, d.adv, d.out, d.parts, d.anchors ++ [a], d.hints⟩)
  | hint (l : ByteArray) (hk : k = kHint) (hr : r = hexT l.data.toList) (hd : d' = ⟨d.name, d.code, d.adv, d.out, d.parts, d.anchors, l⟩)
  | fin (hk : k = endW) (hr : r = []) (hd : d' = d)
/-- what a line adds -/
def LineTo (d : Gl) (l : List UInt8) (d' : Gl) : Prop := ∃ k r, KindTo d k r d' ∧ (k ≠ endW ∧ l = k ++ 32 :: r ∨ k = endW ∧ l = k)
theorem KindTo.no {d d' : Gl} {k r : List UInt8} (h : KindTo d k r d') : ∀ x ∈ k, x ≠ 32 := by
  rcases h with ⟨_, _, _, _, _, _, rfl, _, _⟩ | ⟨_, _, rfl, _, _⟩ | ⟨_, _, _, rfl, _, _⟩ | ⟨_, _, _, rfl, _, _⟩ | ⟨_, rfl, _, _⟩ | ⟨rfl, _, _⟩ <;> decide
theorem KindTo.endr {d d' : Gl} {k r : List UInt8} (h : KindTo d k r d') (hk : k = endW) : r = [] ∧ d' = d := by
  rcases h with ⟨_, _, _, _, _, _, rfl, _, _⟩ | ⟨_, _, rfl, _, _⟩ | ⟨_, _, _, rfl, _, _⟩ | ⟨_, _, _, rfl, _, _⟩ | ⟨_, rfl, _, _⟩ | ⟨_, h1, h2⟩
  all_goals first | exact ⟨h1, h2⟩ | (exact absurd hk (by decide))
/-- the cut of a line -/
def CutTo (l k r : List UInt8) : Prop := (l = k ++ 32 :: r ∧ ∀ x ∈ k, x ≠ 32) ∨ (l = k ∧ r = [] ∧ ∀ x ∈ l, x ≠ 32)
theorem LineTo.kind {d d' : Gl} {l k r : List UInt8} (h : LineTo d l d') (hc : CutTo l k r) : KindTo d k r d' := by
  obtain ⟨k0, r0, h0, h1⟩ := h
  rcases hc with ⟨rfl, hk⟩ | ⟨rfl, rfl, hk⟩
  · rcases h1 with ⟨_, h1⟩ | ⟨rfl, h1⟩
    · obtain ⟨rfl, rfl⟩ := cut_uniq hk h0.no h1
      exact h0
    · exact absurd rfl (h0.no 32 (by rw [← h1]; simp))
  · rcases h1 with ⟨_, rfl⟩ | ⟨e, rfl⟩
    · exact absurd rfl (hk 32 (by simp))
    · rw [(h0.endr e).1] at h0; exact h0
/-- the kinds differ -/
theorem KindTo.glyph {d d' : Gl} {r : List UInt8} (h : KindTo d kGlyph r d') : ∃ nm c a, nameB nm = true ∧ c.natAbs < 10 ^ 18 ∧ a.natAbs < 10 ^ 18 ∧ r = nm.data.toList ++ [32] ++ decL c ++ [32] ++ decL a ∧ d' = ⟨nm, c, a, d.out, d.parts, d.anchors, d.hints⟩ := by
  rcases h with ⟨nm, c, a, h1, h2, h3, _, h4, h5⟩ | ⟨_, _, hk, _, _⟩ | ⟨_, _, _, hk, _, _⟩ | ⟨_, _, _, hk, _, _⟩ | ⟨_, hk, _, _⟩ | ⟨hk, _, _⟩
  · exact ⟨nm, c, a, h1, h2, h3, h4, h5⟩
  all_goals exact absurd hk (by decide)
theorem KindTo.loopI {d d' : Gl} {r : List UInt8} (h : KindTo d kLoop r d') : ∃ K, loopOk K = true ∧ r = loopT K ∧ d' = ⟨d.name, d.code, d.adv, d.out ++ [K], d.parts, d.anchors, d.hints⟩ := by
  rcases h with ⟨_, _, _, _, _, _, hk, _, _⟩ | ⟨K, h1, _, h2, h3⟩ | ⟨_, _, _, hk, _, _⟩ | ⟨_, _, _, hk, _, _⟩ | ⟨_, hk, _, _⟩ | ⟨hk, _, _⟩
  · exact absurd hk (by decide)
  · exact ⟨K, h1, h2, h3⟩
  all_goals exact absurd hk (by decide)
theorem KindTo.partI {d d' : Gl} {r : List UInt8} (h : KindTo d kPart r d') : ∃ p : Part, p.1.natAbs < 10 ^ 18 ∧ ptOk p.2.1 p.2.2 = true ∧ r = decL p.1 ++ [32] ++ ptT p.2.1 p.2.2 ∧ d' = ⟨d.name, d.code, d.adv, d.out, d.parts ++ [p], d.anchors, d.hints⟩ := by
  rcases h with ⟨_, _, _, _, _, _, hk, _, _⟩ | ⟨_, _, hk, _, _⟩ | ⟨p, h1, h2, _, h3, h4⟩ | ⟨_, _, _, hk, _, _⟩ | ⟨_, hk, _, _⟩ | ⟨hk, _, _⟩
  · exact absurd hk (by decide)
  · exact absurd hk (by decide)
  · exact ⟨p, h1, h2, h3, h4⟩
  all_goals exact absurd hk (by decide)
theorem KindTo.anchI {d d' : Gl} {r : List UInt8} (h : KindTo d kAnch r d') : ∃ a : Anch, nameB a.1 = true ∧ ptOk a.2.1 a.2.2 = true ∧ r = a.1.data.toList ++ [32] ++ ptT a.2.1 a.2.2 ∧ d' = ⟨d.name, d.code, d.adv, d.out, d.parts, d.anchors ++ [a], d.hints⟩ := by
  rcases h with ⟨_, _, _, _, _, _, hk, _, _⟩ | ⟨_, _, hk, _, _⟩ | ⟨_, _, _, hk, _, _⟩ | ⟨a, h1, h2, _, h3, h4⟩ | ⟨_, hk, _, _⟩ | ⟨hk, _, _⟩
  · exact absurd hk (by decide)
  · exact absurd hk (by decide)
  · exact absurd hk (by decide)
  · exact ⟨a, h1, h2, h3, h4⟩
  all_goals exact absurd hk (by decide)
theorem KindTo.hintI {d d' : Gl} {r : List UInt8} (h : KindTo d kHint r d') : ∃ l : ByteArray, r = hexT l.data.toList ∧ d' = ⟨d.name, d.code, d.adv, d.out, d.parts, d.anchors, l⟩ := by
  rcases h with ⟨_, _, _, _, _, _, hk, _, _⟩ | ⟨_, _, hk, _, _⟩ | ⟨_, _, _, hk, _, _⟩ | ⟨_, _, _, hk, _, _⟩ | ⟨l, _, h1, h2⟩ | ⟨hk, _, _⟩
  · exact absurd hk (by decide)
  · exact absurd hk (by decide)
  · exact absurd hk (by decide)
  · exact absurd hk (by decide)
  · exact ⟨l, h1, h2⟩
  · exact absurd hk (by decide)
theorem KindTo.other {d d' : Gl} {k r : List UInt8} (h : KindTo d k r d') (h1 : k ≠ kGlyph) (h2 : k ≠ kLoop) (h3 : k ≠ kPart) (h4 : k ≠ kAnch) (h5 : k ≠ kHint) : k = endW ∧ r = [] ∧ d' = d := by
  rcases h with ⟨_, _, _, _, _, _, hk, _, _⟩ | ⟨_, _, hk, _, _⟩ | ⟨_, _, _, hk, _, _⟩ | ⟨_, _, _, hk, _, _⟩ | ⟨_, hk, _, _⟩ | ⟨hk, hr, hd⟩
  · exact absurd hk h1
  · exact absurd hk h2
  · exact absurd hk h3
  · exact absurd hk h4
  · exact absurd hk h5
  · exact ⟨hk, hr, hd⟩
/-- what is read so far is bounded -/
structure RB (d : Gl) (i : Nat) : Prop where
  o : d.out.length ≤ i
  k : ∀ K ∈ d.out, K.length ≤ 1048577
  p : d.parts.length ≤ i
  a : d.anchors.length ≤ i
  nm : d.name.size ≤ 1048576
  hn : d.hints.size ≤ 1048576
  an : ∀ a ∈ d.anchors, a.1.size ≤ 1048576
theorem RB.small {d : Gl} {i : Nat} (h : RB d i) (hi : i ≤ 1000000000) : d.small 1000000000 := ⟨Nat.le_trans h.o hi, fun K hK => Nat.le_trans (h.k K hK) (by decide), Nat.le_trans h.p hi, Nat.le_trans h.a hi⟩
theorem RB.str {d : Gl} {i : Nat} (h : RB d i) : d.str := ⟨Nat.le_trans h.nm (by decide), Nat.le_trans h.hn (by decide), fun a ha => Nat.le_trans (h.an a ha) (by decide)⟩
theorem RB.up {d : Gl} {i : Nat} (h : RB d i) : RB d (i + 1) := ⟨Nat.le_succ_of_le h.o, h.k, Nat.le_succ_of_le h.p, Nat.le_succ_of_le h.a, h.nm, h.hn, h.an⟩
/-- the glyph after i of its lines -/
def glSt (g : Gl) : Nat → Gl
  | 0 => ⟨⟨#[]⟩, 0, 0, [], [], [], ⟨#[]⟩⟩
  | i + 1 => ⟨g.name, g.code, g.adv, g.out.take i, g.parts.take (i - g.out.length), g.anchors.take (i - g.out.length - g.parts.length), if i ≤ g.out.length + g.parts.length + g.anchors.length then ⟨#[]⟩ else g.hints⟩
theorem anchsOk_at {L : List Anch} (h : anchsOk L = true) : ∀ a ∈ L, nameB a.1 = true ∧ ptOk a.2.1 a.2.2 = true := by
  intro a ha
  obtain ⟨j, hj⟩ := List.getElem?_of_mem ha
  have hl := (List.getElem?_eq_some_iff.1 hj).1
  have := range_at h hl
  rw [anchAt_eq hj, Bool.and_eq_true, Bool.and_eq_true] at this
  exact this.1
theorem glyphOk_parts {g : Gl} (h : glyphOk g = true) : nameB g.name = true ∧ (-1 ≤ g.code ∧ g.code ≤ 65535) ∧ (0 ≤ g.adv ∧ g.adv ≤ 262144) ∧ (∀ K ∈ g.out, loopOk K = true) ∧ (∀ p ∈ g.parts, partOk p = true) ∧ (∀ a ∈ g.anchors, nameB a.1 = true ∧ ptOk a.2.1 a.2.2 = true) := by
  unfold glyphOk at h
  simp only [Bool.and_eq_true] at h
  obtain ⟨⟨⟨⟨⟨⟨⟨⟨⟨h1, h2⟩, h3⟩, h4⟩, h5⟩, h6⟩, h7⟩, h8⟩, h9⟩, _⟩ := h
  unfold outOk at h4
  rw [Bool.and_eq_true] at h4
  exact ⟨h1, inB_iff.1 h2, inB_iff.1 h3, List.all_eq_true.1 h4.1, List.all_eq_true.1 h8, anchsOk_at h9⟩
theorem take_next {α : Type} {L : List α} {i : Nat} {a : α} (h : L[i]? = some a) : L.take (i + 1) = L.take i ++ [a] := by
  rw [List.take_add_one, h]; rfl
theorem empty_of {b : ByteArray} (h : b.data.toList = []) : b = ⟨#[]⟩ := by
  cases b with
  | mk a => simp at h; subst h; rfl
theorem gl_step {g : Gl} (h : glyphOk g = true) {i : Nat} {l : List UInt8} (hl : (glLines g)[i]? = some l) : LineTo (glSt g i) l (glSt g (i + 1)) := by
  obtain ⟨h1, h2, h3, h4, h5, h6⟩ := glyphOk_parts h
  cases i with
  | zero =>
    simp [glLines] at hl
    subst hl
    exact ⟨kGlyph, _, .head g.name g.code g.adv h1 (by omega) (by omega) rfl rfl (by simp [glSt]), .inl ⟨by decide, by simp [headW, kGlyph]⟩⟩
  | succ i =>
    rw [glLines, List.getElem?_cons_succ, List.getElem?_append, List.length_map] at hl
    split at hl
    · next hi =>
      rw [List.getElem?_map, List.getElem?_eq_getElem hi] at hl
      injection hl with hl
      subst hl
      refine ⟨kLoop, _, .loop g.out[i] (h4 _ (List.getElem_mem hi)) rfl rfl ?_, .inl ⟨by decide, by simp [loopW, kLoop]⟩⟩
      have e1 : i - g.out.length = 0 := by omega
      have e2 : i + 1 - g.out.length = 0 := by omega
      simp only [glSt, take_next (List.getElem?_eq_getElem hi), e1, e2, if_pos (show i + 1 ≤ g.out.length + g.parts.length + g.anchors.length by omega), if_pos (show i ≤ g.out.length + g.parts.length + g.anchors.length by omega), Nat.zero_sub]
    · next hi =>
      have o1 : g.out.take i = g.out := List.take_of_length_le (by omega)
      have o2 : g.out.take (i + 1) = g.out := List.take_of_length_le (by omega)
      rw [List.getElem?_append, List.length_map] at hl
      split at hl
      · next hj =>
        rw [List.getElem?_map, List.getElem?_eq_getElem hj] at hl
        injection hl with hl
        subst hl
        have hp := h5 _ (List.getElem_mem hj)
        unfold partOk at hp
        rw [Bool.and_eq_true] at hp
        have hp1 := inB_iff.1 hp.1
        refine ⟨kPart, _, .part g.parts[i - g.out.length] (by omega) hp.2 rfl rfl ?_, .inl ⟨by decide, by simp [partW, kPart]⟩⟩
        have e0 : i + 1 - g.out.length = i - g.out.length + 1 := by omega
        have e1 : i - g.out.length - g.parts.length = 0 := by omega
        have e2 : i - g.out.length + 1 - g.parts.length = 0 := by omega
        simp only [glSt, o1, o2, e0, take_next (List.getElem?_eq_getElem hj), e1, e2, if_pos (show i + 1 ≤ g.out.length + g.parts.length + g.anchors.length by omega), if_pos (show i ≤ g.out.length + g.parts.length + g.anchors.length by omega)]
      · next hj =>
        have p1 : g.parts.take (i - g.out.length) = g.parts := List.take_of_length_le (by omega)
        have p2 : g.parts.take (i + 1 - g.out.length) = g.parts := List.take_of_length_le (by omega)
        rw [List.getElem?_append, List.length_map] at hl
        split at hl
        · next hk =>
          rw [List.getElem?_map, List.getElem?_eq_getElem hk] at hl
          injection hl with hl
          subst hl
          obtain ⟨ha1, ha2⟩ := h6 _ (List.getElem_mem hk)
          refine ⟨kAnch, _, .anch g.anchors[i - g.out.length - g.parts.length] ha1 ha2 rfl rfl ?_, .inl ⟨by decide, by simp [anchW, kAnch]⟩⟩
          have e0 : i + 1 - g.out.length - g.parts.length = i - g.out.length - g.parts.length + 1 := by omega
          simp only [glSt, o1, o2, p1, p2, e0, take_next (List.getElem?_eq_getElem hk), if_pos (show i + 1 ≤ g.out.length + g.parts.length + g.anchors.length by omega), if_pos (show i ≤ g.out.length + g.parts.length + g.anchors.length by omega)]
        · next hk =>
          have a1 : g.anchors.take (i - g.out.length - g.parts.length) = g.anchors := List.take_of_length_le (by omega)
          have a2 : g.anchors.take (i + 1 - g.out.length - g.parts.length) = g.anchors := List.take_of_length_le (by omega)
          have q2 : ¬ i + 1 ≤ g.out.length + g.parts.length + g.anchors.length := by omega
          obtain ⟨m, hm⟩ : ∃ m, m = i - g.out.length - g.parts.length - g.anchors.length := ⟨_, rfl⟩
          rw [← hm] at hl
          by_cases hh : g.hints.data.toList = []
          · have hz : g.hints = ⟨#[]⟩ := empty_of hh
            rw [show hintW g.hints.data.toList = [] by unfold hintW; rw [if_pos hh], List.nil_append] at hl
            cases m with
            | succ m => simp at hl
            | zero =>
              simp at hl
              subst hl
              refine ⟨endW, [], .fin rfl rfl ?_, .inr ⟨rfl, rfl⟩⟩
              simp only [glSt, o1, o2, p1, p2, a1, a2, if_neg q2]
              split
              · rw [hz]
              · rfl
          · rw [show hintW g.hints.data.toList = [[104, 105, 110, 116, 115, 32] ++ hexT g.hints.data.toList] by unfold hintW; rw [if_neg hh]] at hl
            cases m with
            | zero =>
              simp at hl
              subst hl
              refine ⟨kHint, _, .hint g.hints rfl rfl ?_, .inl ⟨by decide, by simp [kHint]⟩⟩
              simp only [glSt, o1, o2, p1, p2, a1, a2, if_neg q2]
            | succ m =>
              cases m with
              | succ m => simp at hl
              | zero =>
                simp at hl
                subst hl
                refine ⟨endW, [], .fin rfl rfl ?_, .inr ⟨rfl, rfl⟩⟩
                simp only [glSt, o1, o2, p1, p2, a1, a2, if_neg q2, if_neg (show ¬ i ≤ g.out.length + g.parts.length + g.anchors.length by omega)]
theorem gl_end {g : Gl} : glSt g (glLines g).length = g := by
  obtain ⟨m, hm⟩ : ∃ m, (glLines g).length = m + 1 ∧ g.out.length + g.parts.length + g.anchors.length < m := by
    refine ⟨_, rfl, ?_⟩
    simp; omega
  rw [hm.1]
  have h := hm.2
  simp only [glSt]
  rw [List.take_of_length_le (by omega), List.take_of_length_le (by omega), List.take_of_length_le (by omega), if_neg (by omega)]
end Go.Proofs.YtgdkabljgabjoaaGreatDoor

/- A region that draws its order, whose last operations wait for all that stand ahead of them: its head by itself (with what is held in S), its tail in order. No program in sight. Conditions: as each states. -/
namespace Go.Proofs.YtgdkabljgabjoaaGreatDoor
set_option linter.unusedVariables false
set_option maxRecDepth 100000

/-- what is to be shown behind the head: the tail, in order -/
def QTail (P : Program) (ops : Array Oper) (l : List Oper) (Q : Exit → Act → World → Prop) : Exit → Act → World → Prop
  | .normal, a, w => wpList P ops Q l a w
  | e, a, w => Q e a w
theorem wp_of_tail {P : Program} {Q : Exit → Act → World → Prop} {ops : Array Oper} {l : List Oper} {o : Oper} {a : Act} {w : World} {K K' : Act → World → Prop} (h : ∀ a w, K a w → K' a w)
    (hh : Oper.wp P o a w K (QTail P ops l Q)) : Oper.wp P o a w K' Q := by
  have h1 := Oper.wp_mono h hh
  clear hh
  unfold Oper.wp at *
  generalize (execOp a.eval o).run P w = r at *
  cases r with
  | ok n w' =>
    cases n <;> first
      | exact h1
      | (refine Calls.mono h1 fun e w'' he => ?_
         cases e <;> exact he)
  | halt x w' => cases x <;> exact h1
theorem wpAny_more {P : Program} {md : Region.Mode} {ops : Array Oper} {Q : Exit → Act → World → Prop} : ∀ (g : Nat) (listed : Array Bool) (a : Act) (w : World), wpAny P md ops Q g listed a w → wpAny P md ops Q (g + 1) listed a w
  | 0, listed, a, w, h => ⟨fun _ => h.2, by rw [h.1]; intro i hi; cases hi⟩
  | g + 1, listed, a, w, h => ⟨h.1, fun i hi => wpOp_mono (fun a' w' h' => wpAny_more g _ a' w' h') (h.2 i hi)⟩
theorem wpAny_plus {P : Program} {md : Region.Mode} {ops : Array Oper} {Q : Exit → Act → World → Prop} {g : Nat} {listed : Array Bool} {a : Act} {w : World} (h : wpAny P md ops Q g listed a w) (k : Nat) : wpAny P md ops Q (k + g) listed a w := by
  induction k with
  | zero => rw [Nat.zero_add]; exact h
  | succ k ih => rw [show k + 1 + g = (k + g) + 1 by omega]; exact wpAny_more _ _ _ _ ih
theorem leastN {p : Nat → Prop} (hp : ∀ j, p j ∨ ¬ p j) : ∀ (j : Nat), p j → ∃ i, i ≤ j ∧ p i ∧ ∀ k, k < i → ¬ p k := by
  intro j
  induction j using Nat.strongRecOn with
  | _ j ih =>
    intro hj
    by_cases h : ∃ k, k < j ∧ p k
    · obtain ⟨k, hk, hpk⟩ := h
      obtain ⟨i, h1, h2, h3⟩ := ih k hk hpk
      exact ⟨i, by omega, h2, h3⟩
    · exact ⟨j, Nat.le_refl _, hj, fun k hk hpk => h ⟨k, hk, hpk⟩⟩

def backRB (l : List Oper) (n : Nat) : Bool := (List.range n).all fun i => match l[i]? with
  | some o => o.after.all (fun e => decide (e.on < i)) && o.guard.isNone
  | none => false
def maskL (n m : Nat) : Array Bool := (List.replicate n true ++ List.replicate m false).toArray
def headRB (l : List Oper) (n : Nat) : Bool := decide (n < l.length) && Region.sinkB .any l.toArray n && Region.chainB .any l.toArray n && backRB l n && Region.seqB .any l.toArray (l.length - n) n (maskL n (l.length - n))
theorem back_specR {l : List Oper} {n i : Nat} (h : backRB l n = true) (hi : i < n) : ∃ o, l[i]? = some o ∧ (∀ e ∈ o.after, e.on < i) ∧ o.guard = none := by
  have h1 := List.all_eq_true.1 h i (List.mem_range.2 hi)
  cases ho : l[i]? with
  | none => rw [ho] at h1; cases h1
  | some o =>
    rw [ho] at h1
    simp only [Bool.and_eq_true] at h1
    refine ⟨o, rfl, fun e he => ?_, by simpa using h1.2⟩
    have := Array.all_eq_true'.1 h1.1 e he
    simpa using this

structure HRel (n : Nat) (l : List Oper) (h f : Array Bool) : Prop where
  hs : h.size = n
  fs : f.size = l.length
  hn : n < l.length
  eq : ∀ j, j < n → f.getD j true = h.getD j true
  tl : ∀ t, n ≤ t → t < l.length → f.getD t true = false
theorem getD_two {a : Array Bool} {j : Nat} (hj : j < a.size) : a.getD j false = a.getD j true := by simp [hj]
theorem getD_out {a : Array Bool} {j : Nat} {d : Bool} (hj : a.size ≤ j) : a.getD j d = d := by simp [Array.getElem?_eq_none hj]
theorem HRel.fb {n : Nat} {l : List Oper} {h f : Array Bool} (r : HRel n l h f) (j : Nat) : f.getD j false = h.getD j false := by
  rcases Nat.lt_or_ge j n with hj | hj
  · rw [getD_two (by have := r.fs; have := r.hn; omega), getD_two (by have := r.hs; omega)]
    exact r.eq j hj
  · rw [getD_out (a := h) (by have := r.hs; omega)]
    rcases Nat.lt_or_ge j l.length with h2 | h2
    · rw [getD_two (by have := r.fs; omega)]; exact r.tl j hj h2
    · exact getD_out (by have := r.fs; omega)
theorem ready_head {md : Region.Mode} {n : Nat} {l : List Oper} {h f : Array Bool} (r : HRel n l h f) {j : Nat} (hj : j < n) : j ∈ Region.ready md l.toArray f ↔ j ∈ Region.ready md (l.take n).toArray h := by
  rw [mem_ready, mem_ready, r.eq j hj]
  have e : (l.take n).toArray[j]? = l.toArray[j]? := by simp [hj]
  rw [e]
  simp only [r.fb]
theorem HRel.set {n : Nat} {l : List Oper} {h f : Array Bool} (r : HRel n l h f) {i : Nat} (hi : i < n) : HRel n l (h.setIfInBounds i true) (f.setIfInBounds i true) := by
  refine ⟨by simp [r.hs], by simp [r.fs], r.hn, fun j hj => ?_, fun t h1 h2 => ?_⟩
  · by_cases hij : i = j
    · subst hij
      have h1 := r.hs
      have h2 := r.fs
      have h3 := r.hn
      simp [hi, h1, show i < f.size by omega]
    · rw [getD_set_ne true hij, getD_set_ne true hij]; exact r.eq j hj
  · rw [getD_set_ne true (by omega)]; exact r.tl t h1 h2
theorem HRel.mask {n : Nat} {l : List Oper} {h f : Array Bool} (r : HRel n l h f) (hall : ∀ j, j < n → h.getD j true = true) : f = maskL n (l.length - n) := by
  have h1 := r.hn
  apply Array.ext
  · rw [r.fs]; simp [maskL]; omega
  · intro i hi1 hi2
    rw [r.fs] at hi1
    have hg : f[i] = f.getD i true := by simp [show i < f.size by rw [r.fs]; exact hi1]
    rw [hg]
    rcases Nat.lt_or_ge i n with hj | hj
    · rw [r.eq i hj, hall i hj]
      simp [maskL, hj]
    · rw [r.tl i hj hi1]
      simp [maskL, List.getElem_append, Nat.not_lt.2 hj]

theorem wpAny_of_take {P : Program} {Q : Exit → Act → World → Prop} {n : Nat} {l : List Oper} (hs : Region.sinkB .any l.toArray n = true) (hc : Region.chainB .any l.toArray n = true) (hb : backRB l n = true) (hq : Region.seqB .any l.toArray (l.length - n) n (maskL n (l.length - n)) = true) :
    ∀ (fuel : Nat) (h f : Array Bool) (a : Act) (w : World), HRel n l h f → HeadInv .any l.toArray n f → wpAny P .any (l.take n).toArray (QTail P l.toArray (l.drop n) Q) fuel h a w → wpAny P .any l.toArray Q (fuel + (l.length - n)) f a w := by
  intro fuel
  induction fuel with
  | zero =>
    intro h f a w r inv hh
    by_cases hall : ∀ j, j < n → h.getD j true = true
    · rw [r.mask hall, Nat.zero_add]
      have hdl : (l.drop n).length = l.length - n := by simp
      have := wpAny_of_seq (md := .any) (ops := l.toArray) (Q' := Q) (l.drop n) n (maskL n (l.length - n)) a w (fun j => by simp [List.getElem?_drop]) (by rw [hdl]; exact hq) hh.2
      rwa [hdl] at this
    · exfalso
      obtain ⟨j, hj⟩ : ∃ j, j < n ∧ h.getD j true = false := by
        refine Classical.byContradiction fun hno => hall fun j hj => ?_
        cases hv : h.getD j true with
        | true => rfl
        | false => exact absurd ⟨j, hj, hv⟩ hno
      obtain ⟨i, hi, hpi, hmin⟩ := leastN (p := fun j => j < n ∧ h.getD j true = false) (fun j => Classical.em _) j hj
      obtain ⟨o, ho, hon, _⟩ := back_specR hb hpi.1
      have hr : i ∈ Region.ready .any (l.take n).toArray h := mem_ready.2 ⟨hpi.2, o, by simpa [List.getElem?_take, hpi.1] using ho, fun e he _ => by
        have h1 := hon e he
        have h2 := hmin e.on h1
        rw [getD_two (by have := r.hs; have := hpi.1; omega)]
        cases hv : h.getD e.on true with
        | true => rfl
        | false => exact absurd ⟨by have := hpi.1; omega, hv⟩ h2⟩
      rw [hh.1] at hr
      cases hr
  | succ fuel ih =>
    intro h f a w r inv hh
    by_cases hall : ∀ j, j < n → h.getD j true = true
    · have h0 : Region.ready .any (l.take n).toArray h = [] := by
        cases hr : Region.ready .any (l.take n).toArray h with
        | nil => rfl
        | cons x xs =>
          exfalso
          have hx : x ∈ Region.ready .any (l.take n).toArray h := by rw [hr]; exact List.mem_cons_self
          obtain ⟨h1, o, h2, _⟩ := mem_ready.1 hx
          have hxn : x < n := by
            have h3 := (Array.getElem?_eq_some_iff.1 h2).1
            simp at h3; omega
          rw [hall x hxn] at h1; cases h1
      rw [r.mask hall]
      have hdl : (l.drop n).length = l.length - n := by simp
      have := wpAny_of_seq (md := .any) (ops := l.toArray) (Q' := Q) (l.drop n) n (maskL n (l.length - n)) a w (fun j => by simp [List.getElem?_drop]) (by rw [hdl]; exact hq) (hh.1 h0)
      rw [hdl] at this
      exact wpAny_plus this _
    · obtain ⟨j, hj⟩ : ∃ j, j < n ∧ h.getD j true = false := by
        refine Classical.byContradiction fun hno => hall fun j hj => ?_
        cases hv : h.getD j true with
        | true => rfl
        | false => exact absurd ⟨j, hj, hv⟩ hno
      obtain ⟨i, hi, hpi, hmin⟩ := leastN (p := fun j => j < n ∧ h.getD j true = false) (fun j => Classical.em _) j hj
      obtain ⟨o, ho, hon, _⟩ := back_specR hb hpi.1
      have hr : i ∈ Region.ready .any (l.take n).toArray h := mem_ready.2 ⟨hpi.2, o, by simpa [List.getElem?_take, hpi.1] using ho, fun e he _ => by
        have h1 := hon e he
        have h2 := hmin e.on h1
        rw [getD_two (by have := r.hs; have := hpi.1; omega)]
        cases hv : h.getD e.on true with
        | true => rfl
        | false => exact absurd ⟨by have := hpi.1; omega, hv⟩ h2⟩
      have hrf := (ready_head r hpi.1).2 hr
      rw [show fuel + 1 + (l.length - n) = (fuel + (l.length - n)) + 1 by omega]
      refine ⟨fun h0 => (by rw [h0] at hrf; cases hrf), fun k hk => ?_⟩
      have hkn : k < n := by
        rcases Nat.lt_or_ge k n with h1 | h1
        · exact h1
        · exact absurd hk (tail_waits hs hc (by simpa using r.hn) inv (n - i) i rfl hpi.1 (by rw [r.eq i hpi.1]; exact hpi.2) k h1)
      have hkh := (ready_head r hkn).1 hk
      have hop := hh.2 k hkh
      obtain ⟨o', ho', _, hgd⟩ := back_specR hb hkn
      have e1 : (l.take n).toArray[k]? = some o' := by simpa [List.getElem?_take, hkn] using ho'
      have e2 : l.toArray[k]? = some o' := by simpa using ho'
      have hw : ∀ y, Region.wanted o' y = true := fun y => by simp [Region.wanted, hgd]
      unfold wpOp at hop ⊢
      rw [e1] at hop
      rw [e2]
      simp only [hw, if_true] at hop ⊢
      rcases hop with hop | ⟨h1, h2⟩
      · exact .inl (wp_of_tail (fun a' w' h' => ih _ _ a' w' (r.set hkn) (inv.set hk hkn) h') hop)
      · exact .inr ⟨h1, h2⟩

/-- the head by itself, and the tail in order -/
theorem wp_region_head {P : Program} {Q : Exit → Act → World → Prop} {id : Nat} {a : Act} {w : World} {l : List Oper} (n : Nat) (S : World → Prop) (hm : P.follows .mixedOrders = true) (hB : headRB l n = true) (hS : S w.drew)
    (h : S w.drew → wpAnyH P .any (l.take n).toArray (QTail P l.toArray (l.drop n) Q) S n (Array.replicate n false) a w.drew) : (Code.region id l.toArray true).wp P Q a w := by
  simp only [headRB, Bool.and_eq_true, decide_eq_true_eq] at hB
  obtain ⟨⟨⟨⟨hn, hs⟩, hc⟩, hb⟩, hq⟩ := hB
  have inv0 : HeadInv .any l.toArray n (Array.replicate l.length false) :=
    ⟨by simp, fun j oj _ hl => (by rw [getD_replicate_false] at hl; cases hl), fun t _ ht => getD_in (by simpa using ht) (getD_replicate_false _ _)⟩
  have r0 : HRel n l (Array.replicate n false) (Array.replicate l.length false) :=
    ⟨by simp, by simp, hn, fun j hj => by rw [getD_in (by simp; omega) (getD_replicate_false _ _), getD_in (by simp; omega) (getD_replicate_false _ _)], fun t _ ht => getD_in (by simpa using ht) (getD_replicate_false _ _)⟩
  refine wp_region_any hm ?_
  have := wpAny_of_take hs hc hb hq n _ _ a _ r0 inv0 (wpAny_of_held _ _ _ _ (h hS))
  rw [show n + (l.length - n) = l.toArray.size by simp; omega] at this
  simpa using this
end Go.Proofs.YtgdkabljgabjoaaGreatDoor

