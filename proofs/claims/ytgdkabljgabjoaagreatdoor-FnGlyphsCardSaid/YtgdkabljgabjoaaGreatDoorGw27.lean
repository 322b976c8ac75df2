/- Outlines that are small enough (without the moving of outlines). No walk in sight. Conditions: none. -/
import Derived.StillTailTactics
import Derived.Test.YtgdkabljgabjoaaGreatDoorGw05
import Derived.Test.YtgdkabljgabjoaaGreatDoorGw26
namespace Go.Proofs.YtgdkabljgabjoaaGreatDoor
set_option linter.unusedVariables false
set_option maxRecDepth 100000
theorem sumMem {L : List Nat} {x : Nat} (h : x ∈ L) : x ≤ L.sum := by
  induction L with
  | nil => simp at h
  | cons a L ih =>
    rcases List.mem_cons.1 h with rfl | h
    · simp
    · have := ih h; simp; omega
def OutSm (R : List (List Knot)) : Prop := R.length ≤ 1048576 ∧ kN R ≤ 1048576
theorem OutSm.k {R : List (List Knot)} (h : OutSm R) : ∀ K ∈ R, K.length ≤ 1048576 := fun K hK => Nat.le_trans (sumMem (List.mem_map_of_mem (f := List.length) hK)) h.2
theorem OutSm.map {R : List (List Knot)} (h : OutSm R) (f : Knot → Knot) : OutSm (R.map (List.map f)) := by
  refine ⟨by rw [List.length_map]; exact h.1, ?_⟩
  have : (R.map (List.map f)).map List.length = R.map List.length := by rw [List.map_map]; apply List.map_congr_left; intro a _; simp
  unfold kN; rw [this]; exact h.2
theorem OutSm.nil : OutSm [] := ⟨by simp, by simp [kN]⟩
theorem RdS.capped {α : Type} {k : Nat} {f : α → List Value} {w : World} {lo hi hi' : Nat} {A : Option Addr} {n : Nat} {L : List α} (h : RdS k (FlatR f) w lo hi A n L) (hb : ∀ b off, A = some ⟨b, off, none⟩ → b < hi') : RdS k (FlatR f) w lo hi' A n L := by
  refine ⟨h.1, fun hn => ?_⟩
  obtain ⟨b, off, h1, h2, h3, h4⟩ := h.2 hn
  exact ⟨b, off, h1, h2, hb b off h1, h4⟩
theorem OutIn.rdIn {w : World} {lo hi n c : Nat} {A : Option Addr} {ys : List Value} {Ls : List (List Knot)} (h : OutIn w lo hi A n c ys Ls) (hm : OutSm Ls) : OutRd w lo hi A n Ls := by
  obtain ⟨h1, h2, h3, h4, h5, h6⟩ := h
  refine ⟨h1, fun hn => ?_⟩
  obtain ⟨g, rfl, hg1, hg2, _, hc, _⟩ := own_at h2 hn
  refine ⟨g, 0, rfl, hg1, h5 g rfl, fun j K hj => ?_⟩
  obtain ⟨Aj, cj, h7, h8⟩ := h3 j K hj
  refine ⟨[.slice Aj K.length cj], rfl, fun i u hu => ?_, Aj, K.length, cj, rfl, by have := hm.k K (List.mem_of_getElem? hj); unfold maxLen; omega, (rdS_own knotC_len (by omega) h8 rfl).capped fun b off e => h6 j _ b h7 (by subst e; rfl)⟩
  match i, hu with
  | 0, hu =>
    injection hu with hu
    subst hu
    have hjl := (List.getElem?_eq_some_iff.1 hj).1
    simp only [Nat.mul_one, Nat.add_zero, Nat.zero_add]
    rw [hc j (by omega), h7]
theorem OutSm.mk {R : List (List Knot)} (h : OutSm R) (m : Int) : OutSm (mkLs m R) := ⟨by rw [mkLs_length]; exact h.1, by unfold kN; rw [mkLs_lens]; exact h.2⟩
theorem have_then {G : Prop} (T : Prop) (h : T) (k : T → G) : G := k h
end Go.Proofs.YtgdkabljgabjoaaGreatDoor

/- Marks in glyphs and sets of glyphs of the call's own, exactly, and whether they are held. Conditions: as each states. -/
namespace Go.Proofs.YtgdkabljgabjoaaGreatDoor
open Go.RowKit
set_option linter.unusedVariables false
set_option maxRecDepth 100000

theorem OutIn.wide {w : World} {lo hi lo' hi' n c : Nat} {A : Option Addr} {ys : List Value} {Ls : List (List Knot)} (h : OutIn w lo hi A n c ys Ls) (h1 : lo' ≤ lo) (h2 : hi ≤ hi') : OutIn w lo' hi' A n c ys Ls := by
  obtain ⟨a, b, d, e, f, g⟩ := h
  exact ⟨a, own_lower b h1, fun j K hj => by obtain ⟨Aj, cj, k1, k2⟩ := d j K hj; exact ⟨Aj, cj, k1, own_lower k2 h1⟩, e, fun x hx => Nat.lt_of_lt_of_le (f x hx) h2, fun j v x hv hx => Nat.lt_of_lt_of_le (g j v x hv hx) h2⟩

/-- a glyph of the call's own, its blocks from lo to hi -/
structure GlX (w : World) (lo hi : Nat) (d : Gl) (h : GlH) : Prop where
  o : ∃ ys, OutIn w lo hi h.out.A h.out.n h.out.c ys d.out
  p : w.ownsRow lo 106 3 (.slice h.parts.A h.parts.n h.parts.c) h.parts.n (d.parts.flatMap partC)
  pl : d.parts.length = h.parts.n
  ph : ∀ g, (Value.slice h.parts.A h.parts.n h.parts.c).ownBlock = some g → g < hi
  a : w.ownsRow lo 117 3 (.slice h.anchors.A h.anchors.n h.anchors.c) h.anchors.n (d.anchors.flatMap anchC)
  al : d.anchors.length = h.anchors.n
  ah : ∀ g, (Value.slice h.anchors.A h.anchors.n h.anchors.c).ownBlock = some g → g < hi
  cap : h.anchors.n ≤ h.anchors.c
theorem GlX.same {w w' : World} {lo hi : Nat} {d : Gl} {h : GlH} (r : GlX w lo hi d h) (s : SameB lo hi w w') : GlX w' lo hi d h := by
  obtain ⟨ys, ho⟩ := r.o
  exact ⟨⟨ys, ho.same s⟩, own_same r.p fun g hg => s g (r.p.lt g hg).1 (r.ph g hg), r.pl, r.ph, own_same r.a fun g hg => s g (r.a.lt g hg).1 (r.ah g hg), r.al, r.ah, r.cap⟩
theorem GlX.wide {w : World} {lo hi lo' hi' : Nat} {d : Gl} {h : GlH} (r : GlX w lo hi d h) (h1 : lo' ≤ lo) (h2 : hi ≤ hi') : GlX w lo' hi' d h := by
  obtain ⟨ys, ho⟩ := r.o
  exact ⟨⟨ys, ho.wide h1 h2⟩, own_lower r.p h1, r.pl, fun g hg => Nat.lt_of_lt_of_le (r.ph g hg) h2, own_lower r.a h1, r.al, fun g hg => Nat.lt_of_lt_of_le (r.ah g hg) h2, r.cap⟩
theorem GlX.rd {w : World} {lo hi : Nat} {d : Gl} {h : GlH} (r : GlX w lo hi d h) (hs : OutSm d.out) : GlRd w lo hi d h := by
  obtain ⟨ys, ho⟩ := r.o
  exact ⟨ho.rdIn hs, (rdS_own partC_len (by omega) r.p r.pl).capped fun b off e => r.ph b (by rw [e]; rfl), (rdS_own anchC_len (by omega) r.a r.al).capped fun b off e => r.ah b (by rw [e]; rfl)⟩

/-- a glyph's marks from m on -/
def mkGl (m : Int) (d : Gl) : Gl := ⟨mText m, m + 1, m + 2, mkLs (m + 3) d.out, mkPart (m + 3 + 3 * (kN d.out : Int)) d.parts.length, mkAnchor (m + 3 + 3 * (kN d.out : Int) + 3 * (d.parts.length : Int)) d.anchors.length, mText (m + 3 + 3 * (kN d.out : Int) + 3 * (d.parts.length : Int) + 3 * (d.anchors.length : Int))⟩
def glN (d : Gl) : Nat := 4 + 3 * kN d.out + 3 * d.parts.length + 3 * d.anchors.length
theorem kN_mk (m : Int) (Ls : List (List Knot)) : kN (mkLs m Ls) = kN Ls := by unfold kN; rw [mkLs_lens]
/-- small enough for marks -/
def GlSm (d : Gl) : Prop := d.out.length ≤ 100 ∧ kN d.out ≤ 10000 ∧ d.parts.length ≤ 100 ∧ d.anchors.length ≤ 100
theorem GlSm.outSm {d : Gl} (h : GlSm d) : OutSm d.out := ⟨by have := h.1; omega, by have := h.2.1; omega⟩
theorem GlSm.n {d : Gl} (h : GlSm d) : glN d ≤ 31000 := by
  obtain ⟨h1, h2, h3, h4⟩ := h
  unfold glN; omega
theorem GlSm.mk {d : Gl} (h : GlSm d) (m : Int) : GlSm (mkGl m d) := by
  obtain ⟨h1, h2, h3, h4⟩ := h
  refine ⟨by show (mkLs _ _).length ≤ _; rw [mkLs_length]; exact h1, by show kN (mkLs _ _) ≤ _; rw [kN_mk]; exact h2, by show (mkPart _ _).length ≤ _; rw [mkPart_length]; exact h3, by show (mkAnchor _ _).length ≤ _; rw [mkAnchor_length]; exact h4⟩
/-- a set's glyphs, each in blocks of its own -/
def GsX (w : World) (lo hi : Nat) (A : Option Addr) (n c : Nat) (L : List Gl) (ys : List Value) (hs : Nat → GlH) (iv : Nat → Nat × Nat) : Prop :=
  L.length = n ∧ w.ownsRow lo 28 7 (.slice A n c) n ys ∧ (∀ g, (Value.slice A n c).ownBlock = some g → g < hi ∧ ∀ j, j < n → g < (iv j).1 ∨ (iv j).2 ≤ g) ∧
  (∀ (j : Nat) (g : Gl), L[j]? = some g → (∀ i u, (glC g (hs j))[i]? = some u → ys[j * 7 + i]? = some u) ∧ GlX w (iv j).1 (iv j).2 g (hs j)) ∧
  (∀ j, j < n → lo ≤ (iv j).1 ∧ (iv j).1 ≤ (iv j).2 ∧ (iv j).2 ≤ hi) ∧ (∀ i j, i < j → j < n → (iv i).2 ≤ (iv j).1)
theorem GsX.same {w w' : World} {lo hi n c : Nat} {A : Option Addr} {L : List Gl} {ys : List Value} {hs : Nat → GlH} {iv : Nat → Nat × Nat} (h : GsX w lo hi A n c L ys hs iv) (s : SameB lo hi w w') : GsX w' lo hi A n c L ys hs iv := by
  obtain ⟨h1, h2, h3, h4, h5, h6⟩ := h
  refine ⟨h1, own_same h2 fun g hg => s g (h2.lt g hg).1 (h3 g hg).1, h3, fun j g hj => ?_, h5, h6⟩
  have hjn : j < n := by have := (List.getElem?_eq_some_iff.1 hj).1; omega
  exact ⟨(h4 j g hj).1, (h4 j g hj).2.same (s.mono (h5 j hjn).1 (h5 j hjn).2.2)⟩
theorem glC_7 {g : Gl} {h : GlH} {i : Nat} {u : Value} (hu : (glC g h)[i]? = some u) : i < 7 := by
  rcases Nat.lt_or_ge i 7 with h | h
  · exact h
  · rw [List.getElem?_eq_none (by simp [glC]; omega)] at hu; cases hu
theorem GsX.rdc {w : World} {lo hi n c : Nat} {A : Option Addr} {L : List Gl} {ys : List Value} {hs : Nat → GlH} {iv : Nat → Nat × Nat} (h : GsX w lo hi A n c L ys hs iv) (hm : ∀ g ∈ L, OutSm g.out) : GsRc w lo hi A n L := by
  obtain ⟨h1, h2, h3, h4, h5, h6⟩ := h
  refine ⟨h1, fun hn => ?_⟩
  obtain ⟨g, rfl, hlo, hgl, _, hcell, _⟩ := own_at h2 hn
  refine ⟨g, 0, rfl, hlo, (h3 g rfl).1, fun j d hj => ?_⟩
  have hjn : j < n := by have := (List.getElem?_eq_some_iff.1 hj).1; omega
  obtain ⟨k1, k2⟩ := h4 j d hj
  refine ⟨glC d (hs j), rfl, fun i u hu => ?_, hs j, rfl, (k2.rd (hm d (List.mem_of_getElem? hj))).wide (h5 j hjn).1 (h5 j hjn).2.2, k2.cap⟩
  have hi := glC_7 hu
  have h3 := hcell (j * 7 + i) (by omega)
  rw [k1 i u hu] at h3
  rw [Nat.zero_add]
  exact h3
end Go.Proofs.YtgdkabljgabjoaaGreatDoor

/- Clones of parts and anchors; a set of the call's own with one glyph more. Printed by mk_glc.py. Conditions: as each states. -/
namespace Go.Proofs.YtgdkabljgabjoaaGreatDoor
open Go.RowKit
set_option linter.unusedVariables false
set_option maxRecDepth 100000
set_option maxRecDepth 100000

/-- an append to a row of the call's own, as one step of a region that draws: the new row's block known -/
theorem stepAppN {P : Program} {w : World} {ops : Array Oper} {o : Oper} {a : Act} {K : Act → World → Prop} {Q : Exit → Act → World → Prop} {E' : Prop} (hgd : o.guard = none) (s x : Operand) {t e : TypeId} {size bytes : Nat} (E : Elem P t e size bytes)
    (ho : o.op = .call { callee := .builtin .append, args := #[s, x], argTypes := #[t, t] })
    {base : Nat} {v : Value} {n : Nat} {xs : List Value} (hs : a.eval s = v) (hown : w.ownsRow base e size v n xs)
    {A : Option Addr} {m c : Nat} {news : List Value} (hx : a.eval x = .slice A m c) (hsrc : Src w size A m news) (h63 : n + m ≤ 1000000000) (hbytes : bytes ≤ 100000) (hbase : base ≤ w.heap.size) (k : Nat) (hk : k = n + m)
    (h : ∀ A' c' w', w'.ownsRow base e size (.slice A' k c') k (xs ++ news) → w.grownBy w' v.ownBlock → ((Value.slice A' k c').ownBlock = v.ownBlock ∨ (Value.slice A' k c').ownBlock = some w.heap.size) → K (a.put o.dst (.slice A' k c')) w') :
    if Region.wanted o (yielded ops a.tmps) = true then Oper.wp P o a w K Q else E' := by
  have hw : Region.wanted o (yielded ops a.tmps) = true := by simp [Region.wanted, hgd]
  rw [if_pos hw]
  obtain ⟨v', w', hr, h2, h3, h4⟩ := run_app (P := P) E o.type hown (c := c) hsrc h63 hbytes hbase
  obtain ⟨A', c', rfl⟩ := own_form h2
  unfold Oper.wp execOp
  simp only [ho, resolve, invoke, builtin, Sem.run_bind, Sem.run_pure, Result.andThen_ok, List.map_toArray, List.map_cons, List.map_nil, hs, hx, hr]
  subst hk
  exact h A' c' w' h2 h3 h4

/-- a row of the call's own has no more elements than room -/
theorem own_nc {w : World} {lo e size n c : Nat} {A : Option Addr} {xs : List Value} (h : w.ownsRow lo e size (.slice A n c) n xs) : n ≤ c := by
  rcases Nat.eq_zero_or_pos n with h0 | h0
  · omega
  · obtain ⟨g, _, _, _, hnc, _, _⟩ := own_at h h0
    exact hnc
theorem GsX.next {w w1 w2 : World} {lo k c c' B : Nat} {A A' : Option Addr} {L : List Gl} {ys : List Value} {hs : Nat → GlH} {iv : Nat → Nat × Nat} {d : Gl} {h' : GlH} (h : GsX w lo w.heap.size A k c L ys hs iv) (hlo : lo ≤ w.heap.size) (hb : Below w.heap.size w w1) (hx : GlX w1 w.heap.size B d h') (hB1 : w.heap.size ≤ B) (hB2 : B ≤ w1.heap.size)
    (ho : w2.ownsRow lo 28 7 (.slice A' (k + 1) c') (k + 1) (ys ++ glC d h')) (hg : w1.grownBy w2 (Value.slice A k c).ownBlock)
    (hbk : (Value.slice A' (k + 1) c').ownBlock = (Value.slice A k c).ownBlock ∨ ∃ b, B ≤ b ∧ (Value.slice A' (k + 1) c').ownBlock = some b) :
    GsX w2 lo w2.heap.size A' (k + 1) c' (L ++ [d]) (ys ++ glC d h') (fun j => if j = k then h' else hs j) (fun j => if j = k then (w.heap.size, B) else iv j) := by
  obtain ⟨e1, e2, e3, e4, e5, e6⟩ := h
  have hyl := e2.1
  have hz := hg.size
  refine ⟨by simp [e1], ho, fun g hg' => ?_, fun j g hj => ?_, fun j hj => ?_, fun i j hij hj => ?_⟩
  · refine ⟨(ho.lt g hg').2, fun j hj => ?_⟩
    rcases hbk with hbk | ⟨b, hb1, hb2⟩
    · rw [hbk] at hg'
      obtain ⟨f1, f2⟩ := e3 g hg'
      by_cases hjk : j = k
      · simp only [hjk, if_pos]; exact .inl f1
      · simp only [if_neg hjk]; exact f2 j (by omega)
    · rw [hb2] at hg'
      injection hg' with hg'
      subst hg'
      by_cases hjk : j = k
      · simp only [hjk, if_pos]; exact .inr hb1
      · simp only [if_neg hjk]; have := (e5 j (by omega)).2.2; exact .inr (by omega)
  · by_cases hjk : j = k
    · subst hjk
      rw [List.getElem?_append_right (by omega), e1, Nat.sub_self] at hj
      simp at hj
      subst hj
      simp only [if_pos]
      refine ⟨fun i u hu => ?_, hx.same fun b hb1 hb2 => hg.block b (by omega) fun e => ?_⟩
      · rw [List.getElem?_append_right (by omega), hyl, show j * 7 + i - j * 7 = i by omega]; exact hu
      · have := (e3 b e.symm).1; omega
    · have hjl := (List.getElem?_eq_some_iff.1 hj).1
      simp at hjl
      rw [List.getElem?_append_left (by omega)] at hj
      simp only [if_neg hjk]
      obtain ⟨k1, k2⟩ := e4 j g hj
      refine ⟨fun i u hu => ?_, ?_⟩
      · have := glC_7 hu
        rw [List.getElem?_append_left (by omega)]
        exact k1 i u hu
      · have e5j := e5 j (by omega)
        refine (k2.same (Below.sameB hb e5j.2.2)).same fun b hb1 hb2 => hg.block b (by have := hb.size; omega) fun e => ?_
        rcases (e3 b e.symm).2 j (by omega) with hh | hh <;> omega
  · by_cases hjk : j = k
    · simp only [hjk, if_pos]; exact ⟨hlo, hB1, by omega⟩
    · simp only [if_neg hjk]; have h5j := e5 j (by omega); have := hb.size; exact ⟨h5j.1, by omega, by omega⟩
  · by_cases hjk : j = k
    · simp only [hjk, if_pos]
      rw [if_neg (by omega)]
      exact (e5 i (by omega)).2.2
    · simp only [if_neg hjk]
      rw [if_neg (by omega)]
      exact e6 i j hij (by omega)
theorem GsX.none (w : World) (lo hi c : Nat) (hs : Nat → GlH) (iv : Nat → Nat × Nat) : GsX w lo hi none 0 0 [] [] hs iv :=
  ⟨rfl, World.ownsRow_nil _ _ _ _, fun g hg => by simp [Value.ownBlock] at hg, fun j g hj => by simp at hj, fun j hj => absurd hj (Nat.not_lt_zero j), fun i j _ hj => absurd hj (Nat.not_lt_zero j)⟩
theorem GsX.wide {w : World} {lo hi lo' hi' n c : Nat} {A : Option Addr} {L : List Gl} {ys : List Value} {hs : Nat → GlH} {iv : Nat → Nat × Nat} (h : GsX w lo hi A n c L ys hs iv) (h1 : lo' ≤ lo) (h2 : hi ≤ hi') : GsX w lo' hi' A n c L ys hs iv := by
  obtain ⟨e1, e2, e3, e4, e5, e6⟩ := h
  exact ⟨e1, own_lower e2 h1, fun g hg => ⟨Nat.lt_of_lt_of_le (e3 g hg).1 h2, (e3 g hg).2⟩, e4, fun j hj => ⟨Nat.le_trans h1 (e5 j hj).1, (e5 j hj).2.1, Nat.le_trans (e5 j hj).2.2 h2⟩, e6⟩
end Go.Proofs.YtgdkabljgabjoaaGreatDoor

/- Marks in sets of glyphs of the call's own, exactly, and whether they are held: the walks. Conditions: as each states. -/
namespace Go.Proofs.YtgdkabljgabjoaaGreatDoor
open Go.RowKit
set_option linter.unusedVariables false
set_option maxRecDepth 100000
set_option maxRecDepth 100000

theorem heads_kept7 {ys : List Value} {k j : Nat} {v0 v1 v2 v6 : Value} (hjk : j ≠ k) (i : Nat) (hi : i < 7) : ((((ys.set (k * 7) v0).set (k * 7 + 1) v1).set (k * 7 + 2) v2).set (k * 7 + 6) v6)[j * 7 + i]? = ys[j * 7 + i]? := by
  rw [List.getElem?_set_ne (by omega), List.getElem?_set_ne (by omega), List.getElem?_set_ne (by omega), List.getElem?_set_ne (by omega)]
def mkIf (m : Int) (L : List Gl) (k j : Nat) (g : Gl) : Gl := if j < k then mkGl (m + (((L.map glN).take j).sum : Nat)) g else g
/-- the first k glyphs are marked -/
def GsK (w : World) (n : Nat) (m : Int) (L : List Gl) (k : Nat) (ys : List Value) (hs : Nat → GlH) (iv : Nat → Nat × Nat) : Prop :=
  ∀ (j : Nat) (g : Gl), L[j]? = some g → (∀ i u, (glC (mkIf m L k j g) (hs j))[i]? = some u → ys[j * 7 + i]? = some u) ∧ GlX w (iv j).1 (iv j).2 (mkIf m L k j g) (hs j)
theorem GsK.next {w w' : World} {n : Nat} {m r : Int} {L : List Gl} {k : Nat} {ys : List Value} {hs : Nat → GlH} {iv : Nat → Nat × Nat} (h : GsK w n m L k ys hs iv) (hl : L.length = n) (hyl : ys.length = n * 7) {d : Gl} (hd : L[k]? = some d) (hr : r = m + (((L.map glN).take k).sum : Nat))
    (hsm : ∀ j, j < n → j ≠ k → SameB (iv j).1 (iv j).2 w w') (hx : GlX w' (iv k).1 (iv k).2 (mkGl r d) (hs k)) {v6 : ByteArray} (h6 : v6 = (mkGl r d).hints) :
    GsK w' n m L (k + 1) ((((ys.set (k * 7) (.string (mText r))).set (k * 7 + 1) (.int .i64 (r + 1))).set (k * 7 + 2) (.int .i64 (r + 1 + 1))).set (k * 7 + 6) (.string v6)) hs iv := by
  intro j g hj
  have hjl := (List.getElem?_eq_some_iff.1 hj).1
  by_cases hjk : j = k
  · subst hjk
    have e := Option.some.inj (hd.symm.trans hj)
    subst e
    have em : mkIf m L (j + 1) j d = mkGl r d := by unfold mkIf; rw [if_pos (by omega), hr]
    rw [em]
    refine ⟨fun i u hu => ?_, hx⟩
    have h0 := (h j d hd).1
    have e0 : mkIf m L j j d = d := by unfold mkIf; rw [if_neg (by omega)]
    rw [e0] at h0
    have hi := glC_7 hu
    match i, hi with
    | 0, _ => simp [glC, mkGl] at hu; subst hu; simp [List.getElem?_set]; omega
    | 1, _ => simp [glC, mkGl] at hu; subst hu; simp [List.getElem?_set]; omega
    | 2, _ => simp [glC, mkGl] at hu; subst hu; simp [List.getElem?_set]; constructor <;> omega
    | 3, _ => rw [List.getElem?_set_ne (by omega), List.getElem?_set_ne (by omega), List.getElem?_set_ne (by omega), List.getElem?_set_ne (by omega)]; exact h0 3 u hu
    | 4, _ => rw [List.getElem?_set_ne (by omega), List.getElem?_set_ne (by omega), List.getElem?_set_ne (by omega), List.getElem?_set_ne (by omega)]; exact h0 4 u hu
    | 5, _ => rw [List.getElem?_set_ne (by omega), List.getElem?_set_ne (by omega), List.getElem?_set_ne (by omega), List.getElem?_set_ne (by omega)]; exact h0 5 u hu
    | 6, _ => simp [glC] at hu; subst hu; rw [← h6]; simp [List.getElem?_set]; omega
  · have em : mkIf m L (k + 1) j g = mkIf m L k j g := by
      unfold mkIf
      by_cases hlt : j < k
      · rw [if_pos hlt, if_pos (by omega)]
      · rw [if_neg hlt, if_neg (by omega)]
    rw [em]
    obtain ⟨h1, h2⟩ := h j g hj
    exact ⟨fun i u hu => by rw [heads_kept7 hjk i (glC_7 hu)]; exact h1 i u hu, h2.same (hsm j (by omega) hjk)⟩

end Go.Proofs.YtgdkabljgabjoaaGreatDoor


