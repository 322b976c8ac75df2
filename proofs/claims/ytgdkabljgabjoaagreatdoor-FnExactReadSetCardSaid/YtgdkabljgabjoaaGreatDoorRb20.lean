/- Marks in glyphs and sets of glyphs of the call's own, exactly, and whether they are held. Conditions: as each states. -/
import Derived.StillTailTactics
import Derived.Test.YtgdkabljgabjoaaGreatDoorRb18
import Derived.Test.YtgdkabljgabjoaaGreatDoorRb19
import Derived.Test.YtgdkabljgabjoaaGreatDoorRb06
namespace Go.Proofs.YtgdkabljgabjoaaGreatDoor
open Go.RowKit
set_option linter.unusedVariables false
set_option maxRecDepth 100000

theorem OutIn.wide {w : World} {lo hi lo' hi' n c : Nat} {A : Option Addr} {ys : List Value} {Ls : List (List Knot)} (h : OutIn w lo hi A n c ys Ls) (h1 : lo' ≤ lo) (h2 : hi ≤ hi') : OutIn w lo' hi' A n c ys Ls := by
  obtain ⟨a, b, d, e, f, g⟩ := h
  exact ⟨a, own_lower b h1, fun j K hj => by obtain ⟨Aj, cj, k1, k2⟩ := d j K hj; exact ⟨Aj, cj, k1, own_lower k2 h1⟩, e, fun x hx => Nat.lt_of_lt_of_le (f x hx) h2, fun j v x hv hx => Nat.lt_of_lt_of_le (g j v x hv hx) h2⟩

/-- a glyph of the call's own, its blocks from lo to hi -/
structure GlX (w : World) (lo hi : Nat) (d : Gl) (h : GlH) : Prop where
  o : ∃ ys, OutIn w lo hi h.out.A h.out.n h.out.c ys d.out
  p : w.ownsRow lo 106 3 (.slice h.parts.A h.parts.n h.parts.c) h.parts.n (d.parts.flatMap partC)
  pl : d.parts.length = h.parts.n
  ph : ∀ g, (Value.slice h.parts.A h.parts.n h.parts.c).ownBlock = some g → g < hi
  a : w.ownsRow lo 117 3 (.slice h.anchors.A h.anchors.n h.anchors.c) h.anchors.n (d.anchors.flatMap anchC)
  al : d.anchors.length = h.anchors.n
  ah : ∀ g, (Value.slice h.anchors.A h.anchors.n h.anchors.c).ownBlock = some g → g < hi
  cap : h.anchors.n ≤ h.anchors.c
theorem GlX.same {w w' : World} {lo hi : Nat} {d : Gl} {h : GlH} (r : GlX w lo hi d h) (s : SameB lo hi w w') : GlX w' lo hi d h := by
  obtain ⟨ys, ho⟩ := r.o
  exact ⟨⟨ys, ho.same s⟩, own_same r.p fun g hg => s g (r.p.lt g hg).1 (r.ph g hg), r.pl, r.ph, own_same r.a fun g hg => s g (r.a.lt g hg).1 (r.ah g hg), r.al, r.ah, r.cap⟩
theorem GlX.wide {w : World} {lo hi lo' hi' : Nat} {d : Gl} {h : GlH} (r : GlX w lo hi d h) (h1 : lo' ≤ lo) (h2 : hi ≤ hi') : GlX w lo' hi' d h := by
  obtain ⟨ys, ho⟩ := r.o
  exact ⟨⟨ys, ho.wide h1 h2⟩, own_lower r.p h1, r.pl, fun g hg => Nat.lt_of_lt_of_le (r.ph g hg) h2, own_lower r.a h1, r.al, fun g hg => Nat.lt_of_lt_of_le (r.ah g hg) h2, r.cap⟩
theorem GlX.rd {w : World} {lo hi : Nat} {d : Gl} {h : GlH} (r : GlX w lo hi d h) (hs : OutSm d.out) : GlRd w lo hi d h := by
  obtain ⟨ys, ho⟩ := r.o
  exact ⟨ho.rdIn hs, (rdS_own partC_len (by omega) r.p r.pl).capped fun b off e => r.ph b (by rw [e]; rfl), (rdS_own anchC_len (by omega) r.a r.al).capped fun b off e => r.ah b (by rw [e]; rfl)⟩

/-- a glyph's marks from m on -/
def mkGl (m : Int) (d : Gl) : Gl := ⟨mText m, m + 1, m + 2, mkLs (m + 3) d.out, mkPart (m + 3 + 3 * (kN d.out : Int)) d.parts.length, mkAnchor (m + 3 + 3 * (kN d.out : Int) + 3 * (d.parts.length : Int)) d.anchors.length, mText (m + 3 + 3 * (kN d.out : Int) + 3 * (d.parts.length : Int) + 3 * (d.anchors.length : Int))⟩
def glN (d : Gl) : Nat := 4 + 3 * kN d.out + 3 * d.parts.length + 3 * d.anchors.length
def mkGs (m : Int) : List Gl → List Gl
  | [] => []
  | d :: L => mkGl m d :: mkGs (m + (glN d : Int)) L
def gsN (L : List Gl) : Nat := (L.map glN).sum
theorem mkGs_length (m : Int) (L : List Gl) : (mkGs m L).length = L.length := by
  induction L generalizing m with
  | nil => rfl
  | cons d L ih => simp [mkGs, ih]
theorem mkGs_at (m : Int) {L : List Gl} {j : Nat} {d : Gl} (h : L[j]? = some d) : (mkGs m L)[j]? = some (mkGl (m + (((L.map glN).take j).sum : Nat)) d) := by
  induction L generalizing m j with
  | nil => simp at h
  | cons e L ih =>
    cases j with
    | zero => simp at h; subst h; simp [mkGs]
    | succ j =>
      rw [List.getElem?_cons_succ] at h
      rw [mkGs, List.getElem?_cons_succ, ih _ h]
      simp only [List.map_cons, List.take_succ_cons, List.sum_cons]
      congr 2
      push_cast
      omega
theorem kN_mk (m : Int) (Ls : List (List Knot)) : kN (mkLs m Ls) = kN Ls := by unfold kN; rw [mkLs_lens]
/-- small enough for marks -/
def GlSm (d : Gl) : Prop := d.out.length ≤ 100 ∧ kN d.out ≤ 10000 ∧ d.parts.length ≤ 100 ∧ d.anchors.length ≤ 100
theorem GlSm.outSm {d : Gl} (h : GlSm d) : OutSm d.out := ⟨by have := h.1; omega, by have := h.2.1; omega⟩
theorem GlSm.n {d : Gl} (h : GlSm d) : glN d ≤ 31000 := by
  obtain ⟨h1, h2, h3, h4⟩ := h
  unfold glN; omega
theorem GlSm.mk {d : Gl} (h : GlSm d) (m : Int) : GlSm (mkGl m d) := by
  obtain ⟨h1, h2, h3, h4⟩ := h
  refine ⟨by show (mkLs _ _).length ≤ _; rw [mkLs_length]; exact h1, by show kN (mkLs _ _) ≤ _; rw [kN_mk]; exact h2, by show (mkPart _ _).length ≤ _; rw [mkPart_length]; exact h3, by show (mkAnchor _ _).length ≤ _; rw [mkAnchor_length]; exact h4⟩
theorem gs_sum_le {L : List Gl} (h : ∀ g ∈ L, GlSm g) (k : Nat) : ((L.map glN).take k).sum ≤ 31000 * k := by
  induction L generalizing k with
  | nil => simp
  | cons d L ih =>
    cases k with
    | zero => simp
    | succ k =>
      have a := (h d List.mem_cons_self).n
      have b := ih (fun g hg => h g (List.mem_cons_of_mem _ hg)) k
      simp only [List.map_cons, List.take_succ_cons, List.sum_cons]
      omega

set_option maxHeartbeats 2000000 in
theorem markLoopS_x (A : Option Addr) (n c lo hi : Nat) (ys : List Value) (Ls : List (List Knot)) (m : Int) (w : World) (hr : OutIn w lo hi A n c ys Ls) (hm0 : 0 ≤ m) (hm : m ≤ 10000000) (hn : n ≤ 1048576) (hN : kN Ls ≤ 1048576) :
    Calls Tryz.prog 85 #[.slice A n c, .int .i64 m] w fun e w' => e = .returned (.int .i64 (m + 3 * (kN Ls : Int))) ∧ MarkW knotK lo hi w w' ∧ OutIn w' lo hi A n c ys (mkLs m Ls) := by
  obtain ⟨hll, hrow, hks, hap, hAhi, hyhi⟩ := hr
  have hyl := hrow.1
  replace hll := Lib.hid hll
  replace hks := Lib.hid hks
  replace hap := Lib.hid hap
  replace hAhi := Lib.hid hAhi
  replace hyhi := Lib.hid hyhi
  replace hyl := Lib.hid hyl
  replace hN := Lib.hid hN
  go_enter Tryz.func85, Tryz.ntmps85
  go_wp2_with fail
  go_loopw [1, 5] (fun l i wr => ∃ (k : Nat), i = .int .i64 k ∧ l = .int .i64 (m + 3 * ((((Ls.map List.length).take k).sum : Nat) : Int)) ∧ k ≤ n ∧ wr.ownsRow lo 113 1 (.slice A n c) n ys ∧ MarkW knotK lo hi w wr ∧
    (∀ (j : Nat) (K : List Knot), Ls[j]? = some K → ∃ (Aj : Option Addr) (cj : Nat), ys[j]? = some (.slice Aj K.length cj) ∧ wr.ownsRow lo 152 3 (.slice Aj K.length cj) K.length ((if j < k then mkKnot (m + 3 * ((((Ls.map List.length).take j).sum : Nat) : Int)) K.length else K).flatMap knotC))) (fun l i wr => n - (intOf i).toNat)
  case atStart => exact ⟨0, rfl, by simp, Nat.zero_le _, hrow, MarkW.refl _ _ _ _, fun j K hj => by simpa using hks.out j K hj⟩
  case round =>
    obtain ⟨k, rfl, rfl, hk, ho, hM, hall⟩ := hrel
    replace hall := Lib.hid hall
    by_cases hlt : k < n
    · obtain ⟨K, hja⟩ : ∃ K, Ls[k]? = some K := ⟨_, List.getElem?_eq_getElem (by have := hll.out; omega)⟩
      obtain ⟨Ak, ck, hyk, hok⟩ := hall.out k K hja
      obtain ⟨g, rfl, hB, hgl, hnc, hcell, hfr⟩ := own_at ho (by omega)
      have q0 := hcell k (by omega)
      rw [hyk] at q0
      clear hcell hfr
      have hst := sum_take_succ (map_at (f := List.length) hja)
      have hle := sum_take_le (Ls.map List.length) (k + 1)
      have hNN : (Ls.map List.length).sum ≤ 1048576 := hN.out
      have hKl : K.length ≤ 1048576 := by omega
      have hcall := Lib.hid (markKnotS_any Ak K.length ck lo _ (m + 3 * ((((Ls.map List.length).take k).sum : Nat) : Int)) wr hok (by omega) (by omega) (by omega))
      replace hok := Lib.hid hok
      replace hst := Lib.hid hst
      replace hja := Lib.hid hja
      replace hyk := Lib.hid hyk
      replace hNN := Lib.hid hNN
      replace hle := Lib.hid hle
      replace ho := Lib.hid ho
      replace hM := Lib.hid hM
      go_wp2_with (go_at_call 122; refine hcall.out.mono ?_; rintro e w1 ⟨rfl, hg1, ho1, hz1⟩; replace ho1 := Lib.hid ho1; replace hz1 := Lib.hid hz1)
      go_roundw
      case rel =>
        have hm1 := MarkW.ofOwn hok.out hg1 ho1.out (show knotK 152 from rfl) (fun g' hg' => hyhi.out k _ g' hyk.out hg')
        refine ⟨k + 1, by go_num, ?_, by omega, own_marks ho.out (show ¬ knotK 113 by unfold knotK; decide) hm1, hM.out.trans hm1, fun j K' hj => ?_⟩
        · rw [hst.out]; congr 1; push_cast; omega
        · obtain ⟨Aj, cj, h1, h2⟩ := hall.out j K' hj
          by_cases hjk : j = k
          · subst hjk
            have e1 := Option.some.inj (hj.symm.trans hja.out)
            subst e1
            have e2 := Option.some.inj (h1.symm.trans hyk.out)
            injection e2 with e3 e4 e5
            subst e3 e5
            refine ⟨Aj, cj, h1, ?_⟩
            rw [if_pos (by omega)]
            exact ho1.out
          · refine ⟨Aj, cj, h1, ?_⟩
            simp only [show (j < k + 1) ↔ (j < k) by omega]
            refine own_same h2 fun g' hg' => hg1.block g' (h2.lt g' hg').2 fun e => ?_
            exact hap.out j k _ _ hjk h1 hyk.out g' hg' e.symm
      case measure => simp [intOf]; omega
    · have hkn : k = n := by omega
      have hfin : ((Ls.map List.length).take k).sum = kN Ls := by rw [List.take_of_length_le (by rw [List.length_map, hll.out]; omega)]; rfl
      replace hkn := Lib.hid hkn
      replace ho := Lib.hid ho
      replace hM := Lib.hid hM
      rw [hfin]
      replace hfin := Lib.hid hfin
      have hN' := hN.out
      go_wp2_with fail
      go_ret
      refine ⟨rfl, hM.out, ⟨by rw [mkLs_length]; exact hll.out, ho.out, fun j K hj => ?_, hap.out, hAhi.out, hyhi.out⟩⟩
      have hjl := (List.getElem?_eq_some_iff.1 hj).1
      rw [mkLs_length] at hjl
      have hLj : Ls[j]? = some Ls[j] := List.getElem?_eq_getElem hjl
      rw [mkLs_at m hLj] at hj
      injection hj with hj
      obtain ⟨Aj, cj, h1, h2⟩ := hall.out j _ hLj
      rw [if_pos (by have := hkn.out; have := hll.out; omega)] at h2
      subst hj
      rw [mkKnot_length]
      exact ⟨Aj, cj, h1, h2⟩

/-- a set's glyphs, each in blocks of its own -/
def GsX (w : World) (lo hi : Nat) (A : Option Addr) (n c : Nat) (L : List Gl) (ys : List Value) (hs : Nat → GlH) (iv : Nat → Nat × Nat) : Prop :=
  L.length = n ∧ w.ownsRow lo 28 7 (.slice A n c) n ys ∧ (∀ g, (Value.slice A n c).ownBlock = some g → g < hi ∧ ∀ j, j < n → g < (iv j).1 ∨ (iv j).2 ≤ g) ∧
  (∀ (j : Nat) (g : Gl), L[j]? = some g → (∀ i u, (glC g (hs j))[i]? = some u → ys[j * 7 + i]? = some u) ∧ GlX w (iv j).1 (iv j).2 g (hs j)) ∧
  (∀ j, j < n → lo ≤ (iv j).1 ∧ (iv j).1 ≤ (iv j).2 ∧ (iv j).2 ≤ hi) ∧ (∀ i j, i < j → j < n → (iv i).2 ≤ (iv j).1)
theorem GsX.same {w w' : World} {lo hi n c : Nat} {A : Option Addr} {L : List Gl} {ys : List Value} {hs : Nat → GlH} {iv : Nat → Nat × Nat} (h : GsX w lo hi A n c L ys hs iv) (s : SameB lo hi w w') : GsX w' lo hi A n c L ys hs iv := by
  obtain ⟨h1, h2, h3, h4, h5, h6⟩ := h
  refine ⟨h1, own_same h2 fun g hg => s g (h2.lt g hg).1 (h3 g hg).1, h3, fun j g hj => ?_, h5, h6⟩
  have hjn : j < n := by have := (List.getElem?_eq_some_iff.1 hj).1; omega
  exact ⟨(h4 j g hj).1, (h4 j g hj).2.same (s.mono (h5 j hjn).1 (h5 j hjn).2.2)⟩
theorem glC_7 {g : Gl} {h : GlH} {i : Nat} {u : Value} (hu : (glC g h)[i]? = some u) : i < 7 := by
  rcases Nat.lt_or_ge i 7 with h | h
  · exact h
  · rw [List.getElem?_eq_none (by simp [glC]; omega)] at hu; cases hu
theorem GsX.rdc {w : World} {lo hi n c : Nat} {A : Option Addr} {L : List Gl} {ys : List Value} {hs : Nat → GlH} {iv : Nat → Nat × Nat} (h : GsX w lo hi A n c L ys hs iv) (hm : ∀ g ∈ L, OutSm g.out) : GsRc w lo hi A n L := by
  obtain ⟨h1, h2, h3, h4, h5, h6⟩ := h
  refine ⟨h1, fun hn => ?_⟩
  obtain ⟨g, rfl, hlo, hgl, _, hcell, _⟩ := own_at h2 hn
  refine ⟨g, 0, rfl, hlo, (h3 g rfl).1, fun j d hj => ?_⟩
  have hjn : j < n := by have := (List.getElem?_eq_some_iff.1 hj).1; omega
  obtain ⟨k1, k2⟩ := h4 j d hj
  refine ⟨glC d (hs j), rfl, fun i u hu => ?_, hs j, rfl, (k2.rd (hm d (List.mem_of_getElem? hj))).wide (h5 j hjn).1 (h5 j hjn).2.2, k2.cap⟩
  have hi := glC_7 hu
  have h3 := hcell (j * 7 + i) (by omega)
  rw [k1 i u hu] at h3
  rw [Nat.zero_add]
  exact h3
end Go.Proofs.YtgdkabljgabjoaaGreatDoor

/- Clones of parts and anchors; a set of the call's own with one glyph more. Printed by mk_glc.py. Conditions: as each states. -/
namespace Go.Proofs.YtgdkabljgabjoaaGreatDoor
open Go.RowKit
set_option linter.unusedVariables false
set_option maxRecDepth 100000

theorem part_one (a : Part) : ∀ u ∈ partC a, u.oneCell' = true := by
  intro u hu; simp [partC] at hu; rcases hu with rfl | rfl | rfl <;> rfl
theorem anch_one (a : Anch) : ∀ u ∈ anchC a, u.oneCell' = true := by
  intro u hu; simp [anchC] at hu; rcases hu with rfl | rfl | rfl <;> rfl

/-- an append to a row of the call's own, as one step of a region that draws: the new row's block known -/
theorem stepAppN {P : Program} {w : World} {ops : Array Oper} {o : Oper} {a : Act} {K : Act → World → Prop} {Q : Exit → Act → World → Prop} {E' : Prop} (hgd : o.guard = none) (s x : Operand) {t e : TypeId} {size bytes : Nat} (E : Elem P t e size bytes)
    (ho : o.op = .call { callee := .builtin .append, args := #[s, x], argTypes := #[t, t] })
    {base : Nat} {v : Value} {n : Nat} {xs : List Value} (hs : a.eval s = v) (hown : w.ownsRow base e size v n xs)
    {A : Option Addr} {m c : Nat} {news : List Value} (hx : a.eval x = .slice A m c) (hsrc : Src w size A m news) (h63 : n + m ≤ 1000000000) (hbytes : bytes ≤ 100000) (hbase : base ≤ w.heap.size) (k : Nat) (hk : k = n + m)
    (h : ∀ A' c' w', w'.ownsRow base e size (.slice A' k c') k (xs ++ news) → w.grownBy w' v.ownBlock → ((Value.slice A' k c').ownBlock = v.ownBlock ∨ (Value.slice A' k c').ownBlock = some w.heap.size) → K (a.put o.dst (.slice A' k c')) w') :
    if Region.wanted o (yielded ops a.tmps) = true then Oper.wp P o a w K Q else E' := by
  have hw : Region.wanted o (yielded ops a.tmps) = true := by simp [Region.wanted, hgd]
  rw [if_pos hw]
  obtain ⟨v', w', hr, h2, h3, h4⟩ := run_app (P := P) E o.type hown (c := c) hsrc h63 hbytes hbase
  obtain ⟨A', c', rfl⟩ := own_form h2
  unfold Oper.wp execOp
  simp only [ho, resolve, invoke, builtin, Sem.run_bind, Sem.run_pure, Result.andThen_ok, List.map_toArray, List.map_cons, List.map_nil, hs, hx, hr]
  subst hk
  exact h A' c' w' h2 h3 h4

theorem glC_len (d : Gl) (h : GlH) : (glC d h).length = 7 := rfl
/-- a row of the call's own has no more elements than room -/
theorem own_nc {w : World} {lo e size n c : Nat} {A : Option Addr} {xs : List Value} (h : w.ownsRow lo e size (.slice A n c) n xs) : n ≤ c := by
  rcases Nat.eq_zero_or_pos n with h0 | h0
  · omega
  · obtain ⟨g, _, _, _, hnc, _, _⟩ := own_at h h0
    exact hnc
theorem GsX.next {w w1 w2 : World} {lo k c c' B : Nat} {A A' : Option Addr} {L : List Gl} {ys : List Value} {hs : Nat → GlH} {iv : Nat → Nat × Nat} {d : Gl} {h' : GlH} (h : GsX w lo w.heap.size A k c L ys hs iv) (hlo : lo ≤ w.heap.size) (hb : Below w.heap.size w w1) (hx : GlX w1 w.heap.size B d h') (hB1 : w.heap.size ≤ B) (hB2 : B ≤ w1.heap.size)
    (ho : w2.ownsRow lo 28 7 (.slice A' (k + 1) c') (k + 1) (ys ++ glC d h')) (hg : w1.grownBy w2 (Value.slice A k c).ownBlock)
    (hbk : (Value.slice A' (k + 1) c').ownBlock = (Value.slice A k c).ownBlock ∨ ∃ b, B ≤ b ∧ (Value.slice A' (k + 1) c').ownBlock = some b) :
    GsX w2 lo w2.heap.size A' (k + 1) c' (L ++ [d]) (ys ++ glC d h') (fun j => if j = k then h' else hs j) (fun j => if j = k then (w.heap.size, B) else iv j) := by
  obtain ⟨e1, e2, e3, e4, e5, e6⟩ := h
  have hyl := e2.1
  have hz := hg.size
  refine ⟨by simp [e1], ho, fun g hg' => ?_, fun j g hj => ?_, fun j hj => ?_, fun i j hij hj => ?_⟩
  · refine ⟨(ho.lt g hg').2, fun j hj => ?_⟩
    rcases hbk with hbk | ⟨b, hb1, hb2⟩
    · rw [hbk] at hg'
      obtain ⟨f1, f2⟩ := e3 g hg'
      by_cases hjk : j = k
      · simp only [hjk, if_pos]; exact .inl f1
      · simp only [if_neg hjk]; exact f2 j (by omega)
    · rw [hb2] at hg'
      injection hg' with hg'
      subst hg'
      by_cases hjk : j = k
      · simp only [hjk, if_pos]; exact .inr hb1
      · simp only [if_neg hjk]; have := (e5 j (by omega)).2.2; exact .inr (by omega)
  · by_cases hjk : j = k
    · subst hjk
      rw [List.getElem?_append_right (by omega), e1, Nat.sub_self] at hj
      simp at hj
      subst hj
      simp only [if_pos]
      refine ⟨fun i u hu => ?_, hx.same fun b hb1 hb2 => hg.block b (by omega) fun e => ?_⟩
      · rw [List.getElem?_append_right (by omega), hyl, show j * 7 + i - j * 7 = i by omega]; exact hu
      · have := (e3 b e.symm).1; omega
    · have hjl := (List.getElem?_eq_some_iff.1 hj).1
      simp at hjl
      rw [List.getElem?_append_left (by omega)] at hj
      simp only [if_neg hjk]
      obtain ⟨k1, k2⟩ := e4 j g hj
      refine ⟨fun i u hu => ?_, ?_⟩
      · have := glC_7 hu
        rw [List.getElem?_append_left (by omega)]
        exact k1 i u hu
      · have e5j := e5 j (by omega)
        refine (k2.same (Below.sameB hb e5j.2.2)).same fun b hb1 hb2 => hg.block b (by have := hb.size; omega) fun e => ?_
        rcases (e3 b e.symm).2 j (by omega) with hh | hh <;> omega
  · by_cases hjk : j = k
    · simp only [hjk, if_pos]; exact ⟨hlo, hB1, by omega⟩
    · simp only [if_neg hjk]; have h5j := e5 j (by omega); have := hb.size; exact ⟨h5j.1, by omega, by omega⟩
  · by_cases hjk : j = k
    · simp only [hjk, if_pos]
      rw [if_neg (by omega)]
      exact (e5 i (by omega)).2.2
    · simp only [if_neg hjk]
      rw [if_neg (by omega)]
      exact e6 i j hij (by omega)
theorem GsX.none (w : World) (lo hi c : Nat) (hs : Nat → GlH) (iv : Nat → Nat × Nat) : GsX w lo hi none 0 0 [] [] hs iv :=
  ⟨rfl, World.ownsRow_nil _ _ _ _, fun g hg => by simp [Value.ownBlock] at hg, fun j g hj => by simp at hj, fun j hj => absurd hj (Nat.not_lt_zero j), fun i j _ hj => absurd hj (Nat.not_lt_zero j)⟩
theorem GsX.wide {w : World} {lo hi lo' hi' n c : Nat} {A : Option Addr} {L : List Gl} {ys : List Value} {hs : Nat → GlH} {iv : Nat → Nat × Nat} (h : GsX w lo hi A n c L ys hs iv) (h1 : lo' ≤ lo) (h2 : hi ≤ hi') : GsX w lo' hi' A n c L ys hs iv := by
  obtain ⟨e1, e2, e3, e4, e5, e6⟩ := h
  exact ⟨e1, own_lower e2 h1, fun g hg => ⟨Nat.lt_of_lt_of_le (e3 g hg).1 h2, (e3 g hg).2⟩, e4, fun j hj => ⟨Nat.le_trans h1 (e5 j hj).1, (e5 j hj).2.1, Nat.le_trans (e5 j hj).2.2 h2⟩, e6⟩
end Go.Proofs.YtgdkabljgabjoaaGreatDoor

/- Marks in sets of glyphs of the call's own, exactly, and whether they are held: the walks. Conditions: as each states. -/
namespace Go.Proofs.YtgdkabljgabjoaaGreatDoor
open Go.RowKit
set_option linter.unusedVariables false
set_option maxRecDepth 100000

theorem heads_kept7 {ys : List Value} {k j : Nat} {v0 v1 v2 v6 : Value} (hjk : j ≠ k) (i : Nat) (hi : i < 7) : ((((ys.set (k * 7) v0).set (k * 7 + 1) v1).set (k * 7 + 2) v2).set (k * 7 + 6) v6)[j * 7 + i]? = ys[j * 7 + i]? := by
  rw [List.getElem?_set_ne (by omega), List.getElem?_set_ne (by omega), List.getElem?_set_ne (by omega), List.getElem?_set_ne (by omega)]
def mkIf (m : Int) (L : List Gl) (k j : Nat) (g : Gl) : Gl := if j < k then mkGl (m + (((L.map glN).take j).sum : Nat)) g else g
/-- the first k glyphs are marked -/
def GsK (w : World) (n : Nat) (m : Int) (L : List Gl) (k : Nat) (ys : List Value) (hs : Nat → GlH) (iv : Nat → Nat × Nat) : Prop :=
  ∀ (j : Nat) (g : Gl), L[j]? = some g → (∀ i u, (glC (mkIf m L k j g) (hs j))[i]? = some u → ys[j * 7 + i]? = some u) ∧ GlX w (iv j).1 (iv j).2 (mkIf m L k j g) (hs j)
theorem GsK.next {w w' : World} {n : Nat} {m r : Int} {L : List Gl} {k : Nat} {ys : List Value} {hs : Nat → GlH} {iv : Nat → Nat × Nat} (h : GsK w n m L k ys hs iv) (hl : L.length = n) (hyl : ys.length = n * 7) {d : Gl} (hd : L[k]? = some d) (hr : r = m + (((L.map glN).take k).sum : Nat))
    (hsm : ∀ j, j < n → j ≠ k → SameB (iv j).1 (iv j).2 w w') (hx : GlX w' (iv k).1 (iv k).2 (mkGl r d) (hs k)) {v6 : ByteArray} (h6 : v6 = (mkGl r d).hints) :
    GsK w' n m L (k + 1) ((((ys.set (k * 7) (.string (mText r))).set (k * 7 + 1) (.int .i64 (r + 1))).set (k * 7 + 2) (.int .i64 (r + 1 + 1))).set (k * 7 + 6) (.string v6)) hs iv := by
  intro j g hj
  have hjl := (List.getElem?_eq_some_iff.1 hj).1
  by_cases hjk : j = k
  · subst hjk
    have e := Option.some.inj (hd.symm.trans hj)
    subst e
    have em : mkIf m L (j + 1) j d = mkGl r d := by unfold mkIf; rw [if_pos (by omega), hr]
    rw [em]
    refine ⟨fun i u hu => ?_, hx⟩
    have h0 := (h j d hd).1
    have e0 : mkIf m L j j d = d := by unfold mkIf; rw [if_neg (by omega)]
    rw [e0] at h0
    have hi := glC_7 hu
    match i, hi with
    | 0, _ => simp [glC, mkGl] at hu; subst hu; simp [List.getElem?_set]; omega
    | 1, _ => simp [glC, mkGl] at hu; subst hu; simp [List.getElem?_set]; omega
    | 2, _ => simp [glC, mkGl] at hu; subst hu; simp [List.getElem?_set]; constructor <;> omega
    | 3, _ => rw [List.getElem?_set_ne (by omega), List.getElem?_set_ne (by omega), List.getElem?_set_ne (by omega), List.getElem?_set_ne (by omega)]; exact h0 3 u hu
    | 4, _ => rw [List.getElem?_set_ne (by omega), List.getElem?_set_ne (by omega), List.getElem?_set_ne (by omega), List.getElem?_set_ne (by omega)]; exact h0 4 u hu
    | 5, _ => rw [List.getElem?_set_ne (by omega), List.getElem?_set_ne (by omega), List.getElem?_set_ne (by omega), List.getElem?_set_ne (by omega)]; exact h0 5 u hu
    | 6, _ => simp [glC] at hu; subst hu; rw [← h6]; simp [List.getElem?_set]; omega
  · have em : mkIf m L (k + 1) j g = mkIf m L k j g := by
      unfold mkIf
      by_cases hlt : j < k
      · rw [if_pos hlt, if_pos (by omega)]
      · rw [if_neg hlt, if_neg (by omega)]
    rw [em]
    obtain ⟨h1, h2⟩ := h j g hj
    exact ⟨fun i u hu => by rw [heads_kept7 hjk i (glC_7 hu)]; exact h1 i u hu, h2.same (hsm j (by omega) hjk)⟩

theorem OutIn.marksX {P : TypeId → Prop} {w w' : World} {lo hi lo' hi' n c : Nat} {A : Option Addr} {ys : List Value} {Ls : List (List Knot)} (h : OutIn w lo hi A n c ys Ls) (h1 : ¬ P 113) (h2 : ¬ P 152) (hm : MarkW P lo' hi' w w') : OutIn w' lo hi A n c ys Ls := by
  obtain ⟨a, b, d, e, f, g⟩ := h
  exact ⟨a, own_marks b h1 hm, fun j K hj => by obtain ⟨Aj, cj, k1, k2⟩ := d j K hj; exact ⟨Aj, cj, k1, own_marks k2 h2 hm⟩, e, f, g⟩

set_option maxHeartbeats 8000000 in
theorem markGlyphS_x (A : Option Addr) (n c lo hi : Nat) (L : List Gl) (ys0 : List Value) (hs : Nat → GlH) (iv : Nat → Nat × Nat) (m : Int) (w : World) (hr : GsX w lo hi A n c L ys0 hs iv) (hL : ∀ g ∈ L, GlSm g) (hn : n ≤ 100) (hhi : hi ≤ w.heap.size) (hm0 : 0 ≤ m) (hm : m ≤ 100) :
    Calls Tryz.prog 50 #[.slice A n c, .int .i64 m] w fun e w' => e = .returned (.int .i64 (m + (gsN L : Int))) ∧ MarkW notL lo hi w w' ∧ ∃ ys, GsX w' lo hi A n c (mkGs m L) ys hs iv := by
  obtain ⟨hll, hrow, hg0, hx0, hiv, hiv2⟩ := hr
  have hyl := hrow.1
  replace hyl := Lib.hid hyl
  replace hll := Lib.hid hll
  replace hg0 := Lib.hid hg0
  replace hiv := Lib.hid hiv
  replace hiv2 := Lib.hid hiv2
  replace hL := Lib.hid hL
  go_enter Tryz.func50, Tryz.ntmps50
  go_wp2_with fail
  go_loopw [1, 5] (fun l i wr => ∃ (k : Nat) (r : Int) (ys : List Value), i = .int .i64 k ∧ l = .int .i64 r ∧ k ≤ n ∧ r = m + (((L.map glN).take k).sum : Nat) ∧ MarkW notL lo hi w wr ∧ wr.ownsRow lo 28 7 (.slice A n c) n ys ∧ GsK wr n m L k ys hs iv) (fun l i wr => n - (intOf i).toNat)
  case atStart => exact ⟨0, m, ys0, rfl, rfl, Nat.zero_le _, by simp, MarkW.refl _ _ _ _, hrow, fun j g hj => by
    have e0 : mkIf m L 0 j g = g := by unfold mkIf; rw [if_neg (by omega)]
    rw [e0]; exact hx0 j g hj⟩
  case round =>
    obtain ⟨k, r, ys, rfl, rfl, hk, hrk, hM, ho, hK⟩ := hrel
    clear hrow hx0
    have hrb := gs_sum_le hL.out k
    by_cases hlt : k < n
    · obtain ⟨d, hd⟩ : ∃ d, L[k]? = some d := ⟨_, List.getElem?_eq_getElem (by have := hll.out; omega)⟩
      obtain ⟨hys, hX⟩ := hK k d hd
      have e0 : mkIf m L k k d = d := by unfold mkIf; rw [if_neg (by omega)]
      rw [e0] at hys hX
      have e3 := Lib.hid (hys 3 _ rfl)
      have e4 := Lib.hid (hys 4 _ rfl)
      have e5 := Lib.hid (hys 5 _ rfl)
      obtain ⟨k1, k2, k3, k4⟩ := hL.out d (List.mem_of_getElem? hd)
      obtain ⟨z, hz⟩ : ∃ z, z = hs k := ⟨_, rfl⟩
      rw [← hz] at e3 e4 e5 hX
      obtain ⟨I1, hI1⟩ : ∃ z, z = (iv k).1 := ⟨_, rfl⟩
      obtain ⟨I2, hI2⟩ : ∃ z, z = (iv k).2 := ⟨_, rfl⟩
      rw [← hI1, ← hI2] at hX
      obtain ⟨b1, b2, b3⟩ := hiv.out k hlt
      rw [← hI1] at b1 b2
      rw [← hI2] at b2 b3
      obtain ⟨g, rfl, hB, hgl, hnc, _, _⟩ := own_at ho (by omega)
      obtain ⟨hgh, hgn⟩ := hg0.out g rfl
      have hdis := Lib.hid (fun j (hj : j < n) (hjk : j ≠ k) => (show (iv j).2 ≤ I1 ∨ I2 ≤ (iv j).1 by
        rcases Nat.lt_or_gt_of_ne hjk with h | h
        · left; rw [hI1]; exact hiv2.out j k h hlt
        · right; rw [hI2]; exact hiv2.out k j h hj))
      have hgk := hgn k hlt
      rw [← hI1, ← hI2] at hgk
      replace hgn := Lib.hid hgn
      obtain ⟨yo, hO⟩ := hX.o
      have hpl := hX.pl
      have hal := hX.al
      have hol := hO.1
      have hKr := Lib.hid hK
      clear hK hys
      replace hX := Lib.hid hX
      replace hO := Lib.hid hO
      replace ho := Lib.hid ho
      have hM' := Lib.hid hM
      replace hz := Lib.hid hz
      replace hI1 := Lib.hid hI1
      replace hI2 := Lib.hid hI2
      replace hd := Lib.hid hd
      clear hM e0
      have hkk : (k : Int) < n := by omega
      replace hrk := Lib.hid hrk
      have hr0 : 0 ≤ r ∧ r ≤ 4000000 := by have := hrk.out; omega
      clear hrb
      go_wp2_with fail
      refine (markText_any _ _ (by omega) (by omega)).mono ?_
      rintro e w1 ⟨rfl, hb1⟩
      have ho1 := own_below ho.out hb1
      have hz1 := hb1.size
      obtain ⟨g', hg', _, hgl1, _, hcell, hfr⟩ := own_at ho1 (by omega)
      injection hg' with hg'
      injection hg' with hg'
      subst hg'
      have hl := ho1.1
      have c0 := hcell (k * 7) (by omega)
      have c1 := hcell (k * 7 + 1) (by omega)
      have c2 := hcell (k * 7 + 2) (by omega)
      have c3 := hcell (k * 7 + 3) (by omega)
      rw [e3.out] at c3
      rw [List.getElem?_eq_getElem (by omega)] at c0 c1 c2
      have f0 := hfr (k * 7)
      have f1 := hfr (k * 7 + 1)
      have f2 := hfr (k * 7 + 2)
      have s0 := ho1.stored (k * 7) (.string (mText r))
      have s1 := s0.1.stored (k * 7 + 1) (.int .i64 (r + 1))
      have s2 := s1.1.stored (k * 7 + 2) (.int .i64 (r + 1 + 1))
      have hM2 := Lib.hid ((((hM'.out.trans (MarkW.ofBelow hb1)).trans (MarkW.ofOwn ho1 s0.2 s0.1 notL_glyph fun g hg => (hg0.out g hg).1)).trans (MarkW.ofOwn s0.1 s1.2 s1.1 notL_glyph fun g hg => (hg0.out g hg).1)).trans (MarkW.ofOwn s1.1 s2.2 s2.1 notL_glyph fun g hg => (hg0.out g hg).1))
      have hwr := ho.out.lt g rfl
      have hhr : hi ≤ wr.heap.size := Nat.le_trans hhi hM'.out.size
      have hS2 := Lib.hid (fun (j : Nat) (hj : j < n) => (SameB.setCell (SameB.setCell (SameB.setCell (Below.sameB (lo := (iv j).1) hb1 (Nat.le_trans (hiv.out j hj).2.2 hhr)) (p := ⟨g, k * 7, none⟩) (hgn.out j hj) (.string (mText r))) (p := ⟨g, k * 7 + 1, none⟩) (hgn.out j hj) (.int .i64 (r + 1))) (p := ⟨g, k * 7 + 2, none⟩) (hgn.out j hj) (.int .i64 (r + 1 + 1))))
      generalize ys[k * 7]'(by omega) = v0 at c0
      generalize ys[k * 7 + 1]'(by omega) = v1 at c1
      generalize ys[k * 7 + 2]'(by omega) = v2 at c2
      have ho2 := Lib.hid s2.1
      have hX2 := hX.out.same (by rw [hI1.out, hI2.out]; exact hS2.out k hlt)
      obtain ⟨yo2, hO2⟩ := hX2.o
      have hP2 := Lib.hid hX2.p
      have hA2 := Lib.hid hX2.a
      have hcall := Lib.hid (markLoopS_x z.out.A z.out.n z.out.c I1 I2 yo2 d.out (r + 1 + 1 + 1) _ hO2 (by omega) (by omega) (by omega) (by omega))
      clear hcell hfr hb1 ho hM' s0 s1 s2 ho1 hX2 hO2
      replace hl := Lib.hid hl
      go_wp2_with fail
      refine hcall.out.mono ?_
      clear hcall
      rintro e w3 ⟨rfl, hm3, hO3⟩
      have ho3 := own_marks ho2.out (show ¬ knotK 28 by unfold knotK; decide) hm3
      have hM3 := Lib.hid (hM2.out.trans (hm3.mono b1 b3 knot_notL))
      have hS3 := Lib.hid (fun (j : Nat) (hj : j < n) (hjk : j ≠ k) => (hS2.out j hj).trans (hm3.sameB (hdis.out j hj hjk) (by have := hm3.size; have := (hiv.out j hj).2.2; simp; omega)))
      have hl3 := ho3.1
      have c4 : w3.cell? ⟨g, k * 7 + 4, none⟩ = some (.slice z.parts.A z.parts.n z.parts.c) := (own_cell ho3 (k * 7 + 4) (by omega)).trans (by rw [List.getElem?_set_ne (by omega), List.getElem?_set_ne (by omega), List.getElem?_set_ne (by omega)]; exact e4.out)
      have hxp := own_marks hP2.out (show ¬ knotK 106 by unfold knotK; decide) hm3
      replace hA2 := Lib.hid (own_marks hA2.out (show ¬ knotK 117 by unfold knotK; decide) hm3)
      replace hO3 := Lib.hid hO3
      have hcall := Lib.hid (markPartS_any z.parts.A z.parts.n z.parts.c I1 _ (r + 1 + 1 + 1 + 3 * (kN d.out : Int)) w3 hxp (by omega) (by omega) (by omega))
      replace hxp := Lib.hid hxp
      replace ho3 := Lib.hid ho3
      have hz3 := hm3.size
      simp at hz3
      clear hm3 ho2 hM2 c0 c1 c2 c3 f0 f1 f2 hS2 hP2
      go_wp2_with fail
      refine hcall.out.mono ?_
      clear hcall
      rintro e w4 ⟨rfl, hg4, hp4, hz4⟩
      have hm4 := MarkW.ofOwn hxp.out hg4 hp4 (show partK 106 from rfl) hX.out.ph
      have ho4 := own_marks ho3.out (show ¬ partK 28 by unfold partK; decide) hm4
      have hM4 := Lib.hid (hM3.out.trans (hm4.mono b1 b3 part_notL))
      have hS4 := Lib.hid (fun (j : Nat) (hj : j < n) (hjk : j ≠ k) => (hS3.out j hj hjk).trans (hm4.sameB (hdis.out j hj hjk) (by have := (hiv.out j hj).2.2; omega)))
      have hO4 := Lib.hid (hO3.out.marksX (show ¬ partK 113 by unfold partK; decide) (show ¬ partK 152 by unfold partK; decide) hm4)
      have c5 : w4.cell? ⟨g, k * 7 + 5, none⟩ = some (.slice z.anchors.A z.anchors.n z.anchors.c) := (own_cell ho4 (k * 7 + 5) (by omega)).trans (by rw [List.getElem?_set_ne (by omega), List.getElem?_set_ne (by omega), List.getElem?_set_ne (by omega)]; exact e5.out)
      have hxa := own_marks hA2.out (show ¬ partK 117 by unfold partK; decide) hm4
      have hcall := Lib.hid (markAnchorS_any z.anchors.A z.anchors.n z.anchors.c I1 _ (r + 1 + 1 + 1 + 3 * (kN d.out : Int) + 3 * (z.parts.n : Int)) w4 hxa (by omega) (by omega) (by omega))
      replace hxa := Lib.hid hxa
      replace ho4 := Lib.hid ho4
      replace hp4 := Lib.hid hp4
      clear hm4 ho3 hM3 c4 hg4 hxp hS3 hO3 hA2
      go_wp2_with fail
      refine hcall.out.mono ?_
      clear hcall
      rintro e w5 ⟨rfl, hg5, hp5, hz5⟩
      have hm5 := MarkW.ofOwn hxa.out hg5 hp5 (show anchK 117 from rfl) hX.out.ah
      have ho5 := own_marks ho4.out (show ¬ anchK 28 by unfold anchK; decide) hm5
      have hM5 := Lib.hid (hM4.out.trans (hm5.mono b1 b3 anch_notL))
      have hS5 := Lib.hid (fun (j : Nat) (hj : j < n) (hjk : j ≠ k) => (hS4.out j hj hjk).trans (hm5.sameB (hdis.out j hj hjk) (by have := (hiv.out j hj).2.2; omega)))
      have hO5 := Lib.hid (hO4.out.marksX (show ¬ anchK 113 by unfold anchK; decide) (show ¬ anchK 152 by unfold anchK; decide) hm5)
      have hP5 := Lib.hid (own_marks hp4.out (show ¬ anchK 106 by unfold anchK; decide) hm5)
      replace ho5 := Lib.hid ho5
      replace hp5 := Lib.hid hp5
      clear hm5 ho4 hM4 c5 hg5 hxa hS4 hO4 hp4
      go_wp2_with fail
      refine (markText_any _ _ (by omega) (by omega)).mono ?_
      rintro e w6 ⟨rfl, hb6⟩
      have ho6 := own_below ho5.out hb6
      obtain ⟨g', hg', _, hgl6, _, hcell, hfr⟩ := own_at ho6 (by omega)
      injection hg' with hg'
      injection hg' with hg'
      subst hg'
      have hl6 := ho6.1
      have c6 := hcell (k * 7 + 6) (by omega)
      rw [List.getElem?_eq_getElem (by omega)] at c6
      have f6 := hfr (k * 7 + 6)
      have s6 := ho6.stored (k * 7 + 6) (.string (mText (r + 1 + 1 + 1 + 3 * (kN d.out : Int) + 3 * (z.parts.n : Int) + 3 * (z.anchors.n : Int))))
      have hM6 := Lib.hid ((hM5.out.trans (MarkW.ofBelow hb6)).trans (MarkW.ofOwn ho6 s6.2 s6.1 notL_glyph fun g hg => (hg0.out g hg).1))
      have h56 : ∀ a b : Nat, b ≤ hi → (g < a ∨ b ≤ g) → SameB a b w5 (w6.setCell ⟨g, k * 7 + 6, none⟩ (.string (mText (r + 1 + 1 + 1 + 3 * (kN d.out : Int) + 3 * (z.parts.n : Int) + 3 * (z.anchors.n : Int))))) := fun a b hb hd => SameB.setCell (Below.sameB hb6 (by omega)) (p := ⟨g, k * 7 + 6, none⟩) hd _
      have hS6 := Lib.hid (fun (j : Nat) (hj : j < n) (hjk : j ≠ k) => (hS5.out j hj hjk).trans (h56 _ _ (hiv.out j hj).2.2 (hgn.out j hj)))
      have hX5 : GlX w5 I1 I2 (mkGl r d) z := ⟨⟨_, by have := hO5.out; rw [show r + 1 + 1 + 1 = r + 3 by omega] at this; exact this⟩, by have := hP5.out; rw [← hpl] at this; rw [show r + 1 + 1 + 1 + 3 * (kN d.out : Int) = r + 3 + 3 * (kN d.out : Int) by omega] at this; rw [← hpl]; exact this, by show (mkPart _ _).length = _; rw [mkPart_length]; exact hpl, hX.out.ph, by have := hp5.out; rw [← hal, ← hpl] at this; rw [show r + 1 + 1 + 1 + 3 * (kN d.out : Int) + 3 * (d.parts.length : Int) = r + 3 + 3 * (kN d.out : Int) + 3 * (d.parts.length : Int) by omega] at this; rw [← hal]; exact this, by show (mkAnchor _ _).length = _; rw [mkAnchor_length]; exact hal, hX.out.ah, hX.out.cap⟩
      have hX6 := Lib.hid (hX5.same (h56 _ _ b3 hgk))
      replace s6 := Lib.hid s6
      generalize ((((ys.set (k * 7) (Value.string (mText r))).set (k * 7 + 1) (.int .i64 (r + 1))).set (k * 7 + 2) (.int .i64 (r + 1 + 1))))[k * 7 + 6]'(by omega) = v6 at c6
      replace hl6 := Lib.hid hl6
      clear hcell hfr hb6 ho5 hM5 ho6 hX5 h56 hS5 hO5 hP5 hp5
      go_wp2_with fail
      go_roundw
      case rel =>
        have hyl' : ys.length = n * 7 := by have := hl.out; omega
        have hst := sum_take_succ (map_at (f := glN) hd.out)
        refine ⟨k + 1, _, _, by go_num, rfl, by omega, ?_, hM6.out, s6.out.1, hKr.out.next hll.out hyl' hd.out hrk.out hS6.out (by rw [← hI1.out, ← hI2.out, ← hz.out]; exact hX6.out) (v6 := _) ?_⟩
        · rw [hst, hrk.out]; unfold glN; push_cast; omega
        · show mText _ = mText _
          congr 1
          omega
      case measure => simp [intOf]; omega
    · have hkn : k = n := by omega
      have hfin : ((L.map glN).take k).sum = gsN L := by rw [List.take_of_length_le (by rw [List.length_map, hll.out]; omega)]; rfl
      have hM' := Lib.hid hM
      have hK' := Lib.hid hK
      rw [hfin] at hrk
      replace ho := Lib.hid ho
      replace hrk := Lib.hid hrk
      replace hkn := Lib.hid hkn
      clear hM hK
      go_wp2_with fail
      go_ret
      refine ⟨by rw [hrk.out]; rfl, hM'.out, ys, by rw [mkGs_length]; exact hll.out, ho.out, hg0.out, fun j g hj => ?_, hiv.out, hiv2.out⟩
      have hjl := (List.getElem?_eq_some_iff.1 hj).1
      rw [mkGs_length] at hjl
      have hLj : L[j]? = some L[j] := List.getElem?_eq_getElem hjl
      rw [mkGs_at m hLj] at hj
      injection hj with hj
      obtain ⟨h1, h2⟩ := hK'.out j _ hLj
      have em : mkIf m L k j L[j] = g := by unfold mkIf; rw [if_pos (by have := hkn.out; have := hll.out; omega)]; exact hj
      rw [em] at h1 h2
      exact ⟨h1, h2⟩
end Go.Proofs.YtgdkabljgabjoaaGreatDoor


