/- A drawn set of glyphs: spec.l17Draw, spec.A2Set. Conditions: as each states. -/
import Derived.Test.YtgdkabljgabjoaaGreatDoorGw40
import Derived.Test.YtgdkabljgabjoaaGreatDoorGw41
import Derived.Test.YtgdkabljgabjoaaGreatDoorGw11
import Derived.Test.YtgdkabljgabjoaaGreatDoorGw05
namespace Go.Proofs.YtgdkabljgabjoaaGreatDoor
open Go.RowKit
set_option linter.unusedVariables false
set_option maxRecDepth 100000
set_option maxRecDepth 100000

theorem DrOk.outSm {d : Gl} (h : DrOk d) : OutSm d.out := by
  have h1 := h.ol
  have h2 := h.ok
  refine ⟨by omega, ?_⟩
  have : ∀ (L : List (List Knot)), (∀ K ∈ L, K.length ≤ 9) → kN L ≤ 9 * L.length := fun L hL => by
    induction L with
    | nil => simp [kN]
    | cons K L ih =>
      have e1 := hL K (List.mem_cons_self ..)
      have e2 := ih fun K' hK' => hL K' (List.mem_cons_of_mem _ hK')
      simp [kN] at e2 ⊢
      omega
  have := this d.out h2
  omega
theorem DrOk.small {d : Gl} (h : DrOk d) : d.small 1000000000 := by
  have h1 := h.ol
  have h2 := h.ok
  have h3 := h.pl
  have h4 := h.al
  exact ⟨by omega, fun K hK => by have := h2 K hK; omega, by omega, by omega⟩
theorem DrOk.str {d : Gl} (h : DrOk d) : d.str := ⟨by have := h.nm; simp only [maxLen]; omega, by have := h.hl; simp only [maxLen]; omega, fun a ha => by have := h.as' a ha; simp only [maxLen]; omega⟩
theorem GsX.nextS {w w1 w2 : World} {lo k c c' B : Nat} {A A' : Option Addr} {L : List Gl} {ys : List Value} {hs : Nat → GlH} {iv : Nat → Nat × Nat} {d : Gl} {h' : GlH} (h : GsX w lo w.heap.size A k c L ys hs iv) (hlo : lo ≤ w.heap.size) (hb : SameB lo w.heap.size w w1) (hbz : w.heap.size ≤ w1.heap.size) (hx : GlX w1 w.heap.size B d h') (hB1 : w.heap.size ≤ B) (hB2 : B ≤ w1.heap.size)
    (ho : w2.ownsRow lo 28 7 (.slice A' (k + 1) c') (k + 1) (ys ++ glC d h')) (hg : w1.grownBy w2 (Value.slice A k c).ownBlock)
    (hbk : (Value.slice A' (k + 1) c').ownBlock = (Value.slice A k c).ownBlock ∨ ∃ b, B ≤ b ∧ (Value.slice A' (k + 1) c').ownBlock = some b) :
    GsX w2 lo w2.heap.size A' (k + 1) c' (L ++ [d]) (ys ++ glC d h') (fun j => if j = k then h' else hs j) (fun j => if j = k then (w.heap.size, B) else iv j) := by
  obtain ⟨e1, e2, e3, e4, e5, e6⟩ := h
  have hyl := e2.1
  have hz := hg.size
  refine ⟨by simp [e1], ho, fun g hg' => ?_, fun j g hj => ?_, fun j hj => ?_, fun i j hij hj => ?_⟩
  · refine ⟨(ho.lt g hg').2, fun j hj => ?_⟩
    rcases hbk with hbk | ⟨b, hb1, hb2⟩
    · rw [hbk] at hg'
      obtain ⟨f1, f2⟩ := e3 g hg'
      by_cases hjk : j = k
      · simp only [hjk, if_pos]; exact .inl f1
      · simp only [if_neg hjk]; exact f2 j (by omega)
    · rw [hb2] at hg'
      injection hg' with hg'
      subst hg'
      by_cases hjk : j = k
      · simp only [hjk, if_pos]; exact .inr hb1
      · simp only [if_neg hjk]; have := (e5 j (by omega)).2.2; exact .inr (by omega)
  · by_cases hjk : j = k
    · subst hjk
      rw [List.getElem?_append_right (by omega), e1, Nat.sub_self] at hj
      simp at hj
      subst hj
      simp only [if_pos]
      refine ⟨fun i u hu => ?_, hx.same fun b hb1 hb2 => hg.block b (by omega) fun e => ?_⟩
      · rw [List.getElem?_append_right (by omega), hyl, show j * 7 + i - j * 7 = i by omega]; exact hu
      · have := (e3 b e.symm).1; omega
    · have hjl := (List.getElem?_eq_some_iff.1 hj).1
      simp at hjl
      rw [List.getElem?_append_left (by omega)] at hj
      simp only [if_neg hjk]
      obtain ⟨k1, k2⟩ := e4 j g hj
      refine ⟨fun i u hu => ?_, ?_⟩
      · have := glC_7 hu
        rw [List.getElem?_append_left (by omega)]
        exact k1 i u hu
      · have e5j := e5 j (by omega)
        refine (k2.same (hb.mono e5j.1 e5j.2.2)).same fun b hb1 hb2 => hg.block b (by omega) fun e => ?_
        rcases (e3 b e.symm).2 j (by omega) with hh | hh <;> omega
  · by_cases hjk : j = k
    · simp only [hjk, if_pos]; exact ⟨hlo, hB1, by omega⟩
    · simp only [if_neg hjk]; have h5j := e5 j (by omega); exact ⟨h5j.1, by omega, by omega⟩
  · by_cases hjk : j = k
    · simp only [hjk, if_pos]
      rw [if_neg (by omega)]
      exact (e5 i (by omega)).2.2
    · simp only [if_neg hjk]
      rw [if_neg (by omega)]
      exact e6 i j hij (by omega)
end Go.Proofs.YtgdkabljgabjoaaGreatDoor

/- A drawn set of glyphs: spec.l17Draw. Conditions: as each states. -/
namespace Go.Proofs.YtgdkabljgabjoaaGreatDoor
open Go.RowKit
set_option linter.unusedVariables false
set_option maxRecDepth 100000
set_option maxRecDepth 100000

theorem row5 (w : World) (a b c d e : Int) : RdS 1 (FlatR intC) (w.alloc (.cells #[.int .i64 a, .int .i64 b, .int .i64 c, .int .i64 d, .int .i64 e] 2 (0, 0))) w.heap.size (w.alloc (.cells #[.int .i64 a, .int .i64 b, .int .i64 c, .int .i64 d, .int .i64 e] 2 (0, 0))).heap.size (some ⟨w.heap.size, 0, none⟩) 5 [a, b, c, d, e] := by
  have h : (w.alloc (.cells #[.int .i64 a, .int .i64 b, .int .i64 c, .int .i64 d, .int .i64 e] 2 (0, 0))).ownsRow w.heap.size 2 1 (.slice (some ⟨w.heap.size, 0, none⟩) 5 5) 5 [.int .i64 a, .int .i64 b, .int .i64 c, .int .i64 d, .int .i64 e] := World.ownsRow_lit w #[.int .i64 a, .int .i64 b, .int .i64 c, .int .i64 d, .int .i64 e] 5 (Nat.le_refl _) (by decide) (by simp)
  exact rdS_own intC_len (by omega) h rfl
theorem gsX_none (w : World) (lo hi c : Nat) (hs : Nat → GlH) (iv : Nat → Nat × Nat) : GsX w lo hi none 0 0 [] [] hs iv :=
  ⟨rfl, World.ownsRow_nil _ _ _ _, fun g hg => by simp [Value.ownBlock] at hg, fun j g hj => by simp at hj, fun j hj => absurd hj (Nat.not_lt_zero j), fun i j _ hj => absurd hj (Nat.not_lt_zero j)⟩
theorem setOk_none : setOk ⟨1000, []⟩ = true := by rfl

set_option maxHeartbeats 8000000 in
theorem l17Draw_any (b k : Nat) (w : World) (hs : Src0 w b k) (hk : k ≤ 999800000) :
    Calls Tryz.prog 52 #[.pointer (some ⟨b, 0, none⟩), .int .i64 7] w fun e w' => ∃ (d : GSet) (A : Option Addr) (n c : Nat) (ys : List Value) (hs : Nat → GlH) (iv : Nat → Nat × Nat), e = .returned (.agg #[.int .i64 d.unit, .slice A n c]) ∧ setOk d = true ∧ d.gl.length ≤ 7 ∧ (∀ g ∈ d.gl, DrOk g) ∧ GsX w' w.heap.size w'.heap.size A n c d.gl ys hs iv ∧ w.grownBy w' (some b) := by
  have hbl := hs.lt
  have hb0 : Below w.heap.size w (w.alloc (.cells #[.int .i64 0, .slice none 0 0] 36 (0, 0))) := Go.Joins.below_alloc1 _ _
  have hs0 := hs.kept hb0 hbl
  have HR0 := heap_alloc_new w (.cells #[.int .i64 0, .slice none 0 0] 36 (0, 0))
  have hz0 : (w.alloc (.cells #[.int .i64 0, .slice none 0 0] 36 (0, 0))).heap.size = w.heap.size + 1 := by simp
  have G0 := grown_of hb0 (some b)
  clear hs
  go_enter Tryz.func52, Tryz.ntmps52
  go_upto_region 1 with fail
  generalize w.alloc (.cells #[.int .i64 0, .slice none 0 0] 36 (0, 0)) = w0 at *
  have hcA := Lib.hid (among_any b k _ 5 5 _ _ _ _ (hs0.kept (Go.Joins.below_alloc1 w0 (.cells #[.int .i64 1000, .int .i64 1000, .int .i64 2048, .int .i64 16, .int .i64 16384] 2 (0, 0))) (by omega)) (by omega) (row5 w0 1000 1000 2048 16 16384) (.inl (by omega)) (Nat.le_refl _) (by decide) (by decide))
  have G1 := grown_tr G0 (grown_of (Go.Joins.below_alloc1 w0 (.cells #[.int .i64 1000, .int .i64 1000, .int .i64 2048, .int .i64 16, .int .i64 16384] 2 (0, 0))) (some b))
  have hz1 : w.heap.size + 1 ≤ w0.heap.size := by omega
  replace HR0 := Lib.hid HR0
  replace G1 := Lib.hid G1
  clear hz0 hs0 hb0 G0
  go_wp2_with fail
  refine hcA.out.mono ?_
  rintro e w1 ⟨u, k1, rfl, -, hs1, hk1, hg1⟩
  have G2 := Lib.hid (grown_tr G1.out hg1)
  have HR1 := Lib.hid ((hg1.block w.heap.size (by simp; omega) (by intro e; injection e with e; omega)).trans ((Below.heap_alloc _ _ _ (by omega)).trans HR0.out))
  have hzz : w0.heap.size + 1 ≤ w1.heap.size := by have := hg1.size; simpa using this
  clear hcA G1 HR0 hg1
  have hs2 := hs1.kept (Go.Joins.below_alloc1 w1 (.cells #[.int .i64 u, .slice none 0 0] 36 (0, 0))) (by omega)
  have hcP := Lib.hid (pick_any b k1 8 _ hs2 (by omega))
  have G3 := Lib.hid (grown_tr G2.out (grown_of (Go.Joins.below_alloc1 w1 (.cells #[.int .i64 u, .slice none 0 0] 36 (0, 0))) (some b)))
  have HX := Lib.hid (heap_alloc_new w1 (.cells #[.int .i64 u, .slice none 0 0] 36 (0, 0)))
  clear hs1 hs2
  go_wp2_with fail
  refine hcP.out.mono ?_
  rintro e w2 ⟨r, k2, rfl, hr0, hr8, -, hs2, hk2, hg2⟩
  have hr7 : r < 8 := hr8 (by decide)
  have hz2 : w1.heap.size + 1 ≤ w2.heap.size := by have := hg2.size; simpa using this
  have HX2 := Lib.hid ((hg2.block w1.heap.size (by simp) (by intro e; injection e with e; omega)).trans HX.out)
  have HR2 := Lib.hid ((hg2.block w.heap.size (by simp; omega) (by intro e; injection e with e; omega)).trans ((Below.heap_alloc _ _ _ (by omega)).trans HR1.out))
  have G4 := Lib.hid (grown_tr G3.out hg2)
  obtain ⟨X, hX⟩ : ∃ X, X = w1.heap.size := ⟨_, rfl⟩
  rw [← hX] at hz2 HX2 hzz
  obtain ⟨N, rfl⟩ : ∃ N : Nat, r = (N : Int) := ⟨r.toNat, by omega⟩
  replace hs2 := Lib.hid hs2
  clear hcP G2 G3 HR1 HX hg2 hr8 hr0
  go_wp2_with fail
  rw [← hX]
  clear hX
  go_loopw [7] (fun i wr => ∃ (t k' : Nat) (L : List Gl) (Ao : Option Addr) (co : Nat) (ys : List Value) (hs : Nat → GlH) (iv : Nat → Nat × Nat), i = .int .i64 t ∧ t ≤ N ∧ (∀ g ∈ L, DrOk g) ∧ GsX wr (X + 1) wr.heap.size Ao t co L ys hs iv ∧ wr.heap[X]? = some (.cells #[.int .i64 u, .slice Ao t co] 36 (0, 0)) ∧ wr.heap[w.heap.size]? = some (.cells #[.int .i64 0, .slice none 0 0] 36 (0, 0)) ∧ X + 1 ≤ wr.heap.size ∧ Src0 wr b k' ∧ k' ≤ k + 10 + 1000 * t ∧ w.grownBy wr (some b)) (fun i wr => N - (intOf i).toNat)
  case atStart => exact ⟨0, k2, [], none, 0, [], fun _ => ⟨⟨none, 0, 0⟩, ⟨none, 0, 0⟩, ⟨none, 0, 0⟩⟩, fun _ => (0, 0), rfl, Nat.zero_le _, fun g hg => by simp at hg, gsX_none _ _ _ 0 _ _, HX2.out, HR2.out, hz2, hs2.out, by omega, G4.out⟩
  case round =>
    clear HX2 HR2 hs2 G4
    obtain ⟨t, k3, L, Ao, co, ys, hs', iv, rfl, ht, hok, hx, q2, q1, hz, hs3, hk3, hG⟩ := hrel
    have hown := Lib.hid hx.2.1
    have hll := Lib.hid hx.1
    have hbX : b < X := by omega
    have hwX : w.heap.size < X := by omega
    have c0 : wr.cell? ⟨X, 0, none⟩ = some (.int .i64 u) := by rw [Go.Joins.cell_of_block q2]; rfl
    have c1 : wr.cell? ⟨X, 1, none⟩ = some (.slice Ao t co) := by rw [Go.Joins.cell_of_block q2]; rfl
    have f2 : ∀ o, wr.frozen? ⟨X, o, none⟩ = false := Go.Joins.unfrozen_of_block q2
    have hzX : X < wr.heap.size := by omega
    have hsm := Lib.hid (fun g hg => (hok g hg).outSm)
    have hrd := Lib.hid (hx.rdc hsm.out).rd
    replace hok := Lib.hid hok
    replace hx := Lib.hid hx
    replace hG := Lib.hid hG
    by_cases hlt : t < N
    · have hti : (t : Int) < (N : Int) := by omega
      have hcall := Lib.hid (l17DrawGlyph_any b k3 t wr.drew (hs3.keepL fun g _ => rfl) (by omega) (by omega))
      replace q1 := Lib.hid q1
      replace q2 := Lib.hid q2
      clear hs3 hrd hsm
      go_wp2_with fail
      go_region_law (first | (refine stepAppN rfl (.tmp 22) (.tmp 26) elemGlyph rfl (v := .slice Ao t co) (n := t) (xs := ys) rfl ((own_grown hown.out hG1.out (by omega)).alloc _) rfl (src_at (cs := [.string dg.name, .int .i64 dg.code, .int .i64 dg.adv, .slice h4.out.A h4.out.n h4.out.c, .slice h4.parts.A h4.parts.n h4.parts.c, .slice h4.anchors.A h4.anchors.n h4.anchors.c, .string dg.hints]) rfl (by simp [Value.oneCell']) (by simp)) (by omega) (by omega) (by simp; omega) (t + 1) rfl ?_; intro A4 c4 w4 ho4 hg4 hbk4; have hne : (Value.slice Ao t co).ownBlock ≠ some X := (fun e => by have := (hown.out.lt _ e).1; omega); have hk4 : w4.heap[X]? = wr.heap[X]? := ((hg4.block _ (by simp; omega) (fun e => hne e.symm)).trans (Below.heap_alloc _ _ _ (by omega))).trans (hG1.out.block X hzX (by intro e; injection e with e; omega)); have r4 : w4.cell? ⟨X, 1, none⟩ = some (.slice Ao t co) := ((World.cell?_of_block hk4).trans c1); have f4 : ∀ o, w4.frozen? ⟨X, o, none⟩ = false := (fun o => (World.frozen?_of_block hk4).trans (f2 o)); replace hk4 := Lib.hid hk4; clear hne; replace ho4 := Lib.hid ho4; replace hg4 := Lib.hid hg4; replace hbk4 := Lib.hid hbk4) | (go_simp; go_at_call 98; refine hcall.out.mono ?_; rintro e w3 ⟨dg, h4, k4, rfl, hX1, hd4, hs4, hk4', hg3⟩; have hG1 : wr.grownBy w3 (some b) := (show wr.grownBy w3 (some b) from ⟨hg3.os, hg3.tape, hg3.output, hg3.size, hg3.block⟩); have hs1 : wr.heap.size ≤ w3.heap.size := hG1.size; have r3 : w3.cell? ⟨X, 1, none⟩ = some (.slice Ao t co) := (World.cell?_of_block (hG1.block X hzX (by intro e; injection e with e; omega))).trans c1; replace hX1 := Lib.hid hX1; replace hG1 := Lib.hid hG1; replace hs4 := Lib.hid hs4; have hs2 : X < w3.heap.size := (by omega); clear hg3; dsimp only))
      all_goals
        go_wp2_with fail
        go_roundw
        case rel =>
          have hB := hG1.out
          have hg4 := hg4.out
          have hgs : w3.heap.size + 1 ≤ w4.heap.size := by have := hg4.size; simpa using this
          have ho := hown.out
          have hrow3 := (own_grown ho hB (by omega)).alloc (.cells #[.string dg.name, .int .i64 dg.code, .int .i64 dg.adv, .slice h4.out.A h4.out.n h4.out.c, .slice h4.parts.A h4.parts.n h4.parts.c, .slice h4.anchors.A h4.anchors.n h4.anchors.c, .string dg.hints] 28 (0, 0))
          have hne : ∀ g, g ≤ X → (Value.slice Ao t co).ownBlock ≠ some g := fun g hg e => by have := (ho.lt _ e).1; omega
          have hk1 : w4.heap[w.heap.size]? = wr.heap[w.heap.size]? := ((hg4.block _ (by simp; omega) (fun e => hne _ (by omega) e.symm)).trans (Below.heap_alloc _ _ _ (by omega))).trans (hB.block _ (by omega) (by intro e; injection e with e; omega))
          have hxw := (hX1.out.wide (lo' := wr.heap.size) (Nat.le_refl _) (Nat.le_refl _)).same ((SameB.refl _ _ w3).alloc (Nat.le_refl _) (.cells #[.string dg.name, .int .i64 dg.code, .int .i64 dg.adv, .slice h4.out.A h4.out.n h4.out.c, .slice h4.parts.A h4.parts.n h4.parts.c, .slice h4.anchors.A h4.anchors.n h4.anchors.c, .string dg.hints] 28 (0, 0)))
          have hsb : SameB (X + 1) wr.heap.size wr (w3.alloc (.cells #[.string dg.name, .int .i64 dg.code, .int .i64 dg.adv, .slice h4.out.A h4.out.n h4.out.c, .slice h4.parts.A h4.parts.n h4.parts.c, .slice h4.anchors.A h4.anchors.n h4.anchors.c, .string dg.hints] 28 (0, 0))) := fun g h1 h2 => (Below.heap_alloc _ _ _ (by omega)).trans (hB.block g h2 (by intro e; injection e with e; omega))
          have hnx := GsX.nextS (w1 := w3.alloc (.cells #[.string dg.name, .int .i64 dg.code, .int .i64 dg.adv, .slice h4.out.A h4.out.n h4.out.c, .slice h4.parts.A h4.parts.n h4.parts.c, .slice h4.anchors.A h4.anchors.n h4.anchors.c, .string dg.hints] 28 (0, 0))) hx.out hz hsb (by simp; omega) hxw (by omega) (by simp) ho4.out hg4 (hbk4.out.imp id fun e => ⟨_, by simp, e⟩)
          refine ⟨t + 1, k4, L ++ [dg], A4, c4, _, _, _, by go_num, by omega, ?_, (hnx.same ((SameB.refl _ _ w4).setCell (.inl (by simp)) _)).wide (Nat.le_refl _) (by simp), Go.Joins.block_setCell (hk4.out.trans q2.out) _, ?_, by simp; omega, ?_, by omega, ?_⟩
          · intro g hg
            rcases List.mem_append.1 hg with h1 | h1
            · exact hok.out g h1
            · rw [List.mem_singleton] at h1; subst h1; exact hd4
          · exact (Below.heap_setCell _ _ _ _ (by simp only; omega)).trans (hk1.trans q1.out)
          · exact hs4.out.keepL fun g hg => (Below.heap_setCell _ _ _ _ (by simp only; omega)).trans ((hg4.block _ (by simp; omega) (fun e => hne _ (by omega) e.symm)).trans (Below.heap_alloc _ _ _ (by omega)))
          · exact grown_setO (grown_app (grown_allocA (grown_tr hG.out hB) _) hrow3 hg4 (by omega)) (by omega) _ _
        case measure => simp [intOf]; omega
    · obtain rfl : t = N := by omega
      have hti : ¬ (t : Int) < (t : Int) := by omega
      have hcO := Lib.hid (l17Ok_any X 0 u Ao t co (X + 1) wr.heap.size L (setOk ⟨u, L⟩) rfl wr (by omega) c0 c1 hrd.out (Nat.le_refl _) (by omega) (fun g hg => (hok.out g hg).small) (fun g hg => (hok.out g hg).str))
      have d0 : wr.cell? ⟨w.heap.size, 0, none⟩ = some (.int .i64 0) := by rw [Go.Joins.cell_of_block q1]; rfl
      have d1 : wr.cell? ⟨w.heap.size, 1, none⟩ = some (.slice none 0 0) := by rw [Go.Joins.cell_of_block q1]; rfl
      have df : ∀ o, wr.frozen? ⟨w.heap.size, o, none⟩ = false := Go.Joins.unfrozen_of_block q1
      clear hs3 hrd hsm q1 q2
      go_wp2_with fail
      refine hcO.out.mono ?_
      rintro e w3 ⟨rfl, hb3⟩
      have e0 : w3.cell? ⟨X, 0, none⟩ = some (.int .i64 u) := (hb3.cell hzX).trans c0
      have e1 : w3.cell? ⟨X, 1, none⟩ = some (.slice Ao t co) := (hb3.cell hzX).trans c1
      have hwl : w.heap.size < wr.heap.size := by omega
      have e2 : w3.cell? ⟨w.heap.size, 0, none⟩ = some (.int .i64 0) := (hb3.cell hwl).trans d0
      have e3 : w3.cell? ⟨w.heap.size, 1, none⟩ = some (.slice none 0 0) := (hb3.cell hwl).trans d1
      have ef : ∀ o, w3.frozen? ⟨w.heap.size, o, none⟩ = false := fun o => (World.frozen?_of_block (hb3.block _ hwl)).trans (df o)
      have hwl3 : w.heap.size < w3.heap.size := by have := hb3.size; omega
      have hx3 := Lib.hid (hx.out.same (Below.sameB hb3 (Nat.le_refl _)))
      have hG3 := Lib.hid (grown_tr hG.out (grown_of hb3 (some b)))
      have hz3 := hb3.size
      replace hb3 := Lib.hid hb3
      have ht7 : t ≤ 7 := by omega
      clear hcO c0 c1 f2 d0 d1 df hx
      cases hv : setOk ⟨u, L⟩
      · replace hv := Lib.hid hv
        go_wp2_with fail
        refine bodyPost_ret (v := .agg #[.int .i64 1000, .slice none 0 0]) (by simp [results, Tryz.results52, go_sem, e2, e3]) rfl ⟨⟨1000, []⟩, none, 0, 0, [], fun _ => ⟨⟨none, 0, 0⟩, ⟨none, 0, 0⟩, ⟨none, 0, 0⟩⟩, fun _ => (0, 0), rfl, setOk_none, by simp, fun g hg => by simp at hg, gsX_none _ _ _ 0 _ _, ?_⟩
        exact grown_setO (grown_setO hG3.out (Nat.le_refl _) _ _) (Nat.le_refl _) _ _
      · replace hv := Lib.hid hv
        go_wp2_with fail
        refine bodyPost_ret (v := .agg #[.int .i64 u, .slice Ao t co]) (by simp [results, Tryz.results52, go_sem, e2, e3]) rfl ⟨⟨u, L⟩, Ao, t, co, ys, hs', iv, rfl, hv.out, ?_, hok.out, ?_, ?_⟩
        · have := hll.out
          show L.length ≤ 7
          omega
        · exact (hx3.out.same (((SameB.refl _ _ w3).setCell (.inl (by simp only; omega)) _).setCell (.inl (by simp only; omega)) _)).wide (by omega) (by simp; omega)
        · exact grown_setO (grown_setO hG3.out (Nat.le_refl _) _ _) (Nat.le_refl _) _ _
end Go.Proofs.YtgdkabljgabjoaaGreatDoor

/- A valid drawn set: spec.A2Set. Conditions: as each states. -/
namespace Go.Proofs.YtgdkabljgabjoaaGreatDoor
open Go.RowKit
set_option linter.unusedVariables false
set_option maxRecDepth 100000
set_option maxRecDepth 100000

theorem A2Set_any (A : Option Addr) (n c lo hi : Nat) (L : List Int) (w : World) (hr : RdS 1 u8R w lo hi A n L) (hhi : hi ≤ w.heap.size) (hn : n ≤ 1000000000) :
    Calls Tryz.prog 17 #[.slice A n c] w fun e w' => ∃ (d : GSet) (A : Option Addr) (n c : Nat) (ys : List Value) (hs : Nat → GlH) (iv : Nat → Nat × Nat), e = .returned (.agg #[.int .i64 d.unit, .slice A n c]) ∧ setOk d = true ∧ d.gl.length ≤ 7 ∧ (∀ g ∈ d.gl, DrOk g) ∧ GsX w' w.heap.size w'.heap.size A n c d.gl ys hs iv ∧ Below w.heap.size w w' := by
  have hb0 : Below w.heap.size w (w.alloc (.cells #[.int .i64 0, .slice none 0 0] 36 (0, 0))) := Go.Joins.below_alloc1 _ _
  have HR0 := heap_alloc_new w (.cells #[.int .i64 0, .slice none 0 0] 36 (0, 0))
  have hz0 : (w.alloc (.cells #[.int .i64 0, .slice none 0 0] 36 (0, 0))).heap.size = w.heap.size + 1 := by simp
  go_enter Tryz.func17, Tryz.ntmps17
  go_upto_region 1 with fail
  generalize w.alloc (.cells #[.int .i64 0, .slice none 0 0] 36 (0, 0)) = w0 at *
  have hr0 := Lib.hid (hr.frame good_u8 (Below.sameB hb0 hhi))
  have hz1 : w.heap.size + 1 ≤ w0.heap.size := by omega
  replace HR0 := Lib.hid HR0
  replace hb0 := Lib.hid hb0
  clear hz0 hr
  go_wp2_with fail
  refine (l00From_any _ _ _ _).mono ?_
  rintro e w1 ⟨rfl, hs1, hb1⟩
  have hS1 : Src0 w1 w0.heap.size 0 := ⟨A, n, c, lo, hi, 0, L, hs1, hr0.out.frame good_u8 (Below.sameB hb1 (by omega)), by omega, hn⟩
  have HR1 := Lib.hid ((hb1.block w.heap.size (by omega)).trans HR0.out)
  have hc := Lib.hid (l17Draw_any w0.heap.size 0 w1 hS1 (by omega))
  have hz2 := hb1.size
  have hbb := Lib.hid (hb0.out.trans (hb1.mono (by omega)))
  have hb1' := Lib.hid hb1
  clear hs1 hS1 hb1 HR0 hr0 hb0
  go_wp2_with fail
  refine hc.out.mono ?_
  rintro e w2 ⟨d, A', n', c', ys, hs, iv, rfl, hok, hl, hdr, hx, hg⟩
  have h2 := hg.block w.heap.size (by omega) (by intro e; injection e with e; omega)
  have e0 : w2.cell? ⟨w.heap.size, 0, none⟩ = some (.int .i64 0) := by rw [Go.Joins.cell_of_block (h2.trans HR1.out)]; rfl
  have e1 : w2.cell? ⟨w.heap.size, 1, none⟩ = some (.slice none 0 0) := by rw [Go.Joins.cell_of_block (h2.trans HR1.out)]; rfl
  have ef : ∀ o, w2.frozen? ⟨w.heap.size, o, none⟩ = false := Go.Joins.unfrozen_of_block (h2.trans HR1.out)
  have hB : Below w.heap.size w w2 := by
    have hq := hbb.out
    refine ⟨hg.os.trans hq.os, hg.tape.trans hq.tape, hg.output.trans hq.output, by have := hg.size; have := hq.size; omega, fun g hg' => ?_⟩
    exact (hg.block g (by omega) (by intro e; injection e with e; omega)).trans (hq.block g hg')
  have hz3 := hg.size
  have hwl : w.heap.size < w2.heap.size := by omega
  replace hx := Lib.hid hx
  replace hok := Lib.hid hok
  replace hdr := Lib.hid hdr
  replace hB := Lib.hid hB
  clear hc HR1 h2 hg hbb hb1'
  go_wp2_with fail
  refine bodyPost_ret (v := .agg #[.int .i64 d.unit, .slice A' n' c']) (by simp [results, Tryz.results17, go_sem, e0, e1]) rfl ⟨d, A', n', c', ys, hs, iv, rfl, hok.out, hl, hdr.out, ?_, ?_⟩
  · exact (hx.out.same (((SameB.refl _ _ w2).setCell (.inl (by simp only; omega)) _).setCell (.inl (by simp only; omega)) _)).wide (by omega) (by simp)
  · exact (hB.out.setCell (p := ⟨w.heap.size, 0, none⟩) (Nat.le_refl _) _).setCell (p := ⟨w.heap.size, 1, none⟩) (Nat.le_refl _) _
end Go.Proofs.YtgdkabljgabjoaaGreatDoor

/- Two lists of loops joined. No walk in sight. Conditions: as each states. -/
namespace Go.Proofs.YtgdkabljgabjoaaGreatDoor
open Go.RowKit
set_option linter.unusedVariables false
set_option maxRecDepth 100000

/-- the loops of a call, appended to those so far: they lie above all that stood before -/
theorem OutTo.join {w w1 w2 : World} {lo B k co n2 c2 cc : Nat} {Ao A2 A3 : Option Addr} {ys ys2 : List Value} {Ls Ls2 : List (List Knot)} (h : OutTo w lo Ao k co ys Ls) (hk : Ls.length = k) (hb : Below w.heap.size w w1) (h2 : OutTo w1 B A2 n2 c2 ys2 Ls2) (hk2 : Ls2.length = n2) (hB : w.heap.size ≤ B) (hlo : lo ≤ w.heap.size)
    (ho : w2.ownsRow lo 113 1 (.slice A3 (k + n2) cc) (k + n2) (ys ++ ys2)) (hg : w1.grownBy w2 (Value.slice Ao k co).ownBlock) : OutTo w2 lo A3 (k + n2) cc (ys ++ ys2) (Ls ++ Ls2) := by
  obtain ⟨h1, h3, h4⟩ := h
  obtain ⟨g1, g3, g4⟩ := h2
  have hyl := h1.1
  have hyl2 := g1.1
  rw [Nat.mul_one] at hyl hyl2
  have h1' := own_below h1 hb
  have hne : ∀ {g : Nat} {v : Value} {n : Nat} {xs : List Value} {B' : Nat}, w1.ownsRow B' 152 3 v n xs → v.ownBlock = some g → w2.heap[g]? = w1.heap[g]? := fun {g v n xs B'} hv hg' =>
    hg.block g (hv.lt g hg').2 fun e => own_ne_kind hv h1' (by decide) hg' e.symm
  have hold : ∀ (j : Nat) (v : Value), ys[j]? = some v → ∀ g, v.ownBlock = some g → g < w.heap.size := fun j v hv g hg' => by
    have hjl := (List.getElem?_eq_some_iff.1 hv).1
    obtain ⟨Aj, cj, h5, h6⟩ := h3 j _ (by omega) (List.getElem?_eq_getElem (by omega))
    rw [hv] at h5
    injection h5 with h5
    subst h5
    exact (h6.lt g hg').2
  have hnew : ∀ (j : Nat) (v : Value), ys2[j]? = some v → ∀ g, v.ownBlock = some g → B ≤ g := fun j v hv g hg' => by
    have hjl := (List.getElem?_eq_some_iff.1 hv).1
    obtain ⟨Aj, cj, h5, h6⟩ := g3 j _ (by omega) (List.getElem?_eq_getElem (by omega))
    rw [hv] at h5
    injection h5 with h5
    subst h5
    exact (h6.lt g hg').1
  refine ⟨ho, fun j K hj hK => ?_, fun i j u v hij hu hv => ?_⟩
  · by_cases hjk : j < k
    · rw [List.getElem?_append_left (by omega)] at hK
      obtain ⟨Aj, cj, h5, h6⟩ := h3 j K hjk hK
      exact ⟨Aj, cj, by rw [List.getElem?_append_left (by omega)]; exact h5, own_same (own_below h6 hb) fun g hg' => hne (own_below h6 hb) hg'⟩
    · rw [List.getElem?_append_right (by omega), hk] at hK
      obtain ⟨Aj, cj, h5, h6⟩ := g3 (j - k) K (by omega) hK
      exact ⟨Aj, cj, by rw [List.getElem?_append_right (by omega), hyl]; exact h5, own_lower (own_same h6 fun g hg' => hne h6 hg') (by omega)⟩
  · by_cases hik : i < k
    · rw [List.getElem?_append_left (by omega)] at hu
      by_cases hjk : j < k
      · rw [List.getElem?_append_left (by omega)] at hv
        exact h4 i j u v hij hu hv
      · rw [List.getElem?_append_right (by omega), hyl] at hv
        exact fun g e1 e2 => by have := hold i u hu g e1; have := hnew _ v hv g e2; omega
    · rw [List.getElem?_append_right (by omega), hyl] at hu
      by_cases hjk : j < k
      · rw [List.getElem?_append_left (by omega)] at hv
        exact fun g e1 e2 => by have := hnew _ u hu g e1; have := hold j v hv g e2; omega
      · rw [List.getElem?_append_right (by omega), hyl] at hv
        exact g4 (i - k) (j - k) u v (by omega) hu hv
end Go.Proofs.YtgdkabljgabjoaaGreatDoor

/- A list that is turned from its head on; two cells of a knot stored. No walk in sight. Conditions: as each states. -/
namespace Go.Proofs.YtgdkabljgabjoaaGreatDoor
open Go.RowKit
set_option linter.unusedVariables false
set_option maxRecDepth 100000

theorem take_step {α : Type} {L : List α} {k : Nat} {a : α} (h : L[k]? = some a) : L.take (k + 1) = L.take k ++ [a] := by
  rw [List.take_add_one, h]; rfl
/-- the first k of one list, then the other -/
def mixT {α : Type} (M K : List α) (k : Nat) : List α := M.take k ++ K.drop k
theorem mixT_zero {α : Type} (M K : List α) : mixT M K 0 = K := by simp [mixT]
theorem mixT_len {α : Type} {M K : List α} (h : M.length = K.length) (k : Nat) : (mixT M K k).length = K.length := by
  unfold mixT; rw [List.length_append, List.length_take, List.length_drop]; omega
theorem mixT_all {α : Type} {M K : List α} (h : M.length = K.length) : mixT M K K.length = M := by
  unfold mixT; rw [List.drop_length, ← h, List.take_length, List.append_nil]
theorem mixT_at {α : Type} {M K : List α} (h : M.length = K.length) {k : Nat} (hk : k < K.length) : (mixT M K k)[k]? = K[k]? := by
  unfold mixT
  rw [List.getElem?_append_right (by rw [List.length_take]; omega), List.length_take, Nat.min_eq_left (by omega), Nat.sub_self, List.getElem?_drop, Nat.add_zero]
theorem mixT_set {α : Type} {M K : List α} (h : M.length = K.length) {k : Nat} {m : α} (hm : M[k]? = some m) : (mixT M K k).set k m = mixT M K (k + 1) := by
  have hk := (List.getElem?_eq_some_iff.1 hm).1
  unfold mixT
  rw [List.set_append_right _ _ (by rw [List.length_take]; omega), List.length_take, Nat.min_eq_left (by omega), Nat.sub_self, take_step hm, List.append_assoc]
  congr 1
  rw [List.drop_eq_getElem_cons (by omega)]
  rfl
theorem flat_set2 {L : List Knot} {q : Nat} {a b x1 x2 : Int} {z : Bool} (hq : L[q]? = some (a, b, z)) : ((L.flatMap knotC).set (q * 3) (.int .i64 x1)).set (q * 3 + 1) (.int .i64 x2) = (L.set q (x1, x2, z)).flatMap knotC := by
  have hql := (List.getElem?_eq_some_iff.1 hq).1
  have hfl : (L.flatMap knotC).length = L.length * 3 := flat_length knotC_len L
  refine flat_ext (n := L.length) knotC_len (by rw [List.length_set]) (by rw [List.length_set, List.length_set]; exact hfl) fun j k hj i hi => ?_
  by_cases hjq : j = q
  · subst hjq
    rw [List.getElem?_set_self hql] at hj
    injection hj with hj; subst hj
    match i, hi with
    | 0, _ => rw [List.getElem?_set_ne (by omega)]; simp only [Nat.add_zero]; rw [List.getElem?_set_self (by omega)]; rfl
    | 1, _ => rw [List.getElem?_set_self (by rw [List.length_set]; omega)]; rfl
    | 2, _ => rw [List.getElem?_set_ne (by omega), List.getElem?_set_ne (by omega), flat_get knotC_len L j _ 2 hq (by omega)]; rfl
  · rw [List.getElem?_set_ne (Ne.symm hjq)] at hj
    rw [List.getElem?_set_ne (by omega), List.getElem?_set_ne (by omega)]
    exact flat_get knotC_len L j k i hj hi
end Go.Proofs.YtgdkabljgabjoaaGreatDoor

