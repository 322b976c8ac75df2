
import Derived.Deep.RegionHeld3
import Derived.Lib.QuietBelow
import Derived.StillTailTactics
import Derived.Deep.DeepCutAuto
import Derived.Test.YtgnjohkfgllhmaaNamed
import Derived.Test.YtgnjohkfgllhmaaMkXY
import Derived.Test.YtgnjohkfgllhmaaTGlyphS
import Derived.Test.YtgnjohkfgllhmaaRegT
import Derived.Test.YtgnjohkfgllhmaaOkS
import Derived.Test.YtgnjohkfgllhmaaOkI
import Derived.Test.YtgnjohkfgllhmaaTGlyphSet
/- A set with a glyph more. No walk in sight. Conditions: as each states. -/
namespace Go.Proofs.Ytgnjohkfgllhmaa
set_option linter.unusedVariables false
set_option maxRecDepth 100000

/-- the set with the glyph, and a code -/
def addR (d : GSet) (g : Gl) : GSet × Int :=
  if setOk d = true ∧ glyphOk g = true then
    (if d.gl.any (fun b => clash b g) then (⟨0, []⟩, 4)
     else if g.parts.any (fun q => decide ((d.gl.length : Int) ≤ q.1)) then (⟨0, []⟩, 2)
     else if 40 ≤ d.gl.length then (⟨0, []⟩, 5)
     else (⟨d.unit, d.gl ++ [g]⟩, 0))
  else (⟨0, []⟩, 1)
theorem add_1 {d : GSet} {g : Gl} (h : ¬ (setOk d = true ∧ glyphOk g = true)) : addR d g = (⟨0, []⟩, 1) := by unfold addR; rw [if_neg h]
theorem add_4 {d : GSet} {g : Gl} (h : setOk d = true) (k : glyphOk g = true) (a : d.gl.any (fun b => clash b g) = true) : addR d g = (⟨0, []⟩, 4) := by unfold addR; rw [if_pos ⟨h, k⟩, if_pos a]
theorem add_2 {d : GSet} {g : Gl} (h : setOk d = true) (k : glyphOk g = true) (a : d.gl.any (fun b => clash b g) = false) (b : g.parts.any (fun q => decide ((d.gl.length : Int) ≤ q.1)) = true) : addR d g = (⟨0, []⟩, 2) := by unfold addR; rw [if_pos ⟨h, k⟩, if_neg (by rw [a]; simp), if_pos b]
theorem add_5 {d : GSet} {g : Gl} (h : setOk d = true) (k : glyphOk g = true) (a : d.gl.any (fun b => clash b g) = false) (b : g.parts.any (fun q => decide ((d.gl.length : Int) ≤ q.1)) = false) (c : 40 ≤ d.gl.length) : addR d g = (⟨0, []⟩, 5) := by unfold addR; rw [if_pos ⟨h, k⟩, if_neg (by rw [a]; simp), if_neg (by rw [b]; simp), if_pos c]
theorem add_0 {d : GSet} {g : Gl} (h : setOk d = true) (k : glyphOk g = true) (a : d.gl.any (fun b => clash b g) = false) (b : g.parts.any (fun q => decide ((d.gl.length : Int) ≤ q.1)) = false) (c : ¬ 40 ≤ d.gl.length) : addR d g = (⟨d.unit, d.gl ++ [g]⟩, 0) := by unfold addR; rw [if_pos ⟨h, k⟩, if_neg (by rw [a]; simp), if_neg (by rw [b]; simp), if_neg c]
theorem any_hit {α : Type} {L : List α} {p : α → Bool} {k : Nat} {a : α} (h : L[k]? = some a) (hp : p a = true) : L.any p = true := List.any_eq_true.2 ⟨a, List.mem_of_getElem? h, hp⟩
theorem any_step {α : Type} {L : List α} {p : α → Bool} {k : Nat} {a : α} (h : (L.take k).any p = false) (hk : L[k]? = some a) (hp : p a = false) : (L.take (k + 1)).any p = false := by
  rw [List.take_add_one, hk, List.any_append, h]; simp [hp]
theorem any_all {α : Type} {L : List α} {p : α → Bool} {k : Nat} (h : (L.take k).any p = false) (hk : L.length ≤ k) : L.any p = false := by rwa [List.take_of_length_le hk] at h
theorem findG_any (L : List Gl) (p : Gl → Bool) : decide (0 ≤ findG L p) = L.any p := by
  cases ha : L.any p
  · rw [findG_miss fun b hb => by
      cases hp : p b
      · rfl
      · rw [List.any_eq_true.2 ⟨b, hb, hp⟩] at ha; cases ha]
    rfl
  · rcases findG_bd L p with h | h
    · exfalso
      obtain ⟨b, hb, hp⟩ := List.any_eq_true.1 ha
      unfold findG at h
      cases hf : L.findIdx? p with
      | none => rw [List.findIdx?_eq_none_iff] at hf; rw [hf b hb] at hp; cases hp
      | some k => rw [hf] at h; simp at h
    · simp [h.1]
/-- what the program asks: a glyph with the name, or one with the code -/
theorem clash_any (L : List Gl) (g : Gl) : L.any (fun b => clash b g) = (decide (0 ≤ findG L (fun b => decide (b.name = g.name))) || decide (0 ≤ findG L (fun b => decide (0 ≤ g.code) && decide (b.code = g.code)))) := by
  rw [findG_any, findG_any]
  induction L with
  | nil => rfl
  | cons b L ih =>
    rw [List.any_cons, List.any_cons, List.any_cons, ih]
    unfold clash
    by_cases h : b.code = g.code
    · rw [h]; simp only [decide_true, Bool.and_true]
      generalize decide (b.name = g.name) = x
      generalize decide (0 ≤ g.code) = y
      generalize List.any L _ = z
      generalize List.any L _ = u
      cases x <;> cases y <;> cases z <;> cases u <;> rfl
    · simp only [h, decide_false, Bool.and_false, Bool.or_false, Bool.false_or]
      generalize decide (b.name = g.name) = x
      generalize List.any L _ = z
      generalize List.any L _ = u
      cases x <;> cases z <;> cases u <;> rfl
end Go.Proofs.Ytgnjohkfgllhmaa

/- impl.copyGlyph. Printed by mk_cg.py. Conditions: as each states. -/
namespace Go.Proofs.Ytgnjohkfgllhmaa
open Go.RowKit
set_option linter.unusedVariables false
set_option maxRecDepth 100000

set_option maxHeartbeats 400000 in
theorem copyGlyph_any (d : Gl) (h : GlH) (lo hi : Nat) (w : World) (hr : GlRd w lo hi d h) (hhi : hi ≤ w.heap.size) (hm : d.small 1048576) :
    Calls Try.prog 35 #[glV d h] w fun e w' => ∃ h' : GlH, e = .returned (glV d h') ∧ GlX w' w.heap.size w'.heap.size d h' ∧ Below w.heap.size w w' := by
  obtain ⟨hr0, hr1, hr2⟩ := hr
  have hm0 := Lib.hid (hm.out (n := h.out.n) hr0.1)
  have hm1 := Lib.hid (hm.parts (n := h.parts.n) hr1.1)
  have hm2 := Lib.hid (hm.anchors (n := h.anchors.n) hr2.1)
  have hz1 := Lib.hid (rdS_none hr1)
  have hz2 := Lib.hid (rdS_none hr2)
  clear hm
  replace hr0 := Lib.hid hr0
  replace hr1 := Lib.hid hr1
  replace hr2 := Lib.hid hr2
  have hB0 : Below w.heap.size w ((w.alloc (.cells #[.string d.name, .int .i64 d.code, .int .i64 d.adv, .slice h.out.A h.out.n h.out.c, .slice h.parts.A h.parts.n h.parts.c, .slice h.anchors.A h.anchors.n h.anchors.c, .string d.hints] 39 (0, 0))).alloc (.cells #[.string ⟨#[]⟩, .int .i64 0, .int .i64 0, .slice none 0 0, .slice none 0 0, .slice none 0 0, .string ⟨#[]⟩] 39 (0, 0))) := Go.Joins.below_alloc2 _ _ _
  have hnew := Lib.hid (heap_new2 w (.cells #[.string d.name, .int .i64 d.code, .int .i64 d.adv, .slice h.out.A h.out.n h.out.c, .slice h.parts.A h.parts.n h.parts.c, .slice h.anchors.A h.anchors.n h.anchors.c, .string d.hints] 39 (0, 0)) (.cells #[.string ⟨#[]⟩, .int .i64 0, .int .i64 0, .slice none 0 0, .slice none 0 0, .slice none 0 0, .string ⟨#[]⟩] 39 (0, 0)))
  have hs0 : ((w.alloc (.cells #[.string d.name, .int .i64 d.code, .int .i64 d.adv, .slice h.out.A h.out.n h.out.c, .slice h.parts.A h.parts.n h.parts.c, .slice h.anchors.A h.anchors.n h.anchors.c, .string d.hints] 39 (0, 0))).alloc (.cells #[.string ⟨#[]⟩, .int .i64 0, .int .i64 0, .slice none 0 0, .slice none 0 0, .slice none 0 0, .string ⟨#[]⟩] 39 (0, 0))).heap.size = w.heap.size + 2 := by simp
  go_enter Try.func35, Try.ntmps35
  go_wp2_with fail
  generalize (w.alloc (.cells #[.string d.name, .int .i64 d.code, .int .i64 d.adv, .slice h.out.A h.out.n h.out.c, .slice h.parts.A h.parts.n h.parts.c, .slice h.anchors.A h.anchors.n h.anchors.c, .string d.hints] 39 (0, 0))).alloc (.cells #[.string ⟨#[]⟩, .int .i64 0, .int .i64 0, .slice none 0 0, .slice none 0 0, .slice none 0 0, .string ⟨#[]⟩] 39 (0, 0)) = w0 at *
  have hzl : w0.heap.size ≤ w.heap.size + 2 := by omega
  have hzg : w.heap.size + 2 ≤ w0.heap.size := by omega
  clear hs0
  refine (copyOutline_any _ _ _ lo hi d.out w0 (hr0.out.frame good_loop (Below.sameB hB0 hhi)) (by omega) hm0.out.1 hm0.out.2).mono ?_
  rintro e w1 ⟨A1, c1, rfl, ho1, hb1⟩
  have hs1 := hb1.size
  obtain ⟨y1, in1⟩ := ho1.in
  replace in1 := Lib.hid (in1.wide hzg (Nat.le_refl _))
  clear ho1
  have hB1 : Below w.heap.size w w1 := hB0.trans (hb1.mono (by omega))
  have X1 : Hid (w1.heap[w.heap.size]? = some (.cells #[.string d.name, .int .i64 d.code, .int .i64 d.adv, .slice h.out.A h.out.n h.out.c, .slice h.parts.A h.parts.n h.parts.c, .slice h.anchors.A h.anchors.n h.anchors.c, .string d.hints] 39 (0, 0))) := (hb1.block _ (by omega)).trans hnew.out.1
  have R1 : Hid (w1.heap[w.heap.size + 1]? = some (.cells #[.string ⟨#[]⟩, .int .i64 0, .int .i64 0, .slice none 0 0, .slice none 0 0, .slice none 0 0, .string ⟨#[]⟩] 39 (0, 0))) := (hb1.block _ (by omega)).trans hnew.out.2
  clear hb1 hnew
  have b3 : w1.cell? ⟨w.heap.size, 3, none⟩ = some (.slice h.out.A h.out.n h.out.c) := by rw [Go.Joins.cell_of_block X1.out]; rfl
  have b4 : w1.cell? ⟨w.heap.size, 4, none⟩ = some (.slice h.parts.A h.parts.n h.parts.c) := by rw [Go.Joins.cell_of_block X1.out]; rfl
  have bf : ∀ o, w1.frozen? ⟨w.heap.size, o, none⟩ = false := Go.Joins.unfrozen_of_block X1.out
  have bl : w.heap.size < w1.heap.size := by omega
  go_wp2_with fail
  have hBs1 : Below w.heap.size w (w1.setCell ⟨w.heap.size, 3, none⟩ (.slice A1 h.out.n c1)) := hB1.setCell (Nat.le_refl _) _
  refine (clonePart_any _ _ _ lo hi d.parts (w1.setCell ⟨w.heap.size, 3, none⟩ (.slice A1 h.out.n c1)) (hr1.out.frame (good_flat _) (Below.sameB hBs1 hhi)) hm1.out hz1.out).mono ?_
  rintro e w2 ⟨A2, c2, rfl, ho2, hb2⟩
  have hs2 := hb2.size
  simp at hs2
  have hB2 : Below w.heap.size w w2 := hBs1.trans (hb2.mono (by simp; omega))
  have X2 : Hid (w2.heap[w.heap.size]? = some (.cells #[.string d.name, .int .i64 d.code, .int .i64 d.adv, .slice A1 h.out.n c1, .slice h.parts.A h.parts.n h.parts.c, .slice h.anchors.A h.anchors.n h.anchors.c, .string d.hints] 39 (0, 0))) := (hb2.block _ (by simp; omega)).trans (Go.Joins.block_setCell X1.out _)
  have R2 : Hid (w2.heap[w.heap.size + 1]? = some (.cells #[.string ⟨#[]⟩, .int .i64 0, .int .i64 0, .slice none 0 0, .slice none 0 0, .slice none 0 0, .string ⟨#[]⟩] 39 (0, 0))) := (hb2.block _ (by simp; omega)).trans ((Below.heap_setCell _ _ _ _ (by simp)).trans R1.out)
  have sm1 : SameB (w.heap.size + 2) w1.heap.size w1 w2 := (SameB.setCell (SameB.refl _ _ w1) (.inl (by simp)) _).trans (Below.sameB hb2 (by simp))
  have in2 := Lib.hid ((in1.out.same sm1).wide (Nat.le_refl _) hs2)
  replace ho2 := Lib.hid (own_lower ho2 (lo' := w.heap.size + 2) (by simp; omega))
  clear hb2 X1 R1 b3 b4 bf bl sm1 hBs1
  have b4 : w2.cell? ⟨w.heap.size, 4, none⟩ = some (.slice h.parts.A h.parts.n h.parts.c) := by rw [Go.Joins.cell_of_block X2.out]; rfl
  have b5 : w2.cell? ⟨w.heap.size, 5, none⟩ = some (.slice h.anchors.A h.anchors.n h.anchors.c) := by rw [Go.Joins.cell_of_block X2.out]; rfl
  have bf : ∀ o, w2.frozen? ⟨w.heap.size, o, none⟩ = false := Go.Joins.unfrozen_of_block X2.out
  have bl : w.heap.size < w2.heap.size := by omega
  go_wp2_with fail
  have hBs2 : Below w.heap.size w (w2.setCell ⟨w.heap.size, 4, none⟩ (.slice A2 h.parts.n c2)) := hB2.setCell (Nat.le_refl _) _
  refine (cloneAnchor_any _ _ _ lo hi d.anchors (w2.setCell ⟨w.heap.size, 4, none⟩ (.slice A2 h.parts.n c2)) (hr2.out.frame (good_flat _) (Below.sameB hBs2 hhi)) hm2.out hz2.out).mono ?_
  rintro e w3 ⟨A3, c3, rfl, ho3, hb3⟩
  have hs3 := hb3.size
  simp at hs3
  have hB3 : Below w.heap.size w w3 := hBs2.trans (hb3.mono (by simp; omega))
  have X3 : Hid (w3.heap[w.heap.size]? = some (.cells #[.string d.name, .int .i64 d.code, .int .i64 d.adv, .slice A1 h.out.n c1, .slice A2 h.parts.n c2, .slice h.anchors.A h.anchors.n h.anchors.c, .string d.hints] 39 (0, 0))) := (hb3.block _ (by simp; omega)).trans (Go.Joins.block_setCell X2.out _)
  have R3 : Hid (w3.heap[w.heap.size + 1]? = some (.cells #[.string ⟨#[]⟩, .int .i64 0, .int .i64 0, .slice none 0 0, .slice none 0 0, .slice none 0 0, .string ⟨#[]⟩] 39 (0, 0))) := (hb3.block _ (by simp; omega)).trans ((Below.heap_setCell _ _ _ _ (by simp)).trans R2.out)
  have sm2 : SameB (w.heap.size + 2) w2.heap.size w2 w3 := (SameB.setCell (SameB.refl _ _ w2) (.inl (by simp)) _).trans (Below.sameB hb3 (by simp))
  have in3 := Lib.hid ((in2.out.same sm2).wide (Nat.le_refl _) hs3)
  have hp3 := Lib.hid (own_same ho2.out fun g hg => sm2 g (ho2.out.lt g hg).1 (ho2.out.lt g hg).2)
  replace ho3 := Lib.hid (own_lower ho3 (lo' := w.heap.size + 2) (by simp; omega))
  clear hb3 X2 R2 b4 b5 bf bl sm2 hBs2 in1 in2 ho2
  have b0 : w3.cell? ⟨w.heap.size, 0, none⟩ = some (.string d.name) := by rw [Go.Joins.cell_of_block X3.out]; rfl
  have b1 : w3.cell? ⟨w.heap.size, 1, none⟩ = some (.int .i64 d.code) := by rw [Go.Joins.cell_of_block X3.out]; rfl
  have b2 : w3.cell? ⟨w.heap.size, 2, none⟩ = some (.int .i64 d.adv) := by rw [Go.Joins.cell_of_block X3.out]; rfl
  have b3 : w3.cell? ⟨w.heap.size, 3, none⟩ = some (.slice A1 h.out.n c1) := by rw [Go.Joins.cell_of_block X3.out]; rfl
  have b4 : w3.cell? ⟨w.heap.size, 4, none⟩ = some (.slice A2 h.parts.n c2) := by rw [Go.Joins.cell_of_block X3.out]; rfl
  have b5 : w3.cell? ⟨w.heap.size, 5, none⟩ = some (.slice h.anchors.A h.anchors.n h.anchors.c) := by rw [Go.Joins.cell_of_block X3.out]; rfl
  have b6 : w3.cell? ⟨w.heap.size, 6, none⟩ = some (.string d.hints) := by rw [Go.Joins.cell_of_block X3.out]; rfl
  have bf : ∀ o, w3.frozen? ⟨w.heap.size, o, none⟩ = false := Go.Joins.unfrozen_of_block X3.out
  have r0 : w3.cell? ⟨w.heap.size + 1, 0, none⟩ = some (.string ⟨#[]⟩) := by rw [Go.Joins.cell_of_block R3.out]; rfl
  have r1 : w3.cell? ⟨w.heap.size + 1, 1, none⟩ = some (.int .i64 0) := by rw [Go.Joins.cell_of_block R3.out]; rfl
  have r2 : w3.cell? ⟨w.heap.size + 1, 2, none⟩ = some (.int .i64 0) := by rw [Go.Joins.cell_of_block R3.out]; rfl
  have r3 : w3.cell? ⟨w.heap.size + 1, 3, none⟩ = some (.slice none 0 0) := by rw [Go.Joins.cell_of_block R3.out]; rfl
  have r4 : w3.cell? ⟨w.heap.size + 1, 4, none⟩ = some (.slice none 0 0) := by rw [Go.Joins.cell_of_block R3.out]; rfl
  have r5 : w3.cell? ⟨w.heap.size + 1, 5, none⟩ = some (.slice none 0 0) := by rw [Go.Joins.cell_of_block R3.out]; rfl
  have r6 : w3.cell? ⟨w.heap.size + 1, 6, none⟩ = some (.string ⟨#[]⟩) := by rw [Go.Joins.cell_of_block R3.out]; rfl
  have rf : ∀ o, w3.frozen? ⟨w.heap.size + 1, o, none⟩ = false := Go.Joins.unfrozen_of_block R3.out
  have bl : w.heap.size + 1 < w3.heap.size := by omega
  go_wp2_with fail
  refine bodyPost_ret (v := glV d ⟨⟨A1, h.out.n, c1⟩, ⟨A2, h.parts.n, c2⟩, ⟨A3, h.anchors.n, c3⟩⟩) (by simp [results, Try.results35, go_sem, r0, r1, r2, r3, r4, r5, r6]) rfl ⟨_, rfl, ?_, ?_⟩
  · have hx : GlX w3 (w.heap.size + 2) w3.heap.size d ⟨⟨A1, h.out.n, c1⟩, ⟨A2, h.parts.n, c2⟩, ⟨A3, h.anchors.n, c3⟩⟩ := ⟨⟨y1, in3.out⟩, hp3.out, hr1.out.1, fun g hg => (hp3.out.lt g hg).2, ho3.out, hr2.out.1, fun g hg => (ho3.out.lt g hg).2, own_nc ho3.out⟩
    have k : w.heap.size + 1 < w.heap.size + 2 := by omega
    have k0 : w.heap.size < w.heap.size + 2 := by omega
    exact (hx.same (((((((((SameB.refl _ _ w3).setCell (.inl k0) _).setCell (.inl k) _).setCell (.inl k) _).setCell (.inl k) _).setCell (.inl k) _).setCell (.inl k) _).setCell (.inl k) _).setCell (.inl k) _)).wide (by omega) (by simp)
  · have k : w.heap.size ≤ w.heap.size + 1 := by omega
    exact ((((((((hB3.setCell (Nat.le_refl _) _).setCell k _).setCell k _).setCell k _).setCell k _).setCell k _).setCell k _).setCell k _)
end Go.Proofs.Ytgnjohkfgllhmaa

/- copySet and l17Own: a set of the call's own, glyph by glyph. Printed by mk_cs.py. Conditions: as each states. -/
namespace Go.Proofs.Ytgnjohkfgllhmaa
open Go.RowKit
set_option linter.unusedVariables false
set_option maxRecDepth 100000

set_option maxHeartbeats 2000000 in
theorem copySet_flat (unit : Int) (L : List Gl) (A : Option Addr) (n c lo hi : Nat) (w : World) (hr : GsRd w lo hi A n L) (hhi : hi ≤ w.heap.size) (hn : n ≤ 1048576) (hg : ∀ g ∈ L, g.small 1048576) :
    Calls Try.prog 34 #[.agg #[.int .i64 unit, .slice A n c]] w fun e w' => ∃ A' c' ys hs iv, e = .returned (.agg #[.int .i64 unit, .slice A' n c']) ∧ GsX w' w.heap.size w'.heap.size A' n c' L ys hs iv ∧ Below w.heap.size w w' := by
  have hll := Lib.hid hr.1
  replace hr := Lib.hid hr
  replace hg := Lib.hid hg
  go_enter Try.func34, Try.ntmps34
  go_wp2_with fail
  go_loopw [12] (fun i wr => ∃ (k : Nat) (Ao : Option Addr) (co : Nat) (ys : List Value) (hs : Nat → GlH) (iv : Nat → Nat × Nat), i = .int .i64 k ∧ k ≤ n ∧ GsX wr (w.heap.size + 3) wr.heap.size Ao k co (L.take k) ys hs iv ∧ wr.heap[w.heap.size + 2]? = some (.cells #[.int .i64 unit, .slice Ao k co] 26 (0, 0)) ∧ wr.heap[w.heap.size + 1]? = some (.cells #[.int .i64 0, .slice none 0 0] 26 (0, 0)) ∧ w.heap.size + 3 ≤ wr.heap.size ∧ Below w.heap.size w wr) (fun i wr => n - (intOf i).toNat)
  case atStart =>
    have hnew := heap_new0 w (.cells #[.int .i64 unit, .slice A n c] 26 (0, 0)) (.cells #[.int .i64 0, .slice none 0 0] 26 (0, 0)) (.cells #[.int .i64 unit, .slice none 0 0] 26 (0, 0))
    exact ⟨0, none, 0, [], fun _ => ⟨⟨none, 0, 0⟩, ⟨none, 0, 0⟩, ⟨none, 0, 0⟩⟩, fun _ => (0, 0), rfl, Nat.zero_le _, GsX.none _ _ _ 0 _ _, hnew.2.2, hnew.2.1, by simp, ((((Below.refl _ _).alloc (Nat.le_refl _) _).alloc (by simp) _).alloc (by simp <;> omega) _)⟩
  case round =>
    obtain ⟨k, Ao, co, ys, hs, iv, rfl, hk, hx, q2, q1, hz, hbel⟩ := hrel
    have hown := Lib.hid hx.2.1
    replace hx := Lib.hid hx
    have c0 : wr.cell? ⟨w.heap.size + 1 + 1, 0, none⟩ = some (.int .i64 unit) := by rw [show w.heap.size + 1 + 1 = w.heap.size + 2 from rfl, Go.Joins.cell_of_block q2]; rfl
    have c1 : wr.cell? ⟨w.heap.size + 1 + 1, 1, none⟩ = some (.slice Ao k co) := by rw [show w.heap.size + 1 + 1 = w.heap.size + 2 from rfl, Go.Joins.cell_of_block q2]; rfl
    have f2 : ∀ o, wr.frozen? ⟨w.heap.size + 1 + 1, o, none⟩ = false := Go.Joins.unfrozen_of_block q2
    have hz2 : w.heap.size + 1 + 1 < wr.heap.size := by omega
    replace q1 := Lib.hid q1
    replace q2 := Lib.hid q2
    by_cases hlt : k < n
    · obtain ⟨b, off, dg, hh, rfl, hb0, hb, hja, hcs, hrd⟩ := gs_at (hr.out.frame good_glyph (Below.sameB hbel hhi)) hlt
      have g0 := hcs 0 _ rfl
      have g1 := hcs 1 _ rfl
      have g2 := hcs 2 _ rfl
      have g3 := hcs 3 _ rfl
      have g4 := hcs 4 _ rfl
      have g5 := hcs 5 _ rfl
      have g6 := hcs 6 _ rfl
      simp only [Nat.add_zero] at g0 g1 g2 g3 g4 g5 g6
      have hbw : b < wr.heap.size := by omega
      have hsm := hg.out dg (List.mem_of_getElem? hja)
      have hcall := Lib.hid (fun W (hS : SameB 0 wr.heap.size wr W) (hzW : wr.heap.size ≤ W.heap.size) => copyGlyph_any dg hh lo hi W (hrd.frame (hS.mono (Nat.zero_le _) (by omega))) (by omega) hsm)
      clear hcs hrd hsm hb0 hb
      replace hja := Lib.hid hja
      go_wp2_with fail
      go_region_law (first | (refine stepAppN rfl (.tmp 17) (.tmp 20) elemGlyph rfl (v := .slice Ao k co) (n := k) (xs := ys) rfl ((own_below hown.out hB1.out).alloc _) rfl (src_at (cs := [.string dg.name, .int .i64 dg.code, .int .i64 dg.adv, .slice h4.out.A h4.out.n h4.out.c, .slice h4.parts.A h4.parts.n h4.parts.c, .slice h4.anchors.A h4.anchors.n h4.anchors.c, .string dg.hints]) rfl (by simp [Value.oneCell']) (by simp)) (by omega) (by omega) (by simp; omega) (k + 1) rfl ?_; intro A4 c4 w2 ho2 hg2 hbk2; have hne : (Value.slice Ao k co).ownBlock ≠ some (w.heap.size + 1 + 1) := (fun e => by have := (hown.out.lt _ e).1; omega); have hk2 : w2.heap[w.heap.size + 1 + 1]? = wr.heap[w.heap.size + 1 + 1]? := ((hg2.block _ (by simp; omega) (fun e => hne e.symm)).trans (Below.heap_alloc _ _ _ (by omega))).trans (hB1.out.block _ hz2); have r4 : w2.cell? ⟨w.heap.size + 1 + 1, 1, none⟩ = some (.slice Ao k co) := ((World.cell?_of_block hk2).trans c1); have f4 : ∀ o, w2.frozen? ⟨w.heap.size + 1 + 1, o, none⟩ = false := (fun o => (World.frozen?_of_block hk2).trans (f2 o)); replace hk2 := Lib.hid hk2; clear hne; replace ho2 := Lib.hid ho2; replace hg2 := Lib.hid hg2; replace hbk2 := Lib.hid hbk2) | (go_simp; go_at_call 35; refine (hcall.out _ (by repeat (first | exact SameB.refl _ _ _ | refine SameB.drew ?_ | refine SameB.alloc ?_ (by simp <;> omega) _)) (by simp)).mono ?_; rintro e w1 ⟨h4, rfl, hX1, hb1⟩; have hB1 : Below wr.heap.size wr w1 := (((Below.refl _ _).alloc (Nat.le_refl _) _).drew).trans (hb1.mono (by simp)); have hs1 : wr.heap.size + 1 ≤ w1.heap.size := (by have := hb1.size; simp at this; exact this); have r3 : w1.cell? ⟨w.heap.size + 1 + 1, 1, none⟩ = some (.slice Ao k co) := (by rw [hB1.cell hz2]; exact c1); replace hX1 := Lib.hid hX1; replace hB1 := Lib.hid hB1; have hs2 : w.heap.size + 1 + 1 < w1.heap.size := (by omega); clear hb1; dsimp only))
      all_goals
        go_wp2_with fail
        go_roundw
        case rel =>
          have hB := hB1.out
          have hg2 := hg2.out
          have hgs := hg2.size
          simp at hgs
          have ho := hown.out
          have hne1 : (Value.slice Ao k co).ownBlock ≠ some (w.heap.size + 1) := fun e => by have := (ho.lt _ e).1; omega
          have hk1 : w2.heap[w.heap.size + 1]? = wr.heap[w.heap.size + 1]? := ((hg2.block _ (by simp; omega) (fun e => hne1 e.symm)).trans (Below.heap_alloc _ _ _ (by omega))).trans (hB.block _ (by omega))
          have hxw := (hX1.out.wide (lo' := wr.heap.size) (by simp) (Nat.le_refl _)).same ((SameB.refl _ _ w1).alloc (Nat.le_refl _) (.cells #[.string dg.name, .int .i64 dg.code, .int .i64 dg.adv, .slice h4.out.A h4.out.n h4.out.c, .slice h4.parts.A h4.parts.n h4.parts.c, .slice h4.anchors.A h4.anchors.n h4.anchors.c, .string dg.hints] 39 (0, 0)))
          have hnx := GsX.next (w1 := w1.alloc (.cells #[.string dg.name, .int .i64 dg.code, .int .i64 dg.adv, .slice h4.out.A h4.out.n h4.out.c, .slice h4.parts.A h4.parts.n h4.parts.c, .slice h4.anchors.A h4.anchors.n h4.anchors.c, .string dg.hints] 39 (0, 0))) hx.out hz (hB.alloc hB.size _) hxw (by omega) (by simp) ho2.out hg2 (hbk2.out.imp id fun e => ⟨_, by simp, e⟩)
          have htk : L.take (k + 1) = L.take k ++ [dg] := by rw [List.take_add_one, hja.out]; rfl
          refine ⟨k + 1, A4, c4, _, _, _, by go_num, by omega, by rw [htk]; exact (hnx.same ((SameB.refl _ _ w2).setCell (.inl (by simp)) _)).wide (Nat.le_refl _) (by simp), Go.Joins.block_setCell (hk2.out.trans q2.out) _, ?_, by simp; omega, ?_⟩
          · exact (Below.heap_setCell _ _ _ _ (by simp)).trans (hk1.trans q1.out)
          · exact (((hbel.trans (hB.mono hbel.size)).alloc (by omega) _).grown hg2 (by simp; omega) (fun g hgk => by have := (ho.lt g hgk).1; omega)).setCell (by simp; omega) _
        case measure => simp [intOf]; omega
    · have hkn : k = n := by omega
      have q1' : wr.cell? ⟨w.heap.size + 1, 0, none⟩ = some (.int .i64 0) := by rw [Go.Joins.cell_of_block q1.out]; rfl
      have q1'' : wr.cell? ⟨w.heap.size + 1, 1, none⟩ = some (.slice none 0 0) := by rw [Go.Joins.cell_of_block q1.out]; rfl
      have f1 : ∀ o, wr.frozen? ⟨w.heap.size + 1, o, none⟩ = false := Go.Joins.unfrozen_of_block q1.out
      have htk : L.take k = L := List.take_of_length_le (by rw [hll.out]; omega)
      rw [htk] at hx
      replace hkn := Lib.hid hkn
      go_wp2_with fail
      refine bodyPost_ret (v := .agg #[.int .i64 unit, .slice Ao n co]) (by have := hkn.out; simp [results, Try.results34, go_sem, q1', q1'', this]) rfl ⟨Ao, co, ys, hs, iv, rfl, ?_, ?_⟩
      · have hkn' := hkn.out
        subst hkn'
        exact (hx.out.same (((SameB.refl _ _ wr).setCell (.inl (by simp)) _).setCell (.inl (by simp)) _)).wide (by omega) (by simp)
      · exact (hbel.setCell (by simp) _).setCell (by simp) _

end Go.Proofs.Ytgnjohkfgllhmaa

/- spec.l17OwnGlyph: a glyph of the call's own. Printed by mk_og.py. Conditions: as each states. -/
namespace Go.Proofs.Ytgnjohkfgllhmaa
open Go.RowKit
set_option linter.unusedVariables false
set_option maxRecDepth 100000

set_option maxHeartbeats 4000000 in
theorem l17OwnGlyph_flat (d : Gl) (A3 A4 A5 : Option Addr) (n3 c3 n4 c4 n5 c5 gb go lo hi : Nat) (w : World) (hr0 : OutRd w lo hi A3 n3 d.out) (hr1 : RdS 3 (FlatR partC) w lo hi A4 n4 d.parts) (hr2 : RdS 3 (FlatR anchC) w lo hi A5 n5 d.anchors) (hhi : hi ≤ w.heap.size) (hm : d.small 1048576)
    (hc : ∀ (i : Nat) (u : Value), ([.string d.name, .int .i64 d.code, .int .i64 d.adv, .slice A3 n3 c3, .slice A4 n4 c4, .slice A5 n5 c5, .string d.hints] : List Value)[i]? = some u → w.cell? ⟨gb, go + i, none⟩ = some u) (hgb : gb < w.heap.size) :
    Calls Try.prog 64 #[.pointer (some ⟨gb, go, none⟩)] w fun e w' => ∃ h' : GlH, e = .returned (glV d h') ∧ GlX w' w.heap.size w'.heap.size d h' ∧ Below w.heap.size w w' := by
  have hm0 := Lib.hid (hm.out (n := n3) hr0.1)
  have hm1 := Lib.hid (hm.parts (n := n4) hr1.1)
  have hm2 := Lib.hid (hm.anchors (n := n5) hr2.1)
  have g0 := hc 0 _ rfl
  have g1 := hc 1 _ rfl
  have g2 := hc 2 _ rfl
  have g3 := hc 3 _ rfl
  have g4 := hc 4 _ rfl
  have g5 := hc 5 _ rfl
  have g6 := hc 6 _ rfl
  simp only [Nat.add_zero] at g0
  clear hm hc
  replace hr0 := Lib.hid hr0
  replace hr1 := Lib.hid hr1
  replace hr2 := Lib.hid hr2
  go_enter Try.func64, Try.ntmps64
  go_wp2_with fail

  go_loopw [4] (fun i wr => ∃ (k : Nat) (Ao : Option Addr) (co : Nat) (ys : List Value), i = .int .i64 k ∧ k ≤ n3 ∧ OutTo wr (w.heap.size + 2) Ao k co ys d.out ∧ wr.heap[w.heap.size + 1]? = some (.cells #[.string d.name, .int .i64 d.code, .int .i64 d.adv, .slice Ao k co, .slice A4 n4 c4, .slice A5 n5 c5, .string d.hints] 39 (0, 0)) ∧ wr.heap[w.heap.size]? = some (.cells #[.string ⟨#[]⟩, .int .i64 0, .int .i64 0, .slice none 0 0, .slice none 0 0, .slice none 0 0, .string ⟨#[]⟩] 39 (0, 0)) ∧ w.heap.size + 2 ≤ wr.heap.size ∧ Below w.heap.size w wr) (fun i wr => n3 - (intOf i).toNat)
  case atStart =>
    have hnew := heap_new0 w (.cells #[.string ⟨#[]⟩, .int .i64 0, .int .i64 0, .slice none 0 0, .slice none 0 0, .slice none 0 0, .string ⟨#[]⟩] 39 (0, 0)) (.cells #[.string d.name, .int .i64 d.code, .int .i64 d.adv, .slice (some ⟨w.heap.size + 1 + 1, 0, none⟩) 0 0, .slice A4 n4 c4, .slice A5 n5 c5, .string d.hints] 39 (0, 0)) (.cells #[] 107 (0, 0))
    have hE := World.ownsRow_made (base := w.heap.size + 2) (e := 107) (size := 1) ((w.alloc (.cells #[.string ⟨#[]⟩, .int .i64 0, .int .i64 0, .slice none 0 0, .slice none 0 0, .slice none 0 0, .string ⟨#[]⟩] 39 (0, 0))).alloc (.cells #[.string d.name, .int .i64 d.code, .int .i64 d.adv, .slice (some ⟨w.heap.size + 1 + 1, 0, none⟩) 0 0, .slice A4 n4 c4, .slice A5 n5 c5, .string d.hints] 39 (0, 0))) #[] 0 (by simp) (Nat.zero_le _) rfl
    exact ⟨0, some ⟨w.heap.size + 1 + 1, 0, none⟩, 0, [], rfl, Nat.zero_le _, ⟨by simpa using hE, fun j K hj => absurd hj (Nat.not_lt_zero j), fun i j u v _ hu => by simp at hu⟩, hnew.2.1, hnew.1, by simp, ((((Below.refl _ _).alloc (Nat.le_refl _) _).alloc (by simp) _).alloc (by simp <;> omega) _)⟩
  case round =>
    obtain ⟨k, Ao, co, ys, rfl, hk, hto, HO, HR, hz, hbel⟩ := hrel
    have hown := Lib.hid hto.1
    replace hto := Lib.hid hto
    have f1 : ∀ o, wr.frozen? ⟨w.heap.size + 1, o, none⟩ = false := Go.Joins.unfrozen_of_block HO
    have s0 : wr.cell? ⟨w.heap.size + 1, 3, none⟩ = some (.slice Ao k co) := by rw [Go.Joins.cell_of_block HO]; rfl
    have hgw : gb < wr.heap.size := by omega
    replace HR := Lib.hid HR
    by_cases hlt : k < n3
    · obtain ⟨b1, off1, K, A2, n2, c2, rfl, hb10, hb1h, hja, qk, hmx, hrk⟩ := out_at hr0.out hlt
      have hn2 := hrk.1
      subst hn2
      have hKl := hm0.out.2 K (List.mem_of_getElem? hja)
      have s1 : wr.cell? ⟨gb, go + 3, none⟩ = some (.slice (some ⟨b1, off1, none⟩) n3 c3) := (hbel.cell (by simp; omega)).trans g3
      have s2 : wr.cell? ⟨b1, off1 + k, none⟩ = some (.slice A2 K.length c2) := (hbel.cell (by simp; omega)).trans qk
      have hb1w : b1 < w.heap.size := by omega
      have hki : (k : Int) < (n3 : Int) := by omega
      have hn3 := hm0.out.1
      have hk0 : (0 : Int) ≤ (k : Int) := by omega
      have hoE := Lib.hid (World.ownsRow_made (base := wr.heap.size) (e := 167) (size := 3) wr.drew #[] 0 (Nat.le_refl _) (Nat.zero_le _) rfl)
      have hsE := Lib.hid (src_new0 (src_rd knotC_len knot_one (hrk.frame (good_flat _) (SameB.drew (Below.sameB hbel hhi)))) (.cells #[] 167 (0, 0)))
      clear hmx hb10 hrk
      replace hja := Lib.hid hja
      replace HO := Lib.hid HO
      go_wp2_with fail
      refine wp_region_head 17 (fun w' => w'.cell? ⟨w.heap.size + 1, 3, none⟩ = some (.slice Ao k co) ∧ w'.cell? ⟨gb, go + 3, none⟩ = some (.slice (some ⟨b1, off1, none⟩) n3 c3) ∧ w'.cell? ⟨b1, off1 + k, none⟩ = some (.slice A2 K.length c2)) (by kernel_rfl) (by kernel_rfl) (by exact ⟨s0, s1, s2⟩) (fun hHeld => ?_)
      simp only [List.take_succ_cons, List.take_zero, List.drop_succ_cons, List.drop_zero]
      refine wpAnyH_take (i := 0) (v := ?_) ((List.getElem?_toArray).trans rfl) (by kernel_rfl) (by kernel_rfl) (by kernel_rfl) (fun _ _ _ h => h) (Or.inl ⟨by rfl, ?_⟩) (by assumption) ?_
      rotate_left
      · (intro w hSw; (try dsimp only at hSw); go_simp; (try (with_reducible rfl)))
      (try simp only [Act.put, List.setIfInBounds_toArray, List.set_cons_zero, List.set_cons_succ])
      refine wpAnyH_take (i := 1) (v := ?_) ((List.getElem?_toArray).trans rfl) (by kernel_rfl) (by kernel_rfl) (by kernel_rfl) (fun _ _ _ h => h) (Or.inl ⟨by rfl, ?_⟩) (by assumption) ?_
      rotate_left
      · (intro w hSw; (try dsimp only at hSw); go_simp; (try (with_reducible rfl)))
      (try simp only [Act.put, List.setIfInBounds_toArray, List.set_cons_zero, List.set_cons_succ])
      refine wpAnyH_take (i := 2) (v := ?_) ((List.getElem?_toArray).trans rfl) (by kernel_rfl) (by kernel_rfl) (by kernel_rfl) (fun _ _ _ h => h) (Or.inl ⟨by rfl, ?_⟩) (by assumption) ?_
      rotate_left
      · (intro w hSw; (try dsimp only at hSw); go_simp; (try (with_reducible rfl)))
      (try simp only [Act.put, List.setIfInBounds_toArray, List.set_cons_zero, List.set_cons_succ])
      refine wpAnyH_take (i := 4) (v := ?_) ((List.getElem?_toArray).trans rfl) (by kernel_rfl) (by kernel_rfl) (by kernel_rfl) (fun _ _ _ h => h) (Or.inl ⟨by rfl, ?_⟩) (by assumption) ?_
      rotate_left
      · (intro w hSw; (try dsimp only at hSw); go_simp; (try (with_reducible rfl)))
      (try simp only [Act.put, List.setIfInBounds_toArray, List.set_cons_zero, List.set_cons_succ])
      refine wpAnyH_take (i := 5) (v := ?_) ((List.getElem?_toArray).trans rfl) (by kernel_rfl) (by kernel_rfl) (by kernel_rfl) (fun _ _ _ h => h) (Or.inl ⟨by rfl, ?_⟩) (by assumption) ?_
      rotate_left
      · (intro w hSw; (try dsimp only at hSw); go_simp; (try (with_reducible rfl)))
      (try simp only [Act.put, List.setIfInBounds_toArray, List.set_cons_zero, List.set_cons_succ])
      refine wpAnyH_take (i := 6) (v := ?_) ((List.getElem?_toArray).trans rfl) (by kernel_rfl) (by kernel_rfl) (by kernel_rfl) (fun _ _ _ h => h) (Or.inl ⟨by rfl, ?_⟩) (by assumption) ?_
      rotate_left
      · (intro w hSw; (try dsimp only at hSw); go_simp; (try (with_reducible rfl)))
      (try simp only [Act.put, List.setIfInBounds_toArray, List.set_cons_zero, List.set_cons_succ])
      refine wpAnyH_take (i := 7) (v := ?_) ((List.getElem?_toArray).trans rfl) (by kernel_rfl) (by kernel_rfl) (by kernel_rfl) (fun _ _ _ h => h) (Or.inl ⟨by rfl, ?_⟩) (by assumption) ?_
      rotate_left
      · (intro w hSw; (try dsimp only at hSw); go_simp; (try (with_reducible rfl)))
      (try simp only [Act.put, List.setIfInBounds_toArray, List.set_cons_zero, List.set_cons_succ])
      refine wpAnyH_take (i := 8) (v := ?_) ((List.getElem?_toArray).trans rfl) (by kernel_rfl) (by kernel_rfl) (by kernel_rfl) (fun _ _ _ h => h) (Or.inl ⟨by rfl, ?_⟩) (by assumption) ?_
      rotate_left
      · (intro w hSw; (try dsimp only at hSw); go_simp; (try (with_reducible rfl)))
      (try simp only [Act.put, List.setIfInBounds_toArray, List.set_cons_zero, List.set_cons_succ])
      refine wpAnyH_take (i := 9) (v := ?_) ((List.getElem?_toArray).trans rfl) (by kernel_rfl) (by kernel_rfl) (by kernel_rfl) (fun _ _ _ h => h) (Or.inl ⟨by rfl, ?_⟩) (by assumption) ?_
      rotate_left
      · (intro w hSw; (try dsimp only at hSw); go_simp; (try (with_reducible rfl)))
      (try simp only [Act.put, List.setIfInBounds_toArray, List.set_cons_zero, List.set_cons_succ])
      refine wpAnyH_take (i := 10) (v := ?_) ((List.getElem?_toArray).trans rfl) (by kernel_rfl) (by kernel_rfl) (by kernel_rfl) (fun _ _ _ h => h) (Or.inl ⟨by rfl, ?_⟩) (by assumption) ?_
      rotate_left
      · (intro w hSw; (try dsimp only at hSw); go_simp; (try (with_reducible rfl)))
      (try simp only [Act.put, List.setIfInBounds_toArray, List.set_cons_zero, List.set_cons_succ])
      refine wpAnyH_take (i := 11) (v := ?_) ((List.getElem?_toArray).trans rfl) (by kernel_rfl) (by kernel_rfl) (by kernel_rfl) (fun _ _ _ h => h) (Or.inl ⟨by rfl, ?_⟩) (by assumption) ?_
      rotate_left
      · (intro w hSw; (try dsimp only at hSw); go_simp; (try (with_reducible rfl)))
      (try simp only [Act.put, List.setIfInBounds_toArray, List.set_cons_zero, List.set_cons_succ])
      refine wpAnyH_take (i := 12) (v := ?_) ((List.getElem?_toArray).trans rfl) (by kernel_rfl) (by kernel_rfl) (by kernel_rfl) (fun _ _ _ h => h) (Or.inl ⟨by rfl, ?_⟩) (by assumption) ?_
      rotate_left
      · (intro w hSw; (try dsimp only at hSw); go_simp; (try (with_reducible rfl)))
      (try simp only [Act.put, List.setIfInBounds_toArray, List.set_cons_zero, List.set_cons_succ])
      refine wpAnyH_ready (rs := [3]) (by kernel_rfl) (by simp) ?_
      refine AllReadyH.cons ((List.getElem?_toArray).trans rfl) (fun K0 hK0 => ?_) AllReadyH.nil
      go_simp
      refine hK0.out _ _ ?_ (fun hHeld => ?_)
      · (exact ⟨Lib.cell?_alloc_some _ s0, Lib.cell?_alloc_some _ s1, Lib.cell?_alloc_some _ s2⟩)
      clear hK0 K0
      (try simp only [Act.put, List.setIfInBounds_toArray, List.set_cons_zero, List.set_cons_succ])
      refine wpAnyH_ready (rs := [13]) (by kernel_rfl) (by simp) ?_
      refine AllReadyH.cons ((List.getElem?_toArray).trans rfl) (fun K0 hK0 => ?_) AllReadyH.nil
      (refine stepAppAt rfl (.tmp 24) (.tmp 33) elemKnot rfl (v := .slice (some ⟨wr.heap.size, 0, none⟩) 0 0) (n := 0) (xs := []) rfl hoE.out rfl hsE.out (by omega) (by omega) (by simp) K.length (by omega) ?_; intro A6 c6 w6 ho6 hg6; have hb6 : Below wr.heap.size wr w6 := (((Below.refl _ _).drew).alloc (Nat.le_refl _) _).trans (below_app hoE.out hg6 (by simp)); have hz6 := hb6.size; have kz0 : w6.cell? ⟨w.heap.size + 1, 3, none⟩ = some (.slice Ao k co) ∧ w6.cell? ⟨gb, go + 3, none⟩ = some (.slice (some ⟨b1, off1, none⟩) n3 c3) ∧ w6.cell? ⟨b1, off1 + k, none⟩ = some (.slice A2 K.length c2) := ⟨(hb6.cell (by simp; omega)).trans s0, (hb6.cell (by simp; omega)).trans s1, (hb6.cell (by simp; omega)).trans s2⟩; replace ho6 := Lib.hid ho6; clear hg6)
      refine hK0.out _ _ ?_ (fun hHeld => ?_)
      · (exact kz0)
      clear hK0 K0
      (try simp only [Act.put, List.setIfInBounds_toArray, List.set_cons_zero, List.set_cons_succ])
      refine wpAnyH_take (i := 14) (v := ?_) ((List.getElem?_toArray).trans rfl) (by kernel_rfl) (by kernel_rfl) (by kernel_rfl) (fun _ _ _ h => h) (Or.inl ⟨by rfl, ?_⟩) (by assumption) ?_
      rotate_left
      · (intro w hSw; (try dsimp only at hSw); go_simp; (try (with_reducible rfl)))
      (try simp only [Act.put, List.setIfInBounds_toArray, List.set_cons_zero, List.set_cons_succ])
      refine wpAnyH_ready (rs := [15]) (by kernel_rfl) (by simp) ?_
      refine AllReadyH.cons ((List.getElem?_toArray).trans rfl) (fun K0 hK0 => ?_) AllReadyH.nil
      go_simp
      refine hK0.out _ _ ?_ (fun hHeld => ?_)
      · (exact ⟨Lib.cell?_alloc_some _ kz0.1, Lib.cell?_alloc_some _ kz0.2.1, Lib.cell?_alloc_some _ kz0.2.2⟩)
      clear hK0 K0
      (try simp only [Act.put, List.setIfInBounds_toArray, List.set_cons_zero, List.set_cons_succ])
      refine wpAnyH_ready (rs := [16]) (by kernel_rfl) (by simp) ?_
      refine AllReadyH.cons ((List.getElem?_toArray).trans rfl) (fun K0 hK0 => ?_) AllReadyH.nil
      (refine stepAppAt rfl (.tmp 23) (.tmp 36) elemLoop rfl (v := .slice Ao k co) (n := k) (xs := ys) rfl ((own_below hown.out hb6).alloc _) rfl (src_at (cs := [.slice A6 K.length c6]) rfl (by simp [Value.oneCell']) (by simp)) (by omega) (by omega) (by simp; omega) (k + 1) rfl ?_; intro A7 c7 w7 ho7 hg7; have hz7 := hg7.size; (try simp at hz7); have bk7 : ∀ b, b < w.heap.size + 2 → w7.heap[b]? = wr.heap[b]? := (fun b hb => ((hg7.block b (by simp; omega) (fun e => by have := (hown.out.lt _ e.symm).1; omega)).trans (Below.heap_alloc _ _ _ (by omega))).trans (hb6.block b (by omega))); have ky0 : w7.cell? ⟨w.heap.size + 1, 3, none⟩ = some (.slice Ao k co) ∧ w7.cell? ⟨gb, go + 3, none⟩ = some (.slice (some ⟨b1, off1, none⟩) n3 c3) ∧ w7.cell? ⟨b1, off1 + k, none⟩ = some (.slice A2 K.length c2) := ⟨(World.cell?_of_block (bk7 _ (by first | omega | (simp <;> omega)))).trans s0, (World.cell?_of_block (bk7 _ (by first | omega | (simp <;> omega)))).trans s1, (World.cell?_of_block (bk7 _ (by first | omega | (simp <;> omega)))).trans s2⟩; have kyf : ∀ o, w7.frozen? ⟨w.heap.size + 1, o, none⟩ = false := (fun o => (World.frozen?_of_block (bk7 _ (by first | omega | (simp <;> omega)))).trans (f1 o)); have ky1 := ky0.1; have hb7 : Below w.heap.size w w7 := ((hbel.trans (hb6.mono (by omega))).alloc (by omega) _).trans (below_app (own_lower ((own_below hown.out hb6).alloc _) (by omega)) hg7 (by simp; omega)); replace bk7 := Lib.hid bk7; replace ho7 := Lib.hid ho7; replace hg7 := Lib.hid hg7)
      refine hK0.out _ _ ?_ (fun hHeld => ?_)
      · (exact ky0)
      clear hK0 K0
      (try simp only [Act.put, List.setIfInBounds_toArray, List.set_cons_zero, List.set_cons_succ])
      refine wpAnyH_done (by kernel_rfl) ?_ _
      show wpList _ _ _ _ _ _
      all_goals
        go_wp2_with fail
        go_roundw
        case rel =>
          have hnx := OutTo.next (w1 := w6.alloc (.cells #[.slice A6 K.length c6] 107 (0, 0))) (B := wr.heap.size) hto.out hja.out ((hb6.alloc hb6.size _)) (ho6.out.alloc _) (Nat.le_refl _) hz ho7.out hg7.out
          refine ⟨k + 1, A7, c7, _, by go_num, by omega, hnx.set (by simp) _, Go.Joins.block_setCell ((bk7.out _ (by omega)).trans HO.out) _, ?_, by simp; omega, hb7.setCell (by simp) _⟩
          exact (Below.heap_setCell _ _ _ _ (by simp)).trans ((bk7.out _ (by omega)).trans HR.out)
        case measure => simp [intOf]; omega
    · have hkn : k = n3 := by omega
      have s1 : wr.cell? ⟨gb, go + 3, none⟩ = some (.slice A3 n3 c3) := (hbel.cell (by simp; omega)).trans g3
      have s4 : wr.cell? ⟨gb, go + 4, none⟩ = some (.slice A4 n4 c4) := (hbel.cell (by simp; omega)).trans g4
      have s5 : wr.cell? ⟨gb, go + 5, none⟩ = some (.slice A5 n5 c5) := (hbel.cell (by simp; omega)).trans g5
      have hne1 : ¬ gb = w.heap.size + 1 := by omega
      have hne2 : ¬ w.heap.size + 1 = gb := by omega
      have hXw : w.heap.size + 1 < wr.heap.size := by omega
      have hsP := Lib.hid (src_rd partC_len part_one (hr1.out.frame (good_flat _) (Below.sameB hbel hhi)))
      have hn4 := hm1.out
      have hn5 := hm2.out
      have hin : ∃ y, OutIn wr (w.heap.size + 2) wr.heap.size Ao n3 co y d.out := by
        obtain ⟨h1, h2, h3⟩ := hto.out
        refine OutOwn.in ⟨ys, hr0.out.1, by rw [← hkn]; exact h1, fun j K hj => h2 j K (by have := (List.getElem?_eq_some_iff.1 hj).1; have := hr0.out.1; omega) hj, h3⟩
      replace hin := Lib.hid hin
      have hMP := Lib.hid (World.ownsRow_made (base := wr.heap.size) (e := 32) (size := 3) wr #[] 0 (Nat.le_refl _) (Nat.zero_le _) rfl)
      replace HR := Lib.hid HR.out
      replace HO := Lib.hid HO
      replace hkn := Lib.hid hkn
      clear hown hto
      go_wp2_with (first | (at_builtin; refine wpApp rfl (.tmp 40) (.tmp 44) elemPart rfl (base := wr.heap.size) (v := .slice (some ⟨wr.heap.size, 0, none⟩) 0 0) rfl hMP.out rfl (src_new0 hsP.out _) (by omega) (by omega) (by simp) n4 (by omega) ?_; intro A8 c8 w8 ho8 hb8; have hB8 : Below wr.heap.size wr w8 := ((Below.refl _ _).alloc (Nat.le_refl _) _).trans hb8; have hz8 := hB8.size; have HO8 := Lib.hid ((hB8.block _ hXw).trans HO.out); have HR8 := Lib.hid ((hB8.block _ (by omega)).trans HR.out); have t4 : w8.cell? ⟨w.heap.size + 1, 4, none⟩ = some (.slice A4 n4 c4) := (by rw [Go.Joins.cell_of_block HO8.out]; rfl); have t5 : w8.cell? ⟨gb, go + 5, none⟩ = some (.slice A5 n5 c5) := (hB8.cell (by simp; omega)).trans s5; have tf : ∀ o, w8.frozen? ⟨w.heap.size + 1, o, none⟩ = false := Go.Joins.unfrozen_of_block HO8.out; have hl8 : w.heap.size + 1 < w8.heap.size := (by omega); have hg8 : gb < w8.heap.size := (by omega); have hzs : (w8.setCell ⟨w.heap.size + 1, 4, none⟩ (.slice A8 n4 c8)).heap.size = w8.heap.size := (by simp); have hMA := World.ownsRow_made (base := w8.heap.size) (e := 111) (size := 3) (w8.setCell ⟨w.heap.size + 1, 4, none⟩ (.slice A8 n4 c8)) #[] 0 (Nat.le_of_eq hzs.symm) (Nat.zero_le _) rfl; rw [hzs] at hMA; replace hMA := Lib.hid hMA; have hsA := Lib.hid (src_rd anchC_len anch_one (hr2.out.frame (good_flat _) (SameB.setCell ((Below.sameB hbel hhi).trans (Below.sameB hB8 (by omega))) (p := ⟨w.heap.size + 1, 4, none⟩) (.inr (by simp; omega)) (.slice A8 n4 c8)))); replace ho8 := Lib.hid ho8; replace hzs := Lib.hid hzs; clear hb8 s0 s1 s4 s5 f1) | (at_builtin; refine wpApp rfl (.tmp 47) (.tmp 51) elemAnchor rfl (base := w8.heap.size) (v := .slice (some ⟨w8.heap.size, 0, none⟩) 0 0) rfl hMA.out rfl (src_new0 hsA.out _) (by omega) (by omega) (by simp) n5 (by omega) ?_; intro A9 c9 w9 ho9 hb9; have hB9 : Below w8.heap.size (w8.setCell ⟨w.heap.size + 1, 4, none⟩ (.slice A8 n4 c8)) w9 := ((Below.refl _ _).alloc (by simp) _).trans hb9; have hz9 : w8.heap.size ≤ w9.heap.size := (by have := hB9.size; simp at this; exact this); have HO9 : Hid (w9.heap[w.heap.size + 1]? = some (.cells #[.string d.name, .int .i64 d.code, .int .i64 d.adv, .slice Ao k co, .slice A8 n4 c8, .slice A5 n5 c5, .string d.hints] 39 (0, 0))) := (hB9.block _ (by omega)).trans (Go.Joins.block_setCell HO8.out _); have HR9 := Lib.hid ((hB9.block w.heap.size (by omega)).trans ((Below.heap_setCell _ _ _ _ (by simp)).trans HR8.out)); have v0 : w9.cell? ⟨w.heap.size + 1, 0, none⟩ = some (.string d.name) := (by rw [Go.Joins.cell_of_block HO9.out]; rfl); have v1 : w9.cell? ⟨w.heap.size + 1, 1, none⟩ = some (.int .i64 d.code) := (by rw [Go.Joins.cell_of_block HO9.out]; rfl); have v2 : w9.cell? ⟨w.heap.size + 1, 2, none⟩ = some (.int .i64 d.adv) := (by rw [Go.Joins.cell_of_block HO9.out]; rfl); have v3 : w9.cell? ⟨w.heap.size + 1, 3, none⟩ = some (.slice Ao k co) := (by rw [Go.Joins.cell_of_block HO9.out]; rfl); have v4 : w9.cell? ⟨w.heap.size + 1, 4, none⟩ = some (.slice A8 n4 c8) := (by rw [Go.Joins.cell_of_block HO9.out]; rfl); have v5 : w9.cell? ⟨w.heap.size + 1, 5, none⟩ = some (.slice A5 n5 c5) := (by rw [Go.Joins.cell_of_block HO9.out]; rfl); have v6 : w9.cell? ⟨w.heap.size + 1, 6, none⟩ = some (.string d.hints) := (by rw [Go.Joins.cell_of_block HO9.out]; rfl); have vf : ∀ o, w9.frozen? ⟨w.heap.size + 1, o, none⟩ = false := Go.Joins.unfrozen_of_block HO9.out; have r0 : w9.cell? ⟨w.heap.size, 0, none⟩ = some (.string ⟨#[]⟩) := (by rw [Go.Joins.cell_of_block HR9.out]; rfl); have r1 : w9.cell? ⟨w.heap.size, 1, none⟩ = some (.int .i64 0) := (by rw [Go.Joins.cell_of_block HR9.out]; rfl); have r2 : w9.cell? ⟨w.heap.size, 2, none⟩ = some (.int .i64 0) := (by rw [Go.Joins.cell_of_block HR9.out]; rfl); have r3 : w9.cell? ⟨w.heap.size, 3, none⟩ = some (.slice none 0 0) := (by rw [Go.Joins.cell_of_block HR9.out]; rfl); have r4 : w9.cell? ⟨w.heap.size, 4, none⟩ = some (.slice none 0 0) := (by rw [Go.Joins.cell_of_block HR9.out]; rfl); have r5 : w9.cell? ⟨w.heap.size, 5, none⟩ = some (.slice none 0 0) := (by rw [Go.Joins.cell_of_block HR9.out]; rfl); have r6 : w9.cell? ⟨w.heap.size, 6, none⟩ = some (.string ⟨#[]⟩) := (by rw [Go.Joins.cell_of_block HR9.out]; rfl); have rf : ∀ o, w9.frozen? ⟨w.heap.size, o, none⟩ = false := Go.Joins.unfrozen_of_block HR9.out; have hl9 : w.heap.size + 1 < w9.heap.size := (by omega); replace ho9 := Lib.hid ho9; clear hb9 t4 t5 tf))
      have hkn' := hkn.out
      subst hkn'
      refine bodyPost_ret (v := glV d ⟨⟨Ao, k, co⟩, ⟨A8, n4, c8⟩, ⟨A9, n5, c9⟩⟩) (by simp [results, Try.results64, go_sem, r0, r1, r2, r3, r4, r5, r6]) rfl ⟨_, rfl, ?_, ?_⟩
      · obtain ⟨y, hy⟩ := hin.out
        have sm9 : SameB (w.heap.size + 2) w8.heap.size w8 w9 := ((SameB.refl _ _ w8).setCell (p := ⟨w.heap.size + 1, 4, none⟩) (.inl (by simp)) (.slice A8 n4 c8)).trans (Below.sameB hB9 (by simp))
        have smr : SameB (w.heap.size + 2) wr.heap.size wr w9 := (Below.sameB hB8 (Nat.le_refl _)).trans (sm9.mono (Nat.le_refl _) hz8)
        have hp := own_lower (lo' := w.heap.size + 2) (own_same ho8.out fun g hg => sm9 g (by have := (ho8.out.lt g hg).1; omega) (ho8.out.lt g hg).2) (by omega)
        have ha := own_lower (lo' := w.heap.size + 2) ho9.out (by omega)
        have hx : GlX w9 (w.heap.size + 2) w9.heap.size d ⟨⟨Ao, k, co⟩, ⟨A8, n4, c8⟩, ⟨A9, n5, c9⟩⟩ := ⟨⟨y, (hy.same smr).wide (Nat.le_refl _) (by omega)⟩, by simpa using hp, hr1.out.1, fun g hg => (hp.lt g hg).2, by simpa using ha, hr2.out.1, fun g hg => (ha.lt g hg).2, own_nc ha⟩
        have k1 : w.heap.size < w.heap.size + 2 := by omega
        have k0 : w.heap.size + 1 < w.heap.size + 2 := by omega
        exact (hx.same (((((((((SameB.refl _ _ w9).setCell (.inl k0) _).setCell (.inl k1) _).setCell (.inl k1) _).setCell (.inl k1) _).setCell (.inl k1) _).setCell (.inl k1) _).setCell (.inl k1) _).setCell (.inl k1) _)).wide (by omega) (by simp)
      · have hb9 : Below w.heap.size w w9 := ((hbel.trans (hB8.mono (by omega))).setCell (p := ⟨w.heap.size + 1, 4, none⟩) (by simp) (.slice A8 n4 c8)).trans (hB9.mono (by omega))
        have k0 : w.heap.size ≤ w.heap.size + 1 := by omega
        have k1 := Nat.le_refl w.heap.size
        exact ((((((((hb9.setCell k0 _).setCell k1 _).setCell k1 _).setCell k1 _).setCell k1 _).setCell k1 _).setCell k1 _).setCell k1 _)
end Go.Proofs.Ytgnjohkfgllhmaa

/- spec.l17Own: a set of the call's own, glyph by glyph. Printed by mk_ow.py. Conditions: as each states. -/
namespace Go.Proofs.Ytgnjohkfgllhmaa
open Go.RowKit
set_option linter.unusedVariables false
set_option maxRecDepth 100000

theorem gsX_setOther {w : World} {lo hi n c : Nat} {A : Option Addr} {L : List Gl} {ys : List Value} {hs : Nat → GlH} {iv : Nat → Nat × Nat} (h : GsX w lo hi A n c L ys hs iv) {b i : Nat} (hb : (Value.slice A n c).ownBlock ≠ some b) (hj : ∀ j, j < n → b < (iv j).1 ∨ (iv j).2 ≤ b) (u : Value) : GsX (w.setCell ⟨b, i, none⟩ u) lo hi A n c L ys hs iv := by
  obtain ⟨h1, h2, h3, h4, h5, h6⟩ := h
  refine ⟨h1, own_same h2 fun g hg => Below.heap_setCell _ _ _ _ (by simp; intro e; subst e; exact hb hg), h3, fun j g hg => ?_, h5, h6⟩
  have hjn : j < n := by have := (List.getElem?_eq_some_iff.1 hg).1; omega
  exact ⟨(h4 j g hg).1, (h4 j g hg).2.same ((SameB.refl _ _ w).setCell (p := ⟨b, i, none⟩) (hj j hjn) u)⟩

set_option maxHeartbeats 2000000 in
theorem l17Own_flat (unit : Int) (L : List Gl) (A : Option Addr) (n c lo hi sb so : Nat) (w : World) (hr : GsRd w lo hi A n L) (hhi : hi ≤ w.heap.size) (hn : n ≤ 1048576) (hg : ∀ g ∈ L, g.small 1048576) (hc0 : w.cell? ⟨sb, so, none⟩ = some (.int .i64 unit)) (hc1 : w.cell? ⟨sb, so + 1, none⟩ = some (.slice A n c)) (hsb : sb < w.heap.size) :
    Calls Try.prog 63 #[.pointer (some ⟨sb, so, none⟩)] w fun e w' => ∃ A' c' ys hs iv, e = .returned (.agg #[.int .i64 unit, .slice A' n c']) ∧ GsX w' w.heap.size w'.heap.size A' n c' L ys hs iv ∧ Below w.heap.size w w' := by
  have hll := Lib.hid hr.1
  replace hr := Lib.hid hr
  replace hg := Lib.hid hg
  go_enter Try.func63, Try.ntmps63
  go_wp2_with fail
  go_loopw [4] (fun i wr => ∃ (k : Nat) (Ao : Option Addr) (co : Nat) (ys : List Value) (hs : Nat → GlH) (iv : Nat → Nat × Nat), i = .int .i64 k ∧ k ≤ n ∧ GsX wr (w.heap.size + 1) wr.heap.size Ao k co (L.take k) ys hs iv ∧ (∀ j, j < k → w.heap.size + 3 ≤ (iv j).1) ∧ wr.heap[w.heap.size + 2]? = some (.cells #[.int .i64 unit, .slice Ao k co] 26 (0, 0)) ∧ wr.heap[w.heap.size]? = some (.cells #[.int .i64 0, .slice none 0 0] 26 (0, 0)) ∧ w.heap.size + 3 ≤ wr.heap.size ∧ Below w.heap.size w wr) (fun i wr => n - (intOf i).toNat)
  case atStart =>
    have hnew := heap_new0 w (.cells #[.int .i64 0, .slice none 0 0] 26 (0, 0)) (.cells #[] 39 (0, 0)) (.cells #[.int .i64 unit, .slice (some ⟨w.heap.size + 1, 0, none⟩) 0 0] 26 (0, 0))
    have hE := (World.ownsRow_made (base := w.heap.size + 1) (e := 39) (size := 7) (w.alloc (.cells #[.int .i64 0, .slice none 0 0] 26 (0, 0))) #[] 0 (by simp) (Nat.zero_le _) rfl).alloc (.cells #[.int .i64 unit, .slice (some ⟨w.heap.size + 1, 0, none⟩) 0 0] 26 (0, 0))
    refine ⟨0, some ⟨w.heap.size + 1, 0, none⟩, 0, [], fun _ => ⟨⟨none, 0, 0⟩, ⟨none, 0, 0⟩, ⟨none, 0, 0⟩⟩, fun _ => (0, 0), rfl, Nat.zero_le _, ⟨rfl, by simpa using hE, fun g hg => ⟨?_, fun j hj => absurd hj (Nat.not_lt_zero j)⟩, fun j g hj => by simp at hj, fun j hj => absurd hj (Nat.not_lt_zero j), fun i j _ hj => absurd hj (Nat.not_lt_zero j)⟩, fun j hj => absurd hj (Nat.not_lt_zero j), hnew.2.2, hnew.1, by simp, ((((Below.refl _ _).alloc (Nat.le_refl _) _).alloc (by simp) _).alloc (by simp <;> omega) _)⟩
    simp [Value.ownBlock] at hg
    simp; omega
  case round =>
    obtain ⟨k, Ao, co, ys, hs, iv, rfl, hk, hx, hiv, q2, q1, hz, hbel⟩ := hrel
    have hown := Lib.hid hx.2.1
    have hnb : Hid ((Value.slice Ao k co).ownBlock ≠ some (w.heap.size + 1 + 1)) := fun e => by
      obtain ⟨cc, hcc⟩ := own_kind hown.out e
      rw [show w.heap.size + 1 + 1 = w.heap.size + 2 from rfl, q2] at hcc
      injection hcc with hcc
      injection hcc with _ h5 _
      exact absurd h5 (by decide)
    replace hx := Lib.hid hx
    replace hiv := Lib.hid hiv
    have c0 : wr.cell? ⟨w.heap.size + 1 + 1, 0, none⟩ = some (.int .i64 unit) := by rw [show w.heap.size + 1 + 1 = w.heap.size + 2 from rfl, Go.Joins.cell_of_block q2]; rfl
    have c1 : wr.cell? ⟨w.heap.size + 1 + 1, 1, none⟩ = some (.slice Ao k co) := by rw [show w.heap.size + 1 + 1 = w.heap.size + 2 from rfl, Go.Joins.cell_of_block q2]; rfl
    have f2 : ∀ o, wr.frozen? ⟨w.heap.size + 1 + 1, o, none⟩ = false := Go.Joins.unfrozen_of_block q2
    have hz2 : w.heap.size + 1 + 1 < wr.heap.size := by omega
    have d1 : wr.cell? ⟨sb, so + 1, none⟩ = some (.slice A n c) := (hbel.cell (by simp; omega)).trans hc1
    have hsw : sb < wr.heap.size := by omega
    replace q1 := Lib.hid q1
    replace q2 := Lib.hid q2
    by_cases hlt : k < n
    · obtain ⟨b, off, dg, hh, rfl, hb0, hb, hja, hcs, hrd⟩ := gs_at (hr.out.frame good_glyph (Below.sameB hbel hhi)) hlt
      have hbw : b < wr.heap.size := by omega
      have hsm := hg.out dg (List.mem_of_getElem? hja)
      have hki : (k : Int) < (n : Int) := by omega
      have hk0 : (0 : Int) ≤ (k : Int) := by omega
      have hcall := Lib.hid (fun W (hS : SameB 0 wr.heap.size wr W) (hzW : wr.heap.size ≤ W.heap.size) => l17OwnGlyph_flat dg hh.out.A hh.parts.A hh.anchors.A hh.out.n hh.out.c hh.parts.n hh.parts.c hh.anchors.n hh.anchors.c b (off + k * 7) lo hi W (hrd.1.frame good_loop (hS.mono (Nat.zero_le _) (by omega))) (hrd.2.1.frame (good_flat _) (hS.mono (Nat.zero_le _) (by omega))) (hrd.2.2.frame (good_flat _) (hS.mono (Nat.zero_le _) (by omega))) (by omega) hsm (fun i u hu => (hS.cell (p := ⟨b, off + k * 7 + i, none⟩) (Nat.zero_le _) hbw).trans (hcs i u hu)) (by omega))
      clear hcs hrd hsm hb0 hb
      replace hja := Lib.hid hja
      go_wp2_with fail
      go_region_law (first | (refine stepAppN rfl (.tmp 21) (.tmp 29) elemGlyph rfl (v := .slice Ao k co) (n := k) (xs := ys) rfl ((own_below hown.out hB1.out).alloc _) rfl (src_at (cs := [.string dg.name, .int .i64 dg.code, .int .i64 dg.adv, .slice h4.out.A h4.out.n h4.out.c, .slice h4.parts.A h4.parts.n h4.parts.c, .slice h4.anchors.A h4.anchors.n h4.anchors.c, .string dg.hints]) rfl (by simp [Value.oneCell']) (by simp)) (by omega) (by omega) (by simp; omega) (k + 1) rfl ?_; intro A4 c4 w2 ho2 hg2 hbk2; have hk2 : w2.heap[w.heap.size + 1 + 1]? = wr.heap[w.heap.size + 1 + 1]? := ((hg2.block _ (by simp; omega) (fun e => hnb.out e.symm)).trans (Below.heap_alloc _ _ _ (by omega))).trans (hB1.out.block _ hz2); have r4 : w2.cell? ⟨w.heap.size + 1 + 1, 1, none⟩ = some (.slice Ao k co) := ((World.cell?_of_block hk2).trans c1); have f4 : ∀ o, w2.frozen? ⟨w.heap.size + 1 + 1, o, none⟩ = false := (fun o => (World.frozen?_of_block hk2).trans (f2 o)); replace hk2 := Lib.hid hk2; replace ho2 := Lib.hid ho2; replace hg2 := Lib.hid hg2; replace hbk2 := Lib.hid hbk2) | (go_simp; go_at_call 64; refine (hcall.out _ (by repeat (first | exact SameB.refl _ _ _ | refine SameB.drew ?_)) (by simp)).mono ?_; rintro e w1 ⟨h4, rfl, hX1, hb1⟩; have hB1 : Below wr.heap.size wr w1 := ((Below.refl _ _).drew).trans (hb1.mono (by simp)); have hs1 : wr.heap.size ≤ w1.heap.size := (by have := hb1.size; simp at this; exact this); have r3 : w1.cell? ⟨w.heap.size + 1 + 1, 1, none⟩ = some (.slice Ao k co) := (by rw [hB1.cell hz2]; exact c1); replace hX1 := Lib.hid hX1; replace hB1 := Lib.hid hB1; have hs2 : w.heap.size + 1 + 1 < w1.heap.size := (by omega); clear hb1; dsimp only))
      all_goals
        go_wp2_with fail
        go_roundw
        case rel =>
          have hB := hB1.out
          have hg2 := hg2.out
          have hgs := hg2.size
          simp at hgs
          have ho := hown.out
          have hne1 : (Value.slice Ao k co).ownBlock ≠ some w.heap.size := fun e => by have := (ho.lt _ e).1; omega
          have hk1 : w2.heap[w.heap.size]? = wr.heap[w.heap.size]? := ((hg2.block _ (by simp; omega) (fun e => hne1 e.symm)).trans (Below.heap_alloc _ _ _ (by omega))).trans (hB.block _ (by omega))
          have hxw := (hX1.out.wide (lo' := wr.heap.size) (by simp) (Nat.le_refl _)).same ((SameB.refl _ _ w1).alloc (Nat.le_refl _) (.cells #[.string dg.name, .int .i64 dg.code, .int .i64 dg.adv, .slice h4.out.A h4.out.n h4.out.c, .slice h4.parts.A h4.parts.n h4.parts.c, .slice h4.anchors.A h4.anchors.n h4.anchors.c, .string dg.hints] 39 (0, 0)))
          have hnx := GsX.next (w1 := w1.alloc (.cells #[.string dg.name, .int .i64 dg.code, .int .i64 dg.adv, .slice h4.out.A h4.out.n h4.out.c, .slice h4.parts.A h4.parts.n h4.parts.c, .slice h4.anchors.A h4.anchors.n h4.anchors.c, .string dg.hints] 39 (0, 0))) hx.out (by omega) (hB.alloc hB.size _) hxw (by omega) (by simp) ho2.out hg2 (hbk2.out.imp id fun e => ⟨_, by simp, e⟩)
          have htk : L.take (k + 1) = L.take k ++ [dg] := by rw [List.take_add_one, hja.out]; rfl
          have hnb4 : (Value.slice A4 (k + 1) c4).ownBlock ≠ some (w.heap.size + 1 + 1) := fun e => by
            rcases hbk2.out with hh | hh
            · exact hnb.out (hh.symm.trans e)
            · rw [hh] at e; simp at e; omega
          have hgx := gsX_setOther (i := 1) hnx hnb4 (fun j hj => by
            by_cases hjk : j = k
            · simp only [hjk, if_pos]; left; omega
            · simp only [if_neg hjk]; have := hiv.out j (by omega); left; omega) (.slice A4 (k + 1) c4)
          rw [← htk] at hgx
          refine ⟨k + 1, A4, c4, _, _, _, by go_num, by omega, hgx.wide (Nat.le_refl _) (by simp), fun j hj => ?_, Go.Joins.block_setCell (hk2.out.trans q2.out) _, ?_, by simp; omega, ?_⟩
          · by_cases hjk : j = k
            · simp only [hjk, if_pos]; omega
            · simp only [if_neg hjk]; exact hiv.out j (by omega)
          · exact (Below.heap_setCell _ _ _ _ (by simp; omega)).trans (hk1.trans q1.out)
          · exact (((hbel.trans (hB.mono hbel.size)).alloc (by omega) _).grown hg2 (by simp; omega) (fun g hgk => by have := (ho.lt g hgk).1; omega)).setCell (by simp; omega) _
        case measure => simp [intOf]; omega
    · have hkn : k = n := by omega
      have q1' : wr.cell? ⟨w.heap.size, 0, none⟩ = some (.int .i64 0) := by rw [Go.Joins.cell_of_block q1.out]; rfl
      have q1'' : wr.cell? ⟨w.heap.size, 1, none⟩ = some (.slice none 0 0) := by rw [Go.Joins.cell_of_block q1.out]; rfl
      have f1 : ∀ o, wr.frozen? ⟨w.heap.size, o, none⟩ = false := Go.Joins.unfrozen_of_block q1.out
      have htk : L.take k = L := List.take_of_length_le (by rw [hll.out]; omega)
      rw [htk] at hx
      replace hkn := Lib.hid hkn
      go_wp2_with fail
      refine bodyPost_ret (v := .agg #[.int .i64 unit, .slice Ao n co]) (by have := hkn.out; simp [results, Try.results63, go_sem, q1', q1'', this]) rfl ⟨Ao, co, ys, hs, iv, rfl, ?_, ?_⟩
      · have hkn' := hkn.out
        subst hkn'
        exact (hx.out.same (((SameB.refl _ _ wr).setCell (.inl (by simp)) _).setCell (.inl (by simp)) _)).wide (by omega) (by simp)
      · exact (hbel.setCell (by simp) _).setCell (by simp) _
end Go.Proofs.Ytgnjohkfgllhmaa

/- spec.AddGlyph. Printed by mk_ads.py. Conditions: as it states. -/
namespace Go.Proofs.Ytgnjohkfgllhmaa
open Go.RowKit
set_option linter.unusedVariables false
set_option maxRecDepth 100000

set_option maxHeartbeats 8000000 in
theorem specAdd_flat (d : GSet) (g : Gl) (A : Option Addr) (n c : Nat) (A3 A4 A5 : Option Addr) (n3 c3 n4 c4 n5 c5 : Nat) (R : GSet × Int) (hR : R = addR d g) (lo hi : Nat) (w : World) (hr : GsRd w lo hi A n d.gl) (hr0 : OutRd w lo hi A3 n3 g.out) (hr1 : RdS 3 (FlatR partC) w lo hi A4 n4 g.parts) (hr2 : RdS 3 (FlatR anchC) w lo hi A5 n5 g.anchors) (hhi : hi ≤ w.heap.size) (hm : d.small 1048576) (hmg : g.small 1048576) (hs : ∀ g ∈ d.gl, g.str) (hsg : g.str) :
    Calls Try.prog 24 #[.agg #[.int .i64 d.unit, .slice A n c], .agg #[.string g.name, .int .i64 g.code, .int .i64 g.adv, .slice A3 n3 c3, .slice A4 n4 c4, .slice A5 n5 c5, .string g.hints]] w fun e w' => ∃ A' n' c' ys hs iv, e = .returned (.tuple #[.agg #[.int .i64 R.1.unit, .slice A' n' c'], .int .i64 R.2]) ∧ GsX w' w.heap.size w'.heap.size A' n' c' R.1.gl ys hs iv ∧ Below w.heap.size w w' := by
  have hgl := hr.1
  have hpl := hr1.1
  have hn := (hm.gl (n := n) hr.1).1
  have hnp := hmg.parts (n := n4) hr1.1
  replace hr := Lib.hid hr
  replace hr0 := Lib.hid hr0
  replace hr1 := Lib.hid hr1
  replace hr2 := Lib.hid hr2
  replace hs := Lib.hid hs
  replace hsg := Lib.hid hsg
  replace hm := Lib.hid hm
  replace hmg := Lib.hid hmg
  have hnew := heap_new0 w (.cells #[.int .i64 d.unit, .slice A n c] 26 (0, 0)) (.cells #[.string g.name, .int .i64 g.code, .int .i64 g.adv, .slice A3 n3 c3, .slice A4 n4 c4, .slice A5 n5 c5, .string g.hints] 39 (0, 0)) (.cells #[.int .i64 0, .slice none 0 0] 26 (0, 0))
  have HS := Lib.hid hnew.1
  have HG := Lib.hid hnew.2.1
  have HR := Lib.hid hnew.2.2
  have hBw0 : Below w.heap.size w (((w.alloc (.cells #[.int .i64 d.unit, .slice A n c] 26 (0, 0))).alloc (.cells #[.string g.name, .int .i64 g.code, .int .i64 g.adv, .slice A3 n3 c3, .slice A4 n4 c4, .slice A5 n5 c5, .string g.hints] 39 (0, 0))).alloc (.cells #[.int .i64 0, .slice none 0 0] 26 (0, 0))) := ((((Below.refl _ _).alloc (Nat.le_refl _) _).alloc (by simp) _).alloc (by simp <;> omega) _)
  have hzz : (((w.alloc (.cells #[.int .i64 d.unit, .slice A n c] 26 (0, 0))).alloc (.cells #[.string g.name, .int .i64 g.code, .int .i64 g.adv, .slice A3 n3 c3, .slice A4 n4 c4, .slice A5 n5 c5, .string g.hints] 39 (0, 0))).alloc (.cells #[.int .i64 0, .slice none 0 0] 26 (0, 0))).heap.size = w.heap.size + 3 := by simp
  clear hnew
  go_enter Try.func24, Try.ntmps24
  go_wp2_with fail
  generalize ((w.alloc (.cells #[.int .i64 d.unit, .slice A n c] 26 (0, 0))).alloc (.cells #[.string g.name, .int .i64 g.code, .int .i64 g.adv, .slice A3 n3 c3, .slice A4 n4 c4, .slice A5 n5 c5, .string g.hints] 39 (0, 0))).alloc (.cells #[.int .i64 0, .slice none 0 0] 26 (0, 0)) = w0 at *
  have h3w0 : w.heap.size + 3 ≤ w0.heap.size := by omega
  clear hzz
  have s0 : w0.cell? ⟨w.heap.size, 0, none⟩ = some (.int .i64 d.unit) := by rw [Go.Joins.cell_of_block HS.out]; rfl
  have s1 : w0.cell? ⟨w.heap.size, 1, none⟩ = some (.slice A n c) := by rw [Go.Joins.cell_of_block HS.out]; rfl
  have lX : w.heap.size + 1 + 1 < w0.heap.size := by omega
  have lS : w.heap.size < w0.heap.size := by omega
  have lG : w.heap.size + 1 < w0.heap.size := by omega
  refine (l17Ok_any w.heap.size 0 d.unit A n c lo hi d.gl _ rfl w0 lS s0 s1 (hr.out.frame good_glyph (Below.sameB hBw0 hhi)) (by omega) (by omega) (fun g hg => (hm.out.g g hg).mono (by omega)) hs.out).mono ?_
  clear s0 s1 lX lS lG
  rintro e w1 ⟨rfl, hb1⟩
  have hzw1 := hb1.size
  have hBw1 : Below w.heap.size w w1 := hBw0.trans (hb1.mono hBw0.size)
  have h3w1 : w.heap.size + 3 ≤ w1.heap.size := by omega
  replace HS := Lib.hid ((hb1.block _ (by omega)).trans HS.out)
  replace HG := Lib.hid ((hb1.block _ (by omega)).trans HG.out)
  replace HR := Lib.hid ((hb1.block _ (by omega)).trans HR.out)
  clear hb1
  rw [show (⟨d.unit, d.gl⟩ : GSet) = d from rfl]
  cases hv : setOk d
  · replace hv := Lib.hid hv
    have r0 : w1.cell? ⟨w.heap.size + 1 + 1, 0, none⟩ = some (.int .i64 0) := by rw [Go.Joins.cell_of_block HR.out]; rfl
    have r1 : w1.cell? ⟨w.heap.size + 1 + 1, 1, none⟩ = some (.slice none 0 0) := by rw [Go.Joins.cell_of_block HR.out]; rfl
    have rf : ∀ o, w1.frozen? ⟨w.heap.size + 1 + 1, o, none⟩ = false := Go.Joins.unfrozen_of_block HR.out
    have lX : w.heap.size + 1 + 1 < w1.heap.size := by omega
    have lS : w.heap.size < w1.heap.size := by omega
    have lG : w.heap.size + 1 < w1.heap.size := by omega
    have hRR : R = (⟨0, []⟩, 1) := hR.trans (add_1 (fun h => by rw [hv.out] at h; cases h.1))
    subst hRR
    clear hR
    have kk : w.heap.size ≤ w.heap.size + 1 + 1 := by omega
    go_wp2_with fail
    refine bodyPost_ret (v := .tuple #[.agg #[.int .i64 0, .slice none 0 0], .int .i64 1]) (by simp [results, Try.results24, go_sem, r0, r1]) rfl ⟨none, 0, 0, rfl, ⟨[], fun _ => ⟨⟨none, 0, 0⟩, ⟨none, 0, 0⟩, ⟨none, 0, 0⟩⟩, fun _ => (0, 0), GsX.none _ _ _ 0 _ _⟩, (hBw1.setCell kk _).setCell kk _⟩
  replace hv := Lib.hid hv
  go_wp2_with fail
  have g0 : w1.cell? ⟨w.heap.size + 1, 0, none⟩ = some (.string g.name) := by rw [Go.Joins.cell_of_block HG.out]; rfl
  have g1 : w1.cell? ⟨w.heap.size + 1, 1, none⟩ = some (.int .i64 g.code) := by rw [Go.Joins.cell_of_block HG.out]; rfl
  have g2 : w1.cell? ⟨w.heap.size + 1, 2, none⟩ = some (.int .i64 g.adv) := by rw [Go.Joins.cell_of_block HG.out]; rfl
  have g3 : w1.cell? ⟨w.heap.size + 1, 3, none⟩ = some (.slice A3 n3 c3) := by rw [Go.Joins.cell_of_block HG.out]; rfl
  have g4 : w1.cell? ⟨w.heap.size + 1, 4, none⟩ = some (.slice A4 n4 c4) := by rw [Go.Joins.cell_of_block HG.out]; rfl
  have g5 : w1.cell? ⟨w.heap.size + 1, 5, none⟩ = some (.slice A5 n5 c5) := by rw [Go.Joins.cell_of_block HG.out]; rfl
  have g6 : w1.cell? ⟨w.heap.size + 1, 6, none⟩ = some (.string g.hints) := by rw [Go.Joins.cell_of_block HG.out]; rfl
  have lX : w.heap.size + 1 + 1 < w1.heap.size := by omega
  have lS : w.heap.size < w1.heap.size := by omega
  have lG : w.heap.size + 1 < w1.heap.size := by omega
  have hcg : ∀ (i : Nat) (u : Value), (glC g ⟨⟨A3, n3, c3⟩, ⟨A4, n4, c4⟩, ⟨A5, n5, c5⟩⟩)[i]? = some u → w1.cell? ⟨w.heap.size + 1, 0 + i, none⟩ = some u := by
    intro i u hu
    rw [Nat.zero_add, Go.Joins.cell_of_block HG.out]
    have hi := glC_7 hu
    match i, hi, hu with
    | 0, _, hu => exact hu
    | 1, _, hu => exact hu
    | 2, _, hu => exact hu
    | 3, _, hu => exact hu
    | 4, _, hu => exact hu
    | 5, _, hu => exact hu
    | 6, _, hu => exact hu
  refine (l17Glyph_any (w.heap.size + 1) 0 g ⟨⟨A3, n3, c3⟩, ⟨A4, n4, c4⟩, ⟨A5, n5, c5⟩⟩ _ rfl lo hi w1 lG hcg ⟨hr0.out.frame good_loop (Below.sameB hBw1 hhi), hr1.out.frame (good_flat _) (Below.sameB hBw1 hhi), hr2.out.frame (good_flat _) (Below.sameB hBw1 hhi)⟩ (by omega) (hmg.out.mono (by omega)) (by have := hsg.out; unfold Gl.str maxLen at this; exact ⟨by omega, by omega, fun a ha => by have := this.2.2 a ha; omega⟩)).mono ?_
  clear g0 g1 g2 g3 g4 g5 g6 lX lS lG hcg
  rintro e w2 ⟨rfl, hb2⟩
  have hzw2 := hb2.size
  have hBw2 : Below w.heap.size w w2 := hBw1.trans (hb2.mono hBw1.size)
  have h3w2 : w.heap.size + 3 ≤ w2.heap.size := by omega
  replace HS := Lib.hid ((hb2.block _ (by omega)).trans HS.out)
  replace HG := Lib.hid ((hb2.block _ (by omega)).trans HG.out)
  replace HR := Lib.hid ((hb2.block _ (by omega)).trans HR.out)
  clear hb2
  cases hvg : glyphOk g
  · replace hvg := Lib.hid hvg
    have r0 : w2.cell? ⟨w.heap.size + 1 + 1, 0, none⟩ = some (.int .i64 0) := by rw [Go.Joins.cell_of_block HR.out]; rfl
    have r1 : w2.cell? ⟨w.heap.size + 1 + 1, 1, none⟩ = some (.slice none 0 0) := by rw [Go.Joins.cell_of_block HR.out]; rfl
    have rf : ∀ o, w2.frozen? ⟨w.heap.size + 1 + 1, o, none⟩ = false := Go.Joins.unfrozen_of_block HR.out
    have lX : w.heap.size + 1 + 1 < w2.heap.size := by omega
    have lS : w.heap.size < w2.heap.size := by omega
    have lG : w.heap.size + 1 < w2.heap.size := by omega
    have hRR : R = (⟨0, []⟩, 1) := hR.trans (add_1 (fun h => by rw [hvg.out] at h; cases h.2))
    subst hRR
    clear hR
    have kk : w.heap.size ≤ w.heap.size + 1 + 1 := by omega
    go_wp2_with fail
    refine bodyPost_ret (v := .tuple #[.agg #[.int .i64 0, .slice none 0 0], .int .i64 1]) (by simp [results, Try.results24, go_sem, r0, r1]) rfl ⟨none, 0, 0, rfl, ⟨[], fun _ => ⟨⟨none, 0, 0⟩, ⟨none, 0, 0⟩, ⟨none, 0, 0⟩⟩, fun _ => (0, 0), GsX.none _ _ _ 0 _ _⟩, (hBw2.setCell kk _).setCell kk _⟩
  replace hvg := Lib.hid hvg
  go_wp2_with fail
  have HS2 := HS
  have HG2 := HG
  have HR2 := HR
  clear HS HG HR
  go_loopw [6] (fun i wr => ∃ (k : Nat), i = .int .i64 k ∧ k ≤ n ∧ (d.gl.take k).any (fun b => clash b g) = false ∧ Below w2.heap.size w2 wr) (fun i wr => n - (intOf i).toNat)
  case atStart => exact ⟨0, rfl, Nat.zero_le _, by simp, Below.refl _ _⟩
  case round =>
    obtain ⟨k, rfl, hk, hany, hb0⟩ := hrel
    have HS := HS2
    have HG := HG2
    have HR := HR2
    have hb0r := hb0
    have hzwr := hb0.size
    have hBwr : Below w.heap.size w wr := hBw2.trans (hb0.mono hBw2.size)
    have h3wr : w.heap.size + 3 ≤ wr.heap.size := by omega
    replace HS := Lib.hid ((hb0.block _ (by omega)).trans HS.out)
    replace HG := Lib.hid ((hb0.block _ (by omega)).trans HG.out)
    replace HR := Lib.hid ((hb0.block _ (by omega)).trans HR.out)
    clear hb0
    clear HS2 HG2 HR2
    replace hany := Lib.hid hany
    by_cases hlt : k < n
    · obtain ⟨b, off, dg, hh, rfl, hb0, hb, hja, hcs, hrd⟩ := gs_at (hr.out.frame good_glyph (Below.sameB hBwr hhi)) hlt
      have s0 : wr.cell? ⟨w.heap.size, 0, none⟩ = some (.int .i64 d.unit) := by rw [Go.Joins.cell_of_block HS.out]; rfl
      have s1 : wr.cell? ⟨w.heap.size, 1, none⟩ = some (.slice (some ⟨b, off, none⟩) n c) := by rw [Go.Joins.cell_of_block HS.out]; rfl
      have g0 : wr.cell? ⟨w.heap.size + 1, 0, none⟩ = some (.string g.name) := by rw [Go.Joins.cell_of_block HG.out]; rfl
      have g1 : wr.cell? ⟨w.heap.size + 1, 1, none⟩ = some (.int .i64 g.code) := by rw [Go.Joins.cell_of_block HG.out]; rfl
      have g2 : wr.cell? ⟨w.heap.size + 1, 2, none⟩ = some (.int .i64 g.adv) := by rw [Go.Joins.cell_of_block HG.out]; rfl
      have g3 : wr.cell? ⟨w.heap.size + 1, 3, none⟩ = some (.slice A3 n3 c3) := by rw [Go.Joins.cell_of_block HG.out]; rfl
      have g4 : wr.cell? ⟨w.heap.size + 1, 4, none⟩ = some (.slice A4 n4 c4) := by rw [Go.Joins.cell_of_block HG.out]; rfl
      have g5 : wr.cell? ⟨w.heap.size + 1, 5, none⟩ = some (.slice A5 n5 c5) := by rw [Go.Joins.cell_of_block HG.out]; rfl
      have g6 : wr.cell? ⟨w.heap.size + 1, 6, none⟩ = some (.string g.hints) := by rw [Go.Joins.cell_of_block HG.out]; rfl
      have lX : w.heap.size + 1 + 1 < wr.heap.size := by omega
      have lS : w.heap.size < wr.heap.size := by omega
      have lG : w.heap.size + 1 < wr.heap.size := by omega
      have hbw : b < wr.heap.size := by omega
      have hki : (k : Int) < (n : Int) := by omega
      have hk0 : (0 : Int) ≤ (k : Int) := by omega
      have hcg : ∀ (i : Nat) (u : Value), (glC g ⟨⟨A3, n3, c3⟩, ⟨A4, n4, c4⟩, ⟨A5, n5, c5⟩⟩)[i]? = some u → wr.cell? ⟨w.heap.size + 1, 0 + i, none⟩ = some u := by
        intro i u hu
        rw [Nat.zero_add, Go.Joins.cell_of_block HG.out]
        have hi := glC_7 hu
        match i, hi, hu with
        | 0, _, hu => exact hu
        | 1, _, hu => exact hu
        | 2, _, hu => exact hu
        | 3, _, hu => exact hu
        | 4, _, hu => exact hu
        | 5, _, hu => exact hu
        | 6, _, hu => exact hu
      have hcall := Lib.hid (l17Clash_any b (off + k * 7) (w.heap.size + 1) 0 dg g hh ⟨⟨A3, n3, c3⟩, ⟨A4, n4, c4⟩, ⟨A5, n5, c5⟩⟩ _ rfl wr hcs hcg)
      clear hcs hrd hb0 hb hcg
      replace hja := Lib.hid hja
      go_wp2_with fail
      clear s0 s1 g0 g1 g2 g3 g4 g5 g6 lX lS lG
      refine hcall.out.mono ?_
      clear hcall
      rintro e w3 ⟨rfl, hb3⟩
      have hb03 := hb0r.trans (hb3.mono hb0r.size)
      have hzw3 := hb3.size
      have hBw3 : Below w.heap.size w w3 := hBwr.trans (hb3.mono hBwr.size)
      have h3w3 : w.heap.size + 3 ≤ w3.heap.size := by omega
      replace HS := Lib.hid ((hb3.block _ (by omega)).trans HS.out)
      replace HG := Lib.hid ((hb3.block _ (by omega)).trans HG.out)
      replace HR := Lib.hid ((hb3.block _ (by omega)).trans HR.out)
      clear hb3
      cases hcl : clash dg g
      · replace hcl := Lib.hid hcl
        go_wp2_with fail
        go_roundw
        case rel => exact ⟨k + 1, by go_num, by omega, any_step hany.out hja.out hcl.out, hb03⟩
        case measure => simp [intOf]; omega
      · replace hcl := Lib.hid hcl
        have r0 : w3.cell? ⟨w.heap.size + 1 + 1, 0, none⟩ = some (.int .i64 0) := by rw [Go.Joins.cell_of_block HR.out]; rfl
        have r1 : w3.cell? ⟨w.heap.size + 1 + 1, 1, none⟩ = some (.slice none 0 0) := by rw [Go.Joins.cell_of_block HR.out]; rfl
        have rf : ∀ o, w3.frozen? ⟨w.heap.size + 1 + 1, o, none⟩ = false := Go.Joins.unfrozen_of_block HR.out
        have lX : w.heap.size + 1 + 1 < w3.heap.size := by omega
        have lS : w.heap.size < w3.heap.size := by omega
        have lG : w.heap.size + 1 < w3.heap.size := by omega
        have hRR : R = (⟨0, []⟩, 4) := hR.trans (add_4 hv.out hvg.out (any_hit hja.out hcl.out))
        subst hRR
        clear hR
        have kk : w.heap.size ≤ w.heap.size + 1 + 1 := by omega
        go_wp2_with fail
        refine bodyPost_ret (v := .tuple #[.agg #[.int .i64 0, .slice none 0 0], .int .i64 4]) (by simp [results, Try.results24, go_sem, r0, r1]) rfl ⟨none, 0, 0, rfl, ⟨[], fun _ => ⟨⟨none, 0, 0⟩, ⟨none, 0, 0⟩, ⟨none, 0, 0⟩⟩, fun _ => (0, 0), GsX.none _ _ _ 0 _ _⟩, (hBw3.setCell kk _).setCell kk _⟩
    · have hcl0 := Lib.hid (any_all hany.out (by rw [hgl]; omega))
      have s0 : wr.cell? ⟨w.heap.size, 0, none⟩ = some (.int .i64 d.unit) := by rw [Go.Joins.cell_of_block HS.out]; rfl
      have s1 : wr.cell? ⟨w.heap.size, 1, none⟩ = some (.slice A n c) := by rw [Go.Joins.cell_of_block HS.out]; rfl
      have lX : w.heap.size + 1 + 1 < wr.heap.size := by omega
      have lS : w.heap.size < wr.heap.size := by omega
      have lG : w.heap.size + 1 < wr.heap.size := by omega
      clear hany
      go_wp2_with fail
      clear s0 s1 lX lS lG
      obtain ⟨w5, hw5⟩ : ∃ v, v = wr := ⟨_, rfl⟩
      subst hw5
      have hBw5 := hBwr
      have h3w5 := h3wr
      have HS5 := HS
      have HG5 := HG
      have HR5 := HR
      clear HS HG HR hBwr h3wr
      go_loopw [7] (fun i wi => ∃ (q : Nat), i = .int .i64 q ∧ q ≤ n4 ∧ (g.parts.take q).any (fun p => decide ((d.gl.length : Int) ≤ p.1)) = false ∧ Below w5.heap.size w5 wi) (fun i wi => n4 - (intOf i).toNat)
      case atStart => exact ⟨0, rfl, Nat.zero_le _, by simp, Below.refl _ _⟩
      case round =>
        obtain ⟨q, rfl, hq, hany, hb0⟩ := hrel
        have HS := HS5
        have HG := HG5
        have HR := HR5
        have hb0r := hb0
        have hzwr := hb0.size
        have hBwr : Below w.heap.size w wr := hBw5.trans (hb0.mono hBw5.size)
        have h3wr : w.heap.size + 3 ≤ wr.heap.size := by omega
        replace HS := Lib.hid ((hb0.block _ (by omega)).trans HS.out)
        replace HG := Lib.hid ((hb0.block _ (by omega)).trans HG.out)
        replace HR := Lib.hid ((hb0.block _ (by omega)).trans HR.out)
        clear hb0
        clear HS5 HG5 HR5
        replace hany := Lib.hid hany
        by_cases hql : q < n4
        · obtain ⟨b2, off2, x, rfl, hb20, hb2h, hx, hcs⟩ := (hr1.out.frame (good_flat _) (Below.sameB hBwr hhi)).at hql
          have p0 := hcs 0 _ rfl
          simp only [Nat.add_zero] at p0
          have hbw : b2 < wr.heap.size := by omega
          have hqi : (q : Int) < (n4 : Int) := by omega
          have hq0 : (0 : Int) ≤ (q : Int) := by omega
          have s0 : wr.cell? ⟨w.heap.size, 0, none⟩ = some (.int .i64 d.unit) := by rw [Go.Joins.cell_of_block HS.out]; rfl
          have s1 : wr.cell? ⟨w.heap.size, 1, none⟩ = some (.slice A n c) := by rw [Go.Joins.cell_of_block HS.out]; rfl
          have g0 : wr.cell? ⟨w.heap.size + 1, 0, none⟩ = some (.string g.name) := by rw [Go.Joins.cell_of_block HG.out]; rfl
          have g1 : wr.cell? ⟨w.heap.size + 1, 1, none⟩ = some (.int .i64 g.code) := by rw [Go.Joins.cell_of_block HG.out]; rfl
          have g2 : wr.cell? ⟨w.heap.size + 1, 2, none⟩ = some (.int .i64 g.adv) := by rw [Go.Joins.cell_of_block HG.out]; rfl
          have g3 : wr.cell? ⟨w.heap.size + 1, 3, none⟩ = some (.slice A3 n3 c3) := by rw [Go.Joins.cell_of_block HG.out]; rfl
          have g4 : wr.cell? ⟨w.heap.size + 1, 4, none⟩ = some (.slice (some ⟨b2, off2, none⟩) n4 c4) := by rw [Go.Joins.cell_of_block HG.out]; rfl
          have g5 : wr.cell? ⟨w.heap.size + 1, 5, none⟩ = some (.slice A5 n5 c5) := by rw [Go.Joins.cell_of_block HG.out]; rfl
          have g6 : wr.cell? ⟨w.heap.size + 1, 6, none⟩ = some (.string g.hints) := by rw [Go.Joins.cell_of_block HG.out]; rfl
          have lX : w.heap.size + 1 + 1 < wr.heap.size := by omega
          have lS : w.heap.size < wr.heap.size := by omega
          have lG : w.heap.size + 1 < wr.heap.size := by omega
          clear hcs hb20 hb2h
          replace hx := Lib.hid hx
          by_cases hge : (n : Int) ≤ x.1
          · go_wp2_with fail
            go_quiet (fail)
            have hBn : Below w.heap.size w (wr.drewN nq) := below_drewN hBwr nq
            have HRn := Lib.hid (show (wr.drewN nq).heap[w.heap.size + 2]? = some (.cells #[.int .i64 0, .slice none 0 0] 26 (0, 0)) from HR.out)
            clear HR
            have HR := HRn
            have h3n : w.heap.size + 3 ≤ (wr.drewN nq).heap.size := h3wr
            generalize wr.drewN nq = wo at *
            have hBwo := hBn
            clear s0 s1 g0 g1 g2 g3 g4 g5 g6 lX lS lG
            have r0 : wo.cell? ⟨w.heap.size + 1 + 1, 0, none⟩ = some (.int .i64 0) := by rw [Go.Joins.cell_of_block HR.out]; rfl
            have r1 : wo.cell? ⟨w.heap.size + 1 + 1, 1, none⟩ = some (.slice none 0 0) := by rw [Go.Joins.cell_of_block HR.out]; rfl
            have rf : ∀ o, wo.frozen? ⟨w.heap.size + 1 + 1, o, none⟩ = false := Go.Joins.unfrozen_of_block HR.out
            have lX : w.heap.size + 1 + 1 < wo.heap.size := by omega
            have lS : w.heap.size < wo.heap.size := by omega
            have lG : w.heap.size + 1 < wo.heap.size := by omega
            have hRR : R = (⟨0, []⟩, 2) := hR.trans (add_2 hv.out hvg.out hcl0.out (any_hit hx.out (by rw [hgl]; simpa using hge)))
            subst hRR
            clear hR
            have kk : w.heap.size ≤ w.heap.size + 1 + 1 := by omega
            go_wp2_with fail
            refine bodyPost_ret (v := .tuple #[.agg #[.int .i64 0, .slice none 0 0], .int .i64 2]) (by simp [results, Try.results24, go_sem, r0, r1]) rfl ⟨none, 0, 0, rfl, ⟨[], fun _ => ⟨⟨none, 0, 0⟩, ⟨none, 0, 0⟩, ⟨none, 0, 0⟩⟩, fun _ => (0, 0), GsX.none _ _ _ 0 _ _⟩, (hBwo.setCell kk _).setCell kk _⟩
          · go_wp2_with fail
            go_quiet (fail)
            go_wp2_with fail
            go_roundw
            case rel => exact ⟨q + 1, by go_num, by omega, any_step hany.out hx.out (by rw [hgl]; simpa using hge), below_drewN hb0r nq⟩
            case measure => simp [intOf]; omega
        · have hcl1 := Lib.hid (any_all hany.out (by rw [hpl]; omega))
          have s0 : wr.cell? ⟨w.heap.size, 0, none⟩ = some (.int .i64 d.unit) := by rw [Go.Joins.cell_of_block HS.out]; rfl
          have s1 : wr.cell? ⟨w.heap.size, 1, none⟩ = some (.slice A n c) := by rw [Go.Joins.cell_of_block HS.out]; rfl
          have g0 : wr.cell? ⟨w.heap.size + 1, 0, none⟩ = some (.string g.name) := by rw [Go.Joins.cell_of_block HG.out]; rfl
          have g1 : wr.cell? ⟨w.heap.size + 1, 1, none⟩ = some (.int .i64 g.code) := by rw [Go.Joins.cell_of_block HG.out]; rfl
          have g2 : wr.cell? ⟨w.heap.size + 1, 2, none⟩ = some (.int .i64 g.adv) := by rw [Go.Joins.cell_of_block HG.out]; rfl
          have g3 : wr.cell? ⟨w.heap.size + 1, 3, none⟩ = some (.slice A3 n3 c3) := by rw [Go.Joins.cell_of_block HG.out]; rfl
          have g4 : wr.cell? ⟨w.heap.size + 1, 4, none⟩ = some (.slice A4 n4 c4) := by rw [Go.Joins.cell_of_block HG.out]; rfl
          have g5 : wr.cell? ⟨w.heap.size + 1, 5, none⟩ = some (.slice A5 n5 c5) := by rw [Go.Joins.cell_of_block HG.out]; rfl
          have g6 : wr.cell? ⟨w.heap.size + 1, 6, none⟩ = some (.string g.hints) := by rw [Go.Joins.cell_of_block HG.out]; rfl
          have lX : w.heap.size + 1 + 1 < wr.heap.size := by omega
          have lS : w.heap.size < wr.heap.size := by omega
          have lG : w.heap.size + 1 < wr.heap.size := by omega
          clear hany
          obtain ⟨w6, hw6⟩ : ∃ v, v = wr := ⟨_, rfl⟩
          subst hw6
          by_cases h40 : 40 ≤ n
          · clear lX lS lG
            have r0 : w6.cell? ⟨w.heap.size + 1 + 1, 0, none⟩ = some (.int .i64 0) := by rw [Go.Joins.cell_of_block HR.out]; rfl
            have r1 : w6.cell? ⟨w.heap.size + 1 + 1, 1, none⟩ = some (.slice none 0 0) := by rw [Go.Joins.cell_of_block HR.out]; rfl
            have rf : ∀ o, w6.frozen? ⟨w.heap.size + 1 + 1, o, none⟩ = false := Go.Joins.unfrozen_of_block HR.out
            have lX : w.heap.size + 1 + 1 < w6.heap.size := by omega
            have lS : w.heap.size < w6.heap.size := by omega
            have lG : w.heap.size + 1 < w6.heap.size := by omega
            have hBw6 := hBwr
            have hRR : R = (⟨0, []⟩, 5) := hR.trans (add_5 hv.out hvg.out hcl0.out hcl1.out (by rw [hgl]; exact h40))
            subst hRR
            clear hR
            have kk : w.heap.size ≤ w.heap.size + 1 + 1 := by omega
            go_wp2_with fail
            refine bodyPost_ret (v := .tuple #[.agg #[.int .i64 0, .slice none 0 0], .int .i64 5]) (by simp [results, Try.results24, go_sem, r0, r1]) rfl ⟨none, 0, 0, rfl, ⟨[], fun _ => ⟨⟨none, 0, 0⟩, ⟨none, 0, 0⟩, ⟨none, 0, 0⟩⟩, fun _ => (0, 0), GsX.none _ _ _ 0 _ _⟩, (hBw6.setCell kk _).setCell kk _⟩
          · go_wp2_with fail
            refine (l17Own_flat d.unit d.gl A n c lo hi w.heap.size 0 w6 (hr.out.frame good_glyph (Below.sameB hBwr hhi)) (by omega) hn (fun g hg => hm.out.g g hg) s0 s1 lS).mono ?_
            rintro e w7 ⟨A7, c7, ys, hs7, iv, rfl, hx7, hb7⟩
            have hRR : R = (⟨d.unit, d.gl ++ [g]⟩, 0) := hR.trans (add_0 hv.out hvg.out hcl0.out hcl1.out (by rw [hgl]; exact h40))
            subst hRR
            clear hR s0 s1 g0 g1 g2 g3 g4 g5 g6 lX lS lG
            have h36 := h3wr
            have hB6 := hBwr
            clear h3wr hBwr
            have hzw7 := hb7.size
            have hBw7 : Below w.heap.size w w7 := hB6.trans (hb7.mono hB6.size)
            have h3w7 : w.heap.size + 3 ≤ w7.heap.size := by omega
            replace HS := Lib.hid ((hb7.block _ (by omega)).trans HS.out)
            replace HG := Lib.hid ((hb7.block _ (by omega)).trans HG.out)
            replace HR := Lib.hid ((hb7.block _ (by omega)).trans HR.out)
            clear hb7
            have hlt7 := Lib.hid hx7.2.2.1
            replace hx7 := Lib.hid hx7
            have hb8 := Go.Joins.below_alloc1 w7 (.cells #[.int .i64 d.unit, .slice A7 n c7] 26 (0, 0))
            have hzz : (w7.alloc (.cells #[.int .i64 d.unit, .slice A7 n c7] 26 (0, 0))).heap.size = w7.heap.size + 1 := by simp
            have HV := Lib.hid (heap_alloc_new w7 (.cells #[.int .i64 d.unit, .slice A7 n c7] 26 (0, 0)))
            go_wp2_with fail
            generalize w7.alloc (.cells #[.int .i64 d.unit, .slice A7 n c7] 26 (0, 0)) = w8 at *
            have hY8 : w7.heap.size < w8.heap.size := by omega
            have hx8 := Lib.hid ((hx7.out.same (Below.sameB hb8 (Nat.le_refl _))).wide (Nat.le_refl _) (Nat.le_of_lt hY8))
            have hown8 := Lib.hid hx8.out.2.1
            have hzw8 := hb8.size
            have hBw8 : Below w.heap.size w w8 := hBw7.trans (hb8.mono hBw7.size)
            have h3w8 : w.heap.size + 3 ≤ w8.heap.size := by omega
            replace HS := Lib.hid ((hb8.block _ (by omega)).trans HS.out)
            replace HG := Lib.hid ((hb8.block _ (by omega)).trans HG.out)
            replace HR := Lib.hid ((hb8.block _ (by omega)).trans HR.out)
            clear hb8
            clear hzz
            have v0 : w8.cell? ⟨w7.heap.size, 0, none⟩ = some (.int .i64 d.unit) := by rw [Go.Joins.cell_of_block HV.out]; rfl
            have v1 : w8.cell? ⟨w7.heap.size, 1, none⟩ = some (.slice A7 n c7) := by rw [Go.Joins.cell_of_block HV.out]; rfl
            have vf : ∀ o, w8.frozen? ⟨w7.heap.size, o, none⟩ = false := Go.Joins.unfrozen_of_block HV.out
            have hneY : Hid ((Value.slice A7 n c7).ownBlock ≠ some w7.heap.size) := fun e => by have := (hlt7.out _ e).1; omega
            have hneX : Hid ((Value.slice A7 n c7).ownBlock ≠ some (w.heap.size + 1 + 1)) := fun e => by have := (hown8.out.lt _ e).1; omega
            have r0 : w8.cell? ⟨w.heap.size + 1 + 1, 0, none⟩ = some (.int .i64 0) := by rw [Go.Joins.cell_of_block HR.out]; rfl
            have r1 : w8.cell? ⟨w.heap.size + 1 + 1, 1, none⟩ = some (.slice none 0 0) := by rw [Go.Joins.cell_of_block HR.out]; rfl
            have rf : ∀ o, w8.frozen? ⟨w.heap.size + 1 + 1, o, none⟩ = false := Go.Joins.unfrozen_of_block HR.out
            have lX : w.heap.size + 1 + 1 < w8.heap.size := by omega
            have lS : w.heap.size < w8.heap.size := by omega
            have lG : w.heap.size + 1 < w8.heap.size := by omega
            have hcg : ∀ (i : Nat) (u : Value), ([.string g.name, .int .i64 g.code, .int .i64 g.adv, .slice A3 n3 c3, .slice A4 n4 c4, .slice A5 n5 c5, .string g.hints] : List Value)[i]? = some u → w8.cell? ⟨w.heap.size + 1, 0 + i, none⟩ = some u := by
              intro i u hu
              rw [Nat.zero_add, Go.Joins.cell_of_block HG.out]
              have hi := glC_7 (g := g) (h := ⟨⟨A3, n3, c3⟩, ⟨A4, n4, c4⟩, ⟨A5, n5, c5⟩⟩) hu
              match i, hi, hu with
              | 0, _, hu => exact hu
              | 1, _, hu => exact hu
              | 2, _, hu => exact hu
              | 3, _, hu => exact hu
              | 4, _, hu => exact hu
              | 5, _, hu => exact hu
              | 6, _, hu => exact hu
            have hcall := Lib.hid (fun W (hS : SameB 0 w8.heap.size w8 W) (hzW : w8.heap.size ≤ W.heap.size) => l17OwnGlyph_flat g A3 A4 A5 n3 c3 n4 c4 n5 c5 (w.heap.size + 1) 0 lo hi W (hr0.out.frame good_loop ((Below.sameB hBw8 hhi).trans (hS.mono (Nat.zero_le _) (by omega)))) (hr1.out.frame (good_flat _) ((Below.sameB hBw8 hhi).trans (hS.mono (Nat.zero_le _) (by omega)))) (hr2.out.frame (good_flat _) ((Below.sameB hBw8 hhi).trans (hS.mono (Nat.zero_le _) (by omega)))) (by omega) hmg.out (fun i u hu => (hS.cell (p := ⟨w.heap.size + 1, 0 + i, none⟩) (Nat.zero_le _) lG).trans (hcg i u hu)) (by omega))
            clear hcg
            go_region_law (first | (refine stepAppN rfl (.tmp 54) (.tmp 56) elemGlyph rfl (v := .slice A7 n c7) (n := n) (xs := ys) rfl ((own_below hown8.out hB9.out).alloc _) rfl (src_at (cs := [.string g.name, .int .i64 g.code, .int .i64 g.adv, .slice h4.out.A h4.out.n h4.out.c, .slice h4.parts.A h4.parts.n h4.parts.c, .slice h4.anchors.A h4.anchors.n h4.anchors.c, .string g.hints]) rfl (by simp [Value.oneCell']) (by simp)) (by omega) (by omega) (by simp; omega) (n + 1) rfl ?_; intro A10 c10 w10 ho10 hg10 hbk10; have hz10 := hg10.size; (try simp at hz10); have kY : w10.heap[w7.heap.size]? = w8.heap[w7.heap.size]? := ((hg10.block _ (by simp; omega) (fun e => hneY.out e.symm)).trans (Below.heap_alloc _ _ _ (by omega))).trans (hB9.out.block _ hY8); have kX : w10.heap[w.heap.size + 1 + 1]? = w8.heap[w.heap.size + 1 + 1]? := ((hg10.block _ (by simp; omega) (fun e => hneX.out e.symm)).trans (Below.heap_alloc _ _ _ (by omega))).trans (hB9.out.block _ (by omega)); have y0 : w10.cell? ⟨w7.heap.size, 0, none⟩ = some (.int .i64 d.unit) := (World.cell?_of_block kY).trans v0; have y1 : w10.cell? ⟨w7.heap.size, 1, none⟩ = some (.slice A7 n c7) := (World.cell?_of_block kY).trans v1; have yf : ∀ o, w10.frozen? ⟨w7.heap.size, o, none⟩ = false := (fun o => (World.frozen?_of_block kY).trans (vf o)); have x0 : w10.cell? ⟨w.heap.size + 1 + 1, 0, none⟩ = some (.int .i64 0) := (World.cell?_of_block kX).trans r0; have x1 : w10.cell? ⟨w.heap.size + 1 + 1, 1, none⟩ = some (.slice none 0 0) := (World.cell?_of_block kX).trans r1; have xf : ∀ o, w10.frozen? ⟨w.heap.size + 1 + 1, o, none⟩ = false := (fun o => (World.frozen?_of_block kX).trans (rf o)); replace kY := Lib.hid kY; replace kX := Lib.hid kX; replace ho10 := Lib.hid ho10; replace hg10 := Lib.hid hg10; replace hbk10 := Lib.hid hbk10) | (go_simp; go_at_call 64; refine (hcall.out _ (by repeat (first | exact SameB.refl _ _ _ | refine SameB.drew ?_)) (by simp)).mono ?_; rintro e w9 ⟨h4, rfl, hX9, hb9⟩; have hB9 : Below w8.heap.size w8 w9 := ((Below.refl _ _).drew).trans (hb9.mono (by simp)); have hs9 : w8.heap.size ≤ w9.heap.size := (by have := hb9.size; simp at this; exact this); have u1 : w9.cell? ⟨w7.heap.size, 1, none⟩ = some (.slice A7 n c7) := (by rw [hB9.cell hY8]; exact v1); have uf : w7.heap.size < w9.heap.size := (by omega); replace hX9 := Lib.hid hX9; replace hB9 := Lib.hid hB9; clear hb9; dsimp only))
            all_goals
              go_wp2_with fail
              have hB := hB9.out
              have hgg := hg10.out
              have hxw := (hX9.out.wide (lo' := w8.heap.size) (by simp) (Nat.le_refl _)).same ((SameB.refl _ _ w9).alloc (Nat.le_refl _) (.cells #[.string g.name, .int .i64 g.code, .int .i64 g.adv, .slice h4.out.A h4.out.n h4.out.c, .slice h4.parts.A h4.parts.n h4.parts.c, .slice h4.anchors.A h4.anchors.n h4.anchors.c, .string g.hints] 39 (0, 0)))
              have hnx := GsX.next (w1 := w9.alloc (.cells #[.string g.name, .int .i64 g.code, .int .i64 g.adv, .slice h4.out.A h4.out.n h4.out.c, .slice h4.parts.A h4.parts.n h4.parts.c, .slice h4.anchors.A h4.anchors.n h4.anchors.c, .string g.hints] 39 (0, 0))) hx8.out (by omega) (hB.alloc hB.size _) hxw (by omega) (by simp) ho10.out hgg (hbk10.out.imp id fun e => ⟨_, by simp, e⟩)
              have hnY : (Value.slice A10 (n + 1) c10).ownBlock ≠ some w7.heap.size := fun e => by
                rcases hbk10.out with hh | hh
                · exact hneY.out (hh.symm.trans e)
                · rw [hh] at e; simp at e; omega
              have hiv7 := hx7.out.2.2.2.2.1
              have hgx := gsX_setOther (i := 1) hnx hnY (fun j hj => by
                by_cases hjk : j = n
                · simp only [hjk, if_pos]; left; omega
                · simp only [if_neg hjk]; have := (hiv7 j (by omega)).2.2; right; omega) (.slice A10 (n + 1) c10)
              have hB10 : Below w.heap.size w w10 := ((hBw8.trans (hB.mono (by omega))).alloc (by omega) _).grown hgg (by simp; omega) (fun gk hgk => by have := (hown8.out.lt gk hgk).1; omega)
              have kk : w.heap.size + 1 + 1 < w6.heap.size := by omega
              have kk1 : w.heap.size ≤ w.heap.size + 1 + 1 := by omega
              have kk2 : w.heap.size ≤ w7.heap.size := by omega
              refine bodyPost_ret (v := .tuple #[.agg #[.int .i64 d.unit, .slice A10 (n + 1) c10], .int .i64 0]) (by simp [results, Try.results24, go_sem, x0, x1]) rfl ⟨_, _, _, rfl, ⟨_, _, _, (hgx.same (((SameB.refl _ _ _).setCell (.inl kk) _).setCell (.inl kk) _)).wide (by omega) (by simp)⟩, ((hB10.setCell kk2 _).setCell kk1 _).setCell kk1 _⟩
end Go.Proofs.Ytgnjohkfgllhmaa

/- impl.AddGlyph. Printed by mk_adi.py. Conditions: as it states. -/
namespace Go.Proofs.Ytgnjohkfgllhmaa
open Go.RowKit
set_option linter.unusedVariables false
set_option maxRecDepth 100000

set_option maxHeartbeats 8000000 in
theorem implAdd_flat (d : GSet) (g : Gl) (A : Option Addr) (n c : Nat) (A3 A4 A5 : Option Addr) (n3 c3 n4 c4 n5 c5 : Nat) (R : GSet × Int) (hR : R = addR d g) (lo hi : Nat) (w : World) (hr : GsRc w lo hi A n d.gl) (hr0 : OutRd w lo hi A3 n3 g.out) (hr1 : RdS 3 (FlatR partC) w lo hi A4 n4 g.parts) (hr2 : RdS 3 (FlatR anchC) w lo hi A5 n5 g.anchors) (hhi : hi ≤ w.heap.size) (hm : d.small 1048576) (hmg : g.small 1048576) (hs : ∀ g ∈ d.gl, g.str) (hsg : g.str) (hcap : n5 ≤ c5) :
    Calls Try.prog 10 #[.agg #[.int .i64 d.unit, .slice A n c], .agg #[.string g.name, .int .i64 g.code, .int .i64 g.adv, .slice A3 n3 c3, .slice A4 n4 c4, .slice A5 n5 c5, .string g.hints]] w fun e w' => ∃ A' n' c' ys hs iv, e = .returned (.tuple #[.agg #[.int .i64 R.1.unit, .slice A' n' c'], .int .i64 R.2]) ∧ GsX w' w.heap.size w'.heap.size A' n' c' R.1.gl ys hs iv ∧ Below w.heap.size w w' := by
  have hgl := hr.1
  have hpl := hr1.1
  have hn := (hm.gl (n := n) hr.1).1
  have hnp := hmg.parts (n := n4) hr1.1
  replace hr := Lib.hid hr
  replace hr0 := Lib.hid hr0
  replace hr1 := Lib.hid hr1
  replace hr2 := Lib.hid hr2
  replace hs := Lib.hid hs
  replace hsg := Lib.hid hsg
  replace hm := Lib.hid hm
  replace hmg := Lib.hid hmg
  have hnew := heap_new0 w (.cells #[.int .i64 d.unit, .slice A n c] 26 (0, 0)) (.cells #[.string g.name, .int .i64 g.code, .int .i64 g.adv, .slice A3 n3 c3, .slice A4 n4 c4, .slice A5 n5 c5, .string g.hints] 39 (0, 0)) (.cells #[.int .i64 0, .slice none 0 0] 26 (0, 0))
  have HS := Lib.hid hnew.1
  have HG := Lib.hid hnew.2.1
  have HR := Lib.hid hnew.2.2
  have hBw0 : Below w.heap.size w (((w.alloc (.cells #[.int .i64 d.unit, .slice A n c] 26 (0, 0))).alloc (.cells #[.string g.name, .int .i64 g.code, .int .i64 g.adv, .slice A3 n3 c3, .slice A4 n4 c4, .slice A5 n5 c5, .string g.hints] 39 (0, 0))).alloc (.cells #[.int .i64 0, .slice none 0 0] 26 (0, 0))) := ((((Below.refl _ _).alloc (Nat.le_refl _) _).alloc (by simp) _).alloc (by simp <;> omega) _)
  have hzz : (((w.alloc (.cells #[.int .i64 d.unit, .slice A n c] 26 (0, 0))).alloc (.cells #[.string g.name, .int .i64 g.code, .int .i64 g.adv, .slice A3 n3 c3, .slice A4 n4 c4, .slice A5 n5 c5, .string g.hints] 39 (0, 0))).alloc (.cells #[.int .i64 0, .slice none 0 0] 26 (0, 0))).heap.size = w.heap.size + 3 := by simp
  clear hnew
  go_enter Try.func10, Try.ntmps10
  go_wp2_with fail
  generalize ((w.alloc (.cells #[.int .i64 d.unit, .slice A n c] 26 (0, 0))).alloc (.cells #[.string g.name, .int .i64 g.code, .int .i64 g.adv, .slice A3 n3 c3, .slice A4 n4 c4, .slice A5 n5 c5, .string g.hints] 39 (0, 0))).alloc (.cells #[.int .i64 0, .slice none 0 0] 26 (0, 0)) = w0 at *
  have h3w0 : w.heap.size + 3 ≤ w0.heap.size := by omega
  clear hzz
  have s0 : w0.cell? ⟨w.heap.size, 0, none⟩ = some (.int .i64 d.unit) := by rw [Go.Joins.cell_of_block HS.out]; rfl
  have s1 : w0.cell? ⟨w.heap.size, 1, none⟩ = some (.slice A n c) := by rw [Go.Joins.cell_of_block HS.out]; rfl
  have lX : w.heap.size + 1 + 1 < w0.heap.size := by omega
  have lS : w.heap.size < w0.heap.size := by omega
  have lG : w.heap.size + 1 < w0.heap.size := by omega
  go_wp2_with fail
  refine (implValidGS_any d ⟨⟨A, n, c⟩⟩ _ rfl lo hi w0 (hr.out.frame good_glyphc (Below.sameB hBw0 hhi)) (by omega) (hm.out.mono (by omega)) hs.out).mono ?_
  clear s0 s1 lX lS lG
  rintro e w1 ⟨rfl, hb1⟩
  have hzw1 := hb1.size
  have hBw1 : Below w.heap.size w w1 := hBw0.trans (hb1.mono hBw0.size)
  have h3w1 : w.heap.size + 3 ≤ w1.heap.size := by omega
  replace HS := Lib.hid ((hb1.block _ (by omega)).trans HS.out)
  replace HG := Lib.hid ((hb1.block _ (by omega)).trans HG.out)
  replace HR := Lib.hid ((hb1.block _ (by omega)).trans HR.out)
  clear hb1
  cases hv : setOk d
  · replace hv := Lib.hid hv
    have r0 : w1.cell? ⟨w.heap.size + 1 + 1, 0, none⟩ = some (.int .i64 0) := by rw [Go.Joins.cell_of_block HR.out]; rfl
    have r1 : w1.cell? ⟨w.heap.size + 1 + 1, 1, none⟩ = some (.slice none 0 0) := by rw [Go.Joins.cell_of_block HR.out]; rfl
    have rf : ∀ o, w1.frozen? ⟨w.heap.size + 1 + 1, o, none⟩ = false := Go.Joins.unfrozen_of_block HR.out
    have lX : w.heap.size + 1 + 1 < w1.heap.size := by omega
    have lS : w.heap.size < w1.heap.size := by omega
    have lG : w.heap.size + 1 < w1.heap.size := by omega
    have hRR : R = (⟨0, []⟩, 1) := hR.trans (add_1 (fun h => by rw [hv.out] at h; cases h.1))
    subst hRR
    clear hR
    have kk : w.heap.size ≤ w.heap.size + 1 + 1 := by omega
    go_wp2_with fail
    refine bodyPost_ret (v := .tuple #[.agg #[.int .i64 0, .slice none 0 0], .int .i64 1]) (by simp [results, Try.results10, go_sem, r0, r1]) rfl ⟨none, 0, 0, rfl, ⟨[], fun _ => ⟨⟨none, 0, 0⟩, ⟨none, 0, 0⟩, ⟨none, 0, 0⟩⟩, fun _ => (0, 0), GsX.none _ _ _ 0 _ _⟩, (hBw1.setCell kk _).setCell kk _⟩
  replace hv := Lib.hid hv
  have g0 : w1.cell? ⟨w.heap.size + 1, 0, none⟩ = some (.string g.name) := by rw [Go.Joins.cell_of_block HG.out]; rfl
  have g1 : w1.cell? ⟨w.heap.size + 1, 1, none⟩ = some (.int .i64 g.code) := by rw [Go.Joins.cell_of_block HG.out]; rfl
  have g2 : w1.cell? ⟨w.heap.size + 1, 2, none⟩ = some (.int .i64 g.adv) := by rw [Go.Joins.cell_of_block HG.out]; rfl
  have g3 : w1.cell? ⟨w.heap.size + 1, 3, none⟩ = some (.slice A3 n3 c3) := by rw [Go.Joins.cell_of_block HG.out]; rfl
  have g4 : w1.cell? ⟨w.heap.size + 1, 4, none⟩ = some (.slice A4 n4 c4) := by rw [Go.Joins.cell_of_block HG.out]; rfl
  have g5 : w1.cell? ⟨w.heap.size + 1, 5, none⟩ = some (.slice A5 n5 c5) := by rw [Go.Joins.cell_of_block HG.out]; rfl
  have g6 : w1.cell? ⟨w.heap.size + 1, 6, none⟩ = some (.string g.hints) := by rw [Go.Joins.cell_of_block HG.out]; rfl
  have lX : w.heap.size + 1 + 1 < w1.heap.size := by omega
  have lS : w.heap.size < w1.heap.size := by omega
  have lG : w.heap.size + 1 < w1.heap.size := by omega
  go_wp2_with fail
  refine (implValidG_any g ⟨⟨A3, n3, c3⟩, ⟨A4, n4, c4⟩, ⟨A5, n5, c5⟩⟩ _ rfl lo hi w1 ⟨hr0.out.frame good_loop (Below.sameB hBw1 hhi), hr1.out.frame (good_flat _) (Below.sameB hBw1 hhi), hr2.out.frame (good_flat _) (Below.sameB hBw1 hhi)⟩ (by omega) (hmg.out.mono (by omega)) (by have := hsg.out; unfold Gl.str maxLen at this; exact ⟨by omega, by omega, fun a ha => by have := this.2.2 a ha; omega⟩) hcap).mono ?_
  clear g0 g1 g2 g3 g4 g5 g6 lX lS lG
  rintro e w2 ⟨rfl, hb2⟩
  have hzw2 := hb2.size
  have hBw2 : Below w.heap.size w w2 := hBw1.trans (hb2.mono hBw1.size)
  have h3w2 : w.heap.size + 3 ≤ w2.heap.size := by omega
  replace HS := Lib.hid ((hb2.block _ (by omega)).trans HS.out)
  replace HG := Lib.hid ((hb2.block _ (by omega)).trans HG.out)
  replace HR := Lib.hid ((hb2.block _ (by omega)).trans HR.out)
  clear hb2
  cases hvg : glyphOk g
  · replace hvg := Lib.hid hvg
    have r0 : w2.cell? ⟨w.heap.size + 1 + 1, 0, none⟩ = some (.int .i64 0) := by rw [Go.Joins.cell_of_block HR.out]; rfl
    have r1 : w2.cell? ⟨w.heap.size + 1 + 1, 1, none⟩ = some (.slice none 0 0) := by rw [Go.Joins.cell_of_block HR.out]; rfl
    have rf : ∀ o, w2.frozen? ⟨w.heap.size + 1 + 1, o, none⟩ = false := Go.Joins.unfrozen_of_block HR.out
    have lX : w.heap.size + 1 + 1 < w2.heap.size := by omega
    have lS : w.heap.size < w2.heap.size := by omega
    have lG : w.heap.size + 1 < w2.heap.size := by omega
    have hRR : R = (⟨0, []⟩, 1) := hR.trans (add_1 (fun h => by rw [hvg.out] at h; cases h.2))
    subst hRR
    clear hR
    have kk : w.heap.size ≤ w.heap.size + 1 + 1 := by omega
    go_wp2_with fail
    refine bodyPost_ret (v := .tuple #[.agg #[.int .i64 0, .slice none 0 0], .int .i64 1]) (by simp [results, Try.results10, go_sem, r0, r1]) rfl ⟨none, 0, 0, rfl, ⟨[], fun _ => ⟨⟨none, 0, 0⟩, ⟨none, 0, 0⟩, ⟨none, 0, 0⟩⟩, fun _ => (0, 0), GsX.none _ _ _ 0 _ _⟩, (hBw2.setCell kk _).setCell kk _⟩
  replace hvg := Lib.hid hvg
  have s0 : w2.cell? ⟨w.heap.size, 0, none⟩ = some (.int .i64 d.unit) := by rw [Go.Joins.cell_of_block HS.out]; rfl
  have s1 : w2.cell? ⟨w.heap.size, 1, none⟩ = some (.slice A n c) := by rw [Go.Joins.cell_of_block HS.out]; rfl
  have g0 : w2.cell? ⟨w.heap.size + 1, 0, none⟩ = some (.string g.name) := by rw [Go.Joins.cell_of_block HG.out]; rfl
  have g1 : w2.cell? ⟨w.heap.size + 1, 1, none⟩ = some (.int .i64 g.code) := by rw [Go.Joins.cell_of_block HG.out]; rfl
  have g2 : w2.cell? ⟨w.heap.size + 1, 2, none⟩ = some (.int .i64 g.adv) := by rw [Go.Joins.cell_of_block HG.out]; rfl
  have g3 : w2.cell? ⟨w.heap.size + 1, 3, none⟩ = some (.slice A3 n3 c3) := by rw [Go.Joins.cell_of_block HG.out]; rfl
  have g4 : w2.cell? ⟨w.heap.size + 1, 4, none⟩ = some (.slice A4 n4 c4) := by rw [Go.Joins.cell_of_block HG.out]; rfl
  have g5 : w2.cell? ⟨w.heap.size + 1, 5, none⟩ = some (.slice A5 n5 c5) := by rw [Go.Joins.cell_of_block HG.out]; rfl
  have g6 : w2.cell? ⟨w.heap.size + 1, 6, none⟩ = some (.string g.hints) := by rw [Go.Joins.cell_of_block HG.out]; rfl
  have lX : w.heap.size + 1 + 1 < w2.heap.size := by omega
  have lS : w.heap.size < w2.heap.size := by omega
  have lG : w.heap.size + 1 < w2.heap.size := by omega
  go_wp2_with fail
  refine (glyphNamed_any d.unit A n c lo hi d.gl g.name w2 (hr.out.rd.frame good_glyph (Below.sameB hBw2 hhi)) (by omega) (by omega)).mono ?_
  clear s0 s1 g0 g1 g2 g3 g4 g5 g6 lX lS lG
  rintro e w3 ⟨rfl, hb3⟩
  have hzw3 := hb3.size
  have hBw3 : Below w.heap.size w w3 := hBw2.trans (hb3.mono hBw2.size)
  have h3w3 : w.heap.size + 3 ≤ w3.heap.size := by omega
  replace HS := Lib.hid ((hb3.block _ (by omega)).trans HS.out)
  replace HG := Lib.hid ((hb3.block _ (by omega)).trans HG.out)
  replace HR := Lib.hid ((hb3.block _ (by omega)).trans HR.out)
  clear hb3
  obtain ⟨f1, hf1⟩ : ∃ f1, f1 = findG d.gl (fun b => decide (b.name = g.name)) := ⟨_, rfl⟩
  have hcla := clash_any d.gl g
  rw [← hf1] at hcla ⊢
  have hbd1 := findG_bd d.gl (fun b => decide (b.name = g.name))
  rw [← hf1, hgl] at hbd1
  replace hf1 := Lib.hid hf1
  by_cases h1 : 0 ≤ f1
  · have hcl1 : Hid (d.gl.any (fun b => clash b g) = true) := hcla.trans (by simp [h1])
    clear hcla
    have r0 : w3.cell? ⟨w.heap.size + 1 + 1, 0, none⟩ = some (.int .i64 0) := by rw [Go.Joins.cell_of_block HR.out]; rfl
    have r1 : w3.cell? ⟨w.heap.size + 1 + 1, 1, none⟩ = some (.slice none 0 0) := by rw [Go.Joins.cell_of_block HR.out]; rfl
    have rf : ∀ o, w3.frozen? ⟨w.heap.size + 1 + 1, o, none⟩ = false := Go.Joins.unfrozen_of_block HR.out
    have lX : w.heap.size + 1 + 1 < w3.heap.size := by omega
    have lS : w.heap.size < w3.heap.size := by omega
    have lG : w.heap.size + 1 < w3.heap.size := by omega
    have hRR : R = (⟨0, []⟩, 4) := hR.trans (add_4 hv.out hvg.out hcl1.out)
    subst hRR
    clear hR
    have kk : w.heap.size ≤ w.heap.size + 1 + 1 := by omega
    go_wp2_with fail
    refine bodyPost_ret (v := .tuple #[.agg #[.int .i64 0, .slice none 0 0], .int .i64 4]) (by simp [results, Try.results10, go_sem, r0, r1]) rfl ⟨none, 0, 0, rfl, ⟨[], fun _ => ⟨⟨none, 0, 0⟩, ⟨none, 0, 0⟩, ⟨none, 0, 0⟩⟩, fun _ => (0, 0), GsX.none _ _ _ 0 _ _⟩, (hBw3.setCell kk _).setCell kk _⟩
  replace hcla := Lib.hid hcla
  have s0 : w3.cell? ⟨w.heap.size, 0, none⟩ = some (.int .i64 d.unit) := by rw [Go.Joins.cell_of_block HS.out]; rfl
  have s1 : w3.cell? ⟨w.heap.size, 1, none⟩ = some (.slice A n c) := by rw [Go.Joins.cell_of_block HS.out]; rfl
  have g0 : w3.cell? ⟨w.heap.size + 1, 0, none⟩ = some (.string g.name) := by rw [Go.Joins.cell_of_block HG.out]; rfl
  have g1 : w3.cell? ⟨w.heap.size + 1, 1, none⟩ = some (.int .i64 g.code) := by rw [Go.Joins.cell_of_block HG.out]; rfl
  have g2 : w3.cell? ⟨w.heap.size + 1, 2, none⟩ = some (.int .i64 g.adv) := by rw [Go.Joins.cell_of_block HG.out]; rfl
  have g3 : w3.cell? ⟨w.heap.size + 1, 3, none⟩ = some (.slice A3 n3 c3) := by rw [Go.Joins.cell_of_block HG.out]; rfl
  have g4 : w3.cell? ⟨w.heap.size + 1, 4, none⟩ = some (.slice A4 n4 c4) := by rw [Go.Joins.cell_of_block HG.out]; rfl
  have g5 : w3.cell? ⟨w.heap.size + 1, 5, none⟩ = some (.slice A5 n5 c5) := by rw [Go.Joins.cell_of_block HG.out]; rfl
  have g6 : w3.cell? ⟨w.heap.size + 1, 6, none⟩ = some (.string g.hints) := by rw [Go.Joins.cell_of_block HG.out]; rfl
  have lX : w.heap.size + 1 + 1 < w3.heap.size := by omega
  have lS : w.heap.size < w3.heap.size := by omega
  have lG : w.heap.size + 1 < w3.heap.size := by omega
  go_wp2_with fail
  refine (glyphOfChar_any d.unit A n c lo hi d.gl g.code w3 (hr.out.rd.frame good_glyph (Below.sameB hBw3 hhi)) (by omega) (by omega)).mono ?_
  clear s0 s1 g0 g1 g2 g3 g4 g5 g6 lX lS lG
  rintro e w4 ⟨rfl, hb4⟩
  have hzw4 := hb4.size
  have hBw4 : Below w.heap.size w w4 := hBw3.trans (hb4.mono hBw3.size)
  have h3w4 : w.heap.size + 3 ≤ w4.heap.size := by omega
  replace HS := Lib.hid ((hb4.block _ (by omega)).trans HS.out)
  replace HG := Lib.hid ((hb4.block _ (by omega)).trans HG.out)
  replace HR := Lib.hid ((hb4.block _ (by omega)).trans HR.out)
  clear hb4
  obtain ⟨f2, hf2⟩ : ∃ f2, f2 = findG d.gl (fun b => decide (0 ≤ g.code) && decide (b.code = g.code)) := ⟨_, rfl⟩
  replace hcla := hcla.out
  rw [← hf2] at hcla ⊢
  have hbd2 := findG_bd d.gl (fun b => decide (0 ≤ g.code) && decide (b.code = g.code))
  rw [← hf2, hgl] at hbd2
  replace hf2 := Lib.hid hf2
  by_cases h2 : 0 ≤ f2
  · have hcl1 : Hid (d.gl.any (fun b => clash b g) = true) := hcla.trans (by simp [h2])
    clear hcla
    have r0 : w4.cell? ⟨w.heap.size + 1 + 1, 0, none⟩ = some (.int .i64 0) := by rw [Go.Joins.cell_of_block HR.out]; rfl
    have r1 : w4.cell? ⟨w.heap.size + 1 + 1, 1, none⟩ = some (.slice none 0 0) := by rw [Go.Joins.cell_of_block HR.out]; rfl
    have rf : ∀ o, w4.frozen? ⟨w.heap.size + 1 + 1, o, none⟩ = false := Go.Joins.unfrozen_of_block HR.out
    have lX : w.heap.size + 1 + 1 < w4.heap.size := by omega
    have lS : w.heap.size < w4.heap.size := by omega
    have lG : w.heap.size + 1 < w4.heap.size := by omega
    have hRR : R = (⟨0, []⟩, 4) := hR.trans (add_4 hv.out hvg.out hcl1.out)
    subst hRR
    clear hR
    have kk : w.heap.size ≤ w.heap.size + 1 + 1 := by omega
    go_wp2_with fail
    refine bodyPost_ret (v := .tuple #[.agg #[.int .i64 0, .slice none 0 0], .int .i64 4]) (by simp [results, Try.results10, go_sem, r0, r1]) rfl ⟨none, 0, 0, rfl, ⟨[], fun _ => ⟨⟨none, 0, 0⟩, ⟨none, 0, 0⟩, ⟨none, 0, 0⟩⟩, fun _ => (0, 0), GsX.none _ _ _ 0 _ _⟩, (hBw4.setCell kk _).setCell kk _⟩
  have hcl0 : Hid (d.gl.any (fun b => clash b g) = false) := hcla.trans (by simp [h1, h2])
  clear hcla
  have s0 : w4.cell? ⟨w.heap.size, 0, none⟩ = some (.int .i64 d.unit) := by rw [Go.Joins.cell_of_block HS.out]; rfl
  have s1 : w4.cell? ⟨w.heap.size, 1, none⟩ = some (.slice A n c) := by rw [Go.Joins.cell_of_block HS.out]; rfl
  have g0 : w4.cell? ⟨w.heap.size + 1, 0, none⟩ = some (.string g.name) := by rw [Go.Joins.cell_of_block HG.out]; rfl
  have g1 : w4.cell? ⟨w.heap.size + 1, 1, none⟩ = some (.int .i64 g.code) := by rw [Go.Joins.cell_of_block HG.out]; rfl
  have g2 : w4.cell? ⟨w.heap.size + 1, 2, none⟩ = some (.int .i64 g.adv) := by rw [Go.Joins.cell_of_block HG.out]; rfl
  have g3 : w4.cell? ⟨w.heap.size + 1, 3, none⟩ = some (.slice A3 n3 c3) := by rw [Go.Joins.cell_of_block HG.out]; rfl
  have g4 : w4.cell? ⟨w.heap.size + 1, 4, none⟩ = some (.slice A4 n4 c4) := by rw [Go.Joins.cell_of_block HG.out]; rfl
  have g5 : w4.cell? ⟨w.heap.size + 1, 5, none⟩ = some (.slice A5 n5 c5) := by rw [Go.Joins.cell_of_block HG.out]; rfl
  have g6 : w4.cell? ⟨w.heap.size + 1, 6, none⟩ = some (.string g.hints) := by rw [Go.Joins.cell_of_block HG.out]; rfl
  have lX : w.heap.size + 1 + 1 < w4.heap.size := by omega
  have lS : w.heap.size < w4.heap.size := by omega
  have lG : w.heap.size + 1 < w4.heap.size := by omega
  go_wp2_with fail
  clear s0 s1 g0 g1 g2 g3 g4 g5 g6 lX lS lG
  have HS5 := HS
  have HG5 := HG
  have HR5 := HR
  clear HS HG HR
  go_loopw [34] (fun i wi => ∃ (q : Nat), i = .int .i64 q ∧ q ≤ n4 ∧ (g.parts.take q).any (fun p => decide ((d.gl.length : Int) ≤ p.1)) = false ∧ Below w4.heap.size w4 wi) (fun i wi => n4 - (intOf i).toNat)
  case atStart => exact ⟨0, rfl, Nat.zero_le _, by simp, Below.refl _ _⟩
  case round =>
    obtain ⟨q, rfl, hq, hany, hb0⟩ := hrel
    have HS := HS5
    have HG := HG5
    have HR := HR5
    have hb0r := hb0
    have hzwr := hb0.size
    have hBwr : Below w.heap.size w wr := hBw4.trans (hb0.mono hBw4.size)
    have h3wr : w.heap.size + 3 ≤ wr.heap.size := by omega
    replace HS := Lib.hid ((hb0.block _ (by omega)).trans HS.out)
    replace HG := Lib.hid ((hb0.block _ (by omega)).trans HG.out)
    replace HR := Lib.hid ((hb0.block _ (by omega)).trans HR.out)
    clear hb0
    clear HS5 HG5 HR5
    replace hany := Lib.hid hany
    by_cases hql : q < n4
    · obtain ⟨b2, off2, x, rfl, hb20, hb2h, hx, hcs⟩ := (hr1.out.frame (good_flat _) (Below.sameB hBwr hhi)).at hql
      have p0 := hcs 0 _ rfl
      have p1 := hcs 1 _ rfl
      have p2 := hcs 2 _ rfl
      simp only [Nat.add_zero] at p0
      have hbw : b2 < wr.heap.size := by omega
      have s0 : wr.cell? ⟨w.heap.size, 0, none⟩ = some (.int .i64 d.unit) := by rw [Go.Joins.cell_of_block HS.out]; rfl
      have s1 : wr.cell? ⟨w.heap.size, 1, none⟩ = some (.slice A n c) := by rw [Go.Joins.cell_of_block HS.out]; rfl
      have g0 : wr.cell? ⟨w.heap.size + 1, 0, none⟩ = some (.string g.name) := by rw [Go.Joins.cell_of_block HG.out]; rfl
      have g1 : wr.cell? ⟨w.heap.size + 1, 1, none⟩ = some (.int .i64 g.code) := by rw [Go.Joins.cell_of_block HG.out]; rfl
      have g2 : wr.cell? ⟨w.heap.size + 1, 2, none⟩ = some (.int .i64 g.adv) := by rw [Go.Joins.cell_of_block HG.out]; rfl
      have g3 : wr.cell? ⟨w.heap.size + 1, 3, none⟩ = some (.slice A3 n3 c3) := by rw [Go.Joins.cell_of_block HG.out]; rfl
      have g4 : wr.cell? ⟨w.heap.size + 1, 4, none⟩ = some (.slice (some ⟨b2, off2, none⟩) n4 c4) := by rw [Go.Joins.cell_of_block HG.out]; rfl
      have g5 : wr.cell? ⟨w.heap.size + 1, 5, none⟩ = some (.slice A5 n5 c5) := by rw [Go.Joins.cell_of_block HG.out]; rfl
      have g6 : wr.cell? ⟨w.heap.size + 1, 6, none⟩ = some (.string g.hints) := by rw [Go.Joins.cell_of_block HG.out]; rfl
      have lX : w.heap.size + 1 + 1 < wr.heap.size := by omega
      have lS : w.heap.size < wr.heap.size := by omega
      have lG : w.heap.size + 1 < wr.heap.size := by omega
      clear hcs hb20 hb2h
      replace hx := Lib.hid hx
      by_cases hge : (n : Int) ≤ x.1
      · have hBa : Below w.heap.size w (wr.alloc (.cells #[.int .i64 x.1, .int .i64 x.2.1, .int .i64 x.2.2] 32 (0, 0))) := hBwr.alloc (by omega) _
        have HRRa : Hid ((wr.alloc (.cells #[.int .i64 x.1, .int .i64 x.2.1, .int .i64 x.2.2] 32 (0, 0))).heap[w.heap.size + 2]? = some (.cells #[.int .i64 0, .slice none 0 0] 26 (0, 0))) := (Below.heap_alloc _ _ _ (by omega)).trans HR.out
        have r0 : wr.cell? ⟨w.heap.size + 1 + 1, 0, none⟩ = some (.int .i64 0) := by rw [Go.Joins.cell_of_block HR.out]; rfl
        have r1 : wr.cell? ⟨w.heap.size + 1 + 1, 1, none⟩ = some (.slice none 0 0) := by rw [Go.Joins.cell_of_block HR.out]; rfl
        have rf : ∀ o, wr.frozen? ⟨w.heap.size + 1 + 1, o, none⟩ = false := Go.Joins.unfrozen_of_block HR.out
        have hRR : R = (⟨0, []⟩, 2) := hR.trans (add_2 hv.out hvg.out hcl0.out (any_hit hx.out (by rw [hgl]; simpa using hge)))
        subst hRR
        clear hR
        have kk : w.heap.size ≤ w.heap.size + 1 + 1 := by omega
        go_wp2_with fail
        refine bodyPost_ret (v := .tuple #[.agg #[.int .i64 0, .slice none 0 0], .int .i64 2]) (by simp [results, Try.results10, go_sem, World.cell?_alloc_lt, lX, r0, r1]) rfl ⟨none, 0, 0, rfl, ⟨[], fun _ => ⟨⟨none, 0, 0⟩, ⟨none, 0, 0⟩, ⟨none, 0, 0⟩⟩, fun _ => (0, 0), GsX.none _ _ _ 0 _ _⟩, ((hBwr.setCell kk _).setCell kk _).alloc (by simp; omega) _⟩
      · go_wp2_with fail
        go_roundw
        case rel => exact ⟨q + 1, by go_num, by omega, any_step hany.out hx.out (by rw [hgl]; simpa using hge), hb0r.alloc (by omega) _⟩
        case measure => simp [intOf]; omega
    · have hcl1 := Lib.hid (any_all hany.out (by rw [hpl]; omega))
      have s0 : wr.cell? ⟨w.heap.size, 0, none⟩ = some (.int .i64 d.unit) := by rw [Go.Joins.cell_of_block HS.out]; rfl
      have s1 : wr.cell? ⟨w.heap.size, 1, none⟩ = some (.slice A n c) := by rw [Go.Joins.cell_of_block HS.out]; rfl
      have g0 : wr.cell? ⟨w.heap.size + 1, 0, none⟩ = some (.string g.name) := by rw [Go.Joins.cell_of_block HG.out]; rfl
      have g1 : wr.cell? ⟨w.heap.size + 1, 1, none⟩ = some (.int .i64 g.code) := by rw [Go.Joins.cell_of_block HG.out]; rfl
      have g2 : wr.cell? ⟨w.heap.size + 1, 2, none⟩ = some (.int .i64 g.adv) := by rw [Go.Joins.cell_of_block HG.out]; rfl
      have g3 : wr.cell? ⟨w.heap.size + 1, 3, none⟩ = some (.slice A3 n3 c3) := by rw [Go.Joins.cell_of_block HG.out]; rfl
      have g4 : wr.cell? ⟨w.heap.size + 1, 4, none⟩ = some (.slice A4 n4 c4) := by rw [Go.Joins.cell_of_block HG.out]; rfl
      have g5 : wr.cell? ⟨w.heap.size + 1, 5, none⟩ = some (.slice A5 n5 c5) := by rw [Go.Joins.cell_of_block HG.out]; rfl
      have g6 : wr.cell? ⟨w.heap.size + 1, 6, none⟩ = some (.string g.hints) := by rw [Go.Joins.cell_of_block HG.out]; rfl
      have lX : w.heap.size + 1 + 1 < wr.heap.size := by omega
      have lS : w.heap.size < wr.heap.size := by omega
      have lG : w.heap.size + 1 < wr.heap.size := by omega
      clear hany
      obtain ⟨w6, hw6⟩ : ∃ v, v = wr := ⟨_, rfl⟩
      subst hw6
      have hn40 : n ≤ 40 := by
        have := hv.out
        unfold setOk at this
        simp only [Bool.and_eq_true, decide_eq_true_eq] at this
        omega
      by_cases h40 : 40 ≤ n
      · clear lX lS lG
        have r0 : w6.cell? ⟨w.heap.size + 1 + 1, 0, none⟩ = some (.int .i64 0) := by rw [Go.Joins.cell_of_block HR.out]; rfl
        have r1 : w6.cell? ⟨w.heap.size + 1 + 1, 1, none⟩ = some (.slice none 0 0) := by rw [Go.Joins.cell_of_block HR.out]; rfl
        have rf : ∀ o, w6.frozen? ⟨w.heap.size + 1 + 1, o, none⟩ = false := Go.Joins.unfrozen_of_block HR.out
        have lX : w.heap.size + 1 + 1 < w6.heap.size := by omega
        have lS : w.heap.size < w6.heap.size := by omega
        have lG : w.heap.size + 1 < w6.heap.size := by omega
        have hBw6 := hBwr
        have hRR : R = (⟨0, []⟩, 5) := hR.trans (add_5 hv.out hvg.out hcl0.out hcl1.out (by rw [hgl]; exact h40))
        subst hRR
        clear hR
        have kk : w.heap.size ≤ w.heap.size + 1 + 1 := by omega
        go_wp2_with fail
        refine bodyPost_ret (v := .tuple #[.agg #[.int .i64 0, .slice none 0 0], .int .i64 5]) (by simp [results, Try.results10, go_sem, r0, r1]) rfl ⟨none, 0, 0, rfl, ⟨[], fun _ => ⟨⟨none, 0, 0⟩, ⟨none, 0, 0⟩, ⟨none, 0, 0⟩⟩, fun _ => (0, 0), GsX.none _ _ _ 0 _ _⟩, (hBw6.setCell kk _).setCell kk _⟩
      · go_wp2_with fail
        refine (copySet_flat d.unit d.gl A n c lo hi w6 (hr.out.rd.frame good_glyph (Below.sameB hBwr hhi)) (by omega) hn (fun g hg => hm.out.g g hg)).mono ?_
        rintro e w7 ⟨A7, c7, ys, hs7, iv, rfl, hx7, hb7⟩
        have hRR : R = (⟨d.unit, d.gl ++ [g]⟩, 0) := hR.trans (add_0 hv.out hvg.out hcl0.out hcl1.out (by rw [hgl]; exact h40))
        subst hRR
        clear hR s0 s1 g0 g1 g2 g3 g4 g5 g6 lX lS lG
        have h36 := h3wr
        have hB6 := hBwr
        clear h3wr hBwr
        have hzw7 := hb7.size
        have hBw7 : Below w.heap.size w w7 := hB6.trans (hb7.mono hB6.size)
        have h3w7 : w.heap.size + 3 ≤ w7.heap.size := by omega
        replace HS := Lib.hid ((hb7.block _ (by omega)).trans HS.out)
        replace HG := Lib.hid ((hb7.block _ (by omega)).trans HG.out)
        replace HR := Lib.hid ((hb7.block _ (by omega)).trans HR.out)
        clear hb7
        have hlt7 := Lib.hid hx7.2.2.1
        replace hx7 := Lib.hid hx7
        have hb8 := Go.Joins.below_alloc1 w7 (.cells #[.int .i64 d.unit, .slice A7 n c7] 26 (0, 0))
        have hzz : (w7.alloc (.cells #[.int .i64 d.unit, .slice A7 n c7] 26 (0, 0))).heap.size = w7.heap.size + 1 := by simp
        have HV := Lib.hid (heap_alloc_new w7 (.cells #[.int .i64 d.unit, .slice A7 n c7] 26 (0, 0)))
        go_wp2_with fail
        generalize w7.alloc (.cells #[.int .i64 d.unit, .slice A7 n c7] 26 (0, 0)) = w8 at *
        have hY8 : w7.heap.size < w8.heap.size := by omega
        have hx8 := Lib.hid ((hx7.out.same (Below.sameB hb8 (Nat.le_refl _))).wide (Nat.le_refl _) (Nat.le_of_lt hY8))
        have hown8 := Lib.hid hx8.out.2.1
        have hzw8 := hb8.size
        have hBw8 : Below w.heap.size w w8 := hBw7.trans (hb8.mono hBw7.size)
        have h3w8 : w.heap.size + 3 ≤ w8.heap.size := by omega
        replace HS := Lib.hid ((hb8.block _ (by omega)).trans HS.out)
        replace HG := Lib.hid ((hb8.block _ (by omega)).trans HG.out)
        replace HR := Lib.hid ((hb8.block _ (by omega)).trans HR.out)
        clear hb8
        clear hzz
        have v0 : w8.cell? ⟨w7.heap.size, 0, none⟩ = some (.int .i64 d.unit) := by rw [Go.Joins.cell_of_block HV.out]; rfl
        have v1 : w8.cell? ⟨w7.heap.size, 1, none⟩ = some (.slice A7 n c7) := by rw [Go.Joins.cell_of_block HV.out]; rfl
        have vf : ∀ o, w8.frozen? ⟨w7.heap.size, o, none⟩ = false := Go.Joins.unfrozen_of_block HV.out
        have hneY : Hid ((Value.slice A7 n c7).ownBlock ≠ some w7.heap.size) := fun e => by have := (hlt7.out _ e).1; omega
        have hneX : Hid ((Value.slice A7 n c7).ownBlock ≠ some (w.heap.size + 1 + 1)) := fun e => by have := (hown8.out.lt _ e).1; omega
        have g0 : w8.cell? ⟨w.heap.size + 1, 0, none⟩ = some (.string g.name) := by rw [Go.Joins.cell_of_block HG.out]; rfl
        have g1 : w8.cell? ⟨w.heap.size + 1, 1, none⟩ = some (.int .i64 g.code) := by rw [Go.Joins.cell_of_block HG.out]; rfl
        have g2 : w8.cell? ⟨w.heap.size + 1, 2, none⟩ = some (.int .i64 g.adv) := by rw [Go.Joins.cell_of_block HG.out]; rfl
        have g3 : w8.cell? ⟨w.heap.size + 1, 3, none⟩ = some (.slice A3 n3 c3) := by rw [Go.Joins.cell_of_block HG.out]; rfl
        have g4 : w8.cell? ⟨w.heap.size + 1, 4, none⟩ = some (.slice A4 n4 c4) := by rw [Go.Joins.cell_of_block HG.out]; rfl
        have g5 : w8.cell? ⟨w.heap.size + 1, 5, none⟩ = some (.slice A5 n5 c5) := by rw [Go.Joins.cell_of_block HG.out]; rfl
        have g6 : w8.cell? ⟨w.heap.size + 1, 6, none⟩ = some (.string g.hints) := by rw [Go.Joins.cell_of_block HG.out]; rfl
        have r0 : w8.cell? ⟨w.heap.size + 1 + 1, 0, none⟩ = some (.int .i64 0) := by rw [Go.Joins.cell_of_block HR.out]; rfl
        have r1 : w8.cell? ⟨w.heap.size + 1 + 1, 1, none⟩ = some (.slice none 0 0) := by rw [Go.Joins.cell_of_block HR.out]; rfl
        have rf : ∀ o, w8.frozen? ⟨w.heap.size + 1 + 1, o, none⟩ = false := Go.Joins.unfrozen_of_block HR.out
        have lX : w.heap.size + 1 + 1 < w8.heap.size := by omega
        have lS : w.heap.size < w8.heap.size := by omega
        have lG : w.heap.size + 1 < w8.heap.size := by omega
        have hcall := Lib.hid (fun W (hS : SameB 0 w8.heap.size w8 W) (hzW : w8.heap.size ≤ W.heap.size) => copyGlyph_any g ⟨⟨A3, n3, c3⟩, ⟨A4, n4, c4⟩, ⟨A5, n5, c5⟩⟩ lo hi W ⟨hr0.out.frame good_loop ((Below.sameB hBw8 hhi).trans (hS.mono (Nat.zero_le _) (by omega))), hr1.out.frame (good_flat _) ((Below.sameB hBw8 hhi).trans (hS.mono (Nat.zero_le _) (by omega))), hr2.out.frame (good_flat _) ((Below.sameB hBw8 hhi).trans (hS.mono (Nat.zero_le _) (by omega)))⟩ (by omega) hmg.out)
        go_region_law (first | (refine stepAppN rfl (.tmp 54) (.tmp 57) elemGlyph rfl (v := .slice A7 n c7) (n := n) (xs := ys) rfl ((own_below hown8.out hB9.out).alloc _) rfl (src_at (cs := [.string g.name, .int .i64 g.code, .int .i64 g.adv, .slice h4.out.A h4.out.n h4.out.c, .slice h4.parts.A h4.parts.n h4.parts.c, .slice h4.anchors.A h4.anchors.n h4.anchors.c, .string g.hints]) rfl (by simp [Value.oneCell']) (by simp)) (by omega) (by omega) (by simp; omega) (n + 1) rfl ?_; intro A10 c10 w10 ho10 hg10 hbk10; have hz10 := hg10.size; (try simp at hz10); have kY : w10.heap[w7.heap.size]? = w8.heap[w7.heap.size]? := ((hg10.block _ (by simp; omega) (fun e => hneY.out e.symm)).trans (Below.heap_alloc _ _ _ (by omega))).trans (hB9.out.block _ hY8); have kX : w10.heap[w.heap.size + 1 + 1]? = w8.heap[w.heap.size + 1 + 1]? := ((hg10.block _ (by simp; omega) (fun e => hneX.out e.symm)).trans (Below.heap_alloc _ _ _ (by omega))).trans (hB9.out.block _ (by omega)); have y0 : w10.cell? ⟨w7.heap.size, 0, none⟩ = some (.int .i64 d.unit) := (World.cell?_of_block kY).trans v0; have y1 : w10.cell? ⟨w7.heap.size, 1, none⟩ = some (.slice A7 n c7) := (World.cell?_of_block kY).trans v1; have yf : ∀ o, w10.frozen? ⟨w7.heap.size, o, none⟩ = false := (fun o => (World.frozen?_of_block kY).trans (vf o)); have x0 : w10.cell? ⟨w.heap.size + 1 + 1, 0, none⟩ = some (.int .i64 0) := (World.cell?_of_block kX).trans r0; have x1 : w10.cell? ⟨w.heap.size + 1 + 1, 1, none⟩ = some (.slice none 0 0) := (World.cell?_of_block kX).trans r1; have xf : ∀ o, w10.frozen? ⟨w.heap.size + 1 + 1, o, none⟩ = false := (fun o => (World.frozen?_of_block kX).trans (rf o)); replace kY := Lib.hid kY; replace kX := Lib.hid kX; replace ho10 := Lib.hid ho10; replace hg10 := Lib.hid hg10; replace hbk10 := Lib.hid hbk10) | (go_simp; go_at_call 35; refine (hcall.out _ (by repeat (first | exact SameB.refl _ _ _ | refine SameB.drew ?_)) (by simp)).mono ?_; rintro e w9 ⟨h4, rfl, hX9, hb9⟩; have hB9 : Below w8.heap.size w8 w9 := ((Below.refl _ _).drew).trans (hb9.mono (by simp)); have hs9 : w8.heap.size ≤ w9.heap.size := (by have := hb9.size; simp at this; exact this); have u1 : w9.cell? ⟨w7.heap.size, 1, none⟩ = some (.slice A7 n c7) := (by rw [hB9.cell hY8]; exact v1); have uf : w7.heap.size < w9.heap.size := (by omega); replace hX9 := Lib.hid hX9; replace hB9 := Lib.hid hB9; clear hb9; dsimp only))
        all_goals
          go_wp2_with fail
          have hB := hB9.out
          have hgg := hg10.out
          have hxw := (hX9.out.wide (lo' := w8.heap.size) (by simp) (Nat.le_refl _)).same ((SameB.refl _ _ w9).alloc (Nat.le_refl _) (.cells #[.string g.name, .int .i64 g.code, .int .i64 g.adv, .slice h4.out.A h4.out.n h4.out.c, .slice h4.parts.A h4.parts.n h4.parts.c, .slice h4.anchors.A h4.anchors.n h4.anchors.c, .string g.hints] 39 (0, 0)))
          have hnx := GsX.next (w1 := w9.alloc (.cells #[.string g.name, .int .i64 g.code, .int .i64 g.adv, .slice h4.out.A h4.out.n h4.out.c, .slice h4.parts.A h4.parts.n h4.parts.c, .slice h4.anchors.A h4.anchors.n h4.anchors.c, .string g.hints] 39 (0, 0))) hx8.out (by omega) (hB.alloc hB.size _) hxw (by omega) (by simp) ho10.out hgg (hbk10.out.imp id fun e => ⟨_, by simp, e⟩)
          have hnY : (Value.slice A10 (n + 1) c10).ownBlock ≠ some w7.heap.size := fun e => by
            rcases hbk10.out with hh | hh
            · exact hneY.out (hh.symm.trans e)
            · rw [hh] at e; simp at e; omega
          have hiv7 := hx7.out.2.2.2.2.1
          have hgx := gsX_setOther (i := 1) hnx hnY (fun j hj => by
            by_cases hjk : j = n
            · simp only [hjk, if_pos]; left; omega
            · simp only [if_neg hjk]; have := (hiv7 j (by omega)).2.2; right; omega) (.slice A10 (n + 1) c10)
          have hB10 : Below w.heap.size w w10 := ((hBw8.trans (hB.mono (by omega))).alloc (by omega) _).grown hgg (by simp; omega) (fun gk hgk => by have := (hown8.out.lt gk hgk).1; omega)
          have kk : w.heap.size + 1 + 1 < w6.heap.size := by omega
          have kk1 : w.heap.size ≤ w.heap.size + 1 + 1 := by omega
          have kk2 : w.heap.size ≤ w7.heap.size := by omega
          refine bodyPost_ret (v := .tuple #[.agg #[.int .i64 d.unit, .slice A10 (n + 1) c10], .int .i64 0]) (by simp [results, Try.results10, go_sem, x0, x1]) rfl ⟨_, _, _, rfl, ⟨_, _, _, (hgx.same (((SameB.refl _ _ _).setCell (.inl kk) _).setCell (.inl kk) _)).wide (by omega) (by simp)⟩, ((hB10.setCell kk2 _).setCell kk1 _).setCell kk1 _⟩
end Go.Proofs.Ytgnjohkfgllhmaa

/- Whether marks in sets of glyphs are held; the marks of a set of the call's own; weak marks of a glyph. Printed by mk_held.py. Conditions: as each states. -/
namespace Go.Proofs.Ytgnjohkfgllhmaa
open Go.RowKit
set_option linter.unusedVariables false
set_option maxRecDepth 100000

set_option maxHeartbeats 1000000 in
theorem heldAnchorS_any (A : Option Addr) (n c lo hi : Nat) (m : Int) (w : World) (hr : RdS 3 (FlatR anchC) w lo hi A n (mkAnchor m n)) (hhi : hi ≤ w.heap.size) (hm0 : 0 ≤ m) (hm : m ≤ 4000000000000000000) (hn : n ≤ 1000000000) :
    Calls Try.prog 107 #[.slice A n c, .int .i64 m] w fun e w' => e = .returned (.int .i64 (m + 3 * (n : Int))) ∧ Below w.heap.size w w' := by
  replace hr := Lib.hid hr
  go_enter Try.func107, Try.ntmps107
  go_wp2_with fail
  go_loopw [1, 5] (fun k i wr => ∃ (q : Nat), i = .int .i64 q ∧ k = .int .i64 (m + 3 * q) ∧ q ≤ n ∧ Below w.heap.size w wr) (fun k i wr => n - (intOf i).toNat)
  case atStart => exact ⟨0, rfl, by go_num, Nat.zero_le _, Below.refl _ _⟩
  case round =>
    obtain ⟨q, rfl, rfl, hq, hbel⟩ := hrel
    have hsz := hbel.size
    by_cases hlt : q < n
    · obtain ⟨b, off, a, rfl, _, hb, ha, hc⟩ := (hr.out.frame (good_flat _) (Below.sameB hbel hhi)).at hlt
      rw [mkAnchor_at m hlt] at ha
      injection ha with ha
      subst ha
      have c0 : wr.cell? ⟨b, off + q * 3, none⟩ = some (.string (mText (m + 3 * q))) := hc 0 _ rfl
      have c1 : wr.cell? ⟨b, off + q * 3 + 1, none⟩ = some (.int .i64 ((m + 3 * q) + 1)) := hc 1 _ rfl
      have c2 : wr.cell? ⟨b, off + q * 3 + 2, none⟩ = some (.int .i64 ((m + 3 * q) + 1 + 1)) := hc 2 _ rfl
      have hcM := Lib.hid (fun dr os => Calls.regrown_of (markText_any (m + 3 * q) (Go.Sort.grow (redrawn wr dr) os) (by omega) (by omega)))
      have k0 : ∀ dr os, (Go.Sort.grow (redrawn wr dr) os).cell? ⟨b, off + q * 3, none⟩ = some (.string (mText (m + 3 * q))) := cell_regrown c0
      have k1 : ∀ dr os, (Go.Sort.grow (redrawn wr dr) os).cell? ⟨b, off + q * 3 + 1, none⟩ = some (.int .i64 ((m + 3 * q) + 1)) := cell_regrown c1
      have k2 : ∀ dr os, (Go.Sort.grow (redrawn wr dr) os).cell? ⟨b, off + q * 3 + 2, none⟩ = some (.int .i64 ((m + 3 * q) + 1 + 1)) := cell_regrown c2
      have hbw : b < wr.heap.size := by omega
      clear hc c0 c1 c2
      go_wp2_with fail
      refine wp_region_quiet_below (by kernel_rfl) (by kernel_rfl) ?_
      repeat (go_big_quiet_step (exact hcM.out _ _))
      refine wpQuiet_nil ?_
      intro _ hw'
      obtain ⟨⟨dq, osq⟩, hw''⟩ := hw'
      subst hw''
      have hb3 := hbel.trans ((below_regrown wr dq osq).mono hsz)
      have d1 := k1 dq osq
      have d2 := k2 dq osq
      clear k0 k1 k2 hcM
      generalize Go.Sort.grow (redrawn wr dq) osq = w1 at *
      go_wp2_with fail
      go_roundw
      case rel => exact ⟨q + 1, by go_num, by go_num, by omega, hb3⟩
      case measure => simp [intOf]; omega
    · have hqn : q = n := by omega
      replace hqn := Lib.hid hqn
      go_wp2_with fail
      go_ret
      exact ⟨ret_int (by have := hqn.out; omega), hbel⟩
end Go.Proofs.Ytgnjohkfgllhmaa

/- Whether the marks of a set of glyphs are held; the marks of a set of the call's own; weak marks of a glyph. Conditions: as each states. -/
namespace Go.Proofs.Ytgnjohkfgllhmaa
open Go.RowKit
set_option linter.unusedVariables false
set_option maxRecDepth 100000

set_option maxHeartbeats 4000000 in
theorem heldGlyphS_any (A : Option Addr) (n c lo hi : Nat) (L : List Gl) (m : Int) (w : World) (hr : GsRd w lo hi A n (mkGs m L)) (hL : ∀ g ∈ L, GlSm g) (hhi : hi ≤ w.heap.size) (hm0 : 0 ≤ m) (hm : m ≤ 100) (hn : n ≤ 100) :
    Calls Try.prog 69 #[.slice A n c, .int .i64 m] w fun e w' => e = .returned (.int .i64 (m + (gsN L : Int))) ∧ Below w.heap.size w w' := by
  have hll : L.length = n := by rw [← mkGs_length m L]; exact hr.1
  replace hr := Lib.hid hr
  replace hL := Lib.hid hL
  go_enter Try.func69, Try.ntmps69
  go_wp2_with fail
  go_loopw [1, 5] (fun l i wr => ∃ (k : Nat), i = .int .i64 k ∧ l = .int .i64 (m + (((L.map glN).take k).sum : Nat)) ∧ k ≤ n ∧ Below w.heap.size w wr) (fun l i wr => n - (intOf i).toNat)
  case atStart => exact ⟨0, rfl, by simp, Nat.zero_le _, Below.refl _ _⟩
  case round =>
    obtain ⟨k, rfl, rfl, hk, hbel⟩ := hrel
    have hsz := hbel.size
    by_cases hlt : k < n
    · obtain ⟨b, off, dg, hh, rfl, hb0, hb, hja, hcs, hrd⟩ := gs_at (hr.out.frame good_glyph (Below.sameB hbel hhi)) hlt
      obtain ⟨d, hd⟩ : ∃ d, L[k]? = some d := ⟨_, List.getElem?_eq_getElem (by omega)⟩
      rw [mkGs_at m hd] at hja
      injection hja with hja
      subst hja
      have hsm := hL.out d (List.mem_of_getElem? hd)
      have hgn := hsm.n
      obtain ⟨o1, o2, o3, o4⟩ := hsm
      have hst := sum_take_succ (map_at (f := glN) hd)
      have hle := gs_sum_le hL.out k
      have hle2 : ((L.map glN).take k).sum ≤ 3100000 := Nat.le_trans hle (by omega)
      obtain ⟨r, hr0⟩ : ∃ r : Int, r = m + (((L.map glN).take k).sum : Nat) := ⟨_, rfl⟩
      have hrl : 0 ≤ r := by omega
      have hru : r ≤ 3200000 := by omega
      have hnx : r + 4 + 3 * (kN d.out : Int) + 3 * (d.parts.length : Int) + 3 * (d.anchors.length : Int) = m + (((L.map glN).take (k + 1)).sum : Nat) := by
        rw [hst, hr0]; unfold glN; push_cast; omega
      rw [← hr0] at hrd hcs ⊢
      replace hnx := Lib.hid hnx
      replace hst := Lib.hid hst
      replace hr0 := Lib.hid hr0
      have c0 : wr.cell? ⟨b, off + k * 7, none⟩ = some (.string (mText r)) := hcs 0 _ rfl
      have c1 : wr.cell? ⟨b, off + k * 7 + 1, none⟩ = some (.int .i64 (r + 1)) := hcs 1 _ rfl
      have c2 : wr.cell? ⟨b, off + k * 7 + 2, none⟩ = some (.int .i64 (r + 1 + 1)) := (hcs 2 _ rfl).trans (by show some (Value.int .i64 (r + 2)) = _; rw [show r + 2 = r + 1 + 1 by omega])
      have c3 : wr.cell? ⟨b, off + k * 7 + 3, none⟩ = some (.slice hh.out.A hh.out.n hh.out.c) := hcs 3 _ rfl
      have c4 : wr.cell? ⟨b, off + k * 7 + 4, none⟩ = some (.slice hh.parts.A hh.parts.n hh.parts.c) := hcs 4 _ rfl
      have c5 : wr.cell? ⟨b, off + k * 7 + 5, none⟩ = some (.slice hh.anchors.A hh.anchors.n hh.anchors.c) := hcs 5 _ rfl
      have c6 : wr.cell? ⟨b, off + k * 7 + 6, none⟩ = some (.string (mText (r + 1 + 1 + 1 + 3 * (kN d.out : Int) + 3 * (hh.parts.n : Int) + 3 * (hh.anchors.n : Int)))) := by
        have h4 : (mkPart (r + 3 + 3 * (kN d.out : Int)) d.parts.length).length = hh.parts.n := hrd.2.1.1
        have h5 : (mkAnchor (r + 3 + 3 * (kN d.out : Int) + 3 * (d.parts.length : Int)) d.anchors.length).length = hh.anchors.n := hrd.2.2.1
        rw [mkPart_length] at h4
        rw [mkAnchor_length] at h5
        rw [← h4, ← h5, show r + 1 + 1 + 1 = r + 3 by omega]
        exact hcs 6 _ rfl
      obtain ⟨hro, hrp, hra⟩ := hrd
      have hon : hh.out.n ≤ 100 := by rw [← hro.1]; show (mkLs _ _).length ≤ _; rw [mkLs_length]; exact o1
      have hpn : d.parts.length = hh.parts.n := by have := hrp.1; rw [show (mkGl r d).parts = mkPart (r + 3 + 3 * (kN d.out : Int)) d.parts.length from rfl, mkPart_length] at this; exact this
      have han : d.anchors.length = hh.anchors.n := by have := hra.1; rw [show (mkGl r d).anchors = mkAnchor (r + 3 + 3 * (kN d.out : Int) + 3 * (d.parts.length : Int)) d.anchors.length from rfl, mkAnchor_length] at this; exact this
      replace hro := Lib.hid (show OutRd wr lo hi hh.out.A hh.out.n (mkLs (r + 1 + 1 + 1) d.out) by rw [show r + 1 + 1 + 1 = r + 3 by omega]; exact hro)
      replace hrp := Lib.hid (show RdS 3 (FlatR partC) wr lo hi hh.parts.A hh.parts.n (mkPart (r + 1 + 1 + 1 + 3 * (kN d.out : Int)) hh.parts.n) by rw [← hpn, show r + 1 + 1 + 1 = r + 3 by omega]; rw [← hpn] at hrp; exact hrp)
      replace hra := Lib.hid (show RdS 3 (FlatR anchC) wr lo hi hh.anchors.A hh.anchors.n (mkAnchor (r + 1 + 1 + 1 + 3 * (kN d.out : Int) + 3 * (hh.parts.n : Int)) hh.anchors.n) by rw [← han, ← hpn, show r + 1 + 1 + 1 = r + 3 by omega]; rw [← han] at hra; exact hra)
      rw [hpn, han] at hnx
      rw [hpn] at o3
      rw [han] at o4
      have hcM := Lib.hid (fun dr os => Calls.regrown_of (markText_any r (Go.Sort.grow (redrawn wr dr) os) (by omega) (by omega)))
      have k0 : ∀ dr os, (Go.Sort.grow (redrawn wr dr) os).cell? ⟨b, off + k * 7, none⟩ = some (.string (mText r)) := cell_regrown c0
      have hbw : b < wr.heap.size := by omega
      have hhw : hi ≤ wr.heap.size := by omega
      clear hcs hb0 hb
      go_wp2_with fail
      refine wp_region_quiet_below (by kernel_rfl) (by kernel_rfl) ?_
      repeat (go_big_quiet_step (exact hcM.out _ _))
      refine wpQuiet_nil ?_
      intro _ hw'
      obtain ⟨⟨dq, osq⟩, hw''⟩ := hw'
      subst hw''
      have hbg := below_regrown wr dq osq
      have hb3 := hbel.trans (hbg.mono hsz)
      have d1 := (hbg.cell hbw).trans c1
      have d2 := (hbg.cell hbw).trans c2
      have d3 := (hbg.cell hbw).trans c3
      have d4 := (hbg.cell hbw).trans c4
      have d5 := (hbg.cell hbw).trans c5
      have d6 := (hbg.cell hbw).trans c6
      replace hro := Lib.hid (hro.out.frame good_loop (Below.sameB hbg hhw))
      replace hrp := Lib.hid (hrp.out.frame (good_flat _) (Below.sameB hbg hhw))
      replace hra := Lib.hid (hra.out.frame (good_flat _) (Below.sameB hbg hhw))
      have hz1 := hbg.size
      clear k0 hcM c0 c1 c2 c3 c4 c5 c6 hbg hbel
      generalize Go.Sort.grow (redrawn wr dq) osq = w1 at *
      have hbw1 : b < w1.heap.size := by omega
      have hcl := Lib.hid (heldLoopS_any hh.out.A hh.out.n hh.out.c lo hi d.out (r + 1 + 1 + 1) w1 hro.out (by omega) (by omega) (by omega) (by omega))
      have hcp := Lib.hid (heldPartS_any hh.parts.A hh.parts.n hh.parts.c lo hi (r + 1 + 1 + 1 + 3 * (kN d.out : Int)) w1 hrp.out (by omega) (by omega) (by omega))
      have hca := Lib.hid (heldAnchorS_any hh.anchors.A hh.anchors.n hh.anchors.c lo hi (r + 1 + 1 + 1 + 3 * (kN d.out : Int) + 3 * (hh.parts.n : Int)) w1 hra.out (by omega) (by omega) (by omega) (by omega))
      clear hro hrp hra
      go_wp2_with fail
      refine hcl.out.mono ?_
      rintro e w' ⟨rfl, rfl⟩
      clear hcl
      go_wp2_with fail
      refine hcp.out.mono ?_
      rintro e w' ⟨rfl, rfl⟩
      clear hcp
      go_wp2_with fail
      refine hca.out.mono ?_
      rintro e w2 ⟨rfl, hb2⟩
      clear hca
      have hb4 := hb3.trans (hb2.mono hb3.size)
      have e6 := (hb2.cell hbw1).trans d6
      have hz2 := hb2.size
      clear d1 d2 d3 d4 d5 d6 hb2
      have hbw2 : b < w2.heap.size := by omega
      have hcM := Lib.hid (fun dr os => Calls.regrown_of (markText_any (r + 1 + 1 + 1 + 3 * (kN d.out : Int) + 3 * (hh.parts.n : Int) + 3 * (hh.anchors.n : Int)) (Go.Sort.grow (redrawn w2 dr) os) (by omega) (by omega)))
      have k6 : ∀ dr os, (Go.Sort.grow (redrawn w2 dr) os).cell? ⟨b, off + k * 7 + 6, none⟩ = some (.string (mText (r + 1 + 1 + 1 + 3 * (kN d.out : Int) + 3 * (hh.parts.n : Int) + 3 * (hh.anchors.n : Int)))) := cell_regrown e6
      clear e6
      go_wp2_with fail
      refine wp_region_quiet_below (by kernel_rfl) (by kernel_rfl) ?_
      repeat (go_big_quiet_step (exact hcM.out _ _))
      refine wpQuiet_nil ?_
      intro _ hw'
      obtain ⟨⟨dq2, osq2⟩, hw''⟩ := hw'
      subst hw''
      have hb5 := hb4.trans ((below_regrown w2 dq2 osq2).mono hb4.size)
      clear k6 hcM
      generalize Go.Sort.grow (redrawn w2 dq2) osq2 = w3 at *
      go_wp2_with fail
      go_roundw
      case rel => exact ⟨k + 1, by go_num, by rw [← hnx.out]; congr 1; omega, by omega, hb5⟩
      case measure => simp [intOf]; omega
    · have hkn : k = n := by omega
      have hfin : ((L.map glN).take k).sum = gsN L := by rw [List.take_of_length_le (by rw [List.length_map]; omega)]; rfl
      rw [hfin]
      replace hfin := Lib.hid hfin
      replace hkn := Lib.hid hkn
      go_wp2_with fail
      go_ret
      exact ⟨rfl, hbel⟩
theorem heldGlyphSet_any (d : GSet) (A : Option Addr) (n c lo hi : Nat) (u m : Int) (w : World) (hr : GsRd w lo hi A n (mkGs m d.gl)) (hL : ∀ g ∈ d.gl, GlSm g) (hhi : hi ≤ w.heap.size) (hm0 : 0 ≤ m) (hm : m ≤ 100) (hn : n ≤ 100) :
    Calls Try.prog 27 #[.agg #[.int .i64 u, .slice A n c], .int .i64 m] w fun e w' => e = .returned (.int .i64 (m + (gsN d.gl : Int))) ∧ Below w.heap.size w w' := by
  have hc := Lib.hid (fun a => heldGlyphS_any A n c lo hi d.gl m (w.alloc a) (hr.frame good_glyph ((SameB.refl _ _ w).alloc hhi _)) hL (by simp; omega) hm0 hm hn)
  clear hr hL
  have h0 : 0 ≤ m + (gsN d.gl : Int) := by omega
  go_enter Try.func27, Try.ntmps27
  go_wp2_with fail
  refine (hc.out _).mono ?_
  rintro e w1 ⟨rfl, hb⟩
  go_wp2_with fail
  go_ret
  exact ⟨rfl, (Go.Joins.below_alloc1 _ _).trans (hb.mono (by simp))⟩
theorem markGlyphSet_x (A : Option Addr) (n c lo hi : Nat) (L : List Gl) (ys0 : List Value) (hs : Nat → GlH) (iv : Nat → Nat × Nat) (u m : Int) (w : World) (hr : GsX w lo hi A n c L ys0 hs iv) (hL : ∀ g ∈ L, GlSm g) (hn : n ≤ 100) (hhi : hi ≤ w.heap.size) (hm0 : 0 ≤ m) (hm : m ≤ 100) :
    Calls Try.prog 25 #[.agg #[.int .i64 u, .slice A n c], .int .i64 m] w fun e w' => e = .returned (.int .i64 (m + (gsN L : Int))) ∧ MarkW notL lo hi w w' ∧ ∃ ys, GsX w' lo hi A n c (mkGs m L) ys hs iv := by
  have hc := Lib.hid (fun a => markGlyphS_x A n c lo hi L ys0 hs iv m (w.alloc a) (hr.same ((SameB.refl _ _ w).alloc hhi _)) hL hn (by simp; omega) hm0 hm)
  clear hr hL
  go_enter Try.func25, Try.ntmps25
  go_wp2_with fail
  refine (hc.out _).mono ?_
  rintro e w1 ⟨rfl, hM, ys, hx⟩
  replace hM := Lib.hid hM
  replace hx := Lib.hid hx
  go_wp2_with fail
  go_ret
  exact ⟨rfl, (MarkW.ofBelow (Go.Joins.below_alloc1 _ _)).trans hM.out, ys, hx.out⟩
theorem markGlyphSet_wb (d : GSet) (h : GSetH) (lo hi : Nat) (m : Int) (w : World) (hr : GsMk w lo hi h.gl.A h.gl.n h.gl.c) (hhi : hi ≤ w.heap.size) (hm0 : 0 ≤ m) (hm : m ≤ 100) (hn : h.gl.n ≤ 1048576) :
    Calls Try.prog 25 #[gsV d h, .int .i64 m] w fun e w' => ∃ r : Int, e = .returned (.int .i64 r) ∧ m ≤ r ∧ r ≤ 3500000000000000000 ∧ MarkW notL lo hi w w' := by
  have hc := Lib.hid (fun a => markGlyphS_wb h.gl.A h.gl.n h.gl.c lo hi m (w.alloc a) (hr.frame ((SameB.refl _ _ w).alloc hhi _)) hm0 hm hn)
  clear hr
  go_enter Try.func25, Try.ntmps25
  go_wp2_with fail
  refine (hc.out _).mono ?_
  rintro e w1 ⟨r, rfl, hr, hr2, hM⟩
  replace hM := Lib.hid hM
  go_wp2_with fail
  go_ret
  exact ⟨r, rfl, hr, by omega, (MarkW.ofBelow (Go.Joins.below_alloc1 _ _)).trans hM.out⟩
theorem markOutline_w (A : Option Addr) (n c lo hi : Nat) (m : Int) (w : World) (hr : MkL w lo hi A n c) (hhi : hi ≤ w.heap.size) (hm0 : 0 ≤ m) (hm : m ≤ 3900000000000000000) (hn : n ≤ 1048576) :
    Calls Try.prog 66 #[.agg #[.slice A n c], .int .i64 m] w fun e w' => ∃ r : Int, e = .returned (.int .i64 r) ∧ m ≤ r ∧ r ≤ m + 3145728 * (n : Int) ∧ MarkW knotK lo hi w w' := by
  have hc := Lib.hid (fun a => markLoopS_w A n c lo hi m (w.alloc a) (hr.frame ((SameB.refl _ _ w).alloc hhi _)) hm0 hm hn)
  clear hr
  go_enter Try.func66, Try.ntmps66
  go_wp2_with fail
  refine (hc.out _).mono ?_
  rintro e w1 ⟨r, rfl, hr, hr2, hM⟩
  replace hM := Lib.hid hM
  go_wp2_with fail
  go_ret
  exact ⟨r, rfl, hr, hr2, (MarkW.ofBelow (Go.Joins.below_alloc1 _ _)).trans hM.out⟩
set_option maxHeartbeats 2000000 in
theorem markGlyph_w (d : Gl) (h : GlH) (lo hi : Nat) (m : Int) (w : World) (hr : GlMk w lo hi h) (hhi : hi ≤ w.heap.size) (hm0 : 0 ≤ m) (hm : m ≤ 3600000000000000000) :
    Calls Try.prog 26 #[glV d h, .int .i64 m] w fun e w' => ∃ r : Int, e = .returned (.int .i64 r) ∧ m ≤ r ∧ MarkW notL lo hi w w' := by
  have hon := hr.on
  have hpn := hr.pn
  have han := hr.an
  have hr0 := Lib.hid (hr.frame ((SameB.refl _ _ w).alloc hhi (.cells #[.string d.name, .int .i64 d.code, .int .i64 d.adv, .slice h.out.A h.out.n h.out.c, .slice h.parts.A h.parts.n h.parts.c, .slice h.anchors.A h.anchors.n h.anchors.c, .string d.hints] 39 (0, 0))))
  have HB := Lib.hid (heap_alloc_new w (.cells #[.string d.name, .int .i64 d.code, .int .i64 d.adv, .slice h.out.A h.out.n h.out.c, .slice h.parts.A h.parts.n h.parts.c, .slice h.anchors.A h.anchors.n h.anchors.c, .string d.hints] 39 (0, 0)))
  have hM0 := Lib.hid (MarkW.ofBelow (P := notL) (lo := lo) (hi := hi) (Go.Joins.below_alloc1 w (.cells #[.string d.name, .int .i64 d.code, .int .i64 d.adv, .slice h.out.A h.out.n h.out.c, .slice h.parts.A h.parts.n h.parts.c, .slice h.anchors.A h.anchors.n h.anchors.c, .string d.hints] 39 (0, 0))))
  have hzz : (w.alloc (.cells #[.string d.name, .int .i64 d.code, .int .i64 d.adv, .slice h.out.A h.out.n h.out.c, .slice h.parts.A h.parts.n h.parts.c, .slice h.anchors.A h.anchors.n h.anchors.c, .string d.hints] 39 (0, 0))).heap.size = w.heap.size + 1 := by simp
  clear hr
  go_enter Try.func26, Try.ntmps26
  go_wp2_with fail
  generalize w.alloc (.cells #[.string d.name, .int .i64 d.code, .int .i64 d.adv, .slice h.out.A h.out.n h.out.c, .slice h.parts.A h.parts.n h.parts.c, .slice h.anchors.A h.anchors.n h.anchors.c, .string d.hints] 39 (0, 0)) = w0 at *
  refine (markOutline_w h.out.A h.out.n h.out.c lo hi m w0 hr0.out.o (by omega) hm0 (by omega) hon).mono ?_
  rintro e w1 ⟨r1, rfl, h1, h2, hM1⟩
  have hz1 := hM1.size
  have hr1 := Lib.hid (hr0.out.marks (by unfold knotK; decide) hM1)
  have HB1 := Lib.hid ((hM1.sameB (lo' := hi) (hi' := w0.heap.size) (.inr (Nat.le_refl _)) (Nat.le_refl _) w.heap.size hhi (by omega)).trans HB.out)
  have hMM1 := Lib.hid (hM0.out.trans (hM1.mono (Nat.le_refl _) (Nat.le_refl _) knot_notL))
  have b4 : w1.cell? ⟨w.heap.size, 4, none⟩ = some (.slice h.parts.A h.parts.n h.parts.c) := by rw [Go.Joins.cell_of_block HB1.out]; rfl
  have bl1 : w.heap.size < w1.heap.size := by omega
  clear hM1 hr0 HB hM0
  go_wp2_with fail
  obtain ⟨⟨xp, hxp⟩, hph⟩ := hr1.out.p
  refine (markPartS_any h.parts.A h.parts.n h.parts.c lo xp r1 w1 hxp (by omega) (by omega) (by omega)).mono ?_
  rintro e w2 ⟨rfl, hg2, hp2, hz2⟩
  have hM2 := MarkW.ofOwn hxp hg2 hp2 (show partK 32 from rfl) hph
  have hr2 := Lib.hid (hr1.out.marks (by unfold partK; decide) hM2)
  have HB2 := Lib.hid ((hM2.sameB (lo' := hi) (hi' := w1.heap.size) (.inr (Nat.le_refl _)) (Nat.le_refl _) w.heap.size hhi (by omega)).trans HB1.out)
  have hMM2 := Lib.hid (hMM1.out.trans (hM2.mono (Nat.le_refl _) (Nat.le_refl _) part_notL))
  have b5 : w2.cell? ⟨w.heap.size, 5, none⟩ = some (.slice h.anchors.A h.anchors.n h.anchors.c) := by rw [Go.Joins.cell_of_block HB2.out]; rfl
  have bl2 : w.heap.size < w2.heap.size := by omega
  clear hM2 hr1 HB1 hMM1 b4 bl1 hxp hph hg2 hp2
  go_wp2_with fail
  obtain ⟨⟨xa, hxa⟩, hah⟩ := hr2.out.a
  refine (markAnchorS_any h.anchors.A h.anchors.n h.anchors.c lo xa (r1 + 3 * (h.parts.n : Int)) w2 hxa (by omega) (by omega) (by omega)).mono ?_
  rintro e w3 ⟨rfl, hg3, hp3, hz3⟩
  have hM3 := MarkW.ofOwn hxa hg3 hp3 (show anchK 111 from rfl) hah
  have hMM3 := Lib.hid (hMM2.out.trans (hM3.mono (Nat.le_refl _) (Nat.le_refl _) anch_notL))
  clear hM3 hr2 HB2 hMM2 b5 bl2 hxa hah hg3 hp3
  go_wp2_with fail
  go_ret
  exact ⟨_, rfl, by omega, hMM3.out⟩
end Go.Proofs.Ytgnjohkfgllhmaa

/- The law on AddGlyph. Printed by lawadd.py. Conditions: as it states. -/
namespace Go.Proofs.Ytgnjohkfgllhmaa
open Go.RowKit
set_option linter.unusedVariables false
set_option maxRecDepth 100000

/-- outside lo..hi the world is as it was -/
structure Keep (lo hi : Nat) (w w' : World) : Prop where
  bel : Below lo w w'
  sam : SameB hi w.heap.size w w'
  size : w.heap.size ≤ w'.heap.size
theorem Keep.of_below {w w' : World} (h : Below w.heap.size w w') : Keep w.heap.size w.heap.size w w' := ⟨h, fun b h1 h2 => absurd h1 (by omega), h.size⟩
theorem Keep.block {lo hi : Nat} {w w' : World} (h : Keep lo hi w w') (b : Nat) (hb : b < lo ∨ hi ≤ b) (hlt : b < w.heap.size) : w'.heap[b]? = w.heap[b]? := by
  rcases hb with hb | hb
  · exact h.bel.block b hb
  · exact h.sam b hb hlt
theorem Keep.sameB {lo hi lo' hi' : Nat} {w w' : World} (h : Keep lo hi w w') (hh : hi' ≤ lo ∨ hi ≤ lo') (h2 : hi' ≤ w.heap.size) : SameB lo' hi' w w' := fun b h3 h4 => h.block b (by omega) (by omega)
theorem Keep.row {w w' : World} {n c g : Nat} (hg : w.grownBy w' (Value.slice (some ⟨g, 0, none⟩) n c).ownBlock) (hz : w'.heap.size = w.heap.size) : Keep g (g + 1) w w' := by
  refine ⟨⟨hg.os, hg.tape, hg.output, hg.size, fun b hb => ?_⟩, fun b h1 h2 => hg.block b h2 fun e => ?_, hg.size⟩
  · rcases Nat.lt_or_ge b w.heap.size with h | h
    · exact hg.block b h fun e => by simp [Value.ownBlock] at e; omega
    · rw [Array.getElem?_eq_none (by omega), Array.getElem?_eq_none (by omega)]
  · simp [Value.ownBlock] at e; omega
theorem glyphOk_sm {g : Gl} (h : glyphOk g = true) : GlSm g := by
  unfold glyphOk at h
  simp only [Bool.and_eq_true, decide_eq_true_eq] at h
  obtain ⟨⟨⟨⟨⟨⟨⟨⟨⟨_, _⟩, _⟩, ho⟩, hp⟩, ha⟩, _⟩, _⟩, _⟩, _⟩ := h
  unfold outOk at ho
  simp only [Bool.and_eq_true, decide_eq_true_eq] at ho
  have hs : ∀ Ls : List (List Knot), Ls.all loopOk = true → kN Ls ≤ Ls.length * 60 := by
    intro Ls
    induction Ls with
    | nil => intro _; simp [kN]
    | cons K Ls ih =>
      intro h
      rw [List.all_cons, Bool.and_eq_true] at h
      have b := ih h.2
      have a := h.1
      unfold loopOk at a
      simp only [Bool.and_eq_true] at a
      have a1 := inB_iff.1 a.1.1
      unfold kN at b ⊢
      simp only [List.map_cons, List.sum_cons, List.length_cons]
      omega
  have h1 := hs g.out ho.1
  exact ⟨by omega, by have := ho.2; omega, by omega, by omega⟩
theorem setOk_sm {d : GSet} (h : setOk d = true) : d.gl.length ≤ 40 ∧ ∀ g ∈ d.gl, GlSm g := by
  unfold setOk at h
  simp only [Bool.and_eq_true, decide_eq_true_eq] at h
  exact ⟨h.1.1.2, fun g hg => glyphOk_sm (glOk_all rfl h.1.2 g hg)⟩
theorem addR_sm (d : GSet) (g : Gl) : (addR d g).1.gl.length ≤ 41 ∧ ∀ x ∈ (addR d g).1.gl, GlSm x := by
  unfold addR
  split
  · rename_i h
    split
    · exact ⟨by simp, fun x hx => by simp at hx⟩
    · split
      · exact ⟨by simp, fun x hx => by simp at hx⟩
      · split
        · exact ⟨by simp, fun x hx => by simp at hx⟩
        · obtain ⟨h1, h2⟩ := setOk_sm h.1
          refine ⟨by simp; omega, fun x hx => ?_⟩
          rcases List.mem_append.1 hx with hx | hx
          · exact h2 x hx
          · rw [List.mem_singleton] at hx; subst hx; exact glyphOk_sm h.2
  · exact ⟨by simp, fun x hx => by simp at hx⟩
theorem GlSm.small {g : Gl} (h : GlSm g) : g.small 1048576 := by
  have hk := h.outSm.k
  obtain ⟨h1, h2, h3, h4⟩ := h
  exact ⟨by omega, fun K hK => by have := hk K hK; omega, by omega, by omega⟩
theorem mkGs_mem {m : Int} {L : List Gl} {x : Gl} (h : x ∈ mkGs m L) : ∃ d ∈ L, ∃ m', x = mkGl m' d := by
  induction L generalizing m with
  | nil => simp [mkGs] at h
  | cons d L ih =>
    rw [mkGs] at h
    rcases List.mem_cons.1 h with h | h
    · exact ⟨d, List.mem_cons_self, m, h⟩
    · obtain ⟨e, he, m', hm⟩ := ih h
      exact ⟨e, List.mem_cons_of_mem _ he, m', hm⟩
theorem GlRm.r {w : World} {lo hi : Nat} {d : Gl} {h : GlH} (r : GlRm w lo hi d h) : GlRd w lo hi d h := r.1
theorem specAdd_any (d : GSet) (g : Gl) (k2 : GSetH) (k3 : GlH) (R : GSet × Int) (hR : R = addR d g) (lo hi : Nat) (w : World) (hr : GSetRd w lo hi d k2) (hrg : GlRd w lo hi g k3) (hhi : hi ≤ w.heap.size) (hm : d.small 1048576) (hmg : g.small 1048576) (hs : ∀ g ∈ d.gl, g.str) (hsg : g.str) :
    Calls Try.prog 24 #[gsV d k2, glV g k3] w fun e w' => ∃ A' n' c' ys hs iv, e = .returned (.tuple #[.agg #[.int .i64 R.1.unit, .slice A' n' c'], .int .i64 R.2]) ∧ GsX w' w.heap.size w'.heap.size A' n' c' R.1.gl ys hs iv ∧ Below w.heap.size w w' :=
  specAdd_flat d g k2.gl.A k2.gl.n k2.gl.c k3.out.A k3.parts.A k3.anchors.A k3.out.n k3.out.c k3.parts.n k3.parts.c k3.anchors.n k3.anchors.c R hR lo hi w hr hrg.1 hrg.2.1 hrg.2.2 hhi hm hmg hs hsg
theorem implAdd_any (d : GSet) (g : Gl) (k2 : GSetH) (k3 : GlH) (R : GSet × Int) (hR : R = addR d g) (lo hi : Nat) (w : World) (hr : GSetRc w lo hi d k2) (hrg : GlRd w lo hi g k3) (hhi : hi ≤ w.heap.size) (hm : d.small 1048576) (hmg : g.small 1048576) (hs : ∀ g ∈ d.gl, g.str) (hsg : g.str) (hcap : k3.anchors.n ≤ k3.anchors.c) :
    Calls Try.prog 10 #[gsV d k2, glV g k3] w fun e w' => ∃ A' n' c' ys hs iv, e = .returned (.tuple #[.agg #[.int .i64 R.1.unit, .slice A' n' c'], .int .i64 R.2]) ∧ GsX w' w.heap.size w'.heap.size A' n' c' R.1.gl ys hs iv ∧ Below w.heap.size w w' :=
  implAdd_flat d g k2.gl.A k2.gl.n k2.gl.c k3.out.A k3.parts.A k3.anchors.A k3.out.n k3.out.c k3.parts.n k3.parts.c k3.anchors.n k3.anchors.c R hR lo hi w hr hrg.1 hrg.2.1 hrg.2.2 hhi hm hmg hs hsg hcap

set_option maxHeartbeats 16000000 in
theorem lawAdd_walk (d : GSet) (h : GSetH) (g : Gl) (hg : GlH) {w : World} (hr : GSetRd w 0 w.heap.size d h) (hm : d.small maxLen) (hst : ∀ g ∈ d.gl, g.str) (hrg : GlRd w 0 w.heap.size g hg) (hmg : g.small maxLen) (hsg : g.str) :
    Calls Try.prog 6 #[gsV d h, glV g hg] w fun e w' => e = .returned (.bool true) ∧ Below w.heap.size w w' := by
  obtain ⟨R, hR⟩ : ∃ R, R = addR d g := ⟨_, rfl⟩
  have sR : R.1.gl.length ≤ 41 ∧ ∀ x ∈ R.1.gl, GlSm x := by rw [hR]; exact addR_sm d g
  obtain ⟨R1, hR1⟩ : ∃ R1, R1 = R.1 := ⟨_, rfl⟩
  obtain ⟨code, hcode⟩ : ∃ x, x = R.2 := ⟨_, rfl⟩
  have hspec := Lib.hid (fun k2 k3 => specAdd_any d g k2 k3 R hR)
  have himpl := Lib.hid (fun k2 k3 => implAdd_any d g k2 k3 R hR)
  rw [← hR1, ← hcode] at hspec himpl
  rw [← hR1] at sR
  have hRn := sR.1
  have hOS := Lib.hid (fun x (hx : x ∈ R1.gl) => (sR.2 x hx).outSm)
  have hOM := Lib.hid (fun (m : Int) x (hx : x ∈ mkGs m R1.gl) => show OutSm x.out from by
    obtain ⟨e, he, m', hm⟩ := mkGs_mem hx
    rw [hm]
    exact ((sR.2 e he).mk m').outSm)
  have hRsm : Hid (R1.small 100000000) := ⟨by omega, fun x hx => ((sR.2 x hx).small).mono (by omega)⟩
  replace sR := Lib.hid sR.2
  replace hr := Lib.hid hr
  replace hm := Lib.hid hm
  replace hst := Lib.hid hst
  replace hrg := Lib.hid hrg
  replace hmg := Lib.hid hmg
  replace hsg := Lib.hid hsg
  clear hR hR1 hcode
  have hB : Below w.heap.size w w := Below.refl _ _
  have hnew := heap_new2 w (.cells #[.int .i64 d.unit, .slice h.gl.A h.gl.n h.gl.c] 62 (0, 0)) (.cells #[.string g.name, .int .i64 g.code, .int .i64 g.adv, .slice hg.out.A hg.out.n hg.out.c, .slice hg.parts.A hg.parts.n hg.parts.c, .slice hg.anchors.A hg.anchors.n hg.anchors.c, .string g.hints] 54 (0, 0))
  have hBx : Below w.heap.size w ((w.alloc (.cells #[.int .i64 d.unit, .slice h.gl.A h.gl.n h.gl.c] 62 (0, 0))).alloc (.cells #[.string g.name, .int .i64 g.code, .int .i64 g.adv, .slice hg.out.A hg.out.n hg.out.c, .slice hg.parts.A hg.parts.n hg.parts.c, .slice hg.anchors.A hg.anchors.n hg.anchors.c, .string g.hints] 54 (0, 0))) := Go.Joins.below_alloc2 _ _ _
  have hzx : ((w.alloc (.cells #[.int .i64 d.unit, .slice h.gl.A h.gl.n h.gl.c] 62 (0, 0))).alloc (.cells #[.string g.name, .int .i64 g.code, .int .i64 g.adv, .slice hg.out.A hg.out.n hg.out.c, .slice hg.parts.A hg.parts.n hg.parts.c, .slice hg.anchors.A hg.anchors.n hg.anchors.c, .string g.hints] 54 (0, 0))).heap.size = w.heap.size + 2 := by simp
  have qs0 : ((w.alloc (.cells #[.int .i64 d.unit, .slice h.gl.A h.gl.n h.gl.c] 62 (0, 0))).alloc (.cells #[.string g.name, .int .i64 g.code, .int .i64 g.adv, .slice hg.out.A hg.out.n hg.out.c, .slice hg.parts.A hg.parts.n hg.parts.c, .slice hg.anchors.A hg.anchors.n hg.anchors.c, .string g.hints] 54 (0, 0))).cell? ⟨w.heap.size, 0, none⟩ = some (.int .i64 d.unit) := by rw [Go.Joins.cell_of_block hnew.1]; rfl
  have qs1 : ((w.alloc (.cells #[.int .i64 d.unit, .slice h.gl.A h.gl.n h.gl.c] 62 (0, 0))).alloc (.cells #[.string g.name, .int .i64 g.code, .int .i64 g.adv, .slice hg.out.A hg.out.n hg.out.c, .slice hg.parts.A hg.parts.n hg.parts.c, .slice hg.anchors.A hg.anchors.n hg.anchors.c, .string g.hints] 54 (0, 0))).cell? ⟨w.heap.size, 1, none⟩ = some (.slice h.gl.A h.gl.n h.gl.c) := by rw [Go.Joins.cell_of_block hnew.1]; rfl
  go_enter Try.func6, Try.ntmps6
  go_wp2_with fail
  clear qs0 qs1
  have hzl0 : ((w.alloc (.cells #[.int .i64 d.unit, .slice h.gl.A h.gl.n h.gl.c] 62 (0, 0))).alloc (.cells #[.string g.name, .int .i64 g.code, .int .i64 g.adv, .slice hg.out.A hg.out.n hg.out.c, .slice hg.parts.A hg.parts.n hg.parts.c, .slice hg.anchors.A hg.anchors.n hg.anchors.c, .string g.hints] 54 (0, 0))).heap.size ≤ w.heap.size + 2 := by omega
  have hzg0 : w.heap.size + 2 ≤ ((w.alloc (.cells #[.int .i64 d.unit, .slice h.gl.A h.gl.n h.gl.c] 62 (0, 0))).alloc (.cells #[.string g.name, .int .i64 g.code, .int .i64 g.adv, .slice hg.out.A hg.out.n hg.out.c, .slice hg.parts.A hg.parts.n hg.parts.c, .slice hg.anchors.A hg.anchors.n hg.anchors.c, .string g.hints] 54 (0, 0))).heap.size := by omega
  clear hzx
  generalize ((w.alloc (.cells #[.int .i64 d.unit, .slice h.gl.A h.gl.n h.gl.c] 62 (0, 0))).alloc (.cells #[.string g.name, .int .i64 g.code, .int .i64 g.adv, .slice hg.out.A hg.out.n hg.out.c, .slice hg.parts.A hg.parts.n hg.parts.c, .slice hg.anchors.A hg.anchors.n hg.anchors.c, .string g.hints] 54 (0, 0))) = w0 at *
  have hB0 := hBx
  clear hBx
  have bS := Lib.hid hnew.1
  have bG := Lib.hid hnew.2
  clear hnew
  refine (szGlyphSet_any d h 1048576 0 w.heap.size _ (hr.out.frame good_glyph (Below.sameB hB0 (Nat.le_refl _))) hB0.size hm.out hst.out (by omega) (by omega)).mono ?_
  rintro e w1 ⟨rz, rfl, hrz, hc⟩
  have hk := Keep.of_below hc
  clear hc
  have hz1 := hk.size
  have hB1 : Below w.heap.size w w1 := hB0.trans (hk.bel.mono (by omega))
  replace bS := Lib.hid ((hk.block w.heap.size (by omega) (by omega)).trans bS.out)
  replace bG := Lib.hid ((hk.block (w.heap.size + 1) (by omega) (by omega)).trans bG.out)
  clear hk
  rcases hrz with hn1 | ⟨hn1, hl1, hm1⟩
  · go_wp2_with fail
    go_ret
    exact ⟨rfl, hB1⟩
  replace hm1 := Lib.hid hm1
  have hnai : ¬ (rz < 0) := by omega
  have qbG0 : w1.cell? ⟨(w.heap.size + 1), 0, none⟩ = some (.string g.name) := by rw [Go.Joins.cell_of_block bG.out]; rfl
  have qbG1 : w1.cell? ⟨(w.heap.size + 1), 1, none⟩ = some (.int .i64 g.code) := by rw [Go.Joins.cell_of_block bG.out]; rfl
  have qbG2 : w1.cell? ⟨(w.heap.size + 1), 2, none⟩ = some (.int .i64 g.adv) := by rw [Go.Joins.cell_of_block bG.out]; rfl
  have qbG3 : w1.cell? ⟨(w.heap.size + 1), 3, none⟩ = some (.slice hg.out.A hg.out.n hg.out.c) := by rw [Go.Joins.cell_of_block bG.out]; rfl
  have qbG4 : w1.cell? ⟨(w.heap.size + 1), 4, none⟩ = some (.slice hg.parts.A hg.parts.n hg.parts.c) := by rw [Go.Joins.cell_of_block bG.out]; rfl
  have qbG5 : w1.cell? ⟨(w.heap.size + 1), 5, none⟩ = some (.slice hg.anchors.A hg.anchors.n hg.anchors.c) := by rw [Go.Joins.cell_of_block bG.out]; rfl
  have qbG6 : w1.cell? ⟨(w.heap.size + 1), 6, none⟩ = some (.string g.hints) := by rw [Go.Joins.cell_of_block bG.out]; rfl
  have qbGl : (w.heap.size + 1) < w1.heap.size := by omega
  go_wp2_with fail
  clear qbG0 qbG1 qbG2 qbG3 qbG4 qbG5 qbG6 qbGl
  refine (szGlyph_any g hg rz 0 w.heap.size _ (hrg.out.frame (Below.sameB hB1 (Nat.le_refl _))) hB1.size hmg.out hsg.out (by omega) (by omega)).mono ?_
  rintro e w2 ⟨rg, rfl, hrz2, hc⟩
  have hk := Keep.of_below hc
  clear hc
  have hz2 := hk.size
  have hB2 : Below w.heap.size w w2 := hB1.trans (hk.bel.mono (by omega))
  replace bS := Lib.hid ((hk.block w.heap.size (by omega) (by omega)).trans bS.out)
  replace bG := Lib.hid ((hk.block (w.heap.size + 1) (by omega) (by omega)).trans bG.out)
  clear hk
  rcases hrz2 with hn2 | ⟨hn2, hl2, hm2⟩
  · go_wp2_with fail
    go_ret
    exact ⟨rfl, hB2⟩
  replace hm2 := Lib.hid hm2
  have hnai2 : ¬ (rg < 0) := by omega
  clear hl1 hl2
  have Sof : ∀ W : World, Below w2.heap.size w2 W → (W.cell? ⟨w.heap.size, 0, none⟩ = some (.int .i64 d.unit) ∧ W.cell? ⟨w.heap.size, 1, none⟩ = some (.slice h.gl.A h.gl.n h.gl.c) ∧ W.cell? ⟨w.heap.size + 1, 0, none⟩ = some (.string g.name) ∧ W.cell? ⟨w.heap.size + 1, 1, none⟩ = some (.int .i64 g.code) ∧ W.cell? ⟨w.heap.size + 1, 2, none⟩ = some (.int .i64 g.adv) ∧ W.cell? ⟨w.heap.size + 1, 3, none⟩ = some (.slice hg.out.A hg.out.n hg.out.c) ∧ W.cell? ⟨w.heap.size + 1, 4, none⟩ = some (.slice hg.parts.A hg.parts.n hg.parts.c) ∧ W.cell? ⟨w.heap.size + 1, 5, none⟩ = some (.slice hg.anchors.A hg.anchors.n hg.anchors.c) ∧ W.cell? ⟨w.heap.size + 1, 6, none⟩ = some (.string g.hints)) := fun W hB => ⟨by rw [Go.Joins.cell_of_block ((hB.block w.heap.size (by omega)).trans bS.out)]; rfl, by rw [Go.Joins.cell_of_block ((hB.block w.heap.size (by omega)).trans bS.out)]; rfl, by rw [Go.Joins.cell_of_block ((hB.block (w.heap.size + 1) (by omega)).trans bG.out)]; rfl, by rw [Go.Joins.cell_of_block ((hB.block (w.heap.size + 1) (by omega)).trans bG.out)]; rfl, by rw [Go.Joins.cell_of_block ((hB.block (w.heap.size + 1) (by omega)).trans bG.out)]; rfl, by rw [Go.Joins.cell_of_block ((hB.block (w.heap.size + 1) (by omega)).trans bG.out)]; rfl, by rw [Go.Joins.cell_of_block ((hB.block (w.heap.size + 1) (by omega)).trans bG.out)]; rfl, by rw [Go.Joins.cell_of_block ((hB.block (w.heap.size + 1) (by omega)).trans bG.out)]; rfl, by rw [Go.Joins.cell_of_block ((hB.block (w.heap.size + 1) (by omega)).trans bG.out)]; rfl⟩
  replace Sof := Lib.hid Sof
  go_upto_region 8 with fail
  go_cut [6, 7] (fun s6 s7 wx => ∃ (b6 : Nat) (A5 : Option Addr) (n5 c5 : Nat), s6 = .pointer (some ⟨b6, 0, none⟩) ∧ s7 = .int .i64 code ∧ wx.heap[b6]? = some (.cells #[.int .i64 R1.unit, .slice A5 n5 c5] 26 (0, 0)) ∧ GsRc wx 0 wx.heap.size A5 n5 R1.gl ∧ w2.heap.size ≤ b6 ∧ b6 < wx.heap.size ∧ Below w2.heap.size w2 wx)
  case first =>
    go_region_held3 (fun w' => w'.cell? ⟨w.heap.size, 0, none⟩ = some (.int .i64 d.unit) ∧ w'.cell? ⟨w.heap.size, 1, none⟩ = some (.slice h.gl.A h.gl.n h.gl.c) ∧ w'.cell? ⟨w.heap.size + 1, 0, none⟩ = some (.string g.name) ∧ w'.cell? ⟨w.heap.size + 1, 1, none⟩ = some (.int .i64 g.code) ∧ w'.cell? ⟨w.heap.size + 1, 2, none⟩ = some (.int .i64 g.adv) ∧ w'.cell? ⟨w.heap.size + 1, 3, none⟩ = some (.slice hg.out.A hg.out.n hg.out.c) ∧ w'.cell? ⟨w.heap.size + 1, 4, none⟩ = some (.slice hg.parts.A hg.parts.n hg.parts.c) ∧ w'.cell? ⟨w.heap.size + 1, 5, none⟩ = some (.slice hg.anchors.A hg.anchors.n hg.anchors.c) ∧ w'.cell? ⟨w.heap.size + 1, 6, none⟩ = some (.string g.hints)) ((refine Sof.out _ ?_; (repeat (first | exact hb5 | exact hb4 | exact hb3 | refine Below.drew ?_ | refine Below.alloc ?_ (by first | omega | (simp <;> omega)) _ | refine Below.setCell ?_ (by first | omega | (simp <;> omega)) _ | exact Below.refl _ _))))
      (first | (go_at_call 21; (with_reducible refine (toGlyphSet_any d h 0 w.heap.size _ ?_ ?_ hm1.out).mono ?_); (refine hr.out.frame good_glyph (Below.sameB (B := w.heap.size) (w := w) ?_ (Nat.le_refl _)); (repeat (first | exact hB2 | refine Below.drew ?_ | refine Below.alloc ?_ (by first | omega | (simp <;> omega)) _ | refine Below.setCell ?_ (by first | omega | (simp <;> omega)) _ | exact Below.refl _ _))); (have := hB2.size; (first | omega | (simp <;> omega))); rintro e w3 ⟨hA, rfl, rdA, hc3⟩; have hy3 := hc3.size; (try simp at hy3); (refine have_then (Below w2.heap.size w2 w3) ?_ ?_; (refine Below.trans ?_ (hc3.mono (by first | omega | (simp <;> omega))); (repeat (first | exact Below.refl _ _ | refine Below.drew ?_ | refine Below.alloc ?_ (by first | omega | (simp <;> omega)) _ | refine Below.setCell ?_ (by first | omega | (simp <;> omega)) _ | exact Below.refl _ _))); intro hb3); have hz3 : w2.heap.size ≤ w3.heap.size := (by omega); (first | (refine have_then (w3.heap[w2.heap.size]? = some (.cells #[.int .i64 0, .slice none 0 0] 26 (0, 0))) ?_ ?_; (refine (hc3.block w2.heap.size ?_).trans ?_; (first | omega | (simp <;> omega)); (exact heap_alloc_new w2 _)); intro HV3x2; have tc3x2 : w3.cell? ⟨w2.heap.size, 0, none⟩ = some (.int .i64 0) := (by rw [Go.Joins.cell_of_block HV3x2]; rfl); have td3x2 : w3.cell? ⟨w2.heap.size, 1, none⟩ = some (.slice none 0 0) := (by rw [Go.Joins.cell_of_block HV3x2]; rfl); have tf3x2 : ∀ o, w3.frozen? ⟨w2.heap.size, o, none⟩ = false := Go.Joins.unfrozen_of_block HV3x2; have tl3x2 : w2.heap.size < w3.heap.size := (by omega)) | skip); replace rdA := Lib.hid (rdA.wide good_glyphc (lo' := 0) (hi' := w3.heap.size) (Nat.zero_le _) (Nat.le_refl _))) | (go_at_call 16; (with_reducible refine (toGlyph_any g hg 0 w.heap.size _ ?_ ?_ hm2.out).mono ?_); (refine hrg.out.frame (Below.sameB (B := w.heap.size) (w := w) ?_ (Nat.le_refl _)); refine Below.trans hB2 (Below.mono (B := w2.heap.size) ?_ hB2.size); (repeat (first | exact hb3 | refine Below.drew ?_ | refine Below.alloc ?_ (by first | omega | (simp <;> omega)) _ | refine Below.setCell ?_ (by first | omega | (simp <;> omega)) _ | exact Below.refl _ _))); (have := hB2.size; (first | omega | (simp <;> omega))); rintro e w4 ⟨hE, rfl, rd4, hc4, hcap4⟩; have hy4 := hc4.size; (try simp at hy4); (refine have_then (Below w2.heap.size w2 w4) ?_ ?_; (refine Below.trans ?_ (hc4.mono (by first | omega | (simp <;> omega))); (repeat (first | exact hb3 | refine Below.drew ?_ | refine Below.alloc ?_ (by first | omega | (simp <;> omega)) _ | refine Below.setCell ?_ (by first | omega | (simp <;> omega)) _ | exact Below.refl _ _))); intro hb4); have hz4 : w3.heap.size ≤ w4.heap.size := (by omega); (first | (refine have_then (w4.heap[w2.heap.size]? = some (.cells #[.int .i64 0, .slice none 0 0] 26 (0, 0))) ?_ ?_; (refine (hc4.block w2.heap.size ?_).trans ?_; (first | omega | (simp <;> omega)); (exact HV3x2)); intro HV4x2; have tc4x2 : w4.cell? ⟨w2.heap.size, 0, none⟩ = some (.int .i64 0) := (by rw [Go.Joins.cell_of_block HV4x2]; rfl); have td4x2 : w4.cell? ⟨w2.heap.size, 1, none⟩ = some (.slice none 0 0) := (by rw [Go.Joins.cell_of_block HV4x2]; rfl); have tf4x2 : ∀ o, w4.frozen? ⟨w2.heap.size, o, none⟩ = false := Go.Joins.unfrozen_of_block HV4x2; have tl4x2 : w2.heap.size < w4.heap.size := (by omega)) | skip); (first | (refine have_then (w4.heap[w3.heap.size]? = some (.cells #[.int .i64 0, .slice none 0 0] 26 (0, 0))) ?_ ?_; (refine (hc4.block w3.heap.size ?_).trans ?_; (first | omega | (simp <;> omega)); (exact heap_alloc_new w3 _)); intro HV4x3; have tc4x3 : w4.cell? ⟨w3.heap.size, 0, none⟩ = some (.int .i64 0) := (by rw [Go.Joins.cell_of_block HV4x3]; rfl); have td4x3 : w4.cell? ⟨w3.heap.size, 1, none⟩ = some (.slice none 0 0) := (by rw [Go.Joins.cell_of_block HV4x3]; rfl); have tf4x3 : ∀ o, w4.frozen? ⟨w3.heap.size, o, none⟩ = false := Go.Joins.unfrozen_of_block HV4x3; have tl4x3 : w3.heap.size < w4.heap.size := (by omega)) | skip); replace rd4 := Lib.hid (rd4.wide (lo' := 0) (hi' := w4.heap.size) (Nat.zero_le _) (Nat.le_refl _)); (refine have_then (Below w3.heap.size w3 w4) ?_ ?_; (refine Below.trans ?_ (hc4.mono (by first | omega | (simp <;> omega))); (repeat (first | exact Below.refl _ _ | refine Below.drew ?_ | refine Below.alloc ?_ (by first | omega | (simp <;> omega)) _ | refine Below.setCell ?_ (by first | omega | (simp <;> omega)) _ | exact Below.refl _ _))); intro hab); replace rdA := Lib.hid ((rdA.out.frame good_glyphc (Below.sameB hab (Nat.le_refl _))).wide good_glyphc (lo' := 0) (hi' := w4.heap.size) (Nat.le_refl _) hab.size)) | (go_at_call 24; (with_reducible refine (hspec.out hA hE 0 w4.heap.size _ ?_ ?_ ?_ hm1.out hm2.out hst.out hsg.out).mono ?_); (first | exact (GsRc.rd rdA.out) | exact RdS.frame good_glyph (GsRc.rd rdA.out) ((SameB.refl _ _ _).alloc (Nat.le_refl _) _)); (first | exact rd4.out | exact rd4.out.frame ((SameB.refl _ _ _).alloc (Nat.le_refl _) _)); (first | omega | (simp <;> omega)); rintro e w5 ⟨A5, n5, c5, ys5, hs5, iv5, rfl, ho5, hc5⟩; have hy5 := hc5.size; (try simp at hy5); (refine have_then (Below w2.heap.size w2 w5) ?_ ?_; (refine Below.trans ?_ (hc5.mono (by first | omega | (simp <;> omega))); (repeat (first | exact hb4 | refine Below.drew ?_ | refine Below.alloc ?_ (by first | omega | (simp <;> omega)) _ | refine Below.setCell ?_ (by first | omega | (simp <;> omega)) _ | exact Below.refl _ _))); intro hb5); have hz5 : w4.heap.size ≤ w5.heap.size := (by omega); (first | (refine have_then (w5.heap[w2.heap.size]? = some (.cells #[.int .i64 0, .slice none 0 0] 26 (0, 0))) ?_ ?_; (refine (hc5.block w2.heap.size ?_).trans ?_; (first | omega | (simp <;> omega)); (exact HV4x2)); intro HV5x2; have tc5x2 : w5.cell? ⟨w2.heap.size, 0, none⟩ = some (.int .i64 0) := (by rw [Go.Joins.cell_of_block HV5x2]; rfl); have td5x2 : w5.cell? ⟨w2.heap.size, 1, none⟩ = some (.slice none 0 0) := (by rw [Go.Joins.cell_of_block HV5x2]; rfl); have tf5x2 : ∀ o, w5.frozen? ⟨w2.heap.size, o, none⟩ = false := Go.Joins.unfrozen_of_block HV5x2; have tl5x2 : w2.heap.size < w5.heap.size := (by omega)) | skip); (first | (refine have_then (w5.heap[w3.heap.size]? = some (.cells #[.int .i64 0, .slice none 0 0] 26 (0, 0))) ?_ ?_; (refine (hc5.block w3.heap.size ?_).trans ?_; (first | omega | (simp <;> omega)); (exact HV4x3)); intro HV5x3; have tc5x3 : w5.cell? ⟨w3.heap.size, 0, none⟩ = some (.int .i64 0) := (by rw [Go.Joins.cell_of_block HV5x3]; rfl); have td5x3 : w5.cell? ⟨w3.heap.size, 1, none⟩ = some (.slice none 0 0) := (by rw [Go.Joins.cell_of_block HV5x3]; rfl); have tf5x3 : ∀ o, w5.frozen? ⟨w3.heap.size, o, none⟩ = false := Go.Joins.unfrozen_of_block HV5x3; have tl5x3 : w3.heap.size < w5.heap.size := (by omega)) | skip); (first | (refine have_then (w5.heap[w4.heap.size]? = some (.cells #[.int .i64 0, .slice none 0 0] 26 (0, 0))) ?_ ?_; (refine (hc5.block w4.heap.size ?_).trans ?_; (first | omega | (simp <;> omega)); (exact heap_alloc_new w4 _)); intro HV5x4; have tc5x4 : w5.cell? ⟨w4.heap.size, 0, none⟩ = some (.int .i64 0) := (by rw [Go.Joins.cell_of_block HV5x4]; rfl); have td5x4 : w5.cell? ⟨w4.heap.size, 1, none⟩ = some (.slice none 0 0) := (by rw [Go.Joins.cell_of_block HV5x4]; rfl); have tf5x4 : ∀ o, w5.frozen? ⟨w4.heap.size, o, none⟩ = false := Go.Joins.unfrozen_of_block HV5x4; have tl5x4 : w4.heap.size < w5.heap.size := (by omega)) | skip); replace ho5 := Lib.hid (ho5.rdc hOS.out)))
    all_goals
      go_wp2_with fail
      go_meet
      refine ⟨_, A5, n5, c5, rfl, rfl, ?_, ?_, ?_, ?_, ?_⟩
      · first | exact Go.Joins.block_setCell (Go.Joins.block_setCell HV5x2 _) _ | exact Go.Joins.block_setCell (Go.Joins.block_setCell HV5x3 _) _ | exact Go.Joins.block_setCell (Go.Joins.block_setCell HV5x4 _) _ | exact heap_alloc_new w5 _
      · refine RdS.wide good_glyphc (RdS.frame good_glyphc ho5.out ?_) (Nat.zero_le _) (by first | omega | (simp <;> omega))
        repeat (first | exact SameB.refl _ _ _ | refine SameB.setCell ?_ (.inl (by first | omega | (simp <;> omega))) _ | refine SameB.alloc ?_ (by first | omega | (simp <;> omega)) _)
      · (first | omega | (simp <;> omega))
      · (first | omega | (simp <;> omega))
      · repeat (first | exact hb5 | refine Below.setCell ?_ (by first | omega | (simp <;> omega)) _ | refine Below.alloc ?_ (by first | omega | (simp <;> omega)) _)
  case rest =>
  clear Sof
  obtain ⟨w6, hw6⟩ : ∃ v, v = wc := ⟨_, rfl⟩
  subst hw6
  obtain ⟨b6, A5, n5, c5, rfl, rfl, bW, rdw, hl6, hg6, hb6⟩ := hcut
  replace bW := Lib.hid bW
  replace rdw := Lib.hid rdw
  have hk := Keep.of_below hb6
  clear hb6
  have hz6 := hk.size
  have hB6 : Below w.heap.size w w6 := hB2.trans (hk.bel.mono (by omega))
  replace bS := Lib.hid ((hk.block w.heap.size (by omega) (by omega)).trans bS.out)
  replace bG := Lib.hid ((hk.block (w.heap.size + 1) (by omega) (by omega)).trans bG.out)
  clear hk
  have qbS0 : w6.cell? ⟨w.heap.size, 0, none⟩ = some (.int .i64 d.unit) := by rw [Go.Joins.cell_of_block bS.out]; rfl
  have qbS1 : w6.cell? ⟨w.heap.size, 1, none⟩ = some (.slice h.gl.A h.gl.n h.gl.c) := by rw [Go.Joins.cell_of_block bS.out]; rfl
  have qbSl : w.heap.size < w6.heap.size := by omega
  go_wp2_with fail
  clear qbS0 qbS1 qbSl
  refine (toGlyphSet_mk d h 0 w.heap.size _ (hr.out.frame good_glyph (Below.sameB hB6 (Nat.le_refl _))) hB6.size hm1.out).mono ?_
  rintro e w7 ⟨k7, rfl, rd7, hc⟩
  have hk7 : k7.gl.n ≤ 1048576 := by rw [← rd7.1.1]; exact hm1.out.l
  replace rd7 := Lib.hid rd7
  have hk := Keep.of_below hc
  clear hc
  have hz7 := hk.size
  have hB7 : Below w.heap.size w w7 := hB6.trans (hk.bel.mono (by omega))
  replace bS := Lib.hid ((hk.block w.heap.size (by omega) (by omega)).trans bS.out)
  replace bG := Lib.hid ((hk.block (w.heap.size + 1) (by omega) (by omega)).trans bG.out)
  replace bW := Lib.hid ((hk.block b6 (by omega) (by omega)).trans bW.out)
  replace rdw := Lib.hid (rdw.out.frame good_glyphc (hk.sameB (by omega) (by omega)))
  clear hk
  have qbG0 : w7.cell? ⟨(w.heap.size + 1), 0, none⟩ = some (.string g.name) := by rw [Go.Joins.cell_of_block bG.out]; rfl
  have qbG1 : w7.cell? ⟨(w.heap.size + 1), 1, none⟩ = some (.int .i64 g.code) := by rw [Go.Joins.cell_of_block bG.out]; rfl
  have qbG2 : w7.cell? ⟨(w.heap.size + 1), 2, none⟩ = some (.int .i64 g.adv) := by rw [Go.Joins.cell_of_block bG.out]; rfl
  have qbG3 : w7.cell? ⟨(w.heap.size + 1), 3, none⟩ = some (.slice hg.out.A hg.out.n hg.out.c) := by rw [Go.Joins.cell_of_block bG.out]; rfl
  have qbG4 : w7.cell? ⟨(w.heap.size + 1), 4, none⟩ = some (.slice hg.parts.A hg.parts.n hg.parts.c) := by rw [Go.Joins.cell_of_block bG.out]; rfl
  have qbG5 : w7.cell? ⟨(w.heap.size + 1), 5, none⟩ = some (.slice hg.anchors.A hg.anchors.n hg.anchors.c) := by rw [Go.Joins.cell_of_block bG.out]; rfl
  have qbG6 : w7.cell? ⟨(w.heap.size + 1), 6, none⟩ = some (.string g.hints) := by rw [Go.Joins.cell_of_block bG.out]; rfl
  have qbGl : (w.heap.size + 1) < w7.heap.size := by omega
  have hk := Keep.of_below (Go.Joins.below_alloc1 w7 (.cells #[.int .i64 d.unit, .slice k7.gl.A k7.gl.n k7.gl.c] 26 (0, 0)))
  have hzz : (w7.alloc (.cells #[.int .i64 d.unit, .slice k7.gl.A k7.gl.n k7.gl.c] 26 (0, 0))).heap.size = w7.heap.size + 1 := by simp
  have b8 : Hid ((w7.alloc (.cells #[.int .i64 d.unit, .slice k7.gl.A k7.gl.n k7.gl.c] 26 (0, 0))).heap[w7.heap.size]? = some (.cells #[.int .i64 d.unit, .slice k7.gl.A k7.gl.n k7.gl.c] 26 (0, 0))) := heap_alloc_new w7 _
  go_wp2_with fail
  clear qbG0 qbG1 qbG2 qbG3 qbG4 qbG5 qbG6 qbGl
  generalize w7.alloc (.cells #[.int .i64 d.unit, .slice k7.gl.A k7.gl.n k7.gl.c] 26 (0, 0)) = w8 at *
  have hzl8 : w8.heap.size ≤ w7.heap.size + 1 := by omega
  have hzg8 : w7.heap.size + 1 ≤ w8.heap.size := by omega
  clear hzz
  have hz8 := hk.size
  have hB8 : Below w.heap.size w w8 := hB7.trans (hk.bel.mono (by omega))
  replace bS := Lib.hid ((hk.block w.heap.size (by omega) (by omega)).trans bS.out)
  replace bG := Lib.hid ((hk.block (w.heap.size + 1) (by omega) (by omega)).trans bG.out)
  replace bW := Lib.hid ((hk.block b6 (by omega) (by omega)).trans bW.out)
  replace rdw := Lib.hid (rdw.out.frame good_glyphc (hk.sameB (by omega) (by omega)))
  replace rd7 := Lib.hid (rd7.out.frame good_glyphc (hk.sameB (by omega) (by omega)))
  clear hk
  refine (toGlyph_mk g hg 0 w.heap.size _ (hrg.out.frame (Below.sameB hB8 (Nat.le_refl _))) hB8.size hm2.out).mono ?_
  rintro e w9 ⟨k9, rfl, rd9, hc⟩
  replace rd9 := Lib.hid rd9
  have hk := Keep.of_below hc
  clear hc
  have hz9 := hk.size
  have hB9 : Below w.heap.size w w9 := hB8.trans (hk.bel.mono (by omega))
  replace bS := Lib.hid ((hk.block w.heap.size (by omega) (by omega)).trans bS.out)
  replace bG := Lib.hid ((hk.block (w.heap.size + 1) (by omega) (by omega)).trans bG.out)
  replace bW := Lib.hid ((hk.block b6 (by omega) (by omega)).trans bW.out)
  replace b8 := Lib.hid ((hk.block w7.heap.size (by omega) (by omega)).trans b8.out)
  replace rdw := Lib.hid (rdw.out.frame good_glyphc (hk.sameB (by omega) (by omega)))
  replace rd7 := Lib.hid (rd7.out.frame good_glyphc (hk.sameB (by omega) (by omega)))
  clear hk
  have qb80 : w9.cell? ⟨w7.heap.size, 0, none⟩ = some (.int .i64 d.unit) := by rw [Go.Joins.cell_of_block b8.out]; rfl
  have qb81 : w9.cell? ⟨w7.heap.size, 1, none⟩ = some (.slice k7.gl.A k7.gl.n k7.gl.c) := by rw [Go.Joins.cell_of_block b8.out]; rfl
  have qb8l : w7.heap.size < w9.heap.size := by omega
  have hk := Keep.of_below (Go.Joins.below_alloc1 w9 (.cells #[.string g.name, .int .i64 g.code, .int .i64 g.adv, .slice k9.out.A k9.out.n k9.out.c, .slice k9.parts.A k9.parts.n k9.parts.c, .slice k9.anchors.A k9.anchors.n k9.anchors.c, .string g.hints] 39 (0, 0)))
  have hzz : (w9.alloc (.cells #[.string g.name, .int .i64 g.code, .int .i64 g.adv, .slice k9.out.A k9.out.n k9.out.c, .slice k9.parts.A k9.parts.n k9.parts.c, .slice k9.anchors.A k9.anchors.n k9.anchors.c, .string g.hints] 39 (0, 0))).heap.size = w9.heap.size + 1 := by simp
  have b9 : Hid ((w9.alloc (.cells #[.string g.name, .int .i64 g.code, .int .i64 g.adv, .slice k9.out.A k9.out.n k9.out.c, .slice k9.parts.A k9.parts.n k9.parts.c, .slice k9.anchors.A k9.anchors.n k9.anchors.c, .string g.hints] 39 (0, 0))).heap[w9.heap.size]? = some (.cells #[.string g.name, .int .i64 g.code, .int .i64 g.adv, .slice k9.out.A k9.out.n k9.out.c, .slice k9.parts.A k9.parts.n k9.parts.c, .slice k9.anchors.A k9.anchors.n k9.anchors.c, .string g.hints] 39 (0, 0))) := heap_alloc_new w9 _
  go_wp2_with fail
  clear qb80 qb81 qb8l
  generalize w9.alloc (.cells #[.string g.name, .int .i64 g.code, .int .i64 g.adv, .slice k9.out.A k9.out.n k9.out.c, .slice k9.parts.A k9.parts.n k9.parts.c, .slice k9.anchors.A k9.anchors.n k9.anchors.c, .string g.hints] 39 (0, 0)) = w10 at *
  have hzl10 : w10.heap.size ≤ w9.heap.size + 1 := by omega
  have hzg10 : w9.heap.size + 1 ≤ w10.heap.size := by omega
  clear hzz
  have hz10 := hk.size
  have hB10 : Below w.heap.size w w10 := hB9.trans (hk.bel.mono (by omega))
  replace bS := Lib.hid ((hk.block w.heap.size (by omega) (by omega)).trans bS.out)
  replace bG := Lib.hid ((hk.block (w.heap.size + 1) (by omega) (by omega)).trans bG.out)
  replace bW := Lib.hid ((hk.block b6 (by omega) (by omega)).trans bW.out)
  replace b8 := Lib.hid ((hk.block w7.heap.size (by omega) (by omega)).trans b8.out)
  replace rdw := Lib.hid (rdw.out.frame good_glyphc (hk.sameB (by omega) (by omega)))
  replace rd7 := Lib.hid (rd7.out.frame good_glyphc (hk.sameB (by omega) (by omega)))
  replace rd9 := Lib.hid (rd9.out.frame (hk.sameB (by omega) (by omega)))
  clear hk
  refine (himpl.out k7 k9 0 w10.heap.size _ (rd7.out.1.wide good_glyphc (Nat.zero_le _) (by omega)) (rd9.out.1.wide (Nat.zero_le _) (by omega)) (Nat.le_refl _) hm1.out hm2.out hst.out hsg.out rd9.out.2.1).mono ?_
  rintro e w11 ⟨A11, n11, c11, ys11, hs11, iv11, rfl, ing, hc⟩
  replace ing := Lib.hid ing
  have hk := Keep.of_below hc
  clear hc
  have hz11 := hk.size
  have hB11 : Below w.heap.size w w11 := hB10.trans (hk.bel.mono (by omega))
  replace bS := Lib.hid ((hk.block w.heap.size (by omega) (by omega)).trans bS.out)
  replace bG := Lib.hid ((hk.block (w.heap.size + 1) (by omega) (by omega)).trans bG.out)
  replace bW := Lib.hid ((hk.block b6 (by omega) (by omega)).trans bW.out)
  replace b8 := Lib.hid ((hk.block w7.heap.size (by omega) (by omega)).trans b8.out)
  replace b9 := Lib.hid ((hk.block w9.heap.size (by omega) (by omega)).trans b9.out)
  replace rdw := Lib.hid (rdw.out.frame good_glyphc (hk.sameB (by omega) (by omega)))
  replace rd7 := Lib.hid (rd7.out.frame good_glyphc (hk.sameB (by omega) (by omega)))
  replace rd9 := Lib.hid (rd9.out.frame (hk.sameB (by omega) (by omega)))
  clear hk
  have qbW0 : w11.cell? ⟨b6, 0, none⟩ = some (.int .i64 R1.unit) := by rw [Go.Joins.cell_of_block bW.out]; rfl
  have qbW1 : w11.cell? ⟨b6, 1, none⟩ = some (.slice A5 n5 c5) := by rw [Go.Joins.cell_of_block bW.out]; rfl
  have qbWl : b6 < w11.heap.size := by omega
  have hk := Keep.of_below (Go.Joins.below_alloc1 w11 (.cells #[.int .i64 R1.unit, .slice A11 n11 c11] 26 (0, 0)))
  have hzz : (w11.alloc (.cells #[.int .i64 R1.unit, .slice A11 n11 c11] 26 (0, 0))).heap.size = w11.heap.size + 1 := by simp
  have b11 : Hid ((w11.alloc (.cells #[.int .i64 R1.unit, .slice A11 n11 c11] 26 (0, 0))).heap[w11.heap.size]? = some (.cells #[.int .i64 R1.unit, .slice A11 n11 c11] 26 (0, 0))) := heap_alloc_new w11 _
  go_wp2_with fail
  clear qbW0 qbW1 qbWl
  generalize w11.alloc (.cells #[.int .i64 R1.unit, .slice A11 n11 c11] 26 (0, 0)) = w12 at *
  have hzl12 : w12.heap.size ≤ w11.heap.size + 1 := by omega
  have hzg12 : w11.heap.size + 1 ≤ w12.heap.size := by omega
  clear hzz
  have hz12 := hk.size
  have hB12 : Below w.heap.size w w12 := hB11.trans (hk.bel.mono (by omega))
  replace bS := Lib.hid ((hk.block w.heap.size (by omega) (by omega)).trans bS.out)
  replace bG := Lib.hid ((hk.block (w.heap.size + 1) (by omega) (by omega)).trans bG.out)
  replace bW := Lib.hid ((hk.block b6 (by omega) (by omega)).trans bW.out)
  replace b8 := Lib.hid ((hk.block w7.heap.size (by omega) (by omega)).trans b8.out)
  replace b9 := Lib.hid ((hk.block w9.heap.size (by omega) (by omega)).trans b9.out)
  replace rdw := Lib.hid (rdw.out.frame good_glyphc (hk.sameB (by omega) (by omega)))
  replace rd7 := Lib.hid (rd7.out.frame good_glyphc (hk.sameB (by omega) (by omega)))
  replace rd9 := Lib.hid (rd9.out.frame (hk.sameB (by omega) (by omega)))
  replace ing := Lib.hid (ing.out.same (hk.sameB (by omega) (by omega)))
  clear hk
  refine (eqGlyphSet_any R1 ⟨⟨A11, n11, c11⟩⟩ ⟨⟨A5, n5, c5⟩⟩ w10.heap.size w11.heap.size 0 w6.heap.size _ (GsRc.rd (ing.out.rdc hOS.out)) (GsRc.rd rdw.out) (by omega) (by omega) hRsm.out).mono ?_
  rintro e w13 ⟨rfl, hc⟩
  have hk := Keep.of_below hc
  clear hc
  have hz13 := hk.size
  have hB13 : Below w.heap.size w w13 := hB12.trans (hk.bel.mono (by omega))
  replace bS := Lib.hid ((hk.block w.heap.size (by omega) (by omega)).trans bS.out)
  replace bG := Lib.hid ((hk.block (w.heap.size + 1) (by omega) (by omega)).trans bG.out)
  replace bW := Lib.hid ((hk.block b6 (by omega) (by omega)).trans bW.out)
  replace b8 := Lib.hid ((hk.block w7.heap.size (by omega) (by omega)).trans b8.out)
  replace b9 := Lib.hid ((hk.block w9.heap.size (by omega) (by omega)).trans b9.out)
  replace b11 := Lib.hid ((hk.block w11.heap.size (by omega) (by omega)).trans b11.out)
  replace rdw := Lib.hid (rdw.out.frame good_glyphc (hk.sameB (by omega) (by omega)))
  replace rd7 := Lib.hid (rd7.out.frame good_glyphc (hk.sameB (by omega) (by omega)))
  replace rd9 := Lib.hid (rd9.out.frame (hk.sameB (by omega) (by omega)))
  replace ing := Lib.hid (ing.out.same (hk.sameB (by omega) (by omega)))
  clear hk
  have qb80 : w13.cell? ⟨w7.heap.size, 0, none⟩ = some (.int .i64 d.unit) := by rw [Go.Joins.cell_of_block b8.out]; rfl
  have qb81 : w13.cell? ⟨w7.heap.size, 1, none⟩ = some (.slice k7.gl.A k7.gl.n k7.gl.c) := by rw [Go.Joins.cell_of_block b8.out]; rfl
  have qb8l : w7.heap.size < w13.heap.size := by omega
  have qbS0 : w13.cell? ⟨w.heap.size, 0, none⟩ = some (.int .i64 d.unit) := by rw [Go.Joins.cell_of_block bS.out]; rfl
  have qbS1 : w13.cell? ⟨w.heap.size, 1, none⟩ = some (.slice h.gl.A h.gl.n h.gl.c) := by rw [Go.Joins.cell_of_block bS.out]; rfl
  have qbSl : w.heap.size < w13.heap.size := by omega
  go_wp2_with fail
  go_region_held3 (fun w' => w'.cell? ⟨w7.heap.size, 0, none⟩ = some (.int .i64 d.unit) ∧ w'.cell? ⟨w7.heap.size, 1, none⟩ = some (.slice k7.gl.A k7.gl.n k7.gl.c) ∧ w'.cell? ⟨w.heap.size, 0, none⟩ = some (.int .i64 d.unit) ∧ w'.cell? ⟨w.heap.size, 1, none⟩ = some (.slice h.gl.A h.gl.n h.gl.c)) (first | exact ⟨qb80, qb81, qbS0, qbS1⟩ | exact s14 | exact s15)
    (first
      | (go_at_call 21; (with_reducible refine (toGlyphSet_any d h 0 w.heap.size _ ?_ ?_ hm1.out).mono ?_); exact (hr.out.frame good_glyph (Below.sameB hB13.drew (Nat.le_refl _))); exact hB13.size; rintro e w14 ⟨k14, rfl, rd14, hc14⟩; have hb14 : Below w13.heap.size w13 w14 := (Below.refl _ _).drew.trans hc14; have hz14 : w13.heap.size ≤ w14.heap.size := hb14.size; have s14 : w14.cell? ⟨w7.heap.size, 0, none⟩ = some (.int .i64 d.unit) ∧ w14.cell? ⟨w7.heap.size, 1, none⟩ = some (.slice k7.gl.A k7.gl.n k7.gl.c) ∧ w14.cell? ⟨w.heap.size, 0, none⟩ = some (.int .i64 d.unit) ∧ w14.cell? ⟨w.heap.size, 1, none⟩ = some (.slice h.gl.A h.gl.n h.gl.c) := ⟨(hb14.cell (by simp; omega)).trans qb80, (hb14.cell (by simp; omega)).trans qb81, (hb14.cell (by simp; omega)).trans qbS0, (hb14.cell (by simp; omega)).trans qbS1⟩; have rd7x := Lib.hid (rd7.out.frame good_glyphc (Below.sameB hb14 (by omega))); replace rd14 := Lib.hid rd14; clear hc14)
      | (go_at_call 23; (with_reducible refine (eqGlyphSet_any d k7 k14 _ _ _ _ _ (GsRc.rd (GsRm.c rd7x.out)) (GsRc.rd rd14.out) ?_ ?_ ?_).mono ?_); (omega); (exact Nat.le_refl _); exact hm1.out.mono (by omega); rintro e w15 ⟨rfl, hc15⟩; have s15 : w15.cell? ⟨w7.heap.size, 0, none⟩ = some (.int .i64 d.unit) ∧ w15.cell? ⟨w7.heap.size, 1, none⟩ = some (.slice k7.gl.A k7.gl.n k7.gl.c) ∧ w15.cell? ⟨w.heap.size, 0, none⟩ = some (.int .i64 d.unit) ∧ w15.cell? ⟨w.heap.size, 1, none⟩ = some (.slice h.gl.A h.gl.n h.gl.c) := ⟨(hc15.cell (by simp; omega)).trans s14.1, (hc15.cell (by simp; omega)).trans s14.2.1, (hc15.cell (by simp; omega)).trans s14.2.2.1, (hc15.cell (by simp; omega)).trans s14.2.2.2⟩; have hk := Keep.of_below (hb14.trans (hc15.mono hz14)); clear hc15))
  clear qb80 qb81 qb8l qbS0 qbS1 qbSl
  clear s14 s15 rd14 rd7x hz14
  have hz15 := hk.size
  have hB15 : Below w.heap.size w w15 := hB13.trans (hk.bel.mono (by omega))
  replace bS := Lib.hid ((hk.block w.heap.size (by omega) (by omega)).trans bS.out)
  replace bG := Lib.hid ((hk.block (w.heap.size + 1) (by omega) (by omega)).trans bG.out)
  replace bW := Lib.hid ((hk.block b6 (by omega) (by omega)).trans bW.out)
  replace b8 := Lib.hid ((hk.block w7.heap.size (by omega) (by omega)).trans b8.out)
  replace b9 := Lib.hid ((hk.block w9.heap.size (by omega) (by omega)).trans b9.out)
  replace b11 := Lib.hid ((hk.block w11.heap.size (by omega) (by omega)).trans b11.out)
  replace rdw := Lib.hid (rdw.out.frame good_glyphc (hk.sameB (by omega) (by omega)))
  replace rd7 := Lib.hid (rd7.out.frame good_glyphc (hk.sameB (by omega) (by omega)))
  replace rd9 := Lib.hid (rd9.out.frame (hk.sameB (by omega) (by omega)))
  replace ing := Lib.hid (ing.out.same (hk.sameB (by omega) (by omega)))
  clear hk
  have qb90 : w15.cell? ⟨w9.heap.size, 0, none⟩ = some (.string g.name) := by rw [Go.Joins.cell_of_block b9.out]; rfl
  have qb91 : w15.cell? ⟨w9.heap.size, 1, none⟩ = some (.int .i64 g.code) := by rw [Go.Joins.cell_of_block b9.out]; rfl
  have qb92 : w15.cell? ⟨w9.heap.size, 2, none⟩ = some (.int .i64 g.adv) := by rw [Go.Joins.cell_of_block b9.out]; rfl
  have qb93 : w15.cell? ⟨w9.heap.size, 3, none⟩ = some (.slice k9.out.A k9.out.n k9.out.c) := by rw [Go.Joins.cell_of_block b9.out]; rfl
  have qb94 : w15.cell? ⟨w9.heap.size, 4, none⟩ = some (.slice k9.parts.A k9.parts.n k9.parts.c) := by rw [Go.Joins.cell_of_block b9.out]; rfl
  have qb95 : w15.cell? ⟨w9.heap.size, 5, none⟩ = some (.slice k9.anchors.A k9.anchors.n k9.anchors.c) := by rw [Go.Joins.cell_of_block b9.out]; rfl
  have qb96 : w15.cell? ⟨w9.heap.size, 6, none⟩ = some (.string g.hints) := by rw [Go.Joins.cell_of_block b9.out]; rfl
  have qb9l : w9.heap.size < w15.heap.size := by omega
  have qbG0 : w15.cell? ⟨(w.heap.size + 1), 0, none⟩ = some (.string g.name) := by rw [Go.Joins.cell_of_block bG.out]; rfl
  have qbG1 : w15.cell? ⟨(w.heap.size + 1), 1, none⟩ = some (.int .i64 g.code) := by rw [Go.Joins.cell_of_block bG.out]; rfl
  have qbG2 : w15.cell? ⟨(w.heap.size + 1), 2, none⟩ = some (.int .i64 g.adv) := by rw [Go.Joins.cell_of_block bG.out]; rfl
  have qbG3 : w15.cell? ⟨(w.heap.size + 1), 3, none⟩ = some (.slice hg.out.A hg.out.n hg.out.c) := by rw [Go.Joins.cell_of_block bG.out]; rfl
  have qbG4 : w15.cell? ⟨(w.heap.size + 1), 4, none⟩ = some (.slice hg.parts.A hg.parts.n hg.parts.c) := by rw [Go.Joins.cell_of_block bG.out]; rfl
  have qbG5 : w15.cell? ⟨(w.heap.size + 1), 5, none⟩ = some (.slice hg.anchors.A hg.anchors.n hg.anchors.c) := by rw [Go.Joins.cell_of_block bG.out]; rfl
  have qbG6 : w15.cell? ⟨(w.heap.size + 1), 6, none⟩ = some (.string g.hints) := by rw [Go.Joins.cell_of_block bG.out]; rfl
  have qbGl : (w.heap.size + 1) < w15.heap.size := by omega
  go_wp2_with fail
  have Sof : ∀ W : World, Below w15.heap.size w15 W → (W.cell? ⟨w9.heap.size, 0, none⟩ = some (.string g.name) ∧ W.cell? ⟨w9.heap.size, 1, none⟩ = some (.int .i64 g.code) ∧ W.cell? ⟨w9.heap.size, 2, none⟩ = some (.int .i64 g.adv) ∧ W.cell? ⟨w9.heap.size, 3, none⟩ = some (.slice k9.out.A k9.out.n k9.out.c) ∧ W.cell? ⟨w9.heap.size, 4, none⟩ = some (.slice k9.parts.A k9.parts.n k9.parts.c) ∧ W.cell? ⟨w9.heap.size, 5, none⟩ = some (.slice k9.anchors.A k9.anchors.n k9.anchors.c) ∧ W.cell? ⟨w9.heap.size, 6, none⟩ = some (.string g.hints) ∧ W.cell? ⟨w.heap.size + 1, 0, none⟩ = some (.string g.name) ∧ W.cell? ⟨w.heap.size + 1, 1, none⟩ = some (.int .i64 g.code) ∧ W.cell? ⟨w.heap.size + 1, 2, none⟩ = some (.int .i64 g.adv) ∧ W.cell? ⟨w.heap.size + 1, 3, none⟩ = some (.slice hg.out.A hg.out.n hg.out.c) ∧ W.cell? ⟨w.heap.size + 1, 4, none⟩ = some (.slice hg.parts.A hg.parts.n hg.parts.c) ∧ W.cell? ⟨w.heap.size + 1, 5, none⟩ = some (.slice hg.anchors.A hg.anchors.n hg.anchors.c) ∧ W.cell? ⟨w.heap.size + 1, 6, none⟩ = some (.string g.hints)) := fun W hb => ⟨(hb.cell (by simp; omega)).trans qb90, (hb.cell (by simp; omega)).trans qb91, (hb.cell (by simp; omega)).trans qb92, (hb.cell (by simp; omega)).trans qb93, (hb.cell (by simp; omega)).trans qb94, (hb.cell (by simp; omega)).trans qb95, (hb.cell (by simp; omega)).trans qb96, (hb.cell (by simp; omega)).trans qbG0, (hb.cell (by simp; omega)).trans qbG1, (hb.cell (by simp; omega)).trans qbG2, (hb.cell (by simp; omega)).trans qbG3, (hb.cell (by simp; omega)).trans qbG4, (hb.cell (by simp; omega)).trans qbG5, (hb.cell (by simp; omega)).trans qbG6⟩
  replace Sof := Lib.hid Sof
  go_region_held3 (fun w' => w'.cell? ⟨w9.heap.size, 0, none⟩ = some (.string g.name) ∧ w'.cell? ⟨w9.heap.size, 1, none⟩ = some (.int .i64 g.code) ∧ w'.cell? ⟨w9.heap.size, 2, none⟩ = some (.int .i64 g.adv) ∧ w'.cell? ⟨w9.heap.size, 3, none⟩ = some (.slice k9.out.A k9.out.n k9.out.c) ∧ w'.cell? ⟨w9.heap.size, 4, none⟩ = some (.slice k9.parts.A k9.parts.n k9.parts.c) ∧ w'.cell? ⟨w9.heap.size, 5, none⟩ = some (.slice k9.anchors.A k9.anchors.n k9.anchors.c) ∧ w'.cell? ⟨w9.heap.size, 6, none⟩ = some (.string g.hints) ∧ w'.cell? ⟨w.heap.size + 1, 0, none⟩ = some (.string g.name) ∧ w'.cell? ⟨w.heap.size + 1, 1, none⟩ = some (.int .i64 g.code) ∧ w'.cell? ⟨w.heap.size + 1, 2, none⟩ = some (.int .i64 g.adv) ∧ w'.cell? ⟨w.heap.size + 1, 3, none⟩ = some (.slice hg.out.A hg.out.n hg.out.c) ∧ w'.cell? ⟨w.heap.size + 1, 4, none⟩ = some (.slice hg.parts.A hg.parts.n hg.parts.c) ∧ w'.cell? ⟨w.heap.size + 1, 5, none⟩ = some (.slice hg.anchors.A hg.anchors.n hg.anchors.c) ∧ w'.cell? ⟨w.heap.size + 1, 6, none⟩ = some (.string g.hints)) (first | exact ⟨qb90, qb91, qb92, qb93, qb94, qb95, qb96, qbG0, qbG1, qbG2, qbG3, qbG4, qbG5, qbG6⟩ | exact Sof.out _ hb17 | exact Sof.out _ hb16)
    (first
      | (go_at_call 16; (with_reducible refine (toGlyph_any g hg 0 w.heap.size _ ?_ ?_ hm2.out).mono ?_); exact (hrg.out.frame (Below.sameB hB15.drew (Nat.le_refl _))); exact hB15.size; rintro e w16 ⟨k16, rfl, rd16, hc16, _⟩; have hb16 : Below w15.heap.size w15 w16 := (Below.refl _ _).drew.trans hc16; have hz16 : w15.heap.size ≤ w16.heap.size := hb16.size; have rd9x := Lib.hid (rd9.out.frame (Below.sameB hb16 (by omega))); replace rd16 := Lib.hid rd16; clear hc16)
      | (go_at_call 18; (with_reducible refine (eqGlyph_any g k9 k16 _ _ _ _ _ (GlRm.r rd9x.out) rd16.out ?_ ?_ ?_).mono ?_); (omega); (exact Nat.le_refl _); exact hm2.out.mono (by omega); rintro e w17 ⟨rfl, hc17⟩; have hb17 := hb16.trans (hc17.mono hz16); have hk := Keep.of_below hb17; clear hc17))
  clear qb90 qb91 qb92 qb93 qb94 qb95 qb96 qb9l qbG0 qbG1 qbG2 qbG3 qbG4 qbG5 qbG6 qbGl
  clear Sof rd16 rd9x hz16
  have hz17 := hk.size
  have hB17 : Below w.heap.size w w17 := hB15.trans (hk.bel.mono (by omega))
  replace bS := Lib.hid ((hk.block w.heap.size (by omega) (by omega)).trans bS.out)
  replace bG := Lib.hid ((hk.block (w.heap.size + 1) (by omega) (by omega)).trans bG.out)
  replace bW := Lib.hid ((hk.block b6 (by omega) (by omega)).trans bW.out)
  replace b8 := Lib.hid ((hk.block w7.heap.size (by omega) (by omega)).trans b8.out)
  replace b9 := Lib.hid ((hk.block w9.heap.size (by omega) (by omega)).trans b9.out)
  replace b11 := Lib.hid ((hk.block w11.heap.size (by omega) (by omega)).trans b11.out)
  replace rdw := Lib.hid (rdw.out.frame good_glyphc (hk.sameB (by omega) (by omega)))
  replace rd7 := Lib.hid (rd7.out.frame good_glyphc (hk.sameB (by omega) (by omega)))
  replace rd9 := Lib.hid (rd9.out.frame (hk.sameB (by omega) (by omega)))
  replace ing := Lib.hid (ing.out.same (hk.sameB (by omega) (by omega)))
  clear hk
  have qb80 : w17.cell? ⟨w7.heap.size, 0, none⟩ = some (.int .i64 d.unit) := by rw [Go.Joins.cell_of_block b8.out]; rfl
  have qb81 : w17.cell? ⟨w7.heap.size, 1, none⟩ = some (.slice k7.gl.A k7.gl.n k7.gl.c) := by rw [Go.Joins.cell_of_block b8.out]; rfl
  have qb8l : w7.heap.size < w17.heap.size := by omega
  go_wp2_with fail
  clear qb80 qb81 qb8l
  refine (markGlyphSet_wb d k7 w6.heap.size w7.heap.size 1 _ rd7.out.2 (by omega) (by omega) (by omega) hk7).mono ?_
  rintro e w18 ⟨m18, rfl, hm18, hm18b, hM⟩
  have hk : Keep w6.heap.size w7.heap.size w17 w18 := ⟨hM.below (by omega), hM.sameB (.inr (Nat.le_refl _)) (Nat.le_refl _), hM.size⟩
  clear hM rd7
  have hz18 := hk.size
  have hB18 : Below w.heap.size w w18 := hB17.trans (hk.bel.mono (by omega))
  replace bS := Lib.hid ((hk.block w.heap.size (by omega) (by omega)).trans bS.out)
  replace bG := Lib.hid ((hk.block (w.heap.size + 1) (by omega) (by omega)).trans bG.out)
  replace bW := Lib.hid ((hk.block b6 (by omega) (by omega)).trans bW.out)
  replace b8 := Lib.hid ((hk.block w7.heap.size (by omega) (by omega)).trans b8.out)
  replace b9 := Lib.hid ((hk.block w9.heap.size (by omega) (by omega)).trans b9.out)
  replace b11 := Lib.hid ((hk.block w11.heap.size (by omega) (by omega)).trans b11.out)
  replace rdw := Lib.hid (rdw.out.frame good_glyphc (hk.sameB (by omega) (by omega)))
  replace rd9 := Lib.hid (rd9.out.frame (hk.sameB (by omega) (by omega)))
  replace ing := Lib.hid (ing.out.same (hk.sameB (by omega) (by omega)))
  clear hk
  have qb90 : w18.cell? ⟨w9.heap.size, 0, none⟩ = some (.string g.name) := by rw [Go.Joins.cell_of_block b9.out]; rfl
  have qb91 : w18.cell? ⟨w9.heap.size, 1, none⟩ = some (.int .i64 g.code) := by rw [Go.Joins.cell_of_block b9.out]; rfl
  have qb92 : w18.cell? ⟨w9.heap.size, 2, none⟩ = some (.int .i64 g.adv) := by rw [Go.Joins.cell_of_block b9.out]; rfl
  have qb93 : w18.cell? ⟨w9.heap.size, 3, none⟩ = some (.slice k9.out.A k9.out.n k9.out.c) := by rw [Go.Joins.cell_of_block b9.out]; rfl
  have qb94 : w18.cell? ⟨w9.heap.size, 4, none⟩ = some (.slice k9.parts.A k9.parts.n k9.parts.c) := by rw [Go.Joins.cell_of_block b9.out]; rfl
  have qb95 : w18.cell? ⟨w9.heap.size, 5, none⟩ = some (.slice k9.anchors.A k9.anchors.n k9.anchors.c) := by rw [Go.Joins.cell_of_block b9.out]; rfl
  have qb96 : w18.cell? ⟨w9.heap.size, 6, none⟩ = some (.string g.hints) := by rw [Go.Joins.cell_of_block b9.out]; rfl
  have qb9l : w9.heap.size < w18.heap.size := by omega
  go_wp2_with fail
  clear qb90 qb91 qb92 qb93 qb94 qb95 qb96 qb9l
  refine (markGlyph_w g k9 w8.heap.size w9.heap.size m18 _ rd9.out.2.2 (by omega) (by omega) (by omega)).mono ?_
  rintro e w19 ⟨m19, rfl, hm19, hM⟩
  have hk : Keep w8.heap.size w9.heap.size w18 w19 := ⟨hM.below (by omega), hM.sameB (.inr (Nat.le_refl _)) (Nat.le_refl _), hM.size⟩
  have hm19' : ¬ m19 < 0 := by omega
  have hd19 : decide (m19 < 0) = false := by simpa using hm19'
  clear hM rd9 hm18 hm18b hm19 hm19'
  have hz19 := hk.size
  have hB19 : Below w.heap.size w w19 := hB18.trans (hk.bel.mono (by omega))
  replace bS := Lib.hid ((hk.block w.heap.size (by omega) (by omega)).trans bS.out)
  replace bG := Lib.hid ((hk.block (w.heap.size + 1) (by omega) (by omega)).trans bG.out)
  replace bW := Lib.hid ((hk.block b6 (by omega) (by omega)).trans bW.out)
  replace b8 := Lib.hid ((hk.block w7.heap.size (by omega) (by omega)).trans b8.out)
  replace b9 := Lib.hid ((hk.block w9.heap.size (by omega) (by omega)).trans b9.out)
  replace b11 := Lib.hid ((hk.block w11.heap.size (by omega) (by omega)).trans b11.out)
  replace rdw := Lib.hid (rdw.out.frame good_glyphc (hk.sameB (by omega) (by omega)))
  replace ing := Lib.hid (ing.out.same (hk.sameB (by omega) (by omega)))
  clear hk
  have qb110 : w19.cell? ⟨w11.heap.size, 0, none⟩ = some (.int .i64 R1.unit) := by rw [Go.Joins.cell_of_block b11.out]; rfl
  have qb111 : w19.cell? ⟨w11.heap.size, 1, none⟩ = some (.slice A11 n11 c11) := by rw [Go.Joins.cell_of_block b11.out]; rfl
  have qb11l : w11.heap.size < w19.heap.size := by omega
  have qbW0 : w19.cell? ⟨b6, 0, none⟩ = some (.int .i64 R1.unit) := by rw [Go.Joins.cell_of_block bW.out]; rfl
  have qbW1 : w19.cell? ⟨b6, 1, none⟩ = some (.slice A5 n5 c5) := by rw [Go.Joins.cell_of_block bW.out]; rfl
  have qbWl : b6 < w19.heap.size := by omega
  go_wp2_with fail
  clear qb110 qb111 qb11l qbW0 qbW1 qbWl
  refine (eqGlyphSet_any R1 ⟨⟨A11, n11, c11⟩⟩ ⟨⟨A5, n5, c5⟩⟩ w10.heap.size w11.heap.size 0 w6.heap.size _ (GsRc.rd (ing.out.rdc hOS.out)) (GsRc.rd rdw.out) (by omega) (by omega) hRsm.out).mono ?_
  rintro e w20 ⟨rfl, hc⟩
  have hk := Keep.of_below hc
  clear hc
  have hz20 := hk.size
  have hB20 : Below w.heap.size w w20 := hB19.trans (hk.bel.mono (by omega))
  replace bS := Lib.hid ((hk.block w.heap.size (by omega) (by omega)).trans bS.out)
  replace bG := Lib.hid ((hk.block (w.heap.size + 1) (by omega) (by omega)).trans bG.out)
  replace bW := Lib.hid ((hk.block b6 (by omega) (by omega)).trans bW.out)
  replace b8 := Lib.hid ((hk.block w7.heap.size (by omega) (by omega)).trans b8.out)
  replace b9 := Lib.hid ((hk.block w9.heap.size (by omega) (by omega)).trans b9.out)
  replace b11 := Lib.hid ((hk.block w11.heap.size (by omega) (by omega)).trans b11.out)
  replace rdw := Lib.hid (rdw.out.frame good_glyphc (hk.sameB (by omega) (by omega)))
  replace ing := Lib.hid (ing.out.same (hk.sameB (by omega) (by omega)))
  clear hk
  have qb110 : w20.cell? ⟨w11.heap.size, 0, none⟩ = some (.int .i64 R1.unit) := by rw [Go.Joins.cell_of_block b11.out]; rfl
  have qb111 : w20.cell? ⟨w11.heap.size, 1, none⟩ = some (.slice A11 n11 c11) := by rw [Go.Joins.cell_of_block b11.out]; rfl
  have qb11l : w11.heap.size < w20.heap.size := by omega
  go_wp2_with fail
  clear qb110 qb111 qb11l
  have hn11 : n11 ≤ 100 := by rw [← ing.out.1]; omega
  refine (markGlyphSet_x A11 n11 c11 w10.heap.size w11.heap.size R1.gl ys11 hs11 iv11 R1.unit 1 _ ing.out sR.out hn11 (by omega) (by omega) (by omega)).mono ?_
  rintro e w21 ⟨rfl, hM, ys21, ing'⟩
  have hk : Keep w10.heap.size w11.heap.size w20 w21 := ⟨hM.below (by omega), hM.sameB (.inr (Nat.le_refl _)) (Nat.le_refl _), hM.size⟩
  replace ing := Lib.hid ing'
  clear hM ing'
  have hz21 := hk.size
  have hB21 : Below w.heap.size w w21 := hB20.trans (hk.bel.mono (by omega))
  replace bS := Lib.hid ((hk.block w.heap.size (by omega) (by omega)).trans bS.out)
  replace bG := Lib.hid ((hk.block (w.heap.size + 1) (by omega) (by omega)).trans bG.out)
  replace bW := Lib.hid ((hk.block b6 (by omega) (by omega)).trans bW.out)
  replace b8 := Lib.hid ((hk.block w7.heap.size (by omega) (by omega)).trans b8.out)
  replace b9 := Lib.hid ((hk.block w9.heap.size (by omega) (by omega)).trans b9.out)
  replace b11 := Lib.hid ((hk.block w11.heap.size (by omega) (by omega)).trans b11.out)
  replace rdw := Lib.hid (rdw.out.frame good_glyphc (hk.sameB (by omega) (by omega)))
  clear hk
  have hm1b : ¬ ((1 : Int) + (gsN R1.gl : Int) < 0) := by omega
  have hm1c : decide ((1 : Int) + (gsN R1.gl : Int) < 0) = false := by simpa using hm1b
  have qb110 : w21.cell? ⟨w11.heap.size, 0, none⟩ = some (.int .i64 R1.unit) := by rw [Go.Joins.cell_of_block b11.out]; rfl
  have qb111 : w21.cell? ⟨w11.heap.size, 1, none⟩ = some (.slice A11 n11 c11) := by rw [Go.Joins.cell_of_block b11.out]; rfl
  have qb11l : w11.heap.size < w21.heap.size := by omega
  go_wp2_with fail
  clear qb110 qb111 qb11l
  refine (heldGlyphSet_any R1 A11 n11 c11 w10.heap.size w11.heap.size R1.unit 1 _ (GsRc.rd (ing.out.rdc (hOM.out 1))) sR.out (by omega) (by omega) (by omega) hn11).mono ?_
  rintro e w22 ⟨rfl, hc⟩
  have hk := Keep.of_below hc
  clear hc
  have hz22 := hk.size
  have hB22 : Below w.heap.size w w22 := hB21.trans (hk.bel.mono (by omega))
  replace bS := Lib.hid ((hk.block w.heap.size (by omega) (by omega)).trans bS.out)
  replace bG := Lib.hid ((hk.block (w.heap.size + 1) (by omega) (by omega)).trans bG.out)
  replace bW := Lib.hid ((hk.block b6 (by omega) (by omega)).trans bW.out)
  replace b8 := Lib.hid ((hk.block w7.heap.size (by omega) (by omega)).trans b8.out)
  replace b9 := Lib.hid ((hk.block w9.heap.size (by omega) (by omega)).trans b9.out)
  replace b11 := Lib.hid ((hk.block w11.heap.size (by omega) (by omega)).trans b11.out)
  replace rdw := Lib.hid (rdw.out.frame good_glyphc (hk.sameB (by omega) (by omega)))
  replace ing := Lib.hid (ing.out.same (hk.sameB (by omega) (by omega)))
  clear hk
  have Sof : ∀ W : World, Below w22.heap.size w22 W → (W.cell? ⟨w.heap.size, 0, none⟩ = some (.int .i64 d.unit) ∧ W.cell? ⟨w.heap.size, 1, none⟩ = some (.slice h.gl.A h.gl.n h.gl.c) ∧ W.cell? ⟨w.heap.size + 1, 0, none⟩ = some (.string g.name) ∧ W.cell? ⟨w.heap.size + 1, 1, none⟩ = some (.int .i64 g.code) ∧ W.cell? ⟨w.heap.size + 1, 2, none⟩ = some (.int .i64 g.adv) ∧ W.cell? ⟨w.heap.size + 1, 3, none⟩ = some (.slice hg.out.A hg.out.n hg.out.c) ∧ W.cell? ⟨w.heap.size + 1, 4, none⟩ = some (.slice hg.parts.A hg.parts.n hg.parts.c) ∧ W.cell? ⟨w.heap.size + 1, 5, none⟩ = some (.slice hg.anchors.A hg.anchors.n hg.anchors.c) ∧ W.cell? ⟨w.heap.size + 1, 6, none⟩ = some (.string g.hints)) := fun W hB => ⟨by rw [Go.Joins.cell_of_block ((hB.block w.heap.size (by omega)).trans bS.out)]; rfl, by rw [Go.Joins.cell_of_block ((hB.block w.heap.size (by omega)).trans bS.out)]; rfl, by rw [Go.Joins.cell_of_block ((hB.block (w.heap.size + 1) (by omega)).trans bG.out)]; rfl, by rw [Go.Joins.cell_of_block ((hB.block (w.heap.size + 1) (by omega)).trans bG.out)]; rfl, by rw [Go.Joins.cell_of_block ((hB.block (w.heap.size + 1) (by omega)).trans bG.out)]; rfl, by rw [Go.Joins.cell_of_block ((hB.block (w.heap.size + 1) (by omega)).trans bG.out)]; rfl, by rw [Go.Joins.cell_of_block ((hB.block (w.heap.size + 1) (by omega)).trans bG.out)]; rfl, by rw [Go.Joins.cell_of_block ((hB.block (w.heap.size + 1) (by omega)).trans bG.out)]; rfl, by rw [Go.Joins.cell_of_block ((hB.block (w.heap.size + 1) (by omega)).trans bG.out)]; rfl⟩
  replace Sof := Lib.hid Sof
  go_upto_region 31 with fail
  go_cut [15, 16] (fun s6 s7 wx => ∃ (b6 : Nat) (A5 : Option Addr) (n5 c5 : Nat), s6 = .pointer (some ⟨b6, 0, none⟩) ∧ s7 = .int .i64 code ∧ wx.heap[b6]? = some (.cells #[.int .i64 R1.unit, .slice A5 n5 c5] 26 (0, 0)) ∧ GsRc wx 0 wx.heap.size A5 n5 R1.gl ∧ w22.heap.size ≤ b6 ∧ b6 < wx.heap.size ∧ Below w22.heap.size w22 wx)
  case first =>
    go_region_held3 (fun w' => w'.cell? ⟨w.heap.size, 0, none⟩ = some (.int .i64 d.unit) ∧ w'.cell? ⟨w.heap.size, 1, none⟩ = some (.slice h.gl.A h.gl.n h.gl.c) ∧ w'.cell? ⟨w.heap.size + 1, 0, none⟩ = some (.string g.name) ∧ w'.cell? ⟨w.heap.size + 1, 1, none⟩ = some (.int .i64 g.code) ∧ w'.cell? ⟨w.heap.size + 1, 2, none⟩ = some (.int .i64 g.adv) ∧ w'.cell? ⟨w.heap.size + 1, 3, none⟩ = some (.slice hg.out.A hg.out.n hg.out.c) ∧ w'.cell? ⟨w.heap.size + 1, 4, none⟩ = some (.slice hg.parts.A hg.parts.n hg.parts.c) ∧ w'.cell? ⟨w.heap.size + 1, 5, none⟩ = some (.slice hg.anchors.A hg.anchors.n hg.anchors.c) ∧ w'.cell? ⟨w.heap.size + 1, 6, none⟩ = some (.string g.hints)) ((refine Sof.out _ ?_; (repeat (first | exact hb25 | exact hb24 | exact hb23 | refine Below.drew ?_ | refine Below.alloc ?_ (by first | omega | (simp <;> omega)) _ | refine Below.setCell ?_ (by first | omega | (simp <;> omega)) _ | exact Below.refl _ _))))
      (first | (go_at_call 21; (with_reducible refine (toGlyphSet_any d h 0 w.heap.size _ ?_ ?_ hm1.out).mono ?_); (refine hr.out.frame good_glyph (Below.sameB (B := w.heap.size) (w := w) ?_ (Nat.le_refl _)); (repeat (first | exact hB22 | refine Below.drew ?_ | refine Below.alloc ?_ (by first | omega | (simp <;> omega)) _ | refine Below.setCell ?_ (by first | omega | (simp <;> omega)) _ | exact Below.refl _ _))); (have := hB22.size; (first | omega | (simp <;> omega))); rintro e w23 ⟨hA, rfl, rdA, hc23⟩; have hy23 := hc23.size; (try simp at hy23); (refine have_then (Below w22.heap.size w22 w23) ?_ ?_; (refine Below.trans ?_ (hc23.mono (by first | omega | (simp <;> omega))); (repeat (first | exact Below.refl _ _ | refine Below.drew ?_ | refine Below.alloc ?_ (by first | omega | (simp <;> omega)) _ | refine Below.setCell ?_ (by first | omega | (simp <;> omega)) _ | exact Below.refl _ _))); intro hb23); have hz23 : w22.heap.size ≤ w23.heap.size := (by omega); (first | (refine have_then (w23.heap[w22.heap.size]? = some (.cells #[.int .i64 0, .slice none 0 0] 26 (0, 0))) ?_ ?_; (refine (hc23.block w22.heap.size ?_).trans ?_; (first | omega | (simp <;> omega)); (exact heap_alloc_new w22 _)); intro HV23x22; have tc23x22 : w23.cell? ⟨w22.heap.size, 0, none⟩ = some (.int .i64 0) := (by rw [Go.Joins.cell_of_block HV23x22]; rfl); have td23x22 : w23.cell? ⟨w22.heap.size, 1, none⟩ = some (.slice none 0 0) := (by rw [Go.Joins.cell_of_block HV23x22]; rfl); have tf23x22 : ∀ o, w23.frozen? ⟨w22.heap.size, o, none⟩ = false := Go.Joins.unfrozen_of_block HV23x22; have tl23x22 : w22.heap.size < w23.heap.size := (by omega)) | skip); replace rdA := Lib.hid (rdA.wide good_glyphc (lo' := 0) (hi' := w23.heap.size) (Nat.zero_le _) (Nat.le_refl _))) | (go_at_call 16; (with_reducible refine (toGlyph_any g hg 0 w.heap.size _ ?_ ?_ hm2.out).mono ?_); (refine hrg.out.frame (Below.sameB (B := w.heap.size) (w := w) ?_ (Nat.le_refl _)); refine Below.trans hB22 (Below.mono (B := w22.heap.size) ?_ hB22.size); (repeat (first | exact hb23 | refine Below.drew ?_ | refine Below.alloc ?_ (by first | omega | (simp <;> omega)) _ | refine Below.setCell ?_ (by first | omega | (simp <;> omega)) _ | exact Below.refl _ _))); (have := hB22.size; (first | omega | (simp <;> omega))); rintro e w24 ⟨hE, rfl, rd4, hc24, hcap4⟩; have hy24 := hc24.size; (try simp at hy24); (refine have_then (Below w22.heap.size w22 w24) ?_ ?_; (refine Below.trans ?_ (hc24.mono (by first | omega | (simp <;> omega))); (repeat (first | exact hb23 | refine Below.drew ?_ | refine Below.alloc ?_ (by first | omega | (simp <;> omega)) _ | refine Below.setCell ?_ (by first | omega | (simp <;> omega)) _ | exact Below.refl _ _))); intro hb24); have hz24 : w23.heap.size ≤ w24.heap.size := (by omega); (first | (refine have_then (w24.heap[w22.heap.size]? = some (.cells #[.int .i64 0, .slice none 0 0] 26 (0, 0))) ?_ ?_; (refine (hc24.block w22.heap.size ?_).trans ?_; (first | omega | (simp <;> omega)); (exact HV23x22)); intro HV24x22; have tc24x22 : w24.cell? ⟨w22.heap.size, 0, none⟩ = some (.int .i64 0) := (by rw [Go.Joins.cell_of_block HV24x22]; rfl); have td24x22 : w24.cell? ⟨w22.heap.size, 1, none⟩ = some (.slice none 0 0) := (by rw [Go.Joins.cell_of_block HV24x22]; rfl); have tf24x22 : ∀ o, w24.frozen? ⟨w22.heap.size, o, none⟩ = false := Go.Joins.unfrozen_of_block HV24x22; have tl24x22 : w22.heap.size < w24.heap.size := (by omega)) | skip); (first | (refine have_then (w24.heap[w23.heap.size]? = some (.cells #[.int .i64 0, .slice none 0 0] 26 (0, 0))) ?_ ?_; (refine (hc24.block w23.heap.size ?_).trans ?_; (first | omega | (simp <;> omega)); (exact heap_alloc_new w23 _)); intro HV24x23; have tc24x23 : w24.cell? ⟨w23.heap.size, 0, none⟩ = some (.int .i64 0) := (by rw [Go.Joins.cell_of_block HV24x23]; rfl); have td24x23 : w24.cell? ⟨w23.heap.size, 1, none⟩ = some (.slice none 0 0) := (by rw [Go.Joins.cell_of_block HV24x23]; rfl); have tf24x23 : ∀ o, w24.frozen? ⟨w23.heap.size, o, none⟩ = false := Go.Joins.unfrozen_of_block HV24x23; have tl24x23 : w23.heap.size < w24.heap.size := (by omega)) | skip); replace rd4 := Lib.hid (rd4.wide (lo' := 0) (hi' := w24.heap.size) (Nat.zero_le _) (Nat.le_refl _)); (refine have_then (Below w23.heap.size w23 w24) ?_ ?_; (refine Below.trans ?_ (hc24.mono (by first | omega | (simp <;> omega))); (repeat (first | exact Below.refl _ _ | refine Below.drew ?_ | refine Below.alloc ?_ (by first | omega | (simp <;> omega)) _ | refine Below.setCell ?_ (by first | omega | (simp <;> omega)) _ | exact Below.refl _ _))); intro hab); replace rdA := Lib.hid ((rdA.out.frame good_glyphc (Below.sameB hab (Nat.le_refl _))).wide good_glyphc (lo' := 0) (hi' := w24.heap.size) (Nat.le_refl _) hab.size)) | (go_at_call 10; (with_reducible refine (himpl.out hA hE 0 w24.heap.size _ ?_ ?_ ?_ hm1.out hm2.out hst.out hsg.out hcap4).mono ?_); (first | exact (rdA.out) | exact RdS.frame good_glyphc (rdA.out) ((SameB.refl _ _ _).alloc (Nat.le_refl _) _)); (first | exact rd4.out | exact rd4.out.frame ((SameB.refl _ _ _).alloc (Nat.le_refl _) _)); (first | omega | (simp <;> omega)); rintro e w25 ⟨A5, n5, c5, ys5, hs5, iv5, rfl, ho5, hc25⟩; have hy25 := hc25.size; (try simp at hy25); (refine have_then (Below w22.heap.size w22 w25) ?_ ?_; (refine Below.trans ?_ (hc25.mono (by first | omega | (simp <;> omega))); (repeat (first | exact hb24 | refine Below.drew ?_ | refine Below.alloc ?_ (by first | omega | (simp <;> omega)) _ | refine Below.setCell ?_ (by first | omega | (simp <;> omega)) _ | exact Below.refl _ _))); intro hb25); have hz25 : w24.heap.size ≤ w25.heap.size := (by omega); (first | (refine have_then (w25.heap[w22.heap.size]? = some (.cells #[.int .i64 0, .slice none 0 0] 26 (0, 0))) ?_ ?_; (refine (hc25.block w22.heap.size ?_).trans ?_; (first | omega | (simp <;> omega)); (exact HV24x22)); intro HV25x22; have tc25x22 : w25.cell? ⟨w22.heap.size, 0, none⟩ = some (.int .i64 0) := (by rw [Go.Joins.cell_of_block HV25x22]; rfl); have td25x22 : w25.cell? ⟨w22.heap.size, 1, none⟩ = some (.slice none 0 0) := (by rw [Go.Joins.cell_of_block HV25x22]; rfl); have tf25x22 : ∀ o, w25.frozen? ⟨w22.heap.size, o, none⟩ = false := Go.Joins.unfrozen_of_block HV25x22; have tl25x22 : w22.heap.size < w25.heap.size := (by omega)) | skip); (first | (refine have_then (w25.heap[w23.heap.size]? = some (.cells #[.int .i64 0, .slice none 0 0] 26 (0, 0))) ?_ ?_; (refine (hc25.block w23.heap.size ?_).trans ?_; (first | omega | (simp <;> omega)); (exact HV24x23)); intro HV25x23; have tc25x23 : w25.cell? ⟨w23.heap.size, 0, none⟩ = some (.int .i64 0) := (by rw [Go.Joins.cell_of_block HV25x23]; rfl); have td25x23 : w25.cell? ⟨w23.heap.size, 1, none⟩ = some (.slice none 0 0) := (by rw [Go.Joins.cell_of_block HV25x23]; rfl); have tf25x23 : ∀ o, w25.frozen? ⟨w23.heap.size, o, none⟩ = false := Go.Joins.unfrozen_of_block HV25x23; have tl25x23 : w23.heap.size < w25.heap.size := (by omega)) | skip); (first | (refine have_then (w25.heap[w24.heap.size]? = some (.cells #[.int .i64 0, .slice none 0 0] 26 (0, 0))) ?_ ?_; (refine (hc25.block w24.heap.size ?_).trans ?_; (first | omega | (simp <;> omega)); (exact heap_alloc_new w24 _)); intro HV25x24; have tc25x24 : w25.cell? ⟨w24.heap.size, 0, none⟩ = some (.int .i64 0) := (by rw [Go.Joins.cell_of_block HV25x24]; rfl); have td25x24 : w25.cell? ⟨w24.heap.size, 1, none⟩ = some (.slice none 0 0) := (by rw [Go.Joins.cell_of_block HV25x24]; rfl); have tf25x24 : ∀ o, w25.frozen? ⟨w24.heap.size, o, none⟩ = false := Go.Joins.unfrozen_of_block HV25x24; have tl25x24 : w24.heap.size < w25.heap.size := (by omega)) | skip); replace ho5 := Lib.hid (ho5.rdc hOS.out)))
    all_goals
      go_wp2_with fail
      go_meet
      refine ⟨_, A5, n5, c5, rfl, rfl, ?_, ?_, ?_, ?_, ?_⟩
      · first | exact Go.Joins.block_setCell (Go.Joins.block_setCell HV25x22 _) _ | exact Go.Joins.block_setCell (Go.Joins.block_setCell HV25x23 _) _ | exact Go.Joins.block_setCell (Go.Joins.block_setCell HV25x24 _) _ | exact heap_alloc_new w25 _
      · refine RdS.wide good_glyphc (RdS.frame good_glyphc ho5.out ?_) (Nat.zero_le _) (by first | omega | (simp <;> omega))
        repeat (first | exact SameB.refl _ _ _ | refine SameB.setCell ?_ (.inl (by first | omega | (simp <;> omega))) _ | refine SameB.alloc ?_ (by first | omega | (simp <;> omega)) _)
      · (first | omega | (simp <;> omega))
      · (first | omega | (simp <;> omega))
      · repeat (first | exact hb25 | refine Below.setCell ?_ (by first | omega | (simp <;> omega)) _ | refine Below.alloc ?_ (by first | omega | (simp <;> omega)) _)
  case rest =>
  clear Sof
  obtain ⟨w26, hw26⟩ : ∃ v, v = wc := ⟨_, rfl⟩
  subst hw26
  obtain ⟨b17, A17, n17, c17, rfl, rfl, bH, rdg, hl17, hg17, hb26⟩ := hcut
  replace bH := Lib.hid bH
  replace rdg := Lib.hid rdg
  have hk := Keep.of_below hb26
  clear hb26
  have hz26 := hk.size
  have hB26 : Below w.heap.size w w26 := hB22.trans (hk.bel.mono (by omega))
  replace bS := Lib.hid ((hk.block w.heap.size (by omega) (by omega)).trans bS.out)
  replace bG := Lib.hid ((hk.block (w.heap.size + 1) (by omega) (by omega)).trans bG.out)
  replace bW := Lib.hid ((hk.block b6 (by omega) (by omega)).trans bW.out)
  replace b8 := Lib.hid ((hk.block w7.heap.size (by omega) (by omega)).trans b8.out)
  replace b9 := Lib.hid ((hk.block w9.heap.size (by omega) (by omega)).trans b9.out)
  replace b11 := Lib.hid ((hk.block w11.heap.size (by omega) (by omega)).trans b11.out)
  replace rdw := Lib.hid (rdw.out.frame good_glyphc (hk.sameB (by omega) (by omega)))
  replace ing := Lib.hid (ing.out.same (hk.sameB (by omega) (by omega)))
  clear hk
  have qbH0 : w26.cell? ⟨b17, 0, none⟩ = some (.int .i64 R1.unit) := by rw [Go.Joins.cell_of_block bH.out]; rfl
  have qbH1 : w26.cell? ⟨b17, 1, none⟩ = some (.slice A17 n17 c17) := by rw [Go.Joins.cell_of_block bH.out]; rfl
  have qbHl : b17 < w26.heap.size := by omega
  have qbW0 : w26.cell? ⟨b6, 0, none⟩ = some (.int .i64 R1.unit) := by rw [Go.Joins.cell_of_block bW.out]; rfl
  have qbW1 : w26.cell? ⟨b6, 1, none⟩ = some (.slice A5 n5 c5) := by rw [Go.Joins.cell_of_block bW.out]; rfl
  have qbWl : b6 < w26.heap.size := by omega
  go_wp2_with fail
  clear qbH0 qbH1 qbHl qbW0 qbW1 qbWl
  refine (eqGlyphSet_any R1 ⟨⟨A17, n17, c17⟩⟩ ⟨⟨A5, n5, c5⟩⟩ 0 w26.heap.size 0 w6.heap.size _ (GsRc.rd rdg.out) (GsRc.rd rdw.out) (Nat.le_refl _) (by omega) hRsm.out).mono ?_
  rintro e w27 ⟨rfl, hc⟩
  have hk := Keep.of_below hc
  clear hc
  have hz27 := hk.size
  have hB27 : Below w.heap.size w w27 := hB26.trans (hk.bel.mono (by omega))
  replace bS := Lib.hid ((hk.block w.heap.size (by omega) (by omega)).trans bS.out)
  replace bG := Lib.hid ((hk.block (w.heap.size + 1) (by omega) (by omega)).trans bG.out)
  replace bW := Lib.hid ((hk.block b6 (by omega) (by omega)).trans bW.out)
  replace b8 := Lib.hid ((hk.block w7.heap.size (by omega) (by omega)).trans b8.out)
  replace b9 := Lib.hid ((hk.block w9.heap.size (by omega) (by omega)).trans b9.out)
  replace b11 := Lib.hid ((hk.block w11.heap.size (by omega) (by omega)).trans b11.out)
  replace bH := Lib.hid ((hk.block b17 (by omega) (by omega)).trans bH.out)
  replace rdw := Lib.hid (rdw.out.frame good_glyphc (hk.sameB (by omega) (by omega)))
  replace ing := Lib.hid (ing.out.same (hk.sameB (by omega) (by omega)))
  clear hk
  have qb110 : w27.cell? ⟨w11.heap.size, 0, none⟩ = some (.int .i64 R1.unit) := by rw [Go.Joins.cell_of_block b11.out]; rfl
  have qb111 : w27.cell? ⟨w11.heap.size, 1, none⟩ = some (.slice A11 n11 c11) := by rw [Go.Joins.cell_of_block b11.out]; rfl
  have qb11l : w11.heap.size < w27.heap.size := by omega
  go_wp2_with fail
  clear qb110 qb111 qb11l
  refine (heldGlyphSet_any R1 A11 n11 c11 w10.heap.size w11.heap.size R1.unit 1 _ (GsRc.rd (ing.out.rdc (hOM.out 1))) sR.out (by omega) (by omega) (by omega) hn11).mono ?_
  rintro e w28 ⟨rfl, hc⟩
  have hk := Keep.of_below hc
  clear hc
  have hz28 := hk.size
  have hB28 : Below w.heap.size w w28 := hB27.trans (hk.bel.mono (by omega))
  replace bS := Lib.hid ((hk.block w.heap.size (by omega) (by omega)).trans bS.out)
  replace bG := Lib.hid ((hk.block (w.heap.size + 1) (by omega) (by omega)).trans bG.out)
  replace bW := Lib.hid ((hk.block b6 (by omega) (by omega)).trans bW.out)
  replace b8 := Lib.hid ((hk.block w7.heap.size (by omega) (by omega)).trans b8.out)
  replace b9 := Lib.hid ((hk.block w9.heap.size (by omega) (by omega)).trans b9.out)
  replace b11 := Lib.hid ((hk.block w11.heap.size (by omega) (by omega)).trans b11.out)
  replace bH := Lib.hid ((hk.block b17 (by omega) (by omega)).trans bH.out)
  replace rdw := Lib.hid (rdw.out.frame good_glyphc (hk.sameB (by omega) (by omega)))
  replace ing := Lib.hid (ing.out.same (hk.sameB (by omega) (by omega)))
  clear hk
  go_wp2_with fail
  go_ret
  exact ⟨rfl, hB28⟩
end Go.Proofs.Ytgnjohkfgllhmaa

