/- What a drawing of instructions knows: its row, its source, the two boxes of a round. Conditions: as each states. -/
import Derived.Test.YtpmpbfkpiocleaaDoorAs16
import Derived.Test.YtpmpbfkpiocleaaDoorAs10
import Derived.Test.YtpmpbfkpiocleaaDoorAs25
import Derived.Test.YtpmpbfkpiocleaaDoorAs28
import Derived.Test.YtpmpbfkpiocleaaDoorAs26
namespace Go.Proofs.YtpmpbfkpiocleaaDoor
open Go.RowKit
set_option linter.unusedVariables false
set_option maxRecDepth 100000

theorem own_grownF {w w' : World} {lo e size n b : Nat} {v : Value} {xs : List Value} (h : w.ownsRow lo e size v n xs) (hg : w.grownBy w' (some b)) (hb : b < lo) : w'.ownsRow lo e size v n xs :=
  own_same h fun g hg' => hg.block g (h.lt g hg').2 (by intro e; injection e with e; have := (h.lt g hg').1; omega)
/-- a box with an instruction -/
def HB (w : World) (b : Nat) (c o : Int) : Prop := w.heap[b]? = some (.cells #[.int .i64 c, .int .i64 o] 32 (0, 0))
theorem HB.lt {w : World} {b : Nat} {c o : Int} (h : HB w b c o) : b < w.heap.size := (Array.getElem?_eq_some_iff.1 h).1
theorem HB.cells {w : World} {b : Nat} {c o : Int} (h : HB w b c o) : w.cell? ⟨b, 0, none⟩ = some (.int .i64 c) ∧ w.cell? ⟨b, 1, none⟩ = some (.int .i64 o) ∧ (∀ i, w.frozen? ⟨b, i, none⟩ = false) ∧ b < w.heap.size :=
  ⟨by rw [Go.Joins.cell_of_block h]; rfl, by rw [Go.Joins.cell_of_block h]; rfl, Go.Joins.unfrozen_of_block h, h.lt⟩
theorem HB.below {w w' : World} {b : Nat} {c o : Int} (h : HB w b c o) (hb : Below w.heap.size w w') : HB w' b c o := (hb.block b h.lt).trans h
theorem HB.grown {w w' : World} {b : Nat} {c o : Int} {row : Option Nat} (h : HB w b c o) (hg : w.grownBy w' row) (hn : some b ≠ row) : HB w' b c o := (hg.block b h.lt hn).trans h
theorem grown_then {a w w' : World} {row : Option Nat} (h : a.grownBy w row) (hb : Below w.heap.size w w') : a.grownBy w' row := grown_tr h (grown_of hb row)

structure FaSt (w0 : World) (b bp bq : Nat) (pr qr : Int) (W : World) (A : Option Addr) (n c : Nat) (L : List (Int × Int)) (k : Nat) : Prop where
  len : L.length = n
  row : W.ownsRow w0.heap.size 32 2 (.slice A n c) n (hintCells L)
  src : Src0 W b k
  hp : HB W bp 39 pr
  hq : HB W bq 39 qr
  np : (Value.slice A n c).ownBlock ≠ some bp
  nq : (Value.slice A n c).ownBlock ≠ some bq
  gr : w0.grownBy W (some b)
  lp : w0.heap.size ≤ bp
  lq : w0.heap.size ≤ bq
  lb : b < w0.heap.size
section
variable {w0 : World} {b bp bq : Nat} {pr qr : Int} {W : World} {A : Option Addr} {n c : Nat} {L : List (Int × Int)} {k : Nat}
theorem FaSt.size (h : FaSt w0 b bp bq pr qr W A n c L k) : w0.heap.size ≤ W.heap.size := h.gr.size
theorem FaSt.below (h : FaSt w0 b bp bq pr qr W A n c L k) {W' : World} (hb : Below W.heap.size W W') : FaSt w0 b bp bq pr qr W' A n c L k :=
  ⟨h.len, own_below h.row hb, h.src.kept hb h.src.lt, h.hp.below hb, h.hq.below hb, h.np, h.nq, grown_then h.gr hb, h.lp, h.lq, h.lb⟩
theorem FaSt.drew (h : FaSt w0 b bp bq pr qr W A n c L k) : FaSt w0 b bp bq pr qr W.drew A n c L k := h.below (Below.drew (Below.refl _ _))
theorem FaSt.alloc (h : FaSt w0 b bp bq pr qr W A n c L k) (o : Obj) : FaSt w0 b bp bq pr qr (W.alloc o) A n c L k := h.below (Go.Joins.below_alloc1 _ _)
theorem FaSt.sp (h : FaSt w0 b bp bq pr qr W A n c L k) : W.cell? ⟨bp, 0, none⟩ = some (.int .i64 39) ∧ W.cell? ⟨bp, 1, none⟩ = some (.int .i64 pr) := ⟨h.hp.cells.1, h.hp.cells.2.1⟩
theorem FaSt.sq (h : FaSt w0 b bp bq pr qr W A n c L k) : W.cell? ⟨bq, 0, none⟩ = some (.int .i64 39) ∧ W.cell? ⟨bq, 1, none⟩ = some (.int .i64 qr) := ⟨h.hq.cells.1, h.hq.cells.2.1⟩
theorem FaSt.spq (h : FaSt w0 b bp bq pr qr W A n c L k) : (W.cell? ⟨bp, 0, none⟩ = some (.int .i64 39) ∧ W.cell? ⟨bp, 1, none⟩ = some (.int .i64 pr)) ∧ W.cell? ⟨bq, 0, none⟩ = some (.int .i64 39) ∧ W.cell? ⟨bq, 1, none⟩ = some (.int .i64 qr) := ⟨h.sp, h.sq⟩
theorem FaSt.grown (h : FaSt w0 b bp bq pr qr W A n c L k) {W' : World} {k' : Nat} (hg : W.grownBy W' (some b)) (hs : Src0 W' b k') : FaSt w0 b bp bq pr qr W' A n c L k' :=
  ⟨h.len, own_grownF h.row hg h.lb, hs, h.hp.grown hg (by intro e; injection e with e; have := h.lp; have := h.lb; omega), h.hq.grown hg (by intro e; injection e with e; have := h.lq; have := h.lb; omega), h.np, h.nq, grown_tr h.gr hg, h.lp, h.lq, h.lb⟩
theorem FaSt.set (h : FaSt w0 b bp bq pr qr W A n c L k) {x o : Nat} {v : Value} (hx : w0.heap.size ≤ x) (hr : (Value.slice A n c).ownBlock ≠ some x) (hp : bp ≠ x) (hq : bq ≠ x) : FaSt w0 b bp bq pr qr (W.setCell ⟨x, o, none⟩ v) A n c L k :=
  ⟨h.len, own_same h.row fun g hg => Below.heap_setCell W ⟨x, o, none⟩ v g (fun e => hr (by rw [hg, e])), h.src.set (by have := h.lb; omega), (Below.heap_setCell W ⟨x, o, none⟩ v bp hp).trans h.hp, (Below.heap_setCell W ⟨x, o, none⟩ v bq hq).trans h.hq, h.np, h.nq, grown_setO h.gr hx o v, h.lp, h.lq, h.lb⟩
theorem FaSt.next (h : FaSt w0 b bp bq pr qr W A n c L k) {w' : World} {A' : Option Addr} {c' m : Nat} {N : List (Int × Int)} (hN : N.length = m) (ho : w'.ownsRow w0.heap.size 32 2 (.slice A' (n + m) c') (n + m) (hintCells L ++ hintCells N))
    (hg : W.grownBy w' (Value.slice A n c).ownBlock) (hi : (Value.slice A' (n + m) c').ownBlock = (Value.slice A n c).ownBlock ∨ (Value.slice A' (n + m) c').ownBlock = some W.heap.size) : FaSt w0 b bp bq pr qr w' A' (n + m) c' (L ++ N) k := by
  have hb := below_app h.row hg h.size
  refine ⟨by rw [List.length_append, h.len, hN], by rw [hintCells_append]; exact ho, h.src.kept hb h.lb, h.hp.grown hg (fun e => h.np e.symm), h.hq.grown hg (fun e => h.nq e.symm), ?_, ?_, ?_, h.lp, h.lq, h.lb⟩
  · rcases hi with e | e <;> rw [e]
    · exact h.np
    · intro e2; injection e2 with e2; have := h.hp.lt; omega
  · rcases hi with e | e <;> rw [e]
    · exact h.nq
    · intro e2; injection e2 with e2; have := h.hq.lt; omega
  · exact ⟨hb.os.trans h.gr.os, hb.tape.trans h.gr.tape, hb.output.trans h.gr.output, Nat.le_trans h.gr.size hb.size, fun i hi' hn => (hb.block i hi').trans (h.gr.block i hi' hn)⟩
theorem src_lit {w : World} {size m b : Nat} {cs : List Value} {t : TypeId} (hl : cs.length = m * size) (h1 : ∀ u ∈ cs, u.oneCell' = true) (hb : b = w.heap.size) : Src (w.alloc (.cells cs.toArray t)) size (some ⟨b, 0, none⟩) m cs := by
  subst hb
  refine ⟨hl, h1, fun _ => ⟨_, rfl, fun j u hu => ?_⟩⟩
  have : (⟨w.heap.size, 0, none⟩ : Addr).add j = ⟨w.heap.size, j, none⟩ := by unfold Addr.add; split <;> simp_all
  rw [this, cell_of_row _ _ _ _ _ _ (heap_alloc_new w _)]
  simpa using hu
/-- an append of written-out instructions -/
theorem wpAppF {P : Program} {ops : Array Oper} {rest : List Oper} {o : Oper} {a : Act} {Q : Exit → Act → World → Prop} (hgd : o.guard = none) (s x : Operand) (E : Elem P 23 32 2 16)
    (ho : o.op = .call { callee := .builtin .append, args := #[s, x], argTypes := #[23, 23] }) (h : FaSt w0 b bp bq pr qr W A n c L k) (hs : a.eval s = .slice A n c) (N : List (Int × Int)) {g m c2 : Nat} (hx : a.eval x = .slice (some ⟨g, 0, none⟩) m c2) (hg : g = W.heap.size) (hm : N.length = m)
    (hn : n + m ≤ 1000000000) (hK : ∀ A' c' w', FaSt w0 b bp bq pr qr w' A' (n + m) c' (L ++ N) k → wpList P ops Q rest (a.put o.dst (.slice A' (n + m) c')) w') :
    wpList P ops Q (o :: rest) a (W.alloc (.cells (hintCells N).toArray 32 (0, 0))) :=
  wpAppAt hgd s x E ho hs (h.alloc _).row hx (src_lit (by rw [hintCells_length, hm]) (hintCells_one N) hg) hn (by omega) (h.alloc _).size (n + m) rfl fun A' c' w' h1 h2 h3 => hK A' c' w' ((h.alloc _).next hm h1 h2 h3)
/-- an append of a row -/
theorem wpAppR {P : Program} {ops : Array Oper} {rest : List Oper} {o : Oper} {a : Act} {Q : Exit → Act → World → Prop} (hgd : o.guard = none) (s x : Operand) (E : Elem P 23 32 2 16)
    (ho : o.op = .call { callee := .builtin .append, args := #[s, x], argTypes := #[23, 23] }) (h : FaSt w0 b bp bq pr qr W A n c L k) (hs : a.eval s = .slice A n c) (N : List (Int × Int)) {B : Option Addr} {m c2 : Nat} (hx : a.eval x = .slice B m c2) (hsrc : Src W 2 B m (hintCells N)) (hm : N.length = m)
    (hn : n + m ≤ 1000000000) (hK : ∀ A' c' w', FaSt w0 b bp bq pr qr w' A' (n + m) c' (L ++ N) k → wpList P ops Q rest (a.put o.dst (.slice A' (n + m) c')) w') :
    wpList P ops Q (o :: rest) a W :=
  wpAppAt hgd s x E ho hs h.row hx hsrc hn (by omega) h.size (n + m) rfl fun A' c' w' h1 h2 h3 => hK A' c' w' (h.next hm h1 h2 h3)
theorem stepAppF {P : Program} {ops : Array Oper} {o : Oper} {a : Act} {K : Act → World → Prop} {Q : Exit → Act → World → Prop} {E' : Prop} (hgd : o.guard = none) (s x : Operand) (E : Elem P 23 32 2 16)
    (ho : o.op = .call { callee := .builtin .append, args := #[s, x], argTypes := #[23, 23] }) (h : FaSt w0 b bp bq pr qr W A n c L k) (hs : a.eval s = .slice A n c) (N : List (Int × Int)) {g m c2 : Nat} (hx : a.eval x = .slice (some ⟨g, 0, none⟩) m c2) (hg : g = W.heap.size) (hm : N.length = m)
    (hn : n + m ≤ 1000000000) (hK : ∀ A' c' w', FaSt w0 b bp bq pr qr w' A' (n + m) c' (L ++ N) k → K (a.put o.dst (.slice A' (n + m) c')) w') :
    if Region.wanted o (yielded ops a.tmps) = true then Oper.wp P o a (W.alloc (.cells (hintCells N).toArray 32 (0, 0))) K Q else E' := by
  have hw : Region.wanted o (yielded ops a.tmps) = true := by simp [Region.wanted, hgd]
  rw [if_pos hw]
  have hsrc : Src (W.alloc (.cells (hintCells N).toArray 32 (0, 0))) 2 (some ⟨g, 0, none⟩) m (hintCells N) := src_lit (by rw [hintCells_length, hm]) (hintCells_one N) hg
  obtain ⟨v', w', hr, h2, h3, h4⟩ := run_app (P := P) E o.type (h.alloc (.cells (hintCells N).toArray 32 (0, 0))).row (c := c2) hsrc hn (by omega) (h.alloc _).size
  obtain ⟨A', c', rfl⟩ := own_form h2
  unfold Oper.wp execOp
  simp only [ho, resolve, invoke, builtin, Sem.run_bind, Sem.run_pure, Result.andThen_ok, List.map_toArray, List.map_cons, List.map_nil, hs, hx, hr]
  exact hK A' c' w' ((h.alloc _).next hm h2 h3 h4)
/-- the draws, over what is known -/
theorem pickF (h : FaSt w0 b bp bq pr qr W A n c L k) (m : Int) (hk : k ≤ 999999000) :
    Calls Tryd.prog 28 #[.pointer (some ⟨b, 0, none⟩), .int .i64 m] W fun e w' => ∃ (r : Int) (k' : Nat), e = .returned (.int .i64 r) ∧ 0 ≤ r ∧ (1 < m → r < m) ∧ FaSt w0 b bp bq pr qr w' A n c L k' ∧ k' ≤ k + 2 := by
  refine (pick_any b k m W h.src (by omega)).mono ?_
  rintro e w' ⟨r, k', rfl, h0, h1, _, hs, hk', hg⟩
  exact ⟨r, k', rfl, h0, h1, h.grown hg hs, hk'⟩
theorem oneF (h : FaSt w0 b bp bq pr qr W A n c L k) (m : Int) (hk : k ≤ 999999000) :
    Calls Tryd.prog 30 #[.pointer (some ⟨b, 0, none⟩), .int .i64 m] W fun e w' => ∃ (r : Bool) (k' : Nat), e = .returned (.bool r) ∧ FaSt w0 b bp bq pr qr w' A n c L k' ∧ k' ≤ k + 2 := by
  refine (one_any b k m W h.src (by omega)).mono ?_
  rintro e w' ⟨r, k', rfl, hs, hk', hg⟩
  exact ⟨r, k', rfl, h.grown hg hs, hk'⟩
theorem amongF (h : FaSt w0 b bp bq pr qr W A n c L k) (xs : List Int) (m : Nat) (hm : xs.length = m) (h1 : 1 ≤ m) (h2 : m ≤ 1000) (hk : k ≤ 999999000) (g : Nat) (hg : g = W.heap.size) :
    Calls Tryd.prog 29 #[.pointer (some ⟨b, 0, none⟩), .slice (some ⟨g, 0, none⟩) m m] (W.alloc (.cells (xs.map (Value.int .i64)).toArray 2 (0, 0))) fun e w' => ∃ (r : Int) (k' : Nat), e = .returned (.int .i64 r) ∧ r ∈ xs ∧ FaSt w0 b bp bq pr qr w' A n c L k' ∧ k' ≤ k + 2 := by
  subst hg
  have hrow : (W.alloc (.cells (xs.map (Value.int .i64)).toArray 2 (0, 0))).ownsRow W.heap.size 2 1 (.slice (some ⟨W.heap.size, 0, none⟩) m m) m (xs.map (Value.int .i64)) := by
    have := World.ownsRow_lit (e := 2) (size := 1) W (xs.map (Value.int .i64)).toArray m (Nat.le_refl _) (by unfold maxLen; omega) (by simp [hm])
    simpa using this
  have hfm : xs.map (Value.int .i64) = xs.flatMap intC := by
    clear hrow hm
    induction xs with
    | nil => rfl
    | cons x xs ih => rw [List.map_cons, List.flatMap_cons, ih]; rfl
  rw [hfm] at hrow ⊢
  have hr := rdS_own intC_len (by omega) hrow hm
  have hbl := h.src.lt
  refine (among_any b k _ m m _ _ _ _ (h.alloc _).src (by omega) hr (.inl hbl) (Nat.le_refl _) h1 (by omega)).mono ?_
  rintro e w' ⟨r, k', rfl, hrm, hs, hk', hg⟩
  exact ⟨r, k', rfl, hrm, (h.alloc _).grown hg hs, hk'⟩
end
end Go.Proofs.YtpmpbfkpiocleaaDoor

/- An act of 239 slots of which some are known. Conditions: as each states. -/
namespace Go.Proofs.YtpmpbfkpiocleaaDoor
open Go.RowKit
set_option linter.unusedVariables false
set_option maxRecDepth 100000

def OkAct (x0 x1 x2 x7 x8 x12 x13 x14 x15 : Value) (a : Act) : Prop := a.defers = [] ∧ a.tmps.size = 239 ∧ a.tmps[0]? = some x0 ∧ a.tmps[1]? = some x1 ∧ a.tmps[2]? = some x2 ∧ a.tmps[3]? = some undef ∧ a.tmps[4]? = some undef ∧ a.tmps[5]? = some undef ∧ a.tmps[6]? = some (.slice none 0 0) ∧ a.tmps[7]? = some x7 ∧ a.tmps[8]? = some x8 ∧ a.tmps[12]? = some x12 ∧ a.tmps[13]? = some x13 ∧ a.tmps[14]? = some x14 ∧ a.tmps[15]? = some x15 ∧ a.tmps[238]? = some undef
theorem list_of (l : List Value) : l = (List.range l.length).map fun i => l.getD i undef := by
  apply List.ext_getElem?
  intro i
  rw [List.getElem?_map]
  by_cases h : i < l.length
  · rw [List.getElem?_range h, List.getElem?_eq_getElem h]
    simp [List.getD_eq_getElem?_getD, List.getElem?_eq_getElem h]
  · rw [List.getElem?_eq_none (by omega), List.getElem?_eq_none (by simp; omega)]; rfl
theorem OkAct.lit {x0 x1 x2 x7 x8 x12 x13 x14 x15 : Value} {a : Act} (h : OkAct x0 x1 x2 x7 x8 x12 x13 x14 x15 a) : ∃ f : Nat → Value, a = ⟨#[x0, x1, x2, undef, undef, undef, .slice none 0 0, x7, x8, f 9, f 10, f 11, x12, x13, x14, x15, f 16, f 17, f 18, f 19, f 20, f 21, f 22, f 23, f 24, f 25, f 26, f 27, f 28, f 29, f 30, f 31, f 32, f 33, f 34, f 35, f 36, f 37, f 38, f 39, f 40, f 41, f 42, f 43, f 44, f 45, f 46, f 47, f 48, f 49, f 50, f 51, f 52, f 53, f 54, f 55, f 56, f 57, f 58, f 59, f 60, f 61, f 62, f 63, f 64, f 65, f 66, f 67, f 68, f 69, f 70, f 71, f 72, f 73, f 74, f 75, f 76, f 77, f 78, f 79, f 80, f 81, f 82, f 83, f 84, f 85, f 86, f 87, f 88, f 89, f 90, f 91, f 92, f 93, f 94, f 95, f 96, f 97, f 98, f 99, f 100, f 101, f 102, f 103, f 104, f 105, f 106, f 107, f 108, f 109, f 110, f 111, f 112, f 113, f 114, f 115, f 116, f 117, f 118, f 119, f 120, f 121, f 122, f 123, f 124, f 125, f 126, f 127, f 128, f 129, f 130, f 131, f 132, f 133, f 134, f 135, f 136, f 137, f 138, f 139, f 140, f 141, f 142, f 143, f 144, f 145, f 146, f 147, f 148, f 149, f 150, f 151, f 152, f 153, f 154, f 155, f 156, f 157, f 158, f 159, f 160, f 161, f 162, f 163, f 164, f 165, f 166, f 167, f 168, f 169, f 170, f 171, f 172, f 173, f 174, f 175, f 176, f 177, f 178, f 179, f 180, f 181, f 182, f 183, f 184, f 185, f 186, f 187, f 188, f 189, f 190, f 191, f 192, f 193, f 194, f 195, f 196, f 197, f 198, f 199, f 200, f 201, f 202, f 203, f 204, f 205, f 206, f 207, f 208, f 209, f 210, f 211, f 212, f 213, f 214, f 215, f 216, f 217, f 218, f 219, f 220, f 221, f 222, f 223, f 224, f 225, f 226, f 227, f 228, f 229, f 230, f 231, f 232, f 233, f 234, f 235, f 236, f 237, undef], []⟩ := by
  obtain ⟨⟨l⟩, d⟩ := a
  obtain ⟨hd, hs, e0, e1, e2, e3, e4, e5, e6, e7, e8, e12, e13, e14, e15, e238⟩ := h
  simp only at hd hs e0 e1 e2 e3 e4 e5 e6 e7 e8 e12 e13 e14 e15 e238
  subst hd
  have hl : l.length = 239 := hs
  have h0 := list_of l
  rw [hl] at h0
  have g : ∀ (i : Nat) (v : Value), (⟨l⟩ : Array Value)[i]? = some v → l.getD i undef = v := by
    intro i v h
    have h' : l[i]? = some v := by simpa using h
    rw [List.getD_eq_getElem?_getD, h']; rfl
  obtain ⟨f, hf⟩ : ∃ f : Nat → Value, f = fun i => l.getD i undef := ⟨_, rfl⟩
  rw [← hf] at h0
  have hfi : ∀ i, f i = l.getD i undef := fun i => by rw [hf]
  refine ⟨f, ?_⟩
  have h1 : (List.range 239).map f = [f 0, f 1, f 2, f 3, f 4, f 5, f 6, f 7, f 8, f 9, f 10, f 11, f 12, f 13, f 14, f 15, f 16, f 17, f 18, f 19, f 20, f 21, f 22, f 23, f 24, f 25, f 26, f 27, f 28, f 29, f 30, f 31, f 32, f 33, f 34, f 35, f 36, f 37, f 38, f 39, f 40, f 41, f 42, f 43, f 44, f 45, f 46, f 47, f 48, f 49, f 50, f 51, f 52, f 53, f 54, f 55, f 56, f 57, f 58, f 59, f 60, f 61, f 62, f 63, f 64, f 65, f 66, f 67, f 68, f 69, f 70, f 71, f 72, f 73, f 74, f 75, f 76, f 77, f 78, f 79, f 80, f 81, f 82, f 83, f 84, f 85, f 86, f 87, f 88, f 89, f 90, f 91, f 92, f 93, f 94, f 95, f 96, f 97, f 98, f 99, f 100, f 101, f 102, f 103, f 104, f 105, f 106, f 107, f 108, f 109, f 110, f 111, f 112, f 113, f 114, f 115, f 116, f 117, f 118, f 119, f 120, f 121, f 122, f 123, f 124, f 125, f 126, f 127, f 128, f 129, f 130, f 131, f 132, f 133, f 134, f 135, f 136, f 137, f 138, f 139, f 140, f 141, f 142, f 143, f 144, f 145, f 146, f 147, f 148, f 149, f 150, f 151, f 152, f 153, f 154, f 155, f 156, f 157, f 158, f 159, f 160, f 161, f 162, f 163, f 164, f 165, f 166, f 167, f 168, f 169, f 170, f 171, f 172, f 173, f 174, f 175, f 176, f 177, f 178, f 179, f 180, f 181, f 182, f 183, f 184, f 185, f 186, f 187, f 188, f 189, f 190, f 191, f 192, f 193, f 194, f 195, f 196, f 197, f 198, f 199, f 200, f 201, f 202, f 203, f 204, f 205, f 206, f 207, f 208, f 209, f 210, f 211, f 212, f 213, f 214, f 215, f 216, f 217, f 218, f 219, f 220, f 221, f 222, f 223, f 224, f 225, f 226, f 227, f 228, f 229, f 230, f 231, f 232, f 233, f 234, f 235, f 236, f 237, f 238] := by rfl
  rw [h1] at h0
  rw [h0]
  rw [show f 0 = x0 from (hfi 0).trans (g 0 _ e0)]
  rw [show f 1 = x1 from (hfi 1).trans (g 1 _ e1)]
  rw [show f 2 = x2 from (hfi 2).trans (g 2 _ e2)]
  rw [show f 3 = undef from (hfi 3).trans (g 3 _ e3)]
  rw [show f 4 = undef from (hfi 4).trans (g 4 _ e4)]
  rw [show f 5 = undef from (hfi 5).trans (g 5 _ e5)]
  rw [show f 6 = (.slice none 0 0) from (hfi 6).trans (g 6 _ e6)]
  rw [show f 7 = x7 from (hfi 7).trans (g 7 _ e7)]
  rw [show f 8 = x8 from (hfi 8).trans (g 8 _ e8)]
  rw [show f 12 = x12 from (hfi 12).trans (g 12 _ e12)]
  rw [show f 13 = x13 from (hfi 13).trans (g 13 _ e13)]
  rw [show f 14 = x14 from (hfi 14).trans (g 14 _ e14)]
  rw [show f 15 = x15 from (hfi 15).trans (g 15 _ e15)]
  rw [show f 238 = undef from (hfi 238).trans (g 238 _ e238)]
/-- behind a round's statements -/
def FaQ (w : World) (b dd n N1 k2 K1 : Nat) (L : List (Int × Int)) (x0 x1 x2 x8 x12 x13 x14 x15 : Value) (e : Exit) (a : Act) (wx : World) : Prop :=
  e = .normal ∧ ∃ (A' : Option Addr) (n' c' k' : Nat) (M : List (Int × Int)), OkAct x0 x1 x2 (.slice A' n' c') x8 x12 x13 x14 x15 a ∧ (∃ bp bq pr qr, FaSt w b bp bq pr qr wx A' n' c' (L ++ M) k') ∧ (allValid M = true ∧ Bal dd (codesOf M)) ∧ n' ≤ n + N1 + 8 ∧ k' ≤ k2 + K1 + 20
end Go.Proofs.YtpmpbfkpiocleaaDoor

