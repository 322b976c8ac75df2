/- The nesting of instructions, as a plain function; three rows of the call's own. No program in sight. Conditions: none. -/
import Derived.WalkSmall
import Derived.Test.YtpmpbfkpiocleaaDoorAs17
namespace Go.Proofs.YtpmpbfkpiocleaaDoor
open Go.RowKit
set_option linter.unusedVariables false
set_option maxRecDepth 100000

def pStep (codes : List Int) (i : Nat) : List Int × List (Nat × Nat) → Option (List Int × List (Nat × Nat))
  | (ps, st) =>
    if codes.getD i 0 = 35 ∨ codes.getD i 0 = 44 then (if 6 < st.length + 1 then none else some (ps.set i (-1), (i, i) :: st))
    else if codes.getD i 0 = 36 then
      match st with
      | [] => none
      | (o, l) :: r => if codes.getD o 0 = 35 ∧ l = o then some ((ps.set i (-1)).set o i, (o, i) :: r) else none
    else if codes.getD i 0 = 37 ∨ codes.getD i 0 = 38 then
      match st with
      | [] => none
      | (o, l) :: r => if (codes.getD o 0 = 35 ↔ codes.getD i 0 = 37) then some ((ps.set i (-1)).set l i, r) else none
    else some (ps.set i (-1), st)

def pTo (codes : List Int) : Nat → Option (List Int × List (Nat × Nat))
  | 0 => some (List.replicate codes.length 0, [])
  | k + 1 => (pTo codes k).bind (pStep codes k)
/-- what comes out: nothing, or the partners and the blocks that are open -/
def pAll (codes : List Int) : Option (List Int × List (Nat × Nat)) := pTo codes codes.length
theorem pTo_none {codes : List Int} {k : Nat} (h : pTo codes k = none) : ∀ j, k ≤ j → pTo codes j = none := by
  intro j hj
  induction j with
  | zero => obtain rfl : k = 0 := by omega
            exact h
  | succ j ih =>
    rcases Nat.lt_or_ge j k with hl | hl
    · obtain rfl : k = j + 1 := by omega
      exact h
    · simp [pTo, ih hl]
def nestB (codes : List Int) : Bool := match pAll codes with | some (_, []) => true | _ => false

/-- what holds of the blocks that are open behind k instructions -/
structure PInv (codes : List Int) (k : Nat) (ps : List Int) (st : List (Nat × Nat)) : Prop where
  to : pTo codes k = some (ps, st)
  len : ps.length = codes.length
  small : st.length ≤ 6
  lt : ∀ p ∈ st, p.1 < k ∧ p.2 < k
  code : ∀ p ∈ st, codes.getD p.1 0 = 35 ∨ codes.getD p.1 0 = 44 ∧ p.2 = p.1
theorem PInv.start (codes : List Int) : PInv codes 0 (List.replicate codes.length 0) [] := ⟨rfl, by simp, by simp, by simp, by simp⟩
theorem PInv.step {codes : List Int} {k : Nat} {ps : List Int} {st : List (Nat × Nat)} (h : PInv codes k ps st) {ps' : List Int} {st' : List (Nat × Nat)} (hs : pStep codes k (ps, st) = some (ps', st')) (hl : ps'.length = ps.length) (hsm : st'.length ≤ 6)
    (hlt : ∀ p ∈ st', p.1 < k + 1 ∧ p.2 < k + 1) (hc : ∀ p ∈ st', codes.getD p.1 0 = 35 ∨ codes.getD p.1 0 = 44 ∧ p.2 = p.1) : PInv codes (k + 1) ps' st' :=
  ⟨by simp [pTo, h.to, hs], by rw [hl, h.len], hsm, hlt, hc⟩
theorem PInv.fail {codes : List Int} {k : Nat} {ps : List Int} {st : List (Nat × Nat)} (h : PInv codes k ps st) (hk : k < codes.length) (hs : pStep codes k (ps, st) = none) : pAll codes = none :=
  pTo_none (k := k + 1) (by simp [pTo, h.to, hs]) _ (by omega)
theorem PInv.old {codes : List Int} {k : Nat} {ps : List Int} {st : List (Nat × Nat)} (h : PInv codes k ps st) : ∀ p ∈ st, p.1 < k + 1 ∧ p.2 < k + 1 := fun p hp => by have := h.lt p hp; omega

section
variable {codes : List Int} {k : Nat} {ps : List Int} {st r : List (Nat × Nat)} {o l : Nat}
theorem PInv.push (h : PInv codes k ps st) (hc : codes.getD k 0 = 35 ∨ codes.getD k 0 = 44) (hs : st.length + 1 ≤ 6) : PInv codes (k + 1) (ps.set k (-1)) ((k, k) :: st) := by
  refine h.step ?_ (by simp) (by simpa using hs) ?_ ?_
  · simp only [pStep]; rw [if_pos hc, if_neg (by omega)]
  · intro p hp; rcases List.mem_cons.1 hp with rfl | hp
    · simp
    · exact h.old p hp
  · intro p hp; rcases List.mem_cons.1 hp with rfl | hp
    · rcases hc with hc | hc
      · exact .inl hc
      · exact .inr ⟨hc, rfl⟩
    · exact h.code p hp
theorem PInv.push_no (h : PInv codes k ps st) (hk : k < codes.length) (hc : codes.getD k 0 = 35 ∨ codes.getD k 0 = 44) (hs : 6 < st.length + 1) : pAll codes = none :=
  h.fail hk (by simp only [pStep]; rw [if_pos hc, if_pos hs])
theorem PInv.other (h : PInv codes k ps st) (h1 : codes.getD k 0 ≠ 35) (h2 : codes.getD k 0 ≠ 44) (h3 : codes.getD k 0 ≠ 36) (h4 : codes.getD k 0 ≠ 37) (h5 : codes.getD k 0 ≠ 38) : PInv codes (k + 1) (ps.set k (-1)) st :=
  h.step (by simp only [pStep]; rw [if_neg (by omega), if_neg (by omega), if_neg (by omega)]) (by simp) h.small h.old h.code
theorem PInv.else_yes (h : PInv codes k ps ((o, l) :: r)) (hc : codes.getD k 0 = 36) (h1 : codes.getD o 0 = 35) (h2 : l = o) : PInv codes (k + 1) ((ps.set k (-1)).set o k) ((o, k) :: r) := by
  refine h.step ?_ (by simp) (by simpa using h.small) ?_ ?_
  · simp only [pStep]; rw [if_neg (by omega), if_pos hc, if_pos ⟨h1, h2⟩]
  · intro p hp; rcases List.mem_cons.1 hp with rfl | hp
    · have := h.lt (o, l) (by simp); simp at this ⊢; omega
    · exact h.old p (List.mem_cons_of_mem _ hp)
  · intro p hp; rcases List.mem_cons.1 hp with rfl | hp
    · exact .inl h1
    · exact h.code p (List.mem_cons_of_mem _ hp)
theorem PInv.else_no (h : PInv codes k ps ((o, l) :: r)) (hk : k < codes.length) (hc : codes.getD k 0 = 36) (h1 : ¬ (codes.getD o 0 = 35 ∧ l = o)) : pAll codes = none :=
  h.fail hk (by simp only [pStep]; rw [if_neg (by omega), if_pos hc, if_neg h1])
theorem PInv.else_nil (h : PInv codes k ps []) (hk : k < codes.length) (hc : codes.getD k 0 = 36) : pAll codes = none :=
  h.fail hk (by simp only [pStep]; rw [if_neg (by omega), if_pos hc])
theorem PInv.end_yes (h : PInv codes k ps ((o, l) :: r)) (hc : codes.getD k 0 = 37 ∨ codes.getD k 0 = 38) (h1 : codes.getD o 0 = 35 ↔ codes.getD k 0 = 37) : PInv codes (k + 1) ((ps.set k (-1)).set l k) r := by
  refine h.step ?_ (by simp) (by have := h.small; simp at this; omega) ?_ ?_
  · simp only [pStep]; rw [if_neg (by omega), if_neg (by omega), if_pos hc, if_pos h1]
  · intro p hp; exact h.old p (List.mem_cons_of_mem _ hp)
  · intro p hp; exact h.code p (List.mem_cons_of_mem _ hp)
theorem PInv.end_no (h : PInv codes k ps ((o, l) :: r)) (hk : k < codes.length) (hc : codes.getD k 0 = 37 ∨ codes.getD k 0 = 38) (h1 : ¬ (codes.getD o 0 = 35 ↔ codes.getD k 0 = 37)) : pAll codes = none :=
  h.fail hk (by simp only [pStep]; rw [if_neg (by omega), if_neg (by omega), if_pos hc, if_neg h1])
theorem PInv.end_nil (h : PInv codes k ps []) (hk : k < codes.length) (hc : codes.getD k 0 = 37 ∨ codes.getD k 0 = 38) : pAll codes = none :=
  h.fail hk (by simp only [pStep]; rw [if_neg (by omega), if_neg (by omega), if_pos hc])
end

/-! ### rows -/
def intV (xs : List Int) : List Value := xs.map (.int .i64)
def natV (xs : List Nat) : List Value := xs.map fun n : Nat => .int .i64 (n : Int)
@[simp] theorem intV_length (xs : List Int) : (intV xs).length = xs.length := by simp [intV]
@[simp] theorem natV_length (xs : List Nat) : (natV xs).length = xs.length := by simp [natV]
theorem intV_set (xs : List Int) (i : Nat) (x : Int) : (intV xs).set i (.int .i64 x) = intV (xs.set i x) := by simp [intV, List.map_set]
theorem intV_get (xs : List Int) (i : Nat) (h : i < xs.length) : (intV xs)[i]? = some (.int .i64 (xs.getD i 0)) := by
  simp [intV, h]
/-- two values do not lie in one block -/
def Apart (u v : Value) : Prop := ∀ g, u.ownBlock = some g → v.ownBlock ≠ some g
theorem Apart.symm {u v : Value} (h : Apart u v) : Apart v u := fun g h1 h2 => h g h2 h1
theorem Apart.nil (v : Value) (n c : Nat) : Apart v (.slice none n c) := fun g _ h => by simp [Value.ownBlock] at h
/-- the same place, or a new block -/
theorem Apart.moved {u v v' : Value} {N : Nat} (h : Apart u v) (hu : ∀ g, u.ownBlock = some g → g < N) (hv : v'.ownBlock = v.ownBlock ∨ v'.ownBlock = some N) : Apart u v' := by
  intro g hg
  rcases hv with hv | hv
  · rw [hv]; exact h g hg
  · rw [hv]; have := hu g hg; intro h; injection h; omega

theorem own_set_far {w : World} {base e size n : Nat} {v : Value} {xs : List Value} (h : w.ownsRow base e size v n xs) {g o : Nat} (hne : v.ownBlock ≠ some g) (u : Value) : (w.setCell ⟨g, o, none⟩ u).ownsRow base e size v n xs :=
  h.kept (row := some g) ⟨rfl, rfl, rfl, by simp [World.setCell], fun k hk hk' => Below.heap_setCell w ⟨g, o, none⟩ u k (fun e => hk' (by simp at e; rw [e]))⟩ (.inr hne)
theorem own_grown {w w' : World} {base e size n : Nat} {v u : Value} {xs : List Value} (h : w.ownsRow base e size v n xs) (hg : w.grownBy w' u.ownBlock) (hne : Apart v u) : w'.ownsRow base e size v n xs := by
  refine h.kept hg ?_
  cases hv : v.ownBlock with
  | none => exact .inl rfl
  | some g => exact .inr (fun e => hne g hv e.symm)
theorem own_addr {w : World} {base e size n c : Nat} {A : Option Addr} {xs : List Value} (h : w.ownsRow base e size (.slice A n c) n xs) (hn : 0 < n) : ∃ g, A = some ⟨g, 0, none⟩ ∧ base ≤ g ∧ g < w.heap.size ∧ n ≤ c ∧
    (∀ j, j < n * size → w.cell? ⟨g, j, none⟩ = xs[j]?) ∧ ∀ j, w.frozen? ⟨g, j, none⟩ = false := by
  obtain ⟨g, hA⟩ : ∃ g, A = some ⟨g, 0, none⟩ := by
    rcases h.2 with ⟨h', h0⟩ | ⟨g, cap, cur, hv, _⟩
    · omega
    · injection hv with h1; exact ⟨g, h1⟩
  subst hA
  have hlt := h.lt g rfl
  have hc : n ≤ c := by
    rcases h.2 with ⟨h', h0⟩ | ⟨g, cap, cur, hv, _, _, h5, _⟩
    · omega
    · injection hv with h1 h2 h3; omega
  exact ⟨g, rfl, hlt.1, hlt.2, hc, fun j hj => h.cellAt j hj, fun j => h.frozenAt j⟩
/-- two appends, one behind the other, to two rows of the call's own, a third one beside them -/
theorem push_rows {W w0 w1 w2 : World} {B e n m : Nat} {vp vo vl : Value} {P xo xl : List Value} {H S1 S2 : Obj} {A1 A2 : Option Addr} {c1 c2 : Nat}
    (hb : Below B w0 W) (hBW : B ≤ W.heap.size) (hP : W.ownsRow B e 1 vp n P) (hO : W.ownsRow B e 1 vo m xo) (hL : W.ownsRow B e 1 vl m xl) (hPO : Apart vp vo) (hPL : Apart vp vl) (hOL : Apart vo vl)
    {yo yl : List Value} (hO1 : w1.ownsRow B e 1 (.slice A1 (m + 1) c1) (m + 1) yo) (hg1 : ((W.alloc H).alloc S1).grownBy w1 vo.ownBlock) (hat1 : (Value.slice A1 (m + 1) c1).ownBlock = vo.ownBlock ∨ (Value.slice A1 (m + 1) c1).ownBlock = some (W.heap.size + 1 + 1))
    (hL2 : w2.ownsRow B e 1 (.slice A2 (m + 1) c2) (m + 1) yl) (hg2 : (w1.alloc S2).grownBy w2 vl.ownBlock) (hat2 : (Value.slice A2 (m + 1) c2).ownBlock = vl.ownBlock ∨ (Value.slice A2 (m + 1) c2).ownBlock = some (w1.heap.size + 1)) :
    w2.ownsRow B e 1 vp n P ∧ w2.ownsRow B e 1 (.slice A1 (m + 1) c1) (m + 1) yo ∧ Apart vp (.slice A1 (m + 1) c1) ∧ Apart vp (.slice A2 (m + 1) c2) ∧ Apart (.slice A1 (m + 1) c1) (.slice A2 (m + 1) c2) ∧ Below B w0 w2 := by
  have s1 := hg1.size
  have s2 := hg2.size
  simp at s1 s2
  have hlP := hP.lt
  have hlL := hL.lt
  have hlO1 := hO1.lt
  have hPO1 : Apart vp (.slice A1 (m + 1) c1) := hPO.moved (N := W.heap.size + 1 + 1) (fun g hg => by have := hlP g hg; omega) hat1
  have hLO1 : Apart vl (.slice A1 (m + 1) c1) := hOL.symm.moved (N := W.heap.size + 1 + 1) (fun g hg => by have := hlL g hg; omega) hat1
  have hPL2 : Apart vp (.slice A2 (m + 1) c2) := hPL.moved (N := w1.heap.size + 1) (fun g hg => by have := hlP g hg; omega) hat2
  have hOL2 : Apart (.slice A1 (m + 1) c1) (.slice A2 (m + 1) c2) := hLO1.symm.moved (N := w1.heap.size + 1) (fun g hg => by have := hlO1 g hg; omega) hat2
  refine ⟨own_grown ((own_grown ((hP.alloc H).alloc S1) hg1 hPO).alloc S2) hg2 hPL, own_grown (hO1.alloc S2) hg2 hLO1.symm, hPO1, hPL2, hOL2, ?_⟩
  have b1 : Below B w0 w1 := ((hb.alloc hBW H).alloc (by simp; omega) S1).grown hg1 (by simp; omega) (fun k hk => (hO.lt k hk).1)
  exact (b1.alloc (by omega) S2).grown hg2 (by simp; omega) (fun k hk => (hL.lt k hk).1)
theorem natV_push (st : List (Nat × Nat)) (f : Nat × Nat → Nat) (p : Nat × Nat) (k : Nat) (h : f p = k) : natV ((p :: st).map f).reverse = natV (st.map f).reverse ++ [.int .i64 (k : Int)] := by
  simp [natV, h]
theorem natV_top (r : List (Nat × Nat)) (f : Nat × Nat → Nat) (p : Nat × Nat) : (natV ((p :: r).map f).reverse)[r.length]? = some (.int .i64 (f p : Int)) := by
  simp [natV]
theorem natV_set_top (r : List (Nat × Nat)) (f : Nat × Nat → Nat) (p q : Nat × Nat) (k : Nat) (h : f q = k) : (natV ((p :: r).map f).reverse).set r.length (.int .i64 (k : Int)) = natV ((q :: r).map f).reverse := by
  simp [natV, h]
theorem natV_pop (r : List (Nat × Nat)) (f : Nat × Nat → Nat) (p : Nat × Nat) : natV ((p :: r).map f).reverse = natV (r.map f).reverse ++ [.int .i64 (f p : Int)] := by
  simp [natV]
theorem own_pop {w : World} {base e g c : Nat} {r : List (Nat × Nat)} {f : Nat × Nat → Nat} {p : Nat × Nat} (h : w.ownsRow base e 1 (.slice (some ⟨g, 0, none⟩) (r.length + 1) c) (r.length + 1) (natV ((p :: r).map f).reverse)) :
    w.ownsRow base e 1 (.slice (some ⟨g, 0, none⟩) r.length c) r.length (natV (r.map f).reverse) := by
  rw [natV_pop] at h
  exact ownsRow_pop (by simp) h
theorem own_drewN {w : World} {base e size n : Nat} {v : Value} {xs : List Value} (h : w.ownsRow base e size v n xs) (q : Nat) : (w.drewN q).ownsRow base e size v n xs := h
/-- a store into the partners, another one into the last parts -/
theorem else_rows {W w0 : World} {B e n m q gl cl o j : Nat} {vo : Value} {P xo xl : List Value} {H : Obj} {x y : Value} (hb : Below B w0 W) (hBW : B ≤ W.heap.size)
    (hP : W.ownsRow B e 1 (.slice (some ⟨B, 0, none⟩) n n) n P) (hO : W.ownsRow B e 1 vo m xo) (hL : W.ownsRow B e 1 (.slice (some ⟨gl, 0, none⟩) m cl) m xl) (hPO : vo.ownBlock ≠ some B) (hPL : ¬ gl = B) (hOL : vo.ownBlock ≠ some gl) :
    (((((W.alloc H).drewN q).setCell ⟨B, o, none⟩ x).setCell ⟨gl, j, none⟩ y).ownsRow B e 1 (.slice (some ⟨B, 0, none⟩) n n) n (P.set o x)) ∧
    ((((W.alloc H).drewN q).setCell ⟨B, o, none⟩ x).setCell ⟨gl, j, none⟩ y).ownsRow B e 1 vo m xo ∧
    ((((W.alloc H).drewN q).setCell ⟨B, o, none⟩ x).setCell ⟨gl, j, none⟩ y).ownsRow B e 1 (.slice (some ⟨gl, 0, none⟩) m cl) m (xl.set j y) ∧ Below B w0 ((((W.alloc H).drewN q).setCell ⟨B, o, none⟩ x).setCell ⟨gl, j, none⟩ y) := by
  have hgl := (hL.lt gl rfl).1
  refine ⟨own_set_far ((own_drewN (hP.alloc H) q).stored o x).1 (by simp [Value.ownBlock]; omega) y, own_set_far (own_set_far (own_drewN (hO.alloc H) q) hPO x) hOL y,
    ((own_set_far (own_drewN (hL.alloc H) q) (by simp [Value.ownBlock]; omega) x).stored j y).1, ?_⟩
  exact ((below_drewN (hb.alloc hBW H) q).setCell (Nat.le_refl _) x).setCell hgl y
/-- a store into the partners alone -/
theorem end_rows {W w0 : World} {B e n m q o : Nat} {vo vl : Value} {P xo xl : List Value} {H : Obj} {x : Value} (hb : Below B w0 W) (hBW : B ≤ W.heap.size)
    (hP : W.ownsRow B e 1 (.slice (some ⟨B, 0, none⟩) n n) n P) (hO : W.ownsRow B e 1 vo m xo) (hL : W.ownsRow B e 1 vl m xl) (hPO : vo.ownBlock ≠ some B) (hPL : vl.ownBlock ≠ some B) :
    ((((W.alloc H).drewN q).setCell ⟨B, o, none⟩ x).ownsRow B e 1 (.slice (some ⟨B, 0, none⟩) n n) n (P.set o x)) ∧
    (((W.alloc H).drewN q).setCell ⟨B, o, none⟩ x).ownsRow B e 1 vo m xo ∧ (((W.alloc H).drewN q).setCell ⟨B, o, none⟩ x).ownsRow B e 1 vl m xl ∧ Below B w0 (((W.alloc H).drewN q).setCell ⟨B, o, none⟩ x) :=
  ⟨((own_drewN (hP.alloc H) q).stored o x).1, own_set_far (own_drewN (hO.alloc H) q) hPO x, own_set_far (own_drewN (hL.alloc H) q) hPL x, (below_drewN (hb.alloc hBW H) q).setCell (Nat.le_refl _) x⟩
end Go.Proofs.YtpmpbfkpiocleaaDoor

