/- Whether a point is near a segment: both sides, walked. Conditions: as each states. -/
import Derived.Laws.BitsLemmas
import Derived.IntWalk
import Derived.BigQuiet
import Derived.Deep.QuietTactic
import Derived.WalkSmall
import Derived.Test.YtfkidklpjiiclaaGreatTe13
import Derived.Test.YtfkidklpjiiclaaGreatMul
namespace Go.Proofs.YtfkidklpjiiclaaGreat
open Go.RowKit
set_option linter.unusedVariables false
set_option maxRecDepth 100000

theorem pt_bd {x y : Int} (h : ptOk x y = true) : -262144 ≤ x ∧ x ≤ 262144 ∧ -262144 ≤ y ∧ y ≤ 262144 := by
  have := ptOk_iff.1 h; omega
theorem df_bd {x y u v : Int} (hx : -524288 ≤ x ∧ x ≤ 524288) (hy : -524288 ≤ y ∧ y ≤ 524288) : -274877906944 ≤ x * y ∧ x * y ≤ 274877906944 := by
  have := prod_bd hx.1 hx.2 hy.1 hy.2
  omega

theorem l03Turn_any (ax ay bx b px py : Int) (w : World) (ha : ptOk ax ay = true) (hb : ptOk bx b = true) (hp : ptOk px py = true) :
    Calls Tryz.prog 197 #[.agg #[.int .i64 ax, .int .i64 ay], .agg #[.int .i64 bx, .int .i64 b], .agg #[.int .i64 px, .int .i64 py]] w fun e w' => e = .returned (.int .i64 (turnI ax ay bx b px py)) ∧ Below w.heap.size w w' := by
  obtain ⟨a1, a2, a3, a4⟩ := pt_bd ha
  obtain ⟨b1, b2, b3, b4⟩ := pt_bd hb
  obtain ⟨p1, p2, p3, p4⟩ := pt_bd hp
  obtain ⟨c1, c2⟩ := df_bd (x := bx - ax) (y := py - ay) (u := 0) (v := 0) (by omega) (by omega)
  obtain ⟨c3, c4⟩ := df_bd (x := b - ay) (y := px - ax) (u := 0) (v := 0) (by omega) (by omega)
  clear ha hb hp
  go_enter Tryz.func197, Tryz.ntmps197
  go_wp2_with fail
  go_ret
  exact ⟨rfl, (((Below.refl _ _).alloc (Nat.le_refl _) _).alloc (by simp) _).alloc (by simp; omega) _⟩
theorem turn_any (ax ay bx b px py : Int) (w : World) (ha : ptOk ax ay = true) (hb : ptOk bx b = true) (hp : ptOk px py = true) :
    Calls Tryz.prog 129 #[.agg #[.int .i64 ax, .int .i64 ay], .agg #[.int .i64 bx, .int .i64 b], .agg #[.int .i64 px, .int .i64 py]] w fun e w' => e = .returned (.int .i64 (turnI ax ay bx b px py)) ∧ Below w.heap.size w w' := by
  obtain ⟨a1, a2, a3, a4⟩ := pt_bd ha
  obtain ⟨b1, b2, b3, b4⟩ := pt_bd hb
  obtain ⟨p1, p2, p3, p4⟩ := pt_bd hp
  obtain ⟨c1, c2⟩ := df_bd (x := bx - ax) (y := py - ay) (u := 0) (v := 0) (by omega) (by omega)
  obtain ⟨c3, c4⟩ := df_bd (x := b - ay) (y := px - ax) (u := 0) (v := 0) (by omega) (by omega)
  clear ha hb hp
  go_enter Tryz.func129, Tryz.ntmps129
  go_wp2_with fail
  go_ret
  exact ⟨rfl, (((Below.refl _ _).alloc (Nat.le_refl _) _).alloc (by simp) _).alloc (by simp; omega) _⟩

/-! ### products of two words -/
/-! ### both functions -/
/-- the three points' boxes -/
def Box3 (W : World) (X : Nat) (ax ay bx b px py : Int) : Prop := X + 3 ≤ W.heap.size ∧ W.cell? ⟨X, 0, none⟩ = some (.int .i64 ax) ∧ W.cell? ⟨X, 1, none⟩ = some (.int .i64 ay) ∧ W.cell? ⟨X + 1, 0, none⟩ = some (.int .i64 bx) ∧ W.cell? ⟨X + 1, 1, none⟩ = some (.int .i64 b) ∧ W.cell? ⟨X + 1 + 1, 0, none⟩ = some (.int .i64 px) ∧ W.cell? ⟨X + 1 + 1, 1, none⟩ = some (.int .i64 py)
theorem Box3.below {W V : World} {X : Nat} {ax ay bx b px py : Int} (h : Box3 W X ax ay bx b px py) (hb : Below W.heap.size W V) : Box3 V X ax ay bx b px py := by
  obtain ⟨h0, h1, h2, h3, h4, h5, h6⟩ := h
  exact ⟨Nat.le_trans h0 hb.size, (hb.cell (by simp; omega)).trans h1, (hb.cell (by simp; omega)).trans h2, (hb.cell (by simp; omega)).trans h3, (hb.cell (by simp; omega)).trans h4, (hb.cell (by simp; omega)).trans h5, (hb.cell (by simp; omega)).trans h6⟩
theorem Box3.new (w : World) (ax ay bx b px py : Int) (t : TypeId) : Box3 (((w.alloc (.cells #[.int .i64 ax, .int .i64 ay] t)).alloc (.cells #[.int .i64 bx, .int .i64 b] t)).alloc (.cells #[.int .i64 px, .int .i64 py] t)) w.heap.size ax ay bx b px py := by
  have h := heap_new0 w (.cells #[.int .i64 ax, .int .i64 ay] t) (.cells #[.int .i64 bx, .int .i64 b] t) (.cells #[.int .i64 px, .int .i64 py] t)
  exact ⟨by simp, by rw [Go.Joins.cell_of_block h.1]; rfl, by rw [Go.Joins.cell_of_block h.1]; rfl, by rw [Go.Joins.cell_of_block h.2.1]; rfl, by rw [Go.Joins.cell_of_block h.2.1]; rfl, by rw [Go.Joins.cell_of_block h.2.2]; rfl, by rw [Go.Joins.cell_of_block h.2.2]; rfl⟩
end Go.Proofs.YtfkidklpjiiclaaGreat

