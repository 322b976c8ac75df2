/- Both halves of a cubic: the program's side. Conditions: as each states. -/
import Derived.Test.YtpmpbfkpiocleaaQv28
import Derived.Test.YtpmpbfkpiocleaaQv05
import Derived.Test.YtpmpbfkpiocleaaQv03
namespace Go.Proofs.Ytpmpbfkpiocleaa
open Go.RowKit
set_option linter.unusedVariables false
set_option maxRecDepth 100000

/-- a slice of four numbers -/
def VInts (B : List Int) (v : Value) (w : World) : Prop := ∃ p lo hi, v = .slice (some ⟨p, 0, none⟩) 4 4 ∧ RdS 1 (FlatR intC) w lo hi (some ⟨p, 0, none⟩) 4 B ∧ hi ≤ w.heap.size
theorem VInts.stays (B : List Int) : Stays (VInts B) := fun v w w' ⟨p, lo, hi, h1, h2, h3⟩ hb => ⟨p, lo, hi, h1, h2.frame (good_flat _) (Below.sameB hb h3), Nat.le_trans h3 hb.size⟩
/-- a value that does not hang on memory -/
def VIs (u : Value) (v : Value) (w : World) : Prop := v = u
theorem VIs.stays (u : Value) : Stays (VIs u) := fun v w w' h _ => h
/-- a new box -/
def VBox (B : Nat) (o : Obj) (v : Value) (w : World) : Prop := ∃ b, v = .pointer (some ⟨b, 0, none⟩) ∧ B ≤ b ∧ w.heap[b]? = some o
theorem VBox.stays (B : Nat) (o : Obj) : Stays (VBox B o) := fun v w w' ⟨b, h1, h2, h3⟩ hb => ⟨b, h1, h2, (hb.block b (Array.getElem?_eq_some_iff.1 h3).1).trans h3⟩
theorem VInts.new (w : World) (a b c d : Int) : VInts [a, b, c, d] (.slice (some ⟨w.heap.size, 0, none⟩) 4 4) (w.alloc (.cells #[.int .i64 a, .int .i64 b, .int .i64 c, .int .i64 d] 2 (0, 0))) := ⟨_, _, _, rfl, four_ints w a b c d, Nat.le_refl _⟩

/-- the world with eight cells of a block stored -/
def W8 (w : World) (b : Nat) (x0 x1 x2 x3 x4 x5 x6 x7 : Value) : World := (((((((w.setCell ⟨b, 0, none⟩ x0).setCell ⟨b, 1, none⟩ x1).setCell ⟨b, 2, none⟩ x2).setCell ⟨b, 3, none⟩ x3).setCell ⟨b, 4, none⟩ x4).setCell ⟨b, 5, none⟩ x5).setCell ⟨b, 6, none⟩ x6).setCell ⟨b, 7, none⟩ x7
theorem set8 {w : World} {b : Nat} {t : TypeId} {y0 y1 y2 y3 y4 y5 y6 y7 : Value} (h : w.heap[b]? = some (.cells #[y0, y1, y2, y3, y4, y5, y6, y7] t (0, 0))) (x0 x1 x2 x3 x4 x5 x6 x7 : Value) :
    (W8 w b x0 x1 x2 x3 x4 x5 x6 x7).heap[b]? = some (.cells #[x0, x1, x2, x3, x4, x5, x6, x7] t (0, 0)) ∧ Below b w (W8 w b x0 x1 x2 x3 x4 x5 x6 x7) ∧ (∀ k, k ≠ b → (W8 w b x0 x1 x2 x3 x4 x5 x6 x7).heap[k]? = w.heap[k]?) ∧ (W8 w b x0 x1 x2 x3 x4 x5 x6 x7).heap.size = w.heap.size := by
  unfold W8
  obtain ⟨u1, hu1⟩ : ∃ u, u = w.setCell ⟨b, 0, none⟩ x0 := ⟨_, rfl⟩
  have h1 : u1.heap[b]? = some (.cells #[x0, y1, y2, y3, y4, y5, y6, y7] t (0, 0)) := by rw [hu1]; exact Go.Joins.block_setCell h x0
  have b1 : Below b w u1 := by rw [hu1]; exact (Below.refl b w).setCell (Nat.le_refl _) _
  have k1 : ∀ k, k ≠ b → u1.heap[k]? = w.heap[k]? := fun k hk => by rw [hu1]; exact (Below.heap_setCell _ _ _ _ hk)
  have z1 : u1.heap.size = w.heap.size := by rw [hu1]; simp
  rw [← hu1]
  clear hu1
  obtain ⟨u2, hu2⟩ : ∃ u, u = u1.setCell ⟨b, 1, none⟩ x1 := ⟨_, rfl⟩
  have h2 : u2.heap[b]? = some (.cells #[x0, x1, y2, y3, y4, y5, y6, y7] t (0, 0)) := by rw [hu2]; exact Go.Joins.block_setCell h1 x1
  have b2 : Below b w u2 := by rw [hu2]; exact b1.setCell (Nat.le_refl _) _
  have k2 : ∀ k, k ≠ b → u2.heap[k]? = w.heap[k]? := fun k hk => by rw [hu2]; exact (Below.heap_setCell _ _ _ _ hk).trans (k1 k hk)
  have z2 : u2.heap.size = w.heap.size := by rw [hu2]; simp; exact z1
  rw [← hu2]
  clear hu2
  obtain ⟨u3, hu3⟩ : ∃ u, u = u2.setCell ⟨b, 2, none⟩ x2 := ⟨_, rfl⟩
  have h3 : u3.heap[b]? = some (.cells #[x0, x1, x2, y3, y4, y5, y6, y7] t (0, 0)) := by rw [hu3]; exact Go.Joins.block_setCell h2 x2
  have b3 : Below b w u3 := by rw [hu3]; exact b2.setCell (Nat.le_refl _) _
  have k3 : ∀ k, k ≠ b → u3.heap[k]? = w.heap[k]? := fun k hk => by rw [hu3]; exact (Below.heap_setCell _ _ _ _ hk).trans (k2 k hk)
  have z3 : u3.heap.size = w.heap.size := by rw [hu3]; simp; exact z2
  rw [← hu3]
  clear hu3
  obtain ⟨u4, hu4⟩ : ∃ u, u = u3.setCell ⟨b, 3, none⟩ x3 := ⟨_, rfl⟩
  have h4 : u4.heap[b]? = some (.cells #[x0, x1, x2, x3, y4, y5, y6, y7] t (0, 0)) := by rw [hu4]; exact Go.Joins.block_setCell h3 x3
  have b4 : Below b w u4 := by rw [hu4]; exact b3.setCell (Nat.le_refl _) _
  have k4 : ∀ k, k ≠ b → u4.heap[k]? = w.heap[k]? := fun k hk => by rw [hu4]; exact (Below.heap_setCell _ _ _ _ hk).trans (k3 k hk)
  have z4 : u4.heap.size = w.heap.size := by rw [hu4]; simp; exact z3
  rw [← hu4]
  clear hu4
  obtain ⟨u5, hu5⟩ : ∃ u, u = u4.setCell ⟨b, 4, none⟩ x4 := ⟨_, rfl⟩
  have h5 : u5.heap[b]? = some (.cells #[x0, x1, x2, x3, x4, y5, y6, y7] t (0, 0)) := by rw [hu5]; exact Go.Joins.block_setCell h4 x4
  have b5 : Below b w u5 := by rw [hu5]; exact b4.setCell (Nat.le_refl _) _
  have k5 : ∀ k, k ≠ b → u5.heap[k]? = w.heap[k]? := fun k hk => by rw [hu5]; exact (Below.heap_setCell _ _ _ _ hk).trans (k4 k hk)
  have z5 : u5.heap.size = w.heap.size := by rw [hu5]; simp; exact z4
  rw [← hu5]
  clear hu5
  obtain ⟨u6, hu6⟩ : ∃ u, u = u5.setCell ⟨b, 5, none⟩ x5 := ⟨_, rfl⟩
  have h6 : u6.heap[b]? = some (.cells #[x0, x1, x2, x3, x4, x5, y6, y7] t (0, 0)) := by rw [hu6]; exact Go.Joins.block_setCell h5 x5
  have b6 : Below b w u6 := by rw [hu6]; exact b5.setCell (Nat.le_refl _) _
  have k6 : ∀ k, k ≠ b → u6.heap[k]? = w.heap[k]? := fun k hk => by rw [hu6]; exact (Below.heap_setCell _ _ _ _ hk).trans (k5 k hk)
  have z6 : u6.heap.size = w.heap.size := by rw [hu6]; simp; exact z5
  rw [← hu6]
  clear hu6
  obtain ⟨u7, hu7⟩ : ∃ u, u = u6.setCell ⟨b, 6, none⟩ x6 := ⟨_, rfl⟩
  have h7 : u7.heap[b]? = some (.cells #[x0, x1, x2, x3, x4, x5, x6, y7] t (0, 0)) := by rw [hu7]; exact Go.Joins.block_setCell h6 x6
  have b7 : Below b w u7 := by rw [hu7]; exact b6.setCell (Nat.le_refl _) _
  have k7 : ∀ k, k ≠ b → u7.heap[k]? = w.heap[k]? := fun k hk => by rw [hu7]; exact (Below.heap_setCell _ _ _ _ hk).trans (k6 k hk)
  have z7 : u7.heap.size = w.heap.size := by rw [hu7]; simp; exact z6
  rw [← hu7]
  clear hu7
  obtain ⟨u8, hu8⟩ : ∃ u, u = u7.setCell ⟨b, 7, none⟩ x7 := ⟨_, rfl⟩
  have h8 : u8.heap[b]? = some (.cells #[x0, x1, x2, x3, x4, x5, x6, x7] t (0, 0)) := by rw [hu8]; exact Go.Joins.block_setCell h7 x7
  have b8 : Below b w u8 := by rw [hu8]; exact b7.setCell (Nat.le_refl _) _
  have k8 : ∀ k, k ≠ b → u8.heap[k]? = w.heap[k]? := fun k hk => by rw [hu8]; exact (Below.heap_setCell _ _ _ _ hk).trans (k7 k hk)
  have z8 : u8.heap.size = w.heap.size := by rw [hu8]; simp; exact z7
  rw [← hu8]
  clear hu8
  exact ⟨h8, b8, k8, z8⟩

end Go.Proofs.Ytpmpbfkpiocleaa

/- A state of the hint machine that came in, opened. No walk in sight. Conditions: none. -/
namespace Go.Proofs.Ytpmpbfkpiocleaa
open Go.RowKit Go.ChangeShapes Go.WideShapes Go.Deep
set_option linter.unusedVariables false
set_option maxRecDepth 100000

end Go.Proofs.Ytpmpbfkpiocleaa

/- Marks in slices of Knot, and whether they are held. Conditions: as each states. -/
namespace Go.Proofs.Ytpmpbfkpiocleaa
open Go.RowKit
set_option linter.unusedVariables false
set_option maxRecDepth 100000

end Go.Proofs.Ytpmpbfkpiocleaa

