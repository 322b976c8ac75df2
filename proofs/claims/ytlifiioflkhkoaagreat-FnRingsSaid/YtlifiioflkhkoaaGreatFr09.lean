/- The law on PathWithin. Conditions: as each states. -/
import Derived.Test.YtlifiioflkhkoaaGreatFr05
import Derived.Test.YtlifiioflkhkoaaGreatFr08
namespace Go.Proofs.YtlifiioflkhkoaaGreat
open Go.RowKit
set_option linter.unusedVariables false
set_option maxRecDepth 100000

end Go.Proofs.YtlifiioflkhkoaaGreat

/- A curve near a path, both sides. Conditions: as each states. -/
namespace Go.Proofs.YtlifiioflkhkoaaGreat
open Go.RowKit
set_option linter.unusedVariables false
set_option maxRecDepth 100000

abbrev Eight (w : World) (b o0 o1 o2 o3 : Nat) (x0 y0 x1 y1 x2 y2 x3 y3 : Int) : Prop := w.cell? ⟨b, o0, none⟩ = some (.int .i64 x0) ∧ w.cell? ⟨b, o0 + 1, none⟩ = some (.int .i64 y0) ∧ w.cell? ⟨b, o1, none⟩ = some (.int .i64 x1) ∧ w.cell? ⟨b, o1 + 1, none⟩ = some (.int .i64 y1) ∧ w.cell? ⟨b, o2, none⟩ = some (.int .i64 x2) ∧ w.cell? ⟨b, o2 + 1, none⟩ = some (.int .i64 y2) ∧ w.cell? ⟨b, o3, none⟩ = some (.int .i64 x3) ∧ w.cell? ⟨b, o3 + 1, none⟩ = some (.int .i64 y3)
theorem Eight.below {w w' : World} {b o0 o1 o2 o3 : Nat} {x0 y0 x1 y1 x2 y2 x3 y3 : Int} (h : Eight w b o0 o1 o2 o3 x0 y0 x1 y1 x2 y2 x3 y3) {B : Nat} (hb : Below B w w') (hl : b < B) : Eight w' b o0 o1 o2 o3 x0 y0 x1 y1 x2 y2 x3 y3 := by
  obtain ⟨h0, h1, h2, h3, h4, h5, h6, h7⟩ := h
  exact ⟨(hb.cell (p := ⟨b, _, none⟩) hl).trans h0, (hb.cell (p := ⟨b, _, none⟩) hl).trans h1, (hb.cell (p := ⟨b, _, none⟩) hl).trans h2, (hb.cell (p := ⟨b, _, none⟩) hl).trans h3, (hb.cell (p := ⟨b, _, none⟩) hl).trans h4, (hb.cell (p := ⟨b, _, none⟩) hl).trans h5, (hb.cell (p := ⟨b, _, none⟩) hl).trans h6, (hb.cell (p := ⟨b, _, none⟩) hl).trans h7⟩
theorem Eight.set {w : World} {b o0 o1 o2 o3 : Nat} {x0 y0 x1 y1 x2 y2 x3 y3 : Int} (h : Eight w b o0 o1 o2 o3 x0 y0 x1 y1 x2 y2 x3 y3) {x o : Nat} {v : Value} (hx : b ≠ x) : Eight (w.setCell ⟨x, o, none⟩ v) b o0 o1 o2 o3 x0 y0 x1 y1 x2 y2 x3 y3 := by
  obtain ⟨h0, h1, h2, h3, h4, h5, h6, h7⟩ := h
  have g : ∀ k, (w.setCell ⟨x, o, none⟩ v).cell? ⟨b, k, none⟩ = w.cell? ⟨b, k, none⟩ := fun k => World.cell?_of_block (Below.heap_setCell w ⟨x, o, none⟩ v b hx)
  exact ⟨(g _).trans h0, (g _).trans h1, (g _).trans h2, (g _).trans h3, (g _).trans h4, (g _).trans h5, (g _).trans h6, (g _).trans h7⟩
abbrev Six2 (w : World) (b o0 o2 X : Nat) (x0 y0 x2 y2 px py : Int) : Prop := w.cell? ⟨b, o0, none⟩ = some (.int .i64 x0) ∧ w.cell? ⟨b, o0 + 1, none⟩ = some (.int .i64 y0) ∧ w.cell? ⟨b, o2, none⟩ = some (.int .i64 x2) ∧ w.cell? ⟨b, o2 + 1, none⟩ = some (.int .i64 y2) ∧ w.cell? ⟨X, 0, none⟩ = some (.int .i64 px) ∧ w.cell? ⟨X, 1, none⟩ = some (.int .i64 py)
theorem Six2.alloc {w : World} {b o0 o2 X : Nat} {x0 y0 x2 y2 px py : Int} (h : Six2 w b o0 o2 X x0 y0 x2 y2 px py) (hb : b < w.heap.size) (hX : X < w.heap.size) {o : Obj} : Six2 (w.alloc o) b o0 o2 X x0 y0 x2 y2 px py := by
  obtain ⟨h0, h1, h2, h3, h4, h5⟩ := h
  exact ⟨(World.cell?_alloc_lt _ _ _ hb).trans h0, (World.cell?_alloc_lt _ _ _ hb).trans h1, (World.cell?_alloc_lt _ _ _ hb).trans h2, (World.cell?_alloc_lt _ _ _ hb).trans h3, (World.cell?_alloc_lt _ _ _ hX).trans h4, (World.cell?_alloc_lt _ _ _ hX).trans h5⟩

end Go.Proofs.YtlifiioflkhkoaaGreat

