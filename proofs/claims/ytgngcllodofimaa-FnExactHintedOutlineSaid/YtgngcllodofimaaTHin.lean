/- A copy of a state of the hint machine, its rows owned. Printed by mk_tho.py. Conditions: as each states. -/
import Derived.Test.YtgngcllodofimaaSt3
namespace Go.Proofs.Ytgngcllodofimaa
open Go.RowKit
set_option linter.unusedVariables false
set_option maxRecDepth 100000

set_option maxHeartbeats 8000000 in
theorem toHinterO_any (d : HinterD) (h : HinterH) (lo hi : Nat) (w : World) (hr : HinterRd w lo hi d h) (hhi : hi ≤ w.heap.size) (hm : h.small 1048576) :
    Calls Try.prog 42 #[hinV d h] w fun e w' => ∃ h' : HinterH, e = .returned (hinV d h') ∧ HinOwn w' w.heap.size d h' ∧ h'.small 1048576 ∧ Below w.heap.size w w' := by
  have hnew := heap_new0 w (.cells #[.int .i64 d.size, .slice h.orig.A h.orig.n h.orig.c, .slice h.now.A h.now.n h.now.c, .slice h.tx.A h.tx.n h.tx.c, .slice h.ty.A h.ty.n h.ty.c, .slice h.ends.A h.ends.n h.ends.c, .slice h.values.A h.values.n h.values.c, .slice h.stack.A h.stack.n h.stack.c, .bool d.axisY, .int .i64 d.ref, .int .i64 d.state, .int .i64 d.cut, .int .i64 d.least] 79 (0, 0)) (.cells #[.int .i64 0, .slice none 0 0, .slice none 0 0, .slice none 0 0, .slice none 0 0, .slice none 0 0, .slice none 0 0, .slice none 0 0, .bool false, .int .i64 0, .int .i64 0, .int .i64 0, .int .i64 0] 65 (0, 0)) (.cells #[.int .i64 d.size, .slice none 0 0, .slice none 0 0, .slice none 0 0, .slice none 0 0, .slice none 0 0, .slice none 0 0, .slice none 0 0, .bool false, .int .i64 0, .int .i64 0, .int .i64 0, .int .i64 0] 65 (0, 0))
  have hB0 : Below w.heap.size w (((w.alloc (.cells #[.int .i64 d.size, .slice h.orig.A h.orig.n h.orig.c, .slice h.now.A h.now.n h.now.c, .slice h.tx.A h.tx.n h.tx.c, .slice h.ty.A h.ty.n h.ty.c, .slice h.ends.A h.ends.n h.ends.c, .slice h.values.A h.values.n h.values.c, .slice h.stack.A h.stack.n h.stack.c, .bool d.axisY, .int .i64 d.ref, .int .i64 d.state, .int .i64 d.cut, .int .i64 d.least] 79 (0, 0))).alloc (.cells #[.int .i64 0, .slice none 0 0, .slice none 0 0, .slice none 0 0, .slice none 0 0, .slice none 0 0, .slice none 0 0, .slice none 0 0, .bool false, .int .i64 0, .int .i64 0, .int .i64 0, .int .i64 0] 65 (0, 0))).alloc (.cells #[.int .i64 d.size, .slice none 0 0, .slice none 0 0, .slice none 0 0, .slice none 0 0, .slice none 0 0, .slice none 0 0, .slice none 0 0, .bool false, .int .i64 0, .int .i64 0, .int .i64 0, .int .i64 0] 65 (0, 0))) := (((Below.refl _ _).alloc (Nat.le_refl _) _).alloc (by simp) _).alloc (by simp <;> omega) _
  have hz0 : (((w.alloc (.cells #[.int .i64 d.size, .slice h.orig.A h.orig.n h.orig.c, .slice h.now.A h.now.n h.now.c, .slice h.tx.A h.tx.n h.tx.c, .slice h.ty.A h.ty.n h.ty.c, .slice h.ends.A h.ends.n h.ends.c, .slice h.values.A h.values.n h.values.c, .slice h.stack.A h.stack.n h.stack.c, .bool d.axisY, .int .i64 d.ref, .int .i64 d.state, .int .i64 d.cut, .int .i64 d.least] 79 (0, 0))).alloc (.cells #[.int .i64 0, .slice none 0 0, .slice none 0 0, .slice none 0 0, .slice none 0 0, .slice none 0 0, .slice none 0 0, .slice none 0 0, .bool false, .int .i64 0, .int .i64 0, .int .i64 0, .int .i64 0] 65 (0, 0))).alloc (.cells #[.int .i64 d.size, .slice none 0 0, .slice none 0 0, .slice none 0 0, .slice none 0 0, .slice none 0 0, .slice none 0 0, .slice none 0 0, .bool false, .int .i64 0, .int .i64 0, .int .i64 0, .int .i64 0] 65 (0, 0))).heap.size = w.heap.size + 3 := by simp
  have hR0 : Hid (Rows (((w.alloc (.cells #[.int .i64 d.size, .slice h.orig.A h.orig.n h.orig.c, .slice h.now.A h.now.n h.now.c, .slice h.tx.A h.tx.n h.tx.c, .slice h.ty.A h.ty.n h.ty.c, .slice h.ends.A h.ends.n h.ends.c, .slice h.values.A h.values.n h.values.c, .slice h.stack.A h.stack.n h.stack.c, .bool d.axisY, .int .i64 d.ref, .int .i64 d.state, .int .i64 d.cut, .int .i64 d.least] 79 (0, 0))).alloc (.cells #[.int .i64 0, .slice none 0 0, .slice none 0 0, .slice none 0 0, .slice none 0 0, .slice none 0 0, .slice none 0 0, .slice none 0 0, .bool false, .int .i64 0, .int .i64 0, .int .i64 0, .int .i64 0] 65 (0, 0))).alloc (.cells #[.int .i64 d.size, .slice none 0 0, .slice none 0 0, .slice none 0 0, .slice none 0 0, .slice none 0 0, .slice none 0 0, .slice none 0 0, .bool false, .int .i64 0, .int .i64 0, .int .i64 0, .int .i64 0] 65 (0, 0))) (w.heap.size + 3) [⟨25, 2, .slice none 0 0, 0, []⟩, ⟨25, 2, .slice none 0 0, 0, []⟩, ⟨4, 1, .slice none 0 0, 0, []⟩, ⟨4, 1, .slice none 0 0, 0, []⟩, ⟨2, 1, .slice none 0 0, 0, []⟩, ⟨2, 1, .slice none 0 0, 0, []⟩, ⟨2, 1, .slice none 0 0, 0, []⟩]) := rows_nil7 _ _ _ _ _ _ _ _ _ _ _ _ _ _ _ _
  have hl : HinLen d h := ⟨hr.1.1, hr.2.1.1, hr.2.2.1.1, hr.2.2.2.1.1, hr.2.2.2.2.1.1, hr.2.2.2.2.2.1.1, hr.2.2.2.2.2.2.1⟩
  replace hl := Lib.hid hl
  obtain ⟨m0, m1, m2, m3, m4, m5, m6⟩ := hm
  replace hr := Lib.hid hr
  go_enter Try.func42, Try.ntmps42
  go_wp2_with fail
  have hlo : w.heap.size + 3 ≤ (((w.alloc (.cells #[.int .i64 d.size, .slice h.orig.A h.orig.n h.orig.c, .slice h.now.A h.now.n h.now.c, .slice h.tx.A h.tx.n h.tx.c, .slice h.ty.A h.ty.n h.ty.c, .slice h.ends.A h.ends.n h.ends.c, .slice h.values.A h.values.n h.values.c, .slice h.stack.A h.stack.n h.stack.c, .bool d.axisY, .int .i64 d.ref, .int .i64 d.state, .int .i64 d.cut, .int .i64 d.least] 79 (0, 0))).alloc (.cells #[.int .i64 0, .slice none 0 0, .slice none 0 0, .slice none 0 0, .slice none 0 0, .slice none 0 0, .slice none 0 0, .slice none 0 0, .bool false, .int .i64 0, .int .i64 0, .int .i64 0, .int .i64 0] 65 (0, 0))).alloc (.cells #[.int .i64 d.size, .slice none 0 0, .slice none 0 0, .slice none 0 0, .slice none 0 0, .slice none 0 0, .slice none 0 0, .slice none 0 0, .bool false, .int .i64 0, .int .i64 0, .int .i64 0, .int .i64 0] 65 (0, 0))).heap.size := Nat.le_of_eq hz0.symm
  generalize hw0 : (((w.alloc (.cells #[.int .i64 d.size, .slice h.orig.A h.orig.n h.orig.c, .slice h.now.A h.now.n h.now.c, .slice h.tx.A h.tx.n h.tx.c, .slice h.ty.A h.ty.n h.ty.c, .slice h.ends.A h.ends.n h.ends.c, .slice h.values.A h.values.n h.values.c, .slice h.stack.A h.stack.n h.stack.c, .bool d.axisY, .int .i64 d.ref, .int .i64 d.state, .int .i64 d.cut, .int .i64 d.least] 79 (0, 0))).alloc (.cells #[.int .i64 0, .slice none 0 0, .slice none 0 0, .slice none 0 0, .slice none 0 0, .slice none 0 0, .slice none 0 0, .slice none 0 0, .bool false, .int .i64 0, .int .i64 0, .int .i64 0, .int .i64 0] 65 (0, 0))).alloc (.cells #[.int .i64 d.size, .slice none 0 0, .slice none 0 0, .slice none 0 0, .slice none 0 0, .slice none 0 0, .slice none 0 0, .slice none 0 0, .bool false, .int .i64 0, .int .i64 0, .int .i64 0, .int .i64 0] 65 (0, 0))) = w0 at *
  clear hw0 hz0
  obtain ⟨HA, HR, HX⟩ := hnew
  replace HA := Lib.hid HA
  replace HR := Lib.hid HR
  replace HX := Lib.hid HX
  refine (toPtS_any h.orig.A h.orig.n h.orig.c lo hi d.orig w0 ((hr.out.frame (Below.sameB hB0 hhi)).1) (by omega) m0).mono ?_
  rintro e w1 ⟨_, rfl, rfl, ho, hb⟩
  have hz1 := hb.size
  have hR0' : Hid (Rows w1 (w.heap.size + 3) [⟨25, 2, .slice (some ⟨w0.heap.size, 0, none⟩) h.orig.n h.orig.n, h.orig.n, d.orig.flatMap ptC⟩, ⟨25, 2, .slice none 0 0, 0, []⟩, ⟨4, 1, .slice none 0 0, 0, []⟩, ⟨4, 1, .slice none 0 0, 0, []⟩, ⟨2, 1, .slice none 0 0, 0, []⟩, ⟨2, 1, .slice none 0 0, 0, []⟩, ⟨2, 1, .slice none 0 0, 0, []⟩]) := by
    have h2 := hR0.out.fresh 0 (r := ⟨25, 2, .slice none 0 0, 0, []⟩) rfl ho (Nat.le_refl _) (by omega) hb
    exact h2
  have hB1 : Below w.heap.size w w1 := hB0.trans (hb.mono (by omega))
  replace HA := Lib.hid ((hb.block w.heap.size (by omega)).trans HA.out)
  replace HR := Lib.hid ((hb.block (w.heap.size + 1) (by omega)).trans HR.out)
  replace HX := Lib.hid ((hb.block (w.heap.size + 2) (by omega)).trans HX.out)
  clear ho hb hR0 hB0
  have hl1 : w.heap.size < w1.heap.size := by omega
  have hl2 : w.heap.size + 1 < w1.heap.size := by omega
  have hl3 : w.heap.size + 2 < w1.heap.size := by omega
  have fx : ∀ o, w1.frozen? ⟨w.heap.size + 2, o, none⟩ = false := Go.Joins.unfrozen_of_block HX.out
  have ca : w1.cell? ⟨w.heap.size, 2, none⟩ = some (.slice h.now.A h.now.n h.now.c) := by rw [Go.Joins.cell_of_block HA.out]; rfl
  have cx : w1.cell? ⟨w.heap.size + 2, 1, none⟩ = some (.slice none 0 0) := by rw [Go.Joins.cell_of_block HX.out]; rfl
  go_wp2_with fail
  clear ca cx fx hl1 hl2 hl3
  have hR1 : Hid (Rows (w1.setCell ⟨w.heap.size + 1 + 1, 1, none⟩ (.slice (some ⟨w0.heap.size, 0, none⟩) h.orig.n h.orig.n)) (w.heap.size + 3) [⟨25, 2, .slice (some ⟨w0.heap.size, 0, none⟩) h.orig.n h.orig.n, h.orig.n, d.orig.flatMap ptC⟩, ⟨25, 2, .slice none 0 0, 0, []⟩, ⟨4, 1, .slice none 0 0, 0, []⟩, ⟨4, 1, .slice none 0 0, 0, []⟩, ⟨2, 1, .slice none 0 0, 0, []⟩, ⟨2, 1, .slice none 0 0, 0, []⟩, ⟨2, 1, .slice none 0 0, 0, []⟩]) := hR0'.out.set (a := ⟨w.heap.size + 2, 1, none⟩) (Nat.lt_succ_self _) _
  have hB2 : Below w.heap.size w (w1.setCell ⟨w.heap.size + 1 + 1, 1, none⟩ (.slice (some ⟨w0.heap.size, 0, none⟩) h.orig.n h.orig.n)) := hB1.setCell (p := ⟨w.heap.size + 2, 1, none⟩) (by simp) _
  have HA2 : Hid ((w1.setCell ⟨w.heap.size + 1 + 1, 1, none⟩ (.slice (some ⟨w0.heap.size, 0, none⟩) h.orig.n h.orig.n)).heap[w.heap.size]? = some (.cells #[.int .i64 d.size, .slice h.orig.A h.orig.n h.orig.c, .slice h.now.A h.now.n h.now.c, .slice h.tx.A h.tx.n h.tx.c, .slice h.ty.A h.ty.n h.ty.c, .slice h.ends.A h.ends.n h.ends.c, .slice h.values.A h.values.n h.values.c, .slice h.stack.A h.stack.n h.stack.c, .bool d.axisY, .int .i64 d.ref, .int .i64 d.state, .int .i64 d.cut, .int .i64 d.least] 79 (0, 0))) := (Below.heap_setCell _ _ _ _ (by simp <;> omega)).trans HA.out
  have HR2 : Hid ((w1.setCell ⟨w.heap.size + 1 + 1, 1, none⟩ (.slice (some ⟨w0.heap.size, 0, none⟩) h.orig.n h.orig.n)).heap[w.heap.size + 1]? = some (.cells #[.int .i64 0, .slice none 0 0, .slice none 0 0, .slice none 0 0, .slice none 0 0, .slice none 0 0, .slice none 0 0, .slice none 0 0, .bool false, .int .i64 0, .int .i64 0, .int .i64 0, .int .i64 0] 65 (0, 0))) := (Below.heap_setCell _ _ _ _ (by simp <;> omega)).trans HR.out
  have HX2 : Hid ((w1.setCell ⟨w.heap.size + 1 + 1, 1, none⟩ (.slice (some ⟨w0.heap.size, 0, none⟩) h.orig.n h.orig.n)).heap[w.heap.size + 2]? = some (.cells #[.int .i64 d.size, .slice (some ⟨w0.heap.size, 0, none⟩) h.orig.n h.orig.n, .slice none 0 0, .slice none 0 0, .slice none 0 0, .slice none 0 0, .slice none 0 0, .slice none 0 0, .bool false, .int .i64 0, .int .i64 0, .int .i64 0, .int .i64 0] 65 (0, 0))) := Go.Joins.block_setCell HX.out _
  have hlo2 : w.heap.size + 3 ≤ (w1.setCell ⟨w.heap.size + 1 + 1, 1, none⟩ (.slice (some ⟨w0.heap.size, 0, none⟩) h.orig.n h.orig.n)).heap.size := by simp; omega
  clear HA HR HX hR0' hB1
  generalize w1.setCell ⟨w.heap.size + 1 + 1, 1, none⟩ (.slice (some ⟨w0.heap.size, 0, none⟩) h.orig.n h.orig.n) = w2 at *
  clear hz1 hlo
  have hlo := hlo2
  clear hlo2
  replace HA := HA2
  replace HR := HR2
  replace HX := HX2
  clear HA2 HR2 HX2
  refine (toPtS_any h.now.A h.now.n h.now.c lo hi d.now w2 ((hr.out.frame (Below.sameB hB2 hhi)).2.1) (by omega) m1).mono ?_
  rintro e w3 ⟨_, rfl, rfl, ho, hb⟩
  have hz3 := hb.size
  have hR1' : Hid (Rows w3 (w.heap.size + 3) [⟨25, 2, .slice (some ⟨w0.heap.size, 0, none⟩) h.orig.n h.orig.n, h.orig.n, d.orig.flatMap ptC⟩, ⟨25, 2, .slice (some ⟨w2.heap.size, 0, none⟩) h.now.n h.now.n, h.now.n, d.now.flatMap ptC⟩, ⟨4, 1, .slice none 0 0, 0, []⟩, ⟨4, 1, .slice none 0 0, 0, []⟩, ⟨2, 1, .slice none 0 0, 0, []⟩, ⟨2, 1, .slice none 0 0, 0, []⟩, ⟨2, 1, .slice none 0 0, 0, []⟩]) := by
    have h2 := hR1.out.fresh 1 (r := ⟨25, 2, .slice none 0 0, 0, []⟩) rfl ho (Nat.le_refl _) (by omega) hb
    exact h2
  have hB3 : Below w.heap.size w w3 := hB2.trans (hb.mono (by omega))
  replace HA := Lib.hid ((hb.block w.heap.size (by omega)).trans HA.out)
  replace HR := Lib.hid ((hb.block (w.heap.size + 1) (by omega)).trans HR.out)
  replace HX := Lib.hid ((hb.block (w.heap.size + 2) (by omega)).trans HX.out)
  clear ho hb hR1 hB2
  have hl1 : w.heap.size < w3.heap.size := by omega
  have hl2 : w.heap.size + 1 < w3.heap.size := by omega
  have hl3 : w.heap.size + 2 < w3.heap.size := by omega
  have fx : ∀ o, w3.frozen? ⟨w.heap.size + 2, o, none⟩ = false := Go.Joins.unfrozen_of_block HX.out
  have ca : w3.cell? ⟨w.heap.size, 3, none⟩ = some (.slice h.tx.A h.tx.n h.tx.c) := by rw [Go.Joins.cell_of_block HA.out]; rfl
  have cx : w3.cell? ⟨w.heap.size + 2, 2, none⟩ = some (.slice none 0 0) := by rw [Go.Joins.cell_of_block HX.out]; rfl
  go_wp2_with fail
  clear ca cx fx hl1 hl2 hl3
  have hR2 : Hid (Rows (w3.setCell ⟨w.heap.size + 1 + 1, 2, none⟩ (.slice (some ⟨w2.heap.size, 0, none⟩) h.now.n h.now.n)) (w.heap.size + 3) [⟨25, 2, .slice (some ⟨w0.heap.size, 0, none⟩) h.orig.n h.orig.n, h.orig.n, d.orig.flatMap ptC⟩, ⟨25, 2, .slice (some ⟨w2.heap.size, 0, none⟩) h.now.n h.now.n, h.now.n, d.now.flatMap ptC⟩, ⟨4, 1, .slice none 0 0, 0, []⟩, ⟨4, 1, .slice none 0 0, 0, []⟩, ⟨2, 1, .slice none 0 0, 0, []⟩, ⟨2, 1, .slice none 0 0, 0, []⟩, ⟨2, 1, .slice none 0 0, 0, []⟩]) := hR1'.out.set (a := ⟨w.heap.size + 2, 2, none⟩) (Nat.lt_succ_self _) _
  have hB4 : Below w.heap.size w (w3.setCell ⟨w.heap.size + 1 + 1, 2, none⟩ (.slice (some ⟨w2.heap.size, 0, none⟩) h.now.n h.now.n)) := hB3.setCell (p := ⟨w.heap.size + 2, 2, none⟩) (by simp) _
  have HA2 : Hid ((w3.setCell ⟨w.heap.size + 1 + 1, 2, none⟩ (.slice (some ⟨w2.heap.size, 0, none⟩) h.now.n h.now.n)).heap[w.heap.size]? = some (.cells #[.int .i64 d.size, .slice h.orig.A h.orig.n h.orig.c, .slice h.now.A h.now.n h.now.c, .slice h.tx.A h.tx.n h.tx.c, .slice h.ty.A h.ty.n h.ty.c, .slice h.ends.A h.ends.n h.ends.c, .slice h.values.A h.values.n h.values.c, .slice h.stack.A h.stack.n h.stack.c, .bool d.axisY, .int .i64 d.ref, .int .i64 d.state, .int .i64 d.cut, .int .i64 d.least] 79 (0, 0))) := (Below.heap_setCell _ _ _ _ (by simp <;> omega)).trans HA.out
  have HR2 : Hid ((w3.setCell ⟨w.heap.size + 1 + 1, 2, none⟩ (.slice (some ⟨w2.heap.size, 0, none⟩) h.now.n h.now.n)).heap[w.heap.size + 1]? = some (.cells #[.int .i64 0, .slice none 0 0, .slice none 0 0, .slice none 0 0, .slice none 0 0, .slice none 0 0, .slice none 0 0, .slice none 0 0, .bool false, .int .i64 0, .int .i64 0, .int .i64 0, .int .i64 0] 65 (0, 0))) := (Below.heap_setCell _ _ _ _ (by simp <;> omega)).trans HR.out
  have HX2 : Hid ((w3.setCell ⟨w.heap.size + 1 + 1, 2, none⟩ (.slice (some ⟨w2.heap.size, 0, none⟩) h.now.n h.now.n)).heap[w.heap.size + 2]? = some (.cells #[.int .i64 d.size, .slice (some ⟨w0.heap.size, 0, none⟩) h.orig.n h.orig.n, .slice (some ⟨w2.heap.size, 0, none⟩) h.now.n h.now.n, .slice none 0 0, .slice none 0 0, .slice none 0 0, .slice none 0 0, .slice none 0 0, .bool false, .int .i64 0, .int .i64 0, .int .i64 0, .int .i64 0] 65 (0, 0))) := Go.Joins.block_setCell HX.out _
  have hlo4 : w.heap.size + 3 ≤ (w3.setCell ⟨w.heap.size + 1 + 1, 2, none⟩ (.slice (some ⟨w2.heap.size, 0, none⟩) h.now.n h.now.n)).heap.size := by simp; omega
  clear HA HR HX hR1' hB3
  generalize w3.setCell ⟨w.heap.size + 1 + 1, 2, none⟩ (.slice (some ⟨w2.heap.size, 0, none⟩) h.now.n h.now.n) = w4 at *
  clear hz3 hlo
  have hlo := hlo4
  clear hlo4
  replace HA := HA2
  replace HR := HR2
  replace HX := HX2
  clear HA2 HR2 HX2
  refine (toBoolS_any h.tx.A h.tx.n h.tx.c lo hi d.tx w4 ((hr.out.frame (Below.sameB hB4 hhi)).2.2.1) (by omega) m2).mono ?_
  rintro e w5 ⟨_, rfl, rfl, ho, hb⟩
  have hz5 := hb.size
  have hR2' : Hid (Rows w5 (w.heap.size + 3) [⟨25, 2, .slice (some ⟨w0.heap.size, 0, none⟩) h.orig.n h.orig.n, h.orig.n, d.orig.flatMap ptC⟩, ⟨25, 2, .slice (some ⟨w2.heap.size, 0, none⟩) h.now.n h.now.n, h.now.n, d.now.flatMap ptC⟩, ⟨4, 1, .slice (some ⟨w4.heap.size, 0, none⟩) h.tx.n h.tx.n, h.tx.n, d.tx.flatMap boolC⟩, ⟨4, 1, .slice none 0 0, 0, []⟩, ⟨2, 1, .slice none 0 0, 0, []⟩, ⟨2, 1, .slice none 0 0, 0, []⟩, ⟨2, 1, .slice none 0 0, 0, []⟩]) := by
    have h2 := hR2.out.fresh 2 (r := ⟨4, 1, .slice none 0 0, 0, []⟩) rfl ho (Nat.le_refl _) (by omega) hb
    exact h2
  have hB5 : Below w.heap.size w w5 := hB4.trans (hb.mono (by omega))
  replace HA := Lib.hid ((hb.block w.heap.size (by omega)).trans HA.out)
  replace HR := Lib.hid ((hb.block (w.heap.size + 1) (by omega)).trans HR.out)
  replace HX := Lib.hid ((hb.block (w.heap.size + 2) (by omega)).trans HX.out)
  clear ho hb hR2 hB4
  have hl1 : w.heap.size < w5.heap.size := by omega
  have hl2 : w.heap.size + 1 < w5.heap.size := by omega
  have hl3 : w.heap.size + 2 < w5.heap.size := by omega
  have fx : ∀ o, w5.frozen? ⟨w.heap.size + 2, o, none⟩ = false := Go.Joins.unfrozen_of_block HX.out
  have ca : w5.cell? ⟨w.heap.size, 4, none⟩ = some (.slice h.ty.A h.ty.n h.ty.c) := by rw [Go.Joins.cell_of_block HA.out]; rfl
  have cx : w5.cell? ⟨w.heap.size + 2, 3, none⟩ = some (.slice none 0 0) := by rw [Go.Joins.cell_of_block HX.out]; rfl
  go_wp2_with fail
  clear ca cx fx hl1 hl2 hl3
  have hR3 : Hid (Rows (w5.setCell ⟨w.heap.size + 1 + 1, 3, none⟩ (.slice (some ⟨w4.heap.size, 0, none⟩) h.tx.n h.tx.n)) (w.heap.size + 3) [⟨25, 2, .slice (some ⟨w0.heap.size, 0, none⟩) h.orig.n h.orig.n, h.orig.n, d.orig.flatMap ptC⟩, ⟨25, 2, .slice (some ⟨w2.heap.size, 0, none⟩) h.now.n h.now.n, h.now.n, d.now.flatMap ptC⟩, ⟨4, 1, .slice (some ⟨w4.heap.size, 0, none⟩) h.tx.n h.tx.n, h.tx.n, d.tx.flatMap boolC⟩, ⟨4, 1, .slice none 0 0, 0, []⟩, ⟨2, 1, .slice none 0 0, 0, []⟩, ⟨2, 1, .slice none 0 0, 0, []⟩, ⟨2, 1, .slice none 0 0, 0, []⟩]) := hR2'.out.set (a := ⟨w.heap.size + 2, 3, none⟩) (Nat.lt_succ_self _) _
  have hB6 : Below w.heap.size w (w5.setCell ⟨w.heap.size + 1 + 1, 3, none⟩ (.slice (some ⟨w4.heap.size, 0, none⟩) h.tx.n h.tx.n)) := hB5.setCell (p := ⟨w.heap.size + 2, 3, none⟩) (by simp) _
  have HA2 : Hid ((w5.setCell ⟨w.heap.size + 1 + 1, 3, none⟩ (.slice (some ⟨w4.heap.size, 0, none⟩) h.tx.n h.tx.n)).heap[w.heap.size]? = some (.cells #[.int .i64 d.size, .slice h.orig.A h.orig.n h.orig.c, .slice h.now.A h.now.n h.now.c, .slice h.tx.A h.tx.n h.tx.c, .slice h.ty.A h.ty.n h.ty.c, .slice h.ends.A h.ends.n h.ends.c, .slice h.values.A h.values.n h.values.c, .slice h.stack.A h.stack.n h.stack.c, .bool d.axisY, .int .i64 d.ref, .int .i64 d.state, .int .i64 d.cut, .int .i64 d.least] 79 (0, 0))) := (Below.heap_setCell _ _ _ _ (by simp <;> omega)).trans HA.out
  have HR2 : Hid ((w5.setCell ⟨w.heap.size + 1 + 1, 3, none⟩ (.slice (some ⟨w4.heap.size, 0, none⟩) h.tx.n h.tx.n)).heap[w.heap.size + 1]? = some (.cells #[.int .i64 0, .slice none 0 0, .slice none 0 0, .slice none 0 0, .slice none 0 0, .slice none 0 0, .slice none 0 0, .slice none 0 0, .bool false, .int .i64 0, .int .i64 0, .int .i64 0, .int .i64 0] 65 (0, 0))) := (Below.heap_setCell _ _ _ _ (by simp <;> omega)).trans HR.out
  have HX2 : Hid ((w5.setCell ⟨w.heap.size + 1 + 1, 3, none⟩ (.slice (some ⟨w4.heap.size, 0, none⟩) h.tx.n h.tx.n)).heap[w.heap.size + 2]? = some (.cells #[.int .i64 d.size, .slice (some ⟨w0.heap.size, 0, none⟩) h.orig.n h.orig.n, .slice (some ⟨w2.heap.size, 0, none⟩) h.now.n h.now.n, .slice (some ⟨w4.heap.size, 0, none⟩) h.tx.n h.tx.n, .slice none 0 0, .slice none 0 0, .slice none 0 0, .slice none 0 0, .bool false, .int .i64 0, .int .i64 0, .int .i64 0, .int .i64 0] 65 (0, 0))) := Go.Joins.block_setCell HX.out _
  have hlo6 : w.heap.size + 3 ≤ (w5.setCell ⟨w.heap.size + 1 + 1, 3, none⟩ (.slice (some ⟨w4.heap.size, 0, none⟩) h.tx.n h.tx.n)).heap.size := by simp; omega
  clear HA HR HX hR2' hB5
  generalize w5.setCell ⟨w.heap.size + 1 + 1, 3, none⟩ (.slice (some ⟨w4.heap.size, 0, none⟩) h.tx.n h.tx.n) = w6 at *
  clear hz5 hlo
  have hlo := hlo6
  clear hlo6
  replace HA := HA2
  replace HR := HR2
  replace HX := HX2
  clear HA2 HR2 HX2
  refine (toBoolS_any h.ty.A h.ty.n h.ty.c lo hi d.ty w6 ((hr.out.frame (Below.sameB hB6 hhi)).2.2.2.1) (by omega) m3).mono ?_
  rintro e w7 ⟨_, rfl, rfl, ho, hb⟩
  have hz7 := hb.size
  have hR3' : Hid (Rows w7 (w.heap.size + 3) [⟨25, 2, .slice (some ⟨w0.heap.size, 0, none⟩) h.orig.n h.orig.n, h.orig.n, d.orig.flatMap ptC⟩, ⟨25, 2, .slice (some ⟨w2.heap.size, 0, none⟩) h.now.n h.now.n, h.now.n, d.now.flatMap ptC⟩, ⟨4, 1, .slice (some ⟨w4.heap.size, 0, none⟩) h.tx.n h.tx.n, h.tx.n, d.tx.flatMap boolC⟩, ⟨4, 1, .slice (some ⟨w6.heap.size, 0, none⟩) h.ty.n h.ty.n, h.ty.n, d.ty.flatMap boolC⟩, ⟨2, 1, .slice none 0 0, 0, []⟩, ⟨2, 1, .slice none 0 0, 0, []⟩, ⟨2, 1, .slice none 0 0, 0, []⟩]) := by
    have h2 := hR3.out.fresh 3 (r := ⟨4, 1, .slice none 0 0, 0, []⟩) rfl ho (Nat.le_refl _) (by omega) hb
    exact h2
  have hB7 : Below w.heap.size w w7 := hB6.trans (hb.mono (by omega))
  replace HA := Lib.hid ((hb.block w.heap.size (by omega)).trans HA.out)
  replace HR := Lib.hid ((hb.block (w.heap.size + 1) (by omega)).trans HR.out)
  replace HX := Lib.hid ((hb.block (w.heap.size + 2) (by omega)).trans HX.out)
  clear ho hb hR3 hB6
  have hl1 : w.heap.size < w7.heap.size := by omega
  have hl2 : w.heap.size + 1 < w7.heap.size := by omega
  have hl3 : w.heap.size + 2 < w7.heap.size := by omega
  have fx : ∀ o, w7.frozen? ⟨w.heap.size + 2, o, none⟩ = false := Go.Joins.unfrozen_of_block HX.out
  have ca : w7.cell? ⟨w.heap.size, 5, none⟩ = some (.slice h.ends.A h.ends.n h.ends.c) := by rw [Go.Joins.cell_of_block HA.out]; rfl
  have cx : w7.cell? ⟨w.heap.size + 2, 4, none⟩ = some (.slice none 0 0) := by rw [Go.Joins.cell_of_block HX.out]; rfl
  go_wp2_with fail
  clear ca cx fx hl1 hl2 hl3
  have hR4 : Hid (Rows (w7.setCell ⟨w.heap.size + 1 + 1, 4, none⟩ (.slice (some ⟨w6.heap.size, 0, none⟩) h.ty.n h.ty.n)) (w.heap.size + 3) [⟨25, 2, .slice (some ⟨w0.heap.size, 0, none⟩) h.orig.n h.orig.n, h.orig.n, d.orig.flatMap ptC⟩, ⟨25, 2, .slice (some ⟨w2.heap.size, 0, none⟩) h.now.n h.now.n, h.now.n, d.now.flatMap ptC⟩, ⟨4, 1, .slice (some ⟨w4.heap.size, 0, none⟩) h.tx.n h.tx.n, h.tx.n, d.tx.flatMap boolC⟩, ⟨4, 1, .slice (some ⟨w6.heap.size, 0, none⟩) h.ty.n h.ty.n, h.ty.n, d.ty.flatMap boolC⟩, ⟨2, 1, .slice none 0 0, 0, []⟩, ⟨2, 1, .slice none 0 0, 0, []⟩, ⟨2, 1, .slice none 0 0, 0, []⟩]) := hR3'.out.set (a := ⟨w.heap.size + 2, 4, none⟩) (Nat.lt_succ_self _) _
  have hB8 : Below w.heap.size w (w7.setCell ⟨w.heap.size + 1 + 1, 4, none⟩ (.slice (some ⟨w6.heap.size, 0, none⟩) h.ty.n h.ty.n)) := hB7.setCell (p := ⟨w.heap.size + 2, 4, none⟩) (by simp) _
  have HA2 : Hid ((w7.setCell ⟨w.heap.size + 1 + 1, 4, none⟩ (.slice (some ⟨w6.heap.size, 0, none⟩) h.ty.n h.ty.n)).heap[w.heap.size]? = some (.cells #[.int .i64 d.size, .slice h.orig.A h.orig.n h.orig.c, .slice h.now.A h.now.n h.now.c, .slice h.tx.A h.tx.n h.tx.c, .slice h.ty.A h.ty.n h.ty.c, .slice h.ends.A h.ends.n h.ends.c, .slice h.values.A h.values.n h.values.c, .slice h.stack.A h.stack.n h.stack.c, .bool d.axisY, .int .i64 d.ref, .int .i64 d.state, .int .i64 d.cut, .int .i64 d.least] 79 (0, 0))) := (Below.heap_setCell _ _ _ _ (by simp <;> omega)).trans HA.out
  have HR2 : Hid ((w7.setCell ⟨w.heap.size + 1 + 1, 4, none⟩ (.slice (some ⟨w6.heap.size, 0, none⟩) h.ty.n h.ty.n)).heap[w.heap.size + 1]? = some (.cells #[.int .i64 0, .slice none 0 0, .slice none 0 0, .slice none 0 0, .slice none 0 0, .slice none 0 0, .slice none 0 0, .slice none 0 0, .bool false, .int .i64 0, .int .i64 0, .int .i64 0, .int .i64 0] 65 (0, 0))) := (Below.heap_setCell _ _ _ _ (by simp <;> omega)).trans HR.out
  have HX2 : Hid ((w7.setCell ⟨w.heap.size + 1 + 1, 4, none⟩ (.slice (some ⟨w6.heap.size, 0, none⟩) h.ty.n h.ty.n)).heap[w.heap.size + 2]? = some (.cells #[.int .i64 d.size, .slice (some ⟨w0.heap.size, 0, none⟩) h.orig.n h.orig.n, .slice (some ⟨w2.heap.size, 0, none⟩) h.now.n h.now.n, .slice (some ⟨w4.heap.size, 0, none⟩) h.tx.n h.tx.n, .slice (some ⟨w6.heap.size, 0, none⟩) h.ty.n h.ty.n, .slice none 0 0, .slice none 0 0, .slice none 0 0, .bool false, .int .i64 0, .int .i64 0, .int .i64 0, .int .i64 0] 65 (0, 0))) := Go.Joins.block_setCell HX.out _
  have hlo8 : w.heap.size + 3 ≤ (w7.setCell ⟨w.heap.size + 1 + 1, 4, none⟩ (.slice (some ⟨w6.heap.size, 0, none⟩) h.ty.n h.ty.n)).heap.size := by simp; omega
  clear HA HR HX hR3' hB7
  generalize w7.setCell ⟨w.heap.size + 1 + 1, 4, none⟩ (.slice (some ⟨w6.heap.size, 0, none⟩) h.ty.n h.ty.n) = w8 at *
  clear hz7 hlo
  have hlo := hlo8
  clear hlo8
  replace HA := HA2
  replace HR := HR2
  replace HX := HX2
  clear HA2 HR2 HX2
  refine (toInt64S_any h.ends.A h.ends.n h.ends.c lo hi d.ends w8 ((hr.out.frame (Below.sameB hB8 hhi)).2.2.2.2.1) (by omega) m4).mono ?_
  rintro e w9 ⟨_, rfl, rfl, ho, hb⟩
  have hz9 := hb.size
  have hR4' : Hid (Rows w9 (w.heap.size + 3) [⟨25, 2, .slice (some ⟨w0.heap.size, 0, none⟩) h.orig.n h.orig.n, h.orig.n, d.orig.flatMap ptC⟩, ⟨25, 2, .slice (some ⟨w2.heap.size, 0, none⟩) h.now.n h.now.n, h.now.n, d.now.flatMap ptC⟩, ⟨4, 1, .slice (some ⟨w4.heap.size, 0, none⟩) h.tx.n h.tx.n, h.tx.n, d.tx.flatMap boolC⟩, ⟨4, 1, .slice (some ⟨w6.heap.size, 0, none⟩) h.ty.n h.ty.n, h.ty.n, d.ty.flatMap boolC⟩, ⟨2, 1, .slice (some ⟨w8.heap.size, 0, none⟩) h.ends.n h.ends.n, h.ends.n, d.ends.flatMap intC⟩, ⟨2, 1, .slice none 0 0, 0, []⟩, ⟨2, 1, .slice none 0 0, 0, []⟩]) := by
    have h2 := hR4.out.fresh 4 (r := ⟨2, 1, .slice none 0 0, 0, []⟩) rfl ho (Nat.le_refl _) (by omega) hb
    exact h2
  have hB9 : Below w.heap.size w w9 := hB8.trans (hb.mono (by omega))
  replace HA := Lib.hid ((hb.block w.heap.size (by omega)).trans HA.out)
  replace HR := Lib.hid ((hb.block (w.heap.size + 1) (by omega)).trans HR.out)
  replace HX := Lib.hid ((hb.block (w.heap.size + 2) (by omega)).trans HX.out)
  clear ho hb hR4 hB8
  have hl1 : w.heap.size < w9.heap.size := by omega
  have hl2 : w.heap.size + 1 < w9.heap.size := by omega
  have hl3 : w.heap.size + 2 < w9.heap.size := by omega
  have fx : ∀ o, w9.frozen? ⟨w.heap.size + 2, o, none⟩ = false := Go.Joins.unfrozen_of_block HX.out
  have ca : w9.cell? ⟨w.heap.size, 6, none⟩ = some (.slice h.values.A h.values.n h.values.c) := by rw [Go.Joins.cell_of_block HA.out]; rfl
  have cx : w9.cell? ⟨w.heap.size + 2, 5, none⟩ = some (.slice none 0 0) := by rw [Go.Joins.cell_of_block HX.out]; rfl
  go_wp2_with fail
  clear ca cx fx hl1 hl2 hl3
  have hR5 : Hid (Rows (w9.setCell ⟨w.heap.size + 1 + 1, 5, none⟩ (.slice (some ⟨w8.heap.size, 0, none⟩) h.ends.n h.ends.n)) (w.heap.size + 3) [⟨25, 2, .slice (some ⟨w0.heap.size, 0, none⟩) h.orig.n h.orig.n, h.orig.n, d.orig.flatMap ptC⟩, ⟨25, 2, .slice (some ⟨w2.heap.size, 0, none⟩) h.now.n h.now.n, h.now.n, d.now.flatMap ptC⟩, ⟨4, 1, .slice (some ⟨w4.heap.size, 0, none⟩) h.tx.n h.tx.n, h.tx.n, d.tx.flatMap boolC⟩, ⟨4, 1, .slice (some ⟨w6.heap.size, 0, none⟩) h.ty.n h.ty.n, h.ty.n, d.ty.flatMap boolC⟩, ⟨2, 1, .slice (some ⟨w8.heap.size, 0, none⟩) h.ends.n h.ends.n, h.ends.n, d.ends.flatMap intC⟩, ⟨2, 1, .slice none 0 0, 0, []⟩, ⟨2, 1, .slice none 0 0, 0, []⟩]) := hR4'.out.set (a := ⟨w.heap.size + 2, 5, none⟩) (Nat.lt_succ_self _) _
  have hB10 : Below w.heap.size w (w9.setCell ⟨w.heap.size + 1 + 1, 5, none⟩ (.slice (some ⟨w8.heap.size, 0, none⟩) h.ends.n h.ends.n)) := hB9.setCell (p := ⟨w.heap.size + 2, 5, none⟩) (by simp) _
  have HA2 : Hid ((w9.setCell ⟨w.heap.size + 1 + 1, 5, none⟩ (.slice (some ⟨w8.heap.size, 0, none⟩) h.ends.n h.ends.n)).heap[w.heap.size]? = some (.cells #[.int .i64 d.size, .slice h.orig.A h.orig.n h.orig.c, .slice h.now.A h.now.n h.now.c, .slice h.tx.A h.tx.n h.tx.c, .slice h.ty.A h.ty.n h.ty.c, .slice h.ends.A h.ends.n h.ends.c, .slice h.values.A h.values.n h.values.c, .slice h.stack.A h.stack.n h.stack.c, .bool d.axisY, .int .i64 d.ref, .int .i64 d.state, .int .i64 d.cut, .int .i64 d.least] 79 (0, 0))) := (Below.heap_setCell _ _ _ _ (by simp <;> omega)).trans HA.out
  have HR2 : Hid ((w9.setCell ⟨w.heap.size + 1 + 1, 5, none⟩ (.slice (some ⟨w8.heap.size, 0, none⟩) h.ends.n h.ends.n)).heap[w.heap.size + 1]? = some (.cells #[.int .i64 0, .slice none 0 0, .slice none 0 0, .slice none 0 0, .slice none 0 0, .slice none 0 0, .slice none 0 0, .slice none 0 0, .bool false, .int .i64 0, .int .i64 0, .int .i64 0, .int .i64 0] 65 (0, 0))) := (Below.heap_setCell _ _ _ _ (by simp <;> omega)).trans HR.out
  have HX2 : Hid ((w9.setCell ⟨w.heap.size + 1 + 1, 5, none⟩ (.slice (some ⟨w8.heap.size, 0, none⟩) h.ends.n h.ends.n)).heap[w.heap.size + 2]? = some (.cells #[.int .i64 d.size, .slice (some ⟨w0.heap.size, 0, none⟩) h.orig.n h.orig.n, .slice (some ⟨w2.heap.size, 0, none⟩) h.now.n h.now.n, .slice (some ⟨w4.heap.size, 0, none⟩) h.tx.n h.tx.n, .slice (some ⟨w6.heap.size, 0, none⟩) h.ty.n h.ty.n, .slice (some ⟨w8.heap.size, 0, none⟩) h.ends.n h.ends.n, .slice none 0 0, .slice none 0 0, .bool false, .int .i64 0, .int .i64 0, .int .i64 0, .int .i64 0] 65 (0, 0))) := Go.Joins.block_setCell HX.out _
  have hlo10 : w.heap.size + 3 ≤ (w9.setCell ⟨w.heap.size + 1 + 1, 5, none⟩ (.slice (some ⟨w8.heap.size, 0, none⟩) h.ends.n h.ends.n)).heap.size := by simp; omega
  clear HA HR HX hR4' hB9
  generalize w9.setCell ⟨w.heap.size + 1 + 1, 5, none⟩ (.slice (some ⟨w8.heap.size, 0, none⟩) h.ends.n h.ends.n) = w10 at *
  clear hz9 hlo
  have hlo := hlo10
  clear hlo10
  replace HA := HA2
  replace HR := HR2
  replace HX := HX2
  clear HA2 HR2 HX2
  refine (toInt64S_any h.values.A h.values.n h.values.c lo hi d.values w10 ((hr.out.frame (Below.sameB hB10 hhi)).2.2.2.2.2.1) (by omega) m5).mono ?_
  rintro e w11 ⟨_, rfl, rfl, ho, hb⟩
  have hz11 := hb.size
  have hR5' : Hid (Rows w11 (w.heap.size + 3) [⟨25, 2, .slice (some ⟨w0.heap.size, 0, none⟩) h.orig.n h.orig.n, h.orig.n, d.orig.flatMap ptC⟩, ⟨25, 2, .slice (some ⟨w2.heap.size, 0, none⟩) h.now.n h.now.n, h.now.n, d.now.flatMap ptC⟩, ⟨4, 1, .slice (some ⟨w4.heap.size, 0, none⟩) h.tx.n h.tx.n, h.tx.n, d.tx.flatMap boolC⟩, ⟨4, 1, .slice (some ⟨w6.heap.size, 0, none⟩) h.ty.n h.ty.n, h.ty.n, d.ty.flatMap boolC⟩, ⟨2, 1, .slice (some ⟨w8.heap.size, 0, none⟩) h.ends.n h.ends.n, h.ends.n, d.ends.flatMap intC⟩, ⟨2, 1, .slice (some ⟨w10.heap.size, 0, none⟩) h.values.n h.values.n, h.values.n, d.values.flatMap intC⟩, ⟨2, 1, .slice none 0 0, 0, []⟩]) := by
    have h2 := hR5.out.fresh 5 (r := ⟨2, 1, .slice none 0 0, 0, []⟩) rfl ho (Nat.le_refl _) (by omega) hb
    exact h2
  have hB11 : Below w.heap.size w w11 := hB10.trans (hb.mono (by omega))
  replace HA := Lib.hid ((hb.block w.heap.size (by omega)).trans HA.out)
  replace HR := Lib.hid ((hb.block (w.heap.size + 1) (by omega)).trans HR.out)
  replace HX := Lib.hid ((hb.block (w.heap.size + 2) (by omega)).trans HX.out)
  clear ho hb hR5 hB10
  have hl1 : w.heap.size < w11.heap.size := by omega
  have hl2 : w.heap.size + 1 < w11.heap.size := by omega
  have hl3 : w.heap.size + 2 < w11.heap.size := by omega
  have fx : ∀ o, w11.frozen? ⟨w.heap.size + 2, o, none⟩ = false := Go.Joins.unfrozen_of_block HX.out
  have ca : w11.cell? ⟨w.heap.size, 7, none⟩ = some (.slice h.stack.A h.stack.n h.stack.c) := by rw [Go.Joins.cell_of_block HA.out]; rfl
  have cx : w11.cell? ⟨w.heap.size + 2, 6, none⟩ = some (.slice none 0 0) := by rw [Go.Joins.cell_of_block HX.out]; rfl
  go_wp2_with fail
  clear ca cx fx hl1 hl2 hl3
  have hR6 : Hid (Rows (w11.setCell ⟨w.heap.size + 1 + 1, 6, none⟩ (.slice (some ⟨w10.heap.size, 0, none⟩) h.values.n h.values.n)) (w.heap.size + 3) [⟨25, 2, .slice (some ⟨w0.heap.size, 0, none⟩) h.orig.n h.orig.n, h.orig.n, d.orig.flatMap ptC⟩, ⟨25, 2, .slice (some ⟨w2.heap.size, 0, none⟩) h.now.n h.now.n, h.now.n, d.now.flatMap ptC⟩, ⟨4, 1, .slice (some ⟨w4.heap.size, 0, none⟩) h.tx.n h.tx.n, h.tx.n, d.tx.flatMap boolC⟩, ⟨4, 1, .slice (some ⟨w6.heap.size, 0, none⟩) h.ty.n h.ty.n, h.ty.n, d.ty.flatMap boolC⟩, ⟨2, 1, .slice (some ⟨w8.heap.size, 0, none⟩) h.ends.n h.ends.n, h.ends.n, d.ends.flatMap intC⟩, ⟨2, 1, .slice (some ⟨w10.heap.size, 0, none⟩) h.values.n h.values.n, h.values.n, d.values.flatMap intC⟩, ⟨2, 1, .slice none 0 0, 0, []⟩]) := hR5'.out.set (a := ⟨w.heap.size + 2, 6, none⟩) (Nat.lt_succ_self _) _
  have hB12 : Below w.heap.size w (w11.setCell ⟨w.heap.size + 1 + 1, 6, none⟩ (.slice (some ⟨w10.heap.size, 0, none⟩) h.values.n h.values.n)) := hB11.setCell (p := ⟨w.heap.size + 2, 6, none⟩) (by simp) _
  have HA2 : Hid ((w11.setCell ⟨w.heap.size + 1 + 1, 6, none⟩ (.slice (some ⟨w10.heap.size, 0, none⟩) h.values.n h.values.n)).heap[w.heap.size]? = some (.cells #[.int .i64 d.size, .slice h.orig.A h.orig.n h.orig.c, .slice h.now.A h.now.n h.now.c, .slice h.tx.A h.tx.n h.tx.c, .slice h.ty.A h.ty.n h.ty.c, .slice h.ends.A h.ends.n h.ends.c, .slice h.values.A h.values.n h.values.c, .slice h.stack.A h.stack.n h.stack.c, .bool d.axisY, .int .i64 d.ref, .int .i64 d.state, .int .i64 d.cut, .int .i64 d.least] 79 (0, 0))) := (Below.heap_setCell _ _ _ _ (by simp <;> omega)).trans HA.out
  have HR2 : Hid ((w11.setCell ⟨w.heap.size + 1 + 1, 6, none⟩ (.slice (some ⟨w10.heap.size, 0, none⟩) h.values.n h.values.n)).heap[w.heap.size + 1]? = some (.cells #[.int .i64 0, .slice none 0 0, .slice none 0 0, .slice none 0 0, .slice none 0 0, .slice none 0 0, .slice none 0 0, .slice none 0 0, .bool false, .int .i64 0, .int .i64 0, .int .i64 0, .int .i64 0] 65 (0, 0))) := (Below.heap_setCell _ _ _ _ (by simp <;> omega)).trans HR.out
  have HX2 : Hid ((w11.setCell ⟨w.heap.size + 1 + 1, 6, none⟩ (.slice (some ⟨w10.heap.size, 0, none⟩) h.values.n h.values.n)).heap[w.heap.size + 2]? = some (.cells #[.int .i64 d.size, .slice (some ⟨w0.heap.size, 0, none⟩) h.orig.n h.orig.n, .slice (some ⟨w2.heap.size, 0, none⟩) h.now.n h.now.n, .slice (some ⟨w4.heap.size, 0, none⟩) h.tx.n h.tx.n, .slice (some ⟨w6.heap.size, 0, none⟩) h.ty.n h.ty.n, .slice (some ⟨w8.heap.size, 0, none⟩) h.ends.n h.ends.n, .slice (some ⟨w10.heap.size, 0, none⟩) h.values.n h.values.n, .slice none 0 0, .bool false, .int .i64 0, .int .i64 0, .int .i64 0, .int .i64 0] 65 (0, 0))) := Go.Joins.block_setCell HX.out _
  have hlo12 : w.heap.size + 3 ≤ (w11.setCell ⟨w.heap.size + 1 + 1, 6, none⟩ (.slice (some ⟨w10.heap.size, 0, none⟩) h.values.n h.values.n)).heap.size := by simp; omega
  clear HA HR HX hR5' hB11
  generalize w11.setCell ⟨w.heap.size + 1 + 1, 6, none⟩ (.slice (some ⟨w10.heap.size, 0, none⟩) h.values.n h.values.n) = w12 at *
  clear hz11 hlo
  have hlo := hlo12
  clear hlo12
  replace HA := HA2
  replace HR := HR2
  replace HX := HX2
  clear HA2 HR2 HX2
  refine (toInt64S_any h.stack.A h.stack.n h.stack.c lo hi d.stack w12 ((hr.out.frame (Below.sameB hB12 hhi)).2.2.2.2.2.2) (by omega) m6).mono ?_
  rintro e w13 ⟨_, rfl, rfl, ho, hb⟩
  have hz13 := hb.size
  have hR6' : Hid (Rows w13 (w.heap.size + 3) [⟨25, 2, .slice (some ⟨w0.heap.size, 0, none⟩) h.orig.n h.orig.n, h.orig.n, d.orig.flatMap ptC⟩, ⟨25, 2, .slice (some ⟨w2.heap.size, 0, none⟩) h.now.n h.now.n, h.now.n, d.now.flatMap ptC⟩, ⟨4, 1, .slice (some ⟨w4.heap.size, 0, none⟩) h.tx.n h.tx.n, h.tx.n, d.tx.flatMap boolC⟩, ⟨4, 1, .slice (some ⟨w6.heap.size, 0, none⟩) h.ty.n h.ty.n, h.ty.n, d.ty.flatMap boolC⟩, ⟨2, 1, .slice (some ⟨w8.heap.size, 0, none⟩) h.ends.n h.ends.n, h.ends.n, d.ends.flatMap intC⟩, ⟨2, 1, .slice (some ⟨w10.heap.size, 0, none⟩) h.values.n h.values.n, h.values.n, d.values.flatMap intC⟩, ⟨2, 1, .slice (some ⟨w12.heap.size, 0, none⟩) h.stack.n h.stack.n, h.stack.n, d.stack.flatMap intC⟩]) := by
    have h2 := hR6.out.fresh 6 (r := ⟨2, 1, .slice none 0 0, 0, []⟩) rfl ho (Nat.le_refl _) (by omega) hb
    exact h2
  have hB13 : Below w.heap.size w w13 := hB12.trans (hb.mono (by omega))
  replace HA := Lib.hid ((hb.block w.heap.size (by omega)).trans HA.out)
  replace HR := Lib.hid ((hb.block (w.heap.size + 1) (by omega)).trans HR.out)
  replace HX := Lib.hid ((hb.block (w.heap.size + 2) (by omega)).trans HX.out)
  clear ho hb hR6 hB12
  have hl1 : w.heap.size < w13.heap.size := by omega
  have hl2 : w.heap.size + 1 < w13.heap.size := by omega
  have hl3 : w.heap.size + 2 < w13.heap.size := by omega
  have fx : ∀ o, w13.frozen? ⟨w.heap.size + 2, o, none⟩ = false := Go.Joins.unfrozen_of_block HX.out
  have ca8 : w13.cell? ⟨w.heap.size, 8, none⟩ = some (.bool d.axisY) := by rw [Go.Joins.cell_of_block HA.out]; rfl
  have ca9 : w13.cell? ⟨w.heap.size, 9, none⟩ = some (.int .i64 d.ref) := by rw [Go.Joins.cell_of_block HA.out]; rfl
  have ca10 : w13.cell? ⟨w.heap.size, 10, none⟩ = some (.int .i64 d.state) := by rw [Go.Joins.cell_of_block HA.out]; rfl
  have ca11 : w13.cell? ⟨w.heap.size, 11, none⟩ = some (.int .i64 d.cut) := by rw [Go.Joins.cell_of_block HA.out]; rfl
  have ca12 : w13.cell? ⟨w.heap.size, 12, none⟩ = some (.int .i64 d.least) := by rw [Go.Joins.cell_of_block HA.out]; rfl
  have cx0 : w13.cell? ⟨w.heap.size + 2, 0, none⟩ = some (.int .i64 d.size) := by rw [Go.Joins.cell_of_block HX.out]; rfl
  have cx1 : w13.cell? ⟨w.heap.size + 2, 1, none⟩ = some (.slice (some ⟨w0.heap.size, 0, none⟩) h.orig.n h.orig.n) := by rw [Go.Joins.cell_of_block HX.out]; rfl
  have cx2 : w13.cell? ⟨w.heap.size + 2, 2, none⟩ = some (.slice (some ⟨w2.heap.size, 0, none⟩) h.now.n h.now.n) := by rw [Go.Joins.cell_of_block HX.out]; rfl
  have cx3 : w13.cell? ⟨w.heap.size + 2, 3, none⟩ = some (.slice (some ⟨w4.heap.size, 0, none⟩) h.tx.n h.tx.n) := by rw [Go.Joins.cell_of_block HX.out]; rfl
  have cx4 : w13.cell? ⟨w.heap.size + 2, 4, none⟩ = some (.slice (some ⟨w6.heap.size, 0, none⟩) h.ty.n h.ty.n) := by rw [Go.Joins.cell_of_block HX.out]; rfl
  have cx5 : w13.cell? ⟨w.heap.size + 2, 5, none⟩ = some (.slice (some ⟨w8.heap.size, 0, none⟩) h.ends.n h.ends.n) := by rw [Go.Joins.cell_of_block HX.out]; rfl
  have cx6 : w13.cell? ⟨w.heap.size + 2, 6, none⟩ = some (.slice (some ⟨w10.heap.size, 0, none⟩) h.values.n h.values.n) := by rw [Go.Joins.cell_of_block HX.out]; rfl
  have cx7 : w13.cell? ⟨w.heap.size + 2, 7, none⟩ = some (.slice none 0 0) := by rw [Go.Joins.cell_of_block HX.out]; rfl
  have cx8 : w13.cell? ⟨w.heap.size + 2, 8, none⟩ = some (.bool false) := by rw [Go.Joins.cell_of_block HX.out]; rfl
  have cx9 : w13.cell? ⟨w.heap.size + 2, 9, none⟩ = some (.int .i64 0) := by rw [Go.Joins.cell_of_block HX.out]; rfl
  have cx10 : w13.cell? ⟨w.heap.size + 2, 10, none⟩ = some (.int .i64 0) := by rw [Go.Joins.cell_of_block HX.out]; rfl
  have cx11 : w13.cell? ⟨w.heap.size + 2, 11, none⟩ = some (.int .i64 0) := by rw [Go.Joins.cell_of_block HX.out]; rfl
  have cx12 : w13.cell? ⟨w.heap.size + 2, 12, none⟩ = some (.int .i64 0) := by rw [Go.Joins.cell_of_block HX.out]; rfl
  have cr0 : w13.cell? ⟨w.heap.size + 1, 0, none⟩ = some (.int .i64 0) := by rw [Go.Joins.cell_of_block HR.out]; rfl
  have cr1 : w13.cell? ⟨w.heap.size + 1, 1, none⟩ = some (.slice none 0 0) := by rw [Go.Joins.cell_of_block HR.out]; rfl
  have cr2 : w13.cell? ⟨w.heap.size + 1, 2, none⟩ = some (.slice none 0 0) := by rw [Go.Joins.cell_of_block HR.out]; rfl
  have cr3 : w13.cell? ⟨w.heap.size + 1, 3, none⟩ = some (.slice none 0 0) := by rw [Go.Joins.cell_of_block HR.out]; rfl
  have cr4 : w13.cell? ⟨w.heap.size + 1, 4, none⟩ = some (.slice none 0 0) := by rw [Go.Joins.cell_of_block HR.out]; rfl
  have cr5 : w13.cell? ⟨w.heap.size + 1, 5, none⟩ = some (.slice none 0 0) := by rw [Go.Joins.cell_of_block HR.out]; rfl
  have cr6 : w13.cell? ⟨w.heap.size + 1, 6, none⟩ = some (.slice none 0 0) := by rw [Go.Joins.cell_of_block HR.out]; rfl
  have cr7 : w13.cell? ⟨w.heap.size + 1, 7, none⟩ = some (.slice none 0 0) := by rw [Go.Joins.cell_of_block HR.out]; rfl
  have cr8 : w13.cell? ⟨w.heap.size + 1, 8, none⟩ = some (.bool false) := by rw [Go.Joins.cell_of_block HR.out]; rfl
  have cr9 : w13.cell? ⟨w.heap.size + 1, 9, none⟩ = some (.int .i64 0) := by rw [Go.Joins.cell_of_block HR.out]; rfl
  have cr10 : w13.cell? ⟨w.heap.size + 1, 10, none⟩ = some (.int .i64 0) := by rw [Go.Joins.cell_of_block HR.out]; rfl
  have cr11 : w13.cell? ⟨w.heap.size + 1, 11, none⟩ = some (.int .i64 0) := by rw [Go.Joins.cell_of_block HR.out]; rfl
  have cr12 : w13.cell? ⟨w.heap.size + 1, 12, none⟩ = some (.int .i64 0) := by rw [Go.Joins.cell_of_block HR.out]; rfl
  have fr : ∀ o, w13.frozen? ⟨w.heap.size + 1, o, none⟩ = false := Go.Joins.unfrozen_of_block HR.out
  go_wp2_with fail
  obtain ⟨l0, l1, l2, l3, l4, l5, l6⟩ := hl.out
  refine bodyPost_ret (v := hinV d ⟨⟨some ⟨w0.heap.size, 0, none⟩, h.orig.n, h.orig.n⟩, ⟨some ⟨w2.heap.size, 0, none⟩, h.now.n, h.now.n⟩, ⟨some ⟨w4.heap.size, 0, none⟩, h.tx.n, h.tx.n⟩, ⟨some ⟨w6.heap.size, 0, none⟩, h.ty.n, h.ty.n⟩, ⟨some ⟨w8.heap.size, 0, none⟩, h.ends.n, h.ends.n⟩, ⟨some ⟨w10.heap.size, 0, none⟩, h.values.n, h.values.n⟩, ⟨some ⟨w12.heap.size, 0, none⟩, h.stack.n, h.stack.n⟩⟩) (by simp [results, Try.results42, go_sem, cr0, cr1, cr2, cr3, cr4, cr5, cr6, cr7, cr8, cr9, cr10, cr11, cr12]) rfl ⟨⟨⟨some ⟨w0.heap.size, 0, none⟩, h.orig.n, h.orig.n⟩, ⟨some ⟨w2.heap.size, 0, none⟩, h.now.n, h.now.n⟩, ⟨some ⟨w4.heap.size, 0, none⟩, h.tx.n, h.tx.n⟩, ⟨some ⟨w6.heap.size, 0, none⟩, h.ty.n, h.ty.n⟩, ⟨some ⟨w8.heap.size, 0, none⟩, h.ends.n, h.ends.n⟩, ⟨some ⟨w10.heap.size, 0, none⟩, h.values.n, h.values.n⟩, ⟨some ⟨w12.heap.size, 0, none⟩, h.stack.n, h.stack.n⟩⟩, rfl, ⟨Rows.lower (lo := w.heap.size + 3) ?_ (by omega), ⟨l0, l1, l2, l3, l4, l5, l6⟩⟩, ⟨m0, m1, m2, m3, m4, m5, m6⟩, ?_⟩
  · exact rows13 ((((((((((((hR6'.out).set (a := ⟨w.heap.size + 1 + 1, 7, none⟩) (show w.heap.size + 1 + 1 < w.heap.size + 3 by omega) _)).set (a := ⟨w.heap.size + 1 + 1, 8, none⟩) (show w.heap.size + 1 + 1 < w.heap.size + 3 by omega) _)).set (a := ⟨w.heap.size + 1 + 1, 9, none⟩) (show w.heap.size + 1 + 1 < w.heap.size + 3 by omega) _)).set (a := ⟨w.heap.size + 1 + 1, 10, none⟩) (show w.heap.size + 1 + 1 < w.heap.size + 3 by omega) _)).set (a := ⟨w.heap.size + 1 + 1, 11, none⟩) (show w.heap.size + 1 + 1 < w.heap.size + 3 by omega) _)).set (a := ⟨w.heap.size + 1 + 1, 12, none⟩) (show w.heap.size + 1 + 1 < w.heap.size + 3 by omega) _) (show w.heap.size + 1 < w.heap.size + 3 by omega) _ _ _ _ _ _ _ _ _ _ _ _ _
  · exact below13 ((((((hB13.setCell (p := ⟨w.heap.size + 1 + 1, 7, none⟩) (show w.heap.size ≤ w.heap.size + 1 + 1 by omega) _).setCell (p := ⟨w.heap.size + 1 + 1, 8, none⟩) (show w.heap.size ≤ w.heap.size + 1 + 1 by omega) _).setCell (p := ⟨w.heap.size + 1 + 1, 9, none⟩) (show w.heap.size ≤ w.heap.size + 1 + 1 by omega) _).setCell (p := ⟨w.heap.size + 1 + 1, 10, none⟩) (show w.heap.size ≤ w.heap.size + 1 + 1 by omega) _).setCell (p := ⟨w.heap.size + 1 + 1, 11, none⟩) (show w.heap.size ≤ w.heap.size + 1 + 1 by omega) _).setCell (p := ⟨w.heap.size + 1 + 1, 12, none⟩) (show w.heap.size ≤ w.heap.size + 1 + 1 by omega) _) (show w.heap.size ≤ w.heap.size + 1 by omega) _ _ _ _ _ _ _ _ _ _ _ _ _
end Go.Proofs.Ytgngcllodofimaa
