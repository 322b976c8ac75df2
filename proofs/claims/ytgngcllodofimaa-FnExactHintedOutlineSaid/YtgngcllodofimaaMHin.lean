/- Marks in a state of the hint machine, and whether they are held. Printed by mk_mhin.py. Conditions: as each states. -/
import Derived.Test.YtgngcllodofimaaSt3
import Derived.Test.YtgngcllodofimaaMPt
import Derived.Test.YtgngcllodofimaaMBool
import Derived.Test.YtgngcllodofimaaMInt64
namespace Go.Proofs.Ytgngcllodofimaa
open Go.RowKit
set_option linter.unusedVariables false
set_option maxRecDepth 100000

/-- the state with marks from m on in its rows -/
def mkHin (m : Int) (d : HinterD) (h : HinterH) : HinterD := { d with orig := mkPt (m) h.orig.n, now := mkPt (m + 2 * (h.orig.n : Int)) h.now.n, tx := mkBool (m + 2 * (h.orig.n : Int) + 2 * (h.now.n : Int)) h.tx.n, ty := mkBool (m + 2 * (h.orig.n : Int) + 2 * (h.now.n : Int) + (h.tx.n : Int)) h.ty.n, ends := mkInt64 (m + 2 * (h.orig.n : Int) + 2 * (h.now.n : Int) + (h.tx.n : Int) + (h.ty.n : Int)) h.ends.n, values := mkInt64 (m + 2 * (h.orig.n : Int) + 2 * (h.now.n : Int) + (h.tx.n : Int) + (h.ty.n : Int) + (h.ends.n : Int)) h.values.n, stack := mkInt64 (m + 2 * (h.orig.n : Int) + 2 * (h.now.n : Int) + (h.tx.n : Int) + (h.ty.n : Int) + (h.ends.n : Int) + (h.values.n : Int)) h.stack.n }
def hinN (h : HinterH) : Int := 2 * (h.orig.n : Int) + 2 * (h.now.n : Int) + (h.tx.n : Int) + (h.ty.n : Int) + (h.ends.n : Int) + (h.values.n : Int) + (h.stack.n : Int)
theorem mkHin_len (m : Int) (d : HinterD) (h : HinterH) : HinLen (mkHin m d h) h := ⟨mkPt_length _ _, mkPt_length _ _, mkBool_length _ _, mkBool_length _ _, mkInt64_length _ _, mkInt64_length _ _, mkInt64_length _ _⟩
/-- only blocks from lo to hi have changed, and none is new -/
structure MkH (lo hi : Nat) (w w' : World) : Prop where
  bel : Below lo w w'
  sam : SameB hi w.heap.size w w'
  size : w'.heap.size = w.heap.size
theorem MkH.refl (lo hi : Nat) (w : World) : MkH lo hi w w := ⟨Below.refl _ _, SameB.refl _ _ _, rfl⟩
theorem MkH.step {lo hi : Nat} {w w1 w2 : World} {v : Value} (h : MkH lo hi w w1) (hg : w1.grownBy w2 v.ownBlock) (hz : w2.heap.size = w1.heap.size) (hv : ∀ g, v.ownBlock = some g → lo ≤ g ∧ g < hi) : MkH lo hi w w2 := by
  refine ⟨h.bel.trans ⟨hg.os, hg.tape, hg.output, hg.size, fun b hb => ?_⟩, fun b h1 h2 => ?_, hz.trans h.size⟩
  · rcases Nat.lt_or_ge b w1.heap.size with hlt | hge
    · exact hg.block b hlt fun e => by have := (hv b e.symm).1; omega
    · rw [Array.getElem?_eq_none (by omega), Array.getElem?_eq_none (by omega)]
  · have := h.size
    exact (hg.block b (by omega) fun e => by have := (hv b e.symm).2; omega).trans (h.sam b h1 h2)
theorem own_le {w : World} {lo e size n c : Nat} {A : Option Addr} {xs : List Value} (h : w.ownsRow lo e size (.slice A n c) n xs) {g : Nat} (hg : (Value.slice A n c).ownBlock = some g) : lo ≤ g := (h.lt g hg).1

def HinHi (hi : Nat) (h : HinterH) : Prop := (∀ g, (Value.slice h.orig.A h.orig.n h.orig.c).ownBlock = some g → g < hi) ∧ (∀ g, (Value.slice h.now.A h.now.n h.now.c).ownBlock = some g → g < hi) ∧ (∀ g, (Value.slice h.tx.A h.tx.n h.tx.c).ownBlock = some g → g < hi) ∧ (∀ g, (Value.slice h.ty.A h.ty.n h.ty.c).ownBlock = some g → g < hi) ∧ (∀ g, (Value.slice h.ends.A h.ends.n h.ends.c).ownBlock = some g → g < hi) ∧ (∀ g, (Value.slice h.values.A h.values.n h.values.c).ownBlock = some g → g < hi) ∧ (∀ g, (Value.slice h.stack.A h.stack.n h.stack.c).ownBlock = some g → g < hi)
theorem HinOwn.hi {w : World} {lo : Nat} {d : HinterD} {h : HinterH} (r : HinOwn w lo d h) : HinHi w.heap.size h := ⟨fun g hg => ((r.1.own 0 rfl).lt g hg).2, fun g hg => ((r.1.own 1 rfl).lt g hg).2, fun g hg => ((r.1.own 2 rfl).lt g hg).2, fun g hg => ((r.1.own 3 rfl).lt g hg).2, fun g hg => ((r.1.own 4 rfl).lt g hg).2, fun g hg => ((r.1.own 5 rfl).lt g hg).2, fun g hg => ((r.1.own 6 rfl).lt g hg).2⟩


set_option maxHeartbeats 4000000 in
theorem markHinter_any (d : HinterD) (h : HinterH) (lo hi : Nat) (m : Int) (w : World) (hr : HinOwn w lo d h) (hh : HinHi hi h) (hlw : lo ≤ w.heap.size) (hhi : hi ≤ w.heap.size) (hm : h.small 1048576) (h0 : 0 ≤ m) (h1 : m ≤ 10000000) :
    Calls Try.prog 38 #[hinV d h, .int .i64 m] w fun e w' => e = .returned (.int .i64 (m + hinN h)) ∧ HinOwn w' lo (mkHin m d h) h ∧ Below lo w w' ∧ SameB hi w.heap.size w w' ∧ w.heap.size ≤ w'.heap.size := by
  obtain ⟨r, hl⟩ := hr
  obtain ⟨m0, m1, m2, m3, m4, m5, m6⟩ := hm
  obtain ⟨i0, i1, i2, i3, i4, i5, i6⟩ := hh
  have hlo : ∀ g, ((Value.slice h.orig.A h.orig.n h.orig.c).ownBlock = some g ∨ (Value.slice h.now.A h.now.n h.now.c).ownBlock = some g ∨ (Value.slice h.tx.A h.tx.n h.tx.c).ownBlock = some g ∨ (Value.slice h.ty.A h.ty.n h.ty.c).ownBlock = some g ∨ (Value.slice h.ends.A h.ends.n h.ends.c).ownBlock = some g ∨ (Value.slice h.values.A h.values.n h.values.c).ownBlock = some g ∨ (Value.slice h.stack.A h.stack.n h.stack.c).ownBlock = some g) → lo ≤ g := fun g hg => by
    rcases hg with hg | hg | hg | hg | hg | hg | hg
    · exact own_le (r.own 0 rfl) hg
    · exact own_le (r.own 1 rfl) hg
    · exact own_le (r.own 2 rfl) hg
    · exact own_le (r.own 3 rfl) hg
    · exact own_le (r.own 4 rfl) hg
    · exact own_le (r.own 5 rfl) hg
    · exact own_le (r.own 6 rfl) hg
  have hW := Lib.hid (heap_alloc_new w (.cells #[.int .i64 d.size, .slice h.orig.A h.orig.n h.orig.c, .slice h.now.A h.now.n h.now.c, .slice h.tx.A h.tx.n h.tx.c, .slice h.ty.A h.ty.n h.ty.c, .slice h.ends.A h.ends.n h.ends.c, .slice h.values.A h.values.n h.values.c, .slice h.stack.A h.stack.n h.stack.c, .bool d.axisY, .int .i64 d.ref, .int .i64 d.state, .int .i64 d.cut, .int .i64 d.least] 65 (0, 0)))
  have hr0 : Hid (RowsX (w.alloc (.cells #[.int .i64 d.size, .slice h.orig.A h.orig.n h.orig.c, .slice h.now.A h.now.n h.now.c, .slice h.tx.A h.tx.n h.tx.c, .slice h.ty.A h.ty.n h.ty.c, .slice h.ends.A h.ends.n h.ends.c, .slice h.values.A h.values.n h.values.c, .slice h.stack.A h.stack.n h.stack.c, .bool d.axisY, .int .i64 d.ref, .int .i64 d.state, .int .i64 d.cut, .int .i64 d.least] 65 (0, 0))) lo w.heap.size [⟨25, 2, .slice h.orig.A h.orig.n h.orig.c, h.orig.n, d.orig.flatMap ptC⟩, ⟨25, 2, .slice h.now.A h.now.n h.now.c, h.now.n, d.now.flatMap ptC⟩, ⟨4, 1, .slice h.tx.A h.tx.n h.tx.c, h.tx.n, d.tx.flatMap boolC⟩, ⟨4, 1, .slice h.ty.A h.ty.n h.ty.c, h.ty.n, d.ty.flatMap boolC⟩, ⟨2, 1, .slice h.ends.A h.ends.n h.ends.c, h.ends.n, d.ends.flatMap intC⟩, ⟨2, 1, .slice h.values.A h.values.n h.values.c, h.values.n, d.values.flatMap intC⟩, ⟨2, 1, .slice h.stack.A h.stack.n h.stack.c, h.stack.n, d.stack.flatMap intC⟩]) := ⟨r.alloc _, fun i q hq e => by have := ((r.own i hq).lt _ e).2; omega, by simp⟩
  have hk0 : Hid (MkH lo hi (w.alloc (.cells #[.int .i64 d.size, .slice h.orig.A h.orig.n h.orig.c, .slice h.now.A h.now.n h.now.c, .slice h.tx.A h.tx.n h.tx.c, .slice h.ty.A h.ty.n h.ty.c, .slice h.ends.A h.ends.n h.ends.c, .slice h.values.A h.values.n h.values.c, .slice h.stack.A h.stack.n h.stack.c, .bool d.axisY, .int .i64 d.ref, .int .i64 d.state, .int .i64 d.cut, .int .i64 d.least] 65 (0, 0))) (w.alloc (.cells #[.int .i64 d.size, .slice h.orig.A h.orig.n h.orig.c, .slice h.now.A h.now.n h.now.c, .slice h.tx.A h.tx.n h.tx.c, .slice h.ty.A h.ty.n h.ty.c, .slice h.ends.A h.ends.n h.ends.c, .slice h.values.A h.values.n h.values.c, .slice h.stack.A h.stack.n h.stack.c, .bool d.axisY, .int .i64 d.ref, .int .i64 d.state, .int .i64 d.cut, .int .i64 d.least] 65 (0, 0)))) := MkH.refl _ _ _
  have hz0 : (w.alloc (.cells #[.int .i64 d.size, .slice h.orig.A h.orig.n h.orig.c, .slice h.now.A h.now.n h.now.c, .slice h.tx.A h.tx.n h.tx.c, .slice h.ty.A h.ty.n h.ty.c, .slice h.ends.A h.ends.n h.ends.c, .slice h.values.A h.values.n h.values.c, .slice h.stack.A h.stack.n h.stack.c, .bool d.axisY, .int .i64 d.ref, .int .i64 d.state, .int .i64 d.cut, .int .i64 d.least] 65 (0, 0))).heap.size = w.heap.size + 1 := by simp
  replace hlo := Lib.hid hlo
  clear r hl
  obtain ⟨k1, hq1⟩ : ∃ k, k = m + 2 * (h.orig.n : Int) := ⟨_, rfl⟩
  obtain ⟨k2, hq2⟩ : ∃ k, k = k1 + 2 * (h.now.n : Int) := ⟨_, rfl⟩
  obtain ⟨k3, hq3⟩ : ∃ k, k = k2 + (h.tx.n : Int) := ⟨_, rfl⟩
  obtain ⟨k4, hq4⟩ : ∃ k, k = k3 + (h.ty.n : Int) := ⟨_, rfl⟩
  obtain ⟨k5, hq5⟩ : ∃ k, k = k4 + (h.ends.n : Int) := ⟨_, rfl⟩
  obtain ⟨k6, hq6⟩ : ∃ k, k = k5 + (h.values.n : Int) := ⟨_, rfl⟩
  obtain ⟨k7, hq7⟩ : ∃ k, k = k6 + (h.stack.n : Int) := ⟨_, rfl⟩
  have hv1 : 0 ≤ k1 ∧ k1 ≤ 12200000 := by omega
  have hv2 : 0 ≤ k2 ∧ k2 ≤ 14400000 := by omega
  have hv3 : 0 ≤ k3 ∧ k3 ≤ 16600000 := by omega
  have hv4 : 0 ≤ k4 ∧ k4 ≤ 18800000 := by omega
  have hv5 : 0 ≤ k5 ∧ k5 ≤ 21000000 := by omega
  have hv6 : 0 ≤ k6 ∧ k6 ≤ 23200000 := by omega
  have hv7 : 0 ≤ k7 ∧ k7 ≤ 25400000 := by omega
  replace hq1 := Lib.hid hq1; replace hq2 := Lib.hid hq2; replace hq3 := Lib.hid hq3; replace hq4 := Lib.hid hq4; replace hq5 := Lib.hid hq5; replace hq6 := Lib.hid hq6; replace hq7 := Lib.hid hq7
  go_enter Try.func38, Try.ntmps38
  go_wp2_with fail
  generalize hw0 : w.alloc (.cells #[.int .i64 d.size, .slice h.orig.A h.orig.n h.orig.c, .slice h.now.A h.now.n h.now.c, .slice h.tx.A h.tx.n h.tx.c, .slice h.ty.A h.ty.n h.ty.c, .slice h.ends.A h.ends.n h.ends.c, .slice h.values.A h.values.n h.values.c, .slice h.stack.A h.stack.n h.stack.c, .bool d.axisY, .int .i64 d.ref, .int .i64 d.state, .int .i64 d.cut, .int .i64 d.least] 65 (0, 0)) = w0 at *
  replace hw0 := Lib.hid hw0
  have ow0 : w0.ownsRow lo 25 2 (.slice h.orig.A h.orig.n h.orig.c) h.orig.n (d.orig.flatMap ptC) := hr0.out.own 0 (r := ⟨25, 2, .slice h.orig.A h.orig.n h.orig.c, h.orig.n, d.orig.flatMap ptC⟩) rfl
  have hc0 := markPtS_any h.orig.A h.orig.n h.orig.c lo (d.orig.flatMap ptC) m w0 ow0 (by omega) (by omega) (by omega)
  skip
  rw [← hq1.out] at hc0
  refine hc0.mono ?_
  clear hc0
  rintro e w1 ⟨rfl, hg0, ho0, hs0⟩
  have hr1 : Hid (RowsX w1 lo w.heap.size [⟨25, 2, .slice h.orig.A h.orig.n h.orig.c, h.orig.n, (mkPt m h.orig.n).flatMap ptC⟩, ⟨25, 2, .slice h.now.A h.now.n h.now.c, h.now.n, d.now.flatMap ptC⟩, ⟨4, 1, .slice h.tx.A h.tx.n h.tx.c, h.tx.n, d.tx.flatMap boolC⟩, ⟨4, 1, .slice h.ty.A h.ty.n h.ty.c, h.ty.n, d.ty.flatMap boolC⟩, ⟨2, 1, .slice h.ends.A h.ends.n h.ends.c, h.ends.n, d.ends.flatMap intC⟩, ⟨2, 1, .slice h.values.A h.values.n h.values.c, h.values.n, d.values.flatMap intC⟩, ⟨2, 1, .slice h.stack.A h.stack.n h.stack.c, h.stack.n, d.stack.flatMap intC⟩]) := by
    have h2 := hr0.out.put 0 (r := ⟨25, 2, .slice h.orig.A h.orig.n h.orig.c, h.orig.n, d.orig.flatMap ptC⟩) rfl ho0 hg0 (fun g hgv => .inl hgv)
    exact h2
  have hk1 := Lib.hid (hk0.out.step hg0 hs0 fun g hg => ⟨hlo.out g (.inl hg), i0 g hg⟩)
  replace hW := Lib.hid ((hr0.out.block 0 (r := ⟨25, 2, .slice h.orig.A h.orig.n h.orig.c, h.orig.n, d.orig.flatMap ptC⟩) rfl hg0).trans hW.out)
  clear hg0 ho0 hr0 hk0 ow0
  have cx1 : w1.cell? ⟨w.heap.size, 2, none⟩ = some (.slice h.now.A h.now.n h.now.c) := by rw [Go.Joins.cell_of_block hW.out]; rfl
  have hx1 : w.heap.size < w1.heap.size := by omega
  go_wp2_with fail
  clear cx1 hx1
  have ow1 : w1.ownsRow lo 25 2 (.slice h.now.A h.now.n h.now.c) h.now.n (d.now.flatMap ptC) := hr1.out.own 1 (r := ⟨25, 2, .slice h.now.A h.now.n h.now.c, h.now.n, d.now.flatMap ptC⟩) rfl
  have hc1 := markPtS_any h.now.A h.now.n h.now.c lo (d.now.flatMap ptC) k1 w1 ow1 (by omega) (by omega) (by omega)
  skip
  rw [← hq2.out] at hc1
  refine hc1.mono ?_
  clear hc1
  rintro e w2 ⟨rfl, hg1, ho1, hs1⟩
  have hr2 : Hid (RowsX w2 lo w.heap.size [⟨25, 2, .slice h.orig.A h.orig.n h.orig.c, h.orig.n, (mkPt m h.orig.n).flatMap ptC⟩, ⟨25, 2, .slice h.now.A h.now.n h.now.c, h.now.n, (mkPt k1 h.now.n).flatMap ptC⟩, ⟨4, 1, .slice h.tx.A h.tx.n h.tx.c, h.tx.n, d.tx.flatMap boolC⟩, ⟨4, 1, .slice h.ty.A h.ty.n h.ty.c, h.ty.n, d.ty.flatMap boolC⟩, ⟨2, 1, .slice h.ends.A h.ends.n h.ends.c, h.ends.n, d.ends.flatMap intC⟩, ⟨2, 1, .slice h.values.A h.values.n h.values.c, h.values.n, d.values.flatMap intC⟩, ⟨2, 1, .slice h.stack.A h.stack.n h.stack.c, h.stack.n, d.stack.flatMap intC⟩]) := by
    have h2 := hr1.out.put 1 (r := ⟨25, 2, .slice h.now.A h.now.n h.now.c, h.now.n, d.now.flatMap ptC⟩) rfl ho1 hg1 (fun g hgv => .inl hgv)
    exact h2
  have hk2 := Lib.hid (hk1.out.step hg1 hs1 fun g hg => ⟨hlo.out g (.inr (.inl hg)), i1 g hg⟩)
  replace hW := Lib.hid ((hr1.out.block 1 (r := ⟨25, 2, .slice h.now.A h.now.n h.now.c, h.now.n, d.now.flatMap ptC⟩) rfl hg1).trans hW.out)
  clear hg1 ho1 hr1 hk1 ow1
  have cx2 : w2.cell? ⟨w.heap.size, 3, none⟩ = some (.slice h.tx.A h.tx.n h.tx.c) := by rw [Go.Joins.cell_of_block hW.out]; rfl
  have hx2 : w.heap.size < w2.heap.size := by omega
  go_wp2_with fail
  clear cx2 hx2
  have ow2 : w2.ownsRow lo 4 1 (.slice h.tx.A h.tx.n h.tx.c) h.tx.n (d.tx.flatMap boolC) := hr2.out.own 2 (r := ⟨4, 1, .slice h.tx.A h.tx.n h.tx.c, h.tx.n, d.tx.flatMap boolC⟩) rfl
  have hc2 := markBoolS_any h.tx.A h.tx.n h.tx.c lo (d.tx.flatMap boolC) k2 w2 ow2 (by omega) (by omega) (by omega)
  skip
  rw [← hq3.out] at hc2
  refine hc2.mono ?_
  clear hc2
  rintro e w3 ⟨rfl, hg2, ho2, hs2⟩
  have hr3 : Hid (RowsX w3 lo w.heap.size [⟨25, 2, .slice h.orig.A h.orig.n h.orig.c, h.orig.n, (mkPt m h.orig.n).flatMap ptC⟩, ⟨25, 2, .slice h.now.A h.now.n h.now.c, h.now.n, (mkPt k1 h.now.n).flatMap ptC⟩, ⟨4, 1, .slice h.tx.A h.tx.n h.tx.c, h.tx.n, (mkBool k2 h.tx.n).flatMap boolC⟩, ⟨4, 1, .slice h.ty.A h.ty.n h.ty.c, h.ty.n, d.ty.flatMap boolC⟩, ⟨2, 1, .slice h.ends.A h.ends.n h.ends.c, h.ends.n, d.ends.flatMap intC⟩, ⟨2, 1, .slice h.values.A h.values.n h.values.c, h.values.n, d.values.flatMap intC⟩, ⟨2, 1, .slice h.stack.A h.stack.n h.stack.c, h.stack.n, d.stack.flatMap intC⟩]) := by
    have h2 := hr2.out.put 2 (r := ⟨4, 1, .slice h.tx.A h.tx.n h.tx.c, h.tx.n, d.tx.flatMap boolC⟩) rfl ho2 hg2 (fun g hgv => .inl hgv)
    exact h2
  have hk3 := Lib.hid (hk2.out.step hg2 hs2 fun g hg => ⟨hlo.out g (.inr (.inr (.inl hg))), i2 g hg⟩)
  replace hW := Lib.hid ((hr2.out.block 2 (r := ⟨4, 1, .slice h.tx.A h.tx.n h.tx.c, h.tx.n, d.tx.flatMap boolC⟩) rfl hg2).trans hW.out)
  clear hg2 ho2 hr2 hk2 ow2
  have cx3 : w3.cell? ⟨w.heap.size, 4, none⟩ = some (.slice h.ty.A h.ty.n h.ty.c) := by rw [Go.Joins.cell_of_block hW.out]; rfl
  have hx3 : w.heap.size < w3.heap.size := by omega
  go_wp2_with fail
  clear cx3 hx3
  have ow3 : w3.ownsRow lo 4 1 (.slice h.ty.A h.ty.n h.ty.c) h.ty.n (d.ty.flatMap boolC) := hr3.out.own 3 (r := ⟨4, 1, .slice h.ty.A h.ty.n h.ty.c, h.ty.n, d.ty.flatMap boolC⟩) rfl
  have hc3 := markBoolS_any h.ty.A h.ty.n h.ty.c lo (d.ty.flatMap boolC) k3 w3 ow3 (by omega) (by omega) (by omega)
  skip
  rw [← hq4.out] at hc3
  refine hc3.mono ?_
  clear hc3
  rintro e w4 ⟨rfl, hg3, ho3, hs3⟩
  have hr4 : Hid (RowsX w4 lo w.heap.size [⟨25, 2, .slice h.orig.A h.orig.n h.orig.c, h.orig.n, (mkPt m h.orig.n).flatMap ptC⟩, ⟨25, 2, .slice h.now.A h.now.n h.now.c, h.now.n, (mkPt k1 h.now.n).flatMap ptC⟩, ⟨4, 1, .slice h.tx.A h.tx.n h.tx.c, h.tx.n, (mkBool k2 h.tx.n).flatMap boolC⟩, ⟨4, 1, .slice h.ty.A h.ty.n h.ty.c, h.ty.n, (mkBool k3 h.ty.n).flatMap boolC⟩, ⟨2, 1, .slice h.ends.A h.ends.n h.ends.c, h.ends.n, d.ends.flatMap intC⟩, ⟨2, 1, .slice h.values.A h.values.n h.values.c, h.values.n, d.values.flatMap intC⟩, ⟨2, 1, .slice h.stack.A h.stack.n h.stack.c, h.stack.n, d.stack.flatMap intC⟩]) := by
    have h2 := hr3.out.put 3 (r := ⟨4, 1, .slice h.ty.A h.ty.n h.ty.c, h.ty.n, d.ty.flatMap boolC⟩) rfl ho3 hg3 (fun g hgv => .inl hgv)
    exact h2
  have hk4 := Lib.hid (hk3.out.step hg3 hs3 fun g hg => ⟨hlo.out g (.inr (.inr (.inr (.inl hg)))), i3 g hg⟩)
  replace hW := Lib.hid ((hr3.out.block 3 (r := ⟨4, 1, .slice h.ty.A h.ty.n h.ty.c, h.ty.n, d.ty.flatMap boolC⟩) rfl hg3).trans hW.out)
  clear hg3 ho3 hr3 hk3 ow3
  have cx4 : w4.cell? ⟨w.heap.size, 5, none⟩ = some (.slice h.ends.A h.ends.n h.ends.c) := by rw [Go.Joins.cell_of_block hW.out]; rfl
  have hx4 : w.heap.size < w4.heap.size := by omega
  go_wp2_with fail
  clear cx4 hx4
  have ow4 : w4.ownsRow lo 2 1 (.slice h.ends.A h.ends.n h.ends.c) h.ends.n (d.ends.flatMap intC) := hr4.out.own 4 (r := ⟨2, 1, .slice h.ends.A h.ends.n h.ends.c, h.ends.n, d.ends.flatMap intC⟩) rfl
  have hc4 := markInt64S_any h.ends.A h.ends.n h.ends.c lo (d.ends.flatMap intC) k4 w4 ow4 (by omega) (by omega) (by omega)
  skip
  rw [← hq5.out] at hc4
  refine hc4.mono ?_
  clear hc4
  rintro e w5 ⟨rfl, hg4, ho4, hs4⟩
  have hr5 : Hid (RowsX w5 lo w.heap.size [⟨25, 2, .slice h.orig.A h.orig.n h.orig.c, h.orig.n, (mkPt m h.orig.n).flatMap ptC⟩, ⟨25, 2, .slice h.now.A h.now.n h.now.c, h.now.n, (mkPt k1 h.now.n).flatMap ptC⟩, ⟨4, 1, .slice h.tx.A h.tx.n h.tx.c, h.tx.n, (mkBool k2 h.tx.n).flatMap boolC⟩, ⟨4, 1, .slice h.ty.A h.ty.n h.ty.c, h.ty.n, (mkBool k3 h.ty.n).flatMap boolC⟩, ⟨2, 1, .slice h.ends.A h.ends.n h.ends.c, h.ends.n, (mkInt64 k4 h.ends.n).flatMap intC⟩, ⟨2, 1, .slice h.values.A h.values.n h.values.c, h.values.n, d.values.flatMap intC⟩, ⟨2, 1, .slice h.stack.A h.stack.n h.stack.c, h.stack.n, d.stack.flatMap intC⟩]) := by
    have h2 := hr4.out.put 4 (r := ⟨2, 1, .slice h.ends.A h.ends.n h.ends.c, h.ends.n, d.ends.flatMap intC⟩) rfl ho4 hg4 (fun g hgv => .inl hgv)
    exact h2
  have hk5 := Lib.hid (hk4.out.step hg4 hs4 fun g hg => ⟨hlo.out g (.inr (.inr (.inr (.inr (.inl hg))))), i4 g hg⟩)
  replace hW := Lib.hid ((hr4.out.block 4 (r := ⟨2, 1, .slice h.ends.A h.ends.n h.ends.c, h.ends.n, d.ends.flatMap intC⟩) rfl hg4).trans hW.out)
  clear hg4 ho4 hr4 hk4 ow4
  have cx5 : w5.cell? ⟨w.heap.size, 6, none⟩ = some (.slice h.values.A h.values.n h.values.c) := by rw [Go.Joins.cell_of_block hW.out]; rfl
  have hx5 : w.heap.size < w5.heap.size := by omega
  go_wp2_with fail
  clear cx5 hx5
  have ow5 : w5.ownsRow lo 2 1 (.slice h.values.A h.values.n h.values.c) h.values.n (d.values.flatMap intC) := hr5.out.own 5 (r := ⟨2, 1, .slice h.values.A h.values.n h.values.c, h.values.n, d.values.flatMap intC⟩) rfl
  have hc5 := markInt64S_any h.values.A h.values.n h.values.c lo (d.values.flatMap intC) k5 w5 ow5 (by omega) (by omega) (by omega)
  skip
  rw [← hq6.out] at hc5
  refine hc5.mono ?_
  clear hc5
  rintro e w6 ⟨rfl, hg5, ho5, hs5⟩
  have hr6 : Hid (RowsX w6 lo w.heap.size [⟨25, 2, .slice h.orig.A h.orig.n h.orig.c, h.orig.n, (mkPt m h.orig.n).flatMap ptC⟩, ⟨25, 2, .slice h.now.A h.now.n h.now.c, h.now.n, (mkPt k1 h.now.n).flatMap ptC⟩, ⟨4, 1, .slice h.tx.A h.tx.n h.tx.c, h.tx.n, (mkBool k2 h.tx.n).flatMap boolC⟩, ⟨4, 1, .slice h.ty.A h.ty.n h.ty.c, h.ty.n, (mkBool k3 h.ty.n).flatMap boolC⟩, ⟨2, 1, .slice h.ends.A h.ends.n h.ends.c, h.ends.n, (mkInt64 k4 h.ends.n).flatMap intC⟩, ⟨2, 1, .slice h.values.A h.values.n h.values.c, h.values.n, (mkInt64 k5 h.values.n).flatMap intC⟩, ⟨2, 1, .slice h.stack.A h.stack.n h.stack.c, h.stack.n, d.stack.flatMap intC⟩]) := by
    have h2 := hr5.out.put 5 (r := ⟨2, 1, .slice h.values.A h.values.n h.values.c, h.values.n, d.values.flatMap intC⟩) rfl ho5 hg5 (fun g hgv => .inl hgv)
    exact h2
  have hk6 := Lib.hid (hk5.out.step hg5 hs5 fun g hg => ⟨hlo.out g (.inr (.inr (.inr (.inr (.inr (.inl hg)))))), i5 g hg⟩)
  replace hW := Lib.hid ((hr5.out.block 5 (r := ⟨2, 1, .slice h.values.A h.values.n h.values.c, h.values.n, d.values.flatMap intC⟩) rfl hg5).trans hW.out)
  clear hg5 ho5 hr5 hk5 ow5
  have cx6 : w6.cell? ⟨w.heap.size, 7, none⟩ = some (.slice h.stack.A h.stack.n h.stack.c) := by rw [Go.Joins.cell_of_block hW.out]; rfl
  have hx6 : w.heap.size < w6.heap.size := by omega
  go_wp2_with fail
  clear cx6 hx6
  have ow6 : w6.ownsRow lo 2 1 (.slice h.stack.A h.stack.n h.stack.c) h.stack.n (d.stack.flatMap intC) := hr6.out.own 6 (r := ⟨2, 1, .slice h.stack.A h.stack.n h.stack.c, h.stack.n, d.stack.flatMap intC⟩) rfl
  have hc6 := markInt64S_any h.stack.A h.stack.n h.stack.c lo (d.stack.flatMap intC) k6 w6 ow6 (by omega) (by omega) (by omega)
  skip
  rw [← hq7.out] at hc6
  refine hc6.mono ?_
  clear hc6
  rintro e w7 ⟨rfl, hg6, ho6, hs6⟩
  have hr7 : Hid (RowsX w7 lo w.heap.size [⟨25, 2, .slice h.orig.A h.orig.n h.orig.c, h.orig.n, (mkPt m h.orig.n).flatMap ptC⟩, ⟨25, 2, .slice h.now.A h.now.n h.now.c, h.now.n, (mkPt k1 h.now.n).flatMap ptC⟩, ⟨4, 1, .slice h.tx.A h.tx.n h.tx.c, h.tx.n, (mkBool k2 h.tx.n).flatMap boolC⟩, ⟨4, 1, .slice h.ty.A h.ty.n h.ty.c, h.ty.n, (mkBool k3 h.ty.n).flatMap boolC⟩, ⟨2, 1, .slice h.ends.A h.ends.n h.ends.c, h.ends.n, (mkInt64 k4 h.ends.n).flatMap intC⟩, ⟨2, 1, .slice h.values.A h.values.n h.values.c, h.values.n, (mkInt64 k5 h.values.n).flatMap intC⟩, ⟨2, 1, .slice h.stack.A h.stack.n h.stack.c, h.stack.n, (mkInt64 k6 h.stack.n).flatMap intC⟩]) := by
    have h2 := hr6.out.put 6 (r := ⟨2, 1, .slice h.stack.A h.stack.n h.stack.c, h.stack.n, d.stack.flatMap intC⟩) rfl ho6 hg6 (fun g hgv => .inl hgv)
    exact h2
  have hk7 := Lib.hid (hk6.out.step hg6 hs6 fun g hg => ⟨hlo.out g (.inr (.inr (.inr (.inr (.inr (.inr (hg))))))), i6 g hg⟩)
  replace hW := Lib.hid ((hr6.out.block 6 (r := ⟨2, 1, .slice h.stack.A h.stack.n h.stack.c, h.stack.n, d.stack.flatMap intC⟩) rfl hg6).trans hW.out)
  clear hg6 ho6 hr6 hk6 ow6
  go_wp2_with fail
  go_ret
  replace hq1 := hq1.out; replace hq2 := hq2.out; replace hq3 := hq3.out; replace hq4 := hq4.out; replace hq5 := hq5.out; replace hq6 := hq6.out; replace hq7 := hq7.out
  have hb : Below lo w w0 := by rw [← hw0.out]; exact Go.Joins.below_alloc1 _ _ |>.mono hlw
  have hs : SameB hi w.heap.size w w0 := by rw [← hw0.out]; exact (SameB.refl _ _ w).alloc (Nat.le_refl _) _
  have hsz := hk7.out.size
  refine ⟨ret_int (by unfold hinN; omega), ⟨?_, mkHin_len _ _ _⟩, hb.trans hk7.out.bel, hs.trans (hk7.out.sam.mono (Nat.le_refl _) (by omega)), by omega⟩
  have h2 := hr7.out.rows
  subst hq1 hq2 hq3 hq4 hq5 hq6 hq7
  exact h2


set_option maxHeartbeats 4000000 in
theorem heldHinter_any (d : HinterD) (h : HinterH) (lo hi : Nat) (m : Int) (w : World) (hr : HinterRd w lo hi (mkHin m d h) h) (hhi : hi ≤ w.heap.size) (hm : h.small 1048576) (h0 : 0 ≤ m) (h1 : m ≤ 10000000) :
    Calls Try.prog 39 #[hinV d h, .int .i64 m] w fun e w' => e = .returned (.int .i64 (m + hinN h)) ∧ Below w.heap.size w w' := by
  have hB : Below w.heap.size w (w.alloc (.cells #[.int .i64 d.size, .slice h.orig.A h.orig.n h.orig.c, .slice h.now.A h.now.n h.now.c, .slice h.tx.A h.tx.n h.tx.c, .slice h.ty.A h.ty.n h.ty.c, .slice h.ends.A h.ends.n h.ends.c, .slice h.values.A h.values.n h.values.c, .slice h.stack.A h.stack.n h.stack.c, .bool d.axisY, .int .i64 d.ref, .int .i64 d.state, .int .i64 d.cut, .int .i64 d.least] 65 (0, 0))) := Go.Joins.below_alloc1 _ _
  have hrb := hr.frame (Below.sameB hB hhi)
  obtain ⟨r0, r1, r2, r3, r4, r5, r6⟩ := hrb
  dsimp only [mkHin] at r0 r1 r2 r3 r4 r5 r6
  obtain ⟨m0, m1, m2, m3, m4, m5, m6⟩ := hm
  have hW := heap_alloc_new w (.cells #[.int .i64 d.size, .slice h.orig.A h.orig.n h.orig.c, .slice h.now.A h.now.n h.now.c, .slice h.tx.A h.tx.n h.tx.c, .slice h.ty.A h.ty.n h.ty.c, .slice h.ends.A h.ends.n h.ends.c, .slice h.values.A h.values.n h.values.c, .slice h.stack.A h.stack.n h.stack.c, .bool d.axisY, .int .i64 d.ref, .int .i64 d.state, .int .i64 d.cut, .int .i64 d.least] 65 (0, 0))
  have hz0 : (w.alloc (.cells #[.int .i64 d.size, .slice h.orig.A h.orig.n h.orig.c, .slice h.now.A h.now.n h.now.c, .slice h.tx.A h.tx.n h.tx.c, .slice h.ty.A h.ty.n h.ty.c, .slice h.ends.A h.ends.n h.ends.c, .slice h.values.A h.values.n h.values.c, .slice h.stack.A h.stack.n h.stack.c, .bool d.axisY, .int .i64 d.ref, .int .i64 d.state, .int .i64 d.cut, .int .i64 d.least] 65 (0, 0))).heap.size = w.heap.size + 1 := by simp
  have cx0 : (w.alloc (.cells #[.int .i64 d.size, .slice h.orig.A h.orig.n h.orig.c, .slice h.now.A h.now.n h.now.c, .slice h.tx.A h.tx.n h.tx.c, .slice h.ty.A h.ty.n h.ty.c, .slice h.ends.A h.ends.n h.ends.c, .slice h.values.A h.values.n h.values.c, .slice h.stack.A h.stack.n h.stack.c, .bool d.axisY, .int .i64 d.ref, .int .i64 d.state, .int .i64 d.cut, .int .i64 d.least] 65 (0, 0))).cell? ⟨w.heap.size, 1, none⟩ = some (.slice h.orig.A h.orig.n h.orig.c) := by rw [Go.Joins.cell_of_block hW]; rfl
  have cx1 : (w.alloc (.cells #[.int .i64 d.size, .slice h.orig.A h.orig.n h.orig.c, .slice h.now.A h.now.n h.now.c, .slice h.tx.A h.tx.n h.tx.c, .slice h.ty.A h.ty.n h.ty.c, .slice h.ends.A h.ends.n h.ends.c, .slice h.values.A h.values.n h.values.c, .slice h.stack.A h.stack.n h.stack.c, .bool d.axisY, .int .i64 d.ref, .int .i64 d.state, .int .i64 d.cut, .int .i64 d.least] 65 (0, 0))).cell? ⟨w.heap.size, 2, none⟩ = some (.slice h.now.A h.now.n h.now.c) := by rw [Go.Joins.cell_of_block hW]; rfl
  have cx2 : (w.alloc (.cells #[.int .i64 d.size, .slice h.orig.A h.orig.n h.orig.c, .slice h.now.A h.now.n h.now.c, .slice h.tx.A h.tx.n h.tx.c, .slice h.ty.A h.ty.n h.ty.c, .slice h.ends.A h.ends.n h.ends.c, .slice h.values.A h.values.n h.values.c, .slice h.stack.A h.stack.n h.stack.c, .bool d.axisY, .int .i64 d.ref, .int .i64 d.state, .int .i64 d.cut, .int .i64 d.least] 65 (0, 0))).cell? ⟨w.heap.size, 3, none⟩ = some (.slice h.tx.A h.tx.n h.tx.c) := by rw [Go.Joins.cell_of_block hW]; rfl
  have cx3 : (w.alloc (.cells #[.int .i64 d.size, .slice h.orig.A h.orig.n h.orig.c, .slice h.now.A h.now.n h.now.c, .slice h.tx.A h.tx.n h.tx.c, .slice h.ty.A h.ty.n h.ty.c, .slice h.ends.A h.ends.n h.ends.c, .slice h.values.A h.values.n h.values.c, .slice h.stack.A h.stack.n h.stack.c, .bool d.axisY, .int .i64 d.ref, .int .i64 d.state, .int .i64 d.cut, .int .i64 d.least] 65 (0, 0))).cell? ⟨w.heap.size, 4, none⟩ = some (.slice h.ty.A h.ty.n h.ty.c) := by rw [Go.Joins.cell_of_block hW]; rfl
  have cx4 : (w.alloc (.cells #[.int .i64 d.size, .slice h.orig.A h.orig.n h.orig.c, .slice h.now.A h.now.n h.now.c, .slice h.tx.A h.tx.n h.tx.c, .slice h.ty.A h.ty.n h.ty.c, .slice h.ends.A h.ends.n h.ends.c, .slice h.values.A h.values.n h.values.c, .slice h.stack.A h.stack.n h.stack.c, .bool d.axisY, .int .i64 d.ref, .int .i64 d.state, .int .i64 d.cut, .int .i64 d.least] 65 (0, 0))).cell? ⟨w.heap.size, 5, none⟩ = some (.slice h.ends.A h.ends.n h.ends.c) := by rw [Go.Joins.cell_of_block hW]; rfl
  have cx5 : (w.alloc (.cells #[.int .i64 d.size, .slice h.orig.A h.orig.n h.orig.c, .slice h.now.A h.now.n h.now.c, .slice h.tx.A h.tx.n h.tx.c, .slice h.ty.A h.ty.n h.ty.c, .slice h.ends.A h.ends.n h.ends.c, .slice h.values.A h.values.n h.values.c, .slice h.stack.A h.stack.n h.stack.c, .bool d.axisY, .int .i64 d.ref, .int .i64 d.state, .int .i64 d.cut, .int .i64 d.least] 65 (0, 0))).cell? ⟨w.heap.size, 6, none⟩ = some (.slice h.values.A h.values.n h.values.c) := by rw [Go.Joins.cell_of_block hW]; rfl
  have cx6 : (w.alloc (.cells #[.int .i64 d.size, .slice h.orig.A h.orig.n h.orig.c, .slice h.now.A h.now.n h.now.c, .slice h.tx.A h.tx.n h.tx.c, .slice h.ty.A h.ty.n h.ty.c, .slice h.ends.A h.ends.n h.ends.c, .slice h.values.A h.values.n h.values.c, .slice h.stack.A h.stack.n h.stack.c, .bool d.axisY, .int .i64 d.ref, .int .i64 d.state, .int .i64 d.cut, .int .i64 d.least] 65 (0, 0))).cell? ⟨w.heap.size, 7, none⟩ = some (.slice h.stack.A h.stack.n h.stack.c) := by rw [Go.Joins.cell_of_block hW]; rfl
  obtain ⟨k1, hq1⟩ : ∃ k, k = m + 2 * (h.orig.n : Int) := ⟨_, rfl⟩
  obtain ⟨k2, hq2⟩ : ∃ k, k = k1 + 2 * (h.now.n : Int) := ⟨_, rfl⟩
  obtain ⟨k3, hq3⟩ : ∃ k, k = k2 + (h.tx.n : Int) := ⟨_, rfl⟩
  obtain ⟨k4, hq4⟩ : ∃ k, k = k3 + (h.ty.n : Int) := ⟨_, rfl⟩
  obtain ⟨k5, hq5⟩ : ∃ k, k = k4 + (h.ends.n : Int) := ⟨_, rfl⟩
  obtain ⟨k6, hq6⟩ : ∃ k, k = k5 + (h.values.n : Int) := ⟨_, rfl⟩
  obtain ⟨k7, hq7⟩ : ∃ k, k = k6 + (h.stack.n : Int) := ⟨_, rfl⟩
  have hv1 : 0 ≤ k1 ∧ k1 ≤ 12200000 := by omega
  have hv2 : 0 ≤ k2 ∧ k2 ≤ 14400000 := by omega
  have hv3 : 0 ≤ k3 ∧ k3 ≤ 16600000 := by omega
  have hv4 : 0 ≤ k4 ∧ k4 ≤ 18800000 := by omega
  have hv5 : 0 ≤ k5 ∧ k5 ≤ 21000000 := by omega
  have hv6 : 0 ≤ k6 ∧ k6 ≤ 23200000 := by omega
  have hv7 : 0 ≤ k7 ∧ k7 ≤ 25400000 := by omega
  skip
  rw [← hq1] at r1 r2 r3 r4 r5 r6
  rw [← hq2] at r2 r3 r4 r5 r6
  rw [← hq3] at r3 r4 r5 r6
  rw [← hq4] at r4 r5 r6
  rw [← hq5] at r5 r6
  rw [← hq6] at r6
  have hc0 := heldPtS_any h.orig.A h.orig.n h.orig.c lo hi m _ r0 (by omega) (by omega) (by omega)
  rw [← hq1] at hc0
  replace hc0 := Lib.hid hc0
  clear r0
  have hc1 := heldPtS_any h.now.A h.now.n h.now.c lo hi k1 _ r1 (by omega) (by omega) (by omega)
  rw [← hq2] at hc1
  replace hc1 := Lib.hid hc1
  clear r1
  have hc2 := heldBoolS_any h.tx.A h.tx.n h.tx.c lo hi k2 _ r2 (by omega) (by omega) (by omega)
  rw [← hq3] at hc2
  replace hc2 := Lib.hid hc2
  clear r2
  have hc3 := heldBoolS_any h.ty.A h.ty.n h.ty.c lo hi k3 _ r3 (by omega) (by omega) (by omega)
  rw [← hq4] at hc3
  replace hc3 := Lib.hid hc3
  clear r3
  have hc4 := heldInt64S_any h.ends.A h.ends.n h.ends.c lo hi k4 _ r4 (by omega) (by omega) (by omega)
  rw [← hq5] at hc4
  replace hc4 := Lib.hid hc4
  clear r4
  have hc5 := heldInt64S_any h.values.A h.values.n h.values.c lo hi k5 _ r5 (by omega) (by omega) (by omega)
  rw [← hq6] at hc5
  replace hc5 := Lib.hid hc5
  clear r5
  have hc6 := heldInt64S_any h.stack.A h.stack.n h.stack.c lo hi k6 _ r6 (by omega) (by omega) (by omega)
  rw [← hq7] at hc6
  replace hc6 := Lib.hid hc6
  clear r6
  clear hW hr
  have hfin : Hid (k7 = m + hinN h) := by show _ = _; unfold hinN; omega
  replace hq1 := Lib.hid hq1; replace hq2 := Lib.hid hq2; replace hq3 := Lib.hid hq3; replace hq4 := Lib.hid hq4; replace hq5 := Lib.hid hq5; replace hq6 := Lib.hid hq6; replace hq7 := Lib.hid hq7
  go_enter Try.func39, Try.ntmps39
  go_wp2_with fail
  generalize w.alloc (.cells #[.int .i64 d.size, .slice h.orig.A h.orig.n h.orig.c, .slice h.now.A h.now.n h.now.c, .slice h.tx.A h.tx.n h.tx.c, .slice h.ty.A h.ty.n h.ty.c, .slice h.ends.A h.ends.n h.ends.c, .slice h.values.A h.values.n h.values.c, .slice h.stack.A h.stack.n h.stack.c, .bool d.axisY, .int .i64 d.ref, .int .i64 d.state, .int .i64 d.cut, .int .i64 d.least] 65 (0, 0)) = w0 at *
  refine hc0.out.mono ?_
  rintro e w' ⟨rfl, rfl⟩
  go_wp2_with fail
  refine hc1.out.mono ?_
  rintro e w' ⟨rfl, rfl⟩
  go_wp2_with fail
  refine hc2.out.mono ?_
  rintro e w' ⟨rfl, rfl⟩
  go_wp2_with fail
  refine hc3.out.mono ?_
  rintro e w' ⟨rfl, rfl⟩
  go_wp2_with fail
  refine hc4.out.mono ?_
  rintro e w' ⟨rfl, rfl⟩
  go_wp2_with fail
  refine hc5.out.mono ?_
  rintro e w' ⟨rfl, rfl⟩
  go_wp2_with fail
  refine hc6.out.mono ?_
  rintro e w' ⟨rfl, rfl⟩
  go_wp2_with fail
  go_ret
  exact ⟨ret_int hfin.out, hB⟩
end Go.Proofs.Ytgngcllodofimaa
