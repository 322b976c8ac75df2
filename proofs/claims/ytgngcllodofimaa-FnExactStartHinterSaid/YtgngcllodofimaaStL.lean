/- The law on StartHinter. Printed by lawst.py. Conditions: as it states. -/
import Derived.Test.YtgngcllodofimaaSt6
import Derived.Test.YtgngcllodofimaaMHin
import Derived.Test.YtgngcllodofimaaOutSn
import Derived.Test.YtgngcllodofimaaOutE
import Derived.Deep.RegionHeld3
namespace Go.Proofs.Ytgngcllodofimaa
open Go.RowKit
set_option linter.unusedVariables false
set_option maxRecDepth 100000

/-- outside lo..hi the world is as it was -/
structure Keep (lo hi : Nat) (w w' : World) : Prop where
  bel : Below lo w w'
  sam : SameB hi w.heap.size w w'
  size : w.heap.size ≤ w'.heap.size
theorem Keep.of_below {w w' : World} (h : Below w.heap.size w w') : Keep w.heap.size w.heap.size w w' := ⟨h, fun b h1 h2 => absurd h1 (by omega), h.size⟩
theorem Keep.block {lo hi : Nat} {w w' : World} (h : Keep lo hi w w') (b : Nat) (hb : b < lo ∨ hi ≤ b) (hlt : b < w.heap.size) : w'.heap[b]? = w.heap[b]? := by
  rcases hb with hb | hb
  · exact h.bel.block b hb
  · exact h.sam b hb hlt
theorem Keep.sameB {lo hi lo' hi' : Nat} {w w' : World} (h : Keep lo hi w w') (hh : hi' ≤ lo ∨ hi ≤ lo') (h2 : hi' ≤ w.heap.size) : SameB lo' hi' w w' := fun b h3 h4 => h.block b (by omega) (by omega)
theorem Keep.row {w w' : World} {n c g : Nat} (hg : w.grownBy w' (Value.slice (some ⟨g, 0, none⟩) n c).ownBlock) (hz : w'.heap.size = w.heap.size) : Keep g (g + 1) w w' := by
  refine ⟨⟨hg.os, hg.tape, hg.output, hg.size, fun b hb => ?_⟩, fun b h1 h2 => hg.block b h2 fun e => ?_, hg.size⟩
  · rcases Nat.lt_or_ge b w.heap.size with h | h
    · exact hg.block b h fun e => by simp [Value.ownBlock] at e; omega
    · rw [Array.getElem?_eq_none (by omega), Array.getElem?_eq_none (by omega)]
  · simp [Value.ownBlock] at e; omega
def HinIn (w : World) (lo hi : Nat) (d : HinterD) (h : HinterH) : Prop := HinOwn w lo d h ∧ HinHi hi h
theorem HinIn.same {w w' : World} {lo hi : Nat} {d : HinterD} {h : HinterH} (r : HinIn w lo hi d h) (s : SameB lo hi w w') : HinIn w' lo hi d h := by
  obtain ⟨⟨r, l⟩, h0, h1, h2, h3, h4, h5, h6⟩ := r
  refine ⟨⟨⟨fun i q hq => own_same (r.own i hq) fun g hg => s g ((r.own i hq).lt g hg).1 ?_, r.2⟩, l⟩, h0, h1, h2, h3, h4, h5, h6⟩
  match i, hq with
  | 0, hq => simp [hinRows] at hq; subst hq; exact h0 g hg
  | 1, hq => simp [hinRows] at hq; subst hq; exact h1 g hg
  | 2, hq => simp [hinRows] at hq; subst hq; exact h2 g hg
  | 3, hq => simp [hinRows] at hq; subst hq; exact h3 g hg
  | 4, hq => simp [hinRows] at hq; subst hq; exact h4 g hg
  | 5, hq => simp [hinRows] at hq; subst hq; exact h5 g hg
  | 6, hq => simp [hinRows] at hq; subst hq; exact h6 g hg
  | i + 7, hq => simp [hinRows] at hq
theorem HinIn.rdIn {w : World} {lo hi : Nat} {d : HinterD} {h : HinterH} (r : HinIn w lo hi d h) : HinterRd w lo hi d h := by
  obtain ⟨r, h0, h1, h2, h3, h4, h5, h6⟩ := r
  obtain ⟨r0, r1, r2, r3, r4, r5, r6⟩ := r.rd
  exact ⟨r0.capped fun b off e => h0 b (by rw [e]; rfl), r1.capped fun b off e => h1 b (by rw [e]; rfl), r2.capped fun b off e => h2 b (by rw [e]; rfl), r3.capped fun b off e => h3 b (by rw [e]; rfl), r4.capped fun b off e => h4 b (by rw [e]; rfl), r5.capped fun b off e => h5 b (by rw [e]; rfl), r6.capped fun b off e => h6 b (by rw [e]; rfl)⟩
def RowIn (w : World) (g n : Nat) (V : List Int) : Prop := w.ownsRow g 2 1 (.slice (some ⟨g, 0, none⟩) n n) n (V.flatMap intC) ∧ V.length = n
theorem RowIn.same {w w' : World} {g n : Nat} {V : List Int} (r : RowIn w g n V) (s : SameB g (g + 1) w w') : RowIn w' g n V :=
  ⟨own_same r.1 fun b hb => by simp [Value.ownBlock] at hb; subst hb; exact s g (Nat.le_refl _) (by omega), r.2⟩
theorem RowIn.rd {w : World} {g n : Nat} {V : List Int} (r : RowIn w g n V) : RdS 1 (FlatR intC) w g w.heap.size (some ⟨g, 0, none⟩) n V := rdS_own intC_len (by omega) r.1 r.2
theorem own_fresh {w : World} {lo e size n : Nat} {v : Value} {xs : List Value} {g : Nat} (h : w.ownsRow lo e size v n xs) (hv : v = .slice (some ⟨g, 0, none⟩) n n) : w.ownsRow g e size v n xs := by
  refine ⟨h.1, ?_⟩
  rcases h.2 with h2 | ⟨g', cap, cur, h1, h2, r⟩
  · exact .inl h2
  · right
    refine ⟨g', cap, cur, h1, ?_, r⟩
    rw [hv] at h1; injection h1 with h1; injection h1 with h1; injection h1 with h1; omega
theorem HinOwn.small {w : World} {lo : Nat} {d : HinterD} {h : HinterH} (r : HinOwn w lo d h) (hd : d.orig.length ≤ 1000000 ∧ d.now.length ≤ 1000000 ∧ d.tx.length ≤ 1000000 ∧ d.ty.length ≤ 1000000 ∧ d.ends.length ≤ 1000000 ∧ d.values.length ≤ 1000000 ∧ d.stack.length ≤ 1000000) : h.small 1000000 := by
  obtain ⟨l0, l1, l2, l3, l4, l5, l6⟩ := r.2
  obtain ⟨d0, d1, d2, d3, d4, d5, d6⟩ := hd
  exact ⟨by omega, by omega, by omega, by omega, by omega, by omega, by omega⟩
theorem start_small (Ls : List (List Knot)) (adv : Int) (V : List Int) (s u : Int) : (startR Ls adv V s u).1.orig.length ≤ 1000000 ∧ (startR Ls adv V s u).1.now.length ≤ 1000000 ∧ (startR Ls adv V s u).1.tx.length ≤ 1000000 ∧ (startR Ls adv V s u).1.ty.length ≤ 1000000 ∧ (startR Ls adv V s u).1.ends.length ≤ 1000000 ∧ (startR Ls adv V s u).1.values.length ≤ 1000000 ∧ (startR Ls adv V s u).1.stack.length ≤ 1000000 := by
  have hz : zeroD.orig.length ≤ 1000000 ∧ zeroD.now.length ≤ 1000000 ∧ zeroD.tx.length ≤ 1000000 ∧ zeroD.ty.length ≤ 1000000 ∧ zeroD.ends.length ≤ 1000000 ∧ zeroD.values.length ≤ 1000000 ∧ zeroD.stack.length ≤ 1000000 := by simp [zeroD]
  unfold startR
  split
  · rename_i h1
    split
    · unfold startF
      split
      · exact hz
      · rename_i h2
        rw [Bool.and_eq_true] at h1
        obtain ⟨o1, _, _⟩ := out_is h1.1
        obtain ⟨u1, _⟩ := vals_is h1.2
        simp only [startD, List.length_map, List.length_replicate, endsL_len, List.length_nil]
        omega
    · exact hz
  · exact hz

set_option maxHeartbeats 16000000 in
theorem lawStart_walk (A : Option Addr) (n c : Nat) (Ls : List (List Knot)) (adv : Int) (AV : Option Addr) (nv cv : Nat) (V : List Int) (s u : Int) (hm : n ≤ maxLen) {w : World} (hr : OutRd w 0 w.heap.size A n Ls) (_ : (Lit.int .i64 adv).wf = true) (hrv : RdS 1 (FlatR intC) w 0 w.heap.size AV nv V) (hmv : nv ≤ maxLen) (_ : (Lit.int .i64 s).wf = true) (_ : (Lit.int .i64 u).wf = true) :
    Calls Try.prog 5 #[.agg #[.slice A n c], .int .i64 adv, .slice AV nv cv, .int .i64 s, .int .i64 u] w fun e w' => e = .returned (.bool true) ∧ Below w.heap.size w w' := by
  have hll := Lib.hid hr.1
  have hvl := Lib.hid hrv.1
  unfold maxLen at hm hmv
  obtain ⟨D, hD⟩ : ∃ D, D = startR Ls adv V s u := ⟨_, rfl⟩
  have hsz := start_small Ls adv V s u
  rw [← hD] at hsz
  replace hsz := Lib.hid hsz
  have hspec := Lib.hid (fun (A' : Option Addr) (n' c' lo hi : Nat) (g : Nat) (lov : Nat) (W : World) (h1 : OutRd W lo hi A' n' Ls) (h2 : hi ≤ W.heap.size) (h3 : OutSm Ls) (h4 : nv ≤ 1048576) (h5 : RdS 1 (FlatR intC) W lov W.heap.size (some ⟨g, 0, none⟩) nv V) => specStart_any A' n' c' lo hi Ls adv (some ⟨g, 0, none⟩) nv nv lov W.heap.size V s u D hD W h1 h2 (by rw [← h1.1]; exact h3.1) h3.k h5 (Nat.le_refl _) h4)
  have himpl := Lib.hid (fun (A' : Option Addr) (n' c' lo hi : Nat) (g : Nat) (lov : Nat) (W : World) (h1 : OutRd W lo hi A' n' Ls) (h2 : hi ≤ W.heap.size) (h3 : OutSm Ls) (h4 : nv ≤ 1048576) (h5 : RdS 1 (FlatR intC) W lov W.heap.size (some ⟨g, 0, none⟩) nv V) => implStart_any A' n' c' lo hi Ls adv (some ⟨g, 0, none⟩) nv nv lov W.heap.size V s u D hD W h1 h2 (by rw [← h1.1]; exact h3.1) h3.k h5 (Nat.le_refl _) h4)
  replace hD := Lib.hid hD
  replace hr := Lib.hid hr
  replace hrv := Lib.hid hrv
  have hB : Below w.heap.size w w := Below.refl _ _
  have hk := Keep.of_below (Go.Joins.below_alloc1 w (.cells #[.slice A n c] 59 (0, 0)))
  have hzz : (w.alloc (.cells #[.slice A n c] 59 (0, 0))).heap.size = w.heap.size + 1 := by simp
  have b0 : Hid ((w.alloc (.cells #[.slice A n c] 59 (0, 0))).heap[w.heap.size]? = some (.cells #[.slice A n c] 59 (0, 0))) := heap_alloc_new w _
  go_enter Try.func5, Try.ntmps5
  by_cases hnv : ¬ nv ≤ 1048576
  · have hnvi : (1048576 : Int) < (nv : Int) := by omega
    go_wp2_with fail
    go_ret
    exact ⟨rfl, hk.bel⟩
  have hnv : nv ≤ 1048576 := by omega
  have hnvi : ¬ ((1048576 : Int) < (nv : Int)) := by omega
  have qb00 : (w.alloc (.cells #[.slice A n c] 59 (0, 0))).cell? ⟨w.heap.size, 0, none⟩ = some (.slice A n c) := by rw [Go.Joins.cell_of_block b0.out]; rfl
  go_wp2_with fail
  clear qb00
  generalize w.alloc (.cells #[.slice A n c] 59 (0, 0)) = w0 at *
  have hzl0 : w0.heap.size ≤ w.heap.size + 1 := by omega
  have hzg0 : w.heap.size + 1 ≤ w0.heap.size := by omega
  clear hzz
  have hz0 := hk.size
  have hB0 : Below w.heap.size w w0 := hB.trans (hk.bel.mono (by omega))
  clear hk
  refine (szOutline_any A n c 0 w.heap.size Ls 1048576 _ (hr.out.frame good_loop (Below.sameB hB0 (Nat.le_refl _))) hB0.size hm (by omega) (by omega)).mono ?_
  rintro e w1 ⟨r1, rfl, hr1, hc1⟩
  have hk := Keep.of_below hc1
  clear hc1
  have hz1 := hk.size
  have hB1 : Below w.heap.size w w1 := hB0.trans (hk.bel.mono (by omega))
  replace b0 := Lib.hid ((hk.block w.heap.size (by omega) (by omega)).trans b0.out)
  clear hk
  rcases hr1 with hn1 | ⟨hn1, he1⟩
  · go_wp2_with fail
    go_ret
    exact ⟨rfl, hB1⟩
  obtain ⟨sL⟩ : Nonempty (OutSm Ls) := ⟨⟨by have := he1; unfold outSize at this; omega, by have := he1; unfold outSize at this; unfold kN; omega⟩⟩
  have hn : n ≤ 1048576 := by rw [← hll.out]; exact sL.1
  have hkN := sL.2
  replace sL := Lib.hid sL
  clear he1
  have qb00 : w1.cell? ⟨w.heap.size, 0, none⟩ = some (.slice A n c) := by rw [Go.Joins.cell_of_block b0.out]; rfl
  have qb0l : w.heap.size < w1.heap.size := by omega
  go_wp2_with fail
  clear qb00 qb0l
  refine (toOutline_any A n c 0 w.heap.size Ls _ (hr.out.frame good_loop (Below.sameB hB1 (Nat.le_refl _))) hB1.size hn sL.out.k).mono ?_
  rintro e w2 ⟨A2, rfl, ho2, hc⟩
  have rd2 : Hid (OutRd w2 w1.heap.size w2.heap.size A2 n Ls) := ho2.rd (fun K h => by have := sL.out.k K h; unfold maxLen; omega)
  have hk := Keep.of_below hc
  clear hc
  have hz2 := hk.size
  have hB2 : Below w.heap.size w w2 := hB1.trans (hk.bel.mono (by omega))
  replace b0 := Lib.hid ((hk.block w.heap.size (by omega) (by omega)).trans b0.out)
  clear hk
  clear ho2
  go_wp2_with fail
  refine (toInt64S_any AV nv cv 0 w.heap.size V _ (hrv.out.frame (good_flat _) (Below.sameB hB2 (Nat.le_refl _))) hB2.size hnv).mono ?_
  rintro e w3 ⟨_, rfl, rfl, ho3, hc⟩
  have hlt3 : w2.heap.size < w3.heap.size := (ho3.lt _ rfl).2
  have row3 : Hid (RowIn w3 w2.heap.size nv V) := ⟨own_fresh ho3 rfl, hvl.out⟩
  have hzz := hc.size
  replace rd2 := Lib.hid (rd2.out.frame good_loop (Below.sameB hc (Nat.le_refl _)))
  have hk := Keep.of_below hc
  clear hc
  have hz3 := hk.size
  have hB3 : Below w.heap.size w w3 := hB2.trans (hk.bel.mono (by omega))
  replace b0 := Lib.hid ((hk.block w.heap.size (by omega) (by omega)).trans b0.out)
  clear hk
  clear ho3 hzz
  go_wp2_with fail
  refine (hspec.out A2 n n w1.heap.size w2.heap.size w2.heap.size w2.heap.size _ rd2.out (by omega) sL.out hnv row3.out.rd).mono ?_
  rintro e w4 ⟨h4, rfl, ho4, hc⟩
  have rdw : Hid (HinterRd w4 w3.heap.size w4.heap.size D.1 h4) := ho4.rd
  have hs4 := (ho4.small hsz.out).mono (show 1000000 ≤ 1000000000 by omega)
  have hk := Keep.of_below hc
  clear hc
  have hz4 := hk.size
  have hB4 : Below w.heap.size w w4 := hB3.trans (hk.bel.mono (by omega))
  replace b0 := Lib.hid ((hk.block w.heap.size (by omega) (by omega)).trans b0.out)
  clear hk
  clear ho4 rd2 row3
  have qb00 : w4.cell? ⟨w.heap.size, 0, none⟩ = some (.slice A n c) := by rw [Go.Joins.cell_of_block b0.out]; rfl
  have qb0l : w.heap.size < w4.heap.size := by omega
  have hk := Keep.of_below (Go.Joins.below_alloc1 w4 (.cells #[.int .i64 D.1.size, .slice h4.orig.A h4.orig.n h4.orig.c, .slice h4.now.A h4.now.n h4.now.c, .slice h4.tx.A h4.tx.n h4.tx.c, .slice h4.ty.A h4.ty.n h4.ty.c, .slice h4.ends.A h4.ends.n h4.ends.c, .slice h4.values.A h4.values.n h4.values.c, .slice h4.stack.A h4.stack.n h4.stack.c, .bool D.1.axisY, .int .i64 D.1.ref, .int .i64 D.1.state, .int .i64 D.1.cut, .int .i64 D.1.least] 65 (0, 0)))
  have hzz : (w4.alloc (.cells #[.int .i64 D.1.size, .slice h4.orig.A h4.orig.n h4.orig.c, .slice h4.now.A h4.now.n h4.now.c, .slice h4.tx.A h4.tx.n h4.tx.c, .slice h4.ty.A h4.ty.n h4.ty.c, .slice h4.ends.A h4.ends.n h4.ends.c, .slice h4.values.A h4.values.n h4.values.c, .slice h4.stack.A h4.stack.n h4.stack.c, .bool D.1.axisY, .int .i64 D.1.ref, .int .i64 D.1.state, .int .i64 D.1.cut, .int .i64 D.1.least] 65 (0, 0))).heap.size = w4.heap.size + 1 := by simp
  have b4 : Hid ((w4.alloc (.cells #[.int .i64 D.1.size, .slice h4.orig.A h4.orig.n h4.orig.c, .slice h4.now.A h4.now.n h4.now.c, .slice h4.tx.A h4.tx.n h4.tx.c, .slice h4.ty.A h4.ty.n h4.ty.c, .slice h4.ends.A h4.ends.n h4.ends.c, .slice h4.values.A h4.values.n h4.values.c, .slice h4.stack.A h4.stack.n h4.stack.c, .bool D.1.axisY, .int .i64 D.1.ref, .int .i64 D.1.state, .int .i64 D.1.cut, .int .i64 D.1.least] 65 (0, 0))).heap[w4.heap.size]? = some (.cells #[.int .i64 D.1.size, .slice h4.orig.A h4.orig.n h4.orig.c, .slice h4.now.A h4.now.n h4.now.c, .slice h4.tx.A h4.tx.n h4.tx.c, .slice h4.ty.A h4.ty.n h4.ty.c, .slice h4.ends.A h4.ends.n h4.ends.c, .slice h4.values.A h4.values.n h4.values.c, .slice h4.stack.A h4.stack.n h4.stack.c, .bool D.1.axisY, .int .i64 D.1.ref, .int .i64 D.1.state, .int .i64 D.1.cut, .int .i64 D.1.least] 65 (0, 0))) := heap_alloc_new w4 _
  go_wp2_with fail
  clear qb00 qb0l
  generalize w4.alloc (.cells #[.int .i64 D.1.size, .slice h4.orig.A h4.orig.n h4.orig.c, .slice h4.now.A h4.now.n h4.now.c, .slice h4.tx.A h4.tx.n h4.tx.c, .slice h4.ty.A h4.ty.n h4.ty.c, .slice h4.ends.A h4.ends.n h4.ends.c, .slice h4.values.A h4.values.n h4.values.c, .slice h4.stack.A h4.stack.n h4.stack.c, .bool D.1.axisY, .int .i64 D.1.ref, .int .i64 D.1.state, .int .i64 D.1.cut, .int .i64 D.1.least] 65 (0, 0)) = w5 at *
  have hzl5 : w5.heap.size ≤ w4.heap.size + 1 := by omega
  have hzg5 : w4.heap.size + 1 ≤ w5.heap.size := by omega
  clear hzz
  have hz5 := hk.size
  have hB5 : Below w.heap.size w w5 := hB4.trans (hk.bel.mono (by omega))
  replace b0 := Lib.hid ((hk.block w.heap.size (by omega) (by omega)).trans b0.out)
  replace rdw := Lib.hid (rdw.out.frame (hk.sameB (by omega) (by omega)))
  clear hk
  refine (toOutline_any A n c 0 w.heap.size Ls _ (hr.out.frame good_loop (Below.sameB hB5 (Nat.le_refl _))) hB5.size hn sL.out.k).mono ?_
  rintro e w6 ⟨A6, rfl, ho6, hc⟩
  obtain ⟨ys6, inx⟩ := ho6.in
  replace inx := Lib.hid inx
  have hk := Keep.of_below hc
  clear hc
  have hz6 := hk.size
  have hB6 : Below w.heap.size w w6 := hB5.trans (hk.bel.mono (by omega))
  replace b0 := Lib.hid ((hk.block w.heap.size (by omega) (by omega)).trans b0.out)
  replace b4 := Lib.hid ((hk.block w4.heap.size (by omega) (by omega)).trans b4.out)
  replace rdw := Lib.hid (rdw.out.frame (hk.sameB (by omega) (by omega)))
  clear hk
  clear ho6
  have hk := Keep.of_below (Go.Joins.below_alloc1 w6 (.cells #[.slice A6 n n] 46 (0, 0)))
  have hzz : (w6.alloc (.cells #[.slice A6 n n] 46 (0, 0))).heap.size = w6.heap.size + 1 := by simp
  have b6 : Hid ((w6.alloc (.cells #[.slice A6 n n] 46 (0, 0))).heap[w6.heap.size]? = some (.cells #[.slice A6 n n] 46 (0, 0))) := heap_alloc_new w6 _
  go_wp2_with fail
  generalize w6.alloc (.cells #[.slice A6 n n] 46 (0, 0)) = w7 at *
  have hzl7 : w7.heap.size ≤ w6.heap.size + 1 := by omega
  have hzg7 : w6.heap.size + 1 ≤ w7.heap.size := by omega
  clear hzz
  have hz7 := hk.size
  have hB7 : Below w.heap.size w w7 := hB6.trans (hk.bel.mono (by omega))
  replace b0 := Lib.hid ((hk.block w.heap.size (by omega) (by omega)).trans b0.out)
  replace b4 := Lib.hid ((hk.block w4.heap.size (by omega) (by omega)).trans b4.out)
  replace rdw := Lib.hid (rdw.out.frame (hk.sameB (by omega) (by omega)))
  replace inx := Lib.hid (inx.out.same (hk.sameB (by omega) (by omega)))
  clear hk
  refine (toInt64S_any AV nv cv 0 w.heap.size V _ (hrv.out.frame (good_flat _) (Below.sameB hB7 (Nat.le_refl _))) hB7.size hnv).mono ?_
  rintro e w8 ⟨_, rfl, rfl, ho8, hc⟩
  have hlt8 : w7.heap.size < w8.heap.size := (ho8.lt _ rfl).2
  have row8 : Hid (RowIn w8 w7.heap.size nv V) := ⟨own_fresh ho8 rfl, hvl.out⟩
  have hk := Keep.of_below hc
  clear hc
  have hz8 := hk.size
  have hB8 : Below w.heap.size w w8 := hB7.trans (hk.bel.mono (by omega))
  replace b0 := Lib.hid ((hk.block w.heap.size (by omega) (by omega)).trans b0.out)
  replace b4 := Lib.hid ((hk.block w4.heap.size (by omega) (by omega)).trans b4.out)
  replace b6 := Lib.hid ((hk.block w6.heap.size (by omega) (by omega)).trans b6.out)
  replace rdw := Lib.hid (rdw.out.frame (hk.sameB (by omega) (by omega)))
  replace inx := Lib.hid (inx.out.same (hk.sameB (by omega) (by omega)))
  clear hk
  clear ho8
  have qb60 : w8.cell? ⟨w6.heap.size, 0, none⟩ = some (.slice A6 n n) := by rw [Go.Joins.cell_of_block b6.out]; rfl
  have qb6l : w6.heap.size < w8.heap.size := by omega
  go_wp2_with fail
  clear qb60 qb6l
  refine (himpl.out A6 n n w5.heap.size w6.heap.size w7.heap.size w7.heap.size _ (inx.out.rdIn sL.out) (by omega) sL.out hnv row8.out.rd).mono ?_
  rintro e w9 ⟨h9, rfl, ho9, hc⟩
  have ing : Hid (HinIn w9 w8.heap.size w9.heap.size D.1 h9) := ⟨ho9, ho9.hi⟩
  have hs9 := ho9.small hsz.out
  have hs9b := hs9.mono (show 1000000 ≤ 1000000000 by omega)
  have hk := Keep.of_below hc
  clear hc
  have hz9 := hk.size
  have hB9 : Below w.heap.size w w9 := hB8.trans (hk.bel.mono (by omega))
  replace b0 := Lib.hid ((hk.block w.heap.size (by omega) (by omega)).trans b0.out)
  replace b4 := Lib.hid ((hk.block w4.heap.size (by omega) (by omega)).trans b4.out)
  replace b6 := Lib.hid ((hk.block w6.heap.size (by omega) (by omega)).trans b6.out)
  replace rdw := Lib.hid (rdw.out.frame (hk.sameB (by omega) (by omega)))
  replace inx := Lib.hid (inx.out.same (hk.sameB (by omega) (by omega)))
  replace row8 := Lib.hid (row8.out.same (hk.sameB (by omega) (by omega)))
  clear hk
  clear ho9
  have qb40 : w9.cell? ⟨w4.heap.size, 0, none⟩ = some (.int .i64 D.1.size) := by rw [Go.Joins.cell_of_block b4.out]; rfl
  have qb41 : w9.cell? ⟨w4.heap.size, 1, none⟩ = some (.slice h4.orig.A h4.orig.n h4.orig.c) := by rw [Go.Joins.cell_of_block b4.out]; rfl
  have qb42 : w9.cell? ⟨w4.heap.size, 2, none⟩ = some (.slice h4.now.A h4.now.n h4.now.c) := by rw [Go.Joins.cell_of_block b4.out]; rfl
  have qb43 : w9.cell? ⟨w4.heap.size, 3, none⟩ = some (.slice h4.tx.A h4.tx.n h4.tx.c) := by rw [Go.Joins.cell_of_block b4.out]; rfl
  have qb44 : w9.cell? ⟨w4.heap.size, 4, none⟩ = some (.slice h4.ty.A h4.ty.n h4.ty.c) := by rw [Go.Joins.cell_of_block b4.out]; rfl
  have qb45 : w9.cell? ⟨w4.heap.size, 5, none⟩ = some (.slice h4.ends.A h4.ends.n h4.ends.c) := by rw [Go.Joins.cell_of_block b4.out]; rfl
  have qb46 : w9.cell? ⟨w4.heap.size, 6, none⟩ = some (.slice h4.values.A h4.values.n h4.values.c) := by rw [Go.Joins.cell_of_block b4.out]; rfl
  have qb47 : w9.cell? ⟨w4.heap.size, 7, none⟩ = some (.slice h4.stack.A h4.stack.n h4.stack.c) := by rw [Go.Joins.cell_of_block b4.out]; rfl
  have qb48 : w9.cell? ⟨w4.heap.size, 8, none⟩ = some (.bool D.1.axisY) := by rw [Go.Joins.cell_of_block b4.out]; rfl
  have qb49 : w9.cell? ⟨w4.heap.size, 9, none⟩ = some (.int .i64 D.1.ref) := by rw [Go.Joins.cell_of_block b4.out]; rfl
  have qb410 : w9.cell? ⟨w4.heap.size, 10, none⟩ = some (.int .i64 D.1.state) := by rw [Go.Joins.cell_of_block b4.out]; rfl
  have qb411 : w9.cell? ⟨w4.heap.size, 11, none⟩ = some (.int .i64 D.1.cut) := by rw [Go.Joins.cell_of_block b4.out]; rfl
  have qb412 : w9.cell? ⟨w4.heap.size, 12, none⟩ = some (.int .i64 D.1.least) := by rw [Go.Joins.cell_of_block b4.out]; rfl
  have qb4l : w4.heap.size < w9.heap.size := by omega
  have hk := Keep.of_below (Go.Joins.below_alloc1 w9 (.cells #[.int .i64 D.1.size, .slice h9.orig.A h9.orig.n h9.orig.c, .slice h9.now.A h9.now.n h9.now.c, .slice h9.tx.A h9.tx.n h9.tx.c, .slice h9.ty.A h9.ty.n h9.ty.c, .slice h9.ends.A h9.ends.n h9.ends.c, .slice h9.values.A h9.values.n h9.values.c, .slice h9.stack.A h9.stack.n h9.stack.c, .bool D.1.axisY, .int .i64 D.1.ref, .int .i64 D.1.state, .int .i64 D.1.cut, .int .i64 D.1.least] 65 (0, 0)))
  have hzz : (w9.alloc (.cells #[.int .i64 D.1.size, .slice h9.orig.A h9.orig.n h9.orig.c, .slice h9.now.A h9.now.n h9.now.c, .slice h9.tx.A h9.tx.n h9.tx.c, .slice h9.ty.A h9.ty.n h9.ty.c, .slice h9.ends.A h9.ends.n h9.ends.c, .slice h9.values.A h9.values.n h9.values.c, .slice h9.stack.A h9.stack.n h9.stack.c, .bool D.1.axisY, .int .i64 D.1.ref, .int .i64 D.1.state, .int .i64 D.1.cut, .int .i64 D.1.least] 65 (0, 0))).heap.size = w9.heap.size + 1 := by simp
  have b9 : Hid ((w9.alloc (.cells #[.int .i64 D.1.size, .slice h9.orig.A h9.orig.n h9.orig.c, .slice h9.now.A h9.now.n h9.now.c, .slice h9.tx.A h9.tx.n h9.tx.c, .slice h9.ty.A h9.ty.n h9.ty.c, .slice h9.ends.A h9.ends.n h9.ends.c, .slice h9.values.A h9.values.n h9.values.c, .slice h9.stack.A h9.stack.n h9.stack.c, .bool D.1.axisY, .int .i64 D.1.ref, .int .i64 D.1.state, .int .i64 D.1.cut, .int .i64 D.1.least] 65 (0, 0))).heap[w9.heap.size]? = some (.cells #[.int .i64 D.1.size, .slice h9.orig.A h9.orig.n h9.orig.c, .slice h9.now.A h9.now.n h9.now.c, .slice h9.tx.A h9.tx.n h9.tx.c, .slice h9.ty.A h9.ty.n h9.ty.c, .slice h9.ends.A h9.ends.n h9.ends.c, .slice h9.values.A h9.values.n h9.values.c, .slice h9.stack.A h9.stack.n h9.stack.c, .bool D.1.axisY, .int .i64 D.1.ref, .int .i64 D.1.state, .int .i64 D.1.cut, .int .i64 D.1.least] 65 (0, 0))) := heap_alloc_new w9 _
  go_wp2_with fail
  clear qb40 qb41 qb42 qb43 qb44 qb45 qb46 qb47 qb48 qb49 qb410 qb411 qb412 qb4l
  generalize w9.alloc (.cells #[.int .i64 D.1.size, .slice h9.orig.A h9.orig.n h9.orig.c, .slice h9.now.A h9.now.n h9.now.c, .slice h9.tx.A h9.tx.n h9.tx.c, .slice h9.ty.A h9.ty.n h9.ty.c, .slice h9.ends.A h9.ends.n h9.ends.c, .slice h9.values.A h9.values.n h9.values.c, .slice h9.stack.A h9.stack.n h9.stack.c, .bool D.1.axisY, .int .i64 D.1.ref, .int .i64 D.1.state, .int .i64 D.1.cut, .int .i64 D.1.least] 65 (0, 0)) = w10 at *
  have hzl10 : w10.heap.size ≤ w9.heap.size + 1 := by omega
  have hzg10 : w9.heap.size + 1 ≤ w10.heap.size := by omega
  clear hzz
  have hz10 := hk.size
  have hB10 : Below w.heap.size w w10 := hB9.trans (hk.bel.mono (by omega))
  replace b0 := Lib.hid ((hk.block w.heap.size (by omega) (by omega)).trans b0.out)
  replace b4 := Lib.hid ((hk.block w4.heap.size (by omega) (by omega)).trans b4.out)
  replace b6 := Lib.hid ((hk.block w6.heap.size (by omega) (by omega)).trans b6.out)
  replace rdw := Lib.hid (rdw.out.frame (hk.sameB (by omega) (by omega)))
  replace inx := Lib.hid (inx.out.same (hk.sameB (by omega) (by omega)))
  replace row8 := Lib.hid (row8.out.same (hk.sameB (by omega) (by omega)))
  replace ing := Lib.hid (ing.out.same (hk.sameB (by omega) (by omega)))
  clear hk
  refine (eqHinter_any D.1 h9 h4 w8.heap.size w9.heap.size w3.heap.size w4.heap.size _ (ing.out.rdIn) rdw.out (by omega) (by omega) hs9b).mono ?_
  rintro e w11 ⟨rfl, hc⟩
  have hk := Keep.of_below hc
  clear hc
  have hz11 := hk.size
  have hB11 : Below w.heap.size w w11 := hB10.trans (hk.bel.mono (by omega))
  replace b0 := Lib.hid ((hk.block w.heap.size (by omega) (by omega)).trans b0.out)
  replace b4 := Lib.hid ((hk.block w4.heap.size (by omega) (by omega)).trans b4.out)
  replace b6 := Lib.hid ((hk.block w6.heap.size (by omega) (by omega)).trans b6.out)
  replace b9 := Lib.hid ((hk.block w9.heap.size (by omega) (by omega)).trans b9.out)
  replace rdw := Lib.hid (rdw.out.frame (hk.sameB (by omega) (by omega)))
  replace inx := Lib.hid (inx.out.same (hk.sameB (by omega) (by omega)))
  replace row8 := Lib.hid (row8.out.same (hk.sameB (by omega) (by omega)))
  replace ing := Lib.hid (ing.out.same (hk.sameB (by omega) (by omega)))
  clear hk
  have qb60 : w11.cell? ⟨w6.heap.size, 0, none⟩ = some (.slice A6 n n) := by rw [Go.Joins.cell_of_block b6.out]; rfl
  have qb6l : w6.heap.size < w11.heap.size := by omega
  have qb00 : w11.cell? ⟨w.heap.size, 0, none⟩ = some (.slice A n c) := by rw [Go.Joins.cell_of_block b0.out]; rfl
  have qb0l : w.heap.size < w11.heap.size := by omega
  go_wp2_with fail
  go_region_held3 (fun w' => w'.cell? ⟨w6.heap.size, 0, none⟩ = some (.slice A6 n n) ∧ w'.cell? ⟨w.heap.size, 0, none⟩ = some (.slice A n c)) (first | exact ⟨qb60, qb00⟩ | exact s12 | exact s13)
    (first
      | (go_at_call 30; (with_reducible refine (toOutline_any A n c 0 w.heap.size Ls _ ?_ ?_ hn sL.out.k).mono ?_); exact (hr.out.frame good_loop (Below.sameB hB11.drew (Nat.le_refl _))); exact hB11.size; rintro e w12 ⟨A12, rfl, ho12, hc12⟩; have hb12 : Below w11.heap.size w11 w12 := (Below.refl _ _).drew.trans hc12; have hz12 := hb12.size; have s12 : w12.cell? ⟨w6.heap.size, 0, none⟩ = some (.slice A6 n n) ∧ w12.cell? ⟨w.heap.size, 0, none⟩ = some (.slice A n c) := ⟨(hb12.cell (by simp; omega)).trans qb60, (hb12.cell (by simp; omega)).trans qb00⟩; have rd12 : Hid (OutRd w12 w11.heap.size w12.heap.size A12 n Ls) := ho12.rd (fun K h => by have := sL.out.k K h; unfold maxLen; omega); have inx12 := Lib.hid (inx.out.same (Below.sameB hb12 (by omega))); clear ho12 hc12)
      | (go_at_call 34; (with_reducible refine (eqOutline_any A6 A12 n n n n w5.heap.size w6.heap.size w11.heap.size w12.heap.size Ls _ ?_ ?_ ?_ ?_ ?_ ?_).mono ?_); exact inx12.out.rdIn sL.out; exact rd12.out; omega; exact Nat.le_refl _; omega; exact (fun K h => by have := sL.out.k K h; omega); rintro e w13 ⟨rfl, hc13⟩; have s13 : w13.cell? ⟨w6.heap.size, 0, none⟩ = some (.slice A6 n n) ∧ w13.cell? ⟨w.heap.size, 0, none⟩ = some (.slice A n c) := ⟨(hc13.cell (by simp; omega)).trans s12.1, (hc13.cell (by simp; omega)).trans s12.2⟩; have hk := Keep.of_below (hb12.trans (hc13.mono hz12)); clear hc13))
  clear qb60 qb6l qb00 qb0l
  clear s12 s13 rd12 inx12
  have hz13 := hk.size
  have hB13 : Below w.heap.size w w13 := hB11.trans (hk.bel.mono (by omega))
  replace b0 := Lib.hid ((hk.block w.heap.size (by omega) (by omega)).trans b0.out)
  replace b4 := Lib.hid ((hk.block w4.heap.size (by omega) (by omega)).trans b4.out)
  replace b6 := Lib.hid ((hk.block w6.heap.size (by omega) (by omega)).trans b6.out)
  replace b9 := Lib.hid ((hk.block w9.heap.size (by omega) (by omega)).trans b9.out)
  replace rdw := Lib.hid (rdw.out.frame (hk.sameB (by omega) (by omega)))
  replace inx := Lib.hid (inx.out.same (hk.sameB (by omega) (by omega)))
  replace row8 := Lib.hid (row8.out.same (hk.sameB (by omega) (by omega)))
  replace ing := Lib.hid (ing.out.same (hk.sameB (by omega) (by omega)))
  clear hk
  go_wp2_with fail
  refine (toInt64S_any AV nv cv 0 w.heap.size V _ (hrv.out.frame (good_flat _) (Below.sameB hB13 (Nat.le_refl _))) hB13.size hnv).mono ?_
  rintro e w14 ⟨_, rfl, rfl, ho14, hc⟩
  have hlt14 : w13.heap.size < w14.heap.size := (ho14.lt _ rfl).2
  have row14 : Hid (RowIn w14 w13.heap.size nv V) := ⟨own_fresh ho14 rfl, hvl.out⟩
  have hk := Keep.of_below hc
  clear hc
  have hz14 := hk.size
  have hB14 : Below w.heap.size w w14 := hB13.trans (hk.bel.mono (by omega))
  replace b0 := Lib.hid ((hk.block w.heap.size (by omega) (by omega)).trans b0.out)
  replace b4 := Lib.hid ((hk.block w4.heap.size (by omega) (by omega)).trans b4.out)
  replace b6 := Lib.hid ((hk.block w6.heap.size (by omega) (by omega)).trans b6.out)
  replace b9 := Lib.hid ((hk.block w9.heap.size (by omega) (by omega)).trans b9.out)
  replace rdw := Lib.hid (rdw.out.frame (hk.sameB (by omega) (by omega)))
  replace inx := Lib.hid (inx.out.same (hk.sameB (by omega) (by omega)))
  replace row8 := Lib.hid (row8.out.same (hk.sameB (by omega) (by omega)))
  replace ing := Lib.hid (ing.out.same (hk.sameB (by omega) (by omega)))
  clear hk
  clear ho14
  go_wp2_with fail
  refine (eqInt64S_any (some ⟨w7.heap.size, 0, none⟩) (some ⟨w13.heap.size, 0, none⟩) nv nv nv nv _ _ _ _ V _ row8.out.rd row14.out.rd (Nat.le_refl _) (Nat.le_refl _) (by omega)).mono ?_
  rintro e w15 ⟨rfl, hc⟩
  have hk := Keep.of_below hc
  clear hc
  have hz15 := hk.size
  have hB15 : Below w.heap.size w w15 := hB14.trans (hk.bel.mono (by omega))
  replace b0 := Lib.hid ((hk.block w.heap.size (by omega) (by omega)).trans b0.out)
  replace b4 := Lib.hid ((hk.block w4.heap.size (by omega) (by omega)).trans b4.out)
  replace b6 := Lib.hid ((hk.block w6.heap.size (by omega) (by omega)).trans b6.out)
  replace b9 := Lib.hid ((hk.block w9.heap.size (by omega) (by omega)).trans b9.out)
  replace rdw := Lib.hid (rdw.out.frame (hk.sameB (by omega) (by omega)))
  replace inx := Lib.hid (inx.out.same (hk.sameB (by omega) (by omega)))
  replace row8 := Lib.hid (row8.out.same (hk.sameB (by omega) (by omega)))
  replace ing := Lib.hid (ing.out.same (hk.sameB (by omega) (by omega)))
  clear hk
  clear row14
  have qb60 : w15.cell? ⟨w6.heap.size, 0, none⟩ = some (.slice A6 n n) := by rw [Go.Joins.cell_of_block b6.out]; rfl
  have qb6l : w6.heap.size < w15.heap.size := by omega
  go_wp2_with fail
  clear qb60 qb6l
  refine (markOutline_any A6 n n w5.heap.size w6.heap.size ys6 Ls 1 _ inx.out (by omega) (by omega) (by omega) (by omega) hn sL.out.2).mono ?_
  rintro e w16 ⟨rfl, hbm, hsm, _⟩
  have hk : Keep w5.heap.size w6.heap.size w15 w16 := ⟨hbm, hsm, hbm.size⟩
  clear hbm hsm inx
  have hz16 := hk.size
  have hB16 : Below w.heap.size w w16 := hB15.trans (hk.bel.mono (by omega))
  replace b0 := Lib.hid ((hk.block w.heap.size (by omega) (by omega)).trans b0.out)
  replace b4 := Lib.hid ((hk.block w4.heap.size (by omega) (by omega)).trans b4.out)
  replace b6 := Lib.hid ((hk.block w6.heap.size (by omega) (by omega)).trans b6.out)
  replace b9 := Lib.hid ((hk.block w9.heap.size (by omega) (by omega)).trans b9.out)
  replace rdw := Lib.hid (rdw.out.frame (hk.sameB (by omega) (by omega)))
  replace row8 := Lib.hid (row8.out.same (hk.sameB (by omega) (by omega)))
  replace ing := Lib.hid (ing.out.same (hk.sameB (by omega) (by omega)))
  clear hk
  obtain ⟨k1, hk1⟩ : ∃ k, k = 1 + 3 * (kN Ls : Int) := ⟨_, rfl⟩
  have hk1b : 0 ≤ k1 ∧ k1 ≤ 4000000 := by omega
  rw [← hk1]
  replace hk1 := Lib.hid hk1
  go_wp2_with fail
  refine (markInt64S_any (some ⟨w7.heap.size, 0, none⟩) nv nv w7.heap.size _ k1 _ row8.out.1 (by omega) (by omega) (by omega)).mono ?_
  rintro e w17 ⟨rfl, hg, _, hs⟩
  have hk := Keep.row hg hs
  clear hg hs row8
  have hz17 := hk.size
  have hB17 : Below w.heap.size w w17 := hB16.trans (hk.bel.mono (by omega))
  replace b0 := Lib.hid ((hk.block w.heap.size (by omega) (by omega)).trans b0.out)
  replace b4 := Lib.hid ((hk.block w4.heap.size (by omega) (by omega)).trans b4.out)
  replace b6 := Lib.hid ((hk.block w6.heap.size (by omega) (by omega)).trans b6.out)
  replace b9 := Lib.hid ((hk.block w9.heap.size (by omega) (by omega)).trans b9.out)
  replace rdw := Lib.hid (rdw.out.frame (hk.sameB (by omega) (by omega)))
  replace ing := Lib.hid (ing.out.same (hk.sameB (by omega) (by omega)))
  clear hk
  have hk2b : ¬ (k1 + (nv : Int) < 0) := by omega
  have qb90 : w17.cell? ⟨w9.heap.size, 0, none⟩ = some (.int .i64 D.1.size) := by rw [Go.Joins.cell_of_block b9.out]; rfl
  have qb91 : w17.cell? ⟨w9.heap.size, 1, none⟩ = some (.slice h9.orig.A h9.orig.n h9.orig.c) := by rw [Go.Joins.cell_of_block b9.out]; rfl
  have qb92 : w17.cell? ⟨w9.heap.size, 2, none⟩ = some (.slice h9.now.A h9.now.n h9.now.c) := by rw [Go.Joins.cell_of_block b9.out]; rfl
  have qb93 : w17.cell? ⟨w9.heap.size, 3, none⟩ = some (.slice h9.tx.A h9.tx.n h9.tx.c) := by rw [Go.Joins.cell_of_block b9.out]; rfl
  have qb94 : w17.cell? ⟨w9.heap.size, 4, none⟩ = some (.slice h9.ty.A h9.ty.n h9.ty.c) := by rw [Go.Joins.cell_of_block b9.out]; rfl
  have qb95 : w17.cell? ⟨w9.heap.size, 5, none⟩ = some (.slice h9.ends.A h9.ends.n h9.ends.c) := by rw [Go.Joins.cell_of_block b9.out]; rfl
  have qb96 : w17.cell? ⟨w9.heap.size, 6, none⟩ = some (.slice h9.values.A h9.values.n h9.values.c) := by rw [Go.Joins.cell_of_block b9.out]; rfl
  have qb97 : w17.cell? ⟨w9.heap.size, 7, none⟩ = some (.slice h9.stack.A h9.stack.n h9.stack.c) := by rw [Go.Joins.cell_of_block b9.out]; rfl
  have qb98 : w17.cell? ⟨w9.heap.size, 8, none⟩ = some (.bool D.1.axisY) := by rw [Go.Joins.cell_of_block b9.out]; rfl
  have qb99 : w17.cell? ⟨w9.heap.size, 9, none⟩ = some (.int .i64 D.1.ref) := by rw [Go.Joins.cell_of_block b9.out]; rfl
  have qb910 : w17.cell? ⟨w9.heap.size, 10, none⟩ = some (.int .i64 D.1.state) := by rw [Go.Joins.cell_of_block b9.out]; rfl
  have qb911 : w17.cell? ⟨w9.heap.size, 11, none⟩ = some (.int .i64 D.1.cut) := by rw [Go.Joins.cell_of_block b9.out]; rfl
  have qb912 : w17.cell? ⟨w9.heap.size, 12, none⟩ = some (.int .i64 D.1.least) := by rw [Go.Joins.cell_of_block b9.out]; rfl
  have qb9l : w9.heap.size < w17.heap.size := by omega
  have qb40 : w17.cell? ⟨w4.heap.size, 0, none⟩ = some (.int .i64 D.1.size) := by rw [Go.Joins.cell_of_block b4.out]; rfl
  have qb41 : w17.cell? ⟨w4.heap.size, 1, none⟩ = some (.slice h4.orig.A h4.orig.n h4.orig.c) := by rw [Go.Joins.cell_of_block b4.out]; rfl
  have qb42 : w17.cell? ⟨w4.heap.size, 2, none⟩ = some (.slice h4.now.A h4.now.n h4.now.c) := by rw [Go.Joins.cell_of_block b4.out]; rfl
  have qb43 : w17.cell? ⟨w4.heap.size, 3, none⟩ = some (.slice h4.tx.A h4.tx.n h4.tx.c) := by rw [Go.Joins.cell_of_block b4.out]; rfl
  have qb44 : w17.cell? ⟨w4.heap.size, 4, none⟩ = some (.slice h4.ty.A h4.ty.n h4.ty.c) := by rw [Go.Joins.cell_of_block b4.out]; rfl
  have qb45 : w17.cell? ⟨w4.heap.size, 5, none⟩ = some (.slice h4.ends.A h4.ends.n h4.ends.c) := by rw [Go.Joins.cell_of_block b4.out]; rfl
  have qb46 : w17.cell? ⟨w4.heap.size, 6, none⟩ = some (.slice h4.values.A h4.values.n h4.values.c) := by rw [Go.Joins.cell_of_block b4.out]; rfl
  have qb47 : w17.cell? ⟨w4.heap.size, 7, none⟩ = some (.slice h4.stack.A h4.stack.n h4.stack.c) := by rw [Go.Joins.cell_of_block b4.out]; rfl
  have qb48 : w17.cell? ⟨w4.heap.size, 8, none⟩ = some (.bool D.1.axisY) := by rw [Go.Joins.cell_of_block b4.out]; rfl
  have qb49 : w17.cell? ⟨w4.heap.size, 9, none⟩ = some (.int .i64 D.1.ref) := by rw [Go.Joins.cell_of_block b4.out]; rfl
  have qb410 : w17.cell? ⟨w4.heap.size, 10, none⟩ = some (.int .i64 D.1.state) := by rw [Go.Joins.cell_of_block b4.out]; rfl
  have qb411 : w17.cell? ⟨w4.heap.size, 11, none⟩ = some (.int .i64 D.1.cut) := by rw [Go.Joins.cell_of_block b4.out]; rfl
  have qb412 : w17.cell? ⟨w4.heap.size, 12, none⟩ = some (.int .i64 D.1.least) := by rw [Go.Joins.cell_of_block b4.out]; rfl
  have qb4l : w4.heap.size < w17.heap.size := by omega
  go_wp2_with fail
  clear qb90 qb91 qb92 qb93 qb94 qb95 qb96 qb97 qb98 qb99 qb910 qb911 qb912 qb9l qb40 qb41 qb42 qb43 qb44 qb45 qb46 qb47 qb48 qb49 qb410 qb411 qb412 qb4l
  refine (eqHinter_any D.1 h9 h4 w8.heap.size w9.heap.size w3.heap.size w4.heap.size _ (ing.out.rdIn) rdw.out (by omega) (by omega) hs9b).mono ?_
  rintro e w18 ⟨rfl, hc⟩
  have hk := Keep.of_below hc
  clear hc
  have hz18 := hk.size
  have hB18 : Below w.heap.size w w18 := hB17.trans (hk.bel.mono (by omega))
  replace b0 := Lib.hid ((hk.block w.heap.size (by omega) (by omega)).trans b0.out)
  replace b4 := Lib.hid ((hk.block w4.heap.size (by omega) (by omega)).trans b4.out)
  replace b6 := Lib.hid ((hk.block w6.heap.size (by omega) (by omega)).trans b6.out)
  replace b9 := Lib.hid ((hk.block w9.heap.size (by omega) (by omega)).trans b9.out)
  replace rdw := Lib.hid (rdw.out.frame (hk.sameB (by omega) (by omega)))
  replace ing := Lib.hid (ing.out.same (hk.sameB (by omega) (by omega)))
  clear hk
  have qb90 : w18.cell? ⟨w9.heap.size, 0, none⟩ = some (.int .i64 D.1.size) := by rw [Go.Joins.cell_of_block b9.out]; rfl
  have qb91 : w18.cell? ⟨w9.heap.size, 1, none⟩ = some (.slice h9.orig.A h9.orig.n h9.orig.c) := by rw [Go.Joins.cell_of_block b9.out]; rfl
  have qb92 : w18.cell? ⟨w9.heap.size, 2, none⟩ = some (.slice h9.now.A h9.now.n h9.now.c) := by rw [Go.Joins.cell_of_block b9.out]; rfl
  have qb93 : w18.cell? ⟨w9.heap.size, 3, none⟩ = some (.slice h9.tx.A h9.tx.n h9.tx.c) := by rw [Go.Joins.cell_of_block b9.out]; rfl
  have qb94 : w18.cell? ⟨w9.heap.size, 4, none⟩ = some (.slice h9.ty.A h9.ty.n h9.ty.c) := by rw [Go.Joins.cell_of_block b9.out]; rfl
  have qb95 : w18.cell? ⟨w9.heap.size, 5, none⟩ = some (.slice h9.ends.A h9.ends.n h9.ends.c) := by rw [Go.Joins.cell_of_block b9.out]; rfl
  have qb96 : w18.cell? ⟨w9.heap.size, 6, none⟩ = some (.slice h9.values.A h9.values.n h9.values.c) := by rw [Go.Joins.cell_of_block b9.out]; rfl
  have qb97 : w18.cell? ⟨w9.heap.size, 7, none⟩ = some (.slice h9.stack.A h9.stack.n h9.stack.c) := by rw [Go.Joins.cell_of_block b9.out]; rfl
  have qb98 : w18.cell? ⟨w9.heap.size, 8, none⟩ = some (.bool D.1.axisY) := by rw [Go.Joins.cell_of_block b9.out]; rfl
  have qb99 : w18.cell? ⟨w9.heap.size, 9, none⟩ = some (.int .i64 D.1.ref) := by rw [Go.Joins.cell_of_block b9.out]; rfl
  have qb910 : w18.cell? ⟨w9.heap.size, 10, none⟩ = some (.int .i64 D.1.state) := by rw [Go.Joins.cell_of_block b9.out]; rfl
  have qb911 : w18.cell? ⟨w9.heap.size, 11, none⟩ = some (.int .i64 D.1.cut) := by rw [Go.Joins.cell_of_block b9.out]; rfl
  have qb912 : w18.cell? ⟨w9.heap.size, 12, none⟩ = some (.int .i64 D.1.least) := by rw [Go.Joins.cell_of_block b9.out]; rfl
  have qb9l : w9.heap.size < w18.heap.size := by omega
  go_wp2_with fail
  clear qb90 qb91 qb92 qb93 qb94 qb95 qb96 qb97 qb98 qb99 qb910 qb911 qb912 qb9l
  refine (markHinter_any D.1 h9 w8.heap.size w9.heap.size 1 _ ing.out.1 ing.out.2 (by omega) (by omega) hs9 (by omega) (by omega)).mono ?_
  rintro e w19 ⟨rfl, hown, hbm, hsm, hzm⟩
  have hk : Keep w8.heap.size w9.heap.size w18 w19 := ⟨hbm, hsm, hzm⟩
  have ingm : Hid (HinIn w19 w8.heap.size w9.heap.size (mkHin 1 D.1 h9) h9) := ⟨hown, ing.out.2⟩
  clear hbm hsm hzm ing hown
  have hz19 := hk.size
  have hB19 : Below w.heap.size w w19 := hB18.trans (hk.bel.mono (by omega))
  replace b0 := Lib.hid ((hk.block w.heap.size (by omega) (by omega)).trans b0.out)
  replace b4 := Lib.hid ((hk.block w4.heap.size (by omega) (by omega)).trans b4.out)
  replace b6 := Lib.hid ((hk.block w6.heap.size (by omega) (by omega)).trans b6.out)
  replace b9 := Lib.hid ((hk.block w9.heap.size (by omega) (by omega)).trans b9.out)
  replace rdw := Lib.hid (rdw.out.frame (hk.sameB (by omega) (by omega)))
  clear hk
  obtain ⟨m1, hm1⟩ : ∃ m, m = 1 + hinN h9 := ⟨_, rfl⟩
  have hm1b : ¬ (m1 < 0) := by unfold hinN at hm1; omega
  have hheld := Lib.hid (fun (W : World) (hx : HinIn W w8.heap.size w9.heap.size (mkHin 1 D.1 h9) h9) (h2 : w9.heap.size ≤ W.heap.size) => heldHinter_any D.1 h9 w8.heap.size w9.heap.size 1 W hx.rdIn h2 hs9 (by omega) (by omega))
  rw [← hm1] at hheld
  rw [← hm1]
  replace hm1 := Lib.hid hm1
  have qb90 : w19.cell? ⟨w9.heap.size, 0, none⟩ = some (.int .i64 D.1.size) := by rw [Go.Joins.cell_of_block b9.out]; rfl
  have qb91 : w19.cell? ⟨w9.heap.size, 1, none⟩ = some (.slice h9.orig.A h9.orig.n h9.orig.c) := by rw [Go.Joins.cell_of_block b9.out]; rfl
  have qb92 : w19.cell? ⟨w9.heap.size, 2, none⟩ = some (.slice h9.now.A h9.now.n h9.now.c) := by rw [Go.Joins.cell_of_block b9.out]; rfl
  have qb93 : w19.cell? ⟨w9.heap.size, 3, none⟩ = some (.slice h9.tx.A h9.tx.n h9.tx.c) := by rw [Go.Joins.cell_of_block b9.out]; rfl
  have qb94 : w19.cell? ⟨w9.heap.size, 4, none⟩ = some (.slice h9.ty.A h9.ty.n h9.ty.c) := by rw [Go.Joins.cell_of_block b9.out]; rfl
  have qb95 : w19.cell? ⟨w9.heap.size, 5, none⟩ = some (.slice h9.ends.A h9.ends.n h9.ends.c) := by rw [Go.Joins.cell_of_block b9.out]; rfl
  have qb96 : w19.cell? ⟨w9.heap.size, 6, none⟩ = some (.slice h9.values.A h9.values.n h9.values.c) := by rw [Go.Joins.cell_of_block b9.out]; rfl
  have qb97 : w19.cell? ⟨w9.heap.size, 7, none⟩ = some (.slice h9.stack.A h9.stack.n h9.stack.c) := by rw [Go.Joins.cell_of_block b9.out]; rfl
  have qb98 : w19.cell? ⟨w9.heap.size, 8, none⟩ = some (.bool D.1.axisY) := by rw [Go.Joins.cell_of_block b9.out]; rfl
  have qb99 : w19.cell? ⟨w9.heap.size, 9, none⟩ = some (.int .i64 D.1.ref) := by rw [Go.Joins.cell_of_block b9.out]; rfl
  have qb910 : w19.cell? ⟨w9.heap.size, 10, none⟩ = some (.int .i64 D.1.state) := by rw [Go.Joins.cell_of_block b9.out]; rfl
  have qb911 : w19.cell? ⟨w9.heap.size, 11, none⟩ = some (.int .i64 D.1.cut) := by rw [Go.Joins.cell_of_block b9.out]; rfl
  have qb912 : w19.cell? ⟨w9.heap.size, 12, none⟩ = some (.int .i64 D.1.least) := by rw [Go.Joins.cell_of_block b9.out]; rfl
  have qb9l : w9.heap.size < w19.heap.size := by omega
  go_wp2_with fail
  clear qb90 qb91 qb92 qb93 qb94 qb95 qb96 qb97 qb98 qb99 qb910 qb911 qb912 qb9l
  refine (hheld.out _ ingm.out (by omega)).mono ?_
  rintro e w20 ⟨rfl, hc⟩
  have hk := Keep.of_below hc
  clear hc
  have hz20 := hk.size
  have hB20 : Below w.heap.size w w20 := hB19.trans (hk.bel.mono (by omega))
  replace b0 := Lib.hid ((hk.block w.heap.size (by omega) (by omega)).trans b0.out)
  replace b4 := Lib.hid ((hk.block w4.heap.size (by omega) (by omega)).trans b4.out)
  replace b6 := Lib.hid ((hk.block w6.heap.size (by omega) (by omega)).trans b6.out)
  replace b9 := Lib.hid ((hk.block w9.heap.size (by omega) (by omega)).trans b9.out)
  replace rdw := Lib.hid (rdw.out.frame (hk.sameB (by omega) (by omega)))
  replace ingm := Lib.hid (ingm.out.same (hk.sameB (by omega) (by omega)))
  clear hk
  have qb00 : w20.cell? ⟨w.heap.size, 0, none⟩ = some (.slice A n c) := by rw [Go.Joins.cell_of_block b0.out]; rfl
  have qb0l : w.heap.size < w20.heap.size := by omega
  go_wp2_with fail
  clear qb00 qb0l
  refine (toOutline_any A n c 0 w.heap.size Ls _ (hr.out.frame good_loop (Below.sameB hB20 (Nat.le_refl _))) hB20.size hn sL.out.k).mono ?_
  rintro e w21 ⟨A21, rfl, ho21, hc⟩
  have rd21 : Hid (OutRd w21 w20.heap.size w21.heap.size A21 n Ls) := ho21.rd (fun K h => by have := sL.out.k K h; unfold maxLen; omega)
  have hk := Keep.of_below hc
  clear hc
  have hz21 := hk.size
  have hB21 : Below w.heap.size w w21 := hB20.trans (hk.bel.mono (by omega))
  replace b0 := Lib.hid ((hk.block w.heap.size (by omega) (by omega)).trans b0.out)
  replace b4 := Lib.hid ((hk.block w4.heap.size (by omega) (by omega)).trans b4.out)
  replace b6 := Lib.hid ((hk.block w6.heap.size (by omega) (by omega)).trans b6.out)
  replace b9 := Lib.hid ((hk.block w9.heap.size (by omega) (by omega)).trans b9.out)
  replace rdw := Lib.hid (rdw.out.frame (hk.sameB (by omega) (by omega)))
  replace ingm := Lib.hid (ingm.out.same (hk.sameB (by omega) (by omega)))
  clear hk
  clear ho21
  go_wp2_with fail
  refine (toInt64S_any AV nv cv 0 w.heap.size V _ (hrv.out.frame (good_flat _) (Below.sameB hB21 (Nat.le_refl _))) hB21.size hnv).mono ?_
  rintro e w22 ⟨_, rfl, rfl, ho22, hc⟩
  have hlt22 : w21.heap.size < w22.heap.size := (ho22.lt _ rfl).2
  have row22 : Hid (RowIn w22 w21.heap.size nv V) := ⟨own_fresh ho22 rfl, hvl.out⟩
  replace rd21 := Lib.hid (rd21.out.frame good_loop (Below.sameB hc (Nat.le_refl _)))
  have hk := Keep.of_below hc
  clear hc
  have hz22 := hk.size
  have hB22 : Below w.heap.size w w22 := hB21.trans (hk.bel.mono (by omega))
  replace b0 := Lib.hid ((hk.block w.heap.size (by omega) (by omega)).trans b0.out)
  replace b4 := Lib.hid ((hk.block w4.heap.size (by omega) (by omega)).trans b4.out)
  replace b6 := Lib.hid ((hk.block w6.heap.size (by omega) (by omega)).trans b6.out)
  replace b9 := Lib.hid ((hk.block w9.heap.size (by omega) (by omega)).trans b9.out)
  replace rdw := Lib.hid (rdw.out.frame (hk.sameB (by omega) (by omega)))
  replace ingm := Lib.hid (ingm.out.same (hk.sameB (by omega) (by omega)))
  clear hk
  clear ho22
  go_wp2_with fail
  refine (himpl.out A21 n n w20.heap.size w21.heap.size w21.heap.size w21.heap.size _ rd21.out (by omega) sL.out hnv row22.out.rd).mono ?_
  rintro e w23 ⟨h23, rfl, ho23, hc⟩
  have rdh : Hid (HinterRd w23 w22.heap.size w23.heap.size D.1 h23) := ho23.rd
  have hs23 := (ho23.small hsz.out).mono (show 1000000 ≤ 1000000000 by omega)
  have hk := Keep.of_below hc
  clear hc
  have hz23 := hk.size
  have hB23 : Below w.heap.size w w23 := hB22.trans (hk.bel.mono (by omega))
  replace b0 := Lib.hid ((hk.block w.heap.size (by omega) (by omega)).trans b0.out)
  replace b4 := Lib.hid ((hk.block w4.heap.size (by omega) (by omega)).trans b4.out)
  replace b6 := Lib.hid ((hk.block w6.heap.size (by omega) (by omega)).trans b6.out)
  replace b9 := Lib.hid ((hk.block w9.heap.size (by omega) (by omega)).trans b9.out)
  replace rdw := Lib.hid (rdw.out.frame (hk.sameB (by omega) (by omega)))
  replace ingm := Lib.hid (ingm.out.same (hk.sameB (by omega) (by omega)))
  clear hk
  clear ho23 rd21 row22
  have qb40 : w23.cell? ⟨w4.heap.size, 0, none⟩ = some (.int .i64 D.1.size) := by rw [Go.Joins.cell_of_block b4.out]; rfl
  have qb41 : w23.cell? ⟨w4.heap.size, 1, none⟩ = some (.slice h4.orig.A h4.orig.n h4.orig.c) := by rw [Go.Joins.cell_of_block b4.out]; rfl
  have qb42 : w23.cell? ⟨w4.heap.size, 2, none⟩ = some (.slice h4.now.A h4.now.n h4.now.c) := by rw [Go.Joins.cell_of_block b4.out]; rfl
  have qb43 : w23.cell? ⟨w4.heap.size, 3, none⟩ = some (.slice h4.tx.A h4.tx.n h4.tx.c) := by rw [Go.Joins.cell_of_block b4.out]; rfl
  have qb44 : w23.cell? ⟨w4.heap.size, 4, none⟩ = some (.slice h4.ty.A h4.ty.n h4.ty.c) := by rw [Go.Joins.cell_of_block b4.out]; rfl
  have qb45 : w23.cell? ⟨w4.heap.size, 5, none⟩ = some (.slice h4.ends.A h4.ends.n h4.ends.c) := by rw [Go.Joins.cell_of_block b4.out]; rfl
  have qb46 : w23.cell? ⟨w4.heap.size, 6, none⟩ = some (.slice h4.values.A h4.values.n h4.values.c) := by rw [Go.Joins.cell_of_block b4.out]; rfl
  have qb47 : w23.cell? ⟨w4.heap.size, 7, none⟩ = some (.slice h4.stack.A h4.stack.n h4.stack.c) := by rw [Go.Joins.cell_of_block b4.out]; rfl
  have qb48 : w23.cell? ⟨w4.heap.size, 8, none⟩ = some (.bool D.1.axisY) := by rw [Go.Joins.cell_of_block b4.out]; rfl
  have qb49 : w23.cell? ⟨w4.heap.size, 9, none⟩ = some (.int .i64 D.1.ref) := by rw [Go.Joins.cell_of_block b4.out]; rfl
  have qb410 : w23.cell? ⟨w4.heap.size, 10, none⟩ = some (.int .i64 D.1.state) := by rw [Go.Joins.cell_of_block b4.out]; rfl
  have qb411 : w23.cell? ⟨w4.heap.size, 11, none⟩ = some (.int .i64 D.1.cut) := by rw [Go.Joins.cell_of_block b4.out]; rfl
  have qb412 : w23.cell? ⟨w4.heap.size, 12, none⟩ = some (.int .i64 D.1.least) := by rw [Go.Joins.cell_of_block b4.out]; rfl
  have qb4l : w4.heap.size < w23.heap.size := by omega
  have hk := Keep.of_below (Go.Joins.below_alloc1 w23 (.cells #[.int .i64 D.1.size, .slice h23.orig.A h23.orig.n h23.orig.c, .slice h23.now.A h23.now.n h23.now.c, .slice h23.tx.A h23.tx.n h23.tx.c, .slice h23.ty.A h23.ty.n h23.ty.c, .slice h23.ends.A h23.ends.n h23.ends.c, .slice h23.values.A h23.values.n h23.values.c, .slice h23.stack.A h23.stack.n h23.stack.c, .bool D.1.axisY, .int .i64 D.1.ref, .int .i64 D.1.state, .int .i64 D.1.cut, .int .i64 D.1.least] 65 (0, 0)))
  have hzz : (w23.alloc (.cells #[.int .i64 D.1.size, .slice h23.orig.A h23.orig.n h23.orig.c, .slice h23.now.A h23.now.n h23.now.c, .slice h23.tx.A h23.tx.n h23.tx.c, .slice h23.ty.A h23.ty.n h23.ty.c, .slice h23.ends.A h23.ends.n h23.ends.c, .slice h23.values.A h23.values.n h23.values.c, .slice h23.stack.A h23.stack.n h23.stack.c, .bool D.1.axisY, .int .i64 D.1.ref, .int .i64 D.1.state, .int .i64 D.1.cut, .int .i64 D.1.least] 65 (0, 0))).heap.size = w23.heap.size + 1 := by simp
  have b23 : Hid ((w23.alloc (.cells #[.int .i64 D.1.size, .slice h23.orig.A h23.orig.n h23.orig.c, .slice h23.now.A h23.now.n h23.now.c, .slice h23.tx.A h23.tx.n h23.tx.c, .slice h23.ty.A h23.ty.n h23.ty.c, .slice h23.ends.A h23.ends.n h23.ends.c, .slice h23.values.A h23.values.n h23.values.c, .slice h23.stack.A h23.stack.n h23.stack.c, .bool D.1.axisY, .int .i64 D.1.ref, .int .i64 D.1.state, .int .i64 D.1.cut, .int .i64 D.1.least] 65 (0, 0))).heap[w23.heap.size]? = some (.cells #[.int .i64 D.1.size, .slice h23.orig.A h23.orig.n h23.orig.c, .slice h23.now.A h23.now.n h23.now.c, .slice h23.tx.A h23.tx.n h23.tx.c, .slice h23.ty.A h23.ty.n h23.ty.c, .slice h23.ends.A h23.ends.n h23.ends.c, .slice h23.values.A h23.values.n h23.values.c, .slice h23.stack.A h23.stack.n h23.stack.c, .bool D.1.axisY, .int .i64 D.1.ref, .int .i64 D.1.state, .int .i64 D.1.cut, .int .i64 D.1.least] 65 (0, 0))) := heap_alloc_new w23 _
  go_wp2_with fail
  clear qb40 qb41 qb42 qb43 qb44 qb45 qb46 qb47 qb48 qb49 qb410 qb411 qb412 qb4l
  generalize w23.alloc (.cells #[.int .i64 D.1.size, .slice h23.orig.A h23.orig.n h23.orig.c, .slice h23.now.A h23.now.n h23.now.c, .slice h23.tx.A h23.tx.n h23.tx.c, .slice h23.ty.A h23.ty.n h23.ty.c, .slice h23.ends.A h23.ends.n h23.ends.c, .slice h23.values.A h23.values.n h23.values.c, .slice h23.stack.A h23.stack.n h23.stack.c, .bool D.1.axisY, .int .i64 D.1.ref, .int .i64 D.1.state, .int .i64 D.1.cut, .int .i64 D.1.least] 65 (0, 0)) = w24 at *
  have hzl24 : w24.heap.size ≤ w23.heap.size + 1 := by omega
  have hzg24 : w23.heap.size + 1 ≤ w24.heap.size := by omega
  clear hzz
  have hz24 := hk.size
  have hB24 : Below w.heap.size w w24 := hB23.trans (hk.bel.mono (by omega))
  replace b0 := Lib.hid ((hk.block w.heap.size (by omega) (by omega)).trans b0.out)
  replace b4 := Lib.hid ((hk.block w4.heap.size (by omega) (by omega)).trans b4.out)
  replace b6 := Lib.hid ((hk.block w6.heap.size (by omega) (by omega)).trans b6.out)
  replace b9 := Lib.hid ((hk.block w9.heap.size (by omega) (by omega)).trans b9.out)
  replace rdw := Lib.hid (rdw.out.frame (hk.sameB (by omega) (by omega)))
  replace ingm := Lib.hid (ingm.out.same (hk.sameB (by omega) (by omega)))
  replace rdh := Lib.hid (rdh.out.frame (hk.sameB (by omega) (by omega)))
  clear hk
  refine (eqHinter_any D.1 h23 h4 w22.heap.size w23.heap.size w3.heap.size w4.heap.size _ rdh.out rdw.out (by omega) (by omega) hs23).mono ?_
  rintro e w25 ⟨rfl, hc⟩
  have hk := Keep.of_below hc
  clear hc
  have hz25 := hk.size
  have hB25 : Below w.heap.size w w25 := hB24.trans (hk.bel.mono (by omega))
  replace b0 := Lib.hid ((hk.block w.heap.size (by omega) (by omega)).trans b0.out)
  replace b4 := Lib.hid ((hk.block w4.heap.size (by omega) (by omega)).trans b4.out)
  replace b6 := Lib.hid ((hk.block w6.heap.size (by omega) (by omega)).trans b6.out)
  replace b9 := Lib.hid ((hk.block w9.heap.size (by omega) (by omega)).trans b9.out)
  replace b23 := Lib.hid ((hk.block w23.heap.size (by omega) (by omega)).trans b23.out)
  replace rdw := Lib.hid (rdw.out.frame (hk.sameB (by omega) (by omega)))
  replace ingm := Lib.hid (ingm.out.same (hk.sameB (by omega) (by omega)))
  replace rdh := Lib.hid (rdh.out.frame (hk.sameB (by omega) (by omega)))
  clear hk
  have qb90 : w25.cell? ⟨w9.heap.size, 0, none⟩ = some (.int .i64 D.1.size) := by rw [Go.Joins.cell_of_block b9.out]; rfl
  have qb91 : w25.cell? ⟨w9.heap.size, 1, none⟩ = some (.slice h9.orig.A h9.orig.n h9.orig.c) := by rw [Go.Joins.cell_of_block b9.out]; rfl
  have qb92 : w25.cell? ⟨w9.heap.size, 2, none⟩ = some (.slice h9.now.A h9.now.n h9.now.c) := by rw [Go.Joins.cell_of_block b9.out]; rfl
  have qb93 : w25.cell? ⟨w9.heap.size, 3, none⟩ = some (.slice h9.tx.A h9.tx.n h9.tx.c) := by rw [Go.Joins.cell_of_block b9.out]; rfl
  have qb94 : w25.cell? ⟨w9.heap.size, 4, none⟩ = some (.slice h9.ty.A h9.ty.n h9.ty.c) := by rw [Go.Joins.cell_of_block b9.out]; rfl
  have qb95 : w25.cell? ⟨w9.heap.size, 5, none⟩ = some (.slice h9.ends.A h9.ends.n h9.ends.c) := by rw [Go.Joins.cell_of_block b9.out]; rfl
  have qb96 : w25.cell? ⟨w9.heap.size, 6, none⟩ = some (.slice h9.values.A h9.values.n h9.values.c) := by rw [Go.Joins.cell_of_block b9.out]; rfl
  have qb97 : w25.cell? ⟨w9.heap.size, 7, none⟩ = some (.slice h9.stack.A h9.stack.n h9.stack.c) := by rw [Go.Joins.cell_of_block b9.out]; rfl
  have qb98 : w25.cell? ⟨w9.heap.size, 8, none⟩ = some (.bool D.1.axisY) := by rw [Go.Joins.cell_of_block b9.out]; rfl
  have qb99 : w25.cell? ⟨w9.heap.size, 9, none⟩ = some (.int .i64 D.1.ref) := by rw [Go.Joins.cell_of_block b9.out]; rfl
  have qb910 : w25.cell? ⟨w9.heap.size, 10, none⟩ = some (.int .i64 D.1.state) := by rw [Go.Joins.cell_of_block b9.out]; rfl
  have qb911 : w25.cell? ⟨w9.heap.size, 11, none⟩ = some (.int .i64 D.1.cut) := by rw [Go.Joins.cell_of_block b9.out]; rfl
  have qb912 : w25.cell? ⟨w9.heap.size, 12, none⟩ = some (.int .i64 D.1.least) := by rw [Go.Joins.cell_of_block b9.out]; rfl
  have qb9l : w9.heap.size < w25.heap.size := by omega
  go_wp2_with fail
  clear qb90 qb91 qb92 qb93 qb94 qb95 qb96 qb97 qb98 qb99 qb910 qb911 qb912 qb9l
  refine (hheld.out _ ingm.out (by omega)).mono ?_
  rintro e w26 ⟨rfl, hc⟩
  have hk := Keep.of_below hc
  clear hc
  have hz26 := hk.size
  have hB26 : Below w.heap.size w w26 := hB25.trans (hk.bel.mono (by omega))
  replace b0 := Lib.hid ((hk.block w.heap.size (by omega) (by omega)).trans b0.out)
  replace b4 := Lib.hid ((hk.block w4.heap.size (by omega) (by omega)).trans b4.out)
  replace b6 := Lib.hid ((hk.block w6.heap.size (by omega) (by omega)).trans b6.out)
  replace b9 := Lib.hid ((hk.block w9.heap.size (by omega) (by omega)).trans b9.out)
  replace b23 := Lib.hid ((hk.block w23.heap.size (by omega) (by omega)).trans b23.out)
  replace rdw := Lib.hid (rdw.out.frame (hk.sameB (by omega) (by omega)))
  replace ingm := Lib.hid (ingm.out.same (hk.sameB (by omega) (by omega)))
  replace rdh := Lib.hid (rdh.out.frame (hk.sameB (by omega) (by omega)))
  clear hk
  go_wp2_with fail
  go_ret
  exact ⟨rfl, hB26⟩
end Go.Proofs.Ytgngcllodofimaa
