/- The law on HintedOutline. Printed by lawho.py. Conditions: as it states. -/
import Derived.Test.YtgngcllodofimaaHo4
import Derived.Test.YtgngcllodofimaaTHin
import Derived.Test.YtgngcllodofimaaMHin
import Derived.Test.YtgngcllodofimaaOutSn
import Derived.Test.YtgngcllodofimaaOutE
import Derived.Deep.RegionHeld3
import Derived.Deep.DeepCutAuto
namespace Go.Proofs.Ytgngcllodofimaa
open Go.RowKit
set_option linter.unusedVariables false
set_option maxRecDepth 100000

/-- outside lo..hi the world is as it was -/
structure Keep (lo hi : Nat) (w w' : World) : Prop where
  bel : Below lo w w'
  sam : SameB hi w.heap.size w w'
  size : w.heap.size ≤ w'.heap.size
theorem Keep.of_below {w w' : World} (h : Below w.heap.size w w') : Keep w.heap.size w.heap.size w w' := ⟨h, fun b h1 h2 => absurd h1 (by omega), h.size⟩
theorem Keep.block {lo hi : Nat} {w w' : World} (h : Keep lo hi w w') (b : Nat) (hb : b < lo ∨ hi ≤ b) (hlt : b < w.heap.size) : w'.heap[b]? = w.heap[b]? := by
  rcases hb with hb | hb
  · exact h.bel.block b hb
  · exact h.sam b hb hlt
theorem Keep.sameB {lo hi lo' hi' : Nat} {w w' : World} (h : Keep lo hi w w') (hh : hi' ≤ lo ∨ hi ≤ lo') (h2 : hi' ≤ w.heap.size) : SameB lo' hi' w w' := fun b h3 h4 => h.block b (by omega) (by omega)
theorem Keep.row {w w' : World} {n c g : Nat} (hg : w.grownBy w' (Value.slice (some ⟨g, 0, none⟩) n c).ownBlock) (hz : w'.heap.size = w.heap.size) : Keep g (g + 1) w w' := by
  refine ⟨⟨hg.os, hg.tape, hg.output, hg.size, fun b hb => ?_⟩, fun b h1 h2 => hg.block b h2 fun e => ?_, hg.size⟩
  · rcases Nat.lt_or_ge b w.heap.size with h | h
    · exact hg.block b h fun e => by simp [Value.ownBlock] at e; omega
    · rw [Array.getElem?_eq_none (by omega), Array.getElem?_eq_none (by omega)]
  · simp [Value.ownBlock] at e; omega
def HinIn (w : World) (lo hi : Nat) (d : HinterD) (h : HinterH) : Prop := HinOwn w lo d h ∧ HinHi hi h
theorem HinIn.same {w w' : World} {lo hi : Nat} {d : HinterD} {h : HinterH} (r : HinIn w lo hi d h) (s : SameB lo hi w w') : HinIn w' lo hi d h := by
  obtain ⟨⟨r, l⟩, h0, h1, h2, h3, h4, h5, h6⟩ := r
  refine ⟨⟨⟨fun i q hq => own_same (r.own i hq) fun g hg => s g ((r.own i hq).lt g hg).1 ?_, r.2⟩, l⟩, h0, h1, h2, h3, h4, h5, h6⟩
  match i, hq with
  | 0, hq => simp [hinRows] at hq; subst hq; exact h0 g hg
  | 1, hq => simp [hinRows] at hq; subst hq; exact h1 g hg
  | 2, hq => simp [hinRows] at hq; subst hq; exact h2 g hg
  | 3, hq => simp [hinRows] at hq; subst hq; exact h3 g hg
  | 4, hq => simp [hinRows] at hq; subst hq; exact h4 g hg
  | 5, hq => simp [hinRows] at hq; subst hq; exact h5 g hg
  | 6, hq => simp [hinRows] at hq; subst hq; exact h6 g hg
  | i + 7, hq => simp [hinRows] at hq
theorem HinIn.rdIn {w : World} {lo hi : Nat} {d : HinterD} {h : HinterH} (r : HinIn w lo hi d h) : HinterRd w lo hi d h := by
  obtain ⟨r, h0, h1, h2, h3, h4, h5, h6⟩ := r
  obtain ⟨r0, r1, r2, r3, r4, r5, r6⟩ := r.rd
  exact ⟨r0.capped fun b off e => h0 b (by rw [e]; rfl), r1.capped fun b off e => h1 b (by rw [e]; rfl), r2.capped fun b off e => h2 b (by rw [e]; rfl), r3.capped fun b off e => h3 b (by rw [e]; rfl), r4.capped fun b off e => h4 b (by rw [e]; rfl), r5.capped fun b off e => h5 b (by rw [e]; rfl), r6.capped fun b off e => h6 b (by rw [e]; rfl)⟩
def RowIn (w : World) (g n : Nat) (V : List Int) : Prop := w.ownsRow g 2 1 (.slice (some ⟨g, 0, none⟩) n n) n (V.flatMap intC) ∧ V.length = n
theorem RowIn.same {w w' : World} {g n : Nat} {V : List Int} (r : RowIn w g n V) (s : SameB g (g + 1) w w') : RowIn w' g n V :=
  ⟨own_same r.1 fun b hb => by simp [Value.ownBlock] at hb; subst hb; exact s g (Nat.le_refl _) (by omega), r.2⟩
theorem RowIn.rd {w : World} {g n : Nat} {V : List Int} (r : RowIn w g n V) : RdS 1 (FlatR intC) w g w.heap.size (some ⟨g, 0, none⟩) n V := rdS_own intC_len (by omega) r.1 r.2
theorem own_fresh {w : World} {lo e size n : Nat} {v : Value} {xs : List Value} {g : Nat} (h : w.ownsRow lo e size v n xs) (hv : v = .slice (some ⟨g, 0, none⟩) n n) : w.ownsRow g e size v n xs := by
  refine ⟨h.1, ?_⟩
  rcases h.2 with h2 | ⟨g', cap, cur, h1, h2, r⟩
  · exact .inl h2
  · right
    refine ⟨g', cap, cur, h1, ?_, r⟩
    rw [hv] at h1; injection h1 with h1; injection h1 with h1; injection h1 with h1; omega
theorem HinOwn.small {w : World} {lo : Nat} {d : HinterD} {h : HinterH} (r : HinOwn w lo d h) (hd : d.orig.length ≤ 1000000 ∧ d.now.length ≤ 1000000 ∧ d.tx.length ≤ 1000000 ∧ d.ty.length ≤ 1000000 ∧ d.ends.length ≤ 1000000 ∧ d.values.length ≤ 1000000 ∧ d.stack.length ≤ 1000000) : h.small 1000000 := by
  obtain ⟨l0, l1, l2, l3, l4, l5, l6⟩ := r.2
  obtain ⟨d0, d1, d2, d3, d4, d5, d6⟩ := hd
  exact ⟨by omega, by omega, by omega, by omega, by omega, by omega, by omega⟩
theorem hintLs_sm {P : List (Int × Int)} {Ls : List (List Knot)} (h : OutSm Ls) : OutSm (hintLs P 0 Ls) := ⟨by rw [hintLs_len]; exact h.1, by unfold kN; rw [hintLs_lens]; exact h.2⟩
theorem hoR_sm {b : Bool} {d : HinterD} {Ls : List (List Knot)} (h : OutSm Ls) : OutSm (hoR b d Ls).1 := by
  unfold hoR
  split
  · split
    · split
      · exact hintLs_sm h
      · exact OutSm.nil
    · exact OutSm.nil
  · exact OutSm.nil
theorem out_widen {w : World} {lo hi : Nat} {A : Option Addr} {n : Nat} {Ls : List (List Knot)} (h : OutRd w lo hi A n Ls) : OutRd w 0 hi A n Ls := h.wide good_loop (Nat.zero_le _) (Nat.le_refl _)

set_option maxHeartbeats 16000000 in
theorem lawHinted_walk (D : HinterD) (h : HinterH) (A : Option Addr) (n c : Nat) (Ls : List (List Knot)) {w : World} (hrh : HinterRd w 0 w.heap.size D h) (hmh : h.small maxLen) (hm : n ≤ maxLen) (hr : OutRd w 0 w.heap.size A n Ls) :
    Calls Try.prog 6 #[hinV D h, .agg #[.slice A n c]] w fun e w' => e = .returned (.bool true) ∧ Below w.heap.size w w' := by
  have hll := Lib.hid hr.1
  unfold maxLen at hm hmh
  obtain ⟨b, hb⟩ : ∃ b : Bool, (b = true ↔ HinOk D) := by
    by_cases hh : HinOk D
    · exact ⟨true, by simp [hh]⟩
    · exact ⟨false, by simp [hh]⟩
  obtain ⟨R, hR⟩ : ∃ R, R = hoR b D Ls := ⟨_, rfl⟩
  have hRsm : OutSm Ls → OutSm R.1 := fun h => by rw [hR]; exact hoR_sm h
  obtain ⟨R1, hR1⟩ : ∃ R1, R1 = R.1 := ⟨_, rfl⟩
  obtain ⟨adv, hadv⟩ : ∃ x, x = R.2.1 := ⟨_, rfl⟩
  obtain ⟨code, hcode⟩ : ∃ x, x = R.2.2 := ⟨_, rfl⟩
  have hspec := Lib.hid (fun (hA : HinterH) (A' : Option Addr) (n' c' loh hih lo hi : Nat) (W : World) (h1 : HinterRd W loh hih D hA) (h2 : hih ≤ W.heap.size) (h3 : hA.small 1048576) (h4 : OutRd W lo hi A' n' Ls) (h5 : hi ≤ W.heap.size) (h6 : OutSm Ls) => specHinted_any D hA b hb loh hih A' n' c' lo hi Ls W h1 h2 (h3.mono (by omega)) h4 h5 (by rw [← h4.1]; exact h6.1) h6.k R hR)
  have himpl := Lib.hid (fun (hA : HinterH) (A' : Option Addr) (n' c' loh hih lo hi : Nat) (W : World) (h1 : HinterRd W loh hih D hA) (h2 : hih ≤ W.heap.size) (h3 : hA.small 1048576) (h4 : OutRd W lo hi A' n' Ls) (h5 : hi ≤ W.heap.size) (h6 : OutSm Ls) => implHinted_any D hA b hb loh hih A' n' c' lo hi Ls W h1 h2 (h3.mono (by omega)) h4 h5 (by rw [← h4.1]; exact h6.1) h6.k R hR)
  rw [← hR1, ← hadv, ← hcode] at hspec himpl
  rw [← hR1] at hRsm
  replace hRsm := Lib.hid hRsm
  replace hr := Lib.hid hr
  replace hrh := Lib.hid hrh
  clear hR hR1 hadv hcode hb
  have hB : Below w.heap.size w w := Below.refl _ _
  have hnew := heap_new2 w (.cells #[.int .i64 D.size, .slice h.orig.A h.orig.n h.orig.c, .slice h.now.A h.now.n h.now.c, .slice h.tx.A h.tx.n h.tx.c, .slice h.ty.A h.ty.n h.ty.c, .slice h.ends.A h.ends.n h.ends.c, .slice h.values.A h.values.n h.values.c, .slice h.stack.A h.stack.n h.stack.c, .bool D.axisY, .int .i64 D.ref, .int .i64 D.state, .int .i64 D.cut, .int .i64 D.least] 79 (0, 0)) (.cells #[.slice A n c] 59 (0, 0))
  have hBx : Below w.heap.size w ((w.alloc (.cells #[.int .i64 D.size, .slice h.orig.A h.orig.n h.orig.c, .slice h.now.A h.now.n h.now.c, .slice h.tx.A h.tx.n h.tx.c, .slice h.ty.A h.ty.n h.ty.c, .slice h.ends.A h.ends.n h.ends.c, .slice h.values.A h.values.n h.values.c, .slice h.stack.A h.stack.n h.stack.c, .bool D.axisY, .int .i64 D.ref, .int .i64 D.state, .int .i64 D.cut, .int .i64 D.least] 79 (0, 0))).alloc (.cells #[.slice A n c] 59 (0, 0))) := Go.Joins.below_alloc2 _ _ _
  have hzx : ((w.alloc (.cells #[.int .i64 D.size, .slice h.orig.A h.orig.n h.orig.c, .slice h.now.A h.now.n h.now.c, .slice h.tx.A h.tx.n h.tx.c, .slice h.ty.A h.ty.n h.ty.c, .slice h.ends.A h.ends.n h.ends.c, .slice h.values.A h.values.n h.values.c, .slice h.stack.A h.stack.n h.stack.c, .bool D.axisY, .int .i64 D.ref, .int .i64 D.state, .int .i64 D.cut, .int .i64 D.least] 79 (0, 0))).alloc (.cells #[.slice A n c] 59 (0, 0))).heap.size = w.heap.size + 2 := by simp
  have qh0 : ((w.alloc (.cells #[.int .i64 D.size, .slice h.orig.A h.orig.n h.orig.c, .slice h.now.A h.now.n h.now.c, .slice h.tx.A h.tx.n h.tx.c, .slice h.ty.A h.ty.n h.ty.c, .slice h.ends.A h.ends.n h.ends.c, .slice h.values.A h.values.n h.values.c, .slice h.stack.A h.stack.n h.stack.c, .bool D.axisY, .int .i64 D.ref, .int .i64 D.state, .int .i64 D.cut, .int .i64 D.least] 79 (0, 0))).alloc (.cells #[.slice A n c] 59 (0, 0))).cell? ⟨w.heap.size, 0, none⟩ = some (.int .i64 D.size) := by rw [Go.Joins.cell_of_block hnew.1]; rfl
  have qh1 : ((w.alloc (.cells #[.int .i64 D.size, .slice h.orig.A h.orig.n h.orig.c, .slice h.now.A h.now.n h.now.c, .slice h.tx.A h.tx.n h.tx.c, .slice h.ty.A h.ty.n h.ty.c, .slice h.ends.A h.ends.n h.ends.c, .slice h.values.A h.values.n h.values.c, .slice h.stack.A h.stack.n h.stack.c, .bool D.axisY, .int .i64 D.ref, .int .i64 D.state, .int .i64 D.cut, .int .i64 D.least] 79 (0, 0))).alloc (.cells #[.slice A n c] 59 (0, 0))).cell? ⟨w.heap.size, 1, none⟩ = some (.slice h.orig.A h.orig.n h.orig.c) := by rw [Go.Joins.cell_of_block hnew.1]; rfl
  have qh2 : ((w.alloc (.cells #[.int .i64 D.size, .slice h.orig.A h.orig.n h.orig.c, .slice h.now.A h.now.n h.now.c, .slice h.tx.A h.tx.n h.tx.c, .slice h.ty.A h.ty.n h.ty.c, .slice h.ends.A h.ends.n h.ends.c, .slice h.values.A h.values.n h.values.c, .slice h.stack.A h.stack.n h.stack.c, .bool D.axisY, .int .i64 D.ref, .int .i64 D.state, .int .i64 D.cut, .int .i64 D.least] 79 (0, 0))).alloc (.cells #[.slice A n c] 59 (0, 0))).cell? ⟨w.heap.size, 2, none⟩ = some (.slice h.now.A h.now.n h.now.c) := by rw [Go.Joins.cell_of_block hnew.1]; rfl
  have qh3 : ((w.alloc (.cells #[.int .i64 D.size, .slice h.orig.A h.orig.n h.orig.c, .slice h.now.A h.now.n h.now.c, .slice h.tx.A h.tx.n h.tx.c, .slice h.ty.A h.ty.n h.ty.c, .slice h.ends.A h.ends.n h.ends.c, .slice h.values.A h.values.n h.values.c, .slice h.stack.A h.stack.n h.stack.c, .bool D.axisY, .int .i64 D.ref, .int .i64 D.state, .int .i64 D.cut, .int .i64 D.least] 79 (0, 0))).alloc (.cells #[.slice A n c] 59 (0, 0))).cell? ⟨w.heap.size, 3, none⟩ = some (.slice h.tx.A h.tx.n h.tx.c) := by rw [Go.Joins.cell_of_block hnew.1]; rfl
  have qh4 : ((w.alloc (.cells #[.int .i64 D.size, .slice h.orig.A h.orig.n h.orig.c, .slice h.now.A h.now.n h.now.c, .slice h.tx.A h.tx.n h.tx.c, .slice h.ty.A h.ty.n h.ty.c, .slice h.ends.A h.ends.n h.ends.c, .slice h.values.A h.values.n h.values.c, .slice h.stack.A h.stack.n h.stack.c, .bool D.axisY, .int .i64 D.ref, .int .i64 D.state, .int .i64 D.cut, .int .i64 D.least] 79 (0, 0))).alloc (.cells #[.slice A n c] 59 (0, 0))).cell? ⟨w.heap.size, 4, none⟩ = some (.slice h.ty.A h.ty.n h.ty.c) := by rw [Go.Joins.cell_of_block hnew.1]; rfl
  have qh5 : ((w.alloc (.cells #[.int .i64 D.size, .slice h.orig.A h.orig.n h.orig.c, .slice h.now.A h.now.n h.now.c, .slice h.tx.A h.tx.n h.tx.c, .slice h.ty.A h.ty.n h.ty.c, .slice h.ends.A h.ends.n h.ends.c, .slice h.values.A h.values.n h.values.c, .slice h.stack.A h.stack.n h.stack.c, .bool D.axisY, .int .i64 D.ref, .int .i64 D.state, .int .i64 D.cut, .int .i64 D.least] 79 (0, 0))).alloc (.cells #[.slice A n c] 59 (0, 0))).cell? ⟨w.heap.size, 5, none⟩ = some (.slice h.ends.A h.ends.n h.ends.c) := by rw [Go.Joins.cell_of_block hnew.1]; rfl
  have qh6 : ((w.alloc (.cells #[.int .i64 D.size, .slice h.orig.A h.orig.n h.orig.c, .slice h.now.A h.now.n h.now.c, .slice h.tx.A h.tx.n h.tx.c, .slice h.ty.A h.ty.n h.ty.c, .slice h.ends.A h.ends.n h.ends.c, .slice h.values.A h.values.n h.values.c, .slice h.stack.A h.stack.n h.stack.c, .bool D.axisY, .int .i64 D.ref, .int .i64 D.state, .int .i64 D.cut, .int .i64 D.least] 79 (0, 0))).alloc (.cells #[.slice A n c] 59 (0, 0))).cell? ⟨w.heap.size, 6, none⟩ = some (.slice h.values.A h.values.n h.values.c) := by rw [Go.Joins.cell_of_block hnew.1]; rfl
  have qh7 : ((w.alloc (.cells #[.int .i64 D.size, .slice h.orig.A h.orig.n h.orig.c, .slice h.now.A h.now.n h.now.c, .slice h.tx.A h.tx.n h.tx.c, .slice h.ty.A h.ty.n h.ty.c, .slice h.ends.A h.ends.n h.ends.c, .slice h.values.A h.values.n h.values.c, .slice h.stack.A h.stack.n h.stack.c, .bool D.axisY, .int .i64 D.ref, .int .i64 D.state, .int .i64 D.cut, .int .i64 D.least] 79 (0, 0))).alloc (.cells #[.slice A n c] 59 (0, 0))).cell? ⟨w.heap.size, 7, none⟩ = some (.slice h.stack.A h.stack.n h.stack.c) := by rw [Go.Joins.cell_of_block hnew.1]; rfl
  have qh8 : ((w.alloc (.cells #[.int .i64 D.size, .slice h.orig.A h.orig.n h.orig.c, .slice h.now.A h.now.n h.now.c, .slice h.tx.A h.tx.n h.tx.c, .slice h.ty.A h.ty.n h.ty.c, .slice h.ends.A h.ends.n h.ends.c, .slice h.values.A h.values.n h.values.c, .slice h.stack.A h.stack.n h.stack.c, .bool D.axisY, .int .i64 D.ref, .int .i64 D.state, .int .i64 D.cut, .int .i64 D.least] 79 (0, 0))).alloc (.cells #[.slice A n c] 59 (0, 0))).cell? ⟨w.heap.size, 8, none⟩ = some (.bool D.axisY) := by rw [Go.Joins.cell_of_block hnew.1]; rfl
  have qh9 : ((w.alloc (.cells #[.int .i64 D.size, .slice h.orig.A h.orig.n h.orig.c, .slice h.now.A h.now.n h.now.c, .slice h.tx.A h.tx.n h.tx.c, .slice h.ty.A h.ty.n h.ty.c, .slice h.ends.A h.ends.n h.ends.c, .slice h.values.A h.values.n h.values.c, .slice h.stack.A h.stack.n h.stack.c, .bool D.axisY, .int .i64 D.ref, .int .i64 D.state, .int .i64 D.cut, .int .i64 D.least] 79 (0, 0))).alloc (.cells #[.slice A n c] 59 (0, 0))).cell? ⟨w.heap.size, 9, none⟩ = some (.int .i64 D.ref) := by rw [Go.Joins.cell_of_block hnew.1]; rfl
  have qh10 : ((w.alloc (.cells #[.int .i64 D.size, .slice h.orig.A h.orig.n h.orig.c, .slice h.now.A h.now.n h.now.c, .slice h.tx.A h.tx.n h.tx.c, .slice h.ty.A h.ty.n h.ty.c, .slice h.ends.A h.ends.n h.ends.c, .slice h.values.A h.values.n h.values.c, .slice h.stack.A h.stack.n h.stack.c, .bool D.axisY, .int .i64 D.ref, .int .i64 D.state, .int .i64 D.cut, .int .i64 D.least] 79 (0, 0))).alloc (.cells #[.slice A n c] 59 (0, 0))).cell? ⟨w.heap.size, 10, none⟩ = some (.int .i64 D.state) := by rw [Go.Joins.cell_of_block hnew.1]; rfl
  have qh11 : ((w.alloc (.cells #[.int .i64 D.size, .slice h.orig.A h.orig.n h.orig.c, .slice h.now.A h.now.n h.now.c, .slice h.tx.A h.tx.n h.tx.c, .slice h.ty.A h.ty.n h.ty.c, .slice h.ends.A h.ends.n h.ends.c, .slice h.values.A h.values.n h.values.c, .slice h.stack.A h.stack.n h.stack.c, .bool D.axisY, .int .i64 D.ref, .int .i64 D.state, .int .i64 D.cut, .int .i64 D.least] 79 (0, 0))).alloc (.cells #[.slice A n c] 59 (0, 0))).cell? ⟨w.heap.size, 11, none⟩ = some (.int .i64 D.cut) := by rw [Go.Joins.cell_of_block hnew.1]; rfl
  have qh12 : ((w.alloc (.cells #[.int .i64 D.size, .slice h.orig.A h.orig.n h.orig.c, .slice h.now.A h.now.n h.now.c, .slice h.tx.A h.tx.n h.tx.c, .slice h.ty.A h.ty.n h.ty.c, .slice h.ends.A h.ends.n h.ends.c, .slice h.values.A h.values.n h.values.c, .slice h.stack.A h.stack.n h.stack.c, .bool D.axisY, .int .i64 D.ref, .int .i64 D.state, .int .i64 D.cut, .int .i64 D.least] 79 (0, 0))).alloc (.cells #[.slice A n c] 59 (0, 0))).cell? ⟨w.heap.size, 12, none⟩ = some (.int .i64 D.least) := by rw [Go.Joins.cell_of_block hnew.1]; rfl
  go_enter Try.func6, Try.ntmps6
  go_wp2_with fail
  clear qh0 qh1 qh2 qh3 qh4 qh5 qh6 qh7 qh8 qh9 qh10 qh11 qh12
  have hzl0 : ((w.alloc (.cells #[.int .i64 D.size, .slice h.orig.A h.orig.n h.orig.c, .slice h.now.A h.now.n h.now.c, .slice h.tx.A h.tx.n h.tx.c, .slice h.ty.A h.ty.n h.ty.c, .slice h.ends.A h.ends.n h.ends.c, .slice h.values.A h.values.n h.values.c, .slice h.stack.A h.stack.n h.stack.c, .bool D.axisY, .int .i64 D.ref, .int .i64 D.state, .int .i64 D.cut, .int .i64 D.least] 79 (0, 0))).alloc (.cells #[.slice A n c] 59 (0, 0))).heap.size ≤ w.heap.size + 2 := by omega
  have hzg0 : w.heap.size + 2 ≤ ((w.alloc (.cells #[.int .i64 D.size, .slice h.orig.A h.orig.n h.orig.c, .slice h.now.A h.now.n h.now.c, .slice h.tx.A h.tx.n h.tx.c, .slice h.ty.A h.ty.n h.ty.c, .slice h.ends.A h.ends.n h.ends.c, .slice h.values.A h.values.n h.values.c, .slice h.stack.A h.stack.n h.stack.c, .bool D.axisY, .int .i64 D.ref, .int .i64 D.state, .int .i64 D.cut, .int .i64 D.least] 79 (0, 0))).alloc (.cells #[.slice A n c] 59 (0, 0))).heap.size := by omega
  clear hzx
  generalize ((w.alloc (.cells #[.int .i64 D.size, .slice h.orig.A h.orig.n h.orig.c, .slice h.now.A h.now.n h.now.c, .slice h.tx.A h.tx.n h.tx.c, .slice h.ty.A h.ty.n h.ty.c, .slice h.ends.A h.ends.n h.ends.c, .slice h.values.A h.values.n h.values.c, .slice h.stack.A h.stack.n h.stack.c, .bool D.axisY, .int .i64 D.ref, .int .i64 D.state, .int .i64 D.cut, .int .i64 D.least] 79 (0, 0))).alloc (.cells #[.slice A n c] 59 (0, 0))) = w0 at *
  have hB0 := hBx
  clear hBx
  have bH := Lib.hid hnew.1
  have bO := Lib.hid hnew.2
  clear hnew
  refine (szHinter_any D h 1048576 w0 hmh (by omega) (by omega)).mono ?_
  rintro e wa ⟨ra, rfl, hra, hc⟩
  have hk := Keep.of_below hc
  clear hc
  have hza := hk.size
  have hBa : Below w.heap.size w wa := hB0.trans (hk.bel.mono (by omega))
  replace bH := Lib.hid ((hk.block w.heap.size (by omega) (by omega)).trans bH.out)
  replace bO := Lib.hid ((hk.block (w.heap.size + 1) (by omega) (by omega)).trans bO.out)
  clear hk
  rcases hra with hna | ⟨hna, hna2, hsmall⟩
  · go_wp2_with fail
    go_ret
    exact ⟨rfl, hBa⟩
  have qbO0 : wa.cell? ⟨(w.heap.size + 1), 0, none⟩ = some (.slice A n c) := by rw [Go.Joins.cell_of_block bO.out]; rfl
  have qbOl : (w.heap.size + 1) < wa.heap.size := by omega
  have hnai : ¬ (ra < 0) := by omega
  go_wp2_with fail
  clear qbO0 qbOl
  refine (szOutline_any A n c 0 w.heap.size Ls ra _ (hr.out.frame good_loop (Below.sameB hBa (Nat.le_refl _))) hBa.size hm (by omega) (by omega)).mono ?_
  rintro e w2 ⟨r1, rfl, hr1, hc⟩
  have hk := Keep.of_below hc
  clear hc
  have hz2 := hk.size
  have hB2 : Below w.heap.size w w2 := hBa.trans (hk.bel.mono (by omega))
  replace bH := Lib.hid ((hk.block w.heap.size (by omega) (by omega)).trans bH.out)
  replace bO := Lib.hid ((hk.block (w.heap.size + 1) (by omega) (by omega)).trans bO.out)
  clear hk
  rcases hr1 with hn1 | ⟨hn1, he1⟩
  · go_wp2_with fail
    go_ret
    exact ⟨rfl, hB2⟩
  obtain ⟨sL⟩ : Nonempty (OutSm Ls) := ⟨⟨by have := he1; unfold outSize at this; omega, by have := he1; unfold outSize at this; unfold kN; omega⟩⟩
  have sR := Lib.hid (hRsm.out sL)
  have hn : n ≤ 1048576 := by rw [← hll.out]; exact sL.1
  have hkN := sL.2
  have hkR := sR.out.2
  have hRn := sR.out.1
  replace sL := Lib.hid sL
  clear he1 hRsm
  have Sof : ∀ W : World, Below w2.heap.size w2 W → (W.cell? ⟨w.heap.size, 0, none⟩ = some (.int .i64 D.size) ∧ W.cell? ⟨w.heap.size, 1, none⟩ = some (.slice h.orig.A h.orig.n h.orig.c) ∧ W.cell? ⟨w.heap.size, 2, none⟩ = some (.slice h.now.A h.now.n h.now.c) ∧ W.cell? ⟨w.heap.size, 3, none⟩ = some (.slice h.tx.A h.tx.n h.tx.c) ∧ W.cell? ⟨w.heap.size, 4, none⟩ = some (.slice h.ty.A h.ty.n h.ty.c) ∧ W.cell? ⟨w.heap.size, 5, none⟩ = some (.slice h.ends.A h.ends.n h.ends.c) ∧ W.cell? ⟨w.heap.size, 6, none⟩ = some (.slice h.values.A h.values.n h.values.c) ∧ W.cell? ⟨w.heap.size, 7, none⟩ = some (.slice h.stack.A h.stack.n h.stack.c) ∧ W.cell? ⟨w.heap.size, 8, none⟩ = some (.bool D.axisY) ∧ W.cell? ⟨w.heap.size, 9, none⟩ = some (.int .i64 D.ref) ∧ W.cell? ⟨w.heap.size, 10, none⟩ = some (.int .i64 D.state) ∧ W.cell? ⟨w.heap.size, 11, none⟩ = some (.int .i64 D.cut) ∧ W.cell? ⟨w.heap.size, 12, none⟩ = some (.int .i64 D.least) ∧ W.cell? ⟨w.heap.size + 1, 0, none⟩ = some (.slice A n c)) := fun W hB => ⟨by rw [Go.Joins.cell_of_block ((hB.block w.heap.size (by omega)).trans bH.out)]; rfl, by rw [Go.Joins.cell_of_block ((hB.block w.heap.size (by omega)).trans bH.out)]; rfl, by rw [Go.Joins.cell_of_block ((hB.block w.heap.size (by omega)).trans bH.out)]; rfl, by rw [Go.Joins.cell_of_block ((hB.block w.heap.size (by omega)).trans bH.out)]; rfl, by rw [Go.Joins.cell_of_block ((hB.block w.heap.size (by omega)).trans bH.out)]; rfl, by rw [Go.Joins.cell_of_block ((hB.block w.heap.size (by omega)).trans bH.out)]; rfl, by rw [Go.Joins.cell_of_block ((hB.block w.heap.size (by omega)).trans bH.out)]; rfl, by rw [Go.Joins.cell_of_block ((hB.block w.heap.size (by omega)).trans bH.out)]; rfl, by rw [Go.Joins.cell_of_block ((hB.block w.heap.size (by omega)).trans bH.out)]; rfl, by rw [Go.Joins.cell_of_block ((hB.block w.heap.size (by omega)).trans bH.out)]; rfl, by rw [Go.Joins.cell_of_block ((hB.block w.heap.size (by omega)).trans bH.out)]; rfl, by rw [Go.Joins.cell_of_block ((hB.block w.heap.size (by omega)).trans bH.out)]; rfl, by rw [Go.Joins.cell_of_block ((hB.block w.heap.size (by omega)).trans bH.out)]; rfl, by rw [Go.Joins.cell_of_block ((hB.block (w.heap.size + 1) (by omega)).trans bO.out)]; rfl⟩
  replace Sof := Lib.hid Sof
  go_upto_region 8 with fail
  go_cut [6, 7, 8] (fun s6 s7 s8 wx => ∃ (b6 : Nat) (A5 : Option Addr) (n5 c5 : Nat), s6 = .pointer (some ⟨b6, 0, none⟩) ∧ s7 = .int .i64 adv ∧ s8 = .int .i64 code ∧ wx.heap[b6]? = some (.cells #[.slice A5 n5 c5] 46 (0, 0)) ∧ OutRd wx 0 wx.heap.size A5 n5 R1 ∧ w2.heap.size ≤ b6 ∧ b6 < wx.heap.size ∧ Below w2.heap.size w2 wx)
  case first =>
    go_region_held3 (fun w' => w'.cell? ⟨w.heap.size, 0, none⟩ = some (.int .i64 D.size) ∧ w'.cell? ⟨w.heap.size, 1, none⟩ = some (.slice h.orig.A h.orig.n h.orig.c) ∧ w'.cell? ⟨w.heap.size, 2, none⟩ = some (.slice h.now.A h.now.n h.now.c) ∧ w'.cell? ⟨w.heap.size, 3, none⟩ = some (.slice h.tx.A h.tx.n h.tx.c) ∧ w'.cell? ⟨w.heap.size, 4, none⟩ = some (.slice h.ty.A h.ty.n h.ty.c) ∧ w'.cell? ⟨w.heap.size, 5, none⟩ = some (.slice h.ends.A h.ends.n h.ends.c) ∧ w'.cell? ⟨w.heap.size, 6, none⟩ = some (.slice h.values.A h.values.n h.values.c) ∧ w'.cell? ⟨w.heap.size, 7, none⟩ = some (.slice h.stack.A h.stack.n h.stack.c) ∧ w'.cell? ⟨w.heap.size, 8, none⟩ = some (.bool D.axisY) ∧ w'.cell? ⟨w.heap.size, 9, none⟩ = some (.int .i64 D.ref) ∧ w'.cell? ⟨w.heap.size, 10, none⟩ = some (.int .i64 D.state) ∧ w'.cell? ⟨w.heap.size, 11, none⟩ = some (.int .i64 D.cut) ∧ w'.cell? ⟨w.heap.size, 12, none⟩ = some (.int .i64 D.least) ∧ w'.cell? ⟨w.heap.size + 1, 0, none⟩ = some (.slice A n c)) ((refine Sof.out _ ?_; (repeat (first | exact hb5 | exact hb4 | exact hb3 | refine Below.drew ?_ | refine Below.alloc ?_ (by first | omega | (simp <;> omega)) _ | refine Below.setCell ?_ (by first | omega | (simp <;> omega)) _ | exact Below.refl _ _))))
      (first | (go_at_call 42; (with_reducible refine (toHinter_any D h 0 w.heap.size _ ?_ ?_ hsmall).mono ?_); (refine hrh.out.frame (Below.sameB (B := w.heap.size) (w := w) ?_ (Nat.le_refl _)); (repeat (first | exact hB2 | refine Below.drew ?_ | refine Below.alloc ?_ (by first | omega | (simp <;> omega)) _ | refine Below.setCell ?_ (by first | omega | (simp <;> omega)) _ | exact Below.refl _ _))); (have := hB2.size; (first | omega | (simp <;> omega))); rintro e w3 ⟨hA, rfl, rdA, hsA, hc3⟩; have hy3 := hc3.size; (try simp at hy3); (refine have_then (Below w2.heap.size w2 w3) ?_ ?_; (refine Below.trans ?_ (hc3.mono (by first | omega | (simp <;> omega))); (repeat (first | exact Below.refl _ _ | refine Below.drew ?_ | refine Below.alloc ?_ (by first | omega | (simp <;> omega)) _ | refine Below.setCell ?_ (by first | omega | (simp <;> omega)) _ | exact Below.refl _ _))); intro hb3); have hz3 : w2.heap.size ≤ w3.heap.size := (by omega); (first | (refine have_then (w3.heap[w2.heap.size]? = some (.cells #[.slice none 0 0] 46 (0, 0))) ?_ ?_; (refine (hc3.block w2.heap.size ?_).trans ?_; (first | omega | (simp <;> omega)); (exact heap_alloc_new w2 _)); intro HV3x2; have tc3x2 : w3.cell? ⟨w2.heap.size, 0, none⟩ = some (.slice none 0 0) := (by rw [Go.Joins.cell_of_block HV3x2]; rfl); have tf3x2 : ∀ o, w3.frozen? ⟨w2.heap.size, o, none⟩ = false := Go.Joins.unfrozen_of_block HV3x2; have tl3x2 : w2.heap.size < w3.heap.size := (by omega)) | skip); replace rdA := Lib.hid (rdA.wide (lo' := 0) (hi' := w3.heap.size) (Nat.zero_le _) (Nat.le_refl _))) | (go_at_call 30; (with_reducible refine (toOutline_any A n c 0 w.heap.size Ls _ ?_ ?_ hn sL.out.k).mono ?_); (refine hr.out.frame good_loop (Below.sameB (B := w.heap.size) (w := w) ?_ (Nat.le_refl _)); refine Below.trans hB2 (Below.mono (B := w2.heap.size) ?_ hB2.size); (repeat (first | exact hb3 | refine Below.drew ?_ | refine Below.alloc ?_ (by first | omega | (simp <;> omega)) _ | refine Below.setCell ?_ (by first | omega | (simp <;> omega)) _ | exact Below.refl _ _))); (have := hB2.size; (first | omega | (simp <;> omega))); rintro e w4 ⟨A4, rfl, ho4, hc4⟩; have hy4 := hc4.size; (try simp at hy4); (refine have_then (Below w2.heap.size w2 w4) ?_ ?_; (refine Below.trans ?_ (hc4.mono (by first | omega | (simp <;> omega))); (repeat (first | exact hb3 | refine Below.drew ?_ | refine Below.alloc ?_ (by first | omega | (simp <;> omega)) _ | refine Below.setCell ?_ (by first | omega | (simp <;> omega)) _ | exact Below.refl _ _))); intro hb4); have hz4 : w3.heap.size ≤ w4.heap.size := (by omega); (first | (refine have_then (w4.heap[w2.heap.size]? = some (.cells #[.slice none 0 0] 46 (0, 0))) ?_ ?_; (refine (hc4.block w2.heap.size ?_).trans ?_; (first | omega | (simp <;> omega)); (exact HV3x2)); intro HV4x2; have tc4x2 : w4.cell? ⟨w2.heap.size, 0, none⟩ = some (.slice none 0 0) := (by rw [Go.Joins.cell_of_block HV4x2]; rfl); have tf4x2 : ∀ o, w4.frozen? ⟨w2.heap.size, o, none⟩ = false := Go.Joins.unfrozen_of_block HV4x2; have tl4x2 : w2.heap.size < w4.heap.size := (by omega)) | skip); (first | (refine have_then (w4.heap[w3.heap.size]? = some (.cells #[.slice none 0 0] 46 (0, 0))) ?_ ?_; (refine (hc4.block w3.heap.size ?_).trans ?_; (first | omega | (simp <;> omega)); (exact heap_alloc_new w3 _)); intro HV4x3; have tc4x3 : w4.cell? ⟨w3.heap.size, 0, none⟩ = some (.slice none 0 0) := (by rw [Go.Joins.cell_of_block HV4x3]; rfl); have tf4x3 : ∀ o, w4.frozen? ⟨w3.heap.size, o, none⟩ = false := Go.Joins.unfrozen_of_block HV4x3; have tl4x3 : w3.heap.size < w4.heap.size := (by omega)) | skip); have rd4 := Lib.hid (out_widen (ho4.rd (fun K h => by have := sL.out.k K h; unfold maxLen; omega))); (refine have_then (Below w3.heap.size w3 w4) ?_ ?_; (refine Below.trans ?_ (hc4.mono (by first | omega | (simp <;> omega))); (repeat (first | exact Below.refl _ _ | refine Below.drew ?_ | refine Below.alloc ?_ (by first | omega | (simp <;> omega)) _ | refine Below.setCell ?_ (by first | omega | (simp <;> omega)) _ | exact Below.refl _ _))); intro hab); replace rdA := Lib.hid ((rdA.out.frame (Below.sameB hab (Nat.le_refl _))).wide (lo' := 0) (hi' := w4.heap.size) (Nat.le_refl _) hab.size); clear ho4) | (go_at_call 41; (with_reducible refine (hspec.out hA A4 n n 0 w4.heap.size 0 w4.heap.size _ ?_ ?_ hsA ?_ ?_ sL.out).mono ?_); (first | exact rdA.out | exact rdA.out.frame ((SameB.refl _ _ _).alloc (Nat.le_refl _) _)); (first | omega | (simp <;> omega)); (first | exact rd4.out | exact rd4.out.frame good_loop ((SameB.refl _ _ _).alloc (Nat.le_refl _) _)); (first | omega | (simp <;> omega)); rintro e w5 ⟨A5, n5, c5, rfl, ho5, hc5⟩; have hy5 := hc5.size; (try simp at hy5); (refine have_then (Below w2.heap.size w2 w5) ?_ ?_; (refine Below.trans ?_ (hc5.mono (by first | omega | (simp <;> omega))); (repeat (first | exact hb4 | refine Below.drew ?_ | refine Below.alloc ?_ (by first | omega | (simp <;> omega)) _ | refine Below.setCell ?_ (by first | omega | (simp <;> omega)) _ | exact Below.refl _ _))); intro hb5); have hz5 : w4.heap.size ≤ w5.heap.size := (by omega); (first | (refine have_then (w5.heap[w2.heap.size]? = some (.cells #[.slice none 0 0] 46 (0, 0))) ?_ ?_; (refine (hc5.block w2.heap.size ?_).trans ?_; (first | omega | (simp <;> omega)); (exact HV4x2)); intro HV5x2; have tc5x2 : w5.cell? ⟨w2.heap.size, 0, none⟩ = some (.slice none 0 0) := (by rw [Go.Joins.cell_of_block HV5x2]; rfl); have tf5x2 : ∀ o, w5.frozen? ⟨w2.heap.size, o, none⟩ = false := Go.Joins.unfrozen_of_block HV5x2; have tl5x2 : w2.heap.size < w5.heap.size := (by omega)) | skip); (first | (refine have_then (w5.heap[w3.heap.size]? = some (.cells #[.slice none 0 0] 46 (0, 0))) ?_ ?_; (refine (hc5.block w3.heap.size ?_).trans ?_; (first | omega | (simp <;> omega)); (exact HV4x3)); intro HV5x3; have tc5x3 : w5.cell? ⟨w3.heap.size, 0, none⟩ = some (.slice none 0 0) := (by rw [Go.Joins.cell_of_block HV5x3]; rfl); have tf5x3 : ∀ o, w5.frozen? ⟨w3.heap.size, o, none⟩ = false := Go.Joins.unfrozen_of_block HV5x3; have tl5x3 : w3.heap.size < w5.heap.size := (by omega)) | skip); (first | (refine have_then (w5.heap[w4.heap.size]? = some (.cells #[.slice none 0 0] 46 (0, 0))) ?_ ?_; (refine (hc5.block w4.heap.size ?_).trans ?_; (first | omega | (simp <;> omega)); (exact heap_alloc_new w4 _)); intro HV5x4; have tc5x4 : w5.cell? ⟨w4.heap.size, 0, none⟩ = some (.slice none 0 0) := (by rw [Go.Joins.cell_of_block HV5x4]; rfl); have tf5x4 : ∀ o, w5.frozen? ⟨w4.heap.size, o, none⟩ = false := Go.Joins.unfrozen_of_block HV5x4; have tl5x4 : w4.heap.size < w5.heap.size := (by omega)) | skip); replace ho5 := Lib.hid ho5))
    all_goals
      go_wp2_with fail
      go_meet
      refine ⟨_, A5, n5, c5, rfl, rfl, rfl, ?_, ?_, ?_, ?_, ?_⟩
      · first | exact Go.Joins.block_setCell HV5x2 _ | exact Go.Joins.block_setCell HV5x3 _ | exact Go.Joins.block_setCell HV5x4 _ | exact heap_alloc_new w5 _
      · refine (((ho5.out.rd (fun K h => by have := sR.out.k K h; unfold maxLen; omega)).frame good_loop ?_).wide good_loop (Nat.zero_le _) (by first | omega | (simp <;> omega)))
        repeat (first | exact SameB.refl _ _ _ | refine SameB.setCell ?_ (.inl (by first | omega | (simp <;> omega))) _ | refine SameB.alloc ?_ (by first | omega | (simp <;> omega)) _)
      · (first | omega | (simp <;> omega))
      · (first | omega | (simp <;> omega))
      · repeat (first | exact hb5 | refine Below.setCell ?_ (by first | omega | (simp <;> omega)) _ | refine Below.alloc ?_ (by first | omega | (simp <;> omega)) _)
  case rest =>
  clear Sof
  obtain ⟨w6, hw6⟩ : ∃ v, v = wc := ⟨_, rfl⟩
  subst hw6
  obtain ⟨b6, A5, n5, c5, rfl, rfl, rfl, bW, rdw, hl6, hg6, hb6⟩ := hcut
  replace bW := Lib.hid bW
  replace rdw := Lib.hid rdw
  have hn5 : n5 ≤ 1048576 := by rw [← rdw.out.1]; exact hRn
  have hk := Keep.of_below hb6
  clear hb6
  have hz6 := hk.size
  have hB6 : Below w.heap.size w w6 := hB2.trans (hk.bel.mono (by omega))
  replace bH := Lib.hid ((hk.block w.heap.size (by omega) (by omega)).trans bH.out)
  replace bO := Lib.hid ((hk.block (w.heap.size + 1) (by omega) (by omega)).trans bO.out)
  clear hk
  have qbH0 : w6.cell? ⟨w.heap.size, 0, none⟩ = some (.int .i64 D.size) := by rw [Go.Joins.cell_of_block bH.out]; rfl
  have qbH1 : w6.cell? ⟨w.heap.size, 1, none⟩ = some (.slice h.orig.A h.orig.n h.orig.c) := by rw [Go.Joins.cell_of_block bH.out]; rfl
  have qbH2 : w6.cell? ⟨w.heap.size, 2, none⟩ = some (.slice h.now.A h.now.n h.now.c) := by rw [Go.Joins.cell_of_block bH.out]; rfl
  have qbH3 : w6.cell? ⟨w.heap.size, 3, none⟩ = some (.slice h.tx.A h.tx.n h.tx.c) := by rw [Go.Joins.cell_of_block bH.out]; rfl
  have qbH4 : w6.cell? ⟨w.heap.size, 4, none⟩ = some (.slice h.ty.A h.ty.n h.ty.c) := by rw [Go.Joins.cell_of_block bH.out]; rfl
  have qbH5 : w6.cell? ⟨w.heap.size, 5, none⟩ = some (.slice h.ends.A h.ends.n h.ends.c) := by rw [Go.Joins.cell_of_block bH.out]; rfl
  have qbH6 : w6.cell? ⟨w.heap.size, 6, none⟩ = some (.slice h.values.A h.values.n h.values.c) := by rw [Go.Joins.cell_of_block bH.out]; rfl
  have qbH7 : w6.cell? ⟨w.heap.size, 7, none⟩ = some (.slice h.stack.A h.stack.n h.stack.c) := by rw [Go.Joins.cell_of_block bH.out]; rfl
  have qbH8 : w6.cell? ⟨w.heap.size, 8, none⟩ = some (.bool D.axisY) := by rw [Go.Joins.cell_of_block bH.out]; rfl
  have qbH9 : w6.cell? ⟨w.heap.size, 9, none⟩ = some (.int .i64 D.ref) := by rw [Go.Joins.cell_of_block bH.out]; rfl
  have qbH10 : w6.cell? ⟨w.heap.size, 10, none⟩ = some (.int .i64 D.state) := by rw [Go.Joins.cell_of_block bH.out]; rfl
  have qbH11 : w6.cell? ⟨w.heap.size, 11, none⟩ = some (.int .i64 D.cut) := by rw [Go.Joins.cell_of_block bH.out]; rfl
  have qbH12 : w6.cell? ⟨w.heap.size, 12, none⟩ = some (.int .i64 D.least) := by rw [Go.Joins.cell_of_block bH.out]; rfl
  have qbHl : w.heap.size < w6.heap.size := by omega
  go_wp2_with fail
  clear qbH0 qbH1 qbH2 qbH3 qbH4 qbH5 qbH6 qbH7 qbH8 qbH9 qbH10 qbH11 qbH12 qbHl
  refine (toHinterO_any D h 0 w.heap.size w6 (hrh.out.frame (Below.sameB hB6 (Nat.le_refl _))) hB6.size hsmall).mono ?_
  rintro e w7 ⟨h7, rfl, ho7, hs7, hc⟩
  have inx : Hid (HinIn w7 w6.heap.size w7.heap.size D h7) := ⟨ho7, ho7.hi⟩
  have hs7b := hs7.mono (show 1048576 ≤ 1000000000 by omega)
  clear ho7
  have hk := Keep.of_below hc
  clear hc
  have hz7 := hk.size
  have hB7 : Below w.heap.size w w7 := hB6.trans (hk.bel.mono (by omega))
  replace bH := Lib.hid ((hk.block w.heap.size (by omega) (by omega)).trans bH.out)
  replace bO := Lib.hid ((hk.block (w.heap.size + 1) (by omega) (by omega)).trans bO.out)
  replace bW := Lib.hid ((hk.block b6 (by omega) (by omega)).trans bW.out)
  replace rdw := Lib.hid (rdw.out.frame good_loop (hk.sameB (by omega) (by omega)))
  clear hk
  have qbO0 : w7.cell? ⟨(w.heap.size + 1), 0, none⟩ = some (.slice A n c) := by rw [Go.Joins.cell_of_block bO.out]; rfl
  have qbOl : (w.heap.size + 1) < w7.heap.size := by omega
  have hk := Keep.of_below (Go.Joins.below_alloc1 w7 (.cells #[.int .i64 D.size, .slice h7.orig.A h7.orig.n h7.orig.c, .slice h7.now.A h7.now.n h7.now.c, .slice h7.tx.A h7.tx.n h7.tx.c, .slice h7.ty.A h7.ty.n h7.ty.c, .slice h7.ends.A h7.ends.n h7.ends.c, .slice h7.values.A h7.values.n h7.values.c, .slice h7.stack.A h7.stack.n h7.stack.c, .bool D.axisY, .int .i64 D.ref, .int .i64 D.state, .int .i64 D.cut, .int .i64 D.least] 65 (0, 0)))
  have hzz : (w7.alloc (.cells #[.int .i64 D.size, .slice h7.orig.A h7.orig.n h7.orig.c, .slice h7.now.A h7.now.n h7.now.c, .slice h7.tx.A h7.tx.n h7.tx.c, .slice h7.ty.A h7.ty.n h7.ty.c, .slice h7.ends.A h7.ends.n h7.ends.c, .slice h7.values.A h7.values.n h7.values.c, .slice h7.stack.A h7.stack.n h7.stack.c, .bool D.axisY, .int .i64 D.ref, .int .i64 D.state, .int .i64 D.cut, .int .i64 D.least] 65 (0, 0))).heap.size = w7.heap.size + 1 := by simp
  have b9h : Hid ((w7.alloc (.cells #[.int .i64 D.size, .slice h7.orig.A h7.orig.n h7.orig.c, .slice h7.now.A h7.now.n h7.now.c, .slice h7.tx.A h7.tx.n h7.tx.c, .slice h7.ty.A h7.ty.n h7.ty.c, .slice h7.ends.A h7.ends.n h7.ends.c, .slice h7.values.A h7.values.n h7.values.c, .slice h7.stack.A h7.stack.n h7.stack.c, .bool D.axisY, .int .i64 D.ref, .int .i64 D.state, .int .i64 D.cut, .int .i64 D.least] 65 (0, 0))).heap[w7.heap.size]? = some (.cells #[.int .i64 D.size, .slice h7.orig.A h7.orig.n h7.orig.c, .slice h7.now.A h7.now.n h7.now.c, .slice h7.tx.A h7.tx.n h7.tx.c, .slice h7.ty.A h7.ty.n h7.ty.c, .slice h7.ends.A h7.ends.n h7.ends.c, .slice h7.values.A h7.values.n h7.values.c, .slice h7.stack.A h7.stack.n h7.stack.c, .bool D.axisY, .int .i64 D.ref, .int .i64 D.state, .int .i64 D.cut, .int .i64 D.least] 65 (0, 0))) := heap_alloc_new w7 _
  go_wp2_with fail
  clear qbO0 qbOl
  generalize w7.alloc (.cells #[.int .i64 D.size, .slice h7.orig.A h7.orig.n h7.orig.c, .slice h7.now.A h7.now.n h7.now.c, .slice h7.tx.A h7.tx.n h7.tx.c, .slice h7.ty.A h7.ty.n h7.ty.c, .slice h7.ends.A h7.ends.n h7.ends.c, .slice h7.values.A h7.values.n h7.values.c, .slice h7.stack.A h7.stack.n h7.stack.c, .bool D.axisY, .int .i64 D.ref, .int .i64 D.state, .int .i64 D.cut, .int .i64 D.least] 65 (0, 0)) = w8 at *
  have hzl8 : w8.heap.size ≤ w7.heap.size + 1 := by omega
  have hzg8 : w7.heap.size + 1 ≤ w8.heap.size := by omega
  clear hzz
  have hz8 := hk.size
  have hB8 : Below w.heap.size w w8 := hB7.trans (hk.bel.mono (by omega))
  replace bH := Lib.hid ((hk.block w.heap.size (by omega) (by omega)).trans bH.out)
  replace bO := Lib.hid ((hk.block (w.heap.size + 1) (by omega) (by omega)).trans bO.out)
  replace bW := Lib.hid ((hk.block b6 (by omega) (by omega)).trans bW.out)
  replace rdw := Lib.hid (rdw.out.frame good_loop (hk.sameB (by omega) (by omega)))
  replace inx := Lib.hid (inx.out.same (hk.sameB (by omega) (by omega)))
  clear hk
  refine (toOutline_any A n c 0 w.heap.size Ls _ (hr.out.frame good_loop (Below.sameB hB8 (Nat.le_refl _))) hB8.size hn sL.out.k).mono ?_
  rintro e w9 ⟨A9, rfl, ho9, hc⟩
  obtain ⟨ys9, iny⟩ := ho9.in
  replace iny := Lib.hid iny
  clear ho9
  have hk := Keep.of_below hc
  clear hc
  have hz9 := hk.size
  have hB9 : Below w.heap.size w w9 := hB8.trans (hk.bel.mono (by omega))
  replace bH := Lib.hid ((hk.block w.heap.size (by omega) (by omega)).trans bH.out)
  replace bO := Lib.hid ((hk.block (w.heap.size + 1) (by omega) (by omega)).trans bO.out)
  replace bW := Lib.hid ((hk.block b6 (by omega) (by omega)).trans bW.out)
  replace b9h := Lib.hid ((hk.block w7.heap.size (by omega) (by omega)).trans b9h.out)
  replace rdw := Lib.hid (rdw.out.frame good_loop (hk.sameB (by omega) (by omega)))
  replace inx := Lib.hid (inx.out.same (hk.sameB (by omega) (by omega)))
  clear hk
  have qb9h0 : w9.cell? ⟨w7.heap.size, 0, none⟩ = some (.int .i64 D.size) := by rw [Go.Joins.cell_of_block b9h.out]; rfl
  have qb9h1 : w9.cell? ⟨w7.heap.size, 1, none⟩ = some (.slice h7.orig.A h7.orig.n h7.orig.c) := by rw [Go.Joins.cell_of_block b9h.out]; rfl
  have qb9h2 : w9.cell? ⟨w7.heap.size, 2, none⟩ = some (.slice h7.now.A h7.now.n h7.now.c) := by rw [Go.Joins.cell_of_block b9h.out]; rfl
  have qb9h3 : w9.cell? ⟨w7.heap.size, 3, none⟩ = some (.slice h7.tx.A h7.tx.n h7.tx.c) := by rw [Go.Joins.cell_of_block b9h.out]; rfl
  have qb9h4 : w9.cell? ⟨w7.heap.size, 4, none⟩ = some (.slice h7.ty.A h7.ty.n h7.ty.c) := by rw [Go.Joins.cell_of_block b9h.out]; rfl
  have qb9h5 : w9.cell? ⟨w7.heap.size, 5, none⟩ = some (.slice h7.ends.A h7.ends.n h7.ends.c) := by rw [Go.Joins.cell_of_block b9h.out]; rfl
  have qb9h6 : w9.cell? ⟨w7.heap.size, 6, none⟩ = some (.slice h7.values.A h7.values.n h7.values.c) := by rw [Go.Joins.cell_of_block b9h.out]; rfl
  have qb9h7 : w9.cell? ⟨w7.heap.size, 7, none⟩ = some (.slice h7.stack.A h7.stack.n h7.stack.c) := by rw [Go.Joins.cell_of_block b9h.out]; rfl
  have qb9h8 : w9.cell? ⟨w7.heap.size, 8, none⟩ = some (.bool D.axisY) := by rw [Go.Joins.cell_of_block b9h.out]; rfl
  have qb9h9 : w9.cell? ⟨w7.heap.size, 9, none⟩ = some (.int .i64 D.ref) := by rw [Go.Joins.cell_of_block b9h.out]; rfl
  have qb9h10 : w9.cell? ⟨w7.heap.size, 10, none⟩ = some (.int .i64 D.state) := by rw [Go.Joins.cell_of_block b9h.out]; rfl
  have qb9h11 : w9.cell? ⟨w7.heap.size, 11, none⟩ = some (.int .i64 D.cut) := by rw [Go.Joins.cell_of_block b9h.out]; rfl
  have qb9h12 : w9.cell? ⟨w7.heap.size, 12, none⟩ = some (.int .i64 D.least) := by rw [Go.Joins.cell_of_block b9h.out]; rfl
  have qb9hl : w7.heap.size < w9.heap.size := by omega
  have hk := Keep.of_below (Go.Joins.below_alloc1 w9 (.cells #[.slice A9 n n] 46 (0, 0)))
  have hzz : (w9.alloc (.cells #[.slice A9 n n] 46 (0, 0))).heap.size = w9.heap.size + 1 := by simp
  have b10 : Hid ((w9.alloc (.cells #[.slice A9 n n] 46 (0, 0))).heap[w9.heap.size]? = some (.cells #[.slice A9 n n] 46 (0, 0))) := heap_alloc_new w9 _
  go_wp2_with fail
  clear qb9h0 qb9h1 qb9h2 qb9h3 qb9h4 qb9h5 qb9h6 qb9h7 qb9h8 qb9h9 qb9h10 qb9h11 qb9h12 qb9hl
  generalize w9.alloc (.cells #[.slice A9 n n] 46 (0, 0)) = w10 at *
  have hzl10 : w10.heap.size ≤ w9.heap.size + 1 := by omega
  have hzg10 : w9.heap.size + 1 ≤ w10.heap.size := by omega
  clear hzz
  have hz10 := hk.size
  have hB10 : Below w.heap.size w w10 := hB9.trans (hk.bel.mono (by omega))
  replace bH := Lib.hid ((hk.block w.heap.size (by omega) (by omega)).trans bH.out)
  replace bO := Lib.hid ((hk.block (w.heap.size + 1) (by omega) (by omega)).trans bO.out)
  replace bW := Lib.hid ((hk.block b6 (by omega) (by omega)).trans bW.out)
  replace b9h := Lib.hid ((hk.block w7.heap.size (by omega) (by omega)).trans b9h.out)
  replace rdw := Lib.hid (rdw.out.frame good_loop (hk.sameB (by omega) (by omega)))
  replace inx := Lib.hid (inx.out.same (hk.sameB (by omega) (by omega)))
  replace iny := Lib.hid (iny.out.same (hk.sameB (by omega) (by omega)))
  clear hk
  refine (himpl.out h7 A9 n n w6.heap.size w7.heap.size w8.heap.size w9.heap.size w10 inx.out.rdIn (by omega) hs7 (iny.out.rdIn sL.out) (by omega) sL.out).mono ?_
  rintro e w11 ⟨A11, n11, c11, rfl, ho11, hc⟩
  obtain ⟨ys11, ing⟩ := ho11.in
  replace ing := Lib.hid ing
  clear ho11
  have hn11 : n11 ≤ 1048576 := by rw [← ing.out.1]; exact hRn
  have hk := Keep.of_below hc
  clear hc
  have hz11 := hk.size
  have hB11 : Below w.heap.size w w11 := hB10.trans (hk.bel.mono (by omega))
  replace bH := Lib.hid ((hk.block w.heap.size (by omega) (by omega)).trans bH.out)
  replace bO := Lib.hid ((hk.block (w.heap.size + 1) (by omega) (by omega)).trans bO.out)
  replace bW := Lib.hid ((hk.block b6 (by omega) (by omega)).trans bW.out)
  replace b9h := Lib.hid ((hk.block w7.heap.size (by omega) (by omega)).trans b9h.out)
  replace b10 := Lib.hid ((hk.block w9.heap.size (by omega) (by omega)).trans b10.out)
  replace rdw := Lib.hid (rdw.out.frame good_loop (hk.sameB (by omega) (by omega)))
  replace inx := Lib.hid (inx.out.same (hk.sameB (by omega) (by omega)))
  replace iny := Lib.hid (iny.out.same (hk.sameB (by omega) (by omega)))
  clear hk
  have qbW0 : w11.cell? ⟨b6, 0, none⟩ = some (.slice A5 n5 c5) := by rw [Go.Joins.cell_of_block bW.out]; rfl
  have qbWl : b6 < w11.heap.size := by omega
  have hk := Keep.of_below (Go.Joins.below_alloc1 w11 (.cells #[.slice A11 n11 c11] 46 (0, 0)))
  have hzz : (w11.alloc (.cells #[.slice A11 n11 c11] 46 (0, 0))).heap.size = w11.heap.size + 1 := by simp
  have b11 : Hid ((w11.alloc (.cells #[.slice A11 n11 c11] 46 (0, 0))).heap[w11.heap.size]? = some (.cells #[.slice A11 n11 c11] 46 (0, 0))) := heap_alloc_new w11 _
  go_wp2_with fail
  clear qbW0 qbWl
  generalize w11.alloc (.cells #[.slice A11 n11 c11] 46 (0, 0)) = w12 at *
  have hzl12 : w12.heap.size ≤ w11.heap.size + 1 := by omega
  have hzg12 : w11.heap.size + 1 ≤ w12.heap.size := by omega
  clear hzz
  have hz12 := hk.size
  have hB12 : Below w.heap.size w w12 := hB11.trans (hk.bel.mono (by omega))
  replace bH := Lib.hid ((hk.block w.heap.size (by omega) (by omega)).trans bH.out)
  replace bO := Lib.hid ((hk.block (w.heap.size + 1) (by omega) (by omega)).trans bO.out)
  replace bW := Lib.hid ((hk.block b6 (by omega) (by omega)).trans bW.out)
  replace b9h := Lib.hid ((hk.block w7.heap.size (by omega) (by omega)).trans b9h.out)
  replace b10 := Lib.hid ((hk.block w9.heap.size (by omega) (by omega)).trans b10.out)
  replace rdw := Lib.hid (rdw.out.frame good_loop (hk.sameB (by omega) (by omega)))
  replace inx := Lib.hid (inx.out.same (hk.sameB (by omega) (by omega)))
  replace iny := Lib.hid (iny.out.same (hk.sameB (by omega) (by omega)))
  replace ing := Lib.hid (ing.out.same (hk.sameB (by omega) (by omega)))
  clear hk
  refine (eqOutline_any A11 A5 n11 c11 n5 c5 w10.heap.size w11.heap.size 0 w6.heap.size R1 _ (ing.out.rdIn sR.out) rdw.out (by omega) (by omega) (by omega) (fun K h => by have := sR.out.k K h; omega)).mono ?_
  rintro e w13 ⟨rfl, hc⟩
  have hk := Keep.of_below hc
  clear hc
  have hz13 := hk.size
  have hB13 : Below w.heap.size w w13 := hB12.trans (hk.bel.mono (by omega))
  replace bH := Lib.hid ((hk.block w.heap.size (by omega) (by omega)).trans bH.out)
  replace bO := Lib.hid ((hk.block (w.heap.size + 1) (by omega) (by omega)).trans bO.out)
  replace bW := Lib.hid ((hk.block b6 (by omega) (by omega)).trans bW.out)
  replace b9h := Lib.hid ((hk.block w7.heap.size (by omega) (by omega)).trans b9h.out)
  replace b10 := Lib.hid ((hk.block w9.heap.size (by omega) (by omega)).trans b10.out)
  replace b11 := Lib.hid ((hk.block w11.heap.size (by omega) (by omega)).trans b11.out)
  replace rdw := Lib.hid (rdw.out.frame good_loop (hk.sameB (by omega) (by omega)))
  replace inx := Lib.hid (inx.out.same (hk.sameB (by omega) (by omega)))
  replace iny := Lib.hid (iny.out.same (hk.sameB (by omega) (by omega)))
  replace ing := Lib.hid (ing.out.same (hk.sameB (by omega) (by omega)))
  clear hk
  have qb9h0 : w13.cell? ⟨w7.heap.size, 0, none⟩ = some (.int .i64 D.size) := by rw [Go.Joins.cell_of_block b9h.out]; rfl
  have qb9h1 : w13.cell? ⟨w7.heap.size, 1, none⟩ = some (.slice h7.orig.A h7.orig.n h7.orig.c) := by rw [Go.Joins.cell_of_block b9h.out]; rfl
  have qb9h2 : w13.cell? ⟨w7.heap.size, 2, none⟩ = some (.slice h7.now.A h7.now.n h7.now.c) := by rw [Go.Joins.cell_of_block b9h.out]; rfl
  have qb9h3 : w13.cell? ⟨w7.heap.size, 3, none⟩ = some (.slice h7.tx.A h7.tx.n h7.tx.c) := by rw [Go.Joins.cell_of_block b9h.out]; rfl
  have qb9h4 : w13.cell? ⟨w7.heap.size, 4, none⟩ = some (.slice h7.ty.A h7.ty.n h7.ty.c) := by rw [Go.Joins.cell_of_block b9h.out]; rfl
  have qb9h5 : w13.cell? ⟨w7.heap.size, 5, none⟩ = some (.slice h7.ends.A h7.ends.n h7.ends.c) := by rw [Go.Joins.cell_of_block b9h.out]; rfl
  have qb9h6 : w13.cell? ⟨w7.heap.size, 6, none⟩ = some (.slice h7.values.A h7.values.n h7.values.c) := by rw [Go.Joins.cell_of_block b9h.out]; rfl
  have qb9h7 : w13.cell? ⟨w7.heap.size, 7, none⟩ = some (.slice h7.stack.A h7.stack.n h7.stack.c) := by rw [Go.Joins.cell_of_block b9h.out]; rfl
  have qb9h8 : w13.cell? ⟨w7.heap.size, 8, none⟩ = some (.bool D.axisY) := by rw [Go.Joins.cell_of_block b9h.out]; rfl
  have qb9h9 : w13.cell? ⟨w7.heap.size, 9, none⟩ = some (.int .i64 D.ref) := by rw [Go.Joins.cell_of_block b9h.out]; rfl
  have qb9h10 : w13.cell? ⟨w7.heap.size, 10, none⟩ = some (.int .i64 D.state) := by rw [Go.Joins.cell_of_block b9h.out]; rfl
  have qb9h11 : w13.cell? ⟨w7.heap.size, 11, none⟩ = some (.int .i64 D.cut) := by rw [Go.Joins.cell_of_block b9h.out]; rfl
  have qb9h12 : w13.cell? ⟨w7.heap.size, 12, none⟩ = some (.int .i64 D.least) := by rw [Go.Joins.cell_of_block b9h.out]; rfl
  have qb9hl : w7.heap.size < w13.heap.size := by omega
  have qbH0 : w13.cell? ⟨w.heap.size, 0, none⟩ = some (.int .i64 D.size) := by rw [Go.Joins.cell_of_block bH.out]; rfl
  have qbH1 : w13.cell? ⟨w.heap.size, 1, none⟩ = some (.slice h.orig.A h.orig.n h.orig.c) := by rw [Go.Joins.cell_of_block bH.out]; rfl
  have qbH2 : w13.cell? ⟨w.heap.size, 2, none⟩ = some (.slice h.now.A h.now.n h.now.c) := by rw [Go.Joins.cell_of_block bH.out]; rfl
  have qbH3 : w13.cell? ⟨w.heap.size, 3, none⟩ = some (.slice h.tx.A h.tx.n h.tx.c) := by rw [Go.Joins.cell_of_block bH.out]; rfl
  have qbH4 : w13.cell? ⟨w.heap.size, 4, none⟩ = some (.slice h.ty.A h.ty.n h.ty.c) := by rw [Go.Joins.cell_of_block bH.out]; rfl
  have qbH5 : w13.cell? ⟨w.heap.size, 5, none⟩ = some (.slice h.ends.A h.ends.n h.ends.c) := by rw [Go.Joins.cell_of_block bH.out]; rfl
  have qbH6 : w13.cell? ⟨w.heap.size, 6, none⟩ = some (.slice h.values.A h.values.n h.values.c) := by rw [Go.Joins.cell_of_block bH.out]; rfl
  have qbH7 : w13.cell? ⟨w.heap.size, 7, none⟩ = some (.slice h.stack.A h.stack.n h.stack.c) := by rw [Go.Joins.cell_of_block bH.out]; rfl
  have qbH8 : w13.cell? ⟨w.heap.size, 8, none⟩ = some (.bool D.axisY) := by rw [Go.Joins.cell_of_block bH.out]; rfl
  have qbH9 : w13.cell? ⟨w.heap.size, 9, none⟩ = some (.int .i64 D.ref) := by rw [Go.Joins.cell_of_block bH.out]; rfl
  have qbH10 : w13.cell? ⟨w.heap.size, 10, none⟩ = some (.int .i64 D.state) := by rw [Go.Joins.cell_of_block bH.out]; rfl
  have qbH11 : w13.cell? ⟨w.heap.size, 11, none⟩ = some (.int .i64 D.cut) := by rw [Go.Joins.cell_of_block bH.out]; rfl
  have qbH12 : w13.cell? ⟨w.heap.size, 12, none⟩ = some (.int .i64 D.least) := by rw [Go.Joins.cell_of_block bH.out]; rfl
  have qbHl : w.heap.size < w13.heap.size := by omega
  go_wp2_with fail
  have Sof : ∀ W : World, Below w13.heap.size w13 W → (W.cell? ⟨w7.heap.size, 0, none⟩ = some (.int .i64 D.size) ∧ W.cell? ⟨w7.heap.size, 1, none⟩ = some (.slice h7.orig.A h7.orig.n h7.orig.c) ∧ W.cell? ⟨w7.heap.size, 2, none⟩ = some (.slice h7.now.A h7.now.n h7.now.c) ∧ W.cell? ⟨w7.heap.size, 3, none⟩ = some (.slice h7.tx.A h7.tx.n h7.tx.c) ∧ W.cell? ⟨w7.heap.size, 4, none⟩ = some (.slice h7.ty.A h7.ty.n h7.ty.c) ∧ W.cell? ⟨w7.heap.size, 5, none⟩ = some (.slice h7.ends.A h7.ends.n h7.ends.c) ∧ W.cell? ⟨w7.heap.size, 6, none⟩ = some (.slice h7.values.A h7.values.n h7.values.c) ∧ W.cell? ⟨w7.heap.size, 7, none⟩ = some (.slice h7.stack.A h7.stack.n h7.stack.c) ∧ W.cell? ⟨w7.heap.size, 8, none⟩ = some (.bool D.axisY) ∧ W.cell? ⟨w7.heap.size, 9, none⟩ = some (.int .i64 D.ref) ∧ W.cell? ⟨w7.heap.size, 10, none⟩ = some (.int .i64 D.state) ∧ W.cell? ⟨w7.heap.size, 11, none⟩ = some (.int .i64 D.cut) ∧ W.cell? ⟨w7.heap.size, 12, none⟩ = some (.int .i64 D.least) ∧ W.cell? ⟨w.heap.size, 0, none⟩ = some (.int .i64 D.size) ∧ W.cell? ⟨w.heap.size, 1, none⟩ = some (.slice h.orig.A h.orig.n h.orig.c) ∧ W.cell? ⟨w.heap.size, 2, none⟩ = some (.slice h.now.A h.now.n h.now.c) ∧ W.cell? ⟨w.heap.size, 3, none⟩ = some (.slice h.tx.A h.tx.n h.tx.c) ∧ W.cell? ⟨w.heap.size, 4, none⟩ = some (.slice h.ty.A h.ty.n h.ty.c) ∧ W.cell? ⟨w.heap.size, 5, none⟩ = some (.slice h.ends.A h.ends.n h.ends.c) ∧ W.cell? ⟨w.heap.size, 6, none⟩ = some (.slice h.values.A h.values.n h.values.c) ∧ W.cell? ⟨w.heap.size, 7, none⟩ = some (.slice h.stack.A h.stack.n h.stack.c) ∧ W.cell? ⟨w.heap.size, 8, none⟩ = some (.bool D.axisY) ∧ W.cell? ⟨w.heap.size, 9, none⟩ = some (.int .i64 D.ref) ∧ W.cell? ⟨w.heap.size, 10, none⟩ = some (.int .i64 D.state) ∧ W.cell? ⟨w.heap.size, 11, none⟩ = some (.int .i64 D.cut) ∧ W.cell? ⟨w.heap.size, 12, none⟩ = some (.int .i64 D.least)) := fun W hb => ⟨(hb.cell (by simp; omega)).trans qb9h0, (hb.cell (by simp; omega)).trans qb9h1, (hb.cell (by simp; omega)).trans qb9h2, (hb.cell (by simp; omega)).trans qb9h3, (hb.cell (by simp; omega)).trans qb9h4, (hb.cell (by simp; omega)).trans qb9h5, (hb.cell (by simp; omega)).trans qb9h6, (hb.cell (by simp; omega)).trans qb9h7, (hb.cell (by simp; omega)).trans qb9h8, (hb.cell (by simp; omega)).trans qb9h9, (hb.cell (by simp; omega)).trans qb9h10, (hb.cell (by simp; omega)).trans qb9h11, (hb.cell (by simp; omega)).trans qb9h12, (hb.cell (by simp; omega)).trans qbH0, (hb.cell (by simp; omega)).trans qbH1, (hb.cell (by simp; omega)).trans qbH2, (hb.cell (by simp; omega)).trans qbH3, (hb.cell (by simp; omega)).trans qbH4, (hb.cell (by simp; omega)).trans qbH5, (hb.cell (by simp; omega)).trans qbH6, (hb.cell (by simp; omega)).trans qbH7, (hb.cell (by simp; omega)).trans qbH8, (hb.cell (by simp; omega)).trans qbH9, (hb.cell (by simp; omega)).trans qbH10, (hb.cell (by simp; omega)).trans qbH11, (hb.cell (by simp; omega)).trans qbH12⟩
  replace Sof := Lib.hid Sof
  go_region_held3 (fun w' => w'.cell? ⟨w7.heap.size, 0, none⟩ = some (.int .i64 D.size) ∧ w'.cell? ⟨w7.heap.size, 1, none⟩ = some (.slice h7.orig.A h7.orig.n h7.orig.c) ∧ w'.cell? ⟨w7.heap.size, 2, none⟩ = some (.slice h7.now.A h7.now.n h7.now.c) ∧ w'.cell? ⟨w7.heap.size, 3, none⟩ = some (.slice h7.tx.A h7.tx.n h7.tx.c) ∧ w'.cell? ⟨w7.heap.size, 4, none⟩ = some (.slice h7.ty.A h7.ty.n h7.ty.c) ∧ w'.cell? ⟨w7.heap.size, 5, none⟩ = some (.slice h7.ends.A h7.ends.n h7.ends.c) ∧ w'.cell? ⟨w7.heap.size, 6, none⟩ = some (.slice h7.values.A h7.values.n h7.values.c) ∧ w'.cell? ⟨w7.heap.size, 7, none⟩ = some (.slice h7.stack.A h7.stack.n h7.stack.c) ∧ w'.cell? ⟨w7.heap.size, 8, none⟩ = some (.bool D.axisY) ∧ w'.cell? ⟨w7.heap.size, 9, none⟩ = some (.int .i64 D.ref) ∧ w'.cell? ⟨w7.heap.size, 10, none⟩ = some (.int .i64 D.state) ∧ w'.cell? ⟨w7.heap.size, 11, none⟩ = some (.int .i64 D.cut) ∧ w'.cell? ⟨w7.heap.size, 12, none⟩ = some (.int .i64 D.least) ∧ w'.cell? ⟨w.heap.size, 0, none⟩ = some (.int .i64 D.size) ∧ w'.cell? ⟨w.heap.size, 1, none⟩ = some (.slice h.orig.A h.orig.n h.orig.c) ∧ w'.cell? ⟨w.heap.size, 2, none⟩ = some (.slice h.now.A h.now.n h.now.c) ∧ w'.cell? ⟨w.heap.size, 3, none⟩ = some (.slice h.tx.A h.tx.n h.tx.c) ∧ w'.cell? ⟨w.heap.size, 4, none⟩ = some (.slice h.ty.A h.ty.n h.ty.c) ∧ w'.cell? ⟨w.heap.size, 5, none⟩ = some (.slice h.ends.A h.ends.n h.ends.c) ∧ w'.cell? ⟨w.heap.size, 6, none⟩ = some (.slice h.values.A h.values.n h.values.c) ∧ w'.cell? ⟨w.heap.size, 7, none⟩ = some (.slice h.stack.A h.stack.n h.stack.c) ∧ w'.cell? ⟨w.heap.size, 8, none⟩ = some (.bool D.axisY) ∧ w'.cell? ⟨w.heap.size, 9, none⟩ = some (.int .i64 D.ref) ∧ w'.cell? ⟨w.heap.size, 10, none⟩ = some (.int .i64 D.state) ∧ w'.cell? ⟨w.heap.size, 11, none⟩ = some (.int .i64 D.cut) ∧ w'.cell? ⟨w.heap.size, 12, none⟩ = some (.int .i64 D.least)) (first | exact ⟨qb9h0, qb9h1, qb9h2, qb9h3, qb9h4, qb9h5, qb9h6, qb9h7, qb9h8, qb9h9, qb9h10, qb9h11, qb9h12, qbH0, qbH1, qbH2, qbH3, qbH4, qbH5, qbH6, qbH7, qbH8, qbH9, qbH10, qbH11, qbH12⟩ | exact Sof.out _ hb15 | exact Sof.out _ hb14)
    (first
      | (go_at_call 42; (with_reducible refine (toHinter_any D h 0 w.heap.size _ ?_ ?_ hsmall).mono ?_); exact (hrh.out.frame (Below.sameB hB13.drew (Nat.le_refl _))); exact hB13.size; rintro e w14 ⟨hx, rfl, rdx, hsx, hc14⟩; have hb14 : Below w13.heap.size w13 w14 := (Below.refl _ _).drew.trans hc14; have hz14 := hb14.size; have inx14 := Lib.hid (inx.out.same (Below.sameB hb14 (by omega))); replace rdx := Lib.hid rdx; clear hc14)
      | (go_at_call 33; (with_reducible refine (eqHinter_any D h7 hx w6.heap.size w7.heap.size w13.drew.heap.size w14.heap.size _ ?_ ?_ ?_ ?_ hs7b).mono ?_); exact inx14.out.rdIn; exact rdx.out; omega; exact Nat.le_refl _; rintro e w15 ⟨rfl, hc15⟩; have hb15 := hb14.trans (hc15.mono hz14); have hk := Keep.of_below hb15; clear hc15))
  clear qb9h0 qb9h1 qb9h2 qb9h3 qb9h4 qb9h5 qb9h6 qb9h7 qb9h8 qb9h9 qb9h10 qb9h11 qb9h12 qb9hl qbH0 qbH1 qbH2 qbH3 qbH4 qbH5 qbH6 qbH7 qbH8 qbH9 qbH10 qbH11 qbH12 qbHl
  clear Sof rdx inx14
  have hz15 := hk.size
  have hB15 : Below w.heap.size w w15 := hB13.trans (hk.bel.mono (by omega))
  replace bH := Lib.hid ((hk.block w.heap.size (by omega) (by omega)).trans bH.out)
  replace bO := Lib.hid ((hk.block (w.heap.size + 1) (by omega) (by omega)).trans bO.out)
  replace bW := Lib.hid ((hk.block b6 (by omega) (by omega)).trans bW.out)
  replace b9h := Lib.hid ((hk.block w7.heap.size (by omega) (by omega)).trans b9h.out)
  replace b10 := Lib.hid ((hk.block w9.heap.size (by omega) (by omega)).trans b10.out)
  replace b11 := Lib.hid ((hk.block w11.heap.size (by omega) (by omega)).trans b11.out)
  replace rdw := Lib.hid (rdw.out.frame good_loop (hk.sameB (by omega) (by omega)))
  replace inx := Lib.hid (inx.out.same (hk.sameB (by omega) (by omega)))
  replace iny := Lib.hid (iny.out.same (hk.sameB (by omega) (by omega)))
  replace ing := Lib.hid (ing.out.same (hk.sameB (by omega) (by omega)))
  clear hk
  have qb100 : w15.cell? ⟨w9.heap.size, 0, none⟩ = some (.slice A9 n n) := by rw [Go.Joins.cell_of_block b10.out]; rfl
  have qb10l : w9.heap.size < w15.heap.size := by omega
  have qbO0 : w15.cell? ⟨(w.heap.size + 1), 0, none⟩ = some (.slice A n c) := by rw [Go.Joins.cell_of_block bO.out]; rfl
  have qbOl : (w.heap.size + 1) < w15.heap.size := by omega
  go_wp2_with fail
  go_region_held3 (fun w' => w'.cell? ⟨w9.heap.size, 0, none⟩ = some (.slice A9 n n) ∧ w'.cell? ⟨w.heap.size + 1, 0, none⟩ = some (.slice A n c)) (first | exact ⟨qb100, qbO0⟩ | exact s16 | exact s17)
    (first
      | (go_at_call 30; (with_reducible refine (toOutline_any A n c 0 w.heap.size Ls _ ?_ ?_ hn sL.out.k).mono ?_); exact (hr.out.frame good_loop (Below.sameB hB15.drew (Nat.le_refl _))); exact hB15.size; rintro e w16 ⟨A16, rfl, ho16, hc16⟩; have hb16 : Below w15.heap.size w15 w16 := (Below.refl _ _).drew.trans hc16; have hz16 := hb16.size; have s16 : w16.cell? ⟨w9.heap.size, 0, none⟩ = some (.slice A9 n n) ∧ w16.cell? ⟨w.heap.size + 1, 0, none⟩ = some (.slice A n c) := ⟨(hb16.cell (by simp; omega)).trans qb100, (hb16.cell (by simp; omega)).trans qbO0⟩; have rd16 : Hid (OutRd w16 w15.heap.size w16.heap.size A16 n Ls) := ho16.rd (fun K h => by have := sL.out.k K h; unfold maxLen; omega); have iny16 := Lib.hid (iny.out.same (Below.sameB hb16 (by omega))); clear ho16 hc16)
      | (go_at_call 34; (with_reducible refine (eqOutline_any A9 A16 n n n n w8.heap.size w9.heap.size w15.heap.size w16.heap.size Ls _ ?_ ?_ ?_ ?_ ?_ ?_).mono ?_); exact iny16.out.rdIn sL.out; exact rd16.out; omega; exact Nat.le_refl _; omega; exact (fun K h => by have := sL.out.k K h; omega); rintro e w17 ⟨rfl, hc17⟩; have s17 : w17.cell? ⟨w9.heap.size, 0, none⟩ = some (.slice A9 n n) ∧ w17.cell? ⟨w.heap.size + 1, 0, none⟩ = some (.slice A n c) := ⟨(hc17.cell (by simp; omega)).trans s16.1, (hc17.cell (by simp; omega)).trans s16.2⟩; have hk := Keep.of_below (hb16.trans (hc17.mono hz16)); clear hc17))
  clear qb100 qb10l qbO0 qbOl
  clear s16 s17 rd16 iny16
  have hz17 := hk.size
  have hB17 : Below w.heap.size w w17 := hB15.trans (hk.bel.mono (by omega))
  replace bH := Lib.hid ((hk.block w.heap.size (by omega) (by omega)).trans bH.out)
  replace bO := Lib.hid ((hk.block (w.heap.size + 1) (by omega) (by omega)).trans bO.out)
  replace bW := Lib.hid ((hk.block b6 (by omega) (by omega)).trans bW.out)
  replace b9h := Lib.hid ((hk.block w7.heap.size (by omega) (by omega)).trans b9h.out)
  replace b10 := Lib.hid ((hk.block w9.heap.size (by omega) (by omega)).trans b10.out)
  replace b11 := Lib.hid ((hk.block w11.heap.size (by omega) (by omega)).trans b11.out)
  replace rdw := Lib.hid (rdw.out.frame good_loop (hk.sameB (by omega) (by omega)))
  replace inx := Lib.hid (inx.out.same (hk.sameB (by omega) (by omega)))
  replace iny := Lib.hid (iny.out.same (hk.sameB (by omega) (by omega)))
  replace ing := Lib.hid (ing.out.same (hk.sameB (by omega) (by omega)))
  clear hk
  have qb9h0 : w17.cell? ⟨w7.heap.size, 0, none⟩ = some (.int .i64 D.size) := by rw [Go.Joins.cell_of_block b9h.out]; rfl
  have qb9h1 : w17.cell? ⟨w7.heap.size, 1, none⟩ = some (.slice h7.orig.A h7.orig.n h7.orig.c) := by rw [Go.Joins.cell_of_block b9h.out]; rfl
  have qb9h2 : w17.cell? ⟨w7.heap.size, 2, none⟩ = some (.slice h7.now.A h7.now.n h7.now.c) := by rw [Go.Joins.cell_of_block b9h.out]; rfl
  have qb9h3 : w17.cell? ⟨w7.heap.size, 3, none⟩ = some (.slice h7.tx.A h7.tx.n h7.tx.c) := by rw [Go.Joins.cell_of_block b9h.out]; rfl
  have qb9h4 : w17.cell? ⟨w7.heap.size, 4, none⟩ = some (.slice h7.ty.A h7.ty.n h7.ty.c) := by rw [Go.Joins.cell_of_block b9h.out]; rfl
  have qb9h5 : w17.cell? ⟨w7.heap.size, 5, none⟩ = some (.slice h7.ends.A h7.ends.n h7.ends.c) := by rw [Go.Joins.cell_of_block b9h.out]; rfl
  have qb9h6 : w17.cell? ⟨w7.heap.size, 6, none⟩ = some (.slice h7.values.A h7.values.n h7.values.c) := by rw [Go.Joins.cell_of_block b9h.out]; rfl
  have qb9h7 : w17.cell? ⟨w7.heap.size, 7, none⟩ = some (.slice h7.stack.A h7.stack.n h7.stack.c) := by rw [Go.Joins.cell_of_block b9h.out]; rfl
  have qb9h8 : w17.cell? ⟨w7.heap.size, 8, none⟩ = some (.bool D.axisY) := by rw [Go.Joins.cell_of_block b9h.out]; rfl
  have qb9h9 : w17.cell? ⟨w7.heap.size, 9, none⟩ = some (.int .i64 D.ref) := by rw [Go.Joins.cell_of_block b9h.out]; rfl
  have qb9h10 : w17.cell? ⟨w7.heap.size, 10, none⟩ = some (.int .i64 D.state) := by rw [Go.Joins.cell_of_block b9h.out]; rfl
  have qb9h11 : w17.cell? ⟨w7.heap.size, 11, none⟩ = some (.int .i64 D.cut) := by rw [Go.Joins.cell_of_block b9h.out]; rfl
  have qb9h12 : w17.cell? ⟨w7.heap.size, 12, none⟩ = some (.int .i64 D.least) := by rw [Go.Joins.cell_of_block b9h.out]; rfl
  have qb9hl : w7.heap.size < w17.heap.size := by omega
  go_wp2_with fail
  clear qb9h0 qb9h1 qb9h2 qb9h3 qb9h4 qb9h5 qb9h6 qb9h7 qb9h8 qb9h9 qb9h10 qb9h11 qb9h12 qb9hl
  refine (markHinter_any D h7 w6.heap.size w7.heap.size 1 _ inx.out.1 inx.out.2 (by omega) (by omega) hs7 (by omega) (by omega)).mono ?_
  rintro e w18 ⟨rfl, _, hbm, hsm, hzm⟩
  have hk : Keep w6.heap.size w7.heap.size w17 w18 := ⟨hbm, hsm, hzm⟩
  clear hbm hsm hzm inx
  have hz18 := hk.size
  have hB18 : Below w.heap.size w w18 := hB17.trans (hk.bel.mono (by omega))
  replace bH := Lib.hid ((hk.block w.heap.size (by omega) (by omega)).trans bH.out)
  replace bO := Lib.hid ((hk.block (w.heap.size + 1) (by omega) (by omega)).trans bO.out)
  replace bW := Lib.hid ((hk.block b6 (by omega) (by omega)).trans bW.out)
  replace b9h := Lib.hid ((hk.block w7.heap.size (by omega) (by omega)).trans b9h.out)
  replace b10 := Lib.hid ((hk.block w9.heap.size (by omega) (by omega)).trans b10.out)
  replace b11 := Lib.hid ((hk.block w11.heap.size (by omega) (by omega)).trans b11.out)
  replace rdw := Lib.hid (rdw.out.frame good_loop (hk.sameB (by omega) (by omega)))
  replace iny := Lib.hid (iny.out.same (hk.sameB (by omega) (by omega)))
  replace ing := Lib.hid (ing.out.same (hk.sameB (by omega) (by omega)))
  clear hk
  obtain ⟨k1, hk1⟩ : ∃ k, k = 1 + hinN h7 := ⟨_, rfl⟩
  have hk1b : 0 ≤ k1 ∧ k1 ≤ 10000000 := by
    obtain ⟨m0, m1, m2, m3, m4, m5, m6⟩ := hs7
    unfold hinN at hk1
    omega
  rw [← hk1]
  replace hk1 := Lib.hid hk1
  have qb100 : w18.cell? ⟨w9.heap.size, 0, none⟩ = some (.slice A9 n n) := by rw [Go.Joins.cell_of_block b10.out]; rfl
  have qb10l : w9.heap.size < w18.heap.size := by omega
  go_wp2_with fail
  clear qb100 qb10l
  refine (markOutline_any A9 n n w8.heap.size w9.heap.size ys9 Ls k1 _ iny.out (by omega) (by omega) (by omega) (by omega) hn sL.out.2).mono ?_
  rintro e w19 ⟨rfl, hbm, hsm, _⟩
  have hk : Keep w8.heap.size w9.heap.size w18 w19 := ⟨hbm, hsm, hbm.size⟩
  clear hbm hsm iny
  have hz19 := hk.size
  have hB19 : Below w.heap.size w w19 := hB18.trans (hk.bel.mono (by omega))
  replace bH := Lib.hid ((hk.block w.heap.size (by omega) (by omega)).trans bH.out)
  replace bO := Lib.hid ((hk.block (w.heap.size + 1) (by omega) (by omega)).trans bO.out)
  replace bW := Lib.hid ((hk.block b6 (by omega) (by omega)).trans bW.out)
  replace b9h := Lib.hid ((hk.block w7.heap.size (by omega) (by omega)).trans b9h.out)
  replace b10 := Lib.hid ((hk.block w9.heap.size (by omega) (by omega)).trans b10.out)
  replace b11 := Lib.hid ((hk.block w11.heap.size (by omega) (by omega)).trans b11.out)
  replace rdw := Lib.hid (rdw.out.frame good_loop (hk.sameB (by omega) (by omega)))
  replace ing := Lib.hid (ing.out.same (hk.sameB (by omega) (by omega)))
  clear hk
  have hk2b : ¬ (k1 + 3 * (kN Ls : Int) < 0) := by omega
  have qb110 : w19.cell? ⟨w11.heap.size, 0, none⟩ = some (.slice A11 n11 c11) := by rw [Go.Joins.cell_of_block b11.out]; rfl
  have qb11l : w11.heap.size < w19.heap.size := by omega
  have qbW0 : w19.cell? ⟨b6, 0, none⟩ = some (.slice A5 n5 c5) := by rw [Go.Joins.cell_of_block bW.out]; rfl
  have qbWl : b6 < w19.heap.size := by omega
  go_wp2_with fail
  clear qb110 qb11l qbW0 qbWl
  refine (eqOutline_any A11 A5 n11 c11 n5 c5 w10.heap.size w11.heap.size 0 w6.heap.size R1 _ (ing.out.rdIn sR.out) rdw.out (by omega) (by omega) (by omega) (fun K h => by have := sR.out.k K h; omega)).mono ?_
  rintro e w20 ⟨rfl, hc⟩
  have hk := Keep.of_below hc
  clear hc
  have hz20 := hk.size
  have hB20 : Below w.heap.size w w20 := hB19.trans (hk.bel.mono (by omega))
  replace bH := Lib.hid ((hk.block w.heap.size (by omega) (by omega)).trans bH.out)
  replace bO := Lib.hid ((hk.block (w.heap.size + 1) (by omega) (by omega)).trans bO.out)
  replace bW := Lib.hid ((hk.block b6 (by omega) (by omega)).trans bW.out)
  replace b9h := Lib.hid ((hk.block w7.heap.size (by omega) (by omega)).trans b9h.out)
  replace b10 := Lib.hid ((hk.block w9.heap.size (by omega) (by omega)).trans b10.out)
  replace b11 := Lib.hid ((hk.block w11.heap.size (by omega) (by omega)).trans b11.out)
  replace rdw := Lib.hid (rdw.out.frame good_loop (hk.sameB (by omega) (by omega)))
  replace ing := Lib.hid (ing.out.same (hk.sameB (by omega) (by omega)))
  clear hk
  have qb110 : w20.cell? ⟨w11.heap.size, 0, none⟩ = some (.slice A11 n11 c11) := by rw [Go.Joins.cell_of_block b11.out]; rfl
  have qb11l : w11.heap.size < w20.heap.size := by omega
  go_wp2_with fail
  clear qb110 qb11l
  refine (markOutline_any A11 n11 c11 w10.heap.size w11.heap.size ys11 R1 1 _ ing.out (by omega) (by omega) (by omega) (by omega) hn11 sR.out.2).mono ?_
  rintro e w21 ⟨rfl, hbm, hsm, ing'⟩
  have hk : Keep w10.heap.size w11.heap.size w20 w21 := ⟨hbm, hsm, hbm.size⟩
  replace ing := Lib.hid ing'
  clear hbm hsm ing'
  have hz21 := hk.size
  have hB21 : Below w.heap.size w w21 := hB20.trans (hk.bel.mono (by omega))
  replace bH := Lib.hid ((hk.block w.heap.size (by omega) (by omega)).trans bH.out)
  replace bO := Lib.hid ((hk.block (w.heap.size + 1) (by omega) (by omega)).trans bO.out)
  replace bW := Lib.hid ((hk.block b6 (by omega) (by omega)).trans bW.out)
  replace b9h := Lib.hid ((hk.block w7.heap.size (by omega) (by omega)).trans b9h.out)
  replace b10 := Lib.hid ((hk.block w9.heap.size (by omega) (by omega)).trans b10.out)
  replace b11 := Lib.hid ((hk.block w11.heap.size (by omega) (by omega)).trans b11.out)
  replace rdw := Lib.hid (rdw.out.frame good_loop (hk.sameB (by omega) (by omega)))
  clear hk
  have hm1b : ¬ ((1 : Int) + 3 * (kN R1 : Int) < 0) := by omega
  have qb110 : w21.cell? ⟨w11.heap.size, 0, none⟩ = some (.slice A11 n11 c11) := by rw [Go.Joins.cell_of_block b11.out]; rfl
  have qb11l : w11.heap.size < w21.heap.size := by omega
  go_wp2_with fail
  clear qb110 qb11l
  refine (heldOutline_any A11 n11 c11 w10.heap.size w11.heap.size R1 1 _ (ing.out.rdIn (sR.out.mk 1)) (by omega) (by omega) (by omega) hn11 sR.out.2).mono ?_
  rintro e w22 ⟨rfl, hc⟩
  have hk := Keep.of_below hc
  clear hc
  have hz22 := hk.size
  have hB22 : Below w.heap.size w w22 := hB21.trans (hk.bel.mono (by omega))
  replace bH := Lib.hid ((hk.block w.heap.size (by omega) (by omega)).trans bH.out)
  replace bO := Lib.hid ((hk.block (w.heap.size + 1) (by omega) (by omega)).trans bO.out)
  replace bW := Lib.hid ((hk.block b6 (by omega) (by omega)).trans bW.out)
  replace b9h := Lib.hid ((hk.block w7.heap.size (by omega) (by omega)).trans b9h.out)
  replace b10 := Lib.hid ((hk.block w9.heap.size (by omega) (by omega)).trans b10.out)
  replace b11 := Lib.hid ((hk.block w11.heap.size (by omega) (by omega)).trans b11.out)
  replace rdw := Lib.hid (rdw.out.frame good_loop (hk.sameB (by omega) (by omega)))
  replace ing := Lib.hid (ing.out.same (hk.sameB (by omega) (by omega)))
  clear hk
  have Sof : ∀ W : World, Below w22.heap.size w22 W → (W.cell? ⟨w.heap.size, 0, none⟩ = some (.int .i64 D.size) ∧ W.cell? ⟨w.heap.size, 1, none⟩ = some (.slice h.orig.A h.orig.n h.orig.c) ∧ W.cell? ⟨w.heap.size, 2, none⟩ = some (.slice h.now.A h.now.n h.now.c) ∧ W.cell? ⟨w.heap.size, 3, none⟩ = some (.slice h.tx.A h.tx.n h.tx.c) ∧ W.cell? ⟨w.heap.size, 4, none⟩ = some (.slice h.ty.A h.ty.n h.ty.c) ∧ W.cell? ⟨w.heap.size, 5, none⟩ = some (.slice h.ends.A h.ends.n h.ends.c) ∧ W.cell? ⟨w.heap.size, 6, none⟩ = some (.slice h.values.A h.values.n h.values.c) ∧ W.cell? ⟨w.heap.size, 7, none⟩ = some (.slice h.stack.A h.stack.n h.stack.c) ∧ W.cell? ⟨w.heap.size, 8, none⟩ = some (.bool D.axisY) ∧ W.cell? ⟨w.heap.size, 9, none⟩ = some (.int .i64 D.ref) ∧ W.cell? ⟨w.heap.size, 10, none⟩ = some (.int .i64 D.state) ∧ W.cell? ⟨w.heap.size, 11, none⟩ = some (.int .i64 D.cut) ∧ W.cell? ⟨w.heap.size, 12, none⟩ = some (.int .i64 D.least) ∧ W.cell? ⟨w.heap.size + 1, 0, none⟩ = some (.slice A n c)) := fun W hB => ⟨by rw [Go.Joins.cell_of_block ((hB.block w.heap.size (by omega)).trans bH.out)]; rfl, by rw [Go.Joins.cell_of_block ((hB.block w.heap.size (by omega)).trans bH.out)]; rfl, by rw [Go.Joins.cell_of_block ((hB.block w.heap.size (by omega)).trans bH.out)]; rfl, by rw [Go.Joins.cell_of_block ((hB.block w.heap.size (by omega)).trans bH.out)]; rfl, by rw [Go.Joins.cell_of_block ((hB.block w.heap.size (by omega)).trans bH.out)]; rfl, by rw [Go.Joins.cell_of_block ((hB.block w.heap.size (by omega)).trans bH.out)]; rfl, by rw [Go.Joins.cell_of_block ((hB.block w.heap.size (by omega)).trans bH.out)]; rfl, by rw [Go.Joins.cell_of_block ((hB.block w.heap.size (by omega)).trans bH.out)]; rfl, by rw [Go.Joins.cell_of_block ((hB.block w.heap.size (by omega)).trans bH.out)]; rfl, by rw [Go.Joins.cell_of_block ((hB.block w.heap.size (by omega)).trans bH.out)]; rfl, by rw [Go.Joins.cell_of_block ((hB.block w.heap.size (by omega)).trans bH.out)]; rfl, by rw [Go.Joins.cell_of_block ((hB.block w.heap.size (by omega)).trans bH.out)]; rfl, by rw [Go.Joins.cell_of_block ((hB.block w.heap.size (by omega)).trans bH.out)]; rfl, by rw [Go.Joins.cell_of_block ((hB.block (w.heap.size + 1) (by omega)).trans bO.out)]; rfl⟩
  replace Sof := Lib.hid Sof
  go_upto_region 31 with fail
  go_cut [17, 18, 19] (fun s6 s7 s8 wx => ∃ (b6 : Nat) (A5 : Option Addr) (n5 c5 : Nat), s6 = .pointer (some ⟨b6, 0, none⟩) ∧ s7 = .int .i64 adv ∧ s8 = .int .i64 code ∧ wx.heap[b6]? = some (.cells #[.slice A5 n5 c5] 46 (0, 0)) ∧ OutRd wx 0 wx.heap.size A5 n5 R1 ∧ w22.heap.size ≤ b6 ∧ b6 < wx.heap.size ∧ Below w22.heap.size w22 wx)
  case first =>
    go_region_held3 (fun w' => w'.cell? ⟨w.heap.size, 0, none⟩ = some (.int .i64 D.size) ∧ w'.cell? ⟨w.heap.size, 1, none⟩ = some (.slice h.orig.A h.orig.n h.orig.c) ∧ w'.cell? ⟨w.heap.size, 2, none⟩ = some (.slice h.now.A h.now.n h.now.c) ∧ w'.cell? ⟨w.heap.size, 3, none⟩ = some (.slice h.tx.A h.tx.n h.tx.c) ∧ w'.cell? ⟨w.heap.size, 4, none⟩ = some (.slice h.ty.A h.ty.n h.ty.c) ∧ w'.cell? ⟨w.heap.size, 5, none⟩ = some (.slice h.ends.A h.ends.n h.ends.c) ∧ w'.cell? ⟨w.heap.size, 6, none⟩ = some (.slice h.values.A h.values.n h.values.c) ∧ w'.cell? ⟨w.heap.size, 7, none⟩ = some (.slice h.stack.A h.stack.n h.stack.c) ∧ w'.cell? ⟨w.heap.size, 8, none⟩ = some (.bool D.axisY) ∧ w'.cell? ⟨w.heap.size, 9, none⟩ = some (.int .i64 D.ref) ∧ w'.cell? ⟨w.heap.size, 10, none⟩ = some (.int .i64 D.state) ∧ w'.cell? ⟨w.heap.size, 11, none⟩ = some (.int .i64 D.cut) ∧ w'.cell? ⟨w.heap.size, 12, none⟩ = some (.int .i64 D.least) ∧ w'.cell? ⟨w.heap.size + 1, 0, none⟩ = some (.slice A n c)) ((refine Sof.out _ ?_; (repeat (first | exact hb25 | exact hb24 | exact hb23 | refine Below.drew ?_ | refine Below.alloc ?_ (by first | omega | (simp <;> omega)) _ | refine Below.setCell ?_ (by first | omega | (simp <;> omega)) _ | exact Below.refl _ _))))
      (first | (go_at_call 42; (with_reducible refine (toHinter_any D h 0 w.heap.size _ ?_ ?_ hsmall).mono ?_); (refine hrh.out.frame (Below.sameB (B := w.heap.size) (w := w) ?_ (Nat.le_refl _)); (repeat (first | exact hB22 | refine Below.drew ?_ | refine Below.alloc ?_ (by first | omega | (simp <;> omega)) _ | refine Below.setCell ?_ (by first | omega | (simp <;> omega)) _ | exact Below.refl _ _))); (have := hB22.size; (first | omega | (simp <;> omega))); rintro e w23 ⟨hA, rfl, rdA, hsA, hc23⟩; have hy23 := hc23.size; (try simp at hy23); (refine have_then (Below w22.heap.size w22 w23) ?_ ?_; (refine Below.trans ?_ (hc23.mono (by first | omega | (simp <;> omega))); (repeat (first | exact Below.refl _ _ | refine Below.drew ?_ | refine Below.alloc ?_ (by first | omega | (simp <;> omega)) _ | refine Below.setCell ?_ (by first | omega | (simp <;> omega)) _ | exact Below.refl _ _))); intro hb23); have hz23 : w22.heap.size ≤ w23.heap.size := (by omega); (first | (refine have_then (w23.heap[w22.heap.size]? = some (.cells #[.slice none 0 0] 46 (0, 0))) ?_ ?_; (refine (hc23.block w22.heap.size ?_).trans ?_; (first | omega | (simp <;> omega)); (exact heap_alloc_new w22 _)); intro HV23x22; have tc23x22 : w23.cell? ⟨w22.heap.size, 0, none⟩ = some (.slice none 0 0) := (by rw [Go.Joins.cell_of_block HV23x22]; rfl); have tf23x22 : ∀ o, w23.frozen? ⟨w22.heap.size, o, none⟩ = false := Go.Joins.unfrozen_of_block HV23x22; have tl23x22 : w22.heap.size < w23.heap.size := (by omega)) | skip); replace rdA := Lib.hid (rdA.wide (lo' := 0) (hi' := w23.heap.size) (Nat.zero_le _) (Nat.le_refl _))) | (go_at_call 30; (with_reducible refine (toOutline_any A n c 0 w.heap.size Ls _ ?_ ?_ hn sL.out.k).mono ?_); (refine hr.out.frame good_loop (Below.sameB (B := w.heap.size) (w := w) ?_ (Nat.le_refl _)); refine Below.trans hB22 (Below.mono (B := w22.heap.size) ?_ hB22.size); (repeat (first | exact hb23 | refine Below.drew ?_ | refine Below.alloc ?_ (by first | omega | (simp <;> omega)) _ | refine Below.setCell ?_ (by first | omega | (simp <;> omega)) _ | exact Below.refl _ _))); (have := hB22.size; (first | omega | (simp <;> omega))); rintro e w24 ⟨A4, rfl, ho4, hc24⟩; have hy24 := hc24.size; (try simp at hy24); (refine have_then (Below w22.heap.size w22 w24) ?_ ?_; (refine Below.trans ?_ (hc24.mono (by first | omega | (simp <;> omega))); (repeat (first | exact hb23 | refine Below.drew ?_ | refine Below.alloc ?_ (by first | omega | (simp <;> omega)) _ | refine Below.setCell ?_ (by first | omega | (simp <;> omega)) _ | exact Below.refl _ _))); intro hb24); have hz24 : w23.heap.size ≤ w24.heap.size := (by omega); (first | (refine have_then (w24.heap[w22.heap.size]? = some (.cells #[.slice none 0 0] 46 (0, 0))) ?_ ?_; (refine (hc24.block w22.heap.size ?_).trans ?_; (first | omega | (simp <;> omega)); (exact HV23x22)); intro HV24x22; have tc24x22 : w24.cell? ⟨w22.heap.size, 0, none⟩ = some (.slice none 0 0) := (by rw [Go.Joins.cell_of_block HV24x22]; rfl); have tf24x22 : ∀ o, w24.frozen? ⟨w22.heap.size, o, none⟩ = false := Go.Joins.unfrozen_of_block HV24x22; have tl24x22 : w22.heap.size < w24.heap.size := (by omega)) | skip); (first | (refine have_then (w24.heap[w23.heap.size]? = some (.cells #[.slice none 0 0] 46 (0, 0))) ?_ ?_; (refine (hc24.block w23.heap.size ?_).trans ?_; (first | omega | (simp <;> omega)); (exact heap_alloc_new w23 _)); intro HV24x23; have tc24x23 : w24.cell? ⟨w23.heap.size, 0, none⟩ = some (.slice none 0 0) := (by rw [Go.Joins.cell_of_block HV24x23]; rfl); have tf24x23 : ∀ o, w24.frozen? ⟨w23.heap.size, o, none⟩ = false := Go.Joins.unfrozen_of_block HV24x23; have tl24x23 : w23.heap.size < w24.heap.size := (by omega)) | skip); have rd4 := Lib.hid (out_widen (ho4.rd (fun K h => by have := sL.out.k K h; unfold maxLen; omega))); (refine have_then (Below w23.heap.size w23 w24) ?_ ?_; (refine Below.trans ?_ (hc24.mono (by first | omega | (simp <;> omega))); (repeat (first | exact Below.refl _ _ | refine Below.drew ?_ | refine Below.alloc ?_ (by first | omega | (simp <;> omega)) _ | refine Below.setCell ?_ (by first | omega | (simp <;> omega)) _ | exact Below.refl _ _))); intro hab); replace rdA := Lib.hid ((rdA.out.frame (Below.sameB hab (Nat.le_refl _))).wide (lo' := 0) (hi' := w24.heap.size) (Nat.le_refl _) hab.size); clear ho4) | (go_at_call 43; (with_reducible refine (himpl.out hA A4 n n 0 w24.heap.size 0 w24.heap.size _ ?_ ?_ hsA ?_ ?_ sL.out).mono ?_); (first | exact rdA.out | exact rdA.out.frame ((SameB.refl _ _ _).alloc (Nat.le_refl _) _)); (first | omega | (simp <;> omega)); (first | exact rd4.out | exact rd4.out.frame good_loop ((SameB.refl _ _ _).alloc (Nat.le_refl _) _)); (first | omega | (simp <;> omega)); rintro e w25 ⟨A5, n5, c5, rfl, ho5, hc25⟩; have hy25 := hc25.size; (try simp at hy25); (refine have_then (Below w22.heap.size w22 w25) ?_ ?_; (refine Below.trans ?_ (hc25.mono (by first | omega | (simp <;> omega))); (repeat (first | exact hb24 | refine Below.drew ?_ | refine Below.alloc ?_ (by first | omega | (simp <;> omega)) _ | refine Below.setCell ?_ (by first | omega | (simp <;> omega)) _ | exact Below.refl _ _))); intro hb25); have hz25 : w24.heap.size ≤ w25.heap.size := (by omega); (first | (refine have_then (w25.heap[w22.heap.size]? = some (.cells #[.slice none 0 0] 46 (0, 0))) ?_ ?_; (refine (hc25.block w22.heap.size ?_).trans ?_; (first | omega | (simp <;> omega)); (exact HV24x22)); intro HV25x22; have tc25x22 : w25.cell? ⟨w22.heap.size, 0, none⟩ = some (.slice none 0 0) := (by rw [Go.Joins.cell_of_block HV25x22]; rfl); have tf25x22 : ∀ o, w25.frozen? ⟨w22.heap.size, o, none⟩ = false := Go.Joins.unfrozen_of_block HV25x22; have tl25x22 : w22.heap.size < w25.heap.size := (by omega)) | skip); (first | (refine have_then (w25.heap[w23.heap.size]? = some (.cells #[.slice none 0 0] 46 (0, 0))) ?_ ?_; (refine (hc25.block w23.heap.size ?_).trans ?_; (first | omega | (simp <;> omega)); (exact HV24x23)); intro HV25x23; have tc25x23 : w25.cell? ⟨w23.heap.size, 0, none⟩ = some (.slice none 0 0) := (by rw [Go.Joins.cell_of_block HV25x23]; rfl); have tf25x23 : ∀ o, w25.frozen? ⟨w23.heap.size, o, none⟩ = false := Go.Joins.unfrozen_of_block HV25x23; have tl25x23 : w23.heap.size < w25.heap.size := (by omega)) | skip); (first | (refine have_then (w25.heap[w24.heap.size]? = some (.cells #[.slice none 0 0] 46 (0, 0))) ?_ ?_; (refine (hc25.block w24.heap.size ?_).trans ?_; (first | omega | (simp <;> omega)); (exact heap_alloc_new w24 _)); intro HV25x24; have tc25x24 : w25.cell? ⟨w24.heap.size, 0, none⟩ = some (.slice none 0 0) := (by rw [Go.Joins.cell_of_block HV25x24]; rfl); have tf25x24 : ∀ o, w25.frozen? ⟨w24.heap.size, o, none⟩ = false := Go.Joins.unfrozen_of_block HV25x24; have tl25x24 : w24.heap.size < w25.heap.size := (by omega)) | skip); replace ho5 := Lib.hid ho5))
    all_goals
      go_wp2_with fail
      go_meet
      refine ⟨_, A5, n5, c5, rfl, rfl, rfl, ?_, ?_, ?_, ?_, ?_⟩
      · first | exact Go.Joins.block_setCell HV25x22 _ | exact Go.Joins.block_setCell HV25x23 _ | exact Go.Joins.block_setCell HV25x24 _ | exact heap_alloc_new w25 _
      · refine (((ho5.out.rd (fun K h => by have := sR.out.k K h; unfold maxLen; omega)).frame good_loop ?_).wide good_loop (Nat.zero_le _) (by first | omega | (simp <;> omega)))
        repeat (first | exact SameB.refl _ _ _ | refine SameB.setCell ?_ (.inl (by first | omega | (simp <;> omega))) _ | refine SameB.alloc ?_ (by first | omega | (simp <;> omega)) _)
      · (first | omega | (simp <;> omega))
      · (first | omega | (simp <;> omega))
      · repeat (first | exact hb25 | refine Below.setCell ?_ (by first | omega | (simp <;> omega)) _ | refine Below.alloc ?_ (by first | omega | (simp <;> omega)) _)
  case rest =>
  clear Sof
  obtain ⟨w26, hw26⟩ : ∃ v, v = wc := ⟨_, rfl⟩
  subst hw26
  obtain ⟨b17, A17, n17, c17, rfl, rfl, rfl, bG, rdg, hl17, hg17, hb26⟩ := hcut
  replace bG := Lib.hid bG
  replace rdg := Lib.hid rdg
  have hn17 : n17 ≤ 1048576 := by rw [← rdg.out.1]; exact hRn
  have hk := Keep.of_below hb26
  clear hb26
  have hz26 := hk.size
  have hB26 : Below w.heap.size w w26 := hB22.trans (hk.bel.mono (by omega))
  replace bH := Lib.hid ((hk.block w.heap.size (by omega) (by omega)).trans bH.out)
  replace bO := Lib.hid ((hk.block (w.heap.size + 1) (by omega) (by omega)).trans bO.out)
  replace bW := Lib.hid ((hk.block b6 (by omega) (by omega)).trans bW.out)
  replace b9h := Lib.hid ((hk.block w7.heap.size (by omega) (by omega)).trans b9h.out)
  replace b10 := Lib.hid ((hk.block w9.heap.size (by omega) (by omega)).trans b10.out)
  replace b11 := Lib.hid ((hk.block w11.heap.size (by omega) (by omega)).trans b11.out)
  replace rdw := Lib.hid (rdw.out.frame good_loop (hk.sameB (by omega) (by omega)))
  replace ing := Lib.hid (ing.out.same (hk.sameB (by omega) (by omega)))
  clear hk
  have qbG0 : w26.cell? ⟨b17, 0, none⟩ = some (.slice A17 n17 c17) := by rw [Go.Joins.cell_of_block bG.out]; rfl
  have qbGl : b17 < w26.heap.size := by omega
  have qbW0 : w26.cell? ⟨b6, 0, none⟩ = some (.slice A5 n5 c5) := by rw [Go.Joins.cell_of_block bW.out]; rfl
  have qbWl : b6 < w26.heap.size := by omega
  go_wp2_with fail
  clear qbG0 qbGl qbW0 qbWl
  refine (eqOutline_any A17 A5 n17 c17 n5 c5 0 w26.heap.size 0 w6.heap.size R1 _ rdg.out rdw.out (Nat.le_refl _) (by omega) (by omega) (fun K h => by have := sR.out.k K h; omega)).mono ?_
  rintro e w27 ⟨rfl, hc⟩
  have hk := Keep.of_below hc
  clear hc
  have hz27 := hk.size
  have hB27 : Below w.heap.size w w27 := hB26.trans (hk.bel.mono (by omega))
  replace bH := Lib.hid ((hk.block w.heap.size (by omega) (by omega)).trans bH.out)
  replace bO := Lib.hid ((hk.block (w.heap.size + 1) (by omega) (by omega)).trans bO.out)
  replace bW := Lib.hid ((hk.block b6 (by omega) (by omega)).trans bW.out)
  replace b9h := Lib.hid ((hk.block w7.heap.size (by omega) (by omega)).trans b9h.out)
  replace b10 := Lib.hid ((hk.block w9.heap.size (by omega) (by omega)).trans b10.out)
  replace b11 := Lib.hid ((hk.block w11.heap.size (by omega) (by omega)).trans b11.out)
  replace bG := Lib.hid ((hk.block b17 (by omega) (by omega)).trans bG.out)
  replace rdw := Lib.hid (rdw.out.frame good_loop (hk.sameB (by omega) (by omega)))
  replace ing := Lib.hid (ing.out.same (hk.sameB (by omega) (by omega)))
  clear hk
  have qb110 : w27.cell? ⟨w11.heap.size, 0, none⟩ = some (.slice A11 n11 c11) := by rw [Go.Joins.cell_of_block b11.out]; rfl
  have qb11l : w11.heap.size < w27.heap.size := by omega
  go_wp2_with fail
  clear qb110 qb11l
  refine (heldOutline_any A11 n11 c11 w10.heap.size w11.heap.size R1 1 _ (ing.out.rdIn (sR.out.mk 1)) (by omega) (by omega) (by omega) hn11 sR.out.2).mono ?_
  rintro e w28 ⟨rfl, hc⟩
  have hk := Keep.of_below hc
  clear hc
  have hz28 := hk.size
  have hB28 : Below w.heap.size w w28 := hB27.trans (hk.bel.mono (by omega))
  replace bH := Lib.hid ((hk.block w.heap.size (by omega) (by omega)).trans bH.out)
  replace bO := Lib.hid ((hk.block (w.heap.size + 1) (by omega) (by omega)).trans bO.out)
  replace bW := Lib.hid ((hk.block b6 (by omega) (by omega)).trans bW.out)
  replace b9h := Lib.hid ((hk.block w7.heap.size (by omega) (by omega)).trans b9h.out)
  replace b10 := Lib.hid ((hk.block w9.heap.size (by omega) (by omega)).trans b10.out)
  replace b11 := Lib.hid ((hk.block w11.heap.size (by omega) (by omega)).trans b11.out)
  replace bG := Lib.hid ((hk.block b17 (by omega) (by omega)).trans bG.out)
  replace rdw := Lib.hid (rdw.out.frame good_loop (hk.sameB (by omega) (by omega)))
  replace ing := Lib.hid (ing.out.same (hk.sameB (by omega) (by omega)))
  clear hk
  go_wp2_with fail
  go_ret
  exact ⟨rfl, hB28⟩
end Go.Proofs.Ytgngcllodofimaa
