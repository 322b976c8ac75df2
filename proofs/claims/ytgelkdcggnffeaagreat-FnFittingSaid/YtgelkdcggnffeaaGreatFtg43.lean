/- The ring along a loop: the program's side. Printed by mk_sg2.py. Conditions: as each states. -/
import Derived.Test.YtgelkdcggnffeaaGreatFtg42
namespace Go.Proofs.YtgelkdcggnffeaaGreat
open Go.RowKit
set_option linter.unusedVariables false
set_option maxRecDepth 100000

set_option maxHeartbeats 4000000 in
theorem flattenQuad_cap (q : Qd) (hq : q.ok) (w : World) :
    Calls Tryz.prog 72 #[qV q, .int .i64 1] w fun e w' => FlatTo q w e w' (.int .i64 5) (.int .i64 0) ∧ CapOk e := by
  obtain ⟨s1, s2, s3, s4⟩ := bendQ_bd hq
  obtain ⟨ax, ay, bx, b, cx, cy⟩ := q
  obtain ⟨ha, hb, hc⟩ := hq
  simp only at ha hb hc s3 s4
  obtain ⟨a1, a2⟩ := ptOk_iff.1 ha
  obtain ⟨b1, b2⟩ := ptOk_iff.1 hb
  obtain ⟨c1, c2⟩ := ptOk_iff.1 hc
  have hbq : bendQ ⟨ax, ay, bx, b, cx, cy⟩ = szI (ax - 2 * bx + cx) (ay - 2 * b + cy) := rfl
  have hpt := Lib.hid (fun W => points_any ax ay bx b cx cy W)
  have hcm := Lib.hid (fun p q c W hP hN => combine_any p q c ax ay bx b cx cy 1 (-2) 1 W hP hN (by unfold Sm; omega) (by unfold Sm; omega) (by unfold Sm; omega) (by unfold Sm; omega) (by unfold Sm; omega) (by unfold Sm; omega))
  rw [show ax * 1 + bx * -2 + cx * 1 = ax - 2 * bx + cx by omega, show ay * 1 + b * -2 + cy * 1 = ay - 2 * b + cy by omega] at hcm
  have hsz := Lib.hid (fun W => sizeOf_any (ax - 2 * bx + cx) (ay - 2 * b + cy) W (by omega) (by omega))
  rw [← hbq] at hsz
  obtain ⟨B, hB⟩ : ∃ B, B = bendQ ⟨ax, ay, bx, b, cx, cy⟩ := ⟨_, rfl⟩
  rw [← hB] at hsz s1 s2
  have hlv := Lib.hid (fun W => levelFor_any B W (by omega) (by omega))
  have hqa := Lib.hid (fun (k n : Int) W h0 hk h1 h2 => quadAt_any ax ay bx b cx cy k n W ha hb hc h0 hk h1 h2)
  generalize ax - 2 * bx + cx = X at *
  generalize ay - 2 * b + cy = Y at *
  replace hB := Lib.hid hB
  clear hbq a1 a2 b1 b2 c1 c2 ha hb hc s3 s4
  go_enter Tryz.func72, Tryz.ntmps72
  go_wp2_with fail
  refine (hpt.out _).mono ?_
  rintro e w1 ⟨g, rfl, hP1, hg1, hb1⟩
  have hB1 := (Go.Joins.below_alloc1 w (.cells #[.int .i64 ax, .int .i64 ay, .int .i64 bx, .int .i64 b, .int .i64 cx, .int .i64 cy] 87 (0, 0))).trans (hb1.mono (by simp))
  have hz1 := hB1.size
  have hq1 : w1.heap[w.heap.size]? = some (.cells #[.int .i64 ax, .int .i64 ay, .int .i64 bx, .int .i64 b, .int .i64 cx, .int .i64 cy] 87 (0, 0)) := (hb1.block w.heap.size (by simp)).trans (heap_alloc_new w _)
  clear hb1
  go_wp2_with fail
  refine (hcm.out g w1.heap.size 3 _ (hP1.below (Go.Joins.below_alloc1 _ _)) ⟨by go_simp, by go_simp, by go_simp, by simp⟩).mono ?_
  rintro e w2 ⟨rfl, hb2⟩
  have hbw : Below w1.heap.size w1 w2 := (Go.Joins.below_alloc1 w1 _).trans (hb2.mono (by simp))
  have hB2 := hB1.trans (hbw.mono hz1)
  have hq2 := (hbw.block w.heap.size (Array.getElem?_eq_some_iff.1 hq1).1).trans hq1
  clear hb2 hB1 hP1 hbw hq1
  go_wp2_with fail
  refine (hsz.out w2).mono ?_
  rintro e w3 ⟨rfl, hb3⟩
  have hB3 := hB2.trans (hb3.mono hB2.size)
  have hq3 := (hb3.block w.heap.size (Array.getElem?_eq_some_iff.1 hq2).1).trans hq2
  clear hb3 hB2 hq2
  go_wp2_with fail
  refine (hlv.out w3).mono ?_
  rintro e w' ⟨⟨l, hl, rfl⟩ | ⟨hl, rfl⟩, rfl⟩
  rotate_left
  · have hl' := Lib.hid (hB.out ▸ hl)
    clear hl
    go_wp2_with fail
    go_ret2
    exact ⟨.inl ⟨hl'.out, rfl, hB3⟩, capOk_of (Nat.le_refl _)⟩
  have hl7 := lvl_lt hl
  have hl' : Hid (lvl (bendQ ⟨ax, ay, bx, b, cx, cy⟩) = some l) := hB.out ▸ hl
  have hq0 : w3.cell? ⟨w.heap.size, 0, none⟩ = some (.int .i64 ax) ∧ w3.cell? ⟨w.heap.size, 1, none⟩ = some (.int .i64 ay) ∧ w3.cell? ⟨w.heap.size, 2, none⟩ = some (.int .i64 bx) ∧ w3.cell? ⟨w.heap.size, 3, none⟩ = some (.int .i64 b) ∧ w3.cell? ⟨w.heap.size, 4, none⟩ = some (.int .i64 cx) ∧ w3.cell? ⟨w.heap.size, 5, none⟩ = some (.int .i64 cy) := by
    refine ⟨?_, ?_, ?_, ?_, ?_, ?_⟩ <;> (rw [Go.Joins.cell_of_block hq3]; rfl)
  replace hq0 := Lib.hid hq0
  have hl0 : w.heap.size < w3.heap.size := (Array.getElem?_eq_some_iff.1 hq3).1
  clear hl hq3 hpt hcm hsz hlv
  obtain ⟨n, hn⟩ : ∃ n, n = 2 ^ l := ⟨_, rfl⟩
  have hn1 : 1 ≤ n := by rw [hn]; exact Nat.one_le_two_pow
  have hn64 : n ≤ 64 := by
    rw [hn]
    exact Nat.le_trans (Nat.pow_le_pow_right (by omega) (show l ≤ 6 by omega)) (by decide)
  have hsh : wrap64 ((2 : Int) ^ l) = (n : Int) := by
    rw [hn]
    rcases (show l = 0 ∨ l = 1 ∨ l = 2 ∨ l = 3 ∨ l = 4 ∨ l = 5 ∨ l = 6 by omega) with rfl | rfl | rfl | rfl | rfl | rfl | rfl <;> decide +kernel
  replace hn := Lib.hid hn
  go_wp2_with fail
  rw [hsh]
  clear hsh
  go_loopw [9, 10] (fun out kv wr => ∃ (k : Nat) (A : Option Addr) (c : Nat), kv = .int .i64 k ∧ k ≤ n + 1 ∧ out = .slice A k c ∧ wr.ownsRow w3.heap.size 71 2 (.slice A k c) k (((flatL ⟨ax, ay, bx, b, cx, cy⟩ n).take k).flatMap ptC) ∧ Below w3.heap.size w3 wr) (fun out kv wr => n + 1 - (intOf kv).toNat)
  case atStart => exact ⟨0, none, 0, rfl, Nat.zero_le _, rfl, World.ownsRow_nil _ _ _ _, Below.refl _ _⟩
  case round =>
    obtain ⟨k, A, c, rfl, hk, rfl, hown, hbel⟩ := hrel
    have hz := hbel.size
    replace hown := Lib.hid hown
    by_cases hlt : k ≤ n
    · have hki : (k : Int) ≤ (n : Int) := by omega
      obtain ⟨r0, r1, r2, r3, r4, r5⟩ := hq0.out
      have k0 := (hbel.cell (p := ⟨w.heap.size, 0, none⟩) hl0).trans r0
      have k1 := (hbel.cell (p := ⟨w.heap.size, 1, none⟩) hl0).trans r1
      have k2 := (hbel.cell (p := ⟨w.heap.size, 2, none⟩) hl0).trans r2
      have k3 := (hbel.cell (p := ⟨w.heap.size, 3, none⟩) hl0).trans r3
      have k4 := (hbel.cell (p := ⟨w.heap.size, 4, none⟩) hl0).trans r4
      have k5 := (hbel.cell (p := ⟨w.heap.size, 5, none⟩) hl0).trans r5
      have hcl := Lib.hid (hqa.out (k : Int) (n : Int) wr (by omega) (by omega) (by omega) (by omega))
      have hst := Lib.hid (flatL_take ⟨ax, ay, bx, b, cx, cy⟩ n k hlt)
      have hwr : w.heap.size < wr.heap.size := by omega
      clear r0 r1 r2 r3 r4 r5
      go_wp2_with fail
      refine hcl.out.mono ?_
      rintro e w4 ⟨rfl, hb4⟩
      obtain ⟨P, hP⟩ : ∃ P, P = mixI ax bx cx k n := ⟨_, rfl⟩
      obtain ⟨Q, hQ⟩ : ∃ Q, Q = mixI ay b cy k n := ⟨_, rfl⟩
      rw [← hP, ← hQ]
      replace hP := Lib.hid hP
      replace hQ := Lib.hid hQ
      have hown4 := Lib.hid (own_below hown.out hb4)
      have hbel4 := hbel.trans (hb4.mono hz)
      have hz4 := hbel4.size
      clear hb4 hcl
      go_wp2_with (at_builtin; refine wpApp rfl (.tmp 31) (.tmp 36) elemPt rfl (v := .slice A k c) (n := k) (xs := ((flatL ⟨ax, ay, bx, b, cx, cy⟩ n).take k).flatMap ptC) rfl (hown4.out.alloc _) rfl (src_at (cs := [.int .i64 P, .int .i64 Q]) rfl (by simp [Value.oneCell']) rfl) (by omega) (by omega) (by simp; omega) (k + 1) rfl ?_; intro A' c' w5 hown5 hb5; replace hown5 := Lib.hid hown5)
      have hbel5 := (hbel4.alloc hz4 _).trans hb5
      clear hb5
      go_roundw
      case rel => exact ⟨k + 1, A', c', by go_num, by omega, rfl, by rw [hst.out, ptC_flat_snoc]; have h := hown5.out; rw [hP.out, hQ.out] at h; exact h, hbel5⟩
      case measure => simp [intOf]; omega
    · have hkn : k = n + 1 := by omega
      subst hkn
      have hki : ¬ (((n + 1 : Nat) : Int) ≤ (n : Int)) := by omega
      have hrd : RdS 2 (FlatR ptC) wr w3.heap.size wr.heap.size A (n + 1) (flatL ⟨ax, ay, bx, b, cx, cy⟩ n) := by
        have h := hown.out
        rw [List.take_of_length_le (by rw [flatL_len]; omega)] at h
        exact rdS_own ptC_len (by omega) h (by rw [flatL_len])
      have hrd' : RdS 2 (FlatR ptC) wr w.heap.size wr.heap.size A (n + 1) (flatL ⟨ax, ay, bx, b, cx, cy⟩ n) := hrd.wide (good_flat _) (by omega) (Nat.le_refl _)
      replace hrd' := Lib.hid hrd'
      have hcap := Lib.hid (own_cap hown.out (Nat.succ_pos _))
      clear hrd
      go_wp2_with fail
      go_ret2
      refine ⟨.inr ⟨l, A, c, hl'.out, ?_, ?_, hB3.trans (hbel.mono hB3.size)⟩, capOk_of hcap.out⟩
      · rw [← hn.out]; rfl
      · rw [← hn.out]; exact hrd'.out
theorem FlatTo.oneI {q : Qd} {w w' : World} {e : Ending} (h : FlatTo q w e w' (.int .i64 5) (.int .i64 0)) : ∃ A m c g, e = .returned (.tuple #[.slice A m c, .int .i64 (if g = true then 0 else 5)]) ∧ FlatOne q w w' A m g := by
  rcases h with ⟨hl, he, hb⟩ | ⟨l, A, c, hl, he, hr, hb⟩
  · exact ⟨none, 0, 0, false, he, hb, .inl ⟨rfl, by unfold curvL; rw [hl]⟩⟩
  · have hl7 := lvl_lt hl
    have h1 : 1 ≤ 2 ^ l := Nat.one_le_two_pow
    have h2 : 2 ^ l ≤ 64 := Nat.le_trans (Nat.pow_le_pow_right (by omega) (show l ≤ 6 by omega)) (by decide)
    have hlen : (flatL q (2 ^ l)).dropLast.length = 2 ^ l := by rw [List.length_dropLast, flatL_len]; omega
    refine ⟨A, _, c, true, he, hb, .inr ⟨rfl, (flatL q (2 ^ l)).dropLast, flatL q (2 ^ l), by unfold curvL; rw [hl], by rw [hlen], by omega, by omega, hr, ?_⟩⟩
    rw [show 2 ^ l + 1 - 2 = 2 ^ l - 1 by omega]
    exact flat_drop h1

/-- a ring's variable X and its row, in blocks from B on -/
def RingC (w : World) (X B : Nat) (A : Option Addr) (c : Nat) (L : List Pnt) : Prop :=
  w.heap[X]? = some (.cells #[.slice A L.length c] 41 (0, 0)) ∧ w.ownsRow B 71 2 (.slice A L.length c) L.length (L.flatMap ptC)
theorem RingC.lt {w : World} {X B c : Nat} {A : Option Addr} {L : List Pnt} (h : RingC w X B A c L) : X < w.heap.size := (Array.getElem?_eq_some_iff.1 h.1).1
theorem RingC.below {w w' : World} {X B c : Nat} {A : Option Addr} {L : List Pnt} (h : RingC w X B A c L) (hb : Below w.heap.size w w') : RingC w' X B A c L := ⟨(hb.block X h.lt).trans h.1, own_below h.2 hb⟩
theorem RingC.cell {w : World} {X B c : Nat} {A : Option Addr} {L : List Pnt} (h : RingC w X B A c L) : w.cell? ⟨X, 0, none⟩ = some (.slice A L.length c) := by rw [Go.Joins.cell_of_block h.1]; rfl
theorem RingC.free {w : World} {X B c : Nat} {A : Option Addr} {L : List Pnt} (h : RingC w X B A c L) : ∀ o, w.frozen? ⟨X, o, none⟩ = false := Go.Joins.unfrozen_of_block h.1
theorem RingC.blk {w W w5 : World} {X B c : Nat} {A : Option Addr} {L : List Pnt} (h : RingC w X B A c L) (hX : X < B) (hW : Below w.heap.size w W) (hg : W.grownBy w5 (Value.slice A L.length c).ownBlock) : w5.heap[X]? = some (.cells #[.slice A L.length c] 41 (0, 0)) :=
  (hg.block X (Nat.lt_of_lt_of_le h.lt hW.size) (fun e => by have := (h.2.lt X e.symm).1; omega)).trans ((hW.block X h.lt).trans h.1)
theorem RingC.mid {w W w5 : World} {X B c : Nat} {A : Option Addr} {L : List Pnt} (h : RingC w X B A c L) (hX : X < B) (hW : Below w.heap.size w W) (hg : W.grownBy w5 (Value.slice A L.length c).ownBlock) :
    w5.cell? ⟨X, 0, none⟩ = some (.slice A L.length c) ∧ (∀ o, w5.frozen? ⟨X, o, none⟩ = false) ∧ X < w5.heap.size := by
  have hb := h.blk hX hW hg
  exact ⟨by rw [Go.Joins.cell_of_block hb]; rfl, Go.Joins.unfrozen_of_block hb, (Array.getElem?_eq_some_iff.1 hb).1⟩
theorem RingC.app {w W w5 : World} {X B c c5 : Nat} {A A5 : Option Addr} {L M : List Pnt} (h : RingC w X B A c L) (hX : X < B) (hBw : B ≤ w.heap.size) (hW : Below w.heap.size w W) (hg : W.grownBy w5 (Value.slice A L.length c).ownBlock)
    (ho : w5.ownsRow B 71 2 (.slice A5 (L.length + M.length) c5) (L.length + M.length) (L.flatMap ptC ++ M.flatMap ptC)) : RingC (w5.setCell ⟨X, 0, none⟩ (.slice A5 (L.length + M.length) c5)) X B A5 c5 (L ++ M) ∧ Below X w (w5.setCell ⟨X, 0, none⟩ (.slice A5 (L.length + M.length) c5)) ∧ SameB (X + 1) B w (w5.setCell ⟨X, 0, none⟩ (.slice A5 (L.length + M.length) c5)) ∧ w.heap.size ≤ (w5.setCell ⟨X, 0, none⟩ (.slice A5 (L.length + M.length) c5)).heap.size := by
  have hb := h.blk hX hW hg
  have hl := h.lt
  refine ⟨⟨?_, ?_⟩, ?_, ?_, ?_⟩
  · rw [List.length_append]; exact Go.Joins.block_setCell hb _
  · rw [List.length_append, List.flatMap_append]
    exact ownsRow_setCell_below ho (by show X < B; exact hX) _
  · have h1 : Below X w w5 := (hW.mono (Nat.le_of_lt hl)).grown hg (Nat.le_of_lt (Nat.lt_of_lt_of_le hl hW.size)) (fun g hg' => by have := (h.2.lt g hg').1; omega)
    exact h1.setCell (Nat.le_refl _) _
  · intro k h1 h2
    refine (Below.heap_setCell _ _ _ _ (by show k ≠ X; omega)).trans ?_
    exact (hg.block k (by have := hW.size; omega) (fun e => by have := (h.2.lt k e.symm).1; omega)).trans (hW.block k (by omega))
  · have h1 := hW.size
    have h2 := hg.size
    simp
    omega

theorem RdS.segs {w : World} {lo hi : Nat} {A : Option Addr} {n : Nat} {S : List Seg} (h : RdS 7 (FlatR segC) w lo hi A n S) {j : Nat} (hj : j < n) :
    ∃ b off s, A = some ⟨b, off, none⟩ ∧ lo ≤ b ∧ b < hi ∧ S[j]? = some s ∧ w.cell? ⟨b, off + j * 7, none⟩ = some (.int .i64 s.1.ax) ∧ w.cell? ⟨b, off + j * 7 + 1, none⟩ = some (.int .i64 s.1.ay) ∧ w.cell? ⟨b, off + j * 7 + 2, none⟩ = some (.int .i64 s.1.bx) ∧ w.cell? ⟨b, off + j * 7 + 3, none⟩ = some (.int .i64 s.1.b) ∧ w.cell? ⟨b, off + j * 7 + 4, none⟩ = some (.int .i64 s.1.cx) ∧ w.cell? ⟨b, off + j * 7 + 5, none⟩ = some (.int .i64 s.1.cy) ∧ w.cell? ⟨b, off + j * 7 + 6, none⟩ = some (.bool s.2) := by
  obtain ⟨b, off, s, hA, h1, h2, h3, h4⟩ := h.at hj
  exact ⟨b, off, s, hA, h1, h2, h3, by have := h4 0 _ rfl; simpa using this, h4 1 _ rfl, h4 2 _ rfl, h4 3 _ rfl, h4 4 _ rfl, h4 5 _ rfl, h4 6 _ rfl⟩
theorem ringS_on {out : List Pnt} {q : Qd} {r : List Seg} : ringX out (ringS ((q, true) :: r)) = ringX (out ++ [(q.ax, q.ay)]) (ringS r) := by
  rw [ringS, if_pos rfl]; cases ringS r <;> simp [ringX]
theorem ringS_off {out P : List Pnt} {q : Qd} {r : List Seg} (h : curvL q = some P) : ringX out (ringS ((q, false) :: r)) = ringX (out ++ P) (ringS r) := by
  rw [ringS, if_neg (by simp), h]; cases ringS r <;> simp [ringX]
theorem ringS_no {out : List Pnt} {q : Qd} {r : List Seg} (h : curvL q = none) : ringX out (ringS ((q, false) :: r)) = none := by
  rw [ringS, if_neg (by simp), h]; rfl
theorem segs_len (S : List Seg) : (S.flatMap segC).length = S.length * 7 := by
  induction S with
  | nil => rfl
  | cons s S ih => simp only [List.flatMap_cons, List.length_append, List.length_cons, segC_len, ih]; omega
theorem drop_at {α : Type} {S : List α} {k : Nat} {s : α} (h : S[k]? = some s) : S.drop k = s :: S.drop (k + 1) := by
  obtain ⟨h1, h2⟩ := List.getElem?_eq_some_iff.1 h
  rw [List.drop_eq_getElem_cons h1, h2]

set_option maxHeartbeats 16000000 in
theorem flattenLoop_any (A : Option Addr) (n c lo hi : Nat) (K : List Knot) (w : World) (hr : RdS 3 (FlatR knotC) w lo hi A n K) (hhi : hi ≤ w.heap.size) (hn1 : 1 ≤ n) (hn : n ≤ 1000) (hK : KsOk K) (hon : (knAt K 0).2.2 = true) :
    Calls Tryz.prog 46 #[.agg #[.slice A n c], .int .i64 1] w fun e w' => RingTo (ringL K) w e w' (.int .i64 5) (.int .i64 0) ∧ Below w.heap.size w w' := by
  have hb0 : Below w.heap.size w (((w.alloc (.cells #[.slice A n c] 49 (0, 0))).alloc (.cells #[.slice none 0 0] 41 (0, 0))).alloc (.cells #[.slice none 0 0] 41 (0, 0))) := (Go.Joins.below_alloc2 w _ _).alloc (by simp; omega) _
  have hnew := heap_new0 w (.cells #[.slice A n c] 49 (0, 0)) (.cells #[.slice none 0 0] 41 (0, 0)) (.cells #[.slice none 0 0] 41 (0, 0))
  have hz0 : (((w.alloc (.cells #[.slice A n c] 49 (0, 0))).alloc (.cells #[.slice none 0 0] 41 (0, 0))).alloc (.cells #[.slice none 0 0] 41 (0, 0))).heap.size = w.heap.size + 3 := by simp
  have hP0 := Lib.hid hnew.1
  have hR0 := Lib.hid hnew.2.1
  have hX0 := Lib.hid hnew.2.2
  have hseg := Lib.hid (segmentsOf_any A n c lo hi K _ (hr.frame (good_flat _) (Below.sameB hb0 hhi)) (by omega) hn1 hn hK hon)
  obtain ⟨S, hS⟩ : ∃ S, S = segsI (fullK K) 0 := ⟨_, rfl⟩
  have hll := hr.1
  have hSok : Hid (S.length ≤ 2 * n + 1 ∧ ∀ s ∈ S, s.1.ok) := by
    have h := segsI_ok (fullK_ok hK (by omega)) (by rw [fullK_last K]; exact hon) 0
    have h2 := fullK_len K
    rw [← hS] at h
    exact Lib.hid ⟨by omega, h.2⟩
  have hRL : ringL K = ringS S := by rw [hS, ringS_segs]; rfl
  rw [hRL]
  rw [← hS] at hseg
  clear hr hK hS hRL hon hll hnew
  go_enter Tryz.func46, Tryz.ntmps46
  go_upto_region 2 with fail
  generalize ((w.alloc (.cells #[.slice A n c] 49 (0, 0))).alloc (.cells #[.slice none 0 0] 41 (0, 0))).alloc (.cells #[.slice none 0 0] 41 (0, 0)) = w0 at *
  obtain ⟨X, hX⟩ : ∃ X, X = w.heap.size + 2 := ⟨_, rfl⟩
  rw [← hX] at hX0 ⊢
  have hX1 : X ≤ w.heap.size + 2 ∧ w.heap.size + 2 ≤ X := by omega
  have hw0X : Hid (w0.heap.size = X + 1) := Lib.hid (by omega)
  have hw0Z : w0.heap.size ≤ X + 1 ∧ X + 1 ≤ w0.heap.size := by omega
  clear hX hz0
  have px : w0.cell? ⟨w.heap.size, 0, none⟩ = some (.slice A n c) := by rw [Go.Joins.cell_of_block hP0.out]; rfl
  have plx : w.heap.size < w0.heap.size := by omega
  go_wp2_with fail
  refine hseg.out.mono ?_
  rintro e w1 ⟨A1, m, c1, rfl, hm, ho1, hb1⟩
  have hmS : S.length = m := by
    have h := ho1.1
    have h2 := segs_len S
    omega
  have hrS := Lib.hid (rdS_own segC_len (by omega) ho1 hmS)
  have hz1 := hb1.size
  have hR1 := Lib.hid ((hb1.block (w.heap.size + 1) (by omega)).trans hR0.out)
  have hB1 := Lib.hid (hb0.trans (hb1.mono (by omega)))
  have hLB0 : RingC w1 X w1.heap.size none 0 [] := ⟨(hb1.block X (by omega)).trans hX0.out, World.ownsRow_nil _ _ _ _⟩
  obtain ⟨B, hBe⟩ : ∃ B, B = w1.heap.size := ⟨_, rfl⟩
  rw [← hBe] at hLB0 hrS hz1
  have hXB : X < B := by omega
  rw [hw0X.out] at hrS
  have hBz : B ≤ w1.heap.size ∧ w1.heap.size ≤ B := by omega
  replace hBe := Lib.hid hBe
  have hmn : m ≤ 2001 := by omega
  replace hmS := Lib.hid hmS
  replace hLB0 := Lib.hid hLB0
  clear ho1 hb1 hR0 hX0 hP0 px plx hseg hb0
  go_wp2_with fail
  go_loopw [14] (fun iv wr => ∃ (i : Nat) (Ao : Option Addr) (co : Nat) (out : List Pnt), iv = .int .i64 i ∧ i ≤ m ∧ out.length ≤ 64 * i ∧ ringX out (ringS (S.drop i)) = ringS S ∧ RingC wr X B Ao co out ∧ Below X w1 wr ∧ SameB (X + 1) B w1 wr ∧ B ≤ wr.heap.size) (fun iv wr => m - (intOf iv).toNat)
  case atStart => exact ⟨0, none, 0, [], rfl, by omega, by simp, by rw [List.drop_zero]; cases ringS S <;> simp [ringX], hLB0.out, Below.refl _ _, SameB.refl _ _ _, by omega⟩
  case round =>
  clear hLB0
  generalize wr = xr at *
  obtain ⟨i, Ao, co, out, rfl, hi, hol, hri, hLB, hbx, hsx, hzx⟩ := hrel
  have hXl := hLB.lt
  have hrX := Lib.hid (hrS.out.frame (good_flat _) hsx)
  replace hri := Lib.hid hri
  have hRx := Lib.hid ((hbx.block (w.heap.size + 1) (by omega)).trans hR1.out)
  have hBx := Lib.hid (hB1.out.trans (hbx.mono (by omega)))
  by_cases hlt : i < m
  rotate_left
  · have him : i = m := by omega
    subst him
    have hni : ¬ (i : Int) < (i : Int) := by omega
    have hre : ringS S = some out := by have := hri.out; rw [List.drop_of_length_le (by rw [hmS.out]; exact Nat.le_refl _)] at this; rw [← this]; simp [ringX, ringS]
    have c0 := hLB.cell
    have r0 : xr.cell? ⟨w.heap.size + 1, 0, none⟩ = some (.slice none 0 0) := by rw [Go.Joins.cell_of_block hRx.out]; rfl
    have rf := Go.Joins.unfrozen_of_block hRx.out
    have hzr : w.heap.size + 1 < xr.heap.size := by omega
    have hob : out.length ≤ 200000 := by omega
    replace hre := Lib.hid hre
    replace hLB := Lib.hid hLB
    clear hsx hbx
    go_wp2_with fail
    refine bodyPost_ret (v := .tuple #[.agg #[.slice Ao out.length co], .int .i64 0]) (by simp [results, Tryz.results46, go_sem, r0]) rfl ⟨.inr ⟨out, Ao, co, hre.out, rfl, ?_, hob⟩, ?_⟩
    · exact own_lower (ownsRow_setCell_below hLB.out.2 (by show w.heap.size + 1 < B; omega) _) (by omega)
    · exact hBx.out.setCell (p := ⟨w.heap.size + 1, 0, none⟩) (by show w.heap.size ≤ w.heap.size + 1; omega) _
  have hii : (i : Int) < (m : Int) := by omega
  have j0 : (0 : Int) ≤ (i : Int) ∧ (i : Int) < (m : Int) := by omega
  obtain ⟨b, off, s, rfl, hbl, hbh, hs, x0, x1, x2, x3, x4, x5, x6⟩ := hrX.out.segs hlt
  have hqok : s.1.ok := hSok.out.2 s (List.mem_of_getElem? hs)
  have hdr := drop_at hs
  obtain ⟨⟨ax, ay, bx, ey, cx, cy⟩, st⟩ := s
  simp only at x0 x1 x2 x3 x4 x5 x6 hqok
  have hst0 := hri.out
  rw [hdr] at hst0
  replace hst0 := Lib.hid hst0
  have hbw : b < xr.heap.size := by omega
  clear hdr hs
  have hal := Go.Joins.below_alloc1 xr (.cells #[.int .i64 ax, .int .i64 ay, .int .i64 bx, .int .i64 ey, .int .i64 cx, .int .i64 cy, .bool st] 124 (0, 0))
  have hY0 := heap_alloc_new xr (.cells #[.int .i64 ax, .int .i64 ay, .int .i64 bx, .int .i64 ey, .int .i64 cx, .int .i64 cy, .bool st] 124 (0, 0))
  have hzY : (xr.alloc (.cells #[.int .i64 ax, .int .i64 ay, .int .i64 bx, .int .i64 ey, .int .i64 cx, .int .i64 cy, .bool st] 124 (0, 0))).heap.size = xr.heap.size + 1 := by simp
  go_upto_region 5 with fail
  generalize xr.alloc (.cells #[.int .i64 ax, .int .i64 ay, .int .i64 bx, .int .i64 ey, .int .i64 cx, .int .i64 cy, .bool st] 124 (0, 0)) = v1 at *
  obtain ⟨Y, hYe⟩ : ∃ Y, Y = xr.heap.size := ⟨_, rfl⟩
  rw [← hYe] at hY0 hzY ⊢
  have hL1 := Lib.hid (hLB.below hal)
  have hB1v := Lib.hid (hbx.trans (hal.mono (by omega)))
  have hS1v := Lib.hid (hsx.trans (Below.sameB (lo := X + 1) hal hzx))
  have hRv := Lib.hid ((hal.block (w.heap.size + 1) (by omega)).trans hRx.out)
  have hBv := Lib.hid (hBx.out.trans (hal.mono (by omega)))
  have y0 : v1.cell? ⟨Y, 0, none⟩ = some (.int .i64 ax) := by rw [Go.Joins.cell_of_block hY0]; rfl
  have y1 : v1.cell? ⟨Y, 1, none⟩ = some (.int .i64 ay) := by rw [Go.Joins.cell_of_block hY0]; rfl
  have y2 : v1.cell? ⟨Y, 2, none⟩ = some (.int .i64 bx) := by rw [Go.Joins.cell_of_block hY0]; rfl
  have y3 : v1.cell? ⟨Y, 3, none⟩ = some (.int .i64 ey) := by rw [Go.Joins.cell_of_block hY0]; rfl
  have y4 : v1.cell? ⟨Y, 4, none⟩ = some (.int .i64 cx) := by rw [Go.Joins.cell_of_block hY0]; rfl
  have y5 : v1.cell? ⟨Y, 5, none⟩ = some (.int .i64 cy) := by rw [Go.Joins.cell_of_block hY0]; rfl
  have y6 : v1.cell? ⟨Y, 6, none⟩ = some (.bool st) := by rw [Go.Joins.cell_of_block hY0]; rfl
  have hYl : Y < v1.heap.size := by omega
  have hXY : X < Y := by omega
  have hBY : B ≤ v1.heap.size := by omega
  have hXv : X < v1.heap.size := by omega
  clear x0 x1 x2 x3 x4 x5 x6 hLB hbx hsx hrX hRx hBx hal hri hbw hzY
  replace hYe := Lib.hid hYe
  replace hY0 := Lib.hid hY0
  cases st with
  | true =>
    have hst2 := hst0.out
    rw [ringS_on] at hst2
    replace hst2 := Lib.hid hst2
    have cX := hL1.out.cell
    have fX := hL1.out.free
    clear y2 y3 y4 y5
    go_wp2_with (at_builtin; refine wpAppAt rfl (.tmp 21) (.tmp 25) elemPt rfl (v := .slice Ao out.length co) (n := out.length) (xs := out.flatMap ptC) rfl (hL1.out.2.alloc _) rfl (src_at (cs := [.int .i64 ax, .int .i64 ay]) rfl (by simp [Value.oneCell']) rfl) (by omega) (by omega) (by simp; omega) (out.length + 1) rfl ?_; intro A5 c5 w5 ho5 hg5 _; obtain ⟨q5, f5, l5⟩ := RingC.mid hL1.out hXB (Go.Joins.below_alloc1 _ _) hg5; replace ho5 := Lib.hid ho5; replace hg5 := Lib.hid hg5)
    go_roundw
    case rel =>
      obtain ⟨hA, hBb, hC, hD⟩ := hL1.out.app (M := [(ax, ay)]) hXB hBY (Go.Joins.below_alloc1 _ _) hg5.out ho5.out
      exact ⟨i + 1, A5, c5, out ++ [(ax, ay)], by go_num, by omega, by simp; omega, hst2.out, hA, hB1v.out.trans hBb, hS1v.out.trans hC, by simp at hD ⊢; omega⟩
    case measure => simp [intOf]; omega
  | false =>
    have hfl := Lib.hid (flattenQuad_cap ⟨ax, ay, bx, ey, cx, cy⟩ hqok v1)
    go_wp2_with fail
    refine hfl.out.mono ?_
    rintro e w6 ⟨hft, hcap⟩
    obtain ⟨Af, mf, cf, g, rfl, hB6, hf⟩ := hft.oneI
    have hcp := hcap Af mf cf _ rfl
    have hLD := Lib.hid (hL1.out.below hB6)
    have hz6 := hB6.size
    have hbx6 := Lib.hid (hB1v.out.trans (hB6.mono (by omega)))
    have hsx6 := Lib.hid (hS1v.out.trans (Below.sameB (lo := X + 1) hB6 hBY))
    have hR6 := Lib.hid ((hB6.block (w.heap.size + 1) (by omega)).trans hRv.out)
    have hW6 := Lib.hid (hBv.out.trans (hB6.mono (by omega)))
    replace hf := Lib.hid hf
    clear hft hcap hfl hL1 hB1v hS1v hRv hBv hB6 y0 y1 y2 y3 y4 y5 y6
    rcases hf.out with ⟨rfl, hno⟩ | ⟨rfl, M, L, hM, hm', hM1, hM2, hrM, hpM⟩
    · have hre : ringS S = none := by rw [← hst0.out]; exact ringS_no hno
      replace hre := Lib.hid hre
      have r0 : w6.cell? ⟨w.heap.size + 1, 0, none⟩ = some (.slice none 0 0) := by rw [Go.Joins.cell_of_block hR6.out]; rfl
      have rf := Go.Joins.unfrozen_of_block hR6.out
      have hzr : w.heap.size + 1 < w6.heap.size := by omega
      clear hno hf
      simp only [Bool.false_eq_true, if_false]
      go_wp2_with fail
      refine bodyPost_ret (v := .tuple #[.agg #[.slice none 0 0], .int .i64 5]) (by simp [results, Tryz.results46, go_sem, r0]) rfl ⟨.inl ⟨hre.out, rfl⟩, ?_⟩
      first | exact hW6.out | exact hW6.out.setCell (p := ⟨w.heap.size + 1, 0, none⟩) (by show w.heap.size ≤ w.heap.size + 1; omega) _
    · obtain ⟨b6, o6, _, rfl, hb6l, hb6h, _, _⟩ := hrM.at (j := 0) (by omega)
      have hpr : RdS 2 (FlatR ptC) w6 v1.heap.size w6.heap.size (some ⟨b6, o6, none⟩) M.length M := by
        have h := hrM.part (i := 0) (k := mf - 2) (by omega)
        rw [hpM, show mf - 2 + 1 = M.length by omega] at h
        simpa using h
      have hsrc := Lib.hid (src_rd ptC_len ptC_one (hpr.frame (good_flat _) (SameB.drew (Below.sameB (Below.refl w6.heap.size w6) (Nat.le_refl _)))))
      have hst2 := hst0.out
      rw [ringS_off hM] at hst2
      replace hst2 := Lib.hid hst2
      have qw : IntKind.i64.wrap (M.length : Int) = (M.length : Int) := wi (by omega)
      have qc : 0 ≤ (M.length : Int) ∧ (M.length : Int) ≤ (cf : Int) := by omega
      have qt : ((M.length : Int)).toNat = M.length := by simp
      have qm : IntKind.i64.wrap ((mf : Int) - 1) = (M.length : Int) := by rw [wi (by omega)]; omega
      have cX := hLD.out.cell
      have fX := hLD.out.free
      replace hLD := Lib.hid (show RingC w6.drew X B Ao co out from hLD.out)
      have hXl6 : X < w6.heap.size := by omega
      clear hpr hrM hpM hM hf
      simp only [if_true]
      go_upto_region 10 with fail
      refine wp_region_head 8 (fun w' => w'.cell? ⟨X, 0, none⟩ = some (.slice Ao out.length co)) (by kernel_rfl) (by kernel_rfl) (by exact cX) (fun hHeld => ?_)
      simp only [List.take_succ_cons, List.take_zero, List.drop_succ_cons, List.drop_zero]
      refine wpAnyH_take (i := 0) (v := ?_) ((List.getElem?_toArray).trans rfl) (by kernel_rfl) (by kernel_rfl) (by kernel_rfl) (fun _ _ _ h => h) (Or.inl ⟨by rfl, ?_⟩) (by assumption) ?_
      rotate_left
      · (intro w hSw; (try dsimp only at hSw); go_simp; (try (with_reducible rfl)))
      (try simp only [Act.put, List.setIfInBounds_toArray, List.set_cons_zero, List.set_cons_succ])
      refine wpAnyH_take (i := 1) (v := ?_) ((List.getElem?_toArray).trans rfl) (by kernel_rfl) (by kernel_rfl) (by kernel_rfl) (fun _ _ _ h => h) (Or.inl ⟨by rfl, ?_⟩) (by assumption) ?_
      rotate_left
      · (intro w hSw; (try dsimp only at hSw); go_simp; (try (with_reducible rfl)))
      (try simp only [Act.put, List.setIfInBounds_toArray, List.set_cons_zero, List.set_cons_succ])
      refine wpAnyH_take (i := 2) (v := ?_) ((List.getElem?_toArray).trans rfl) (by kernel_rfl) (by kernel_rfl) (by kernel_rfl) (fun _ _ _ h => h) (Or.inl ⟨by rfl, ?_⟩) (by assumption) ?_
      rotate_left
      · (intro w hSw; (try dsimp only at hSw); go_simp; (try (with_reducible rfl)))
      (try simp only [Act.put, List.setIfInBounds_toArray, List.set_cons_zero, List.set_cons_succ])
      refine wpAnyH_take (i := 3) (v := ?_) ((List.getElem?_toArray).trans rfl) (by kernel_rfl) (by kernel_rfl) (by kernel_rfl) (fun _ _ _ h => h) (Or.inl ⟨by rfl, ?_⟩) (by assumption) ?_
      rotate_left
      · (intro w hSw; (try dsimp only at hSw); go_simp; (try (with_reducible rfl)))
      (try simp only [Act.put, List.setIfInBounds_toArray, List.set_cons_zero, List.set_cons_succ])
      refine wpAnyH_take (i := 4) (v := ?_) ((List.getElem?_toArray).trans rfl) (by kernel_rfl) (by kernel_rfl) (by kernel_rfl) (fun _ _ _ h => h) (Or.inl ⟨by rfl, ?_⟩) (by assumption) ?_
      rotate_left
      · (intro w hSw; (try dsimp only at hSw); go_simp; (try (with_reducible rfl)))
      (try simp only [Act.put, List.setIfInBounds_toArray, List.set_cons_zero, List.set_cons_succ])
      refine wpAnyH_take (i := 5) (v := ?_) ((List.getElem?_toArray).trans rfl) (by kernel_rfl) (by kernel_rfl) (by kernel_rfl) (fun _ _ _ h => h) (Or.inl ⟨by rfl, ?_⟩) (by assumption) ?_
      rotate_left
      · (intro w hSw; (try dsimp only at hSw); go_simp; (try (with_reducible rfl)))
      (try simp only [Act.put, List.setIfInBounds_toArray, List.set_cons_zero, List.set_cons_succ])
      refine wpAnyH_take (i := 6) (v := ?_) ((List.getElem?_toArray).trans rfl) (by kernel_rfl) (by kernel_rfl) (by kernel_rfl) (fun _ _ _ h => h) (Or.inl ⟨by rfl, ?_⟩) (by assumption) ?_
      rotate_left
      · (intro w hSw; (try dsimp only at hSw); go_simp; (try (with_reducible rfl)))
      (try simp only [Act.put, List.setIfInBounds_toArray, List.set_cons_zero, List.set_cons_succ])
      refine wpAnyH_ready (rs := [7]) (by kernel_rfl) (by simp) ?_
      refine AllReadyH.cons ((List.getElem?_toArray).trans rfl) (fun K0 hK0 => ?_) AllReadyH.nil
      (refine stepAppAt rfl (.tmp 40) (.tmp 45) elemPt rfl (v := .slice Ao out.length co) (n := out.length) (xs := out.flatMap ptC) rfl hLD.out.2 rfl hsrc.out (by omega) (by omega) (show B ≤ w6.heap.size by omega) (out.length + M.length) rfl ?_; intro A5 c5 w5 ho5 hg5; obtain ⟨q5, f5, l5⟩ := RingC.mid hLD.out hXB (Below.refl _ _) hg5; replace ho5 := Lib.hid ho5; replace hg5 := Lib.hid hg5)
      refine hK0.out _ _ ?_ (fun hHeld => ?_)
      · (exact q5)
      clear hK0 K0
      (try simp only [Act.put, List.setIfInBounds_toArray, List.set_cons_zero, List.set_cons_succ])
      refine wpAnyH_done (by kernel_rfl) ?_ _
      show wpList _ _ _ _ _ _
      go_wp2_with fail
      go_roundw
      case rel =>
        obtain ⟨hA, hBb, hC, hD⟩ := hLD.out.app (M := M) hXB (show B ≤ w6.heap.size by omega) (Below.refl _ _) hg5.out ho5.out
        have hD2 : w6.heap.size ≤ _ := hD
        exact ⟨i + 1, A5, c5, out ++ M, by go_num, by omega, by simp; omega, hst2.out, hA, hbx6.out.drew.trans hBb, hsx6.out.drew.trans hC, by omega⟩
      case measure => simp [intOf]; omega
end Go.Proofs.YtgelkdcggnffeaaGreat

