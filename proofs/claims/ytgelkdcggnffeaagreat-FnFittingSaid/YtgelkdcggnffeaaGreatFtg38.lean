/- The ring along a loop: the reference's side. Printed by mk_fo2.py. Conditions: as each states. -/
import Derived.Test.YtgelkdcggnffeaaGreatFtg37
namespace Go.Proofs.YtgelkdcggnffeaaGreat
open Go.RowKit
set_option linter.unusedVariables false
set_option maxRecDepth 100000

/-- a ring's variable X and its row, in blocks behind it -/
def RingB (w : World) (X : Nat) (A : Option Addr) (c : Nat) (L : List Pnt) : Prop :=
  w.heap[X]? = some (.cells #[.slice A L.length c] 41 (0, 0)) ∧ w.ownsRow (X + 1) 71 2 (.slice A L.length c) L.length (L.flatMap ptC)
theorem RingB.lt {w : World} {X c : Nat} {A : Option Addr} {L : List Pnt} (h : RingB w X A c L) : X < w.heap.size := (Array.getElem?_eq_some_iff.1 h.1).1
theorem RingB.below {w w' : World} {X c : Nat} {A : Option Addr} {L : List Pnt} (h : RingB w X A c L) (hb : Below w.heap.size w w') : RingB w' X A c L := ⟨(hb.block X h.lt).trans h.1, own_below h.2 hb⟩
theorem RingB.cell {w : World} {X c : Nat} {A : Option Addr} {L : List Pnt} (h : RingB w X A c L) : w.cell? ⟨X, 0, none⟩ = some (.slice A L.length c) := by rw [Go.Joins.cell_of_block h.1]; rfl
theorem RingB.free {w : World} {X c : Nat} {A : Option Addr} {L : List Pnt} (h : RingB w X A c L) : ∀ o, w.frozen? ⟨X, o, none⟩ = false := Go.Joins.unfrozen_of_block h.1
theorem RingB.blk {w W w5 : World} {X c : Nat} {A : Option Addr} {L : List Pnt} (h : RingB w X A c L) (hW : Below w.heap.size w W) (hg : W.grownBy w5 (Value.slice A L.length c).ownBlock) : w5.heap[X]? = some (.cells #[.slice A L.length c] 41 (0, 0)) :=
  (hg.block X (Nat.lt_of_lt_of_le h.lt hW.size) (fun e => by have := (h.2.lt X e.symm).1; omega)).trans ((hW.block X h.lt).trans h.1)
theorem RingB.mid {w W w5 : World} {X c : Nat} {A : Option Addr} {L : List Pnt} (h : RingB w X A c L) (hW : Below w.heap.size w W) (hg : W.grownBy w5 (Value.slice A L.length c).ownBlock) :
    w5.cell? ⟨X, 0, none⟩ = some (.slice A L.length c) ∧ (∀ o, w5.frozen? ⟨X, o, none⟩ = false) ∧ X < w5.heap.size := by
  have hb := h.blk hW hg
  exact ⟨by rw [Go.Joins.cell_of_block hb]; rfl, Go.Joins.unfrozen_of_block hb, (Array.getElem?_eq_some_iff.1 hb).1⟩
theorem RingB.app {w W w5 : World} {X c c5 : Nat} {A A5 : Option Addr} {L M : List Pnt} (h : RingB w X A c L) (hW : Below w.heap.size w W) (hg : W.grownBy w5 (Value.slice A L.length c).ownBlock)
    (ho : w5.ownsRow (X + 1) 71 2 (.slice A5 (L.length + M.length) c5) (L.length + M.length) (L.flatMap ptC ++ M.flatMap ptC)) : RingB (w5.setCell ⟨X, 0, none⟩ (.slice A5 (L.length + M.length) c5)) X A5 c5 (L ++ M) ∧ Below X w (w5.setCell ⟨X, 0, none⟩ (.slice A5 (L.length + M.length) c5)) := by
  have hb := h.blk hW hg
  have hl := h.lt
  refine ⟨⟨?_, ?_⟩, ?_⟩
  · rw [List.length_append]; exact Go.Joins.block_setCell hb _
  · rw [List.length_append, List.flatMap_append]
    exact ownsRow_setCell_below ho (by simp) _
  · have h1 : Below X w w5 := (hW.mono (Nat.le_of_lt hl)).grown hg (Nat.le_of_lt (Nat.lt_of_lt_of_le hl hW.size)) (fun g hg' => by have := (h.2.lt g hg').1; omega)
    exact h1.setCell (Nat.le_refl _) _
/-- the ring along a loop, made by the call -/
def RingTo (r : Option (List Pnt)) (w : World) (e : Ending) (w' : World) (bad good : Value) : Prop :=
  (r = none ∧ e = .returned (.tuple #[.agg #[.slice none 0 0], bad])) ∨
  ∃ (R : List Pnt) (A : Option Addr) (c : Nat), r = some R ∧ e = .returned (.tuple #[.agg #[.slice A R.length c], good]) ∧ w'.ownsRow w.heap.size 71 2 (.slice A R.length c) R.length (R.flatMap ptC) ∧ R.length ≤ 200000
theorem flat_drop {q : Qd} {n : Nat} (hn : 1 ≤ n) : partP (flatL q n) 0 (n - 1) = (flatL q n).dropLast := by
  unfold partP
  rw [List.drop_zero, List.dropLast_eq_take, flatL_len]
  congr 1; omega

/-- the points along a curve, in one form -/
def FlatOne (q : Qd) (w w' : World) (A : Option Addr) (m : Nat) (g : Bool) : Prop :=
  Below w.heap.size w w' ∧ ((g = false ∧ curvL q = none) ∨ (g = true ∧ ∃ M L, curvL q = some M ∧ m = M.length + 1 ∧ 1 ≤ M.length ∧ M.length ≤ 64 ∧ RdS 2 (FlatR ptC) w' w.heap.size w'.heap.size A m L ∧ partP L 0 (m - 2) = M))
theorem FlatTo.one {q : Qd} {w w' : World} {e : Ending} (h : FlatTo q w e w' (.bool false) (.bool true)) : ∃ A m c g, e = .returned (.tuple #[.slice A m c, .bool g]) ∧ FlatOne q w w' A m g := by
  rcases h with ⟨hl, he, hb⟩ | ⟨l, A, c, hl, he, hr, hb⟩
  · exact ⟨none, 0, 0, false, he, hb, .inl ⟨rfl, by unfold curvL; rw [hl]⟩⟩
  · have hl7 := lvl_lt hl
    have h1 : 1 ≤ 2 ^ l := Nat.one_le_two_pow
    have h2 : 2 ^ l ≤ 64 := Nat.le_trans (Nat.pow_le_pow_right (by omega) (show l ≤ 6 by omega)) (by decide)
    have hlen : (flatL q (2 ^ l)).dropLast.length = 2 ^ l := by rw [List.length_dropLast, flatL_len]; omega
    refine ⟨A, _, c, true, he, hb, .inr ⟨rfl, (flatL q (2 ^ l)).dropLast, flatL q (2 ^ l), by unfold curvL; rw [hl], by rw [hlen], by omega, by omega, hr, ?_⟩⟩
    rw [show 2 ^ l + 1 - 2 = 2 ^ l - 1 by omega]
    exact flat_drop h1

/-- a result that begins with a slice: its room holds its length -/
def CapOk (e : Ending) : Prop := ∀ A m c v, e = .returned (.tuple #[.slice A m c, v]) → m ≤ c
theorem capOk_of {A : Option Addr} {m c : Nat} {v : Value} (h : m ≤ c) : CapOk (.returned (.tuple #[.slice A m c, v])) := by
  intro A' m' c' v' he
  simp at he
  omega
theorem own_cap {w : World} {base : Nat} {e : TypeId} {size : Nat} {A : Option Addr} {n c : Nat} {xs : List Value} (h : w.ownsRow base e size (.slice A n c) n xs) (hn : 0 < n) : n ≤ c := by
  rcases h.2 with ⟨_, h0⟩ | ⟨g, cap, cur, hv, _, _, hc, _⟩
  · omega
  · simp at hv; omega
set_option maxHeartbeats 4000000 in
theorem l10Flat_cap (p : Nat) (q : Qd) (hq : q.ok) (w : World) (hp : QB w p q) :
    Calls Tryz.prog 53 #[.pointer (some ⟨p, 0, none⟩), .int .i64 1] w fun e w' => FlatTo q w e w' (.bool false) (.bool true) ∧ CapOk e := by
  have hlv := Lib.hid (l10Level_any p q hq w hp)
  obtain ⟨ax, ay, bx, b, cx, cy⟩ := q
  obtain ⟨ha, hb, hc⟩ := hq
  simp only at ha hb hc
  have hla := Lib.hid (fun (k n : Int) W hp h0 hk h1 h2 => l10At_any p ax ay bx b cx cy k n W hp ha hb hc h0 hk h1 h2)
  have hpl := hp.lt
  replace hp := Lib.hid hp
  clear ha hb hc
  go_enter Tryz.func53, Tryz.ntmps53
  go_wp2_with fail
  refine hlv.out.mono ?_
  rintro e w3 ⟨⟨l, hl, rfl⟩ | ⟨hl, rfl⟩, hB3⟩
  rotate_left
  · replace hl := Lib.hid hl
    go_wp2_with fail
    go_ret2
    exact ⟨.inl ⟨hl.out, rfl, hB3⟩, capOk_of (Nat.le_refl _)⟩
  have hl7 := lvl_lt hl
  replace hl := Lib.hid hl
  have hp3 := Lib.hid (hp.out.below hB3)
  have hpl3 := hp3.out.lt
  have hz3 := hB3.size
  obtain ⟨n, hn⟩ : ∃ n, n = 2 ^ l := ⟨_, rfl⟩
  have hn1 : 1 ≤ n := by rw [hn]; exact Nat.one_le_two_pow
  have hn64 : n ≤ 64 := by
    rw [hn]
    exact Nat.le_trans (Nat.pow_le_pow_right (by omega) (show l ≤ 6 by omega)) (by decide)
  have hsh : wrap64 ((2 : Int) ^ l) = (n : Int) := by
    rw [hn]
    rcases (show l = 0 ∨ l = 1 ∨ l = 2 ∨ l = 3 ∨ l = 4 ∨ l = 5 ∨ l = 6 by omega) with rfl | rfl | rfl | rfl | rfl | rfl | rfl <;> decide +kernel
  replace hn := Lib.hid hn
  go_wp2_with fail
  try rw [hsh]
  go_loopw [8, 10] (fun out kv wr => ∃ (k : Nat) (A : Option Addr) (c : Nat), kv = .int .i64 k ∧ k ≤ n + 1 ∧ out = .slice A k c ∧ wr.ownsRow w3.heap.size 71 2 (.slice A k c) k (((flatL ⟨ax, ay, bx, b, cx, cy⟩ n).take k).flatMap ptC) ∧ Below w3.heap.size w3 wr) (fun out kv wr => n + 1 - (intOf kv).toNat)
  case atStart => exact ⟨0, _, _, rfl, Nat.zero_le _, rfl, World.ownsRow_lit w3 _ _ (Nat.le_refl _) (by decide) (by simp), (Below.refl _ _).alloc (Nat.le_refl _) _⟩
  case round =>
    obtain ⟨k, A, c, rfl, hk, rfl, hown, hbel⟩ := hrel
    have hz := hbel.size
    replace hown := Lib.hid hown
    by_cases hlt : k ≤ n
    · have hki : (k : Int) ≤ (n : Int) := by omega
      have hcl := Lib.hid (hla.out (k : Int) (n : Int) wr (hp3.out.below hbel) (by omega) (by omega) (by omega) (by omega))
      have hst := Lib.hid (flatL_take ⟨ax, ay, bx, b, cx, cy⟩ n k hlt)
      go_wp2_with fail
      refine hcl.out.mono ?_
      rintro e w4 ⟨rfl, hb4⟩
      obtain ⟨P, hP⟩ : ∃ P, P = mixI ax bx cx k n := ⟨_, rfl⟩
      obtain ⟨Q, hQ⟩ : ∃ Q, Q = mixI ay b cy k n := ⟨_, rfl⟩
      rw [← hP, ← hQ]
      replace hP := Lib.hid hP
      replace hQ := Lib.hid hQ
      have hown4 := Lib.hid (own_below hown.out hb4)
      have hbel4 := hbel.trans (hb4.mono hz)
      have hz4 := hbel4.size
      clear hb4 hcl
      go_wp2_with (at_builtin; refine wpApp rfl (.tmp 28) (.tmp 33) elemPt rfl (v := .slice A k c) (n := k) (xs := ((flatL ⟨ax, ay, bx, b, cx, cy⟩ n).take k).flatMap ptC) rfl (hown4.out.alloc _) rfl (src_at (cs := [.int .i64 P, .int .i64 Q]) rfl (by simp [Value.oneCell']) rfl) (by omega) (by omega) (by simp; omega) (k + 1) rfl ?_; intro A' c' w5 hown5 hb5; replace hown5 := Lib.hid hown5)
      have hbel5 := (hbel4.alloc hz4 _).trans hb5
      clear hb5
      go_roundw
      case rel => exact ⟨k + 1, A', c', by go_num, by omega, rfl, by rw [hst.out, ptC_flat_snoc]; have h := hown5.out; rw [hP.out, hQ.out] at h; exact h, hbel5⟩
      case measure => simp [intOf]; omega
    · have hkn : k = n + 1 := by omega
      subst hkn
      have hki : ¬ (((n + 1 : Nat) : Int) ≤ (n : Int)) := by omega
      have hrd : RdS 2 (FlatR ptC) wr w3.heap.size wr.heap.size A (n + 1) (flatL ⟨ax, ay, bx, b, cx, cy⟩ n) := by
        have h := hown.out
        rw [List.take_of_length_le (by rw [flatL_len]; omega)] at h
        exact rdS_own ptC_len (by omega) h (by rw [flatL_len])
      have hrd' : RdS 2 (FlatR ptC) wr w.heap.size wr.heap.size A (n + 1) (flatL ⟨ax, ay, bx, b, cx, cy⟩ n) := hrd.wide (good_flat _) (by omega) (Nat.le_refl _)
      replace hrd' := Lib.hid hrd'
      have hcap := Lib.hid (own_cap hown.out (Nat.succ_pos _))
      clear hrd
      go_wp2_with fail
      go_ret2
      refine ⟨.inr ⟨l, A, c, hl.out, ?_, ?_, hB3.trans (hbel.mono hB3.size)⟩, capOk_of hcap.out⟩
      · rw [← hn.out]; rfl
      · rw [← hn.out]; exact hrd'.out

set_option maxHeartbeats 16000000 in
theorem l10Ring_any (p po : Nat) (A : Option Addr) (n c lo hi : Nat) (K : List Knot) (w : World) (hp : w.cell? ⟨p, po, none⟩ = some (.slice A n c)) (hr : RdS 3 (FlatR knotC) w lo hi A n K) (hhi : hi ≤ w.heap.size) (hn1 : 1 ≤ n) (hn : n ≤ 1000) (hK : KsOk K) (hon : (knAt K 0).2.2 = true) :
    Calls Tryz.prog 30 #[.pointer (some ⟨p, po, none⟩), .int .i64 1] w fun e w' => RingTo (ringL K) w e w' (.bool false) (.bool true) ∧ Below w.heap.size w w' := by
  have hll := hr.1
  have hpl : p < w.heap.size := cell_lt hp
  have hb0 := Go.Joins.below_alloc1 w (.cells #[.slice none 0 0] 41 (0, 0))
  have hR0 := Lib.hid (heap_alloc_new w (.cells #[.slice none 0 0] 41 (0, 0)))
  have hz0 : (w.alloc (.cells #[.slice none 0 0] 41 (0, 0))).heap.size = w.heap.size + 1 := by simp
  have hfull := Lib.hid (l10Full_any p po A n c lo hi K (w.alloc (.cells #[.slice none 0 0] 41 (0, 0))) ((hb0.cell (p := ⟨p, po, none⟩) hpl).trans hp) (hr.frame (good_flat _) (Below.sameB hb0 hhi)) (by omega) hn1 hn hK)
  obtain ⟨F, hF⟩ : ∃ F, F = fullK K := ⟨_, rfl⟩
  have hFl := fullK_len K
  rw [← hF, hll] at hFl
  have hFok : KsOk F := by rw [hF]; exact fullK_ok hK (by omega)
  have hFlast : knAt F (F.length - 1) = knAt K 0 := by rw [hF]; exact fullK_last K
  have hRL : ringL K = ringI F 0 := by rw [hF]; rfl
  rw [hRL]
  rw [← hF] at hfull
  obtain ⟨N, hN⟩ : ∃ N, N = F.length := ⟨_, rfl⟩
  rw [← hN] at hfull hFl hFlast
  have hNH := Lib.hid hN
  replace hFok := Lib.hid hFok
  replace hFlast := Lib.hid (show (knAt F (N - 1)).2.2 = true by rw [hFlast]; exact hon)
  clear hr hp hK hF hRL hN hon hll
  go_enter Tryz.func30, Tryz.ntmps30
  go_upto_region 1 with fail
  generalize w.alloc (.cells #[.slice none 0 0] 41 (0, 0)) = w0 at *
  go_wp2_with fail
  refine hfull.out.mono ?_
  rintro e w1 ⟨A1, c1, rfl, ho1, hb1⟩
  have hrF := Lib.hid (rdS_own knotC_len (by omega) ho1 hNH.out.symm)
  have hz1 := hb1.size
  have hR1 := Lib.hid ((hb1.block w.heap.size (by omega)).trans hR0.out)
  have hB1 := Lib.hid (hb0.trans (hb1.mono (by omega)))
  have hal := Go.Joins.below_alloc1 w1 (.cells #[.slice none 0 0] 41 (0, 0))
  have hX0 : RingB (w1.alloc (.cells #[.slice none 0 0] 41 (0, 0))) w1.heap.size none 0 [] := ⟨heap_alloc_new w1 _, World.ownsRow_nil _ _ _ _⟩
  have hza : (w1.alloc (.cells #[.slice none 0 0] 41 (0, 0))).heap.size = w1.heap.size + 1 := by simp
  have hrF2 := Lib.hid (hrF.out.frame (good_flat _) (Below.sameB hal (Nat.le_refl _)))
  have hR2 := Lib.hid ((hal.block w.heap.size (by omega)).trans hR1.out)
  have hB2 := Lib.hid (hB1.out.trans (hal.mono (by omega)))
  clear ho1 hrF hR0 hR1 hB1 hb1 hfull hal
  go_upto_region 3 with fail
  generalize w1.alloc (.cells #[.slice none 0 0] 41 (0, 0)) = v0 at *
  obtain ⟨X, hXe⟩ : ∃ X, X = w1.heap.size := ⟨_, rfl⟩
  rw [← hXe] at hX0 hza hz1 hrF2 ⊢
  have hXv : X < v0.heap.size := by omega
  have hwX : w.heap.size < X := by omega
  clear hza hXe
  replace hX0 := Lib.hid hX0
  go_wp2_with fail
  go_loopw [8] (fun iv wr => ∃ (i : Nat) (Ao : Option Addr) (co : Nat) (out : List Pnt), iv = .int .i64 i ∧ i + 1 ≤ N ∧ out.length ≤ 64 * i ∧ ringX out (ringI F i) = ringI F 0 ∧ RingB wr X Ao co out ∧ Below X v0 wr) (fun iv wr => N - (intOf iv).toNat)
  case atStart => exact ⟨0, none, 0, [], rfl, by omega, by simp, by cases ringI F 0 <;> simp [ringX], hX0.out, Below.refl _ _⟩
  case round =>
  clear hX0
  generalize wr = xr at *
  obtain ⟨i, Ao, co, out, rfl, hi, hol, hri, hLB, hbx⟩ := hrel
  have hzx := hbx.size
  have hXl := hLB.lt
  have hrX := Lib.hid (hrF2.out.frame (good_flat _) (Below.sameB hbx (Nat.le_refl _)))
  replace hri := Lib.hid hri
  obtain ⟨i1, hi1⟩ : ∃ i1, i1 = i + 1 := ⟨_, rfl⟩
  have q1 : IntKind.i64.wrap ((i : Int) + 1) = (i1 : Int) := by rw [wi (by omega)]; omega
  by_cases hlt : i1 < N
  rotate_left
  · have hni : ¬ (i1 : Int) < (N : Int) := by omega
    have hre : ringI F 0 = some out := by have := hri.out; rw [ringI_end (by have := hNH.out; omega)] at this; rw [← this]; simp [ringX]
    have hRx := Lib.hid ((hbx.block w.heap.size hwX).trans hR2.out)
    have hBx := Lib.hid (hB2.out.trans (hbx.mono (by omega)))
    have c0 := hLB.cell
    have r0 : xr.cell? ⟨w.heap.size, 0, none⟩ = some (.slice none 0 0) := by rw [Go.Joins.cell_of_block hRx.out]; rfl
    have rf := Go.Joins.unfrozen_of_block hRx.out
    have hzr : w.heap.size < xr.heap.size := by omega
    have hob : out.length ≤ 200000 := by omega
    replace hre := Lib.hid hre
    replace hLB := Lib.hid hLB
    replace hi1 := Lib.hid hi1
    go_wp2_with fail
    refine bodyPost_ret (v := .tuple #[.agg #[.slice Ao out.length co], .bool true]) (by simp [results, Tryz.results30, go_sem, r0]) rfl ⟨.inr ⟨out, Ao, co, hre.out, rfl, ?_, hob⟩, ?_⟩
    · exact own_lower (ownsRow_setCell_below hLB.out.2 (by show w.heap.size < X + 1; omega) _) (by omega)
    · exact hBx.out.setCell (Nat.le_refl _) _
  have hii : (i1 : Int) < (N : Int) := by omega
  obtain ⟨b, off, rfl, hbl, hbh, hcs⟩ := hrX.out.kns (by omega)
  have hbX : b < X := hbh
  obtain ⟨x00, x01, x02⟩ := hcs i (by omega)
  obtain ⟨x10, x11, x12⟩ := hcs i1 (by omega)
  have hNl := hNH.out
  have ok0 := kn_ok hFok.out (j := i) (by omega)
  have ok1 := kn_ok hFok.out (j := i1) (by omega)
  have hst1 : (knAt F i1).2.2 = true → ringX (out ++ [knP (knAt F i)]) (ringI F i1) = ringI F 0 := fun h => by rw [hi1] at h ⊢; rw [← ringX_on (by omega) h]; exact hri.out
  obtain ⟨⟨ax, ay, az⟩, hka⟩ : ∃ a, a = knAt F i := ⟨_, rfl⟩
  obtain ⟨⟨bx, ey, bz⟩, hkb⟩ : ∃ a, a = knAt F i1 := ⟨_, rfl⟩
  rw [← hka] at x00 x01 x02 ok0 hst1
  rw [← hkb] at x10 x11 x12 ok1 hst1
  simp only at x00 x01 x02 x10 x11 x12 ok0 ok1 hst1
  have hbw : b < xr.heap.size := by omega
  have j0 : (0 : Int) ≤ (i : Int) ∧ (i : Int) < (N : Int) := by omega
  have j1 : (0 : Int) ≤ (i1 : Int) ∧ (i1 : Int) < (N : Int) := by omega
  have hol2 : out.length ≤ 200000 := by omega
  replace hka := Lib.hid hka
  replace hkb := Lib.hid hkb
  replace hNl := Lib.hid hNl
  have hi1H := Lib.hid hi1
  clear hi1
  cases bz with
  | true =>
    have hst2 := Lib.hid (hst1 rfl)
    have neB : (Value.slice Ao out.length co).ownBlock ≠ some b := fun e => by have := (hLB.2.lt b e).1; omega
    have hLD := Lib.hid (show RingB xr.drew X Ao co out from hLB)
    have cX := hLB.cell
    have fX := hLB.free
    replace hLB := Lib.hid hLB
    clear hcs hst1
    go_wp2_with fail
    refine wp_region_head 9 (fun w' => w'.cell? ⟨X, 0, none⟩ = some (.slice Ao out.length co) ∧ w'.cell? ⟨b, off + i * 3, none⟩ = some (.int .i64 ax) ∧ w'.cell? ⟨b, off + i * 3 + 1, none⟩ = some (.int .i64 ay)) (by kernel_rfl) (by kernel_rfl) (by exact ⟨cX, x00, x01⟩) (fun hHeld => ?_)
    simp only [List.take_succ_cons, List.take_zero, List.drop_succ_cons, List.drop_zero]
    refine wpAnyH_take (i := 0) (v := ?_) ((List.getElem?_toArray).trans rfl) (by kernel_rfl) (by kernel_rfl) (by kernel_rfl) (fun _ _ _ h => h) (Or.inl ⟨by rfl, ?_⟩) (by assumption) ?_
    rotate_left
    · (intro w hSw; (try dsimp only at hSw); go_simp; (try (with_reducible rfl)))
    (try simp only [Act.put, List.setIfInBounds_toArray, List.set_cons_zero, List.set_cons_succ])
    refine wpAnyH_take (i := 1) (v := ?_) ((List.getElem?_toArray).trans rfl) (by kernel_rfl) (by kernel_rfl) (by kernel_rfl) (fun _ _ _ h => h) (Or.inl ⟨by rfl, ?_⟩) (by assumption) ?_
    rotate_left
    · (intro w hSw; (try dsimp only at hSw); go_simp; (try (with_reducible rfl)))
    (try simp only [Act.put, List.setIfInBounds_toArray, List.set_cons_zero, List.set_cons_succ])
    refine wpAnyH_take (i := 2) (v := ?_) ((List.getElem?_toArray).trans rfl) (by kernel_rfl) (by kernel_rfl) (by kernel_rfl) (fun _ _ _ h => h) (Or.inl ⟨by rfl, ?_⟩) (by assumption) ?_
    rotate_left
    · (intro w hSw; (try dsimp only at hSw); go_simp; (try (with_reducible rfl)))
    (try simp only [Act.put, List.setIfInBounds_toArray, List.set_cons_zero, List.set_cons_succ])
    refine wpAnyH_take (i := 3) (v := ?_) ((List.getElem?_toArray).trans rfl) (by kernel_rfl) (by kernel_rfl) (by kernel_rfl) (fun _ _ _ h => h) (Or.inl ⟨by rfl, ?_⟩) (by assumption) ?_
    rotate_left
    · (intro w hSw; (try dsimp only at hSw); go_simp; (try (with_reducible rfl)))
    (try simp only [Act.put, List.setIfInBounds_toArray, List.set_cons_zero, List.set_cons_succ])
    refine wpAnyH_take (i := 4) (v := ?_) ((List.getElem?_toArray).trans rfl) (by kernel_rfl) (by kernel_rfl) (by kernel_rfl) (fun _ _ _ h => h) (Or.inl ⟨by rfl, ?_⟩) (by assumption) ?_
    rotate_left
    · (intro w hSw; (try dsimp only at hSw); go_simp; (try (with_reducible rfl)))
    (try simp only [Act.put, List.setIfInBounds_toArray, List.set_cons_zero, List.set_cons_succ])
    refine wpAnyH_take (i := 5) (v := ?_) ((List.getElem?_toArray).trans rfl) (by kernel_rfl) (by kernel_rfl) (by kernel_rfl) (fun _ _ _ h => h) (Or.inl ⟨by rfl, ?_⟩) (by assumption) ?_
    rotate_left
    · (intro w hSw; (try dsimp only at hSw); go_simp; (try (with_reducible rfl)))
    (try simp only [Act.put, List.setIfInBounds_toArray, List.set_cons_zero, List.set_cons_succ])
    refine wpAnyH_take (i := 6) (v := ?_) ((List.getElem?_toArray).trans rfl) (by kernel_rfl) (by kernel_rfl) (by kernel_rfl) (fun _ _ _ h => h) (Or.inl ⟨by rfl, ?_⟩) (by assumption) ?_
    rotate_left
    · (intro w hSw; (try dsimp only at hSw); go_simp; (try (with_reducible rfl)))
    (try simp only [Act.put, List.setIfInBounds_toArray, List.set_cons_zero, List.set_cons_succ])
    refine wpAnyH_ready (rs := [7]) (by kernel_rfl) (by simp) ?_
    refine AllReadyH.cons ((List.getElem?_toArray).trans rfl) (fun K0 hK0 => ?_) AllReadyH.nil
    go_simp
    refine hK0.out _ _ ?_ (fun hHeld => ?_)
    · (exact ⟨Lib.cell?_alloc_some _ cX, Lib.cell?_alloc_some _ x00, Lib.cell?_alloc_some _ x01⟩)
    clear hK0 K0
    (try simp only [Act.put, List.setIfInBounds_toArray, List.set_cons_zero, List.set_cons_succ])
    refine wpAnyH_ready (rs := [8]) (by kernel_rfl) (by simp) ?_
    refine AllReadyH.cons ((List.getElem?_toArray).trans rfl) (fun K0 hK0 => ?_) AllReadyH.nil
    (refine stepAppAt rfl (.tmp 28) (.tmp 34) elemPt rfl (v := .slice Ao out.length co) (n := out.length) (xs := out.flatMap ptC) rfl (hLD.out.2.alloc _) rfl (src_at (cs := [.int .i64 ax, .int .i64 ay]) rfl (by simp [Value.oneCell']) (by simp)) (by omega) (by omega) (by simp; omega) (out.length + 1) rfl ?_; intro A5 c5 w5 ho5 hg5; obtain ⟨q5, f5, l5⟩ := RingB.mid hLD.out (Go.Joins.below_alloc1 _ _) hg5; replace ho5 := Lib.hid ho5; replace hg5 := Lib.hid hg5)
    refine hK0.out _ _ ?_ (fun hHeld => ?_)
    · (exact ⟨q5, (cells_app (W := xr) hg5.out (Go.Joins.below_alloc1 _ _).drew (a := ⟨b, off + i * 3, none⟩) hbw neB).trans x00, (cells_app (W := xr) hg5.out (Go.Joins.below_alloc1 _ _).drew (a := ⟨b, off + i * 3 + 1, none⟩) hbw neB).trans x01⟩)
    clear hK0 K0
    (try simp only [Act.put, List.setIfInBounds_toArray, List.set_cons_zero, List.set_cons_succ])
    refine wpAnyH_done (by kernel_rfl) ?_ _
    show wpList _ _ _ _ _ _
    go_wp2_with fail
    go_roundw
    case rel =>
      have hB := hLD.out.app (M := [(ax, ay)]) (Go.Joins.below_alloc1 _ _) hg5.out ho5.out
      refine ⟨i1, A5, c5, out ++ [(ax, ay)], ?_, by omega, by simp; have := hi1H.out; omega, ?_, ?_, ?_⟩
      · trivial
      · exact hst2.out
      · exact hB.1
      · exact hbx.drew.trans hB.2
    case measure => simp [intOf]; have := hi1H.out; omega
  | false =>
    have hne : i1 ≠ N - 1 := fun e => by have h := hFlast.out; rw [← e, ← hkb.out] at h; exact Bool.noConfusion h
    obtain ⟨i2, hi2⟩ : ∃ i2, i2 = i + 2 := ⟨_, rfl⟩
    have q2 : IntKind.i64.wrap ((i : Int) + 2) = (i2 : Int) := by rw [wi (by omega)]; omega
    have hi2N : i2 < N := by have := hi1H.out; omega
    obtain ⟨x20, x21, x22⟩ := hcs i2 hi2N
    have ok2 := kn_ok hFok.out (j := i2) (by have := hNl.out; omega)
    obtain ⟨⟨cx, cy, cz⟩, hkc⟩ : ∃ a, a = knAt F i2 := ⟨_, rfl⟩
    rw [← hkc] at x20 x21 x22 ok2
    simp only at x20 x21 x22 ok2
    have hq : segQ F i = ⟨ax, ay, bx, ey, cx, cy⟩ := by
      unfold segQ
      have e1 := hi1H.out
      rw [← e1, ← hi2, ← hka.out, ← hkb.out, ← hkc]
    have j2 : (0 : Int) ≤ (i2 : Int) ∧ (i2 : Int) < (N : Int) := by omega
    have hqok : (⟨ax, ay, bx, ey, cx, cy⟩ : Qd).ok := ⟨ok0, ok1, ok2⟩
    have hfl : Hid (Calls Tryz.prog 53 #[.pointer (some ⟨xr.heap.size, 0, none⟩), .int .i64 1] ((xr.alloc (.cells #[.int .i64 ax, .int .i64 ay, .int .i64 bx, .int .i64 ey, .int .i64 cx, .int .i64 cy] 87 (0, 0))).drew) fun e w' => ∃ A m c g, e = .returned (.tuple #[.slice A m c, .bool g]) ∧ m ≤ c ∧ Below xr.heap.size xr w' ∧ ((g = false ∧ curvL ⟨ax, ay, bx, ey, cx, cy⟩ = none) ∨ (g = true ∧ ∃ M L, curvL ⟨ax, ay, bx, ey, cx, cy⟩ = some M ∧ m = M.length + 1 ∧ 1 ≤ M.length ∧ M.length ≤ 64 ∧ RdS 2 (FlatR ptC) w' xr.heap.size w'.heap.size A m L ∧ partP L 0 (m - 2) = M))) := by
      refine Lib.hid ((l10Flat_cap xr.heap.size ⟨ax, ay, bx, ey, cx, cy⟩ hqok _ (show QB ((xr.alloc (.cells #[.int .i64 ax, .int .i64 ay, .int .i64 bx, .int .i64 ey, .int .i64 cx, .int .i64 cy] 87 (0, 0))).drew) xr.heap.size ⟨ax, ay, bx, ey, cx, cy⟩ from heap_alloc_new xr _)).mono ?_)
      intro e w' h
      obtain ⟨A, m, c, g, he, hb, hf⟩ := h.1.one
      have hcp := h.2 A m c _ he
      have hz : xr.heap.size ≤ (((xr.alloc (.cells #[.int .i64 ax, .int .i64 ay, .int .i64 bx, .int .i64 ey, .int .i64 cx, .int .i64 cy] 87 (0, 0))).drew)).heap.size := (Below.drew (Go.Joins.below_alloc1 xr _)).size
      refine ⟨A, m, c, g, he, hcp, (Below.drew (Go.Joins.below_alloc1 xr _)).trans (hb.mono hz), ?_⟩
      rcases hf with h | ⟨h1, M, L, h2, h3, h4, h5, h6, h7⟩
      · exact .inl h
      · exact .inr ⟨h1, M, L, h2, h3, h4, h5, h6.wide (good_flat _) hz (Nat.le_refl _), h7⟩
    have hS := Lib.hid (show ∀ W, Below xr.heap.size xr W → W.cell? ⟨b, off + i * 3, none⟩ = some (.int .i64 ax) ∧ W.cell? ⟨b, off + i * 3 + 1, none⟩ = some (.int .i64 ay) ∧ W.cell? ⟨b, off + i1 * 3, none⟩ = some (.int .i64 bx) ∧ W.cell? ⟨b, off + i1 * 3 + 1, none⟩ = some (.int .i64 ey) ∧ W.cell? ⟨b, off + i2 * 3, none⟩ = some (.int .i64 cx) ∧ W.cell? ⟨b, off + i2 * 3 + 1, none⟩ = some (.int .i64 cy) from fun W hb => ⟨(hb.cell (p := ⟨b, off + i * 3, none⟩) hbw).trans x00, (hb.cell (p := ⟨b, off + i * 3 + 1, none⟩) hbw).trans x01, (hb.cell (p := ⟨b, off + i1 * 3, none⟩) hbw).trans x10, (hb.cell (p := ⟨b, off + i1 * 3 + 1, none⟩) hbw).trans x11, (hb.cell (p := ⟨b, off + i2 * 3, none⟩) hbw).trans x20, (hb.cell (p := ⟨b, off + i2 * 3 + 1, none⟩) hbw).trans x21⟩)
    replace hq := Lib.hid hq
    have hi2H := Lib.hid hi2
    replace hkc := Lib.hid hkc
    have hLB2 := Lib.hid hLB
    clear hcs hst1 hi2 hLB ok0 ok1 ok2
    go_upto_region 8 with fail
    go_region_held3 (fun w' => w'.cell? ⟨b, off + i * 3, none⟩ = some (.int .i64 ax) ∧ w'.cell? ⟨b, off + i * 3 + 1, none⟩ = some (.int .i64 ay) ∧ w'.cell? ⟨b, off + i1 * 3, none⟩ = some (.int .i64 bx) ∧ w'.cell? ⟨b, off + i1 * 3 + 1, none⟩ = some (.int .i64 ey) ∧ w'.cell? ⟨b, off + i2 * 3, none⟩ = some (.int .i64 cx) ∧ w'.cell? ⟨b, off + i2 * 3 + 1, none⟩ = some (.int .i64 cy)) (first | (with_reducible exact sQ.out) | (refine hS.out _ ?_; repeat (first | with_reducible exact Below.refl _ _ | with_reducible refine Below.drew ?_ | with_reducible refine Below.alloc ?_ (by simp) _))) (first | (go_at_call 53; with_reducible refine hfl.out.mono ?_; rintro e w6 ⟨Af, mf, cf, g, rfl, hcp, hB6, hf⟩; have sQ := Lib.hid (hS.out w6 hB6); replace hB6 := Lib.hid hB6; replace hf := Lib.hid hf))
    all_goals
      have hD6 := Below.drew (Go.Joins.below_alloc1 xr (.cells #[.int .i64 0] 87 (0, 0)))
      clear hD6
      have hLD := Lib.hid (hLB2.out.below (hB6.out.mono (Nat.le_refl _)))
      have hbx6 := Lib.hid (hbx.trans (hB6.out.mono (by omega)))
      have hz6 := hB6.out.size
      have hR6 := Lib.hid ((hbx6.out.block w.heap.size hwX).trans hR2.out)
      have hW6 := Lib.hid (hB2.out.trans (hbx6.out.mono (by omega)))
      clear hbx hB6 hrX x00 x01 x02 x10 x11 x12 x20 x21 x22 hS hfl hqok hLB2
      rcases hf with ⟨rfl, hno⟩ | ⟨rfl, M, L, hM, hm, hM1, hM2, hrM, hpM⟩
      · have hre : ringI F 0 = none := by
          have h := hri.out
          rw [ringI_bad (i := i) (by have := hNl.out; have := hi1H.out; omega) (by rw [← hi1H.out, ← hkb.out]) (by rw [hq.out]; exact hno)] at h
          rw [← h]; rfl
        replace hre := Lib.hid hre
        have r0 : w6.cell? ⟨w.heap.size, 0, none⟩ = some (.slice none 0 0) := by rw [Go.Joins.cell_of_block hR6.out]; rfl
        have rf := Go.Joins.unfrozen_of_block hR6.out
        have hzr : w.heap.size < w6.heap.size := by omega
        clear hno
        go_wp2_with fail
        refine bodyPost_ret (v := .tuple #[.agg #[.slice none 0 0], .bool false]) (by simp [results, Tryz.results30, go_sem, r0]) rfl ⟨.inl ⟨hre.out, rfl⟩, ?_⟩
        first | exact hW6.out | exact hW6.out.setCell (Nat.le_refl _) _
      · obtain ⟨b6, o6, _, rfl, hb6l, hb6h, _, _⟩ := hrM.at (j := 0) (by omega)
        have hpr : RdS 2 (FlatR ptC) w6 xr.heap.size w6.heap.size (some ⟨b6, o6, none⟩) M.length M := by
          have h := hrM.part (i := 0) (k := mf - 2) (by omega)
          rw [hpM, show mf - 2 + 1 = M.length by omega] at h
          simpa using h
        have hsrc := Lib.hid (src_rd ptC_len ptC_one (hpr.frame (good_flat _) (SameB.drew (Below.sameB (Below.refl w6.heap.size w6) (Nat.le_refl _)))))
        have hst2 := hri.out
        rw [ringX_off (i := i) (by have := hNl.out; have := hi1H.out; omega) (by rw [← hi1H.out, ← hkb.out]) (by rw [hq.out]; exact hM), ← hi2H.out] at hst2
        replace hst2 := Lib.hid hst2
        have qw : IntKind.i64.wrap (M.length : Int) = (M.length : Int) := wi (by omega)
        have qc : 0 ≤ (M.length : Int) ∧ (M.length : Int) ≤ (cf : Int) := by omega
        have qt : ((M.length : Int)).toNat = M.length := by simp
        have qm : IntKind.i64.wrap ((mf : Int) - 1) = (M.length : Int) := by rw [wi (by omega)]; omega
        have cX := hLD.out.cell
        have fX := hLD.out.free
        replace hLD := Lib.hid (show RingB w6.drew X Ao co out from hLD.out)
        have hXl6 : X < w6.heap.size := by omega
        clear hpr hrM hpM hM
        go_upto_region 11 with fail
        refine wp_region_head 8 (fun w' => w'.cell? ⟨X, 0, none⟩ = some (.slice Ao out.length co)) (by kernel_rfl) (by kernel_rfl) (by exact cX) (fun hHeld => ?_)
        simp only [List.take_succ_cons, List.take_zero, List.drop_succ_cons, List.drop_zero]
        refine wpAnyH_take (i := 0) (v := ?_) ((List.getElem?_toArray).trans rfl) (by kernel_rfl) (by kernel_rfl) (by kernel_rfl) (fun _ _ _ h => h) (Or.inl ⟨by rfl, ?_⟩) (by assumption) ?_
        rotate_left
        · (intro w hSw; (try dsimp only at hSw); go_simp; (try (with_reducible rfl)))
        (try simp only [Act.put, List.setIfInBounds_toArray, List.set_cons_zero, List.set_cons_succ])
        refine wpAnyH_take (i := 1) (v := ?_) ((List.getElem?_toArray).trans rfl) (by kernel_rfl) (by kernel_rfl) (by kernel_rfl) (fun _ _ _ h => h) (Or.inl ⟨by rfl, ?_⟩) (by assumption) ?_
        rotate_left
        · (intro w hSw; (try dsimp only at hSw); go_simp; (try (with_reducible rfl)))
        (try simp only [Act.put, List.setIfInBounds_toArray, List.set_cons_zero, List.set_cons_succ])
        refine wpAnyH_take (i := 2) (v := ?_) ((List.getElem?_toArray).trans rfl) (by kernel_rfl) (by kernel_rfl) (by kernel_rfl) (fun _ _ _ h => h) (Or.inl ⟨by rfl, ?_⟩) (by assumption) ?_
        rotate_left
        · (intro w hSw; (try dsimp only at hSw); go_simp; (try (with_reducible rfl)))
        (try simp only [Act.put, List.setIfInBounds_toArray, List.set_cons_zero, List.set_cons_succ])
        refine wpAnyH_take (i := 3) (v := ?_) ((List.getElem?_toArray).trans rfl) (by kernel_rfl) (by kernel_rfl) (by kernel_rfl) (fun _ _ _ h => h) (Or.inl ⟨by rfl, ?_⟩) (by assumption) ?_
        rotate_left
        · (intro w hSw; (try dsimp only at hSw); go_simp; (try (with_reducible rfl)))
        (try simp only [Act.put, List.setIfInBounds_toArray, List.set_cons_zero, List.set_cons_succ])
        refine wpAnyH_take (i := 4) (v := ?_) ((List.getElem?_toArray).trans rfl) (by kernel_rfl) (by kernel_rfl) (by kernel_rfl) (fun _ _ _ h => h) (Or.inl ⟨by rfl, ?_⟩) (by assumption) ?_
        rotate_left
        · (intro w hSw; (try dsimp only at hSw); go_simp; (try (with_reducible rfl)))
        (try simp only [Act.put, List.setIfInBounds_toArray, List.set_cons_zero, List.set_cons_succ])
        refine wpAnyH_take (i := 5) (v := ?_) ((List.getElem?_toArray).trans rfl) (by kernel_rfl) (by kernel_rfl) (by kernel_rfl) (fun _ _ _ h => h) (Or.inl ⟨by rfl, ?_⟩) (by assumption) ?_
        rotate_left
        · (intro w hSw; (try dsimp only at hSw); go_simp; (try (with_reducible rfl)))
        (try simp only [Act.put, List.setIfInBounds_toArray, List.set_cons_zero, List.set_cons_succ])
        refine wpAnyH_take (i := 6) (v := ?_) ((List.getElem?_toArray).trans rfl) (by kernel_rfl) (by kernel_rfl) (by kernel_rfl) (fun _ _ _ h => h) (Or.inl ⟨by rfl, ?_⟩) (by assumption) ?_
        rotate_left
        · (intro w hSw; (try dsimp only at hSw); go_simp; (try (with_reducible rfl)))
        (try simp only [Act.put, List.setIfInBounds_toArray, List.set_cons_zero, List.set_cons_succ])
        refine wpAnyH_ready (rs := [7]) (by kernel_rfl) (by simp) ?_
        refine AllReadyH.cons ((List.getElem?_toArray).trans rfl) (fun K0 hK0 => ?_) AllReadyH.nil
        (refine stepAppAt rfl (.tmp 65) (.tmp 70) elemPt rfl (v := .slice Ao out.length co) (n := out.length) (xs := out.flatMap ptC) rfl hLD.out.2 rfl hsrc.out (by omega) (by omega) (show X + 1 ≤ w6.heap.size by omega) (out.length + M.length) rfl ?_; intro A5 c5 w5 ho5 hg5; obtain ⟨q5, f5, l5⟩ := RingB.mid hLD.out (Below.refl _ _) hg5; replace ho5 := Lib.hid ho5; replace hg5 := Lib.hid hg5)
        refine hK0.out _ _ ?_ (fun hHeld => ?_)
        · (exact q5)
        clear hK0 K0
        (try simp only [Act.put, List.setIfInBounds_toArray, List.set_cons_zero, List.set_cons_succ])
        refine wpAnyH_done (by kernel_rfl) ?_ _
        show wpList _ _ _ _ _ _
        go_wp2_with fail
        go_roundw
        case rel =>
          have hB := hLD.out.app (M := M) (Below.refl _ _) hg5.out ho5.out
          have e1 := hi1H.out
          have e2 := hi2H.out
          refine ⟨i2, A5, c5, out ++ M, ?_, by omega, by simp; omega, hst2.out, hB.1, hbx6.out.drew.trans hB.2⟩
          first | trivial | (congr 1; omega)
        case measure => simp [intOf]; have := hi1H.out; have := hi2H.out; omega
end Go.Proofs.YtgelkdcggnffeaaGreat

