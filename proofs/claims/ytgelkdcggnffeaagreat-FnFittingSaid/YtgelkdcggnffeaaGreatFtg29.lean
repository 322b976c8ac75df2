/- The loop that is fitted to a ring: the reference's side. Printed by mk_fr5.py. Conditions: as each states. -/
import Derived.Test.YtgelkdcggnffeaaGreatFtg28
import Derived.Test.YtgelkdcggnffeaaGreatFtg07
namespace Go.Proofs.YtgelkdcggnffeaaGreat
open Go.RowKit
set_option linter.unusedVariables false
set_option maxRecDepth 100000

/-- a loop's variable X and its row, in blocks behind it -/
def LoopB (w : World) (X : Nat) (A : Option Addr) (c : Nat) (K : List Knot) : Prop :=
  w.heap[X]? = some (.cells #[.slice A K.length c] 49 (0, 0)) ∧ w.ownsRow (X + 1) 73 3 (.slice A K.length c) K.length (K.flatMap knotC)
theorem LoopB.lt {w : World} {X c : Nat} {A : Option Addr} {K : List Knot} (h : LoopB w X A c K) : X < w.heap.size := (Array.getElem?_eq_some_iff.1 h.1).1
theorem LoopB.below {w w' : World} {X c : Nat} {A : Option Addr} {K : List Knot} (h : LoopB w X A c K) (hb : Below w.heap.size w w') : LoopB w' X A c K := ⟨(hb.block X h.lt).trans h.1, own_below h.2 hb⟩
theorem LoopB.cell {w : World} {X c : Nat} {A : Option Addr} {K : List Knot} (h : LoopB w X A c K) : w.cell? ⟨X, 0, none⟩ = some (.slice A K.length c) := by rw [Go.Joins.cell_of_block h.1]; rfl
theorem LoopB.free {w : World} {X c : Nat} {A : Option Addr} {K : List Knot} (h : LoopB w X A c K) : ∀ o, w.frozen? ⟨X, o, none⟩ = false := Go.Joins.unfrozen_of_block h.1
theorem LoopB.blk {w W w5 : World} {X c : Nat} {A : Option Addr} {K : List Knot} (h : LoopB w X A c K) (hW : Below w.heap.size w W) (hg : W.grownBy w5 (Value.slice A K.length c).ownBlock) : w5.heap[X]? = some (.cells #[.slice A K.length c] 49 (0, 0)) :=
  (hg.block X (Nat.lt_of_lt_of_le h.lt hW.size) (fun e => by have := (h.2.lt X e.symm).1; omega)).trans ((hW.block X h.lt).trans h.1)
theorem LoopB.mid {w W w5 : World} {X c : Nat} {A : Option Addr} {K : List Knot} (h : LoopB w X A c K) (hW : Below w.heap.size w W) (hg : W.grownBy w5 (Value.slice A K.length c).ownBlock) :
    w5.cell? ⟨X, 0, none⟩ = some (.slice A K.length c) ∧ (∀ o, w5.frozen? ⟨X, o, none⟩ = false) ∧ X < w5.heap.size := by
  have hb := h.blk hW hg
  exact ⟨by rw [Go.Joins.cell_of_block hb]; rfl, Go.Joins.unfrozen_of_block hb, (Array.getElem?_eq_some_iff.1 hb).1⟩
theorem LoopB.app {w W w5 : World} {X c c5 : Nat} {A A5 : Option Addr} {K : List Knot} {q : Knot} (h : LoopB w X A c K) (hW : Below w.heap.size w W) (hg : W.grownBy w5 (Value.slice A K.length c).ownBlock)
    (ho : w5.ownsRow (X + 1) 73 3 (.slice A5 (K.length + 1) c5) (K.length + 1) (K.flatMap knotC ++ knotC q)) : LoopB (w5.setCell ⟨X, 0, none⟩ (.slice A5 (K.length + 1) c5)) X A5 c5 (K ++ [q]) ∧ Below X w (w5.setCell ⟨X, 0, none⟩ (.slice A5 (K.length + 1) c5)) := by
  have hb := h.blk hW hg
  have hl := h.lt
  refine ⟨⟨?_, ?_⟩, ?_⟩
  · rw [List.length_append]; exact Go.Joins.block_setCell hb _
  · rw [List.length_append, List.flatMap_append]
    exact ownsRow_setCell_below (by simpa using ho) (by simp) _
  · have h1 : Below X w w5 := (hW.mono (Nat.le_of_lt hl)).grown hg (Nat.le_of_lt (Nat.lt_of_lt_of_le hl hW.size)) (fun g hg' => by have := (h.2.lt g hg').1; omega)
    exact h1.setCell (Nat.le_refl _) _
theorem LoopB.old {w W w5 : World} {X c : Nat} {A : Option Addr} {K : List Knot} (h : LoopB w X A c K) (hW : Below w.heap.size w W) (hg : W.grownBy w5 (Value.slice A K.length c).ownBlock) {p : Addr} (hp : p.block < X) : w5.cell? p = w.cell? p := by
  have hl := h.lt
  have := hW.size
  exact World.cell?_of_block (w := w) ((hg.block p.block (by omega) (fun e => by have := (h.2.lt _ e.symm).1; omega)).trans (hW.block p.block (by omega)))
theorem rotL_ok {L : List (Int × Int)} (h : ∀ p ∈ L, ptOk p.1 p.2 = true) (h0 : 0 < L.length) (s : Nat) : ∀ p ∈ rotL L s, ptOk p.1 p.2 = true := by
  intro p hp
  obtain ⟨j, hj⟩ := List.mem_iff_getElem?.1 hp
  have hjl := (List.getElem?_eq_some_iff.1 hj).1
  rw [rotL_len] at hjl
  rw [rotL_at (by omega)] at hj
  injection hj with hj
  subst hj
  exact pts_ok h (Nat.mod_lt _ h0)

set_option maxHeartbeats 8000000 in
theorem l16Ring_any (A : Option Addr) (n c lo hi : Nat) (L : List (Int × Int)) (t : Int) (KK : List Knot) (hKK : KK = ringK L t) (w : World) (hr : RdS 2 (FlatR ptC) w lo hi A n L) (hhi : hi ≤ w.heap.size) (hn1 : 1 ≤ n) (hn : n ≤ 400) (hL : ∀ p ∈ L, ptOk p.1 p.2 = true) (ht0 : 1 ≤ t) (ht1 : t ≤ 262144) :
    Calls Tryz.prog 41 #[.slice A n c, .int .i64 t] w fun e w' => ∃ (A' : Option Addr) (c' : Nat), e = .returned (.agg #[.slice A' KK.length c']) ∧ w'.ownsRow w.heap.size 73 3 (.slice A' KK.length c') KK.length (KK.flatMap knotC) ∧ Below w.heap.size w w' := by
  have hl := hr.1
  have hB0 : Below w.heap.size w (w.alloc (.cells #[.slice none 0 0] 49 (0, 0))) := Go.Joins.below_alloc1 _ _
  have hR0 := Lib.hid (heap_alloc_new w (.cells #[.slice none 0 0] 49 (0, 0)))
  have hr0 := Lib.hid (hr.frame (good_flat _) (Below.sameB hB0 hhi))
  have hz0 : (w.alloc (.cells #[.slice none 0 0] 49 (0, 0))).heap.size = w.heap.size + 1 := by simp
  go_enter Tryz.func41, Tryz.ntmps41
  go_upto_region 1 with fail
  generalize w.alloc (.cells #[.slice none 0 0] 49 (0, 0)) = w0 at *
  obtain ⟨F, hF⟩ : ∃ F, F = firstC L := ⟨_, rfl⟩
  have hFl : F < n := by rw [hF, ← hl]; exact firstC_lt (by omega)
  have hfst := Lib.hid (fun W hr hh => l16First_any A n c lo hi L W hr hh hn1 (by omega) hL)
  rw [← hF] at hfst
  obtain ⟨P, hP⟩ : ∃ P, P = rotL L F := ⟨_, rfl⟩
  have hPl : P.length = n + 1 := by rw [hP, rotL_len, hl]
  have hPok : ∀ p ∈ P, ptOk p.1 p.2 = true := by rw [hP]; exact rotL_ok hL (by omega) F
  have hPt : ∀ k, k ≤ n → P.take (k + 1) = P.take k ++ [ptAt L ((F + k) % n)] := fun k hk => by
    rw [List.take_succ_eq_append_getElem (by omega)]
    congr 2
    have := rotL_at (L := L) (s := F) (i := k) (by omega)
    rw [← hP, List.getElem?_eq_getElem (by omega), hl] at this
    injection this
  have hKF : KK = fitK P n t 0 := by rw [hKK, hP, hF, ← hl]; rfl
  replace hPt := Lib.hid hPt
  replace hPok := Lib.hid hPok
  replace hL := Lib.hid hL
  replace hKF := Lib.hid hKF
  replace hPl := Lib.hid hPl
  replace hB0 := Lib.hid hB0
  clear hKK hP hF hr hl
  go_wp2_with fail
  refine (hfst.out w0 hr0.out (by omega)).mono ?_
  rintro e w1 ⟨rfl, hb1⟩
  have hr1 := Lib.hid (hr0.out.frame (good_flat _) (Below.sameB hb1 (by omega)))
  have hR1 := Lib.hid ((hb1.block w.heap.size (by omega)).trans hR0.out)
  have hB1 := Lib.hid (hB0.out.trans (hb1.mono (by omega)))
  have hz1 : w.heap.size < w1.heap.size := by have := hb1.size; omega
  clear hb1 hr0 hR0 hB0 hfst hz0
  go_wp2_with fail
  go_loopw [7, 8] (fun out kv wr => ∃ (k : Nat) (A1 : Option Addr) (c1 : Nat), kv = .int .i64 k ∧ k ≤ n + 1 ∧ out = .slice A1 k c1 ∧ wr.ownsRow w1.heap.size 71 2 (.slice A1 k c1) k ((P.take k).flatMap ptC) ∧ Below w1.heap.size w1 wr) (fun out kv wr => n + 1 - (intOf kv).toNat)
  case atStart => exact ⟨0, _, _, rfl, Nat.zero_le _, rfl, World.ownsRow_lit w1 _ _ (Nat.le_refl _) (by decide) (by simp), (Below.refl _ _).alloc (Nat.le_refl _) _⟩
  case round =>
    obtain ⟨k, A1, c1, rfl, hk, rfl, hown, hbel⟩ := hrel
    have hz := hbel.size
    replace hown := Lib.hid hown
    by_cases hlt : k ≤ n
    · obtain ⟨b, off, rfl, hb0, hb, hcs⟩ := (hr1.out.frame (good_flat _) (Below.sameB hbel (by omega))).pts (by omega)
      obtain ⟨m, hm⟩ : ∃ m, m = (F + k) % n := ⟨_, rfl⟩
      have hmn : m < n := by rw [hm]; exact Nat.mod_lt _ (by omega)
      obtain ⟨x0, x1⟩ := hcs m hmn
      have hst := Lib.hid (hPt.out k hlt)
      rw [← hm] at hst
      generalize hpe : ptAt L m = pt at *
      obtain ⟨px, py⟩ := pt
      simp only at x0 x1
      have hki : (k : Int) ≤ (n : Int) := by omega
      obtain ⟨y, hy⟩ : ∃ y, y = F + k := ⟨_, rfl⟩
      have q1 : IntKind.i64.wrap ((F : Int) + (k : Int)) = (y : Int) := by rw [wi (by omega)]; omega
      have q3 : (y : Int).tmod (n : Int) = (m : Int) := by rw [mod_i, hy, hm]
      have q6 : ¬ n = 0 := by omega
      have q7 : IntKind.i64.wrap (m : Int) = (m : Int) := wi (by omega)
      have i1 : (0 : Int) ≤ (m : Int) ∧ (m : Int) < (n : Int) := by omega
      have hbw : b < wr.heap.size := by omega
      replace hm := Lib.hid hm
      replace hy := Lib.hid hy
      clear hcs hb0 hb hpe
      go_wp2_with (at_builtin; refine wpApp rfl (.tmp 26) (.tmp 35) elemPt rfl (v := .slice A1 k c1) (n := k) (xs := (P.take k).flatMap ptC) rfl (hown.out.alloc _) rfl (src_at (cs := [.int .i64 px, .int .i64 py]) rfl (by simp [Value.oneCell']) rfl) (by omega) (by omega) (by simp; omega) (k + 1) rfl ?_; intro A' c' w5 hown5 hb5; replace hown5 := Lib.hid hown5)
      have hbel5 := (hbel.alloc hz _).trans hb5
      clear hb5
      go_roundw
      case rel => exact ⟨k + 1, A', c', by go_num, by omega, rfl, by rw [hst.out, ptC_flat_snoc]; exact hown5.out, hbel5⟩
      case measure => simp [intOf]; omega
    have hkn : k = n + 1 := by omega
    subst hkn
    have hki : ¬ (((n + 1 : Nat) : Int) ≤ (n : Int)) := by omega
    have hrd : RdS 2 (FlatR ptC) wr w.heap.size wr.heap.size A1 (n + 1) P := by
      have h := hown.out
      rw [List.take_of_length_le (by rw [hPl.out]; omega)] at h
      exact (rdS_own ptC_len (by omega) h hPl.out).wide (good_flat _) (by omega) (Nat.le_refl _)
    have hR2 := Lib.hid ((hbel.block w.heap.size hz1).trans hR1.out)
    have hB2 := Lib.hid (hB1.out.trans (hbel.mono (by omega)))
    have hz2 : w.heap.size < wr.heap.size := by omega
    clear hr1 hR1 hB1 hown hbel hz hPt hz1
    have hX : LoopB (wr.alloc (.cells #[.slice none 0 0] 49 (0, 0))) wr.heap.size none 0 [] := ⟨heap_alloc_new wr _, World.ownsRow_nil _ _ _ _⟩
    have hrd2 := hrd.frame (good_flat _) (Below.sameB (Go.Joins.below_alloc1 wr (.cells #[.slice none 0 0] 49 (0, 0))) (Nat.le_refl _))
    have hR3 := Lib.hid (((Go.Joins.below_alloc1 wr (.cells #[.slice none 0 0] 49 (0, 0))).block w.heap.size hz2).trans hR2.out)
    have hB3 := Lib.hid (hB2.out.trans ((Go.Joins.below_alloc1 wr (.cells #[.slice none 0 0] 49 (0, 0))).mono (by omega)))
    have hz3 : wr.heap.size < (wr.alloc (.cells #[.slice none 0 0] 49 (0, 0))).heap.size := by simp
    clear hR2 hB2 hrd
    go_upto_region 9 with fail
    generalize wr.alloc (.cells #[.slice none 0 0] 49 (0, 0)) = v0 at *
    obtain ⟨X, hXe⟩ : ∃ X, X = wr.heap.size := ⟨_, rfl⟩
    rw [← hXe] at hX hrd2 hz2 hz3 ⊢
    clear hXe
    replace hrd2 := Lib.hid hrd2
    replace hX := Lib.hid hX
    go_wp2_with fail
    go_loopw [10] (fun iv xr => ∃ (i : Nat) (Ao : Option Addr) (co : Nat) (K : List Knot), iv = .int .i64 i ∧ i ≤ n ∧ K.length ≤ 2 * i ∧ K ++ fitK P n t i = KK ∧ LoopB xr X Ao co K ∧ Below X v0 xr) (fun iv xr => n - (intOf iv).toNat)
    case atStart => exact ⟨0, none, 0, [], rfl, Nat.zero_le _, by simp, by rw [hKF.out]; rfl, hX.out, Below.refl _ _⟩
    case round =>
      clear hX
      generalize wr = xr at *
      obtain ⟨i, Ao, co, K, rfl, hi, hKl, hKe, hLB, hbx⟩ := hrel
      have hzx := hbx.size
      have hXl := hLB.lt
      have hrP := Lib.hid (hrd2.out.frame (good_flat _) (Below.sameB hbx (Nat.le_refl _)))
      replace hKe := Lib.hid hKe
      by_cases hlt : i < n
      rotate_left
      · have hni : ¬ (i : Int) < (n : Int) := by omega
        have hKK : K = KK := by have := hKe.out; rw [fitK_end (by omega), List.append_nil] at this; exact this
        clear hKe
        subst hKK
        have hRx := Lib.hid ((hbx.block w.heap.size hz2).trans hR3.out)
        have hBx := Lib.hid (hB3.out.trans (hbx.mono (by omega)))
        have c0 := hLB.cell
        have r0 : xr.cell? ⟨w.heap.size, 0, none⟩ = some (.slice none 0 0) := by rw [Go.Joins.cell_of_block hRx.out]; rfl
        have rf := Go.Joins.unfrozen_of_block hRx.out
        have hzr : w.heap.size < xr.heap.size := by omega
        replace hLB := Lib.hid hLB
        go_wp2_with fail
        refine bodyPost_ret (v := .agg #[.slice Ao K.length co]) (by simp [results, Tryz.results41, go_sem, r0]) rfl ⟨Ao, co, rfl, ?_, ?_⟩
        · exact own_lower (ownsRow_setCell_below hLB.out.2 (by show w.heap.size < X + 1; omega) _) (by omega)
        · exact hBx.out.setCell (Nat.le_refl _) _
      have hii : (i : Int) < (n : Int) := by omega
      replace hLB := Lib.hid hLB
      replace hbx := Lib.hid hbx
      go_wp2_with fail
      go_loopw [11] (fun mv yr => ∃ m : Nat, mv = .int .i64 m ∧ 1 ≤ m ∧ i + m ≤ n ∧ endW P n (i + m) = endW P n (i + 1) ∧ Below xr.heap.size xr yr) (fun mv yr => n - (intOf mv).toNat)
      case atStart => exact ⟨1, rfl, Nat.le_refl _, by omega, rfl, Below.refl _ _⟩
      case round =>
        generalize wr = yr at *
        obtain ⟨m, rfl, hm1, hm2, hme, hby⟩ := hrel
        have hzy := hby.size
        have hrY := Lib.hid (hrP.out.frame (good_flat _) (Below.sameB hby (by omega)))
        have hLY := Lib.hid (hLB.out.below hby)
        have hbY := Lib.hid (hbx.out.trans (hby.mono (by omega)))
        replace hme := Lib.hid hme
        replace hby := Lib.hid hby
        by_cases hm3 : i + m < n
        · obtain ⟨b, off, rfl, hb0, hb, hcs⟩ := hrY.out.pts (by omega)
          have hbX : b < X := hb
          obtain ⟨p, hp⟩ : ∃ p, p = i + m := ⟨_, rfl⟩
          rw [← hp] at hm3
          obtain ⟨x10, x11⟩ := hcs (p - 1) (by omega)
          obtain ⟨x20, x21⟩ := hcs p (by omega)
          obtain ⟨x30, x31⟩ := hcs (p + 1) (by omega)
          obtain ⟨xi0, xi1⟩ := hcs i (by omega)
          have hpl := hPl.out
          obtain ⟨v, hv⟩ : ∃ v, v = cornP P p := ⟨_, rfl⟩
          have hcall := Lib.hid (fun W => l16Corner_any (ptAt P (p - 1)).1 (ptAt P (p - 1)).2 (ptAt P p).1 (ptAt P p).2 (ptAt P (p + 1)).1 (ptAt P (p + 1)).2 v (by rw [hv]; rfl) W (pts_ok hPok.out (by omega)) (pts_ok hPok.out (by omega)) (pts_ok hPok.out (by omega)))
          obtain ⟨p1, hp1⟩ : ∃ p1, p1 = p - 1 := ⟨_, rfl⟩
          obtain ⟨p2, hp2⟩ : ∃ p2, p2 = p + 1 := ⟨_, rfl⟩
          rw [← hp1] at hcall x10 x11
          rw [← hp2] at hcall x30 x31
          generalize (ptAt P p1).1 = ax at *
          generalize (ptAt P p1).2 = ay at *
          generalize (ptAt P p).1 = px at *
          generalize (ptAt P p).2 = py at *
          generalize (ptAt P p2).1 = bx at *
          generalize (ptAt P p2).2 = ey at *
          have hbw : b < yr.heap.size := by omega
          have q1 : IntKind.i64.wrap ((i : Int) + (m : Int)) = (p : Int) := by rw [wi (by omega)]; omega
          have q2 : IntKind.i64.wrap ((p : Int) - 1) = (p1 : Int) := by rw [wi (by omega)]; omega
          have q3 : IntKind.i64.wrap ((p : Int) + 1) = (p2 : Int) := by rw [wi (by omega)]; omega
          have i0 : (p : Int) < (n : Int) := by omega
          have i1 : (0 : Int) ≤ (p1 : Int) ∧ (p1 : Int) < ((n + 1 : Nat) : Int) := by omega
          have i2 : (0 : Int) ≤ (p : Int) ∧ (p : Int) < ((n + 1 : Nat) : Int) := by omega
          have i3 : (0 : Int) ≤ (p2 : Int) ∧ (p2 : Int) < ((n + 1 : Nat) : Int) := by omega
          have j1 : (p1 : Int) < (n : Int) + 1 := by omega
          have j2 : (p : Int) < (n : Int) + 1 := by omega
          have j3 : (p2 : Int) < (n : Int) + 1 := by omega
          have g10 : ∀ dr os, (Go.Sort.grow (redrawn yr dr) os).cell? ⟨b, off + p1 * 2, none⟩ = some (.int .i64 ax) := cell_regrown x10
          have g11 : ∀ dr os, (Go.Sort.grow (redrawn yr dr) os).cell? ⟨b, off + p1 * 2 + 1, none⟩ = some (.int .i64 ay) := cell_regrown x11
          have g20 : ∀ dr os, (Go.Sort.grow (redrawn yr dr) os).cell? ⟨b, off + p * 2, none⟩ = some (.int .i64 px) := cell_regrown x20
          have g21 : ∀ dr os, (Go.Sort.grow (redrawn yr dr) os).cell? ⟨b, off + p * 2 + 1, none⟩ = some (.int .i64 py) := cell_regrown x21
          have g30 : ∀ dr os, (Go.Sort.grow (redrawn yr dr) os).cell? ⟨b, off + p2 * 2, none⟩ = some (.int .i64 bx) := cell_regrown x30
          have g31 : ∀ dr os, (Go.Sort.grow (redrawn yr dr) os).cell? ⟨b, off + p2 * 2 + 1, none⟩ = some (.int .i64 ey) := cell_regrown x31
          have cA := Lib.hid (fun dr os => Calls.regrown_of (hcall.out (Go.Sort.grow (redrawn yr dr) os)))
          replace hp := Lib.hid hp
          replace hp1 := Lib.hid hp1
          replace hp2 := Lib.hid hp2
          replace hv := Lib.hid hv
          replace hpl := Lib.hid hpl
          clear hcs hb0 hb x10 x11 x20 x21 x30 x31 hcall
          go_wp2_with fail
          refine wp_region_quiet_below (by kernel_rfl) (by kernel_rfl) ?_
          repeat (go_big_quiet_step (exact cA.out _ _))
          refine wpQuiet_nil ?_
          intro _ hw'
          obtain ⟨⟨dq, osq⟩, hw2⟩ := hw'
          subst hw2
          have hbz := (below_regrown yr dq osq)
          generalize Go.Sort.grow (redrawn yr dq) osq = zr at hbz ⊢
          clear g10 g11 g20 g21 g30 g31 cA
          have hzz := hbz.size
          cases v with
          | false =>
            go_wp2_with fail
            go_roundw
            case rel => exact ⟨m + 1, by go_num, by omega, by have := hp.out; omega, by rw [← hme.out, ← Nat.add_assoc, ← hp.out, ← endW_next (by omega) hv.out.symm], hby.out.trans (hbz.mono hzy)⟩
            case measure => simp [intOf]; have := hp.out; omega
          | true =>
            have hE : endW P n (i + 1) = i + m := by rw [← hme.out, ← hp.out, endW_corn hv.out.symm]
            have hrZ := Lib.hid (hrY.out.frame (good_flat _) (Below.sameB hbz (by omega)))
            have hLZ := Lib.hid (hLY.out.below hbz)
            have hbZ := Lib.hid (hbY.out.trans (hbz.mono (by omega)))
            have hXz : X < zr.heap.size := by omega
            have x00 := (hbz.cell (p := ⟨b, off + i * 2, none⟩) hbw).trans xi0
            have x01 := (hbz.cell (p := ⟨b, off + i * 2 + 1, none⟩) hbw).trans xi1
            have hbw2 : b < zr.heap.size := by omega
            clear hbz hrY hLY hbY hby hbw q1 q2 q3 i1 i2 i3 j1 j2 j3 hp1 hp2
            have ii0 : (0 : Int) ≤ (i : Int) ∧ (i : Int) < ((n + 1 : Nat) : Int) := by omega
            have ii1 : (i : Int) < (n : Int) + 1 := by omega
            have hLD := Lib.hid (show LoopB zr.drew X Ao co K from hLZ.out)
            have cX := hLZ.out.cell
            have fX := hLZ.out.free
            obtain ⟨⟨px, py⟩, hpt⟩ : ∃ p, p = ptAt P i := ⟨_, rfl⟩
            rw [← hpt] at x00 x01
            simp only at x00 x01
            replace hpt := Lib.hid hpt
            replace hE := Lib.hid hE
            go_wp2_with fail
            refine wp_region_head 9 (fun w' => w'.cell? ⟨X, 0, none⟩ = some (.slice Ao K.length co) ∧ w'.cell? ⟨b, off + i * 2, none⟩ = some (.int .i64 px) ∧ w'.cell? ⟨b, off + i * 2 + 1, none⟩ = some (.int .i64 py)) (by kernel_rfl) (by kernel_rfl) (by exact ⟨cX, x00, x01⟩) (fun hHeld => ?_)
            simp only [List.take_succ_cons, List.take_zero, List.drop_succ_cons, List.drop_zero]
            refine wpAnyH_take (i := 0) (v := ?_) ((List.getElem?_toArray).trans rfl) (by kernel_rfl) (by kernel_rfl) (by kernel_rfl) (fun _ _ _ h => h) (Or.inl ⟨by rfl, ?_⟩) (by assumption) ?_
            rotate_left
            · (intro w hSw; (try dsimp only at hSw); go_simp; (try (with_reducible rfl)))
            (try simp only [Act.put, List.setIfInBounds_toArray, List.set_cons_zero, List.set_cons_succ])
            refine wpAnyH_take (i := 1) (v := ?_) ((List.getElem?_toArray).trans rfl) (by kernel_rfl) (by kernel_rfl) (by kernel_rfl) (fun _ _ _ h => h) (Or.inl ⟨by rfl, ?_⟩) (by assumption) ?_
            rotate_left
            · (intro w hSw; (try dsimp only at hSw); go_simp; (try (with_reducible rfl)))
            (try simp only [Act.put, List.setIfInBounds_toArray, List.set_cons_zero, List.set_cons_succ])
            refine wpAnyH_take (i := 2) (v := ?_) ((List.getElem?_toArray).trans rfl) (by kernel_rfl) (by kernel_rfl) (by kernel_rfl) (fun _ _ _ h => h) (Or.inl ⟨by rfl, ?_⟩) (by assumption) ?_
            rotate_left
            · (intro w hSw; (try dsimp only at hSw); go_simp; (try (with_reducible rfl)))
            (try simp only [Act.put, List.setIfInBounds_toArray, List.set_cons_zero, List.set_cons_succ])
            refine wpAnyH_take (i := 3) (v := ?_) ((List.getElem?_toArray).trans rfl) (by kernel_rfl) (by kernel_rfl) (by kernel_rfl) (fun _ _ _ h => h) (Or.inl ⟨by rfl, ?_⟩) (by assumption) ?_
            rotate_left
            · (intro w hSw; (try dsimp only at hSw); go_simp; (try (with_reducible rfl)))
            (try simp only [Act.put, List.setIfInBounds_toArray, List.set_cons_zero, List.set_cons_succ])
            refine wpAnyH_take (i := 4) (v := ?_) ((List.getElem?_toArray).trans rfl) (by kernel_rfl) (by kernel_rfl) (by kernel_rfl) (fun _ _ _ h => h) (Or.inl ⟨by rfl, ?_⟩) (by assumption) ?_
            rotate_left
            · (intro w hSw; (try dsimp only at hSw); go_simp; (try (with_reducible rfl)))
            (try simp only [Act.put, List.setIfInBounds_toArray, List.set_cons_zero, List.set_cons_succ])
            refine wpAnyH_take (i := 5) (v := ?_) ((List.getElem?_toArray).trans rfl) (by kernel_rfl) (by kernel_rfl) (by kernel_rfl) (fun _ _ _ h => h) (Or.inl ⟨by rfl, ?_⟩) (by assumption) ?_
            rotate_left
            · (intro w hSw; (try dsimp only at hSw); go_simp; (try (with_reducible rfl)))
            (try simp only [Act.put, List.setIfInBounds_toArray, List.set_cons_zero, List.set_cons_succ])
            refine wpAnyH_take (i := 6) (v := ?_) ((List.getElem?_toArray).trans rfl) (by kernel_rfl) (by kernel_rfl) (by kernel_rfl) (fun _ _ _ h => h) (Or.inl ⟨by rfl, ?_⟩) (by assumption) ?_
            rotate_left
            · (intro w hSw; (try dsimp only at hSw); go_simp; (try (with_reducible rfl)))
            (try simp only [Act.put, List.setIfInBounds_toArray, List.set_cons_zero, List.set_cons_succ])
            refine wpAnyH_ready (rs := [7]) (by kernel_rfl) (by simp) ?_
            refine AllReadyH.cons ((List.getElem?_toArray).trans rfl) (fun K0 hK0 => ?_) AllReadyH.nil
            go_simp
            refine hK0.out _ _ ?_ (fun hHeld => ?_)
            · (exact ⟨Lib.cell?_alloc_some _ cX, Lib.cell?_alloc_some _ x00, Lib.cell?_alloc_some _ x01⟩)
            clear hK0 K0
            (try simp only [Act.put, List.setIfInBounds_toArray, List.set_cons_zero, List.set_cons_succ])
            refine wpAnyH_ready (rs := [8]) (by kernel_rfl) (by simp) ?_
            refine AllReadyH.cons ((List.getElem?_toArray).trans rfl) (fun K0 hK0 => ?_) AllReadyH.nil
            (refine stepAppAt rfl (.tmp 73) (.tmp 79) elemKnot rfl (v := .slice Ao K.length co) (n := K.length) (xs := K.flatMap knotC) rfl (hLD.out.2.alloc _) rfl (src_at (cs := [.int .i64 px, .int .i64 py, .bool true]) rfl (by simp [Value.oneCell']) (by simp)) (by omega) (by omega) (by simp; omega) (K.length + 1) rfl ?_; intro A5 c5 w5 ho5 hg5; obtain ⟨q5, f5, l5⟩ := LoopB.mid hLD.out (Go.Joins.below_alloc1 _ _) hg5; replace ho5 := Lib.hid ho5; replace hg5 := Lib.hid hg5)
            refine hK0.out _ _ ?_ (fun hHeld => ?_)
            · (exact ⟨q5, (LoopB.old hLD.out (Go.Joins.below_alloc1 _ _) hg5.out (p := ⟨b, off + i * 2, none⟩) hbX).trans x00, (LoopB.old hLD.out (Go.Joins.below_alloc1 _ _) hg5.out (p := ⟨b, off + i * 2 + 1, none⟩) hbX).trans x01⟩)
            clear hK0 K0
            (try simp only [Act.put, List.setIfInBounds_toArray, List.set_cons_zero, List.set_cons_succ])
            refine wpAnyH_done (by kernel_rfl) ?_ _
            show wpList _ _ _ _ _ _
            obtain ⟨hLA, hbA⟩ := LoopB.app (q := (px, py, true)) hLD.out (Go.Joins.below_alloc1 _ _) hg5.out ho5.out
            have hzA := hbA.size
            replace hbA : Below X zr (w5.setCell ⟨X, 0, none⟩ (.slice A5 (K.length + 1) c5)) := (Below.drew (Below.refl X zr)).trans hbA
            replace hLA := Lib.hid hLA
            replace hbA := Lib.hid (hbZ.out.trans hbA)
            clear ho5 hg5 hLD cX fX x00 x01 hLZ hbZ hrZ ii0 ii1
            go_upto_region 15 with fail
            clear q5 f5 l5
            generalize (w5.setCell ⟨X, 0, none⟩ (.slice A5 (K.length + 1) c5)) = u0 at *
            have hXu := hLA.out.lt
            have hK1 : (K ++ [(px, py, true)]).length = K.length + 1 := by simp
            obtain ⟨K1, hK1e⟩ : ∃ K1, K1 = K ++ [(px, py, true)] := ⟨_, rfl⟩
            rw [← hK1e] at hLA hK1
            replace hK1e := Lib.hid hK1e
            have hK1l : K1.length ≤ 2 * i + 1 := by omega
            replace hK1 := Lib.hid hK1
            have hrU := Lib.hid (hrd2.out.frame (good_flat _) (Below.sameB hbA.out (Nat.le_refl _)))
            go_wp2_with fail
            go_loopw [12] (fun kv yr => ∃ k : Nat, kv = .int .i64 k ∧ 1 ≤ k ∧ k ≤ m ∧ fitW P i t m = fitW P i t k ∧ Below u0.heap.size u0 yr) (fun kv yr => (intOf kv).toNat)
            case atStart => exact ⟨m, rfl, hm1, Nat.le_refl _, rfl, Below.refl _ _⟩
            case round =>
              generalize wr = s0 at *
              obtain ⟨k, rfl, hk1, hk2, hfk, hbs⟩ := hrel
              have hzs := hbs.size
              have hfK : Hid (fitW P i t (endW P n (i + 1) - i) = fitW P i t k) := by rw [hE.out, show i + m - i = m by omega]; exact hfk
              replace hfk := Lib.hid hfk
              have hLs := Lib.hid (hLA.out.below hbs)
              have hbs0 := Lib.hid (hbA.out.trans (hbs.mono (by omega)))
              by_cases hk : 1 < k
              rotate_left
              · have hke : k = 1 := by omega
                subst hke
                go_wp2_with fail
                go_roundw
                case rel => exact ⟨i + 1, A5, c5, K1, by go_num, by omega, by omega, by rw [← hKe.out, hK1e.out, fitK_none (k := 1) hlt (hfK.out.trans (fitW_small (Nat.le_refl _))) (Nat.le_refl _), List.append_assoc, ← hpt.out]; rfl, hLs.out, hbs0.out⟩
                case measure => simp [intOf]; omega
              have hki : (1 : Int) < (k : Int) := by omega
              have hrS := Lib.hid (hrU.out.frame (good_flat _) (Below.sameB hbs (by omega)))
              have hik : i + k < n + 1 := by omega
              have hcall := Lib.hid (l16Run_any (some ⟨b, off, none⟩) (n + 1) c1 w.heap.size X i k P s0 hrS.out (by omega) (by omega) hik)
              go_wp2_with fail
              refine hcall.out.mono ?_
              rintro e s1 ⟨Ap, cp, rfl, hrp, hb1⟩
              have hz1 := hb1.size
              have hppl := hrp.1
              have hppk : ∀ p ∈ partP P i k, ptOk p.1 p.2 = true := fun p hp => hPok.out p (by unfold partP at hp; exact List.mem_of_mem_drop (List.mem_of_mem_take hp))
              have hbt := Lib.hid (hbs.trans (hb1.mono hzs))
              have hrp1 := Lib.hid hrp
              obtain ⟨v, hv⟩ : ∃ v, v = strW P i k t := ⟨_, rfl⟩
              have hv2 : v = withinB (partP P i k) [ptAt (partP P i k) 0, ptAt (partP P i k) (k + 1 - 1)] t := by
                rw [hv, partP_pt (Nat.zero_le _), Nat.add_sub_cancel, partP_pt (Nat.le_refl _)]; rfl
              have hst := Lib.hid (l16Straight_any Ap (k + 1) cp s0.heap.size s1.heap.size (partP P i k) t v hv2 s1 hrp (Nat.le_refl _) (by omega) (by omega) hppk (by omega) ht1)
              replace hv := Lib.hid hv
              clear hv2 hcall hb1 hrp
              go_wp2_with fail
              refine hst.out.mono ?_
              rintro e s2 ⟨rfl, hb2⟩
              have hz2' := hb2.size
              have hbt2 := Lib.hid (hbt.out.trans (hb2.mono (by omega)))
              have hLs2 := Lib.hid (hLA.out.below hbt2.out)
              have hbs2 := Lib.hid (hbA.out.trans (hbt2.out.mono (by omega)))
              have hrp2 := Lib.hid (hrp1.out.frame (good_flat _) (Below.sameB hb2 (Nat.le_refl _)))
              clear hst hb2
              cases v with
              | true =>
                go_wp2_with fail
                go_roundw
                case rel => exact ⟨i + k, A5, c5, K1, by go_num, by omega, by omega, by rw [← hKe.out, hK1e.out, fitK_none (k := k) hlt (hfK.out.trans (fitW_str hk hv.out.symm)) hk1, List.append_assoc, ← hpt.out]; rfl, hLs2.out, hbs2.out⟩
                case measure => simp [intOf]; omega
              | false =>
                have hft := Lib.hid (l16Fit_any Ap (k + 1) cp s0.heap.size s1.heap.size (partP P i k) t s2 hrp2.out (by omega) (by omega) (by omega) hppk (by omega) ht1)
                go_wp2_with fail
                refine hft.out.mono ?_
                rintro e s3 ⟨⟨hfn, rfl⟩ | ⟨qx, qy, hfs, rfl⟩, hb3⟩
                · have hz3' := hb3.size
                  have hbt3 := Lib.hid (hbt2.out.trans (hb3.mono (by omega)))
                  replace hfn := Lib.hid hfn
                  clear hft hb3
                  go_wp2_with fail
                  go_roundw
                  case rel => exact ⟨k - 1, by go_num, by omega, by omega, by rw [hfk.out, fitW_next hk hv.out.symm hfn.out], hbt3.out.alloc (by omega) _⟩
                  case measure => simp [intOf]; omega
                · have hz3' := hb3.size
                  have hbt3 := Lib.hid (hbt2.out.trans (hb3.mono (by omega)))
                  replace hfs := Lib.hid hfs
                  generalize (ptAt (partP P i k) 0).1 = a0
                  generalize (ptAt (partP P i k) 0).2 = a1
                  generalize (ptAt (partP P i k) ((partP P i k).length - 1)).1 = a4
                  generalize (ptAt (partP P i k) ((partP P i k).length - 1)).2 = a5
                  have hbox := heap_alloc_new s3 (.cells #[.int .i64 a0, .int .i64 a1, .int .i64 qx, .int .i64 qy, .int .i64 a4, .int .i64 a5] 87 (0, 0))
                  have hb4 : Below u0.heap.size u0 (s3.alloc (.cells #[.int .i64 a0, .int .i64 a1, .int .i64 qx, .int .i64 qy, .int .i64 a4, .int .i64 a5] 87 (0, 0))) := hbt3.out.alloc (by omega) _
                  have hz4 : s3.heap.size + 1 = (s3.alloc (.cells #[.int .i64 a0, .int .i64 a1, .int .i64 qx, .int .i64 qy, .int .i64 a4, .int .i64 a5] 87 (0, 0))).heap.size := by simp
                  clear hft hb3
                  go_upto_region 21 with fail
                  generalize s3.alloc (.cells #[.int .i64 a0, .int .i64 a1, .int .i64 qx, .int .i64 qy, .int .i64 a4, .int .i64 a5] 87 (0, 0)) = s4 at *
                  obtain ⟨Y, hYe⟩ : ∃ Y, Y = s3.heap.size := ⟨_, rfl⟩
                  rw [← hYe] at hbox hz4 ⊢
                  have hYX : X < Y := by omega
                  clear hYe
                  have y2 : s4.cell? ⟨Y, 2, none⟩ = some (.int .i64 qx) := by rw [Go.Joins.cell_of_block hbox]; rfl
                  have y3 : s4.cell? ⟨Y, 3, none⟩ = some (.int .i64 qy) := by rw [Go.Joins.cell_of_block hbox]; rfl
                  have yl : Y < s4.heap.size := by omega
                  have hLs4 := Lib.hid (hLA.out.below hb4)
                  have hbs4 := Lib.hid (hbA.out.trans (hb4.mono (by omega)))
                  have cX4 := hLs4.out.cell
                  have fX4 := hLs4.out.free
                  have lX4 := hLs4.out.lt
                  clear hbox
                  go_wp2_with (at_builtin; refine wpAppAt rfl (.tmp 102) (.tmp 106) elemKnot rfl (v := .slice A5 K1.length c5) (n := K1.length) (xs := K1.flatMap knotC) rfl (hLs4.out.2.alloc _) rfl (src_at (cs := [.int .i64 qx, .int .i64 qy, .bool false]) rfl (by simp [Value.oneCell']) (by simp)) (by omega) (by omega) (by simp; omega) (K1.length + 1) rfl ?_; intro A6 c6 w6 ho6 hg6 _; obtain ⟨q6, f6, l6⟩ := LoopB.mid hLs4.out (Go.Joins.below_alloc1 _ _) hg6; replace ho6 := Lib.hid ho6; replace hg6 := Lib.hid hg6)
                  obtain ⟨hLB6, hbB6⟩ := LoopB.app (q := (qx, qy, false)) hLs4.out (Go.Joins.below_alloc1 _ _) hg6.out ho6.out
                  go_roundw
                  case rel => exact ⟨i + k, A6, c6, K1 ++ [(qx, qy, false)], by go_num, by omega, by simp; omega, by rw [← hKe.out, hK1e.out, fitK_some (k := k) hlt (hfK.out.trans (fitW_fit hk hv.out.symm hfs.out)) hk1, List.append_assoc, List.append_assoc, ← hpt.out]; rfl, hLB6, hbs4.out.trans hbB6⟩
                  case measure => simp [intOf]; omega
        · have hm4 : i + m = n := by omega
          obtain ⟨b, off, rfl, hb0, hb, hcs⟩ := hrY.out.pts (by omega)
          have hbX : b < X := hb
          obtain ⟨x00, x01⟩ := hcs i (by omega)
          have hE : endW P n (i + 1) = i + m := by rw [← hme.out, endW_ge (by omega)]
          obtain ⟨p, hp⟩ : ∃ p, p = i + m := ⟨_, rfl⟩
          have q1 : IntKind.i64.wrap ((i : Int) + (m : Int)) = (p : Int) := by rw [wi (by omega)]; omega
          have i0 : ¬ (p : Int) < (n : Int) := by omega
          have i00 : decide (p < n) = false := by simp; omega
          replace hp := Lib.hid hp
          have hbw : b < yr.heap.size := by omega
          clear hcs hb0 hb
          go_wp2_with fail
          refine wp_region_quiet_below (by kernel_rfl) (by kernel_rfl) ?_
          repeat (go_big_quiet_step (fail))
          refine wpQuiet_nil ?_
          intro _ hw'
          obtain ⟨⟨dq, osq⟩, hw2⟩ := hw'
          subst hw2
          have hbz := (below_regrown yr dq osq)
          generalize Go.Sort.grow (redrawn yr dq) osq = zr at hbz ⊢
          have hzz := hbz.size
          have hrZ := Lib.hid (hrY.out.frame (good_flat _) (Below.sameB hbz (by omega)))
          have hLZ := Lib.hid (hLY.out.below hbz)
          have hbZ := Lib.hid (hbY.out.trans (hbz.mono (by omega)))
          have hXz : X < zr.heap.size := by omega
          replace x00 := (hbz.cell (p := ⟨b, off + i * 2, none⟩) hbw).trans x00
          replace x01 := (hbz.cell (p := ⟨b, off + i * 2 + 1, none⟩) hbw).trans x01
          have hbw2 : b < zr.heap.size := by omega
          clear hbz hrY hLY hbY hby hbw q1 hm4
          have ii0 : (0 : Int) ≤ (i : Int) ∧ (i : Int) < ((n + 1 : Nat) : Int) := by omega
          have ii1 : (i : Int) < (n : Int) + 1 := by omega
          have hLD := Lib.hid (show LoopB zr.drew X Ao co K from hLZ.out)
          have cX := hLZ.out.cell
          have fX := hLZ.out.free
          obtain ⟨⟨px, py⟩, hpt⟩ : ∃ p, p = ptAt P i := ⟨_, rfl⟩
          rw [← hpt] at x00 x01
          simp only at x00 x01
          replace hpt := Lib.hid hpt
          replace hE := Lib.hid hE
          go_wp2_with fail
          refine wp_region_head 9 (fun w' => w'.cell? ⟨X, 0, none⟩ = some (.slice Ao K.length co) ∧ w'.cell? ⟨b, off + i * 2, none⟩ = some (.int .i64 px) ∧ w'.cell? ⟨b, off + i * 2 + 1, none⟩ = some (.int .i64 py)) (by kernel_rfl) (by kernel_rfl) (by exact ⟨cX, x00, x01⟩) (fun hHeld => ?_)
          simp only [List.take_succ_cons, List.take_zero, List.drop_succ_cons, List.drop_zero]
          refine wpAnyH_take (i := 0) (v := ?_) ((List.getElem?_toArray).trans rfl) (by kernel_rfl) (by kernel_rfl) (by kernel_rfl) (fun _ _ _ h => h) (Or.inl ⟨by rfl, ?_⟩) (by assumption) ?_
          rotate_left
          · (intro w hSw; (try dsimp only at hSw); go_simp; (try (with_reducible rfl)))
          (try simp only [Act.put, List.setIfInBounds_toArray, List.set_cons_zero, List.set_cons_succ])
          refine wpAnyH_take (i := 1) (v := ?_) ((List.getElem?_toArray).trans rfl) (by kernel_rfl) (by kernel_rfl) (by kernel_rfl) (fun _ _ _ h => h) (Or.inl ⟨by rfl, ?_⟩) (by assumption) ?_
          rotate_left
          · (intro w hSw; (try dsimp only at hSw); go_simp; (try (with_reducible rfl)))
          (try simp only [Act.put, List.setIfInBounds_toArray, List.set_cons_zero, List.set_cons_succ])
          refine wpAnyH_take (i := 2) (v := ?_) ((List.getElem?_toArray).trans rfl) (by kernel_rfl) (by kernel_rfl) (by kernel_rfl) (fun _ _ _ h => h) (Or.inl ⟨by rfl, ?_⟩) (by assumption) ?_
          rotate_left
          · (intro w hSw; (try dsimp only at hSw); go_simp; (try (with_reducible rfl)))
          (try simp only [Act.put, List.setIfInBounds_toArray, List.set_cons_zero, List.set_cons_succ])
          refine wpAnyH_take (i := 3) (v := ?_) ((List.getElem?_toArray).trans rfl) (by kernel_rfl) (by kernel_rfl) (by kernel_rfl) (fun _ _ _ h => h) (Or.inl ⟨by rfl, ?_⟩) (by assumption) ?_
          rotate_left
          · (intro w hSw; (try dsimp only at hSw); go_simp; (try (with_reducible rfl)))
          (try simp only [Act.put, List.setIfInBounds_toArray, List.set_cons_zero, List.set_cons_succ])
          refine wpAnyH_take (i := 4) (v := ?_) ((List.getElem?_toArray).trans rfl) (by kernel_rfl) (by kernel_rfl) (by kernel_rfl) (fun _ _ _ h => h) (Or.inl ⟨by rfl, ?_⟩) (by assumption) ?_
          rotate_left
          · (intro w hSw; (try dsimp only at hSw); go_simp; (try (with_reducible rfl)))
          (try simp only [Act.put, List.setIfInBounds_toArray, List.set_cons_zero, List.set_cons_succ])
          refine wpAnyH_take (i := 5) (v := ?_) ((List.getElem?_toArray).trans rfl) (by kernel_rfl) (by kernel_rfl) (by kernel_rfl) (fun _ _ _ h => h) (Or.inl ⟨by rfl, ?_⟩) (by assumption) ?_
          rotate_left
          · (intro w hSw; (try dsimp only at hSw); go_simp; (try (with_reducible rfl)))
          (try simp only [Act.put, List.setIfInBounds_toArray, List.set_cons_zero, List.set_cons_succ])
          refine wpAnyH_take (i := 6) (v := ?_) ((List.getElem?_toArray).trans rfl) (by kernel_rfl) (by kernel_rfl) (by kernel_rfl) (fun _ _ _ h => h) (Or.inl ⟨by rfl, ?_⟩) (by assumption) ?_
          rotate_left
          · (intro w hSw; (try dsimp only at hSw); go_simp; (try (with_reducible rfl)))
          (try simp only [Act.put, List.setIfInBounds_toArray, List.set_cons_zero, List.set_cons_succ])
          refine wpAnyH_ready (rs := [7]) (by kernel_rfl) (by simp) ?_
          refine AllReadyH.cons ((List.getElem?_toArray).trans rfl) (fun K0 hK0 => ?_) AllReadyH.nil
          go_simp
          refine hK0.out _ _ ?_ (fun hHeld => ?_)
          · (exact ⟨Lib.cell?_alloc_some _ cX, Lib.cell?_alloc_some _ x00, Lib.cell?_alloc_some _ x01⟩)
          clear hK0 K0
          (try simp only [Act.put, List.setIfInBounds_toArray, List.set_cons_zero, List.set_cons_succ])
          refine wpAnyH_ready (rs := [8]) (by kernel_rfl) (by simp) ?_
          refine AllReadyH.cons ((List.getElem?_toArray).trans rfl) (fun K0 hK0 => ?_) AllReadyH.nil
          (refine stepAppAt rfl (.tmp 73) (.tmp 79) elemKnot rfl (v := .slice Ao K.length co) (n := K.length) (xs := K.flatMap knotC) rfl (hLD.out.2.alloc _) rfl (src_at (cs := [.int .i64 px, .int .i64 py, .bool true]) rfl (by simp [Value.oneCell']) (by simp)) (by omega) (by omega) (by simp; omega) (K.length + 1) rfl ?_; intro A5 c5 w5 ho5 hg5; obtain ⟨q5, f5, l5⟩ := LoopB.mid hLD.out (Go.Joins.below_alloc1 _ _) hg5; replace ho5 := Lib.hid ho5; replace hg5 := Lib.hid hg5)
          refine hK0.out _ _ ?_ (fun hHeld => ?_)
          · (exact ⟨q5, (LoopB.old hLD.out (Go.Joins.below_alloc1 _ _) hg5.out (p := ⟨b, off + i * 2, none⟩) hbX).trans x00, (LoopB.old hLD.out (Go.Joins.below_alloc1 _ _) hg5.out (p := ⟨b, off + i * 2 + 1, none⟩) hbX).trans x01⟩)
          clear hK0 K0
          (try simp only [Act.put, List.setIfInBounds_toArray, List.set_cons_zero, List.set_cons_succ])
          refine wpAnyH_done (by kernel_rfl) ?_ _
          show wpList _ _ _ _ _ _
          obtain ⟨hLA, hbA⟩ := LoopB.app (q := (px, py, true)) hLD.out (Go.Joins.below_alloc1 _ _) hg5.out ho5.out
          have hzA := hbA.size
          replace hbA : Below X zr (w5.setCell ⟨X, 0, none⟩ (.slice A5 (K.length + 1) c5)) := (Below.drew (Below.refl X zr)).trans hbA
          replace hLA := Lib.hid hLA
          replace hbA := Lib.hid (hbZ.out.trans hbA)
          clear ho5 hg5 hLD cX fX x00 x01 hLZ hbZ hrZ ii0 ii1
          go_upto_region 15 with fail
          clear q5 f5 l5
          generalize (w5.setCell ⟨X, 0, none⟩ (.slice A5 (K.length + 1) c5)) = u0 at *
          have hXu := hLA.out.lt
          have hK1 : (K ++ [(px, py, true)]).length = K.length + 1 := by simp
          obtain ⟨K1, hK1e⟩ : ∃ K1, K1 = K ++ [(px, py, true)] := ⟨_, rfl⟩
          rw [← hK1e] at hLA hK1
          replace hK1e := Lib.hid hK1e
          have hK1l : K1.length ≤ 2 * i + 1 := by omega
          replace hK1 := Lib.hid hK1
          have hrU := Lib.hid (hrd2.out.frame (good_flat _) (Below.sameB hbA.out (Nat.le_refl _)))
          go_wp2_with fail
          go_loopw [12] (fun kv yr => ∃ k : Nat, kv = .int .i64 k ∧ 1 ≤ k ∧ k ≤ m ∧ fitW P i t m = fitW P i t k ∧ Below u0.heap.size u0 yr) (fun kv yr => (intOf kv).toNat)
          case atStart => exact ⟨m, rfl, hm1, Nat.le_refl _, rfl, Below.refl _ _⟩
          case round =>
            generalize wr = s0 at *
            obtain ⟨k, rfl, hk1, hk2, hfk, hbs⟩ := hrel
            have hzs := hbs.size
            have hfK : Hid (fitW P i t (endW P n (i + 1) - i) = fitW P i t k) := by rw [hE.out, show i + m - i = m by omega]; exact hfk
            replace hfk := Lib.hid hfk
            have hLs := Lib.hid (hLA.out.below hbs)
            have hbs0 := Lib.hid (hbA.out.trans (hbs.mono (by omega)))
            by_cases hk : 1 < k
            rotate_left
            · have hke : k = 1 := by omega
              subst hke
              go_wp2_with fail
              go_roundw
              case rel => exact ⟨i + 1, A5, c5, K1, by go_num, by omega, by omega, by rw [← hKe.out, hK1e.out, fitK_none (k := 1) hlt (hfK.out.trans (fitW_small (Nat.le_refl _))) (Nat.le_refl _), List.append_assoc, ← hpt.out]; rfl, hLs.out, hbs0.out⟩
              case measure => simp [intOf]; omega
            have hki : (1 : Int) < (k : Int) := by omega
            have hrS := Lib.hid (hrU.out.frame (good_flat _) (Below.sameB hbs (by omega)))
            have hik : i + k < n + 1 := by omega
            have hcall := Lib.hid (l16Run_any (some ⟨b, off, none⟩) (n + 1) c1 w.heap.size X i k P s0 hrS.out (by omega) (by omega) hik)
            go_wp2_with fail
            refine hcall.out.mono ?_
            rintro e s1 ⟨Ap, cp, rfl, hrp, hb1⟩
            have hz1 := hb1.size
            have hppl := hrp.1
            have hppk : ∀ p ∈ partP P i k, ptOk p.1 p.2 = true := fun p hp => hPok.out p (by unfold partP at hp; exact List.mem_of_mem_drop (List.mem_of_mem_take hp))
            have hbt := Lib.hid (hbs.trans (hb1.mono hzs))
            have hrp1 := Lib.hid hrp
            obtain ⟨v, hv⟩ : ∃ v, v = strW P i k t := ⟨_, rfl⟩
            have hv2 : v = withinB (partP P i k) [ptAt (partP P i k) 0, ptAt (partP P i k) (k + 1 - 1)] t := by
              rw [hv, partP_pt (Nat.zero_le _), Nat.add_sub_cancel, partP_pt (Nat.le_refl _)]; rfl
            have hst := Lib.hid (l16Straight_any Ap (k + 1) cp s0.heap.size s1.heap.size (partP P i k) t v hv2 s1 hrp (Nat.le_refl _) (by omega) (by omega) hppk (by omega) ht1)
            replace hv := Lib.hid hv
            clear hv2 hcall hb1 hrp
            go_wp2_with fail
            refine hst.out.mono ?_
            rintro e s2 ⟨rfl, hb2⟩
            have hz2' := hb2.size
            have hbt2 := Lib.hid (hbt.out.trans (hb2.mono (by omega)))
            have hLs2 := Lib.hid (hLA.out.below hbt2.out)
            have hbs2 := Lib.hid (hbA.out.trans (hbt2.out.mono (by omega)))
            have hrp2 := Lib.hid (hrp1.out.frame (good_flat _) (Below.sameB hb2 (Nat.le_refl _)))
            clear hst hb2
            cases v with
            | true =>
              go_wp2_with fail
              go_roundw
              case rel => exact ⟨i + k, A5, c5, K1, by go_num, by omega, by omega, by rw [← hKe.out, hK1e.out, fitK_none (k := k) hlt (hfK.out.trans (fitW_str hk hv.out.symm)) hk1, List.append_assoc, ← hpt.out]; rfl, hLs2.out, hbs2.out⟩
              case measure => simp [intOf]; omega
            | false =>
              have hft := Lib.hid (l16Fit_any Ap (k + 1) cp s0.heap.size s1.heap.size (partP P i k) t s2 hrp2.out (by omega) (by omega) (by omega) hppk (by omega) ht1)
              go_wp2_with fail
              refine hft.out.mono ?_
              rintro e s3 ⟨⟨hfn, rfl⟩ | ⟨qx, qy, hfs, rfl⟩, hb3⟩
              · have hz3' := hb3.size
                have hbt3 := Lib.hid (hbt2.out.trans (hb3.mono (by omega)))
                replace hfn := Lib.hid hfn
                clear hft hb3
                go_wp2_with fail
                go_roundw
                case rel => exact ⟨k - 1, by go_num, by omega, by omega, by rw [hfk.out, fitW_next hk hv.out.symm hfn.out], hbt3.out.alloc (by omega) _⟩
                case measure => simp [intOf]; omega
              · have hz3' := hb3.size
                have hbt3 := Lib.hid (hbt2.out.trans (hb3.mono (by omega)))
                replace hfs := Lib.hid hfs
                generalize (ptAt (partP P i k) 0).1 = a0
                generalize (ptAt (partP P i k) 0).2 = a1
                generalize (ptAt (partP P i k) ((partP P i k).length - 1)).1 = a4
                generalize (ptAt (partP P i k) ((partP P i k).length - 1)).2 = a5
                have hbox := heap_alloc_new s3 (.cells #[.int .i64 a0, .int .i64 a1, .int .i64 qx, .int .i64 qy, .int .i64 a4, .int .i64 a5] 87 (0, 0))
                have hb4 : Below u0.heap.size u0 (s3.alloc (.cells #[.int .i64 a0, .int .i64 a1, .int .i64 qx, .int .i64 qy, .int .i64 a4, .int .i64 a5] 87 (0, 0))) := hbt3.out.alloc (by omega) _
                have hz4 : s3.heap.size + 1 = (s3.alloc (.cells #[.int .i64 a0, .int .i64 a1, .int .i64 qx, .int .i64 qy, .int .i64 a4, .int .i64 a5] 87 (0, 0))).heap.size := by simp
                clear hft hb3
                go_upto_region 21 with fail
                generalize s3.alloc (.cells #[.int .i64 a0, .int .i64 a1, .int .i64 qx, .int .i64 qy, .int .i64 a4, .int .i64 a5] 87 (0, 0)) = s4 at *
                obtain ⟨Y, hYe⟩ : ∃ Y, Y = s3.heap.size := ⟨_, rfl⟩
                rw [← hYe] at hbox hz4 ⊢
                have hYX : X < Y := by omega
                clear hYe
                have y2 : s4.cell? ⟨Y, 2, none⟩ = some (.int .i64 qx) := by rw [Go.Joins.cell_of_block hbox]; rfl
                have y3 : s4.cell? ⟨Y, 3, none⟩ = some (.int .i64 qy) := by rw [Go.Joins.cell_of_block hbox]; rfl
                have yl : Y < s4.heap.size := by omega
                have hLs4 := Lib.hid (hLA.out.below hb4)
                have hbs4 := Lib.hid (hbA.out.trans (hb4.mono (by omega)))
                have cX4 := hLs4.out.cell
                have fX4 := hLs4.out.free
                have lX4 := hLs4.out.lt
                clear hbox
                go_wp2_with (at_builtin; refine wpAppAt rfl (.tmp 102) (.tmp 106) elemKnot rfl (v := .slice A5 K1.length c5) (n := K1.length) (xs := K1.flatMap knotC) rfl (hLs4.out.2.alloc _) rfl (src_at (cs := [.int .i64 qx, .int .i64 qy, .bool false]) rfl (by simp [Value.oneCell']) (by simp)) (by omega) (by omega) (by simp; omega) (K1.length + 1) rfl ?_; intro A6 c6 w6 ho6 hg6 _; obtain ⟨q6, f6, l6⟩ := LoopB.mid hLs4.out (Go.Joins.below_alloc1 _ _) hg6; replace ho6 := Lib.hid ho6; replace hg6 := Lib.hid hg6)
                obtain ⟨hLB6, hbB6⟩ := LoopB.app (q := (qx, qy, false)) hLs4.out (Go.Joins.below_alloc1 _ _) hg6.out ho6.out
                go_roundw
                case rel => exact ⟨i + k, A6, c6, K1 ++ [(qx, qy, false)], by go_num, by omega, by simp; omega, by rw [← hKe.out, hK1e.out, fitK_some (k := k) hlt (hfK.out.trans (fitW_fit hk hv.out.symm hfs.out)) hk1, List.append_assoc, List.append_assoc, ← hpt.out]; rfl, hLB6, hbs4.out.trans hbB6⟩
                case measure => simp [intOf]; omega

end Go.Proofs.YtgelkdcggnffeaaGreat

