/- Drawn instructions: valid and nested. Printed by mk_fad.py. Conditions: as each states. -/
import Derived.Deep.RegionHeld3
import Derived.Deep.CutBlock
import Derived.Deep.DeepCutAuto
import Derived.Test.YtpmpbfkpiocleaaDoorAs29
import Derived.Test.YtpmpbfkpiocleaaDoorAs19
import Derived.Test.YtpmpbfkpiocleaaDoorAs26
namespace Go.Proofs.YtpmpbfkpiocleaaDoor
open Go.RowKit
set_option linter.unusedVariables false
set_option maxRecDepth 100000

def FaPost (w : World) (b k m N1 K1 : Nat) (e : Ending) (w' : World) : Prop := ∃ (A : Option Addr) (n c : Nat) (L : List (Int × Int)) (k' : Nat), e = .returned (.slice A n c) ∧ L.length = n ∧ w'.ownsRow w.heap.size 32 2 (.slice A n c) n (hintCells L) ∧ allValid L = true ∧ Bal m (codesOf L) ∧ n ≤ N1 ∧ Src0 w' b k' ∧ k' ≤ k + K1 ∧ w.grownBy w' (some b)
/-- a list of instructions, valid and nested -/
def GoodH (m : Nat) (L : List (Int × Int)) : Prop := allValid L = true ∧ Bal m (codesOf L)
theorem GoodH.app {m : Nat} {A B : List (Int × Int)} (ha : GoodH m A) (hb : GoodH m B) : GoodH m (A ++ B) := by
  refine ⟨?_, ?_⟩
  · have h1 := ha.1
    have h2 := hb.1
    unfold allValid at *
    rw [List.all_append, h1, h2]; rfl
  · have : codesOf (A ++ B) = codesOf A ++ codesOf B := by simp [codesOf]
    rw [this]; exact ha.2.app hb.2
theorem GoodH.nil (m : Nat) : GoodH m [] := ⟨rfl, Bal.nil m⟩
theorem GoodH.cons {m : Nat} {c o : Int} {L : List (Int × Int)} (hv : validHint c o = true) (hc : c ≠ 35 ∧ c ≠ 44 ∧ c ≠ 36 ∧ c ≠ 37 ∧ c ≠ 38) (h : GoodH m L) : GoodH m ((c, o) :: L) :=
  GoodH.app (A := [(c, o)]) ⟨by simp [allValid, hv], Bal.one hc.1 hc.2.1 hc.2.2.1 hc.2.2.2.1 hc.2.2.2.2 m⟩ h
theorem good_if {m : Nat} {r : Int} {N : List (Int × Int)} (hr : -128 ≤ r ∧ r ≤ 127) (hN : GoodH m N) : GoodH (m + 1) ((([(39, r), (35, 0)] ++ N) ++ [(37, 0)])) := by
  refine ⟨?_, ?_⟩
  · have h := hN.1
    unfold allValid at *
    simp only [List.all_append, List.all_cons, List.all_nil, h]
    simp [validHint, inB, opLeast, opMost, hr.1, hr.2]
  · have e : codesOf ((([(39, r), (35, 0)] ++ N) ++ [(37, 0)])) = [39] ++ (35 :: (codesOf N ++ [37])) := by simp [codesOf]
    rw [e]
    exact (Bal.one (by omega) (by omega) (by omega) (by omega) (by omega) _).app hN.2.iff
theorem good_ife {m : Nat} {r p : Int} {N : List (Int × Int)} (hr : -128 ≤ r ∧ r ≤ 127) (hp : -128 ≤ p ∧ p ≤ 127) (hN : GoodH m N) : GoodH (m + 1) (((([(39, r), (35, 0)] ++ N) ++ [(36, 0), (39, p), (23, 0)]) ++ [(37, 0)])) := by
  refine ⟨?_, ?_⟩
  · have h := hN.1
    unfold allValid at *
    simp only [List.all_append, List.all_cons, List.all_nil, h]
    simp [validHint, inB, opLeast, opMost, hr.1, hr.2, hp.1, hp.2]
  · have e : codesOf (((([(39, r), (35, 0)] ++ N) ++ [(36, 0), (39, p), (23, 0)]) ++ [(37, 0)])) = [39] ++ (35 :: (codesOf N ++ (36 :: (([39] ++ [23]) ++ [37])))) := by simp [codesOf]
    rw [e]
    exact (Bal.one (by omega) (by omega) (by omega) (by omega) (by omega) _).app (hN.2.ife ((Bal.one (by omega) (by omega) (by omega) (by omega) (by omega) _).app (Bal.one (by omega) (by omega) (by omega) (by omega) (by omega) _)))
theorem good_rep {m : Nat} {r : Int} {N : List (Int × Int)} (hr : 0 ≤ r ∧ r ≤ 127) (hN : GoodH m N) : GoodH (m + 1) ((([(44, r)] ++ N) ++ [(38, 0)])) := by
  refine ⟨?_, ?_⟩
  · have h := hN.1
    unfold allValid at *
    simp only [List.all_append, List.all_cons, List.all_nil, h]
    simp [validHint, inB, opLeast, opMost, hr.1, hr.2]
  · have e : codesOf ((([(44, r)] ++ N) ++ [(38, 0)])) = 44 :: (codesOf N ++ [38]) := by simp [codesOf]
    rw [e]
    exact hN.2.rep
theorem vh {c o : Int} (h0 : 0 ≤ c ∧ c ≤ 44) (h1 : opLeast c ≤ o ∧ o ≤ opMost c) : validHint c o = true := by
  unfold validHint
  rw [Bool.and_eq_true]
  exact ⟨inB_iff.2 h0, inB_iff.2 h1⟩
/-- an instruction without an operand -/
theorem vh0 {c : Int} (h0 : 0 ≤ c ∧ c ≤ 38) : validHint c 0 = true := vh (by omega) (by unfold opLeast opMost; repeat' split; all_goals omega)
theorem vhPush {o : Int} (h : -128 ≤ o ∧ o ≤ 127) : validHint 39 o = true := vh (by omega) h
theorem vhWord {o : Int} (h : -32768 ≤ o ∧ o ≤ 32767) : validHint 40 o = true := vh (by omega) h
theorem vhState {o : Int} (h : 0 ≤ o ∧ o ≤ 5) : validHint 41 o = true := vh (by omega) h
theorem vhCut {c o : Int} (hc : c = 42 ∨ c = 43) (h : 0 ≤ o ∧ o ≤ 32767) : validHint c o = true := by
  rcases hc with rfl | rfl
  · exact vh (by omega) h
  · exact vh (by omega) h
theorem mem5 {r : Int} (h : r ∈ [(23 : Int), 24, 18, 28, 29]) : r = 23 ∨ r = 24 ∨ r = 18 ∨ r = 28 ∨ r = 29 := by simpa using h

set_option maxHeartbeats 32000000 in
theorem l19Draw_step (dd : Nat) (hdd : dd ≤ 3) (N1 K1 : Nat) (hN1 : 40 ≤ N1) (hN2 : N1 ≤ 100000) (hK1 : 110 ≤ K1) (hK2 : K1 ≤ 100000) (pts : Int) (hp0 : 1 < pts) (hp1 : pts ≤ 100) (KB : Nat) (hKB : KB ≤ 998000000)
    (hrec : 0 < dd → ∀ (b k : Nat) (w : World), Src0 w b k → k ≤ KB + 1000000 → Calls Tryd.prog 12 #[.pointer (some ⟨b, 0, none⟩), .int .i64 pts, .int .i64 (3 - (dd : Int) + 1)] w fun e w' => FaPost w b k (dd - 1) N1 K1 e w')
    (b k : Nat) (w : World) (hs : Src0 w b k) (hk : k ≤ KB) :
    Calls Tryd.prog 12 #[.pointer (some ⟨b, 0, none⟩), .int .i64 pts, .int .i64 (3 - (dd : Int))] w fun e w' => FaPost w b k dd (6 * N1) (6 * K1) e w' := by
  have hfin : Hid (∀ (A : Option Addr) (n c : Nat) (L : List (Int × Int)) (k' : Nat) (w' : World), L.length = n → w'.ownsRow w.heap.size 32 2 (.slice A n c) n (hintCells L) → GoodH dd L → n ≤ 6 * N1 → Src0 w' b k' → k' ≤ k + 6 * K1 → w.grownBy w' (some b) → FaPost w b k dd (6 * N1) (6 * K1) (.returned (.slice A n c)) w') :=
    Lib.hid fun A n c L k' w' h1 h2 h3 h4 h5 h6 h7 => ⟨A, n, c, L, k', rfl, h1, h2, h3.1, h3.2, h4, h5, h6, h7⟩
  have hbl := hs.lt
  have hown0 : (w.alloc (.cells #[] 32 (0, 0))).ownsRow w.heap.size 32 2 (.slice (some ⟨w.heap.size, 0, none⟩) 0 0) 0 [] := World.ownsRow_lit w #[] 0 (Nat.le_refl _) (by decide) (by simp)
  have hb0 := Go.Joins.below_alloc1 w (.cells #[] 32 (0, 0))
  have hs0 := hs.kept hb0 hbl
  have hp := Lib.hid (pick_any b k 5 _ hs0 (by omega))
  obtain ⟨DP, hDP⟩ : ∃ d : Int, d = 3 - (dd : Int) := ⟨_, rfl⟩
  rw [← hDP] at hrec ⊢
  replace hDP := Lib.hid hDP
  replace hrec := Lib.hid hrec
  obtain ⟨R, hR⟩ : ∃ R, R = FaPost w b k dd (6 * N1) (6 * K1) := ⟨_, rfl⟩
  rw [← hR] at hfin ⊢
  clear hR hs
  go_enter Tryd.func12, Tryd.ntmps12
  go_wp2_with fail
  refine hp.out.mono ?_
  rintro e w1 ⟨r0, k1, rfl, hr0, hr1, _, hs1, hk1, hg1⟩
  have hr5 := hr1 (by omega)
  have hG1 := grown_tr (grown_of hb0 (some b)) hg1
  have hown1 := own_grownF hown0 hg1 hbl
  obtain ⟨N0, hN0⟩ : ∃ N0 : Nat, (N0 : Int) = 1 + r0 := ⟨(1 + r0).toNat, by omega⟩
  obtain ⟨PN, hPN⟩ : ∃ P, P = N1 + 8 := ⟨_, rfl⟩
  obtain ⟨PK, hPK⟩ : ∃ P, P = K1 + 20 := ⟨_, rfl⟩
  clear hr1 hown0 hb0 hs0 hp hg1
  go_wp2_with fail
  go_loopw [7, 8] (fun out kv wr => ∃ (t n c k2 : Nat) (A : Option Addr) (L : List (Int × Int)), kv = .int .i64 t ∧ t ≤ N0 ∧ out = .slice A n c ∧ L.length = n ∧ wr.ownsRow w.heap.size 32 2 (.slice A n c) n (hintCells L) ∧ GoodH dd L ∧ n ≤ (N0 - t) * PN ∧ Src0 wr b k2 ∧ k2 ≤ k + 2 + (N0 - t) * PK ∧ w.grownBy wr (some b)) (fun out kv wr => (intOf kv).toNat)
  case atStart => exact ⟨N0, 0, _, k1, _, [], by rw [hN0], Nat.le_refl _, rfl, rfl, hown1, GoodH.nil _, by omega, hs1, by omega, hG1⟩
  case round =>
  clear hown1 hs1 hG1
  obtain ⟨t, n, c, k2, A, L, rfl, htN, rfl, hL, hrow, hgood, hnb, hsr, hkb, hG⟩ := hrel
  generalize wr = xr at *
  have hzx := hG.size
  by_cases ht : 0 < t
  rotate_left
  · have ht0 : ¬ (0 : Int) < (t : Int) := by omega
    have h1 : (N0 - t) * PN ≤ 5 * PN := Nat.mul_le_mul_right _ (by omega)
    have h2 : (N0 - t) * PK ≤ 5 * PK := Nat.mul_le_mul_right _ (by omega)
    have hf := Lib.hid (hfin.out A n c L k2 xr hL hrow hgood (by omega) hsr (by omega) hG)
    clear hrow hsr hG hgood hL hfin h1 h2
    go_wp2_with fail
    exact hf.out
  have ht1 : (0 : Int) < (t : Int) := by omega
  have hmN : (N0 - t) * PN ≤ 5 * PN := Nat.mul_le_mul_right _ (by omega)
  have hmK : (N0 - t) * PK ≤ 5 * PK := Nat.mul_le_mul_right _ (by omega)
  have hsN : (N0 - (t - 1)) * PN = (N0 - t) * PN + PN := by rw [show N0 - (t - 1) = (N0 - t) + 1 by omega, Nat.succ_mul]
  have hsK : (N0 - (t - 1)) * PK = (N0 - t) * PK + PK := by rw [show N0 - (t - 1) = (N0 - t) + 1 by omega, Nat.succ_mul]
  obtain ⟨CN, hCN⟩ : ∃ x, x = (N0 - t) * PN := ⟨_, rfl⟩
  obtain ⟨CK, hCK⟩ : ∃ x, x = (N0 - t) * PK := ⟨_, rfl⟩
  rw [← hCN] at hnb hmN hsN
  rw [← hCK] at hkb hmK hsK
  -- what the end of a round wants
  have hend : Hid (∀ (A' : Option Addr) (n' c' k' : Nat) (M : List (Int × Int)) (W : World), (∃ bp bq pr qr, FaSt w b bp bq pr qr W A' n' c' (L ++ M) k') → GoodH dd M → n' ≤ n + N1 + 8 → k' ≤ k2 + K1 + 20 →
      ∃ (t' n2 c2 k3 : Nat) (A2 : Option Addr) (L2 : List (Int × Int)), Value.int .i64 ((t : Int) - 1) = .int .i64 t' ∧ t' ≤ N0 ∧ Value.slice A' n' c' = .slice A2 n2 c2 ∧ L2.length = n2 ∧ W.ownsRow w.heap.size 32 2 (.slice A2 n2 c2) n2 (hintCells L2) ∧ GoodH dd L2 ∧ n2 ≤ (N0 - t') * PN ∧ Src0 W b k3 ∧ k3 ≤ k + 2 + (N0 - t') * PK ∧ w.grownBy W (some b)) := by
    refine Lib.hid fun A' n' c' k' M W ⟨bp, bq, pr, qr, h⟩ hM h1 h2 => ⟨t - 1, n', c', k', A', L ++ M, by rw [show ((t - 1 : Nat) : Int) = (t : Int) - 1 by omega], by omega, rfl, h.len, h.row, hgood.app hM, ?_, h.src, ?_, h.gr⟩
    · rw [hsN]; omega
    · rw [hsK]; omega
  have hq1 : IntKind.i64.wrap ((t : Int) - 1) = (t : Int) - 1 := IntWalk.i64_in _ (by omega)
  clear hgood hfin hCN hCK hsN hsK
  go_upto_block 1 with fail
  refine wp_mono (Q := FaQ w b dd n N1 k2 K1 L (.pointer (some ⟨b, 0, none⟩)) (.int .i64 pts) (.int .i64 DP) (.int .i64 (t : Int)) (.slice (some ⟨w.heap.size, 0, none⟩) 0 0) (.pointer (some ⟨b, 0, none⟩)) (.int .i64 r0) (.int .i64 (1 + r0))) ?_ ?_
  rotate_left
  · intro e a' x8 ⟨he, A', n', c', k', M, hok, h8, hM, hn8, hk8⟩
    subst he
    obtain ⟨f, rfl⟩ := hok.lit
    clear hrow hsr hG hok
    go_wp2_with fail
    go_roundw
    case rel =>
      obtain ⟨t', n2, c2, k3, A2, L2, g1, g2, g3, g4, g5, g6, g7, g8, g9, g10⟩ := hend.out A' n' c' k' M x8 h8 hM hn8 hk8
      repeat apply Exists.intro
      first
        | exact ⟨g1, g2, g3, g4, g5, g6, g7, g8, g9, g10⟩
        | exact ⟨⟨g1, g2, g3, g4, g5, g6, g7, g8, g9, g10⟩, rfl⟩
        | trace_state
    case measure => simp [intOf]; omega
  clear hend
  have hpk := Lib.hid (pick_any b k2 pts xr hsr (by omega))
  replace hrow := Lib.hid hrow
  go_wp2_with fail
  refine hpk.out.mono ?_
  rintro e w3 ⟨pr, k3, rfl, hpr0, hpr1, _, hs3, hk3, hg3⟩
  have hpr2 := hpr1 (by omega)
  have hrow3 := own_grownF hrow.out hg3 hbl
  have hG3 := grown_tr hG hg3
  have hP3 : HB (w3.alloc (.cells #[.int .i64 39, .int .i64 pr] 32 (0, 0))) w3.heap.size 39 pr := heap_alloc_new w3 _
  have hb4 := Go.Joins.below_alloc1 w3 (.cells #[.int .i64 39, .int .i64 pr] 32 (0, 0))
  have hs4 := hs3.kept hb4 hs3.lt
  have hrow4 := own_below hrow3 hb4
  have hG4 := grown_then hG3 hb4
  have hz4 : (w3.alloc (.cells #[.int .i64 39, .int .i64 pr] 32 (0, 0))).heap.size = w3.heap.size + 1 := by simp
  have hnp : (Value.slice A n c).ownBlock ≠ some w3.heap.size := fun e => by have := (hrow3.lt _ e).2; omega
  have hlp := hG3.size
  clear hpr1 hpk hrow hsr hG hg3 hs3 hrow3 hb4
  go_upto_region 6 with fail
  generalize (w3.alloc (.cells #[.int .i64 39, .int .i64 pr] 32 (0, 0))) = w4 at *
  obtain ⟨bp, hbp⟩ : ∃ x, x = w3.heap.size := ⟨_, rfl⟩
  rw [← hbp] at hP3 hnp hlp hz4 ⊢
  clear hbp hG3
  have hpk := Lib.hid (pick_any b k3 pts w4 hs4 (by omega))
  go_wp2_with fail
  refine hpk.out.mono ?_
  rintro e w5 ⟨qr, k5, rfl, hqr0, hqr1, _, hs5, hk5, hg5⟩
  have hqr2 := hqr1 (by omega)
  have hrow5 := own_grownF hrow4 hg5 hbl
  have hP5 := hP3.grown hg5 (by intro e; injection e with e; omega)
  have hG5 := grown_tr hG4 hg5
  have hQ5 : HB (w5.alloc (.cells #[.int .i64 39, .int .i64 qr] 32 (0, 0))) w5.heap.size 39 qr := heap_alloc_new w5 _
  have hb6 := Go.Joins.below_alloc1 w5 (.cells #[.int .i64 39, .int .i64 qr] 32 (0, 0))
  have hnq : (Value.slice A n c).ownBlock ≠ some w5.heap.size := fun e => by have := (hrow5.lt _ e).2; omega
  have hlq := hG5.size
  have hf6 : Hid (FaSt w b bp w5.heap.size pr qr (w5.alloc (.cells #[.int .i64 39, .int .i64 qr] 32 (0, 0))) A n c L k5) :=
    Lib.hid ⟨hL, own_below hrow5 hb6, hs5.kept hb6 hs5.lt, hP5.below hb6, hQ5, hnp, hnq, grown_then hG5 hb6, hlp, hlq, hbl⟩
  clear hqr1 hpk hrow4 hs4 hG4 hg5 hs5 hrow5 hP3 hP5 hG5 hQ5 hb6 hnp hnq
  go_upto_region 7 with fail
  generalize (w5.alloc (.cells #[.int .i64 39, .int .i64 qr] 32 (0, 0))) = w6 at *
  obtain ⟨bq, hbq⟩ : ∃ x, x = w5.heap.size := ⟨_, rfl⟩
  rw [← hbq] at hf6 ⊢
  clear hbq hlq
  have hpk := Lib.hid (pickF hf6.out 16 (by omega))
  go_wp2_with fail
  refine hpk.out.mono ?_
  rintro e w7 ⟨z, k7, rfl, hz0, hz1, hf7, hk7⟩
  have hz16 := hz1 (by omega)
  replace hf7 := Lib.hid hf7
  clear hpk hf6 hz1
  have hgp := Lib.hid (vhPush (o := pr) (by omega))
  have hgq := Lib.hid (vhPush (o := qr) (by omega))
  go_upto_region 8 with fail
  by_cases z0 : z = 0
  · subst z0
    have hc := amongF hf7.out [16, 17] 2 rfl (by omega) (by omega) (by omega) w7.heap.size rfl
    simp only [List.map_cons, List.map_nil] at hc
    replace hc := Lib.hid hc
    go_wp2_with fail
    refine hc.out.mono ?_
    rintro e w8 ⟨r, k8, rfl, hrm, hf8, hk8⟩
    have hr : r = 16 ∨ r = 17 := by simpa using hrm
    replace hf8 := Lib.hid hf8
    clear hc hrm
    go_wp2_with (at_builtin; refine wpAppF rfl (.tmp 32) (.tmp 37) elemHint rfl hf8.out rfl [(r, 0)] rfl rfl rfl (by omega) ?_; intro A9 c9 x9 h9; replace h9 := Lib.hid h9)
    exact ⟨rfl, A9, _, c9, _, [(r, 0)], ⟨rfl, rfl, rfl, rfl, rfl, rfl, rfl, rfl, rfl, rfl, rfl, rfl, rfl, rfl, rfl, rfl⟩, ⟨bp, bq, pr, qr, h9.out⟩, (GoodH.cons (vh0 (by omega)) (by omega) (GoodH.nil _)), by omega, by omega⟩
  go_upto_region 10 with fail
  by_cases z1 : z = 1
  · subst z1
    have hc := Lib.hid (pickF hf7.out 6 (by omega))
    go_wp2_with fail
    refine hc.out.mono ?_
    rintro e w8 ⟨r, k8, rfl, hr0, hr1, hf8, hk8⟩
    have hr2 := hr1 (by omega)
    replace hf8 := Lib.hid hf8
    clear hc hr1
    go_wp2_with (at_builtin; refine wpAppF rfl (.tmp 41) (.tmp 45) elemHint rfl hf8.out rfl [(41, r)] rfl rfl rfl (by omega) ?_; intro A9 c9 x9 h9; replace h9 := Lib.hid h9)
    exact ⟨rfl, A9, _, c9, _, [(41, r)], ⟨rfl, rfl, rfl, rfl, rfl, rfl, rfl, rfl, rfl, rfl, rfl, rfl, rfl, rfl, rfl, rfl⟩, ⟨bp, bq, pr, qr, h9.out⟩, (GoodH.cons (vhState (by omega)) (by omega) (GoodH.nil _)), by omega, by omega⟩
  go_upto_region 12 with fail
  by_cases z2 : z = 2
  · subst z2
    have hc := amongF hf7.out.drew [23, 24, 18, 28, 29] 5 rfl (by omega) (by omega) (by omega) w7.heap.size rfl
    simp only [List.map_cons, List.map_nil] at hc
    replace hc := Lib.hid hc
    go_upto_region 13 with fail
    go_region_held3 (fun w' => w'.cell? ⟨bp, 0, none⟩ = some (.int .i64 39) ∧ w'.cell? ⟨bp, 1, none⟩ = some (.int .i64 pr)) (first | (with_reducible exact hf7.out.drew.sp) | (with_reducible exact (hf7.out.drew.alloc _).sp) | (with_reducible exact (hf7.out.alloc _).drew.sp) | (with_reducible exact hf8.out.sp) | (with_reducible exact (hf8.out.alloc _).sp) | (with_reducible exact h9.out.sp)) (first | (go_at_call 29; (refine hc.out.mono ?_); rintro e w8 ⟨r, k8, rfl, hrm, hf8, hk8⟩; have hr := mem5 hrm; replace hf8 := Lib.hid hf8; clear hrm) | (refine stepAppF rfl (.tmp 49) (.tmp 55) elemHint rfl hf8.out rfl [(39, pr), (r, 0)] rfl rfl rfl (by omega) ?_; intro A9 c9 x9 h9; replace h9 := Lib.hid h9; dsimp only))
    all_goals go_wp2_with fail
    exact ⟨rfl, A9, _, c9, _, [(39, pr), (r, 0)], ⟨rfl, rfl, rfl, rfl, rfl, rfl, rfl, rfl, rfl, rfl, rfl, rfl, rfl, rfl, rfl, rfl⟩, ⟨bp, bq, pr, qr, h9.out⟩, (GoodH.cons hgp.out (by omega) (GoodH.cons (vh0 (by omega)) (by omega) (GoodH.nil _))), by omega, by omega⟩
  go_upto_region 14 with fail
  by_cases z3 : z = 3
  · subst z3
    have hc := Lib.hid (pickF hf7.out.drew 600 (by omega))
    go_upto_region 15 with fail
    go_region_held3 (fun w' => w'.cell? ⟨bp, 0, none⟩ = some (.int .i64 39) ∧ w'.cell? ⟨bp, 1, none⟩ = some (.int .i64 pr)) (first | (with_reducible exact hf7.out.drew.sp) | (with_reducible exact (hf7.out.drew.alloc _).sp) | (with_reducible exact (hf7.out.alloc _).drew.sp) | (with_reducible exact hf8.out.sp) | (with_reducible exact (hf8.out.alloc _).sp) | (with_reducible exact h9.out.sp)) (first | (go_at_call 28; (with_reducible refine hc.out.mono ?_); rintro e w8 ⟨r, k8, rfl, hr0, hr1, hf8, hk8⟩; have hr2 := hr1 (by omega); replace hf8 := Lib.hid hf8; clear hr1; have q1 : IntKind.i64.wrap (r - 200) = r - 200 := IntWalk.i64_in _ (by omega)) | (refine stepAppF rfl (.tmp 59) (.tmp 65) elemHint rfl hf8.out rfl [(39, pr), (40, r - 200)] rfl rfl rfl (by omega) ?_; intro A9 c9 x9 h9; replace h9 := Lib.hid h9; dsimp only))
    have hc := amongF h9.out [21, 22] 2 rfl (by omega) (by omega) (by omega) x9.heap.size rfl
    simp only [List.map_cons, List.map_nil] at hc
    replace hc := Lib.hid hc
    go_wp2_with fail
    refine hc.out.mono ?_
    rintro e w10 ⟨rs, k10, rfl, hrm, hf10, hk10⟩
    have hrs : rs = 21 ∨ rs = 22 := by simpa using hrm
    replace hf10 := Lib.hid hf10
    clear hc hrm
    go_wp2_with (at_builtin; refine wpAppF rfl (.tmp 67) (.tmp 72) elemHint rfl hf10.out rfl [(rs, 0)] rfl rfl rfl (by omega) ?_; intro A11 c11 x11 h11; replace h11 := Lib.hid h11)
    exact ⟨rfl, A11, _, c11, _, ([(39, pr), (40, r - 200)] ++ [(rs, 0)]), ⟨rfl, rfl, rfl, rfl, rfl, rfl, rfl, rfl, rfl, rfl, rfl, rfl, rfl, rfl, rfl, rfl⟩, ⟨bp, bq, pr, qr, by have h := h11.out; simp only [List.append_assoc] at h; exact h⟩, (GoodH.app (GoodH.cons hgp.out (by omega) (GoodH.cons (vhWord (by omega)) (by omega) (GoodH.nil _))) (GoodH.cons (vh0 (by omega)) (by omega) (GoodH.nil _))), by omega, by omega⟩
  go_upto_region 17 with fail
  by_cases z4 : z = 4
  · subst z4
    have hc := Lib.hid (pickF hf7.out.drew pts (by omega))
    go_upto_region 18 with fail
    go_region_held3 (fun w' => (w'.cell? ⟨bp, 0, none⟩ = some (.int .i64 39) ∧ w'.cell? ⟨bp, 1, none⟩ = some (.int .i64 pr)) ∧ w'.cell? ⟨bq, 0, none⟩ = some (.int .i64 39) ∧ w'.cell? ⟨bq, 1, none⟩ = some (.int .i64 qr)) (first | (with_reducible exact hf7.out.drew.spq) | (with_reducible exact (hf7.out.drew.alloc _).spq) | (with_reducible exact (hf7.out.alloc _).drew.spq) | (with_reducible exact hf8.out.spq) | (with_reducible exact (hf8.out.alloc _).spq) | (with_reducible exact h9.out.spq)) (first | (go_at_call 28; (with_reducible refine hc.out.mono ?_); rintro e w8 ⟨r, k8, rfl, hr0, hr1, hf8, hk8⟩; have hr2 := hr1 (by omega); replace hf8 := Lib.hid hf8; clear hr1) | (refine stepAppF rfl (.tmp 76) (.tmp 84) elemHint rfl hf8.out rfl [(39, pr), (39, qr), (39, r), (26, 0)] rfl rfl rfl (by omega) ?_; intro A9 c9 x9 h9; replace h9 := Lib.hid h9; dsimp only))
    all_goals go_wp2_with fail
    exact ⟨rfl, A9, _, c9, _, [(39, pr), (39, qr), (39, r), (26, 0)], ⟨rfl, rfl, rfl, rfl, rfl, rfl, rfl, rfl, rfl, rfl, rfl, rfl, rfl, rfl, rfl, rfl⟩, ⟨bp, bq, pr, qr, h9.out⟩, (GoodH.cons hgp.out (by omega) (GoodH.cons hgq.out (by omega) (GoodH.cons (vhPush (by omega)) (by omega) (GoodH.cons (vh0 (by omega)) (by omega) (GoodH.nil _))))), by omega, by omega⟩
  go_upto_region 19 with fail
  by_cases z5 : z = 5
  · subst z5
    go_wp2_with (at_builtin; refine wpAppF rfl (.tmp 88) (.tmp 90) elemHint rfl hf7.out rfl [(27, 0)] rfl rfl rfl (by omega) ?_; intro A8 c8 x8 h8; replace h8 := Lib.hid h8)
    exact ⟨rfl, A8, _, c8, _, [(27, 0)], ⟨rfl, rfl, rfl, rfl, rfl, rfl, rfl, rfl, rfl, rfl, rfl, rfl, rfl, rfl, rfl, rfl⟩, ⟨bp, bq, pr, qr, h8.out⟩, (GoodH.cons (vh0 (by omega)) (by omega) (GoodH.nil _)), by omega, by omega⟩
  go_upto_region 21 with fail
  by_cases z6 : z = 6
  · subst z6
    have hc := Lib.hid (pickF hf7.out.drew 4 (by omega))
    go_upto_region 22 with fail
    go_region_held3 (fun w' => w'.cell? ⟨bp, 0, none⟩ = some (.int .i64 39) ∧ w'.cell? ⟨bp, 1, none⟩ = some (.int .i64 pr)) (first | (with_reducible exact hf7.out.drew.sp) | (with_reducible exact (hf7.out.drew.alloc _).sp) | (with_reducible exact (hf7.out.alloc _).drew.sp) | (with_reducible exact hf8.out.sp) | (with_reducible exact (hf8.out.alloc _).sp) | (with_reducible exact h9.out.sp)) (first | (go_at_call 28; (with_reducible refine hc.out.mono ?_); rintro e w8 ⟨r, k8, rfl, hr0, hr1, hf8, hk8⟩; have hr2 := hr1 (by omega); replace hf8 := Lib.hid hf8; clear hr1) | (refine stepAppF rfl (.tmp 94) (.tmp 100) elemHint rfl hf8.out rfl [(39, pr), (39, r), (25, 0)] rfl rfl rfl (by omega) ?_; intro A9 c9 x9 h9; replace h9 := Lib.hid h9; dsimp only))
    all_goals go_wp2_with fail
    exact ⟨rfl, A9, _, c9, _, [(39, pr), (39, r), (25, 0)], ⟨rfl, rfl, rfl, rfl, rfl, rfl, rfl, rfl, rfl, rfl, rfl, rfl, rfl, rfl, rfl, rfl⟩, ⟨bp, bq, pr, qr, h9.out⟩, (GoodH.cons hgp.out (by omega) (GoodH.cons (vhPush (by omega)) (by omega) (GoodH.cons (vh0 (by omega)) (by omega) (GoodH.nil _)))), by omega, by omega⟩
  go_upto_region 23 with fail
  by_cases z7 : z = 7
  · subst z7
    have hc := Lib.hid (pickF hf7.out.drew 10 (by omega))
    go_upto_region 24 with fail
    go_region_held3 (fun w' => (w'.cell? ⟨bp, 0, none⟩ = some (.int .i64 39) ∧ w'.cell? ⟨bp, 1, none⟩ = some (.int .i64 pr)) ∧ w'.cell? ⟨bq, 0, none⟩ = some (.int .i64 39) ∧ w'.cell? ⟨bq, 1, none⟩ = some (.int .i64 qr)) (first | (with_reducible exact hf7.out.drew.spq) | (with_reducible exact (hf7.out.drew.alloc _).spq) | (with_reducible exact (hf7.out.alloc _).drew.spq) | (with_reducible exact hf8.out.spq) | (with_reducible exact (hf8.out.alloc _).spq) | (with_reducible exact h9.out.spq)) (first | (go_at_call 28; (with_reducible refine hc.out.mono ?_); rintro e w8 ⟨r, k8, rfl, hr0, hr1, hf8, hk8⟩; have hr2 := hr1 (by omega); replace hf8 := Lib.hid hf8; clear hr1; have q1 : IntKind.i64.wrap (4 + r) = 4 + r := IntWalk.i64_in _ (by omega)) | (refine stepAppF rfl (.tmp 104) (.tmp 115) elemHint rfl hf8.out rfl [(39, pr), (19, 0), (39, qr), (20, 0), (4 + r, 0), (15, 0), (1, 0)] rfl rfl rfl (by omega) ?_; intro A9 c9 x9 h9; replace h9 := Lib.hid h9; dsimp only))
    all_goals go_wp2_with fail
    exact ⟨rfl, A9, _, c9, _, [(39, pr), (19, 0), (39, qr), (20, 0), (4 + r, 0), (15, 0), (1, 0)], ⟨rfl, rfl, rfl, rfl, rfl, rfl, rfl, rfl, rfl, rfl, rfl, rfl, rfl, rfl, rfl, rfl⟩, ⟨bp, bq, pr, qr, h9.out⟩, (GoodH.cons hgp.out (by omega) (GoodH.cons (vh0 (by omega)) (by omega) (GoodH.cons hgq.out (by omega) (GoodH.cons (vh0 (by omega)) (by omega) (GoodH.cons (vh0 (by omega)) (by omega) (GoodH.cons (vh0 (by omega)) (by omega) (GoodH.cons (vh0 (by omega)) (by omega) (GoodH.nil _)))))))), by omega, by omega⟩
  go_upto_region 25 with fail
  by_cases z8 : z = 8
  · subst z8
    have hc := amongF hf7.out [42, 43] 2 rfl (by omega) (by omega) (by omega) w7.heap.size rfl
    simp only [List.map_cons, List.map_nil] at hc
    replace hc := Lib.hid hc
    go_wp2_with fail
    refine hc.out.mono ?_
    rintro e w8 ⟨r, k8, rfl, hrm, hf8, hk8⟩
    have hr : r = 42 ∨ r = 43 := by simpa using hrm
    replace hf8 := Lib.hid hf8
    clear hc hrm
    have hH9 : HB (w8.alloc (.cells #[.int .i64 r, .int .i64 0] 32 (0, 0))) w8.heap.size r 0 := heap_alloc_new w8 _
    have hf9 := Lib.hid (hf8.out.alloc (.cells #[.int .i64 r, .int .i64 0] 32 (0, 0)))
    have hz9 : (w8.alloc (.cells #[.int .i64 r, .int .i64 0] 32 (0, 0))).heap.size = w8.heap.size + 1 := by simp
    have hl1 := hf8.out.hp.lt
    have hl2 := hf8.out.hq.lt
    have hl3 := hf8.out.size
    have hl4 : (Value.slice A n c).ownBlock ≠ some w8.heap.size := fun e => by have := (hf8.out.row.lt _ e).2; omega
    go_upto_region 27 with fail
    generalize (w8.alloc (.cells #[.int .i64 r, .int .i64 0] 32 (0, 0))) = w9 at *
    obtain ⟨bh, hbh⟩ : ∃ x, x = w8.heap.size := ⟨_, rfl⟩
    rw [← hbh] at hH9 hz9 hl1 hl2 hl3 hl4 ⊢
    clear hbh hf8
    have hc := Lib.hid (pick_any b k8 100 w9 hf9.out.src (by omega))
    go_wp2_with fail
    refine hc.out.mono ?_
    rintro e w10 ⟨rs, k10, rfl, hr0s, hr1s, _, hs10, hk10, hg10⟩
    have hr2s := hr1s (by omega)
    have hf10 := Lib.hid (hf9.out.grown hg10 hs10)
    have hH10 := hH9.grown hg10 (by intro e; injection e with e; omega)
    obtain ⟨q0, q1, qf, ql⟩ := hH10.cells
    have hH11 : HB (w10.setCell ⟨bh, 1, none⟩ (.int .i64 rs)) bh r rs := Go.Joins.block_setCell hH10 (.int .i64 rs)
    have hf11 := Lib.hid (hf10.out.set (x := bh) (o := 1) (v := .int .i64 rs) hl3 hl4 (by omega) (by omega))
    clear hc hr1s hs10 hg10
    go_upto_region 28 with fail
    generalize (w10.setCell ⟨bh, 1, none⟩ (.int .i64 rs)) = w11 at *
    clear q0 q1 qf ql hH10
    obtain ⟨q0, q1, _, ql⟩ := hH11.cells
    go_wp2_with (at_builtin; refine wpAppF rfl (.tmp 126) (.tmp 128) elemHint rfl hf11.out rfl [(r, rs)] rfl rfl rfl (by omega) ?_; intro A12 c12 x12 h12; replace h12 := Lib.hid h12)
    exact ⟨rfl, A12, _, c12, _, [(r, rs)], ⟨rfl, rfl, rfl, rfl, rfl, rfl, rfl, rfl, rfl, rfl, rfl, rfl, rfl, rfl, rfl, rfl⟩, ⟨bp, bq, pr, qr, h12.out⟩, (GoodH.cons (vhCut hr (by omega)) (by omega) (GoodH.nil _)), by omega, by omega⟩
  go_upto_region 29 with fail
  by_cases z9 : z = 9
  · subst z9
    have hc := Lib.hid (pickF hf7.out.drew 9 (by omega))
    go_upto_region 30 with fail
    go_region_held3 (fun w' => w'.cell? ⟨bp, 0, none⟩ = some (.int .i64 39) ∧ w'.cell? ⟨bp, 1, none⟩ = some (.int .i64 pr)) (first | (with_reducible exact hf7.out.drew.sp) | (with_reducible exact (hf7.out.drew.alloc _).sp) | (with_reducible exact (hf7.out.alloc _).drew.sp) | (with_reducible exact hf8.out.sp) | (with_reducible exact (hf8.out.alloc _).sp) | (with_reducible exact h9.out.sp)) (first | (go_at_call 28; (with_reducible refine hc.out.mono ?_); rintro e w8 ⟨r, k8, rfl, hr0, hr1, hf8, hk8⟩; have hr2 := hr1 (by omega); replace hf8 := Lib.hid hf8; clear hr1; have q1 : IntKind.i64.wrap (r - 4) = r - 4 := IntWalk.i64_in _ (by omega)) | (refine stepAppF rfl (.tmp 132) (.tmp 140) elemHint rfl hf8.out rfl [(39, pr), (32, 0), (39, r - 4), (34, 0)] rfl rfl rfl (by omega) ?_; intro A9 c9 x9 h9; replace h9 := Lib.hid h9; dsimp only))
    all_goals go_wp2_with fail
    exact ⟨rfl, A9, _, c9, _, [(39, pr), (32, 0), (39, r - 4), (34, 0)], ⟨rfl, rfl, rfl, rfl, rfl, rfl, rfl, rfl, rfl, rfl, rfl, rfl, rfl, rfl, rfl, rfl⟩, ⟨bp, bq, pr, qr, h9.out⟩, (GoodH.cons hgp.out (by omega) (GoodH.cons (vh0 (by omega)) (by omega) (GoodH.cons (vhPush (by omega)) (by omega) (GoodH.cons (vh0 (by omega)) (by omega) (GoodH.nil _))))), by omega, by omega⟩
  go_upto_region 31 with fail
  by_cases z10 : z = 10
  · subst z10
    have hc := Lib.hid (pickF hf7.out 3 (by omega))
    go_wp2_with fail
    refine hc.out.mono ?_
    rintro e w8 ⟨r, k8, rfl, hr0, hr1, hf8, hk8⟩
    have hr2 := hr1 (by omega)
    replace hf8 := Lib.hid hf8
    clear hc hr1
    go_wp2_with (at_builtin; refine wpAppF rfl (.tmp 144) (.tmp 149) elemHint rfl hf8.out rfl [(39, r), (30, 0)] rfl rfl rfl (by omega) ?_; intro A9 c9 x9 h9; replace h9 := Lib.hid h9)
    have hc := Lib.hid (pickF h9.out 2 (by omega))
    go_wp2_with fail
    refine hc.out.mono ?_
    rintro e w10 ⟨rs, k10, rfl, hr0s, hr1s, hf10, hk10⟩
    have hr2s := hr1s (by omega)
    replace hf10 := Lib.hid hf10
    clear hc hr1s
    have q1 : IntKind.i64.wrap (14 + rs) = 14 + rs := IntWalk.i64_in _ (by omega)
    go_wp2_with (at_builtin; refine wpAppF rfl (.tmp 151) (.tmp 156) elemHint rfl hf10.out rfl [(14 + rs, 0)] rfl rfl rfl (by omega) ?_; intro A11 c11 x11 h11; replace h11 := Lib.hid h11)
    exact ⟨rfl, A11, _, c11, _, ([(39, r), (30, 0)] ++ [(14 + rs, 0)]), ⟨rfl, rfl, rfl, rfl, rfl, rfl, rfl, rfl, rfl, rfl, rfl, rfl, rfl, rfl, rfl, rfl⟩, ⟨bp, bq, pr, qr, by have h := h11.out; simp only [List.append_assoc] at h; exact h⟩, (GoodH.app (GoodH.cons (vhPush (by omega)) (by omega) (GoodH.cons (vh0 (by omega)) (by omega) (GoodH.nil _))) (GoodH.cons (vh0 (by omega)) (by omega) (GoodH.nil _))), by omega, by omega⟩
  go_upto_region 34 with fail
  by_cases z11 : z = 11
  · subst z11
    by_cases hd0 : 0 < dd
    · have hD3 : DP < 3 := by have := hDP.out; omega
      have qD : IntKind.i64.wrap (DP + 1) = DP + 1 := IntWalk.i64_in _ (by have := hDP.out; omega)
      have hc := Lib.hid (pickF hf7.out 2 (by omega))
      go_wp2_with fail
      refine hc.out.mono ?_
      rintro e w8 ⟨r, k8, rfl, hr0, hr1, hf8, hk8⟩
      have hr2 := hr1 (by omega)
      replace hf8 := Lib.hid hf8
      clear hc hr1
      go_wp2_with (at_builtin; refine wpAppF rfl (.tmp 162) (.tmp 167) elemHint rfl hf8.out rfl [(39, r), (35, 0)] rfl rfl rfl (by omega) ?_; intro A9 c9 x9 h9; replace h9 := Lib.hid h9)
      have hrc := Lib.hid (hrec.out hd0 b k8 x9 h9.out.src (by omega))
      go_wp2_with fail
      refine hrc.out.mono ?_
      rintro e w10 ⟨RA, rn, rc, NL, k10, rfl, hNl, hrw, hNv, hNb, hrn, hs10, hk10, hg10⟩
      have hf10 := Lib.hid (h9.out.grown hg10 hs10)
      have hsrc := Lib.hid (src_own hrw (hintCells_one NL))
      have hgN : GoodH (dd - 1) NL := ⟨hNv, hNb⟩
      clear hrc hrw hNv hNb hs10 hg10
      replace hNl := Lib.hid hNl
      replace hgN := Lib.hid hgN
      go_wp2_with (at_builtin; refine wpAppR rfl (.tmp 169) (.tmp 174) elemHint rfl hf10.out rfl NL rfl hsrc.out hNl.out (by omega) ?_; intro A11 c11 x11 h11; replace h11 := Lib.hid h11)
      have hone := Lib.hid (oneF h11.out 2 (by omega))
      go_wp2_with fail
      refine hone.out.mono ?_
      rintro e w12 ⟨tb, k12, rfl, hf12, hk12⟩
      replace hf12 := Lib.hid hf12
      clear hone
      cases tb with
      | true =>
        obtain ⟨s0, s1, _, sl⟩ := hf12.out.hp.cells
        go_wp2_with (first | (at_builtin; refine wpAppF rfl (.tmp 178) (.tmp 182) elemHint rfl hf12.out rfl [(36, 0), (39, pr), (23, 0)] rfl rfl rfl (by omega) ?_; intro A13 c13 x13 h13; replace h13 := Lib.hid h13) | (at_builtin; refine wpAppF rfl (.tmp 184) (.tmp 186) elemHint rfl h13.out rfl [(37, 0)] rfl rfl rfl (by omega) ?_; intro A14 c14 x14 h14; replace h14 := Lib.hid h14))
        exact ⟨rfl, A14, _, c14, _, ((([(39, r), (35, 0)] ++ NL) ++ [(36, 0), (39, pr), (23, 0)]) ++ [(37, 0)]), ⟨rfl, rfl, rfl, rfl, rfl, rfl, rfl, rfl, rfl, rfl, rfl, rfl, rfl, rfl, rfl, rfl⟩, ⟨bp, bq, pr, qr, by have h := h14.out; simp only [List.append_assoc] at h ⊢; exact h⟩, (by have h := good_ife (r := r) (p := pr) (by omega) (by omega) hgN.out; rw [show dd - 1 + 1 = dd by omega] at h; exact h), by omega, by omega⟩
      | false =>
        go_wp2_with (at_builtin; refine wpAppF rfl (.tmp 184) (.tmp 186) elemHint rfl hf12.out rfl [(37, 0)] rfl rfl rfl (by omega) ?_; intro A14 c14 x14 h14; replace h14 := Lib.hid h14)
        exact ⟨rfl, A14, _, c14, _, (([(39, r), (35, 0)] ++ NL) ++ [(37, 0)]), ⟨rfl, rfl, rfl, rfl, rfl, rfl, rfl, rfl, rfl, rfl, rfl, rfl, rfl, rfl, rfl, rfl⟩, ⟨bp, bq, pr, qr, by have h := h14.out; simp only [List.append_assoc] at h ⊢; exact h⟩, (by have h := good_if (r := r) (by omega) hgN.out; rw [show dd - 1 + 1 = dd by omega] at h; exact h), by omega, by omega⟩
    · have hD3 : ¬ DP < 3 := by have := hDP.out; omega
      go_wp2_with fail
      exact ⟨rfl, A, _, c, _, [], ⟨rfl, rfl, rfl, rfl, rfl, rfl, rfl, rfl, rfl, rfl, rfl, rfl, rfl, rfl, rfl, rfl⟩, ⟨bp, bq, pr, qr, by rw [List.append_nil]; exact hf7.out⟩, GoodH.nil _, by omega, by omega⟩
  go_upto_region 41 with fail
  by_cases z12 : z = 12
  · subst z12
    by_cases hd0 : 0 < dd
    · have hD3 : DP < 3 := by have := hDP.out; omega
      have qD : IntKind.i64.wrap (DP + 1) = DP + 1 := IntWalk.i64_in _ (by have := hDP.out; omega)
      have hc := Lib.hid (pickF hf7.out 4 (by omega))
      go_wp2_with fail
      refine hc.out.mono ?_
      rintro e w8 ⟨r, k8, rfl, hr0, hr1, hf8, hk8⟩
      have hr2 := hr1 (by omega)
      replace hf8 := Lib.hid hf8
      clear hc hr1
      go_wp2_with (at_builtin; refine wpAppF rfl (.tmp 192) (.tmp 196) elemHint rfl hf8.out rfl [(44, r)] rfl rfl rfl (by omega) ?_; intro A9 c9 x9 h9; replace h9 := Lib.hid h9)
      have hrc := Lib.hid (hrec.out hd0 b k8 x9 h9.out.src (by omega))
      go_wp2_with fail
      refine hrc.out.mono ?_
      rintro e w10 ⟨RA, rn, rc, NL, k10, rfl, hNl, hrw, hNv, hNb, hrn, hs10, hk10, hg10⟩
      have hf10 := Lib.hid (h9.out.grown hg10 hs10)
      have hsrc := Lib.hid (src_own hrw (hintCells_one NL))
      have hgN : GoodH (dd - 1) NL := ⟨hNv, hNb⟩
      clear hrc hrw hNv hNb hs10 hg10
      replace hNl := Lib.hid hNl
      replace hgN := Lib.hid hgN
      go_wp2_with (first | (at_builtin; refine wpAppR rfl (.tmp 198) (.tmp 203) elemHint rfl hf10.out rfl NL rfl hsrc.out hNl.out (by omega) ?_; intro A11 c11 x11 h11; replace h11 := Lib.hid h11) | (at_builtin; refine wpAppF rfl (.tmp 205) (.tmp 207) elemHint rfl h11.out rfl [(38, 0)] rfl rfl rfl (by omega) ?_; intro A12 c12 x12 h12; replace h12 := Lib.hid h12))
      exact ⟨rfl, A12, _, c12, _, (([(44, r)] ++ NL) ++ [(38, 0)]), ⟨rfl, rfl, rfl, rfl, rfl, rfl, rfl, rfl, rfl, rfl, rfl, rfl, rfl, rfl, rfl, rfl⟩, ⟨bp, bq, pr, qr, by have h := h12.out; simp only [List.append_assoc] at h ⊢; exact h⟩, (by have h := good_rep (r := r) (by omega) hgN.out; rw [show dd - 1 + 1 = dd by omega] at h; exact h), by omega, by omega⟩
    · have hD3 : ¬ DP < 3 := by have := hDP.out; omega
      go_wp2_with fail
      exact ⟨rfl, A, _, c, _, [], ⟨rfl, rfl, rfl, rfl, rfl, rfl, rfl, rfl, rfl, rfl, rfl, rfl, rfl, rfl, rfl, rfl⟩, ⟨bp, bq, pr, qr, by rw [List.append_nil]; exact hf7.out⟩, GoodH.nil _, by omega, by omega⟩
  go_upto_region 46 with fail
  by_cases z13 : z = 13
  · subst z13
    have hc := Lib.hid (pickF hf7.out.drew 35 (by omega))
    go_upto_region 47 with fail
    go_region_held3 (fun w' => w'.cell? ⟨bp, 0, none⟩ = some (.int .i64 39) ∧ w'.cell? ⟨bp, 1, none⟩ = some (.int .i64 pr)) (first | (with_reducible exact hf7.out.drew.sp) | (with_reducible exact (hf7.out.drew.alloc _).sp) | (with_reducible exact (hf7.out.alloc _).drew.sp) | (with_reducible exact hf8.out.sp) | (with_reducible exact (hf8.out.alloc _).sp) | (with_reducible exact h9.out.sp)) (first | (go_at_call 28; (with_reducible refine hc.out.mono ?_); rintro e w8 ⟨r, k8, rfl, hr0, hr1, hf8, hk8⟩; have hr2 := hr1 (by omega); replace hf8 := Lib.hid hf8; clear hr1) | (refine stepAppF rfl (.tmp 211) (.tmp 216) elemHint rfl hf8.out rfl [(39, pr), (r, 0)] rfl rfl rfl (by omega) ?_; intro A9 c9 x9 h9; replace h9 := Lib.hid h9; dsimp only))
    all_goals go_wp2_with fail
    exact ⟨rfl, A9, _, c9, _, [(39, pr), (r, 0)], ⟨rfl, rfl, rfl, rfl, rfl, rfl, rfl, rfl, rfl, rfl, rfl, rfl, rfl, rfl, rfl, rfl⟩, ⟨bp, bq, pr, qr, h9.out⟩, (GoodH.cons hgp.out (by omega) (GoodH.cons (vh0 (by omega)) (by omega) (GoodH.nil _))), by omega, by omega⟩
  go_upto_region 48 with fail
  by_cases z14 : z = 14
  · subst z14
    have hc := Lib.hid (pickF hf7.out.drew 3 (by omega))
    go_upto_region 49 with fail
    go_region_held3 (fun w' => w'.cell? ⟨bq, 0, none⟩ = some (.int .i64 39) ∧ w'.cell? ⟨bq, 1, none⟩ = some (.int .i64 qr)) (first | (with_reducible exact hf7.out.drew.sq) | (with_reducible exact (hf7.out.drew.alloc _).sq) | (with_reducible exact (hf7.out.alloc _).drew.sq) | (with_reducible exact hf8.out.sq) | (with_reducible exact (hf8.out.alloc _).sq) | (with_reducible exact h9.out.sq)) (first | (go_at_call 28; (with_reducible refine hc.out.mono ?_); rintro e w8 ⟨r, k8, rfl, hr0, hr1, hf8, hk8⟩; have hr2 := hr1 (by omega); replace hf8 := Lib.hid hf8; clear hr1) | (refine stepAppF rfl (.tmp 220) (.tmp 226) elemHint rfl hf8.out rfl [(39, r), (39, qr), (31, 0)] rfl rfl rfl (by omega) ?_; intro A9 c9 x9 h9; replace h9 := Lib.hid h9; dsimp only))
    all_goals go_wp2_with fail
    exact ⟨rfl, A9, _, c9, _, [(39, r), (39, qr), (31, 0)], ⟨rfl, rfl, rfl, rfl, rfl, rfl, rfl, rfl, rfl, rfl, rfl, rfl, rfl, rfl, rfl, rfl⟩, ⟨bp, bq, pr, qr, h9.out⟩, (GoodH.cons (vhPush (by omega)) (by omega) (GoodH.cons hgq.out (by omega) (GoodH.cons (vh0 (by omega)) (by omega) (GoodH.nil _)))), by omega, by omega⟩
  obtain rfl : z = 15 := by omega
  obtain ⟨s0, s1, _, sl⟩ := hf7.out.hp.cells
  obtain ⟨u0, u1, _, ul⟩ := hf7.out.hq.cells
  go_wp2_with (at_builtin; refine wpAppF rfl (.tmp 230) (.tmp 236) elemHint rfl hf7.out rfl [(39, pr), (23, 0), (39, qr), (24, 0), (27, 0)] rfl rfl rfl (by omega) ?_; intro A8 c8 x8 h8; replace h8 := Lib.hid h8)
  exact ⟨rfl, A8, _, c8, _, [(39, pr), (23, 0), (39, qr), (24, 0), (27, 0)], ⟨rfl, rfl, rfl, rfl, rfl, rfl, rfl, rfl, rfl, rfl, rfl, rfl, rfl, rfl, rfl, rfl⟩, ⟨bp, bq, pr, qr, h8.out⟩, (GoodH.cons hgp.out (by omega) (GoodH.cons (vh0 (by omega)) (by omega) (GoodH.cons hgq.out (by omega) (GoodH.cons (vh0 (by omega)) (by omega) (GoodH.cons (vh0 (by omega)) (by omega) (GoodH.nil _)))))), by omega, by omega⟩
end Go.Proofs.YtpmpbfkpiocleaaDoor

