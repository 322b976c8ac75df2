/- The start of the hint machine: the points of an outline, a scaled point, slices.Clone at points. Conditions: as each states. -/
import Derived.Test.YtgngcllodofimaaSt1
import Derived.Test.YtgngcllodofimaaClone
import Derived.StillTailTactics
namespace Go.Proofs.Ytgngcllodofimaa
open Go.RowKit
set_option linter.unusedVariables false
set_option maxRecDepth 100000

def scQ (s u : Int) (p : Int × Int) : Int × Int := (rnd (p.1 * s * 64) u, rnd (p.2 * s * 64) u)
theorem ask_in {s u v a : Int} (h : askB a s u = true) (h1 : -262144 ≤ v) (h2 : v ≤ 262144) : askB v s u = true := by
  simp only [askB, Bool.and_eq_true] at h
  exact askB_of (inB_iff.2 ⟨h1, h2⟩) h.1.2 h.2
def ptL (K : List Knot) : List (Int × Int) := K.map fun k => (k.1, k.2.1)
def knotPts (Ls : List (List Knot)) : List (Int × Int) := Ls.flatMap ptL
theorem knotPts_step {Ls : List (List Knot)} {k : Nat} {K : List Knot} (h : Ls[k]? = some K) : knotPts (Ls.take (k + 1)) = knotPts (Ls.take k) ++ ptL K := by
  unfold knotPts
  rw [List.take_add_one, h]
  simp
theorem ptL_step {K : List Knot} {q : Nat} {p : Knot} (h : K[q]? = some p) : ptL (K.take (q + 1)) = ptL (K.take q) ++ [(p.1, p.2.1)] := by
  unfold ptL
  rw [List.take_add_one, h]
  simp
theorem knotPts_len (Ls : List (List Knot)) (k : Nat) : (knotPts (Ls.take k)).length = sumK Ls k := by
  unfold knotPts sumK
  rw [List.length_flatMap]
  congr 1
  apply List.map_congr_left
  intro K _
  simp [ptL]
theorem pt_one (a : Int × Int) : ∀ u ∈ ptC a, u.oneCell' = true := by
  intro u hu; simp [ptC] at hu; rcases hu with rfl | rfl <;> rfl

set_option maxHeartbeats 2000000 in
theorem l20Knots_any (X : Nat) (A : Option Addr) (n c lo hi : Nat) (Ls : List (List Knot)) (w : World) (hX : X < w.heap.size) (hcell : w.cell? ⟨X, 0, none⟩ = some (.slice A n c)) (hr : OutRd w lo hi A n Ls) (hhi : hi ≤ w.heap.size) (hn : n ≤ 12) (hK : ∀ K ∈ Ls, K.length ≤ 60) :
    Calls Try.prog 159 #[.pointer (some ⟨X, 0, none⟩)] w fun e w' => ∃ A' c', e = .returned (.slice A' (sumK Ls n) c') ∧ w'.ownsRow w.heap.size 25 2 (.slice A' (sumK Ls n) c') (sumK Ls n) ((knotPts Ls).flatMap ptC) ∧ Below w.heap.size w w' := by
  have hll := Lib.hid hr.1
  have hown0 : (w.alloc (.cells #[] 25)).ownsRow w.heap.size 25 2 (.slice (some ⟨w.heap.size, 0, none⟩) 0 0) 0 [] := World.ownsRow_made w #[] 0 (Nat.le_refl _) (Nat.zero_le _) rfl
  replace hr := Lib.hid hr
  replace hK := Lib.hid hK
  go_enter Try.func159, Try.ntmps159
  go_wp2_with fail
  go_loopw [3, 4] (fun ov i wr => ∃ (k : Nat) (B : Option Addr) (cb : Nat), i = .int .i64 k ∧ k ≤ n ∧ ov = .slice B (sumK Ls k) cb ∧ wr.ownsRow w.heap.size 25 2 (.slice B (sumK Ls k) cb) (sumK Ls k) ((knotPts (Ls.take k)).flatMap ptC) ∧ Below w.heap.size w wr) (fun ov i wr => n - (intOf i).toNat)
  case atStart => exact ⟨0, _, _, rfl, Nat.zero_le _, rfl, hown0, (Below.refl _ _).alloc (Nat.le_refl _) _⟩
  case round =>
    clear hown0
    obtain ⟨k, B, cb, rfl, hk, rfl, hown, hbel⟩ := hrel
    have hz := hbel.size
    have o0 : wr.cell? ⟨X, 0, none⟩ = some (.slice A n c) := (hbel.cell (by simp; omega)).trans hcell
    have hXr : X < wr.heap.size := by omega
    replace hown := Lib.hid hown
    by_cases hlt : k < n
    · obtain ⟨b1, off1, K, A2, n2, c2, rfl, hb10, hb1h, hja, qk, hmx, hrk⟩ := out_at hr.out hlt
      have hn2 := hrk.1
      subst hn2
      have hb1w : b1 < wr.heap.size := by omega
      have qkr : wr.cell? ⟨b1, off1 + k, none⟩ = some (.slice A2 K.length c2) := (hbel.cell (by simp; omega)).trans qk
      have hKl := hK.out K (List.mem_of_getElem? hja)
      have hs1 := Lib.hid (sumK_step hja)
      have hs0 := sumK_le hK.out k
      have hst := Lib.hid (knotPts_step hja)
      replace hja := Lib.hid hja
      replace hrk := Lib.hid hrk
      clear hmx hb10
      go_wp2_with fail
      go_loopw [3, 5] (fun ov i wi => ∃ (q : Nat) (Al : Option Addr) (cl : Nat), i = .int .i64 q ∧ q ≤ K.length ∧ ov = .slice Al ((sumK Ls k + q : Nat)) cl ∧ wi.ownsRow w.heap.size 25 2 (.slice Al (sumK Ls k + q) cl) (sumK Ls k + q) ((knotPts (Ls.take k) ++ ptL (K.take q)).flatMap ptC) ∧ Below w.heap.size w wi) (fun ov i wi => K.length - (intOf i).toNat)
      case atStart => exact ⟨0, B, cb, rfl, Nat.zero_le _, rfl, by simpa [ptL] using hown.out, hbel⟩
      case round =>
        clear qkr hb1w hXr o0 hz hbel hown
        obtain ⟨q, Al, cl, rfl, hq, rfl, ho, hbi⟩ := hrel
        have hzi := hbi.size
        have hXi : X < wr.heap.size := by omega
        have hb1i : b1 < wr.heap.size := by omega
        have o0i : wr.cell? ⟨X, 0, none⟩ = some (.slice (some ⟨b1, off1, none⟩) n c) := (hbi.cell (by simp; omega)).trans hcell
        have qki : wr.cell? ⟨b1, off1 + k, none⟩ = some (.slice A2 K.length c2) := (hbi.cell (by simp; omega)).trans qk
        replace ho := Lib.hid ho
        by_cases hql : q < K.length
        · obtain ⟨b2, off2, p, rfl, hb20, hb2h, hp, hcs⟩ := (hrk.out.frame (good_flat _) (Below.sameB hbi hhi)).at hql
          have p0 := hcs 0 _ rfl
          have p1 := hcs 1 _ rfl
          simp only [Nat.add_zero] at p0 p1
          have hb2i : b2 < wr.heap.size := by omega
          have hps := Lib.hid (ptL_step hp)
          obtain ⟨x, y, z⟩ := p
          dsimp only at p0 p1
          replace hp := Lib.hid hp
          clear hcs hb20 hb2h
          go_wp2_with (at_builtin; refine wpApp rfl (.tmp 29) (.tmp 42) elemPt rfl (v := .slice Al (sumK Ls k + q) cl) (n := sumK Ls k + q) (xs := ((knotPts (Ls.take k) ++ ptL (K.take q)).flatMap ptC)) rfl (ho.out.alloc _) rfl (src_at (cs := [.int .i64 x, .int .i64 y]) rfl (by simp [Value.oneCell']) (by simp)) (by omega) (by omega) (by simp; omega) (sumK Ls k + (q + 1)) (by omega) ?_; intro A' c' w5 hown5 hb5; replace hown5 := Lib.hid hown5)
          have hbel5 := (hbi.alloc hzi _).trans hb5
          clear hb5
          go_roundw
          case rel => exact ⟨q + 1, A', c', by go_num, by omega, rfl, by rw [hps.out, ← List.append_assoc, List.flatMap_append]; exact hown5.out, hbel5⟩
          case measure => simp [intOf]; omega
        · have hqn : q = K.length := by omega
          have hfin := ho.out
          rw [hqn, List.take_length, ← hs1.out, ← hst.out] at hfin
          have he : sumK Ls k + q = sumK Ls (k + 1) := by rw [hqn, hs1.out]
          replace hfin := Lib.hid hfin
          replace he := Lib.hid he
          clear ho
          replace hqn := Lib.hid hqn
          go_wp2_with fail
          go_roundw
          case rel => exact ⟨k + 1, Al, cl, by go_num, by omega, by rw [he.out], hfin.out, hbi⟩
          case measure => simp [intOf]; omega
    · have hkn : k = n := by omega
      subst hkn
      have hfin := hown.out
      rw [List.take_of_length_le (by rw [hll.out]; exact Nat.le_refl _)] at hfin
      replace hfin := Lib.hid hfin
      go_wp2_with fail
      go_ret
      exact ⟨B, cb, rfl, hfin.out, hbel⟩

theorem l20Scaled_any (x y s u : Int) (w : World) (hx : askB x s u = true) (hy : askB y s u = true) :
    Calls Try.prog 160 #[.agg #[.int .i64 x, .int .i64 y], .int .i64 s, .int .i64 u] w fun e w' => e = .returned (.agg #[.int .i64 (scQ s u (x, y)).1, .int .i64 (scQ s u (x, y)).2]) ∧ Below w.heap.size w w' := by
  have hca := Lib.hid (fun W => l18Scale_any x s u W hx)
  have hcb := Lib.hid (fun W => l18Scale_any y s u W hy)
  clear hx hy
  unfold scQ
  dsimp only
  generalize rnd (x * s * 64) u = s0 at *
  generalize rnd (y * s * 64) u = s1 at *
  have hnew := heap_new2 w (.cells #[.int .i64 x, .int .i64 y] 25 (0, 0)) (.cells #[.int .i64 0, .int .i64 0] 25 (0, 0))
  have hB0 : Below w.heap.size w ((w.alloc (.cells #[.int .i64 x, .int .i64 y] 25 (0, 0))).alloc (.cells #[.int .i64 0, .int .i64 0] 25 (0, 0))) := Go.Joins.below_alloc2 _ _ _
  have hz0 : w.heap.size + 2 ≤ ((w.alloc (.cells #[.int .i64 x, .int .i64 y] 25 (0, 0))).alloc (.cells #[.int .i64 0, .int .i64 0] 25 (0, 0))).heap.size := by simp
  have d0 : ((w.alloc (.cells #[.int .i64 x, .int .i64 y] 25 (0, 0))).alloc (.cells #[.int .i64 0, .int .i64 0] 25 (0, 0))).cell? ⟨w.heap.size, 0, none⟩ = some (.int .i64 x) := by rw [Go.Joins.cell_of_block hnew.1]; rfl
  have d1 : ((w.alloc (.cells #[.int .i64 x, .int .i64 y] 25 (0, 0))).alloc (.cells #[.int .i64 0, .int .i64 0] 25 (0, 0))).cell? ⟨w.heap.size, 1, none⟩ = some (.int .i64 y) := by rw [Go.Joins.cell_of_block hnew.1]; rfl
  have d2 : ((w.alloc (.cells #[.int .i64 x, .int .i64 y] 25 (0, 0))).alloc (.cells #[.int .i64 0, .int .i64 0] 25 (0, 0))).cell? ⟨w.heap.size + 1, 0, none⟩ = some (.int .i64 0) := by rw [Go.Joins.cell_of_block hnew.2]; rfl
  have d3 : ((w.alloc (.cells #[.int .i64 x, .int .i64 y] 25 (0, 0))).alloc (.cells #[.int .i64 0, .int .i64 0] 25 (0, 0))).cell? ⟨w.heap.size + 1, 1, none⟩ = some (.int .i64 0) := by rw [Go.Joins.cell_of_block hnew.2]; rfl
  have df : ∀ o, ((w.alloc (.cells #[.int .i64 x, .int .i64 y] 25 (0, 0))).alloc (.cells #[.int .i64 0, .int .i64 0] 25 (0, 0))).frozen? ⟨w.heap.size + 1, o, none⟩ = false := Go.Joins.unfrozen_of_block hnew.2
  go_enter Try.func160, Try.ntmps160
  go_wp2_with fail
  generalize (w.alloc (.cells #[.int .i64 x, .int .i64 y] 25 (0, 0))).alloc (.cells #[.int .i64 0, .int .i64 0] 25 (0, 0)) = w2 at *
  go_still_tail 11, (by kernel_rfl)
  still_call ((hca.out _).mono fun e w'' ⟨h1, h2⟩ => ⟨h1, h2.symm⟩)
  repeat still_step
  still_call ((hcb.out _).mono fun e w'' ⟨h1, h2⟩ => ⟨h1, h2.symm⟩)
  repeat still_step
  refine wpStill_nil ?_
  have e2 : w2.drew.cell? ⟨w.heap.size + 1, 0, none⟩ = some (.int .i64 0) := d2
  have e3 : w2.drew.cell? ⟨w.heap.size + 1, 1, none⟩ = some (.int .i64 0) := d3
  have ef : ∀ o, w2.drew.frozen? ⟨w.heap.size + 1, o, none⟩ = false := df
  have hzd : w.heap.size + 2 ≤ w2.drew.heap.size := hz0
  have hBd : Below w.heap.size w w2.drew := hB0.drew
  clear hB0 hz0 d0 d1 d2 d3 df hnew
  change wpList _ _ _ _ _ w2.drew
  generalize w2.drew = w4 at *
  have hz4 : w.heap.size + 1 < w4.heap.size := by omega
  go_wp2_with fail
  have r0 : (w4.setCell ⟨w.heap.size + 1, 0, none⟩ (.int .i64 s0)).cell? ⟨w.heap.size + 1, 0, none⟩ = some (.int .i64 s0) := by go_simp
  have r1 : ((w4.setCell ⟨w.heap.size + 1, 0, none⟩ (.int .i64 s0)).setCell ⟨w.heap.size + 1, 1, none⟩ (.int .i64 s1)).cell? ⟨w.heap.size + 1, 1, none⟩ = some (.int .i64 s1) := by go_simp
  refine bodyPost_ret (v := .agg #[.int .i64 s0, .int .i64 s1]) (by simp [results, Try.results160, go_sem, r0, r1]) rfl ⟨rfl, ?_⟩
  exact (hBd.setCell (by simp) _).setCell (by simp) _

set_option maxHeartbeats 1000000 in
theorem clonePt_any (A : Option Addr) (n c lo hi : Nat) (K : List (Int × Int)) (w : World) (hr : RdS 2 (FlatR ptC) w lo hi A n K) (hn : n ≤ 1048576) (hz : A = none → n = 0) :
    Calls Try.prog 95 #[.slice A n c] w fun e w' => ∃ A' c', e = .returned (.slice A' n c') ∧ w'.ownsRow w.heap.size 25 2 (.slice A' n c') n (K.flatMap ptC) ∧ Below w.heap.size w w' := by
  have hs := src_rd ptC_len pt_one hr
  have hl := hr.1
  have hu : Try.prog.underlying 62 = some (.slice 25) := Try.underlying62
  have q22 : ∀ (w : World) (a : Option Addr) (n c n' c' : Nat), (binOp .eql 62 (.slice a n c) (.slice none n' c')).run Try.prog w = .ok (.bool a.isNone) w := fun w a n c n' c' => Lib.run_eql_slice_nil w _ _ a n c n' c' hu
  clear hr
  cases A with
  | none =>
    obtain rfl := hz rfl
    have hK : K = [] := List.eq_nil_of_length_eq_zero hl
    subst hK
    clear hs hl hz
    go_enter Try.func95, Try.ntmps95
    go_wp2_with fail
    go_ret
    exact ⟨none, 0, rfl, World.ownsRow_nil _ _ _ _, Below.refl _ _⟩
  | some a =>
    replace hs := Lib.hid hs
    replace hl := Lib.hid hl
    clear hz
    go_enter Try.func95, Try.ntmps95
    go_wp2_with (at_builtin; refine wpApp rfl (.tmp 5) (.tmp 6) elemPt rfl (base := w.heap.size) (v := .slice (some ⟨w.heap.size, 0, none⟩) 0 0) rfl (World.ownsRow_made w #[] 0 (Nat.le_refl _) (Nat.zero_le _) rfl) rfl (src_new0 hs.out _) (by omega) (by omega) (by simp) n (by omega) ?_; intro A' c' w1 ho1 hb1; replace ho1 := Lib.hid ho1)
    go_ret
    exact ⟨A', c', rfl, by simpa using ho1.out, ((Below.refl _ _).alloc (Nat.le_refl _) _).trans hb1⟩
end Go.Proofs.Ytgngcllodofimaa
