/- A ring turned so that its list of points is the least. Conditions: as each states. -/
import Derived.Lib.QuietBelow
import Derived.StillTailTactics
import Derived.WalkSmall
import Derived.OneCell
import Derived.Test.YtlifiioflkhkoaaGreatFr20
import Derived.Test.YtlifiioflkhkoaaGreatFr02
import Derived.Test.YtlifiioflkhkoaaGreatFr11
namespace Go.Proofs.YtlifiioflkhkoaaGreat
open Go.RowKit
set_option linter.unusedVariables false
set_option maxRecDepth 100000

theorem ptL_mem {L : List Pnt} {k : Nat} (h : k < L.length) : ptAt L k ∈ L := by
  unfold ptAt
  rw [List.getD_eq_getElem?_getD, List.getElem?_eq_getElem h]
  exact List.getElem_mem h
theorem rdS_drop {w : World} {lo hi n : Nat} {b off : Nat} {L : List Pnt} (h : RdS 2 (FlatR ptC) w lo hi (some ⟨b, off, none⟩) n L) (k : Nat) (hk : k ≤ n) : RdS 2 (FlatR ptC) w lo hi (some ⟨b, off + k * 2, none⟩) (n - k) (L.drop k) := by
  obtain ⟨hl, h⟩ := h
  refine ⟨by rw [List.length_drop, hl], fun hn => ?_⟩
  obtain ⟨b', off', e, h1, h2, h3⟩ := h (by omega)
  injection e with e
  injection e with e1 e2
  subst e1 e2
  refine ⟨b, off + k * 2, rfl, h1, h2, fun j a hj => ?_⟩
  rw [List.getElem?_drop] at hj
  obtain ⟨es, e1, e2, e3⟩ := h3 _ a hj
  refine ⟨es, e1, fun i u hu => ?_, e3⟩
  have := e2 i u hu
  rw [show off + (k + j) * 2 + i = off + k * 2 + j * 2 + i by omega] at this
  exact this
theorem rdS_take {w : World} {lo hi n : Nat} {A : Option Addr} {L : List Pnt} (h : RdS 2 (FlatR ptC) w lo hi A n L) (k : Nat) (hk : k ≤ n) : RdS 2 (FlatR ptC) w lo hi A k (L.take k) := by
  obtain ⟨hl, h⟩ := h
  refine ⟨by rw [List.length_take]; omega, fun hn => ?_⟩
  obtain ⟨b', off', e, h1, h2, h3⟩ := h (by omega)
  refine ⟨b', off', e, h1, h2, fun j a hj => h3 j a ?_⟩
  rw [List.getElem?_take] at hj
  split at hj
  · exact hj
  · cases hj
theorem pts_all {L : List Pnt} (h : ∀ p ∈ L, pt2Ok p = true) (k : Nat) : ∀ p ∈ rotK L k, pt2Ok p = true := fun p hp => h p ((rotK_perm L k).mem_iff.1 hp)
theorem turnTo_all {L : List Pnt} (h : ∀ p ∈ L, pt2Ok p = true) (k : Nat) : ∀ p ∈ turnTo L k, pt2Ok p = true := by
  obtain ⟨j, hj⟩ := turnTo_rot L k
  rw [hj]; exact pts_all h j
theorem turnTo_len (L : List Pnt) (k : Nat) : (turnTo L k).length = L.length := by
  obtain ⟨j, hj⟩ := turnTo_rot L k
  rw [hj]; exact (rotK_perm L j).length_eq

set_option maxHeartbeats 8000000 in
theorem turnRing_any (A : Option Addr) (n c lo hi : Nat) (L : List Pnt) (w : World) (hr : RdS 2 (FlatR ptC) w lo hi A n L) (hcap : n ≤ c) (hhi : hi ≤ w.heap.size) (hn1 : 1 ≤ n) (hn : n ≤ 1000) (hok : ∀ p ∈ L, pt2Ok p = true) :
    Calls Tryz.prog 60 #[.agg #[.slice A n c]] w fun e w' => ∃ A' c', e = .returned (.agg #[.slice A' n c']) ∧ w'.ownsRow w.heap.size 28 2 (.slice A' n c') n ((turnL L).flatMap ptC) ∧ Below w.heap.size w w' := by
  have hl := hr.1
  have hb0 := Go.Joins.below_alloc2 w (.cells #[.slice A n c] 42 (0, 0)) (.cells #[.slice none 0 0] 42 (0, 0))
  have hnew := heap_new2 w (.cells #[.slice A n c] 42 (0, 0)) (.cells #[.slice none 0 0] 42 (0, 0))
  have hz0 : ((w.alloc (.cells #[.slice A n c] 42 (0, 0))).alloc (.cells #[.slice none 0 0] 42 (0, 0))).heap.size = w.heap.size + 2 := by simp
  have hr0 := hr.frame (good_flat _) (Below.sameB hb0 hhi)
  have hA : ∃ b off, A = some ⟨b, off, none⟩ := by
    obtain ⟨b, off, hA, _⟩ := hr.pts hn1
    exact ⟨b, off, hA⟩
  obtain ⟨b, off, rfl⟩ := hA
  clear hr
  go_enter Tryz.func60, Tryz.ntmps60
  go_upto_region 1 with fail
  generalize (w.alloc (.cells #[.slice (some ⟨b, off, none⟩) n c] 42 (0, 0))).alloc (.cells #[.slice none 0 0] 42 (0, 0)) = v at *
  obtain ⟨X, hX⟩ : ∃ X, X = w.heap.size := ⟨_, rfl⟩
  rw [← hX] at hnew hz0 ⊢
  obtain ⟨hX0, hR0⟩ := hnew
  have hXv : X + 2 ≤ v.heap.size ∧ v.heap.size ≤ X + 2 := by omega
  have hhv : hi ≤ v.heap.size := by omega
  have hwX : hi ≤ X := by omega
  have x0 : v.cell? ⟨X, 0, none⟩ = some (.slice (some ⟨b, off, none⟩) n c) := by rw [Go.Joins.cell_of_block hX0]; rfl
  have hB0 := Lib.hid hb0
  replace hX := Lib.hid hX
  replace hX0 := Lib.hid hX0
  replace hR0 := Lib.hid hR0
  have HR0 := Lib.hid hr0
  have hcl := Lib.hid (clonePtQ_any (some ⟨b, off, none⟩) n c lo hi L v hr0 (by omega) (fun e => by cases e))
  clear hb0 hz0 hr0
  have hXlt : X < v.heap.size := by omega
  go_wp2_with fail
  refine hcl.out.mono ?_
  rintro e w1 ⟨A1, c1, rfl, ho1, hb1⟩
  clear hcl
  have HO1 := Lib.hid ho1
  clear ho1 x0
  go_wp2_with fail
  go_loopg [3, 4, 5] n (fun kx s3 s4 s5 wr => ∃ (k : Nat) (A3 : Option Addr) (c3 : Nat), s4 = .int .i64 k ∧ 1 ≤ k ∧ k ≤ n ∧ n - k ≤ kx ∧ s3 = .slice A3 n c3 ∧ Hid (wr.ownsRow v.heap.size 28 2 (.slice A3 n c3) n ((turnTo L k).flatMap ptC)) ∧ Below v.heap.size v wr)
  case atStart => exact ⟨1, A1, c1, rfl, Nat.le_refl _, hn1, by omega, rfl, HO1.out, hb1⟩
  case round =>
  clear HO1 hb1
  obtain ⟨k, A3, c3, rfl, hk1, hkn, hkx, rfl, HO3, hbr⟩ := hrel
  have hzr := hbr.size
  have xr : wr.cell? ⟨X, 0, none⟩ = some (.slice (some ⟨b, off, none⟩) n c) := (hbr.cell (p := ⟨X, 0, none⟩) hXlt).trans (by rw [Go.Joins.cell_of_block hX0.out]; rfl)
  have hXr : X < wr.heap.size := by omega
  by_cases hlt : k < n
  rotate_left
  · have hkn2 : k = n := by omega
    subst hkn2
    have hRr := Lib.hid ((hbr.block (X + 1) (by omega)).trans hR0.out)
    have r0 : wr.cell? ⟨X + 1, 0, none⟩ = some (.slice none 0 0) := by rw [Go.Joins.cell_of_block hRr.out]; rfl
    have rf := Go.Joins.unfrozen_of_block hRr.out
    have rl : X + 1 < wr.heap.size := by omega
    have hki : ¬ (k : Int) < (k : Int) := by omega
    replace hbr := Lib.hid hbr
    go_wp2_with fail
    refine bodyPost_ret (v := .agg #[.slice A3 k c3]) ?_ rfl ⟨A3, c3, rfl, ?_, ?_⟩
    · have r1 : (wr.setCell ⟨X + 1, 0, none⟩ (.slice A3 k c3)).cell? ⟨X + 1, 0, none⟩ = some (.slice A3 k c3) := by rw [Go.Joins.cell_of_block (Go.Joins.block_setCell hRr.out _)]; rfl
      simp [results, Tryz.results60, go_sem, r1]
    · rw [show turnL L = turnTo L k by unfold turnL; rw [hl]]
      refine own_lower (lo := v.heap.size) ?_ (by have := hX.out; omega)
      exact ownsRow_setCell_below (a := ⟨X + 1, 0, none⟩) HO3.out (by show X + 1 < v.heap.size; omega) _
    · exact (hB0.out.trans (hbr.out.mono (by have := hX.out; omega))).setCell (by show w.heap.size ≤ X + 1; have := hX.out; omega) _
  have hki : (k : Int) < (n : Int) := by omega
  have i1 : (0 : Int) ≤ (k : Int) ∧ (k : Int) < (n : Int) := by omega
  have i0 : (0 : Int) ≤ (0 : Int) ∧ (0 : Int) < (n : Int) := by omega
  have i0n : 0 < n := by omega
  have hrx := HR0.out.frame (good_flat _) (Below.sameB hbr hhv)
  have hbx : Hid (RdS 2 (FlatR ptC) wr v.heap.size wr.heap.size A3 n (turnTo L k)) := rdS_own ptC_len (by omega) HO3.out (by rw [turnTo_len, hl])
  obtain ⟨b1, o1, ⟨p0, p1⟩, hA1, _, hbw, hja, hcs⟩ := hrx.at hlt
  injection hA1 with hA1
  injection hA1 with e1 e2
  subst e1 e2
  have q0 := hcs 0 _ rfl
  have q1 := hcs 1 _ rfl
  obtain ⟨b2, o2, ⟨y0, y1⟩, rfl, _, hbw2, hja2, hcs2⟩ := hbx.out.at (j := 0) i0n
  have z0 := hcs2 0 _ rfl
  have z1 := hcs2 1 _ rfl
  simp only [Nat.add_zero, Nat.zero_mul] at q0 q1 z0 z1
  have hb1r : b < wr.heap.size := by omega
  have ek : ptAt L k = (p0, p1) := by unfold ptAt; rw [List.getD_eq_getElem?_getD, hja]; rfl
  have e0 : ptAt (turnTo L k) 0 = (y0, y1) := by unfold ptAt; rw [List.getD_eq_getElem?_getD, hja2]; rfl
  have okp : pt2Ok (p0, p1) = true := hok _ (List.mem_of_getElem? hja)
  have oky : pt2Ok (y0, y1) = true := turnTo_all hok k _ (List.mem_of_getElem? hja2)
  obtain ⟨t, ht⟩ : ∃ t, t = cmpYX (p0, p1) (y0, y1) := ⟨_, rfl⟩
  have hcall := Lib.hid (fun dr os => Calls.regrown_of (w := wr) (d := dr) (os := os) ((compareYX_any p0 p1 y0 y1 okp oky (Go.Sort.grow (redrawn wr dr) os)).mono (fun e w' ⟨h1, h2⟩ => ⟨h1, Grew.below h2⟩)))
  rw [← ht] at hcall
  have htn : turnTo L (k + 1) = turnStep L (turnTo L k) k := by rw [turnTo, if_neg (by omega)]
  unfold turnStep at htn
  rw [ek, e0, ← cmpYX_yx, ← ht] at htn
  replace htn := Lib.hid htn
  clear hja hja2 hcs hcs2 ek e0 okp oky ht hbw
  have hzX : v.heap.size ≤ wr.heap.size := hzr
  have kq0 : ∀ dr os, (Go.Sort.grow (redrawn wr dr) os).cell? ⟨b, off + k * 2, none⟩ = some (.int .i64 p0) := cell_regrown q0
  have kq1 : ∀ dr os, (Go.Sort.grow (redrawn wr dr) os).cell? ⟨b, off + k * 2 + 1, none⟩ = some (.int .i64 p1) := cell_regrown q1
  have kz0 : ∀ dr os, (Go.Sort.grow (redrawn wr dr) os).cell? ⟨b2, o2, none⟩ = some (.int .i64 y0) := cell_regrown z0
  have kz1 : ∀ dr os, (Go.Sort.grow (redrawn wr dr) os).cell? ⟨b2, o2 + 1, none⟩ = some (.int .i64 y1) := cell_regrown z1
  have kx : ∀ dr os, (Go.Sort.grow (redrawn wr dr) os).cell? ⟨X, 0, none⟩ = some (.slice (some ⟨b, off, none⟩) n c) := cell_regrown xr
  have hB1 := Lib.hid hbr
  have hRX := Lib.hid hrx
  clear hrx hbr
  by_cases hgt : 0 < t
  · have hgb : decide (0 < t) = true := decide_eq_true hgt
    have htn2 : Hid (turnTo L (k + 1) = turnTo L k) := by show _ = _; rw [htn.out, if_pos hgt]
    go_wp2_with fail
    refine wp_region_quiet_below (by kernel_rfl) (by kernel_rfl) ?_
    repeat (go_big_quiet_step (first | (with_reducible exact hcall.out _ _)))
    refine wpQuiet_nil ?_
    intro _ hw'
    obtain ⟨⟨dq, osq⟩, hw''⟩ := hw'
    subst hw''
    have hb9 := Lib.hid (below_regrown wr dq osq)
    have hz9 := hb9.out.size
    generalize Go.Sort.grow (redrawn wr dq) osq = w9 at *
    go_wp2_with fail
    go_roundg (n - (k + 1))
    case measure => omega
    case rel => exact ⟨k + 1, _, c3, by go_num, by omega, by omega, Nat.le_refl _, rfl, by show World.ownsRow _ _ _ _ _ _ _; rw [htn2.out]; exact own_below HO3.out hb9.out, hB1.out.trans (hb9.out.mono hzX)⟩
  · have hgb : decide (0 < t) = false := decide_eq_false hgt
    have htn2 := htn.out
    rw [if_neg hgt] at htn2
    replace htn2 := Lib.hid htn2
    go_wp2_with fail
    refine wp_region_quiet_below (by kernel_rfl) (by kernel_rfl) ?_
    repeat (go_big_quiet_step (first | (with_reducible exact hcall.out _ _)))
    refine wpQuiet_nil ?_
    intro _ hw'
    obtain ⟨⟨dq, osq⟩, hw''⟩ := hw'
    subst hw''
    have hb9 := Lib.hid (below_regrown wr dq osq)
    have hz9 := hb9.out.size
    have x9 := kx dq osq
    generalize Go.Sort.grow (redrawn wr dq) osq = w9 at *
    have hX9 : X < w9.heap.size := by omega
    have hw4 : ∀ W : World, Below w9.heap.size w9 W → Below v.heap.size v W := fun W h => hB1.out.trans ((hb9.out.mono hzX).trans (h.mono (by omega)))
    have hcc : ∀ (W : World) (g : Nat), Below w9.heap.size w9 W → W.cell? ⟨g, 0, none⟩ = some (.slice (some ⟨b, off + k * 2, none⟩) (n - k) (c - k)) → W.cell? ⟨g, 1, none⟩ = some (.slice (some ⟨b, off, none⟩) k c) → Calls Tryz.prog 72 #[.slice (some ⟨g, 0, none⟩) 2 2] W fun e w' => ∃ (A' : Option Addr) (c' : Nat), e = .returned (.slice A' n c') ∧ w'.ownsRow W.heap.size 28 2 (.slice A' n c') n ((rotK L k).flatMap ptC) ∧ Below W.heap.size W w' := fun W g hW h1 h2 => by
      have hrW := hRX.out.frame (good_flat _) (Below.sameB (hb9.out.trans (hW.mono hz9)) (by omega))
      have := concatPt_any g _ _ (n - k) (c - k) k c lo hi (L.drop k) (L.take k) W h1 h2 (rdS_drop hrW k hkn) (rdS_take hrW k hkn) (by have := hW.size; omega) (by omega) (by omega)
      rw [show n - k + k = n by omega] at this
      exact this
    replace hcc := Lib.hid hcc
    replace hw4 := Lib.hid hw4
    have HO9 := Lib.hid (own_below HO3.out hb9.out)
    clear kq0 kq1 kz0 kz1 kx q0 q1 z0 z1 xr HO3 hbx htn hcall
    have s1 : (0 : Int) ≤ (k : Int) ∧ (k : Int) ≤ (n : Int) ∧ (n : Int) ≤ (c : Int) := by omega
    have s2 : k ≤ n ∧ n ≤ c ∧ k ≤ c := by omega
    go_upto_region 6 with fail
    go_still_tail 8, (by kernel_rfl)
    change wpList _ _ _ _ _ w9.drew
    have hd9 := Lib.hid (Below.drew (Below.refl w9.heap.size w9))
    have hz9d : w9.drew.heap.size ≤ w9.heap.size ∧ w9.heap.size ≤ w9.drew.heap.size := ⟨Nat.le_refl _, Nat.le_refl _⟩
    have HO9d := Lib.hid (HO9.out.drew)
    generalize w9.drew = wd at *
    have hgb0 := Lib.hid (Go.Joins.below_alloc1 wd (.cells #[.slice (some ⟨b, off + k * 2, none⟩) (n - k) (c - k), .slice (some ⟨b, off, none⟩) k c] 40 (0, 0)))
    have hgn := heap_alloc_new wd (.cells #[.slice (some ⟨b, off + k * 2, none⟩) (n - k) (c - k), .slice (some ⟨b, off, none⟩) k c] 40 (0, 0))
    go_wp2_with fail
    refine (hcc.out _ wd.heap.size (hd9.out.trans (hgb0.out.mono hz9d.2)) (by rw [Go.Joins.cell_of_block hgn]; rfl) (by rw [Go.Joins.cell_of_block hgn]; rfl)).mono ?_
    rintro e w5 ⟨A5, c5, rfl, ho5, hb5⟩
    have HO5 := Lib.hid ho5
    have hz5 := hb5.size
    have hsz1 : (wd.alloc (.cells #[.slice (some ⟨b, off + k * 2, none⟩) (n - k) (c - k), .slice (some ⟨b, off, none⟩) k c] 40 (0, 0))).heap.size = wd.heap.size + 1 := by simp
    have hB5 : Hid (Below w9.heap.size w9 w5) := (hd9.out.trans (hgb0.out.mono hz9d.2)).trans (hb5.mono (by omega))
    have HOb := Lib.hid (own_below HO9d.out (hgb0.out.trans (hb5.mono (by omega))))
    have hzd : v.heap.size ≤ wd.heap.size := by omega
    have hl1 : (rotK L k).length = n := by rw [(rotK_perm L k).length_eq, hl]
    have hl2 : (turnTo L k).length = n := by rw [turnTo_len, hl]
    have r1 := rdS_own ptC_len (by omega) HO5.out hl1
    have r2 := rdS_own ptC_len (by omega) HOb.out hl2
    obtain ⟨m, hm⟩ : ∃ m, m = cmpL (rotK L k) (turnTo L k) := ⟨_, rfl⟩
    have hcm := Lib.hid (comparePts_any A5 (some ⟨b2, o2, none⟩) n c5 n c3 _ _ _ _ (rotK L k) (turnTo L k) m hm w5 r1 r2 (Nat.le_refl _) (Nat.le_refl _) (by omega) (by omega) (pts_all hok k) (turnTo_all hok k))
    have htn3 := htn2.out
    rw [← hm] at htn3
    replace htn3 := Lib.hid htn3
    have HO6 := Lib.hid (own_lower ho5 (show v.heap.size ≤ (wd.alloc (.cells #[.slice (some ⟨b, off + k * 2, none⟩) (n - k) (c - k), .slice (some ⟨b, off, none⟩) k c] 40 (0, 0))).heap.size by omega))
    clear r1 r2 hl1 hl2 hm HO5 ho5 hb5 htn2 hgn hgb0
    by_cases hm0 : m < 0
    · have hmb : decide (m < 0) = true := decide_eq_true hm0
      have htn4 : Hid (turnTo L (k + 1) = rotK L k) := by show _ = _; rw [htn3.out, if_pos hm0]
      go_wp2_with fail
      refine hcm.out.mono ?_
      rintro e w6 ⟨rfl, hg6⟩
      have hb6 := hg6.below
      go_wp2_with fail
      go_roundg (n - (k + 1))
      case measure => omega
      case rel => exact ⟨k + 1, _, c5, by go_num, by omega, by omega, Nat.le_refl _, rfl, by show World.ownsRow _ _ _ _ _ _ _; rw [htn4.out]; exact own_below HO6.out hb6, hw4.out _ (hB5.out.trans (hb6.mono hB5.out.size))⟩
    · have hmb : decide (m < 0) = false := decide_eq_false hm0
      have htn4 : Hid (turnTo L (k + 1) = turnTo L k) := by show _ = _; rw [htn3.out, if_neg hm0]
      go_wp2_with fail
      refine hcm.out.mono ?_
      rintro e w6 ⟨rfl, hg6⟩
      have hb6 := hg6.below
      go_wp2_with fail
      go_roundg (n - (k + 1))
      case measure => omega
      case rel => exact ⟨k + 1, _, c3, by go_num, by omega, by omega, Nat.le_refl _, rfl, by show World.ownsRow _ _ _ _ _ _ _; rw [htn4.out]; exact own_below HOb.out hb6, hw4.out _ (hB5.out.trans (hb6.mono hB5.out.size))⟩
end Go.Proofs.YtlifiioflkhkoaaGreat

/- Regions, as outlines are: XOut turned. Conditions: as each states. -/
namespace Go.Proofs.YtlifiioflkhkoaaGreat
open Go.RowKit
set_option linter.unusedVariables false
set_option maxRecDepth 100000

/-- a loop is a slice of knots -/
abbrev ringR : Rel (List (Int × Int)) := SliceR 2 (FlatR ptC)
theorem good_ring : Good ringR := good_slice 2 (good_flat _)
/-- the loops of an outline -/
abbrev RegRd (w : World) (lo hi : Nat) (A : Option Addr) (n : Nat) (Ls : List (List (Int × Int))) : Prop := RdS 1 ringR w lo hi A n Ls
theorem reg_at {w : World} {lo hi : Nat} {A : Option Addr} {n : Nat} {Ls : List (List (Int × Int))} (h : RegRd w lo hi A n Ls) {j : Nat} (hj : j < n) :
    ∃ b off K A' n' c', A = some ⟨b, off, none⟩ ∧ lo ≤ b ∧ b < hi ∧ Ls[j]? = some K ∧ w.cell? ⟨b, off + j, none⟩ = some (.slice A' n' c') ∧ n' ≤ maxLen ∧ RdS 2 (FlatR ptC) w lo hi A' n' K := by
  obtain ⟨hl, h⟩ := h
  obtain ⟨b, off, rfl, h1, h2, h3⟩ := h (by omega)
  have hja : Ls[j]? = some (Ls[j]'(by omega)) := List.getElem?_eq_getElem (by omega)
  obtain ⟨es, e1, e2, A', n', c', rfl, hm, hr⟩ := h3 j _ hja
  have := e2 0 _ rfl
  simp only [Nat.mul_one, Nat.add_zero] at this
  exact ⟨b, off, _, A', n', c', rfl, h1, h2, hja, this, hm, hr⟩

end Go.Proofs.YtlifiioflkhkoaaGreat

/- Regions, as outlines are: XOutT turned. Conditions: as each states. -/
namespace Go.Proofs.YtlifiioflkhkoaaGreat
open Go.RowKit
set_option linter.unusedVariables false
set_option maxRecDepth 100000

/-- an outline of the call's own: its row, its loops' rows, each in a block of its own -/
def RegOwn (w : World) (lo : Nat) (A : Option Addr) (n c : Nat) (Ls : List (List (Int × Int))) : Prop := ∃ ys : List Value, Ls.length = n ∧ w.ownsRow lo 42 1 (.slice A n c) n ys ∧
  (∀ (j : Nat) (K : List (Int × Int)), Ls[j]? = some K → ∃ (Aj : Option Addr) (cj : Nat), ys[j]? = some (.slice Aj K.length cj) ∧ w.ownsRow lo 28 2 (.slice Aj K.length cj) K.length (K.flatMap ptC)) ∧
  (∀ (i j : Nat) (u v : Value), i ≠ j → ys[i]? = some u → ys[j]? = some v → ApartV u v)
theorem RegOwn.kept {w w' : World} {lo n c : Nat} {A : Option Addr} {Ls : List (List (Int × Int))} (h : RegOwn w lo A n c Ls) (hb : Below w.heap.size w w') : RegOwn w' lo A n c Ls := by
  obtain ⟨ys, h1, h2, h3, h4⟩ := h
  refine ⟨ys, h1, own_below h2 hb, fun j K hj => ?_, h4⟩
  obtain ⟨Aj, cj, h5, h6⟩ := h3 j K hj
  exact ⟨Aj, cj, h5, own_below h6 hb⟩
theorem RegOwn.rd {w : World} {lo n c : Nat} {A : Option Addr} {Ls : List (List (Int × Int))} (h : RegOwn w lo A n c Ls) (hm : ∀ K ∈ Ls, K.length ≤ maxLen) : RegRd w lo w.heap.size A n Ls := by
  obtain ⟨ys, h1, h2, h3, h4⟩ := h
  refine ⟨h1, fun hn => ?_⟩
  obtain ⟨g, rfl, hg1, hg2, _, hc, _⟩ := own_at h2 hn
  refine ⟨g, 0, rfl, hg1, hg2, fun j K hj => ?_⟩
  obtain ⟨Aj, cj, h5, h6⟩ := h3 j K hj
  refine ⟨[.slice Aj K.length cj], rfl, fun i u hu => ?_, Aj, K.length, cj, rfl, hm K (List.mem_of_getElem? hj), rdS_own ptC_len (by omega) h6 rfl⟩
  match i, hu with
  | 0, hu =>
    injection hu with hu
    subst hu
    have hjl := (List.getElem?_eq_some_iff.1 hj).1
    simp only [Nat.mul_one, Nat.add_zero, Nat.zero_add]
    rw [hc j (by omega), h5]
theorem RegOwn.stored_below {w : World} {lo n c : Nat} {A : Option Addr} {Ls : List (List (Int × Int))} (h : RegOwn w lo A n c Ls) {a : Addr} (ha : a.block < lo) (u : Value) : RegOwn (w.setCell a u) lo A n c Ls := by
  obtain ⟨ys, h1, h2, h3, h4⟩ := h
  refine ⟨ys, h1, ownsRow_setCell_below h2 ha u, fun j K hj => ?_, h4⟩
  obtain ⟨Aj, cj, h5, h6⟩ := h3 j K hj
  exact ⟨Aj, cj, h5, ownsRow_setCell_below h6 ha u⟩
theorem RegOwn.base {w : World} {lo lo' n c : Nat} {A : Option Addr} {Ls : List (List (Int × Int))} (h : RegOwn w lo A n c Ls) (hl : lo' ≤ lo) : RegOwn w lo' A n c Ls := by
  obtain ⟨ys, h1, h2, h3, h4⟩ := h
  refine ⟨ys, h1, own_lower h2 hl, fun j K hj => ?_, h4⟩
  obtain ⟨Aj, cj, h5, h6⟩ := h3 j K hj
  exact ⟨Aj, cj, h5, own_lower h6 hl⟩

theorem elemRing : Elem Tryz.prog 24 42 1 24 := elem_mk (z := .agg #[.slice none 0 0]) Tryz.underlying24 (by kernel_rfl) rfl (by omega)
end Go.Proofs.YtlifiioflkhkoaaGreat

/- Regions, as outlines are: XCopy turned. Conditions: as each states. -/
namespace Go.Proofs.YtlifiioflkhkoaaGreat
open Go.RowKit
set_option linter.unusedVariables false
set_option maxRecDepth 100000

/-- the first k loops stand in the row ys, each in a block of its own -/
def RegTo (w : World) (lo : Nat) (Ao : Option Addr) (k co : Nat) (ys : List Value) (Ls : List (List (Int × Int))) : Prop := w.ownsRow lo 42 1 (.slice Ao k co) k ys ∧
  (∀ (j : Nat) (K : List (Int × Int)), j < k → Ls[j]? = some K → ∃ (Aj : Option Addr) (cj : Nat), ys[j]? = some (.slice Aj K.length cj) ∧ w.ownsRow lo 28 2 (.slice Aj K.length cj) K.length (K.flatMap ptC)) ∧
  (∀ (i j : Nat) (u v : Value), i ≠ j → ys[i]? = some u → ys[j]? = some v → ApartV u v)
theorem RegTo.kept {w w' : World} {lo k co : Nat} {Ao : Option Addr} {ys : List Value} {Ls : List (List (Int × Int))} (h : RegTo w lo Ao k co ys Ls) (hb : Below w.heap.size w w') : RegTo w' lo Ao k co ys Ls := by
  obtain ⟨h1, h2, h3⟩ := h
  refine ⟨own_below h1 hb, fun j K hj hK => ?_, h3⟩
  obtain ⟨Aj, cj, h4, h5⟩ := h2 j K hj hK
  exact ⟨Aj, cj, h4, own_below h5 hb⟩
theorem RegTo.set {w : World} {lo k co : Nat} {Ao : Option Addr} {ys : List Value} {Ls : List (List (Int × Int))} (h : RegTo w lo Ao k co ys Ls) {a : Addr} (ha : a.block < lo) (u : Value) : RegTo (w.setCell a u) lo Ao k co ys Ls := by
  obtain ⟨h1, h2, h3⟩ := h
  refine ⟨ownsRow_setCell_below h1 ha u, fun j K hj hK => ?_, h3⟩
  obtain ⟨Aj, cj, h4, h5⟩ := h2 j K hj hK
  exact ⟨Aj, cj, h4, ownsRow_setCell_below h5 ha u⟩
/-- one loop more: a row that lies above all that stood before, appended -/
theorem RegTo.next {w w1 w2 : World} {lo B k co c2 cc : Nat} {Ao A2 A3 : Option Addr} {ys : List Value} {Ls : List (List (Int × Int))} {K : List (Int × Int)} (h : RegTo w lo Ao k co ys Ls) (hK : Ls[k]? = some K)
    (hb : Below w.heap.size w w1) (hr : w1.ownsRow B 28 2 (.slice A2 K.length c2) K.length (K.flatMap ptC)) (hB : w.heap.size ≤ B) (hlo : lo ≤ w.heap.size)
    (ho : w2.ownsRow lo 42 1 (.slice A3 (k + 1) cc) (k + 1) (ys ++ [.slice A2 K.length c2])) (hg : w1.grownBy w2 (Value.slice Ao k co).ownBlock) : RegTo w2 lo A3 (k + 1) cc (ys ++ [.slice A2 K.length c2]) Ls := by
  obtain ⟨h1, h2, h3⟩ := h
  have h1' := own_below h1 hb
  have hyl := h1.1
  rw [Nat.mul_one] at hyl
  have hne : ∀ {g : Nat} {v : Value} {n : Nat} {xs : List Value} {B' : Nat}, w1.ownsRow B' 28 2 v n xs → v.ownBlock = some g → w2.heap[g]? = w1.heap[g]? := fun {g v n xs B'} hv hg' =>
    hg.block g (hv.lt g hg').2 fun e => own_ne_kind hv h1' (by decide) hg' e.symm
  refine ⟨ho, fun j K' hj hK' => ?_, fun i j u v hij hu hv => ?_⟩
  · by_cases hjk : j = k
    · subst hjk
      have e := Option.some.inj (hK.symm.trans hK')
      subst e
      refine ⟨A2, c2, by rw [List.getElem?_append_right (by omega), hyl]; simp, own_lower (own_same hr fun g hg' => hne hr hg') (by omega)⟩
    · obtain ⟨Aj, cj, h4, h5⟩ := h2 j K' (by omega) hK'
      refine ⟨Aj, cj, by rw [List.getElem?_append_left (by omega)]; exact h4, own_same (own_below h5 hb) fun g hg' => hne (own_below h5 hb) hg'⟩
  · have hold : ∀ (j : Nat) (v : Value), j < k → ys[j]? = some v → j < Ls.length → ∀ g, v.ownBlock = some g → g < w.heap.size := fun j v hj hv hjl g hg' => by
      obtain ⟨Aj, cj, h4, h5⟩ := h2 j _ hj (List.getElem?_eq_getElem hjl)
      rw [hv] at h4
      injection h4 with h4
      subst h4
      exact (h5.lt g hg').2
    have hkl := (List.getElem?_eq_some_iff.1 hK).1
    have hil := (List.getElem?_eq_some_iff.1 hu).1
    have hjl := (List.getElem?_eq_some_iff.1 hv).1
    simp at hil hjl
    by_cases hik : i < k
    · rw [List.getElem?_append_left (by omega)] at hu
      by_cases hjk : j < k
      · rw [List.getElem?_append_left (by omega)] at hv
        exact h3 i j u v hij hu hv
      · obtain rfl : j = k := by omega
        rw [List.getElem?_append_right (by omega), hyl] at hv
        simp at hv
        subst hv
        intro g hgu hgv
        have := hold i u hik hu (by omega) g hgu
        have := (hr.lt g hgv).1
        omega
    · obtain rfl : i = k := by omega
      rw [List.getElem?_append_right (by omega), hyl] at hu
      rw [List.getElem?_append_left (by omega)] at hv
      simp at hu
      subst hu
      intro g hgu hgv
      have := hold j v (by omega) hv (by omega) g hgv
      have := (hr.lt g hgu).1
      omega
end Go.Proofs.YtlifiioflkhkoaaGreat

