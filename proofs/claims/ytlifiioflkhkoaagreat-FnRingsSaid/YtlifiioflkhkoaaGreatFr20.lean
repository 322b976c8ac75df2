/- FitRing: the reference's side. Conditions: as each states. -/
import Derived.Lib.AppendZerosOnto
import Derived.Lib.SliceRun
import Derived.Lib.Walk
import Derived.Shelf.SlLaysF0
import Derived.Ground.SlsfProg
import Derived.Ground.NamesProg
import Derived.Test.YtlifiioflkhkoaaGreatFr19
import Derived.Test.YtlifiioflkhkoaaGreatFr11
import Derived.Test.YtlifiioflkhkoaaGreatFr18
import Derived.Test.YtlifiioflkhkoaaGreatFr16
namespace Go.Proofs.YtlifiioflkhkoaaGreat
open Go.RowKit
set_option linter.unusedVariables false
set_option maxRecDepth 100000

theorem l13Ring_any (p off : Nat) (A : Option Addr) (n c lo hi : Nat) (L : List (Int × Int)) (v : Bool) (hv : v = pathOk L) (w : World) (hp : w.cell? ⟨p, off, none⟩ = some (.slice A n c)) (hr : RdS 2 (FlatR ptC) w lo hi A n L) (hhi : hi ≤ w.heap.size) (hn : n ≤ 1048576) :
    Calls Tryz.prog 42 #[.pointer (some ⟨p, off, none⟩)] w fun e w' => e = .returned (.bool v) ∧ Below w.heap.size w w' := by
  have hl := hr.1
  have hpl : p < w.heap.size := cell_lt hp
  unfold pathOk at hv
  rw [hl] at hv
  clear hl
  cases t0 : inB (n : Int) 1 400
  · have hvf : v = false := by rw [hv, t0]; rfl
    subst hvf
    clear hv hr
    go_enter Tryz.func42, Tryz.ntmps42
    go_wp2_with (go_at_call 44; refine (l00In_any _ _ _ _).mono ?_; rintro e w' ⟨rfl, rfl⟩)
    go_ret
    exact ⟨rfl, Below.refl _ _⟩
  · have hv' : v = L.all pt2Ok := by rw [hv, t0]; simp
    have hc := Lib.hid (l13Points_any A n c lo hi L v hv' w hr hhi hn)
    clear hv hv' hr
    go_enter Tryz.func42, Tryz.ntmps42
    go_wp2_with (first | (go_at_call 44; refine (l00In_any _ _ _ _).mono ?_; rintro e w' ⟨rfl, rfl⟩) | (go_at_call 55; refine hc.out.mono ?_; rintro e w1 ⟨rfl, hb1⟩))
    all_goals
      go_ret
      exact ⟨rfl, hb1⟩

end Go.Proofs.YtlifiioflkhkoaaGreat

/- The fit of a way: the program's side. Conditions: as each states. -/
namespace Go.Proofs.YtlifiioflkhkoaaGreat
open Go.RowKit
set_option linter.unusedVariables false
set_option maxRecDepth 100000

theorem RdS.part {w : World} {lo hi b off n i k : Nat} {L : List (Int × Int)} (h : RdS 2 (FlatR ptC) w lo hi (some ⟨b, off, none⟩) n L) (hik : i + k < n) : RdS 2 (FlatR ptC) w lo hi (some ⟨b, off + i * 2, none⟩) (k + 1) (partP L i k) := by
  have hl := h.1
  refine ⟨partP_len (by omega), fun _ => ?_⟩
  obtain ⟨b', off', hA, h1, h2, h3⟩ := h.2 (by omega)
  injection hA with hA
  injection hA with e1 e2
  subst e1 e2
  refine ⟨b, off + i * 2, rfl, h1, h2, fun j a hj => ?_⟩
  have hjk : j < k + 1 := by have := (List.getElem?_eq_some_iff.1 hj).1; rw [partP_len (by omega)] at this; exact this
  rw [partP_at (by omega)] at hj
  obtain ⟨es, e3, e4, e5⟩ := h3 (i + j) a hj
  refine ⟨es, e3, fun u x hu => ?_, e5⟩
  have := e4 u x hu
  rw [Nat.add_mul, ← Nat.add_assoc] at this
  exact this
end Go.Proofs.YtlifiioflkhkoaaGreat

/- slices.Index at bool; slices.Grow and slices.Concat at points. Conditions: as each states. -/
namespace Go.Proofs.YtlifiioflkhkoaaGreat
open Go.RowKit
set_option linter.unusedVariables false
set_option maxRecDepth 100000

set_option maxHeartbeats 1000000 in
theorem growPt_any (n : Nat) (w : World) (h0 : 1 ≤ n) (hn : n ≤ 1000000) :
    Calls Tryz.prog 87 #[.slice none 0 0, .int .i64 n] w fun e w' => ∃ (A' : Option Addr) (c' : Nat), e = .returned (.slice A' 0 c') ∧ w'.ownsRow w.heap.size 28 2 (.slice A' 0 c') 0 [] ∧ Below w.heap.size w w' := by
  obtain ⟨i0, hi0, hz0, hs0, hby0⟩ := info_parts infoPt
  have hrz : ∀ ty, (Builtin.append_ #[40, 3] ty #[.slice none 0 0, .int .i64 n]).run Tryz.prog w = .ok (.slice (some ⟨w.heap.size, 0, none⟩) n (grownCap w n 0 28)) (w.drew.alloc (.cells (#[] ++ Builtin.zeroCells #[.int .i64 0, .int .i64 0] n ++ Builtin.zeroCells #[.int .i64 0, .int .i64 0] (grownCap w n 0 28 - n)) 28)) := fun ty => by
    have h := Lib.run_append_grow_zeros w 40 3 ty 28 i0 (.agg #[.int .i64 0, .int .i64 0]) .i64 .i64 Tryz.underlying40 Tryz.underlying3 hi0 hz0 none 0 0 [] (by exact run_firstCells_none w.drew i0.size 0 0 0) n (by omega) (by rw [hs0]; omega) (by omega) (by omega) (by rw [hby0]; omega) (growslice_fits (by omega) (by rw [hby0]; omega))
    rw [Nat.zero_add] at h
    exact h
  have hGn : n ≤ grownCap w n 0 28 := grownCap_ge w _ _ _
  have hG63 : grownCap w n 0 28 ≤ maxLen := grownCap_le_maxLen w n 0 28 (by unfold maxLen; omega)
  generalize grownCap w n 0 28 = G at *
  have hsz : (#[] ++ Builtin.zeroCells #[Value.int .i64 0, Value.int .i64 0] n ++ Builtin.zeroCells #[Value.int .i64 0, Value.int .i64 0] (G - n)).size = G * 2 := by
    rw [Array.size_append, Array.size_append, size_zeroCells, size_zeroCells]
    show 0 + n * 2 + (G - n) * 2 = G * 2
    omega
  generalize (#[] ++ Builtin.zeroCells #[Value.int .i64 0, Value.int .i64 0] n ++ Builtin.zeroCells #[Value.int .i64 0, Value.int .i64 0] (G - n)) = cur at *
  have hni : ¬ ((n : Int) < 0) := by omega
  have hnp : (0 : Int) < (n : Int) := by omega
  have q1 : IntKind.i64.wrap ((n : Int) - 0) = (n : Int) := by rw [wi (by omega)]; omega
  have hG2 : (G : Int) ≤ 9223372036854775807 := by unfold maxLen at hG63; omega
  have hown : (w.drew.alloc (.cells cur 28 (0, 0))).ownsRow w.heap.size 28 2 (.slice (some ⟨w.heap.size, 0, none⟩) 0 G) 0 [] := World.ownsRow_made w.drew cur G (Nat.le_refl _) hG63 hsz
  have hbw : Below w.heap.size w (w.drew.alloc (.cells cur 28 (0, 0))) := (Below.drew (Below.refl _ w)).alloc (Nat.le_refl _) _
  replace hown := Lib.hid hown
  replace hbw := Lib.hid hbw
  clear hsz hG63
  go_enter Tryz.func87, Tryz.ntmps87
  go_wp2_with (at_builtin; refine Lib.wpList_append_run _ rfl _ _ _ _ rfl _ _ rfl rfl _ _ (hrz _) ?_)
  all_goals
    go_ret
    exact ⟨_, _, rfl, hown.out, hbw.out⟩

theorem ptC_one (a : Int × Int) : ∀ u ∈ ptC a, u.oneCell' = true := by
  intro u hu
  simp only [ptC, List.mem_cons, List.not_mem_nil, or_false] at hu
  rcases hu with rfl | rfl <;> rfl

set_option maxHeartbeats 4000000 in
theorem concatPt_any (g : Nat) (A1 A2 : Option Addr) (n1 c1 n2 c2 lo hi : Nat) (L1 L2 : List (Int × Int)) (w : World) (h1 : w.cell? ⟨g, 0, none⟩ = some (.slice A1 n1 c1)) (h2 : w.cell? ⟨g, 1, none⟩ = some (.slice A2 n2 c2)) (hr1 : RdS 2 (FlatR ptC) w lo hi A1 n1 L1) (hr2 : RdS 2 (FlatR ptC) w lo hi A2 n2 L2) (hhi : hi ≤ w.heap.size) (h0 : 1 ≤ n1 + n2) (hn : n1 + n2 ≤ 100000) :
    Calls Tryz.prog 72 #[.slice (some ⟨g, 0, none⟩) 2 2] w fun e w' => ∃ (A' : Option Addr) (c' : Nat), e = .returned (.slice A' (n1 + n2) c') ∧ w'.ownsRow w.heap.size 28 2 (.slice A' (n1 + n2) c') (n1 + n2) ((L1 ++ L2).flatMap ptC) ∧ Below w.heap.size w w' := by
  have hgl : g < w.heap.size := cell_lt h1
  have hgr := Lib.hid (growPt_any (n1 + n2) w h0 (by omega))
  obtain ⟨N, hN⟩ : ∃ N, N = n1 + n2 := ⟨_, rfl⟩
  rw [← hN] at hgr ⊢
  have hs := Lib.hid (fun W (h : Below w.heap.size w W) => src_rd ptC_len ptC_one (hr1.frame (good_flat _) (Below.sameB h hhi)))
  have hs2 := Lib.hid (fun W (h : Below w.heap.size w W) => src_rd ptC_len ptC_one (hr2.frame (good_flat _) (Below.sameB h hhi)))
  have q1 : IntKind.i64.wrap ((n1 : Int) + (n2 : Int)) = (N : Int) := by rw [wi (by omega)]; omega
  have q0 : IntKind.i64.wrap (0 + (n1 : Int)) = (n1 : Int) := by rw [wi (by omega)]; omega
  have hn1 : ¬ ((n1 : Int) < 0) := by omega
  have hnN : ¬ ((N : Int) < 0) := by omega
  replace hN := Lib.hid hN
  clear hr1 hr2 h0
  go_enter Tryz.func72, Tryz.ntmps72
  go_wp2_with fail
  go_loop [3, 11] (fun sv kv => ∃ k : Nat, k ≤ 2 ∧ kv = .int .i64 k ∧ ((k = 0 ∧ sv = .int .i64 0) ∨ (k = 1 ∧ sv = .int .i64 n1) ∨ (k = 2 ∧ sv = .int .i64 N))) (fun sv kv => 2 - (intOf kv).toNat)
  case atStart => exact ⟨0, by omega, rfl, .inl ⟨rfl, rfl⟩⟩
  case round =>
    obtain ⟨k, hk, rfl, hcase⟩ := hrel
    rcases hcase with ⟨rfl, rfl⟩ | ⟨rfl, rfl⟩ | ⟨rfl, rfl⟩
    · go_wp2_with fail
      go_round
      case rel => exact ⟨1, by omega, rfl, .inr (.inl ⟨rfl, by first | rfl | simp⟩)⟩
      case measure => simp [intOf]
    · go_wp2_with fail
      go_round
      case rel => exact ⟨2, by omega, rfl, .inr (.inr ⟨rfl, rfl⟩)⟩
      case measure => simp [intOf]
    · go_wp2_with fail
      refine hgr.out.mono ?_
      rintro e w1 ⟨A', c', rfl, ho, hb1⟩
      replace ho := Lib.hid ho
      have hz1 := hb1.size
      go_wp2_with fail
      go_loopw [6, 27] (fun rv kv wr => ∃ (k : Nat) (A3 : Option Addr) (c3 : Nat), k ≤ 2 ∧ kv = .int .i64 k ∧ Below w.heap.size w wr ∧ ((k = 0 ∧ rv = .slice A3 0 c3 ∧ wr.ownsRow w.heap.size 28 2 (.slice A3 0 c3) 0 []) ∨ (k = 1 ∧ rv = .slice A3 n1 c3 ∧ wr.ownsRow w.heap.size 28 2 (.slice A3 n1 c3) n1 (L1.flatMap ptC)) ∨ (k = 2 ∧ rv = .slice A3 N c3 ∧ wr.ownsRow w.heap.size 28 2 (.slice A3 N c3) N ((L1 ++ L2).flatMap ptC)))) (fun rv kv wr => 2 - (intOf kv).toNat)
      case atStart => exact ⟨0, A', c', by omega, rfl, hb1, .inl ⟨rfl, rfl, ho.out⟩⟩
      case round =>
        clear ho hb1 hz1
        obtain ⟨k, A3, c3, hk, rfl, hbr, hcase⟩ := hrel
        have hzr := hbr.size
        have g0 := (hbr.cell (p := ⟨g, 0, none⟩) hgl).trans h1
        have g1 := (hbr.cell (p := ⟨g, 1, none⟩) hgl).trans h2
        have hgr' : g < wr.heap.size := by omega
        have hsr := Lib.hid (hs.out wr hbr)
        have hsr2 := Lib.hid (hs2.out wr hbr)
        rcases hcase with ⟨rfl, rfl, ho⟩ | ⟨rfl, rfl, ho⟩ | ⟨rfl, rfl, ho⟩
        · replace ho := Lib.hid ho
          go_wp2_with (at_builtin; refine wpApp rfl (.tmp 31) (.tmp 32) elemPt rfl (v := .slice A3 0 c3) (n := 0) (xs := []) rfl ho.out rfl hsr.out (by omega) (by omega) (by omega) n1 (by omega) ?_; intro A4 c4 w4 ho4 hb4; replace ho4 := Lib.hid ho4)
          go_roundw
          case rel => exact ⟨1, A4, c4, by omega, rfl, hbr.trans hb4, .inr (.inl ⟨rfl, rfl, by have := ho4.out; simpa using this⟩)⟩
          case measure => simp [intOf]
        · replace ho := Lib.hid ho
          go_wp2_with (at_builtin; refine wpApp rfl (.tmp 31) (.tmp 32) elemPt rfl (v := .slice A3 n1 c3) (n := n1) (xs := L1.flatMap ptC) rfl ho.out rfl hsr2.out (by omega) (by omega) (by omega) N (by have := hN.out; omega) ?_; intro A4 c4 w4 ho4 hb4; replace ho4 := Lib.hid ho4)
          go_roundw
          case rel => exact ⟨2, A4, c4, by omega, rfl, hbr.trans hb4, .inr (.inr ⟨rfl, rfl, by rw [List.flatMap_append]; exact ho4.out⟩)⟩
          case measure => simp [intOf]
        · replace ho := Lib.hid ho
          replace hbr := Lib.hid hbr
          go_wp2_with fail
          go_ret
          exact ⟨_, _, rfl, ho.out, hbr.out⟩
end Go.Proofs.YtlifiioflkhkoaaGreat

/- Lists of points compared, point by point. Conditions: as each states. -/
namespace Go.Proofs.YtlifiioflkhkoaaGreat
open Go.RowKit
set_option linter.unusedVariables false
set_option maxRecDepth 100000

theorem cmpYX_yx (a b : Pnt) : cmpYX a b = yx a b := by
  unfold cmpYX yx sgnI
  repeat' split
  all_goals omega
/-- draws and blocks made, and nothing else -/
def Grew (w w' : World) : Prop := ∃ q os, w' = Go.Sort.grow (w.drewN q) os
theorem Grew.refl (w : World) : Grew w w := ⟨0, #[], by rw [Go.Sort.grow_empty]; rfl⟩
theorem Grew.trans {a b c : World} (h : Grew a b) (h' : Grew b c) : Grew a c := by
  obtain ⟨q, os, rfl⟩ := h
  obtain ⟨q', os', rfl⟩ := h'
  refine ⟨q + q', os ++ os', ?_⟩
  show Go.Sort.grow (Go.Sort.grow ((a.drewN q).drewN q') os) os' = _
  rw [Go.Sort.grow_grow, World.drewN_drewN]
theorem Grew.alloc {a b : World} (h : Grew a b) (o : Obj) : Grew a (b.alloc o) := h.trans ⟨0, #[o], by rw [Go.Sort.alloc_eq_grow]; rfl⟩
theorem Grew.drew {a b : World} (h : Grew a b) : Grew a b.drew := h.trans ⟨1, #[], by rw [Go.Sort.grow_empty]; rfl⟩
theorem Grew.below {a b : World} (h : Grew a b) : Below a.heap.size a b := by
  obtain ⟨q, os, rfl⟩ := h
  refine ⟨rfl, rfl, rfl, ?_, fun k hk => ?_⟩
  · simp [Go.Sort.grow]
  · simp only [Go.Sort.grow]
    rw [Array.getElem?_append]
    exact if_pos hk

theorem cmpL_nil_l {M : List Pnt} : cmpL [] M = if M.length = 0 then 0 else -1 := by cases M <;> simp [cmpL]
theorem drop_at {α : Type} {L : List α} {i : Nat} {a : α} (h : L[i]? = some a) : L.drop i = a :: L.drop (i + 1) := by
  obtain ⟨h1, rfl⟩ := List.getElem?_eq_some_iff.1 h
  exact List.drop_eq_getElem_cons h1

set_option maxHeartbeats 4000000 in
theorem compareFunc_any (A1 A2 : Option Addr) (n1 c1 n2 c2 lo1 hi1 lo2 hi2 : Nat) (L M : List Pnt) (v : Int) (hv : v = cmpL L M) (w : World) (h1 : RdS 2 (FlatR ptC) w lo1 hi1 A1 n1 L) (h2 : RdS 2 (FlatR ptC) w lo2 hi2 A2 n2 M) (hh1 : hi1 ≤ w.heap.size) (hh2 : hi2 ≤ w.heap.size) (hn1 : n1 ≤ 1000000000) (hn2 : n2 ≤ 1000000000) (hL : ∀ p ∈ L, pt2Ok p = true) (hM : ∀ p ∈ M, pt2Ok p = true) :
    Calls Tryz.prog 74 #[.slice A1 n1 c1, .slice A2 n2 c2, .func (.func 71) #[] #[]] w fun e w' => e = .returned (.int .i64 v) ∧ Grew w w' := by
  have eg : ∀ args w, (callFunc 71 args).run Tryz.prog w = .ok (.enter 71 args) w := enters_of Tryz.func71 (by kernel_rfl) rfl
  have hll := Lib.hid (And.intro h1.1 h2.1)
  replace h1 := Lib.hid h1
  replace h2 := Lib.hid h2
  replace hL := Lib.hid hL
  replace hM := Lib.hid hM
  replace hv := Lib.hid hv
  go_enter Tryz.func74, Tryz.ntmps74
  go_wp2_with fail
  go_loopg [7, 8, 9, 10, 13] n1 (fun kx s7 s8 s9 s10 s13 wr => ∃ i : Nat, s13 = .int .i64 i ∧ i ≤ n1 ∧ n1 - i ≤ kx ∧ i ≤ n2 ∧ Hid (v = cmpL (L.drop i) (M.drop i)) ∧ Grew w wr)
  case atStart => exact ⟨0, rfl, Nat.zero_le _, Nat.le_refl _, Nat.zero_le _, hv, .refl _⟩
  case round =>
    obtain ⟨i, rfl, hi1, hkx, hi2, HV, hg⟩ := hrel
    have hz := hg.below.size
    by_cases hlt : i < n1
    · have hlz : (i : Int) < (n1 : Int) := by omega
      obtain ⟨b1, o1, ⟨x0, x1⟩, rfl, _, hbw, hja, hcs⟩ := (h1.out.frame (good_flat _) (Below.sameB hg.below hh1)).at hlt
      have q0 := hcs 0 _ rfl
      have q1 := hcs 1 _ rfl
      simp only [Nat.add_zero] at q0 q1
      have hb1 : b1 < wr.heap.size := by omega
      have hd1 := drop_at hja
      have hok1 := hL.out _ (List.mem_of_getElem? hja)
      clear hcs hbw
      by_cases hm : i < n2
      · have hmz : (i : Int) < (n2 : Int) := by omega
        obtain ⟨b2, o2, ⟨y0, y1⟩, rfl, _, hbw, hja', hcs⟩ := (h2.out.frame (good_flat _) (Below.sameB hg.below hh2)).at hm
        have p0 := hcs 0 _ rfl
        have p1 := hcs 1 _ rfl
        simp only [Nat.add_zero] at p0 p1
        have hb2 : b2 < wr.heap.size := by omega
        have hd2 := drop_at hja'
        have hok2 := hM.out _ (List.mem_of_getElem? hja')
        clear hcs hbw
        have HV2 := HV.out
        rw [hd1, hd2] at HV2
        unfold cmpL at HV2
        replace HV2 := Lib.hid HV2
        clear hd1 hd2 hja hja' HV h1 h2 hL hM
        obtain ⟨c, hc⟩ : ∃ c, Hid (c = cmpYX (x0, x1) (y0, y1)) := ⟨_, rfl⟩
        have hcall := Lib.hid (fun W => compareYX_any x0 x1 y0 y1 hok1 hok2 W)
        rw [← hc.out] at hcall
        clear hok1 hok2
        by_cases hc0 : c = 0
        · have hcb : (c != 0) = false := by simp [hc0]
          have hvn : Hid (v = cmpL (L.drop (i + 1)) (M.drop (i + 1))) := by
            show _ = _
            rw [HV2.out, if_pos (by rw [← cmpYX_yx, ← hc.out]; exact hc0)]
          replace hc0 := Lib.hid hc0
          go_wp2_with (go_at_fn 71; refine (hcall.out _).mono ?_; rintro e w1 ⟨rfl, hg1⟩; replace hg1 : Grew _ w1 := hg1)
          go_roundg (n1 - (i + 1))
          case measure => omega
          case rel => exact ⟨i + 1, by go_num, by omega, Nat.le_refl _, by omega, hvn, ((hg.alloc _).alloc _).trans hg1⟩
        · have hcb : (c != 0) = true := by simp [hc0]
          have hvn : c = v := by rw [HV2.out, if_neg (by rw [← cmpYX_yx, ← hc.out]; exact hc0), ← cmpYX_yx]; exact hc.out
          replace hc0 := Lib.hid hc0
          clear hc HV2
          subst hvn
          go_wp2_with (go_at_fn 71; refine (hcall.out _).mono ?_; rintro e w1 ⟨rfl, hg1⟩; replace hg1 : Grew _ w1 := hg1)
          go_ret
          exact ⟨rfl, ((hg.alloc _).alloc _).trans hg1⟩
      · have hmz : ¬ (i : Int) < (n2 : Int) := by omega
        have hmz2 : (n2 : Int) ≤ (i : Int) := by omega
        have hv1 : v = 1 := by
          rw [HV.out, hd1, show M.drop i = [] from List.drop_of_length_le (by rw [hll.out.2]; omega)]; rfl
        subst hv1
        clear hd1 hja h1 h2 HV
        go_wp2_with fail
        go_ret
        exact ⟨rfl, hg.alloc _⟩
    · have hlz : ¬ (i : Int) < (n1 : Int) := by omega
      have hin : i = n1 := by omega
      subst hin
      have HV2 := HV.out
      rw [List.drop_of_length_le (by rw [hll.out.1]; omega), cmpL_nil_l, List.length_drop, hll.out.2] at HV2
      by_cases hm : i < n2
      · have hmz : (i : Int) < (n2 : Int) := by omega
        rw [if_neg (by omega)] at HV2
        subst HV2
        go_wp2_with fail
        go_ret
        exact ⟨rfl, hg⟩
      · have hmz : ¬ (i : Int) < (n2 : Int) := by omega
        rw [if_pos (by omega)] at HV2
        subst HV2
        go_wp2_with fail
        go_ret
        exact ⟨rfl, hg⟩
theorem comparePts_any (A1 A2 : Option Addr) (n1 c1 n2 c2 lo1 hi1 lo2 hi2 : Nat) (L M : List Pnt) (v : Int) (hv : v = cmpL L M) (w : World) (h1 : RdS 2 (FlatR ptC) w lo1 hi1 A1 n1 L) (h2 : RdS 2 (FlatR ptC) w lo2 hi2 A2 n2 M) (hh1 : hi1 ≤ w.heap.size) (hh2 : hi2 ≤ w.heap.size) (hn1 : n1 ≤ 1000000000) (hn2 : n2 ≤ 1000000000) (hL : ∀ p ∈ L, pt2Ok p = true) (hM : ∀ p ∈ M, pt2Ok p = true) :
    Calls Tryz.prog 63 #[.slice A1 n1 c1, .slice A2 n2 c2] w fun e w' => e = .returned (.int .i64 v) ∧ Grew w w' := by
  have hc := Lib.hid (compareFunc_any A1 A2 n1 c1 n2 c2 lo1 hi1 lo2 hi2 L M v hv w h1 h2 hh1 hh2 hn1 hn2 hL hM)
  clear h1 h2 hL hM hv
  go_enter Tryz.func63, Tryz.ntmps63
  go_wp2_with fail
  refine hc.out.mono ?_
  rintro e w1 ⟨rfl, hg1⟩
  go_wp2_with fail
  go_ret
  exact ⟨rfl, hg1⟩
theorem orderCmp_any (A1 A2 : Option Addr) (n1 c1 n2 c2 lo1 hi1 lo2 hi2 : Nat) (L M : List Pnt) (v : Int) (hv : v = cmpL L M) (w : World) (h1 : RdS 2 (FlatR ptC) w lo1 hi1 A1 n1 L) (h2 : RdS 2 (FlatR ptC) w lo2 hi2 A2 n2 M) (hh1 : hi1 ≤ w.heap.size) (hh2 : hi2 ≤ w.heap.size) (hn1 : n1 ≤ 1000000000) (hn2 : n2 ≤ 1000000000) (hL : ∀ p ∈ L, pt2Ok p = true) (hM : ∀ p ∈ M, pt2Ok p = true) :
    Calls Tryz.prog 62 #[.agg #[.slice A1 n1 c1], .agg #[.slice A2 n2 c2]] w fun e w' => e = .returned (.int .i64 v) ∧ Grew w w' := by
  have hc := Lib.hid (fun W (hW : Grew w W) => comparePts_any A1 A2 n1 c1 n2 c2 lo1 hi1 lo2 hi2 L M v hv W (h1.frame (good_flat _) (Below.sameB hW.below hh1)) (h2.frame (good_flat _) (Below.sameB hW.below hh2)) (by have := hW.below.size; omega) (by have := hW.below.size; omega) hn1 hn2 hL hM)
  clear h1 h2 hL hM hv
  go_enter Tryz.func62, Tryz.ntmps62
  go_wp2_with fail
  refine (hc.out _ (((Grew.refl w).alloc _).alloc _)).mono ?_
  rintro e w1 ⟨rfl, hg1⟩
  go_wp2_with fail
  go_ret
  exact ⟨rfl, (((Grew.refl w).alloc _).alloc _).trans hg1⟩
end Go.Proofs.YtlifiioflkhkoaaGreat

/- slices.SortStableFunc at rings. Conditions: as each states. -/
namespace Go.Proofs.YtlifiioflkhkoaaGreat
open Go.RowKit Go.Shelf Go.Lib Go.Sort Go.Proofs
set_option linter.unusedVariables false
set_option maxRecDepth 100000

def Tryz.insRing_ren : Go.Shelf.Ren := ⟨fun | 20 => 88 | n => n, fun | 24 => 42 | 22 => 24 | 3 => 3 | 25 => 99 | 4 => 4 | 0 => 0 | n => n, fun | n => n⟩
theorem Tryz.insRing : Go.Proofs.SlLaysF0.n20 Tryz.prog Tryz.insRing_ren := {
  mixed := by kernel_rfl
  f20 := ⟨Tryz.f88.name, by decide, Tryz.func88.trans (congrArg some (by kernel_rfl))⟩
  t0 := Tryz.underlying0
  a0 := Tryz.isAgg0
  z0 := Tryz.sizeOf0
  v0 := Tryz.zeroValue0
  t3 := Tryz.underlying3
  a3 := Tryz.isAgg3
  z3 := Tryz.sizeOf3
  v3 := Tryz.zeroValue3
  t4 := Tryz.underlying4
  a4 := Tryz.isAgg4
  z4 := Tryz.sizeOf4
  v4 := Tryz.zeroValue4
  t22 := Tryz.underlying24
  a22 := Tryz.isAgg24
  z22 := Tryz.sizeOf24
  v22 := Tryz.zeroValue24
  t25 := Tryz.underlying99
  a25 := Tryz.isAgg99
  z25 := Tryz.sizeOf99
  v25 := Tryz.zeroValue99 }

/-- a ring whose points lie outside of the row -/
def RgOk (w : World) (lo gb : Nat) (x : RgE) : Prop := x.2.n ≤ 1000000000 ∧ (∀ p ∈ x.1, pt2Ok p = true) ∧ ∃ lo' hi', lo ≤ lo' ∧ (gb < lo' ∨ hi' ≤ gb) ∧ hi' ≤ w.heap.size ∧ RdS 2 (FlatR ptC) w lo' hi' x.2.A x.2.n x.1
theorem Turned.sameB {w w' : World} {g lo hi : Nat} (h : Turned w g w') (hd : g < lo ∨ hi ≤ g) (hh : hi ≤ w.heap.size) : SameB lo hi w w' := fun k k1 k2 => h.block (by omega) (by omega)
theorem RgOk.turned {w w' : World} {lo gb : Nat} {x : RgE} (h : RgOk w lo gb x) (ht : Turned w gb w') : RgOk w' lo gb x := by
  obtain ⟨h1, h2, l, u, h3, h4, h5, h6⟩ := h
  exact ⟨h1, h2, l, u, h3, h4, by have := ht.size; omega, h6.frame (good_flat _) (ht.sameB h4 h5)⟩
theorem RgOk.rd {w : World} {lo gb : Nat} {x : RgE} (h : RgOk w lo gb x) : RdS 2 (FlatR ptC) w lo w.heap.size x.2.A x.2.n x.1 := by
  obtain ⟨h1, h2, l, u, h3, h4, h5, h6⟩ := h
  exact h6.wide (good_flat _) h3 h5
abbrev RgS (w : World) (lo gb : Nat) := {x : RgE // RgOk w lo gb x}
theorem rgok_nil (w : World) (lo gb : Nat) : RgOk w lo gb ([], ⟨none, 0, 0⟩) := ⟨by simp, by simp, max lo (gb + 1), 0, by omega, by omega, by omega, RdS.nil _ _ _ _ _ _⟩
instance (w : World) (lo gb : Nat) : Inhabited (RgS w lo gb) := ⟨⟨_, rgok_nil w lo gb⟩⟩
def encS {w : World} {lo gb : Nat} (x : RgS w lo gb) : List Value := encR x.1
def cfS {w : World} {lo gb : Nat} (x y : RgS w lo gb) : Int := cmpL x.1.1 y.1.1
theorem ltS {w : World} {lo gb : Nat} (x y : RgS w lo gb) : ltOf cfS x y = decide (cmpL x.1.1 y.1.1 < 0) := rfl
theorem swoS (w : World) (lo gb : Nat) : SWO (ltOf (cfS (w := w) (lo := lo) (gb := gb))) where
  irrefl x := by rw [ltS, decide_eq_false_iff_not, cmpL_zero.2 rfl]; omega
  trans x y z h1 h2 := by
    rw [ltS, decide_eq_true_iff] at *
    exact cmpL_trans h1 h2
  ntrans x y z h1 h2 := by
    rw [ltS, decide_eq_false_iff_not] at *
    intro h3
    have n1 := cmpL_neg x.1.1 y.1.1
    have n2 := cmpL_neg y.1.1 z.1.1
    have n3 := cmpL_neg x.1.1 z.1.1
    by_cases e1 : cmpL x.1.1 y.1.1 = 0
    · rw [cmpL_zero] at e1; rw [e1] at h3; omega
    · by_cases e2 : cmpL y.1.1 z.1.1 = 0
      · rw [cmpL_zero] at e2; rw [← e2] at h3; omega
      · have := cmpL_trans (A := z.1.1) (B := y.1.1) (C := x.1.1) (by omega) (by omega)
        omega
theorem cmpLaysS (w : World) (lo gb size : Nat) : CmpLays Tryz.prog 62 #[] encS 1 (cfS (w := w) (lo := lo) (gb := gb)) gb 0 size w := fun m os dk hs x y => by
  obtain ⟨⟨L, ⟨A1, n1, c1⟩⟩, hx⟩ := x
  obtain ⟨⟨M, ⟨A2, n2, c2⟩⟩, hy⟩ := y
  have ht : Turned w gb (sortWorldK encS 1 w gb 0 m dk os) := ⟨m, os, _, rfl⟩
  have h1 := hx.turned ht
  have h2 := hy.turned ht
  exact (orderCmp_any A1 A2 n1 c1 n2 c2 lo _ lo _ L M _ rfl _ h1.rd h2.rd (Nat.le_refl _) (Nat.le_refl _) h1.1 h2.1 h1.2.1 h2.2.1)
theorem flat_valS {w : World} {lo gb : Nat} (d : List (RgS w lo gb)) : d.flatMap encS = (d.map Subtype.val).flatMap encR := by
  rw [List.flatMap_map]; rfl
theorem attach_val {α : Type} {p : α → Prop} (L : List α) (h : ∀ x ∈ L, p x) : ∃ D : List {x // p x}, D.map Subtype.val = L := by
  induction L with
  | nil => exact ⟨[], rfl⟩
  | cons a L ih =>
    obtain ⟨D, hD⟩ := ih fun x hx => h x (List.mem_cons_of_mem _ hx)
    exact ⟨⟨a, h a List.mem_cons_self⟩ :: D, by rw [List.map_cons, hD]⟩
/-- in order, as lists of points -/
def OrdR (M : List RgE) : Prop := M.Pairwise fun x y => ¬ cmpL y.1 x.1 < 0
theorem sortRings_any (A : Option Addr) (n c lo : Nat) (D : List RgE) (w : World) (ho : w.ownsRow lo 42 1 (.slice A n c) n (D.flatMap encR)) (hl : D.length = n) (hn : n ≤ 1000000) (hD : ∀ gb, A = some ⟨gb, 0, none⟩ → ∀ x ∈ D, RgOk w lo gb x) :
    Calls Tryz.prog 61 #[.slice A n c, .func (.func 62) #[] #[]] w fun e w' =>
      e = .returned (.tuple #[]) ∧ ∃ M : List RgE, M.Perm D ∧ OrdR M ∧ w'.ownsRow lo 42 1 (.slice A n c) n (M.flatMap encR) ∧ (∀ x ∈ M, RdS 2 (FlatR ptC) w' lo w'.heap.size x.2.A x.2.n x.1) ∧ (lo ≤ w.heap.size → Below lo w w') := by
  have hcase : (n = 0 ∧ D = []) ∨ ∃ gb, A = some ⟨gb, 0, none⟩ := by
    by_cases h0 : 0 < n
    · obtain ⟨g, hg, _⟩ := own_at ho h0
      exact .inr ⟨g, hg⟩
    · have : n = 0 := by omega
      subst this
      exact .inl ⟨rfl, List.eq_nil_of_length_eq_zero hl⟩
  rcases hcase with ⟨rfl, rfl⟩ | ⟨gb, rfl⟩
  · refine (sortStable_none stR_lays Tryz.insRing rfl A c _ #[] w).mono ?_
    rintro e w' ⟨rfl, rfl⟩
    exact ⟨rfl, [], .refl _, List.Pairwise.nil, ho, (fun x hx => by cases hx), fun _ => Below.refl _ _⟩
  · obtain ⟨D', hD'⟩ := attach_val D (hD gb rfl)
    have hl' : D'.length = n := by rw [← hl, ← hD', List.length_map]
    obtain ⟨hgB, hgl⟩ := ho.lt gb rfl
    have eg : ∀ args w, (callFunc 62 args).run Tryz.prog w = .ok (.enter 62 args) w := enters_of Tryz.func62 (by kernel_rfl) rfl
    refine (sortStable_any stR_lays 1 (by omega) Tryz.isAgg42 Tryz.sizeOf42 encS (fun _ => rfl) (fun x v hv => by
      unfold encS encR at hv
      rw [List.mem_singleton] at hv
      subst hv; rfl) cfS (swoS w lo gb) _ #[] eg Tryz.insRing rfl rfl lo n c gb 42 D' w (by rw [flat_valS, hD']; exact ho) hl' (by omega) (cmpLaysS w lo gb n)).mono ?_
    rintro e w' ⟨rfl, M, hp, hs, ho', ht⟩
    refine ⟨rfl, M.map Subtype.val, ?_, ?_, ?_, ?_, fun hlo => ht.below hgB hlo⟩
    · rw [← hD']; exact hp.map _
    · unfold OrdR
      rw [List.pairwise_map]
      refine hs.imp fun {x y} h => ?_
      rw [ltS, decide_eq_false_iff_not] at h
      exact h
    · rw [← flat_valS]; exact ho'
    · intro x hx
      obtain ⟨y, hy, rfl⟩ := List.mem_map.1 hx
      exact (y.2.turned ht).rd
/-- the lists of points that are so ordered -/
theorem ord_is {M D : List RgE} (hp : M.Perm D) (ho : OrdR M) : M.map Prod.fst = (D.map Prod.fst).mergeSort leR := by
  refine List.Perm.eq_of_pairwise (le := fun X Y => ¬ cmpL Y X < 0) (fun a b _ _ h1 h2 => ?_) ?_ ?_ ?_
  · have := cmpL_neg a b
    exact cmpL_zero.1 (by omega)
  · rw [List.pairwise_map]; exact ho
  · refine (List.pairwise_mergeSort (le := leR) (fun a b c h1 h2 => ?_) (fun a b => ?_) _).imp fun {a b} h => ?_
    · unfold leR at *
      rw [Bool.not_eq_true', decide_eq_false_iff_not] at *
      intro h3
      have n1 := cmpL_neg a b
      have n2 := cmpL_neg b c
      have n3 := cmpL_neg a c
      by_cases e1 : cmpL a b = 0
      · rw [cmpL_zero] at e1; rw [e1] at h3; omega
      · by_cases e2 : cmpL b c = 0
        · rw [cmpL_zero] at e2; rw [← e2] at h3; omega
        · have := cmpL_trans (A := a) (B := b) (C := c) (by omega) (by omega)
          omega
    · unfold leR
      have := cmpL_neg a b
      by_cases h : cmpL b a < 0
      · rw [decide_eq_true h, decide_eq_false (by omega)]; rfl
      · rw [decide_eq_false h]; rfl
    · unfold leR at h
      rw [Bool.not_eq_true', decide_eq_false_iff_not] at h
      exact h
  · exact (hp.map _).trans (List.mergeSort_perm _ _).symm
end Go.Proofs.YtlifiioflkhkoaaGreat

/- slices.Clone at points. Conditions: as each states. -/
namespace Go.Proofs.YtlifiioflkhkoaaGreat
open Go.RowKit
set_option linter.unusedVariables false
set_option maxRecDepth 100000
set_option maxHeartbeats 1000000 in
theorem clonePtQ_any (A : Option Addr) (n c lo hi : Nat) (K : List Pnt) (w : World) (hr : RdS 2 (FlatR ptC) w lo hi A n K) (hn : n ≤ 1048576) (hz : A = none → n = 0) :
    Calls Tryz.prog 31 #[.slice A n c] w fun e w' => ∃ A' c', e = .returned (.slice A' n c') ∧ w'.ownsRow w.heap.size 28 2 (.slice A' n c') n (K.flatMap ptC) ∧ Below w.heap.size w w' := by
  have hs := src_rd ptC_len ptC_one hr
  have hl := hr.1
  have hu : Tryz.prog.underlying 40 = some (.slice 28) := Tryz.underlying40
  have q22 : ∀ (w : World) (a : Option Addr) (n c n' c' : Nat), (binOp .eql 40 (.slice a n c) (.slice none n' c')).run Tryz.prog w = .ok (.bool a.isNone) w := fun w a n c n' c' => Lib.run_eql_slice_nil w _ _ a n c n' c' hu
  clear hr
  cases A with
  | none =>
    obtain rfl := hz rfl
    have hK : K = [] := List.eq_nil_of_length_eq_zero hl
    subst hK
    clear hs hl hz
    go_enter Tryz.func31, Tryz.ntmps31
    go_wp2_with fail
    go_ret
    exact ⟨none, 0, rfl, World.ownsRow_nil _ _ _ _, Below.refl _ _⟩
  | some a =>
    replace hs := Lib.hid hs
    replace hl := Lib.hid hl
    clear hz
    go_enter Tryz.func31, Tryz.ntmps31
    go_wp2_with (at_builtin; refine wpApp rfl (.tmp 5) (.tmp 6) elemPt rfl (base := w.heap.size) (v := .slice (some ⟨w.heap.size, 0, none⟩) 0 0) rfl (World.ownsRow_made w #[] 0 (Nat.le_refl _) (Nat.zero_le _) rfl) rfl (src_new0 hs.out _) (by omega) (by omega) (by simp) n (by omega) ?_; intro A' c' w1 ho1 hb1; replace ho1 := Lib.hid ho1)
    go_ret
    exact ⟨A', c', rfl, by simpa using ho1.out, ((Below.refl _ _).alloc (Nat.le_refl _) _).trans hb1⟩

end Go.Proofs.YtlifiioflkhkoaaGreat

