/- FitRing: the reference's side. Conditions: as each states. -/
import Derived.Lib.AppendZerosOnto
import Derived.Lib.SliceRun
import Derived.Lib.Walk
import Derived.Test.YtgelkdcggnffeaaGreatFtg29
import Derived.Test.YtgelkdcggnffeaaGreatFtg30
import Derived.Test.YtgelkdcggnffeaaGreatFtg07
namespace Go.Proofs.YtgelkdcggnffeaaGreat
open Go.RowKit
set_option linter.unusedVariables false
set_option maxRecDepth 100000

theorem l13Ring_any (p off : Nat) (A : Option Addr) (n c lo hi : Nat) (L : List (Int × Int)) (v : Bool) (hv : v = pathOk L) (w : World) (hp : w.cell? ⟨p, off, none⟩ = some (.slice A n c)) (hr : RdS 2 (FlatR ptC) w lo hi A n L) (hhi : hi ≤ w.heap.size) (hn : n ≤ 1048576) :
    Calls Tryz.prog 32 #[.pointer (some ⟨p, off, none⟩)] w fun e w' => e = .returned (.bool v) ∧ Below w.heap.size w w' := by
  have hl := hr.1
  have hpl : p < w.heap.size := cell_lt hp
  unfold pathOk at hv
  rw [hl] at hv
  clear hl
  cases t0 : inB (n : Int) 1 400
  · have hvf : v = false := by rw [hv, t0]; rfl
    subst hvf
    clear hv hr
    go_enter Tryz.func32, Tryz.ntmps32
    go_wp2_with (go_at_call 40; refine (l00In_any _ _ _ _).mono ?_; rintro e w' ⟨rfl, rfl⟩)
    go_ret
    exact ⟨rfl, Below.refl _ _⟩
  · have hv' : v = L.all pt2Ok := by rw [hv, t0]; simp
    have hc := Lib.hid (l13Points_any A n c lo hi L v hv' w hr hhi hn)
    clear hv hv' hr
    go_enter Tryz.func32, Tryz.ntmps32
    go_wp2_with (first | (go_at_call 40; refine (l00In_any _ _ _ _).mono ?_; rintro e w' ⟨rfl, rfl⟩) | (go_at_call 55; refine hc.out.mono ?_; rintro e w1 ⟨rfl, hb1⟩))
    all_goals
      go_ret
      exact ⟨rfl, hb1⟩

set_option maxHeartbeats 4000000 in
theorem specFitRing_any (A : Option Addr) (n c lo hi : Nat) (L : List (Int × Int)) (t : Int) (K : List Knot) (cd : Int) (hv : frR L t = (K, cd)) (w : World) (hr : RdS 2 (FlatR ptC) w lo hi A n L) (hhi : hi ≤ w.heap.size) (hn : n ≤ 1048576) :
    Calls Tryz.prog 20 #[.agg #[.slice A n c], .int .i64 t] w fun e w' => ∃ (A' : Option Addr) (c' : Nat), e = .returned (.tuple #[.agg #[.slice A' K.length c'], .int .i64 cd]) ∧ w'.ownsRow w.heap.size 73 3 (.slice A' K.length c') K.length (K.flatMap knotC) ∧ Below w.heap.size w w' := by
  have hl := hr.1
  have hnew := heap_new2 w (.cells #[.slice A n c] 41 (0, 0)) (.cells #[.slice none 0 0] 49 (0, 0))
  have hB0 : Below w.heap.size w ((w.alloc (.cells #[.slice A n c] 41 (0, 0))).alloc (.cells #[.slice none 0 0] 49 (0, 0))) := Go.Joins.below_alloc2 _ _ _
  have hz0 : ((w.alloc (.cells #[.slice A n c] 41 (0, 0))).alloc (.cells #[.slice none 0 0] 49 (0, 0))).heap.size = w.heap.size + 2 := by simp
  have hr0 := Lib.hid (hr.frame (good_flat _) (Below.sameB hB0 hhi))
  obtain ⟨v, hvv⟩ : ∃ v, v = pathOk L := ⟨_, rfl⟩
  unfold frR at hv
  rw [← hvv] at hv
  have hrg := Lib.hid (fun W hp hr hh => l13Ring_any w.heap.size 0 A n c lo hi L v hvv W hp hr hh hn)
  replace hvv := Lib.hid hvv
  clear hr
  go_enter Tryz.func20, Tryz.ntmps20
  go_upto_region 1 with fail
  generalize (w.alloc (.cells #[.slice A n c] 41 (0, 0))).alloc (.cells #[.slice none 0 0] 49 (0, 0)) = w0 at *
  have p0 : w0.cell? ⟨w.heap.size, 0, none⟩ = some (.slice A n c) := by rw [Go.Joins.cell_of_block hnew.1]; rfl
  go_wp2_with fail
  refine (hrg.out w0 p0 hr0.out (by omega)).mono ?_
  rintro e w1 ⟨rfl, hb1⟩
  have hz1 := hb1.size
  have hB1 := Lib.hid (hB0.trans (hb1.mono hB0.size))
  have p1 := (hb1.cell (p := ⟨w.heap.size, 0, none⟩) (by show w.heap.size < _; omega)).trans p0
  have hR1 := Lib.hid ((hb1.block (w.heap.size + 1) (by omega)).trans hnew.2)
  have hr1 := Lib.hid (hr0.out.frame (good_flat _) (Below.sameB hb1 (by omega)))
  have pl1 : w.heap.size < w1.heap.size := by omega
  have r0 : w1.cell? ⟨w.heap.size + 1, 0, none⟩ = some (.slice none 0 0) := by rw [Go.Joins.cell_of_block hR1.out]; rfl
  have rf := Go.Joins.unfrozen_of_block hR1.out
  have rl : w.heap.size + 1 < w1.heap.size := by omega
  clear hrg hr0 p0 hb1 hnew hB0
  cases v with
  | false =>
    rw [if_pos rfl] at hv
    injection hv with e1 e2
    subst e1 e2
    go_wp2_with fail
    refine bodyPost_ret (v := .tuple #[.agg #[.slice none 0 0], .int .i64 1]) (by simp [results, Tryz.results20, go_sem, r0]) rfl ⟨none, 0, rfl, World.ownsRow_nil _ _ _ _, ?_⟩
    exact hB1.out.setCell (by show w.heap.size ≤ w.heap.size + 1; omega) _
  | true =>
    rw [if_neg (by simp)] at hv
    obtain ⟨hn1, hn4, hLok⟩ := pathOk_is hvv.out.symm
    rw [hl] at hn1 hn4
    have htl := Lib.hid (l09Tolerance_any t w1)
    go_wp2_with fail
    refine htl.out.mono ?_
    rintro e w' ⟨rfl, rfl⟩
    cases ht : inB t 1 262144 with
    | false =>
      rw [ht, if_pos rfl] at hv
      injection hv with e1 e2
      subst e1 e2
      go_wp2_with fail
      refine bodyPost_ret (v := .tuple #[.agg #[.slice none 0 0], .int .i64 2]) (by simp [results, Tryz.results20, go_sem, r0]) rfl ⟨none, 0, rfl, World.ownsRow_nil _ _ _ _, ?_⟩
      exact hB1.out.setCell (by show w.heap.size ≤ w.heap.size + 1; omega) _
    | true =>
      rw [ht, if_neg (by simp)] at hv
      rw [inB_iff] at ht
      have hcall := Lib.hid (l16Ring_any A n c lo hi L t (ringK L t) rfl w1 hr1.out (by omega) hn1 hn4 hLok ht.1 ht.2)
      generalize ringK L t = KK at *
      go_wp2_with fail
      refine hcall.out.mono ?_
      rintro e w2 ⟨A', c', rfl, ho, hb2⟩
      have hz2 := hb2.size
      have hb3 := hb2.trans ((Go.Joins.below_alloc1 w2 (.cells #[.slice A' KK.length c'] 49 (0, 0))).mono hz2)
      have ho3 := Lib.hid (own_below ho (Go.Joins.below_alloc1 w2 (.cells #[.slice A' KK.length c'] 49 (0, 0))))
      have hX3 := Lib.hid (heap_alloc_new w2 (.cells #[.slice A' KK.length c'] 49 (0, 0)))
      have hz3 : w2.heap.size + 1 = (w2.alloc (.cells #[.slice A' KK.length c'] 49 (0, 0))).heap.size := by simp
      clear hcall hb2 ho
      go_upto_region 6 with fail
      generalize w2.alloc (.cells #[.slice A' KK.length c'] 49 (0, 0)) = w3 at *
      obtain ⟨X, hXe⟩ : ∃ X, X = w2.heap.size := ⟨_, rfl⟩
      rw [← hXe] at hX3 hz2 hz3 ⊢
      clear hXe
      have hB2 := Lib.hid (hB1.out.trans (hb3.mono (by omega)))
      have hR2 := Lib.hid ((hb3.block (w.heap.size + 1) rl).trans hR1.out)
      have r2 : w3.cell? ⟨w.heap.size + 1, 0, none⟩ = some (.slice none 0 0) := by rw [Go.Joins.cell_of_block hR2.out]; rfl
      have rf2 := Go.Joins.unfrozen_of_block hR2.out
      have rl2 : w.heap.size + 1 < w3.heap.size := by omega
      have x0 : w3.cell? ⟨X, 0, none⟩ = some (.slice A' KK.length c') := by rw [Go.Joins.cell_of_block hX3.out]; rfl
      have xl : X < w3.heap.size := by omega
      have hzz : w.heap.size + 1 < w1.heap.size := rl
      clear r0 rf rl p1 pl1 hR1 hr1 hB1 hb3 hX3
      by_cases h60 : 60 < KK.length
      · have h60i : (60 : Int) < (KK.length : Int) := by omega
        rw [if_pos h60] at hv
        injection hv with e1 e2
        subst e1 e2
        go_wp2_with fail
        refine bodyPost_ret (v := .tuple #[.agg #[.slice none 0 0], .int .i64 5]) (by simp [results, Tryz.results20, go_sem, r2]) rfl ⟨none, 0, rfl, World.ownsRow_nil _ _ _ _, ?_⟩
        exact hB2.out.setCell (by show w.heap.size ≤ w.heap.size + 1; omega) _
      · have h60i : ¬ (60 : Int) < (KK.length : Int) := by omega
        rw [if_neg h60] at hv
        injection hv with e1 e2
        subst e1 e2
        go_wp2_with fail
        refine bodyPost_ret (v := .tuple #[.agg #[.slice A' KK.length c'], .int .i64 0]) (by simp [results, Tryz.results20, go_sem, r2]) rfl ⟨A', c', rfl, ?_, ?_⟩
        · exact own_lower (ownsRow_setCell_below ho3.out (by show w.heap.size + 1 < w1.heap.size; omega) _) (by omega)
        · exact hB2.out.setCell (by show w.heap.size ≤ w.heap.size + 1; omega) _
end Go.Proofs.YtgelkdcggnffeaaGreat

/- The fit of a way: the program's side. Conditions: as each states. -/
namespace Go.Proofs.YtgelkdcggnffeaaGreat
open Go.RowKit
set_option linter.unusedVariables false
set_option maxRecDepth 100000

theorem RdS.part {w : World} {lo hi b off n i k : Nat} {L : List (Int × Int)} (h : RdS 2 (FlatR ptC) w lo hi (some ⟨b, off, none⟩) n L) (hik : i + k < n) : RdS 2 (FlatR ptC) w lo hi (some ⟨b, off + i * 2, none⟩) (k + 1) (partP L i k) := by
  have hl := h.1
  refine ⟨partP_len (by omega), fun _ => ?_⟩
  obtain ⟨b', off', hA, h1, h2, h3⟩ := h.2 (by omega)
  injection hA with hA
  injection hA with e1 e2
  subst e1 e2
  refine ⟨b, off + i * 2, rfl, h1, h2, fun j a hj => ?_⟩
  have hjk : j < k + 1 := by have := (List.getElem?_eq_some_iff.1 hj).1; rw [partP_len (by omega)] at this; exact this
  rw [partP_at (by omega)] at hj
  obtain ⟨es, e3, e4, e5⟩ := h3 (i + j) a hj
  refine ⟨es, e3, fun u x hu => ?_, e5⟩
  have := e4 u x hu
  rw [Nat.add_mul, ← Nat.add_assoc] at this
  exact this
theorem partP_part {P : List (Int × Int)} {i m k : Nat} (hk : k ≤ m) : partP (partP P i m) 0 k = partP P i k := by
  unfold partP
  rw [List.drop_zero, List.take_take, Nat.min_eq_left (by omega)]
theorem fitW_part {P : List (Int × Int)} {i m : Nat} {t : Int} : ∀ {k : Nat}, k ≤ m → fitW (partP P i m) 0 t k = fitW P i t k := by
  intro k
  induction k with
  | zero => intro _; rfl
  | succ k ih =>
    intro hk
    rcases Nat.lt_or_ge k 1 with h | h
    · rw [fitW_small (by omega), fitW_small (by omega)]
    have hs : strW (partP P i m) 0 (k + 1) t = strW P i (k + 1) t := by
      unfold strW
      rw [partP_part hk, partP_pt (Nat.zero_le _), partP_pt (by omega), Nat.zero_add]; rfl
    have hp := partP_part (P := P) (i := i) hk
    cases h1 : strW P i (k + 1) t with
    | true => rw [fitW_str (by omega) (hs.trans h1), fitW_str (by omega) h1]
    | false =>
      cases h2 : fitB (partP P i (k + 1)) t with
      | some p => rw [fitW_fit (by omega) (hs.trans h1) (by rw [hp]; exact h2), fitW_fit (by omega) h1 h2]
      | none => rw [fitW_next (by omega) (hs.trans h1) (by rw [hp]; exact h2), fitW_next (by omega) h1 h2]; exact ih (by omega)

theorem cells6 {w : World} {g : Nat} {a b c d e f : Value} {T : TypeId} (h : w.heap[g]? = some (.cells #[a, b, c, d, e, f] T (0, 0))) : w.cell? ⟨g, 0, none⟩ = some a ∧ w.cell? ⟨g, 1, none⟩ = some b ∧ w.cell? ⟨g, 2, none⟩ = some c ∧ w.cell? ⟨g, 3, none⟩ = some d ∧ w.cell? ⟨g, 4, none⟩ = some e ∧ w.cell? ⟨g, 5, none⟩ = some f := by
  refine ⟨?_, ?_, ?_, ?_, ?_, ?_⟩ <;> (rw [Go.Joins.cell_of_block h]; rfl)
/-- what a fit of a way returns -/
def WayPost (L : List (Int × Int)) (t : Int) (n : Nat) (e : Ending) : Prop := ∃ (k : Nat) (a0 a1 a2 a3 a4 a5 : Int) (v : Bool), e = .returned (.tuple #[.int .i64 k, .agg #[.int .i64 a0, .int .i64 a1, .int .i64 a2, .int .i64 a3, .int .i64 a4, .int .i64 a5], .bool v]) ∧
  fitW L 0 t n = (k, if v = true then some (a2, a3) else none)

set_option maxHeartbeats 8000000 in
theorem fitWay_any (b off n c lo hi : Nat) (L : List (Int × Int)) (t : Int) (w : World) (hr : RdS 2 (FlatR ptC) w lo hi (some ⟨b, off, none⟩) n L) (hhi : hi ≤ w.heap.size) (hn1 : 2 ≤ n) (hn : n ≤ 401) (hc : n ≤ c) (hL : ∀ p ∈ L, ptOk p.1 p.2 = true) (hcl : n = 401 → ptAt L 0 = ptAt L (n - 1)) (ht0 : 1 ≤ t) (ht1 : t ≤ 262144) :
    Calls Tryz.prog 39 #[.slice (some ⟨b, off, none⟩) n c, .int .i64 t] w fun e w' => WayPost L t (n - 1) e ∧ Below w.heap.size w w' := by
  have hl := hr.1
  have hB0 : Below w.heap.size w (w.alloc (.cells #[.int .i64 0, .int .i64 0, .int .i64 0, .int .i64 0, .int .i64 0, .int .i64 0] 87 (0, 0))) := Go.Joins.below_alloc1 _ _
  have hR0 := Lib.hid (heap_alloc_new w (.cells #[.int .i64 0, .int .i64 0, .int .i64 0, .int .i64 0, .int .i64 0, .int .i64 0] 87 (0, 0)))
  have hr0 := Lib.hid (hr.frame (good_flat _) (Below.sameB hB0 hhi))
  have hz0 : (w.alloc (.cells #[.int .i64 0, .int .i64 0, .int .i64 0, .int .i64 0, .int .i64 0, .int .i64 0] 87 (0, 0))).heap.size = w.heap.size + 1 := by simp
  have hll := Lib.hid hl
  obtain ⟨m, hm⟩ : ∃ m, m = n - 1 := ⟨_, rfl⟩
  rw [← hm]
  have q0 : IntKind.i64.wrap ((n : Int) - 1) = (m : Int) := by rw [wi (by omega)]; omega
  have hmn : m + 1 = n := by omega
  replace hm := Lib.hid hm
  replace hmn := Lib.hid hmn
  replace hcl := Lib.hid hcl
  replace hL := Lib.hid hL
  clear hr hl
  go_enter Tryz.func39, Tryz.ntmps39
  go_upto_region 1 with fail
  generalize w.alloc (.cells #[.int .i64 0, .int .i64 0, .int .i64 0, .int .i64 0, .int .i64 0, .int .i64 0] 87 (0, 0)) = w0 at *
  replace hB0 := Lib.hid hB0
  go_wp2_with fail
  clear q0
  go_loopw [7] (fun kv wr => ∃ k : Nat, kv = .int .i64 k ∧ 1 ≤ k ∧ k ≤ m ∧ fitW L 0 t m = fitW L 0 t k ∧ Below w0.heap.size w0 wr) (fun kv wr => (intOf kv).toNat)
  case atStart => exact ⟨m, rfl, by have := hmn.out; omega, Nat.le_refl _, rfl, Below.refl _ _⟩
  case round =>
    obtain ⟨k, rfl, hk1, hk2, hfk, hbel⟩ := hrel
    have hz := hbel.size
    have hr1 := Lib.hid (hr0.out.frame (good_flat _) (Below.sameB hbel (by omega)))
    have hR1 := Lib.hid ((hbel.block w.heap.size (by omega)).trans hR0.out)
    have hB1 := Lib.hid (hB0.out.trans (hbel.mono (by omega)))
    replace hfk := Lib.hid hfk
    by_cases hk : 1 < k
    rotate_left
    · have hke : k = 1 := by omega
      subst hke
      have r0 := cells6 hR1.out
      have rf := Go.Joins.unfrozen_of_block hR1.out
      have rl : w.heap.size < wr.heap.size := by omega
      obtain ⟨r0, r1, r2, r3, r4, r5⟩ := r0
      go_wp2_with fail
      refine bodyPost_ret (v := .tuple #[.int .i64 1, .agg #[.int .i64 0, .int .i64 0, .int .i64 0, .int .i64 0, .int .i64 0, .int .i64 0], .bool false]) (by simp [results, Tryz.results39, go_sem, r0, r1, r2, r3, r4, r5]) rfl ⟨⟨1, 0, 0, 0, 0, 0, 0, false, rfl, by rw [hfk.out, fitW_small (Nat.le_refl _)]; rfl⟩, ?_⟩
      exact (((((hB1.out.setCell (p := ⟨w.heap.size, 0, none⟩) (Nat.le_refl _) _).setCell (p := ⟨w.heap.size, 1, none⟩) (Nat.le_refl _) _).setCell (p := ⟨w.heap.size, 2, none⟩) (Nat.le_refl _) _).setCell (p := ⟨w.heap.size, 3, none⟩) (Nat.le_refl _) _).setCell (p := ⟨w.heap.size, 4, none⟩) (Nat.le_refl _) _).setCell (p := ⟨w.heap.size, 5, none⟩) (Nat.le_refl _) _
    have hki : (1 : Int) < (k : Int) := by omega
    obtain ⟨k1, hk1e⟩ : ∃ k1, k1 = k + 1 := ⟨_, rfl⟩
    have hkn : k < n := by have := hmn.out; omega
    have hmn1 := hmn.out
    have q1 : IntKind.i64.wrap ((k : Int) + 1) = (k1 : Int) := by rw [wi (by omega)]; omega
    have i1 : (0 : Int) ≤ (k1 : Int) ∧ (k1 : Int) ≤ (c : Int) := by omega
    have i2 : k1 ≤ c := by omega
    have i3 : (k1 : Int) ≤ (c : Int) := by omega
    have hpart0 := hr1.out.part (i := 0) (k := k) (by omega)
    rw [Nat.zero_mul, Nat.add_zero] at hpart0
    have hpok : ∀ p ∈ partP L 0 k, ptOk p.1 p.2 = true := fun p hp => hL.out p (by unfold partP at hp; exact List.mem_of_mem_drop (List.mem_of_mem_take hp))
    obtain ⟨v, hv⟩ : ∃ v, v = strW L 0 k t := ⟨_, rfl⟩
    have hv2 : v = withinB (partP L 0 k) [ptAt (partP L 0 k) 0, ptAt (partP L 0 k) (k + 1 - 1)] t := by
      rw [hv, partP_pt (Nat.zero_le _), Nat.add_sub_cancel, partP_pt (Nat.le_refl _)]; rfl
    have hst := Lib.hid (straightWay_any (some ⟨b, off, none⟩) (k + 1) c lo hi (partP L 0 k) t v hv2 wr hpart0 (by omega) (by omega) (by omega) hpok (by omega) ht1)
    rw [← hk1e] at hst hpart0
    have hpart := Lib.hid hpart0
    replace hpok := Lib.hid hpok
    replace hv := Lib.hid hv
    replace hk1e := Lib.hid hk1e
    clear hpart0 hv2 hmn1
    go_wp2_with fail
    refine hst.out.mono ?_
    rintro e w2 ⟨rfl, hb2⟩
    have hz2 := hb2.size
    have hR2 := Lib.hid ((hb2.block w.heap.size (by omega)).trans hR1.out)
    have hB2 := Lib.hid (hB1.out.trans (hb2.mono (by omega)))
    have hbel2 := Lib.hid (hbel.trans (hb2.mono hz))
    have hpart2 := Lib.hid (hpart.out.frame (good_flat _) (Below.sameB hb2 (by omega)))
    clear hst hb2 hpart hR1 hB1 q1 i1 i2 i3
    cases v with
    | true =>
      obtain ⟨r0, r1, r2, r3, r4, r5⟩ := cells6 hR2.out
      have rf := Go.Joins.unfrozen_of_block hR2.out
      have rl : w.heap.size < w2.heap.size := by omega
      go_wp2_with fail
      refine bodyPost_ret (v := .tuple #[.int .i64 k, .agg #[.int .i64 0, .int .i64 0, .int .i64 0, .int .i64 0, .int .i64 0, .int .i64 0], .bool false]) (by simp [results, Tryz.results39, go_sem, r0, r1, r2, r3, r4, r5]) rfl ⟨⟨k, 0, 0, 0, 0, 0, 0, false, rfl, by rw [hfk.out, fitW_str hk hv.out.symm]; rfl⟩, ?_⟩
      exact (((((hB2.out.setCell (p := ⟨w.heap.size, 0, none⟩) (Nat.le_refl _) _).setCell (p := ⟨w.heap.size, 1, none⟩) (Nat.le_refl _) _).setCell (p := ⟨w.heap.size, 2, none⟩) (Nat.le_refl _) _).setCell (p := ⟨w.heap.size, 3, none⟩) (Nat.le_refl _) _).setCell (p := ⟨w.heap.size, 4, none⟩) (Nat.le_refl _) _).setCell (p := ⟨w.heap.size, 5, none⟩) (Nat.le_refl _) _
    | false =>
      by_cases h4 : 400 < k1
      · have h4i : (400 : Int) < (k1 : Int) := by omega
        have hk400 : k = 400 := by have := hk1e.out; omega
        have hfn : fitB (partP L 0 k) t = none := by
          have hn401 : n = 401 := by omega
          have e0 : ptAt (partP L 0 k) 0 = ptAt L 0 := by rw [partP_pt (Nat.zero_le _)]
          have e1 : ptAt (partP L 0 k) ((partP L 0 k).length - 1) = ptAt L (n - 1) := by
            rw [partP_len (by have := hll.out; omega), Nat.add_sub_cancel, partP_pt (Nat.le_refl _)]; congr 1; omega
          refine fit_closed (by rw [partP_len (by have := hll.out; omega)]; omega) (by rw [e0, e1]; exact hcl.out hn401) hpok.out ?_
          rw [e0, e1]
          have := hv.out
          unfold strW at this
          rw [show n - 1 = 0 + k by omega, ← this]
        replace hfn := Lib.hid hfn
        go_wp2_with fail
        go_roundw
        case rel => exact ⟨k - 1, by go_num, by omega, by omega, by rw [hfk.out, fitW_next hk hv.out.symm hfn.out], hbel2.out⟩
        case measure => simp [intOf]; omega
      · have h4i : ¬ (400 : Int) < (k1 : Int) := by omega
        have hft := Lib.hid (fitQuad_any (some ⟨b, off, none⟩) k1 c lo hi (partP L 0 k) t w2 hpart2.out (by omega) (by have := hk1e.out; omega) (by omega) hpok.out (by omega) ht1)
        go_wp2_with fail
        refine hft.out.mono ?_
        rintro e w3 ⟨⟨hfn, rfl⟩ | ⟨qx, qy, hfs, rfl⟩, hb3⟩
        · have hz3 := hb3.size
          replace hfn := Lib.hid hfn
          have hbel3 := Lib.hid (hbel2.out.trans (hb3.mono (by omega)))
          clear hft hb3
          go_wp2_with fail
          go_roundw
          case rel => exact ⟨k - 1, by go_num, by omega, by omega, by rw [hfk.out, fitW_next hk hv.out.symm hfn.out], hbel3.out.alloc (by omega) _⟩
          case measure => simp [intOf]; omega
        · have hz3 := hb3.size
          replace hfs := Lib.hid hfs
          generalize (ptAt (partP L 0 k) 0).1 = a0
          generalize (ptAt (partP L 0 k) 0).2 = a1
          generalize (ptAt (partP L 0 k) ((partP L 0 k).length - 1)).1 = a4
          generalize (ptAt (partP L 0 k) ((partP L 0 k).length - 1)).2 = a5
          have hbox := heap_alloc_new w3 (.cells #[.int .i64 a0, .int .i64 a1, .int .i64 qx, .int .i64 qy, .int .i64 a4, .int .i64 a5] 87 (0, 0))
          have hb4 := hb3.trans ((Go.Joins.below_alloc1 w3 (.cells #[.int .i64 a0, .int .i64 a1, .int .i64 qx, .int .i64 qy, .int .i64 a4, .int .i64 a5] 87 (0, 0))).mono hz3)
          have hz4 : w3.heap.size + 1 = (w3.alloc (.cells #[.int .i64 a0, .int .i64 a1, .int .i64 qx, .int .i64 qy, .int .i64 a4, .int .i64 a5] 87 (0, 0))).heap.size := by simp
          clear hft hb3
          go_upto_region 9 with fail
          generalize w3.alloc (.cells #[.int .i64 a0, .int .i64 a1, .int .i64 qx, .int .i64 qy, .int .i64 a4, .int .i64 a5] 87 (0, 0)) = w4 at *
          obtain ⟨Y, hYe⟩ : ∃ Y, Y = w3.heap.size := ⟨_, rfl⟩
          rw [← hYe] at hbox hz4 ⊢
          have hYX : w.heap.size < Y := by omega
          clear hYe
          obtain ⟨y0, y1, y2, y3, y4, y5⟩ := cells6 hbox
          have yl : Y < w4.heap.size := by omega
          have hR4 := Lib.hid ((hb4.block w.heap.size (by omega)).trans hR2.out)
          have hB4 := Lib.hid (hB2.out.trans (hb4.mono (by omega)))
          obtain ⟨r0, r1, r2, r3, r4, r5⟩ := cells6 hR4.out
          have rf := Go.Joins.unfrozen_of_block hR4.out
          have rl : w.heap.size < w4.heap.size := by omega
          clear hbox hb4
          go_wp2_with fail
          go_region
          all_goals
            go_wp2_with fail
            refine bodyPost_ret (v := .tuple #[.int .i64 k, .agg #[.int .i64 a0, .int .i64 a1, .int .i64 qx, .int .i64 qy, .int .i64 a4, .int .i64 a5], .bool true]) (by simp [results, Tryz.results39, go_sem, r0, r1, r2, r3, r4, r5]) rfl ⟨⟨k, a0, a1, qx, qy, a4, a5, true, rfl, by rw [hfk.out, fitW_fit hk hv.out.symm hfs.out]; rfl⟩, ?_⟩
            refine Below.drew ?_
            exact (((((hB4.out.setCell (p := ⟨w.heap.size, 0, none⟩) (Nat.le_refl _) _).setCell (p := ⟨w.heap.size, 1, none⟩) (Nat.le_refl _) _).setCell (p := ⟨w.heap.size, 2, none⟩) (Nat.le_refl _) _).setCell (p := ⟨w.heap.size, 3, none⟩) (Nat.le_refl _) _).setCell (p := ⟨w.heap.size, 4, none⟩) (Nat.le_refl _) _).setCell (p := ⟨w.heap.size, 5, none⟩) (Nat.le_refl _) _
end Go.Proofs.YtgelkdcggnffeaaGreat

/- slices.Index at bool; slices.Grow and slices.Concat at points. Conditions: as each states. -/
namespace Go.Proofs.YtgelkdcggnffeaaGreat
open Go.RowKit
set_option linter.unusedVariables false
set_option maxRecDepth 100000

theorem indexBool_any (A : Option Addr) (n c lo hi : Nat) (Cs : List Bool) (w : World) (hr : RdS 1 (FlatR boolC) w lo hi A n Cs) (hhi : hi ≤ w.heap.size) (hn : n ≤ 1000000) :
    Calls Tryz.prog 37 #[.slice A n c, .bool true] w fun e w' => ∃ r : Int, e = .returned (.int .i64 r) ∧ ((∃ k : Nat, r = k ∧ Cs[k]? = some true ∧ ∀ j, j < k → Cs[j]? = some false) ∨ (r = -1 ∧ ∀ j, j < n → Cs[j]? = some false)) ∧ w = w' := by
  replace hr := Lib.hid hr
  go_enter Tryz.func37, Tryz.ntmps37
  go_wp2
  go_loop [8] (fun i => ∃ k : Nat, k ≤ n ∧ i = .int .i64 k ∧ ∀ j, j < k → Cs[j]? = some false) (fun i => n - (intOf i).toNat)
  case atStart => exact ⟨0, Nat.zero_le _, rfl, fun j hj => absurd hj (Nat.not_lt_zero j)⟩
  case round =>
    obtain ⟨k, hk, rfl, hall⟩ := hrel
    replace hall := Lib.hid hall
    by_cases hlt : k < n
    · obtain ⟨b, off, v, rfl, hb0, hb, hja, hcs⟩ := hr.out.at hlt
      have q0 := hcs 0 _ rfl
      simp only [Nat.mul_one, Nat.add_zero] at q0
      have hbw : b < w.heap.size := by omega
      replace hja := Lib.hid hja
      have hi1 : (0 : Int) ≤ (k : Int) ∧ (k : Int) < (n : Int) := by omega
      clear hcs hb0 hb
      cases v with
      | true =>
        go_wp2
        go_ret
        exact ⟨k, rfl, .inl ⟨k, rfl, hja.out, hall.out⟩, rfl⟩
      | false =>
        go_wp2
        go_round
        case rel => exact ⟨k + 1, by omega, by go_num, fun j hj => by
          rcases Nat.lt_or_ge j k with h | h
          · exact hall.out j h
          · obtain rfl : j = k := by omega
            exact hja.out⟩
        case measure => simp [intOf]; omega
    · go_wp2
      go_ret
      exact ⟨-1, rfl, .inr ⟨rfl, fun j hj => hall.out j (by omega)⟩, rfl⟩

set_option maxHeartbeats 1000000 in
theorem growPt_any (n : Nat) (w : World) (h0 : 1 ≤ n) (hn : n ≤ 1000000) :
    Calls Tryz.prog 58 #[.slice none 0 0, .int .i64 n] w fun e w' => ∃ (A' : Option Addr) (c' : Nat), e = .returned (.slice A' 0 c') ∧ w'.ownsRow w.heap.size 71 2 (.slice A' 0 c') 0 [] ∧ Below w.heap.size w w' := by
  obtain ⟨i0, hi0, hz0, hs0, hby0⟩ := info_parts infoPt
  have hrz : ∀ ty, (Builtin.append_ #[39, 3] ty #[.slice none 0 0, .int .i64 n]).run Tryz.prog w = .ok (.slice (some ⟨w.heap.size, 0, none⟩) n (grownCap w n 0 71)) (w.drew.alloc (.cells (#[] ++ Builtin.zeroCells #[.int .i64 0, .int .i64 0] n ++ Builtin.zeroCells #[.int .i64 0, .int .i64 0] (grownCap w n 0 71 - n)) 71)) := fun ty => by
    have h := Lib.run_append_grow_zeros w 39 3 ty 71 i0 (.agg #[.int .i64 0, .int .i64 0]) .i64 .i64 Tryz.underlying39 Tryz.underlying3 hi0 hz0 none 0 0 [] (by exact run_firstCells_none w.drew i0.size 0 0 0) n (by omega) (by rw [hs0]; omega) (by omega) (by omega) (by rw [hby0]; omega) (growslice_fits (by omega) (by rw [hby0]; omega))
    rw [Nat.zero_add] at h
    exact h
  have hGn : n ≤ grownCap w n 0 71 := grownCap_ge w _ _ _
  have hG63 : grownCap w n 0 71 ≤ maxLen := grownCap_le_maxLen w n 0 71 (by unfold maxLen; omega)
  generalize grownCap w n 0 71 = G at *
  have hsz : (#[] ++ Builtin.zeroCells #[Value.int .i64 0, Value.int .i64 0] n ++ Builtin.zeroCells #[Value.int .i64 0, Value.int .i64 0] (G - n)).size = G * 2 := by
    rw [Array.size_append, Array.size_append, size_zeroCells, size_zeroCells]
    show 0 + n * 2 + (G - n) * 2 = G * 2
    omega
  generalize (#[] ++ Builtin.zeroCells #[Value.int .i64 0, Value.int .i64 0] n ++ Builtin.zeroCells #[Value.int .i64 0, Value.int .i64 0] (G - n)) = cur at *
  have hni : ¬ ((n : Int) < 0) := by omega
  have hnp : (0 : Int) < (n : Int) := by omega
  have q1 : IntKind.i64.wrap ((n : Int) - 0) = (n : Int) := by rw [wi (by omega)]; omega
  have hG2 : (G : Int) ≤ 9223372036854775807 := by unfold maxLen at hG63; omega
  have hown : (w.drew.alloc (.cells cur 71 (0, 0))).ownsRow w.heap.size 71 2 (.slice (some ⟨w.heap.size, 0, none⟩) 0 G) 0 [] := World.ownsRow_made w.drew cur G (Nat.le_refl _) hG63 hsz
  have hbw : Below w.heap.size w (w.drew.alloc (.cells cur 71 (0, 0))) := (Below.drew (Below.refl _ w)).alloc (Nat.le_refl _) _
  replace hown := Lib.hid hown
  replace hbw := Lib.hid hbw
  clear hsz hG63
  go_enter Tryz.func58, Tryz.ntmps58
  go_wp2_with (at_builtin; refine Lib.wpList_append_run _ rfl _ _ _ _ rfl _ _ rfl rfl _ _ (hrz _) ?_)
  all_goals
    go_ret
    exact ⟨_, _, rfl, hown.out, hbw.out⟩

theorem ptC_one (a : Int × Int) : ∀ u ∈ ptC a, u.oneCell' = true := by
  intro u hu
  simp only [ptC, List.mem_cons, List.not_mem_nil, or_false] at hu
  rcases hu with rfl | rfl <;> rfl

set_option maxHeartbeats 4000000 in
theorem concatPt_any (g : Nat) (A1 A2 : Option Addr) (n1 c1 n2 c2 lo hi : Nat) (L1 L2 : List (Int × Int)) (w : World) (h1 : w.cell? ⟨g, 0, none⟩ = some (.slice A1 n1 c1)) (h2 : w.cell? ⟨g, 1, none⟩ = some (.slice A2 n2 c2)) (hr1 : RdS 2 (FlatR ptC) w lo hi A1 n1 L1) (hr2 : RdS 2 (FlatR ptC) w lo hi A2 n2 L2) (hhi : hi ≤ w.heap.size) (h0 : 1 ≤ n1 + n2) (hn : n1 + n2 ≤ 100000) :
    Calls Tryz.prog 38 #[.slice (some ⟨g, 0, none⟩) 2 2] w fun e w' => ∃ (A' : Option Addr) (c' : Nat), e = .returned (.slice A' (n1 + n2) c') ∧ w'.ownsRow w.heap.size 71 2 (.slice A' (n1 + n2) c') (n1 + n2) ((L1 ++ L2).flatMap ptC) ∧ Below w.heap.size w w' := by
  have hgl : g < w.heap.size := cell_lt h1
  have hgr := Lib.hid (growPt_any (n1 + n2) w h0 (by omega))
  obtain ⟨N, hN⟩ : ∃ N, N = n1 + n2 := ⟨_, rfl⟩
  rw [← hN] at hgr ⊢
  have hs := Lib.hid (fun W (h : Below w.heap.size w W) => src_rd ptC_len ptC_one (hr1.frame (good_flat _) (Below.sameB h hhi)))
  have hs2 := Lib.hid (fun W (h : Below w.heap.size w W) => src_rd ptC_len ptC_one (hr2.frame (good_flat _) (Below.sameB h hhi)))
  have q1 : IntKind.i64.wrap ((n1 : Int) + (n2 : Int)) = (N : Int) := by rw [wi (by omega)]; omega
  have q0 : IntKind.i64.wrap (0 + (n1 : Int)) = (n1 : Int) := by rw [wi (by omega)]; omega
  have hn1 : ¬ ((n1 : Int) < 0) := by omega
  have hnN : ¬ ((N : Int) < 0) := by omega
  replace hN := Lib.hid hN
  clear hr1 hr2 h0
  go_enter Tryz.func38, Tryz.ntmps38
  go_wp2_with fail
  go_loop [3, 11] (fun sv kv => ∃ k : Nat, k ≤ 2 ∧ kv = .int .i64 k ∧ ((k = 0 ∧ sv = .int .i64 0) ∨ (k = 1 ∧ sv = .int .i64 n1) ∨ (k = 2 ∧ sv = .int .i64 N))) (fun sv kv => 2 - (intOf kv).toNat)
  case atStart => exact ⟨0, by omega, rfl, .inl ⟨rfl, rfl⟩⟩
  case round =>
    obtain ⟨k, hk, rfl, hcase⟩ := hrel
    rcases hcase with ⟨rfl, rfl⟩ | ⟨rfl, rfl⟩ | ⟨rfl, rfl⟩
    · go_wp2_with fail
      go_round
      case rel => exact ⟨1, by omega, rfl, .inr (.inl ⟨rfl, by first | rfl | simp⟩)⟩
      case measure => simp [intOf]
    · go_wp2_with fail
      go_round
      case rel => exact ⟨2, by omega, rfl, .inr (.inr ⟨rfl, rfl⟩)⟩
      case measure => simp [intOf]
    · go_wp2_with fail
      refine hgr.out.mono ?_
      rintro e w1 ⟨A', c', rfl, ho, hb1⟩
      replace ho := Lib.hid ho
      have hz1 := hb1.size
      go_wp2_with fail
      go_loopw [6, 27] (fun rv kv wr => ∃ (k : Nat) (A3 : Option Addr) (c3 : Nat), k ≤ 2 ∧ kv = .int .i64 k ∧ Below w.heap.size w wr ∧ ((k = 0 ∧ rv = .slice A3 0 c3 ∧ wr.ownsRow w.heap.size 71 2 (.slice A3 0 c3) 0 []) ∨ (k = 1 ∧ rv = .slice A3 n1 c3 ∧ wr.ownsRow w.heap.size 71 2 (.slice A3 n1 c3) n1 (L1.flatMap ptC)) ∨ (k = 2 ∧ rv = .slice A3 N c3 ∧ wr.ownsRow w.heap.size 71 2 (.slice A3 N c3) N ((L1 ++ L2).flatMap ptC)))) (fun rv kv wr => 2 - (intOf kv).toNat)
      case atStart => exact ⟨0, A', c', by omega, rfl, hb1, .inl ⟨rfl, rfl, ho.out⟩⟩
      case round =>
        clear ho hb1 hz1
        obtain ⟨k, A3, c3, hk, rfl, hbr, hcase⟩ := hrel
        have hzr := hbr.size
        have g0 := (hbr.cell (p := ⟨g, 0, none⟩) hgl).trans h1
        have g1 := (hbr.cell (p := ⟨g, 1, none⟩) hgl).trans h2
        have hgr' : g < wr.heap.size := by omega
        have hsr := Lib.hid (hs.out wr hbr)
        have hsr2 := Lib.hid (hs2.out wr hbr)
        rcases hcase with ⟨rfl, rfl, ho⟩ | ⟨rfl, rfl, ho⟩ | ⟨rfl, rfl, ho⟩
        · replace ho := Lib.hid ho
          go_wp2_with (at_builtin; refine wpApp rfl (.tmp 31) (.tmp 32) elemPt rfl (v := .slice A3 0 c3) (n := 0) (xs := []) rfl ho.out rfl hsr.out (by omega) (by omega) (by omega) n1 (by omega) ?_; intro A4 c4 w4 ho4 hb4; replace ho4 := Lib.hid ho4)
          go_roundw
          case rel => exact ⟨1, A4, c4, by omega, rfl, hbr.trans hb4, .inr (.inl ⟨rfl, rfl, by have := ho4.out; simpa using this⟩)⟩
          case measure => simp [intOf]
        · replace ho := Lib.hid ho
          go_wp2_with (at_builtin; refine wpApp rfl (.tmp 31) (.tmp 32) elemPt rfl (v := .slice A3 n1 c3) (n := n1) (xs := L1.flatMap ptC) rfl ho.out rfl hsr2.out (by omega) (by omega) (by omega) N (by have := hN.out; omega) ?_; intro A4 c4 w4 ho4 hb4; replace ho4 := Lib.hid ho4)
          go_roundw
          case rel => exact ⟨2, A4, c4, by omega, rfl, hbr.trans hb4, .inr (.inr ⟨rfl, rfl, by rw [List.flatMap_append]; exact ho4.out⟩)⟩
          case measure => simp [intOf]
        · replace ho := Lib.hid ho
          replace hbr := Lib.hid hbr
          go_wp2_with fail
          go_ret
          exact ⟨_, _, rfl, ho.out, hbr.out⟩
end Go.Proofs.YtgelkdcggnffeaaGreat

