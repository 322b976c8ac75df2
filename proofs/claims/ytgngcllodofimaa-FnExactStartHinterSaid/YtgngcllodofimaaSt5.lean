/- The start of the hint machine: the program. Printed by mk_st5.py. Conditions: as each states. -/
import Derived.Test.YtgngcllodofimaaSt4
import Derived.Deep.OwnRows
import Derived.Test.YtgngcllodofimaaRegT
import Derived.Deep.DeepCutAuto
import Derived.Deep.RegionHeld3
namespace Go.Proofs.Ytgngcllodofimaa
open Go.RowKit
set_option linter.unusedVariables false
set_option maxRecDepth 100000

theorem then_of {G : Prop} (T : Prop) (h : T) (k : T → G) : G := k h
theorem Rows.one {w : World} {lo e size n : Nat} {v : Value} {xs : List Value} (h : w.ownsRow lo e size v n xs) : Rows w lo [⟨e, size, v, n, xs⟩] := by
  refine ⟨fun i r hi => ?_, fun i j r s hij hi hj => ?_⟩
  · match i, hi with
    | 0, hi => simp at hi; subst hi; exact h
    | i + 1, hi => simp at hi
  · match i, j, hi, hj with
    | 0, 0, _, _ => exact absurd rfl hij
    | 0, j + 1, _, hj => simp at hj
    | i + 1, _, hi, _ => simp at hi
theorem rows_ends {w : World} {lo n : Nat} {v : Value} {xs : List Value} (h : w.ownsRow lo 2 1 v n xs) : Rows w lo [⟨25, 2, .slice none 0 0, 0, []⟩, ⟨25, 2, .slice none 0 0, 0, []⟩, ⟨4, 1, .slice none 0 0, 0, []⟩, ⟨4, 1, .slice none 0 0, 0, []⟩, ⟨2, 1, v, n, xs⟩, ⟨2, 1, .slice none 0 0, 0, []⟩, ⟨2, 1, .slice none 0 0, 0, []⟩] := by
  have h1 : Rows w lo [⟨2, 1, v, n, xs⟩, ⟨2, 1, .slice none 0 0, 0, []⟩, ⟨2, 1, .slice none 0 0, 0, []⟩] := by
    refine ⟨fun i r hi => ?_, fun i j r s hij hi hj => ?_⟩
    · match i, hi with
      | 0, hi => simp at hi; subst hi; exact h
      | 1, hi => simp at hi; subst hi; exact World.ownsRow_nil _ _ _ _
      | 2, hi => simp at hi; subst hi; exact World.ownsRow_nil _ _ _ _
      | i + 3, hi => simp at hi
    · match i, j, hi, hj with
      | 0, 0, _, _ => exact absurd rfl hij
      | 0, 1, _, hj => simp at hj; subst hj; exact fun g _ h2 => by simp [Value.ownBlock] at h2
      | 0, 2, _, hj => simp at hj; subst hj; exact fun g _ h2 => by simp [Value.ownBlock] at h2
      | 0, j + 3, _, hj => simp at hj
      | 1, _, hi, _ => simp at hi; subst hi; exact fun g h1 _ => by simp [Value.ownBlock] at h1
      | 2, _, hi, _ => simp at hi; subst hi; exact fun g h1 _ => by simp [Value.ownBlock] at h1
      | i + 3, _, hi, _ => simp at hi
  exact Rows.nils w lo (Rows.nils w lo (Rows.nils w lo (Rows.nils w lo h1 _ _) _ _) _ _) _ _
theorem RowsX.above {w : World} {lo B X : Nat} {R : List RowE} (h : Rows w B R) (hX : X < B) (hl : lo ≤ B) (hlt : X < w.heap.size) : RowsX w lo X R :=
  ⟨h.lower hl, fun i r hi e => by have := ((h.own i hi).lt _ e).1; omega, hlt⟩
theorem RowsX.new {w : World} {lo X : Nat} {R : List RowE} (h : Rows w lo R) (o : Obj) (hX : X = w.heap.size) : RowsX (w.alloc o) lo X R := by
  subst hX
  exact ⟨h.alloc o, fun i r hi e => by have := ((h.own i hi).lt _ e).2; omega, by simp⟩
theorem RowsX.set13 {w : World} {lo x : Nat} {R : List RowE} (h : RowsX w lo x R) (u0 u1 u2 u3 u4 u5 u6 u7 u8 u9 u10 u11 u12 : Value) : RowsX (((((((((((((w.setCell ⟨x, 0, none⟩ u0).setCell ⟨x, 1, none⟩ u1).setCell ⟨x, 2, none⟩ u2).setCell ⟨x, 3, none⟩ u3).setCell ⟨x, 4, none⟩ u4).setCell ⟨x, 5, none⟩ u5).setCell ⟨x, 6, none⟩ u6).setCell ⟨x, 7, none⟩ u7).setCell ⟨x, 8, none⟩ u8).setCell ⟨x, 9, none⟩ u9).setCell ⟨x, 10, none⟩ u10).setCell ⟨x, 11, none⟩ u11).setCell ⟨x, 12, none⟩ u12) lo x R := ((((((((((((h.setX _).setX _).setX _).setX _).setX _).setX _).setX _).setX _).setX _).setX _).setX _).setX _).setX _
theorem rnd_zero {s u : Int} (h : 1 ≤ u) : rnd (0 * s * 64) u = 0 := by
  have e : (0 : Int) * s * 64 = 0 := by simp
  unfold rnd
  rw [e]
  exact Int.ediv_eq_zero_of_lt (by omega) (by omega)
theorem ask_pos {v s u : Int} (h : askB v s u = true) : 1 ≤ u := by
  simp only [askB, Bool.and_eq_true] at h
  have := (inB_iff.1 h.2).1
  omega
theorem sc_zero {v s u : Int} (h : askB v s u = true) : scQ s u (0, 0) = (0, 0) := by
  unfold scQ
  rw [rnd_zero (ask_pos h)]
theorem sc_wd {v s u : Int} (h : askB v s u = true) : scQ s u (v, 0) = (rnd (v * s * 64) u, 0) := by
  unfold scQ
  rw [rnd_zero (ask_pos h)]
theorem startScale_any (b1 b2 : Nat) (v s u : Int) (w : World) (hc0 : w.cell? ⟨b1, 0, none⟩ = some (.int .i64 s)) (hc1 : w.cell? ⟨b2, 0, none⟩ = some (.int .i64 u)) (hv : askB v s u = true) :
    Calls Try.prog 94 #[.int .i64 v, .pointer (some ⟨b1, 0, none⟩), .pointer (some ⟨b2, 0, none⟩)] w fun e w' => e = .returned (.int .i64 (rnd (v * s * 64) u)) ∧ w = w' := by
  have ha := Lib.hid (fun W => implScaleTo_yes v s u W hv)
  clear hv
  generalize rnd (v * s * 64) u = p at *
  go_enter Try.func94, Try.ntmps94
  go_wp2_with (go_at_call 19; refine (ha.out _).mono ?_; rintro e w' ⟨rfl, rfl⟩)
  go_ret
  exact ⟨rfl, rfl⟩
theorem heap_new4 (w : World) (a b c d : Obj) : ((((w.alloc a).alloc b).alloc c).alloc d).heap[w.heap.size]? = some a ∧ ((((w.alloc a).alloc b).alloc c).alloc d).heap[w.heap.size + 1]? = some b ∧ ((((w.alloc a).alloc b).alloc c).alloc d).heap[w.heap.size + 2]? = some c ∧ ((((w.alloc a).alloc b).alloc c).alloc d).heap[w.heap.size + 3]? = some d := by
  have h := heap_new0 w a b c
  have h4 := heap_alloc_new (((w.alloc a).alloc b).alloc c) d
  have s3 : (((w.alloc a).alloc b).alloc c).heap.size = w.heap.size + 3 := by simp
  rw [s3] at h4
  exact ⟨(Below.heap_alloc _ d _ (by simp <;> omega)).trans h.1, (Below.heap_alloc _ d _ (by simp <;> omega)).trans h.2.1, (Below.heap_alloc _ d _ (by simp <;> omega)).trans h.2.2, h4⟩
theorem made_list (z : Value) (n : Nat) : (madeCells #[z] n).toList = List.replicate n z := by
  apply List.ext_getElem?
  intro i
  rw [Array.getElem?_toList]
  by_cases h : i < n
  · rw [List.getElem?_replicate, if_pos h]
    simp [madeCells, h, Nat.mod_one]
  · rw [List.getElem?_replicate, if_neg h, Array.getElem?_eq_none]
    rw [size_madeCells]; simp at *; omega
theorem own_made (w : World) (z : Value) (n e lo : Nat) (hlo : lo ≤ w.heap.size) (hn : n ≤ maxLen) : (w.alloc (.cells (madeCells #[z] n) e)).ownsRow lo e 1 (.slice (some ⟨w.heap.size, 0, none⟩) n n) n (List.replicate n z) :=
  ⟨by simp, .inr ⟨w.heap.size, n, madeCells #[z] n, rfl, hlo, heap_alloc_new w _, Nat.le_refl _, hn, by rw [size_madeCells]; simp, by rw [made_list]; simp⟩⟩
theorem rep_flat (n : Nat) : (List.replicate n false).flatMap boolC = List.replicate n (.bool false) := by
  induction n with
  | zero => rfl
  | succ n ih => rw [List.replicate_succ, List.flatMap_cons, ih, List.replicate_succ]; rfl


set_option maxHeartbeats 16000000 in
theorem implStartIn_any (A : Option Addr) (n c lo hi : Nat) (Ls : List (List Knot)) (adv : Int) (AV : Option Addr) (nv cv lov hiv : Nat) (V : List Int) (s u : Int) (w : World) (hr : OutRd w lo hi A n Ls) (hhi : hi ≤ w.heap.size) (hn : n ≤ 1048576) (hK : ∀ K ∈ Ls, K.length ≤ 1048576)
    (hrv : RdS 1 (FlatR intC) w lov hiv AV nv V) (hhiv : hiv ≤ w.heap.size) (hv1 : outOk Ls = true) (hv2 : valsB V = true) (ha : askB adv s u = true) :
    Calls Try.prog 32 #[.agg #[.slice A n c], .int .i64 adv, .slice AV nv cv, .int .i64 s, .int .i64 u] w fun e w' => ∃ h : HinterH, e = .returned (.tuple #[hinV (startF Ls adv V s u).1 h, .int .i64 (startF Ls adv V s u).2]) ∧ HinOwn w' w.heap.size (startF Ls adv V s u).1 h ∧ Below w.heap.size w w' := by
  have hnew := Lib.hid (heap_new4 w (.cells #[.slice A n c] 46 (0, 0)) (.cells #[.int .i64 s] 2 (0, 0)) (.cells #[.int .i64 u] 2 (0, 0)) (.cells #[.int .i64 0, .slice none 0 0, .slice none 0 0, .slice none 0 0, .slice none 0 0, .slice none 0 0, .slice none 0 0, .slice none 0 0, .bool false, .int .i64 0, .int .i64 0, .int .i64 0, .int .i64 0] 65 (0, 0)))
  have hB0 : Below w.heap.size w ((((w.alloc (.cells #[.slice A n c] 46 (0, 0))).alloc (.cells #[.int .i64 s] 2 (0, 0))).alloc (.cells #[.int .i64 u] 2 (0, 0))).alloc (.cells #[.int .i64 0, .slice none 0 0, .slice none 0 0, .slice none 0 0, .slice none 0 0, .slice none 0 0, .slice none 0 0, .slice none 0 0, .bool false, .int .i64 0, .int .i64 0, .int .i64 0, .int .i64 0] 65 (0, 0))) := ((((Below.refl _ _).alloc (Nat.le_refl _) _).alloc (by simp) _).alloc (by simp <;> omega) _).alloc (by simp <;> omega) _
  have hz0 : ((((w.alloc (.cells #[.slice A n c] 46 (0, 0))).alloc (.cells #[.int .i64 s] 2 (0, 0))).alloc (.cells #[.int .i64 u] 2 (0, 0))).alloc (.cells #[.int .i64 0, .slice none 0 0, .slice none 0 0, .slice none 0 0, .slice none 0 0, .slice none 0 0, .slice none 0 0, .slice none 0 0, .bool false, .int .i64 0, .int .i64 0, .int .i64 0, .int .i64 0] 65 (0, 0))).heap.size = w.heap.size + 4 := by simp
  have hc0 : ((((w.alloc (.cells #[.slice A n c] 46 (0, 0))).alloc (.cells #[.int .i64 s] 2 (0, 0))).alloc (.cells #[.int .i64 u] 2 (0, 0))).alloc (.cells #[.int .i64 0, .slice none 0 0, .slice none 0 0, .slice none 0 0, .slice none 0 0, .slice none 0 0, .slice none 0 0, .slice none 0 0, .bool false, .int .i64 0, .int .i64 0, .int .i64 0, .int .i64 0] 65 (0, 0))).cell? ⟨w.heap.size, 0, none⟩ = some (.slice A n c) := by rw [Go.Joins.cell_of_block hnew.out.1]; rfl
  generalize hw0 : ((((w.alloc (.cells #[.slice A n c] 46 (0, 0))).alloc (.cells #[.int .i64 s] 2 (0, 0))).alloc (.cells #[.int .i64 u] 2 (0, 0))).alloc (.cells #[.int .i64 0, .slice none 0 0, .slice none 0 0, .slice none 0 0, .slice none 0 0, .slice none 0 0, .slice none 0 0, .slice none 0 0, .bool false, .int .i64 0, .int .i64 0, .int .i64 0, .int .i64 0] 65 (0, 0))) = w0 at hnew hB0 hz0 hc0
  replace hw0 := Lib.hid hw0
  have hval := Lib.hid (validOutline_any A n c lo hi Ls true hv1.symm w0 (hr.frame good_loop (Below.sameB hB0 hhi)) (by omega) (by omega) (fun K h => by have := hK K h; omega))
  obtain ⟨o1, o2, o3⟩ := out_is hv1
  obtain ⟨u1, u2⟩ := vals_is hv2
  have hn12 : n ≤ 12 := by rw [← hr.1]; exact o1
  have hnv : nv ≤ 16 := by rw [← hrv.1]; exact u1
  have hvv := Lib.hid (fun W (hS : Below w0.heap.size w0 W) => hintValues_any AV nv cv lov hiv V true hv2.symm W (hrv.frame (good_flat _) (Below.sameB (hB0.trans (hS.mono (by omega))) hhiv)) (by have := hS.size; omega) (by omega))
  have hak := Lib.hid (fun W => implScaleTo_yes adv s u W ha)
  have hll := Lib.hid hr.1
  have hPl : (startPts Ls adv).length = sumK Ls n + 2 := by rw [startPts_len, hll.out]
  have hNb := sumK_le o2 n
  have hends := Lib.hid (fun W (hS : Below w0.heap.size w0 W) => endsOf_any A n c lo hi Ls W (hr.frame good_loop (Below.sameB (hB0.trans (hS.mono (by omega))) hhi)) (by have := hS.size; omega) hn12 o2)
  have hpt : Hid (∀ K ∈ Ls, ∀ p ∈ K, askB p.1 s u = true ∧ askB p.2.1 s u = true) := fun K h p hp => ⟨ask_in ha (o3 K h p hp).1.1 (o3 K h p hp).1.2, ask_in ha (o3 K h p hp).2.1 (o3 K h p hp).2.2⟩
  have hV : Hid (∀ v ∈ V, askB v s u = true) := fun v hv => ask_in ha (u2 v hv).1 (u2 v hv).2
  have hwd : Hid (rnd (adv * s * 64) u = (scQ s u (adv, 0)).1) := rfl
  obtain ⟨wd, hwd'⟩ : ∃ wd, wd = rnd (adv * s * 64) u := ⟨_, rfl⟩
  rw [← hwd'] at hak
  replace hwd' := Lib.hid hwd'
  replace o2 := Lib.hid o2
  replace hr := Lib.hid hr
  replace hrv := Lib.hid hrv
  replace hK := Lib.hid hK
  clear o1 o3 u1 u2 hv1 hv2
  replace ha := Lib.hid ha
  go_enter Try.func32, Try.ntmps32
  go_wp2_with fail
  rw [hw0.out]
  clear hw0
  refine hval.out.mono ?_
  rintro e w1 ⟨rfl, hb1⟩
  go_wp2_with fail
  refine (hvv.out _ hb1).mono ?_
  rintro e w2 ⟨rfl, hb2⟩
  replace hb1 := hb1.trans (hb2.mono hb1.size)
  have hz2 := hb1.size
  have hS2 := (hb1.block (w.heap.size + 1) (by omega)).trans hnew.out.2.1
  have hU2 := (hb1.block (w.heap.size + 2) (by omega)).trans hnew.out.2.2.1
  have hO2 := (hb1.block w.heap.size (by omega)).trans hnew.out.1
  have s0 : w2.cell? ⟨w.heap.size + 1, 0, none⟩ = some (.int .i64 s) := by rw [Go.Joins.cell_of_block hS2]; rfl
  have u0 : w2.cell? ⟨w.heap.size + 2, 0, none⟩ = some (.int .i64 u) := by rw [Go.Joins.cell_of_block hU2]; rfl
  have o0 : w2.cell? ⟨w.heap.size, 0, none⟩ = some (.slice A n c) := by rw [Go.Joins.cell_of_block hO2]; rfl
  have hsl : w.heap.size + 2 < w2.heap.size := by omega
  have hul : w.heap.size + 1 < w2.heap.size := by omega
  have hol : w.heap.size < w2.heap.size := by omega
  clear hb2 hval hvv hS2 hU2 hO2 hc0
  go_wp2_with (go_at_call 19; refine (hak.out _).mono ?_; rintro e w' ⟨rfl, rfl⟩)
  have hee := Lib.hid (fun W (hS : Below w2.heap.size w2 W) => hends.out W (hb1.trans (hS.mono hb1.size)))
  have hBw2 : Below w.heap.size w w2 := hB0.trans (hb1.mono (by omega))
  clear hends hB0
  go_upto_region 6 with fail
  go_cut [14] (fun s14 wx => ∃ (X : Nat) (ae : Option Addr) (ce : Nat), s14 = .pointer (some ⟨X, 0, none⟩) ∧ w2.heap.size ≤ X ∧ wx.heap[X]? = some (.cells #[.int .i64 s, .slice none 0 0, .slice none 0 0, .slice none 0 0, .slice none 0 0, .slice ae n ce, .slice none 0 0, .slice none 0 0, .bool false, .int .i64 0, .int .i64 1, .int .i64 32, .int .i64 64] 65 (0, 0)) ∧ RowsX wx w2.heap.size X [⟨25, 2, .slice none 0 0, 0, []⟩, ⟨25, 2, .slice none 0 0, 0, []⟩, ⟨4, 1, .slice none 0 0, 0, []⟩, ⟨4, 1, .slice none 0 0, 0, []⟩, ⟨2, 1, .slice ae n ce, n, (endsL Ls).flatMap intC⟩, ⟨2, 1, .slice none 0 0, 0, []⟩, ⟨2, 1, .slice none 0 0, 0, []⟩] ∧ Below w2.heap.size w2 wx)
  case first =>
    go_region_law (first | (go_simp; go_at_call 93; (with_reducible refine (hee.out _ ?_).mono ?_); (repeat (first | exact Below.refl _ _ | refine Below.drew ?_ | refine Below.alloc ?_ (by simp <;> omega) _)); rintro e w3 ⟨ae, ce, rfl, hoe, hb3⟩; have hz3 := hb3.size; (try simp at hz3); have hB3 : Below w2.heap.size w2 w3 := Below.trans (by repeat (first | exact Below.refl _ _ | refine Below.drew ?_ | refine Below.alloc ?_ (by simp <;> omega) _)) (hb3.mono (by simp <;> omega)); (first | (refine then_of (Hid (Rows w3 (w2.heap.size + 1) [⟨25, 2, .slice none 0 0, 0, []⟩, ⟨25, 2, .slice none 0 0, 0, []⟩, ⟨4, 1, .slice none 0 0, 0, []⟩, ⟨4, 1, .slice none 0 0, 0, []⟩, ⟨2, 1, .slice ae n ce, n, (endsL Ls).flatMap intC⟩, ⟨2, 1, .slice none 0 0, 0, []⟩, ⟨2, 1, .slice none 0 0, 0, []⟩])) ?_ ?_; (refine rows_ends (own_lower hoe ?_); focus (simp; done)); intro hR3) | (refine then_of (Hid (Rows w3 w2.heap.size [⟨25, 2, .slice none 0 0, 0, []⟩, ⟨25, 2, .slice none 0 0, 0, []⟩, ⟨4, 1, .slice none 0 0, 0, []⟩, ⟨4, 1, .slice none 0 0, 0, []⟩, ⟨2, 1, .slice ae n ce, n, (endsL Ls).flatMap intC⟩, ⟨2, 1, .slice none 0 0, 0, []⟩, ⟨2, 1, .slice none 0 0, 0, []⟩])) ?_ ?_; (refine rows_ends (own_lower hoe ?_); focus (simp; done)); intro hR3)); have s03 : w3.cell? ⟨w.heap.size + 1, 0, none⟩ = some (.int .i64 s) := (hb3.cell (by simp; omega)).trans (by first | exact s0 | exact Lib.cell?_alloc_some _ s0); have o03 : w3.cell? ⟨w.heap.size, 0, none⟩ = some (.slice A n c) := (hb3.cell (by simp; omega)).trans (by first | exact o0 | exact Lib.cell?_alloc_some _ o0); have sl3 : w.heap.size + 1 < w3.heap.size := (by omega); have ol3 : w.heap.size < w3.heap.size := (by omega); (first | (refine then_of (w3.heap[w2.heap.size]? = some (.cells #[.int .i64 0, .slice none 0 0, .slice none 0 0, .slice none 0 0, .slice none 0 0, .slice none 0 0, .slice none 0 0, .slice none 0 0, .bool false, .int .i64 0, .int .i64 0, .int .i64 0, .int .i64 0] 65 (0, 0))) ?_ ?_; ((refine (hb3.block _ (by simp)).trans ?_); exact heap_alloc_new w2 _); intro HX3; have cx0 : w3.cell? ⟨w2.heap.size, 0, none⟩ = some (.int .i64 0) := (by rw [Go.Joins.cell_of_block HX3]; rfl); have cx1 : w3.cell? ⟨w2.heap.size, 1, none⟩ = some (.slice none 0 0) := (by rw [Go.Joins.cell_of_block HX3]; rfl); have cx2 : w3.cell? ⟨w2.heap.size, 2, none⟩ = some (.slice none 0 0) := (by rw [Go.Joins.cell_of_block HX3]; rfl); have cx3 : w3.cell? ⟨w2.heap.size, 3, none⟩ = some (.slice none 0 0) := (by rw [Go.Joins.cell_of_block HX3]; rfl); have cx4 : w3.cell? ⟨w2.heap.size, 4, none⟩ = some (.slice none 0 0) := (by rw [Go.Joins.cell_of_block HX3]; rfl); have cx5 : w3.cell? ⟨w2.heap.size, 5, none⟩ = some (.slice none 0 0) := (by rw [Go.Joins.cell_of_block HX3]; rfl); have cx6 : w3.cell? ⟨w2.heap.size, 6, none⟩ = some (.slice none 0 0) := (by rw [Go.Joins.cell_of_block HX3]; rfl); have cx7 : w3.cell? ⟨w2.heap.size, 7, none⟩ = some (.slice none 0 0) := (by rw [Go.Joins.cell_of_block HX3]; rfl); have cx8 : w3.cell? ⟨w2.heap.size, 8, none⟩ = some (.bool false) := (by rw [Go.Joins.cell_of_block HX3]; rfl); have cx9 : w3.cell? ⟨w2.heap.size, 9, none⟩ = some (.int .i64 0) := (by rw [Go.Joins.cell_of_block HX3]; rfl); have cx10 : w3.cell? ⟨w2.heap.size, 10, none⟩ = some (.int .i64 0) := (by rw [Go.Joins.cell_of_block HX3]; rfl); have cx11 : w3.cell? ⟨w2.heap.size, 11, none⟩ = some (.int .i64 0) := (by rw [Go.Joins.cell_of_block HX3]; rfl); have cx12 : w3.cell? ⟨w2.heap.size, 12, none⟩ = some (.int .i64 0) := (by rw [Go.Joins.cell_of_block HX3]; rfl); have cxf : ∀ o, w3.frozen? ⟨w2.heap.size, o, none⟩ = false := Go.Joins.unfrozen_of_block HX3; have cxl : w2.heap.size < w3.heap.size := (by omega)) | skip); dsimp only))
    all_goals
      go_wp2_with fail
      go_meet
      refine ⟨_, ae, ce, rfl, ?_, ?_, ?_, ?_⟩
      · omega
      · first | exact set13 HX3 _ _ _ _ _ _ _ _ _ _ _ _ _ | exact heap_alloc_new w3 _
      · first | exact RowsX.set13 (RowsX.above hR3.out (Nat.lt_succ_self _) (Nat.le_succ _) cxl) _ _ _ _ _ _ _ _ _ _ _ _ _ | exact RowsX.new hR3.out _ rfl
      · first | (have hh := cxl; exact below13 hB3 (Nat.le_refl _) _ _ _ _ _ _ _ _ _ _ _ _ _) | exact hB3.alloc hB3.size _
  case rest =>
  clear hee hsl hul hol hak
  obtain ⟨w4, hw4⟩ : ∃ v, v = wc := ⟨_, rfl⟩
  subst hw4
  obtain ⟨X, ae, ce, rfl, hXl, HX, HR, hb4⟩ := hcut
  have hz4 := hb4.size
  have o4 : w4.cell? ⟨w.heap.size, 0, none⟩ = some (.slice A n c) := (hb4.cell (by simp; omega)).trans o0
  have ol4 : w.heap.size < w4.heap.size := by omega
  have hX0 : w.heap.size + 3 < X := by omega
  replace HX := Lib.hid HX
  replace HR := Lib.hid HR
  skip
  go_wp2_with fail
  clear o4 ol4
  go_loopw [49] (fun i wr => ∃ (k : Nat) (A1 : Option Addr) (c1 : Nat), i = .int .i64 k ∧ k ≤ n ∧ wr.heap[X]? = some (.cells #[.int .i64 s, .slice A1 (sumK Ls k) c1, .slice none 0 0, .slice none 0 0, .slice none 0 0, .slice ae n ce, .slice none 0 0, .slice none 0 0, .bool false, .int .i64 0, .int .i64 1, .int .i64 32, .int .i64 64] 65 (0, 0)) ∧ RowsX wr w2.heap.size X [⟨25, 2, .slice A1 (sumK Ls k) c1, (sumK Ls k), ((knotPts (Ls.take k)).map (scQ s u)).flatMap ptC⟩, ⟨25, 2, .slice none 0 0, 0, []⟩, ⟨4, 1, .slice none 0 0, 0, []⟩, ⟨4, 1, .slice none 0 0, 0, []⟩, ⟨2, 1, .slice ae n ce, n, (endsL Ls).flatMap intC⟩, ⟨2, 1, .slice none 0 0, 0, []⟩, ⟨2, 1, .slice none 0 0, 0, []⟩] ∧ Below w2.heap.size w2 wr) (fun i wr => n - (intOf i).toNat)
  case atStart =>
    exact ⟨0, none, 0, rfl, Nat.zero_le _, HX.out, HR.out, hb4⟩
  case round =>
    clear HX HR hb4 hz4
    obtain ⟨k, A1, c1, rfl, hk, HXr, HRr, hbel⟩ := hrel
    obtain ⟨w5, hw5⟩ : ∃ v, v = wr := ⟨_, rfl⟩
    subst hw5
    have hz := hbel.size
    have hXw := HRr.lt
    replace HXr := Lib.hid HXr
    replace HRr := Lib.hid HRr
    have hBr : Below w.heap.size w w5 := hBw2.trans (hbel.mono (by omega))
    by_cases hlt : k < n
    · obtain ⟨b1, off1, K, A2, n2, c2, rfl, hb10, hb1h, hja, qk, hmx, hrk⟩ := out_at hr.out hlt
      have hn2 := hrk.1
      subst hn2
      have hb1w : b1 < w5.heap.size := by omega
      have qkr : w5.cell? ⟨b1, off1 + k, none⟩ = some (.slice A2 K.length c2) := (hBr.cell (by simp; omega)).trans qk
      have hKl := o2.out K (List.mem_of_getElem? hja)
      have hs1 := Lib.hid (sumK_step hja)
      have hs0 := sumK_le o2.out k
      have hst := Lib.hid (knotPts_step hja)
      have hpk := Lib.hid (hpt.out K (List.mem_of_getElem? hja))
      replace hja := Lib.hid hja
      replace hrk := Lib.hid hrk
      clear hmx hb10
      go_wp2_with fail
      clear qk qkr hb1w hb1h
      go_loopw [56] (fun i wi => ∃ (q : Nat) (A3 : Option Addr) (c3 : Nat), i = .int .i64 q ∧ q ≤ K.length ∧ wi.heap[X]? = some (.cells #[.int .i64 s, .slice A3 (sumK Ls k + q) c3, .slice none 0 0, .slice none 0 0, .slice none 0 0, .slice ae n ce, .slice none 0 0, .slice none 0 0, .bool false, .int .i64 0, .int .i64 1, .int .i64 32, .int .i64 64] 65 (0, 0)) ∧ RowsX wi w2.heap.size X [⟨25, 2, .slice A3 (sumK Ls k + q) c3, (sumK Ls k + q), ((knotPts (Ls.take k) ++ ptL (K.take q)).map (scQ s u)).flatMap ptC⟩, ⟨25, 2, .slice none 0 0, 0, []⟩, ⟨4, 1, .slice none 0 0, 0, []⟩, ⟨4, 1, .slice none 0 0, 0, []⟩, ⟨2, 1, .slice ae n ce, n, (endsL Ls).flatMap intC⟩, ⟨2, 1, .slice none 0 0, 0, []⟩, ⟨2, 1, .slice none 0 0, 0, []⟩] ∧ Below w2.heap.size w2 wi) (fun i wi => K.length - (intOf i).toNat)
      case atStart =>
        refine ⟨0, A1, c1, rfl, Nat.zero_le _, (Below.heap_alloc _ _ _ hXw).trans HXr.out, ?_, hbel.alloc hz _⟩
        have h2 := HRr.out.alloc (.cells #[.slice A2 K.length c2] 145 (0, 0))
        simpa [ptL] using h2
      case round =>
        clear HXr HRr hbel hXw
        obtain ⟨q, A3, c3, rfl, hq, HXi, HRi, hbi⟩ := hrel
        have hzi := hbi.size
        have hXi := HRi.lt
        replace HXi := Lib.hid HXi
        replace HRi := Lib.hid HRi
        by_cases hql : q < K.length
        · obtain ⟨b2, off2, p, rfl, hb20, hb2h, hp, hcs⟩ := (hrk.out.frame (good_flat _) (Below.sameB (hBw2.trans (hbi.mono (by omega))) hhi)).at hql
          have p0 := hcs 0 _ rfl
          have p1 := hcs 1 _ rfl
          have p2 := hcs 2 _ rfl
          simp only [Nat.add_zero] at p0 p1 p2
          have hb2i : b2 < wr.heap.size := by omega
          have hps := Lib.hid (ptL_step hp)
          obtain ⟨hpx, hpy⟩ := hpk.out p (List.mem_of_getElem? hp)
          have hcx := Lib.hid (fun W h0 h1 => startScale_any (w.heap.size + 1) (w.heap.size + 2) p.1 s u W h0 h1 hpx)
          have hcy := Lib.hid (fun W h0 h1 => startScale_any (w.heap.size + 1) (w.heap.size + 2) p.2.1 s u W h0 h1 hpy)
          have hsc : Hid (scQ s u (p.1, p.2.1) = (rnd (p.1 * s * 64) u, rnd (p.2.1 * s * 64) u)) := rfl
          obtain ⟨x, y, z⟩ := p
          dsimp only at p0 p1 p2 hcx hcy hsc hps
          generalize rnd (x * s * 64) u = sx at hcx hsc
          generalize rnd (y * s * 64) u = sy at hcy hsc
          replace hp := Lib.hid hp
          clear hcs hb20 hb2h hpx hpy
          have hB6 : Below w2.heap.size w2 (wr.alloc (.cells #[.int .i64 x, .int .i64 y, .bool z] 147 (0, 0))) := hbi.alloc hzi _
          have hk6 := heap_alloc_new wr (.cells #[.int .i64 x, .int .i64 y, .bool z] 147 (0, 0))
          have k0 : (wr.alloc (.cells #[.int .i64 x, .int .i64 y, .bool z] 147 (0, 0))).cell? ⟨wr.heap.size, 0, none⟩ = some (.int .i64 x) := by rw [Go.Joins.cell_of_block hk6]; rfl
          have k1 : (wr.alloc (.cells #[.int .i64 x, .int .i64 y, .bool z] 147 (0, 0))).cell? ⟨wr.heap.size, 1, none⟩ = some (.int .i64 y) := by rw [Go.Joins.cell_of_block hk6]; rfl
          have HX6 : Hid ((wr.alloc (.cells #[.int .i64 x, .int .i64 y, .bool z] 147 (0, 0))).heap[X]? = some (.cells #[.int .i64 s, .slice A3 (sumK Ls k + q) c3, .slice none 0 0, .slice none 0 0, .slice none 0 0, .slice ae n ce, .slice none 0 0, .slice none 0 0, .bool false, .int .i64 0, .int .i64 1, .int .i64 32, .int .i64 64] 65 (0, 0))) := (Below.heap_alloc _ _ _ hXi).trans HXi.out
          have HR6 := Lib.hid (HRi.out.alloc (.cells #[.int .i64 x, .int .i64 y, .bool z] 147 (0, 0)))
          have hz6 : wr.heap.size < (wr.alloc (.cells #[.int .i64 x, .int .i64 y, .bool z] 147 (0, 0))).heap.size := by simp
          have hbo0 : (Value.slice A3 (sumK Ls k + q) c3).ownBlock ≠ some wr.heap.size := fun e => by have h2 := ((HRi.out.own 0 (r := ⟨25, 2, .slice A3 (sumK Ls k + q) c3, (sumK Ls k + q), ((knotPts (Ls.take k) ++ ptL (K.take q)).map (scQ s u)).flatMap ptC⟩) rfl).lt _ e).2; omega
          go_wp2_with fail
          clear p0 p1 p2 hb2i hk6 HXi HRi
          generalize wr.alloc (.cells #[.int .i64 x, .int .i64 y, .bool z] 147 (0, 0)) = w6 at *
          have hX6 := HR6.out.lt
          have s6 : w6.drew.cell? ⟨w.heap.size + 1, 0, none⟩ = some (.int .i64 s) := (hB6.cell (by simp; omega)).trans s0
          have u6 : w6.drew.cell? ⟨w.heap.size + 2, 0, none⟩ = some (.int .i64 u) := (hB6.cell (by simp; omega)).trans u0
          have cx1 : w6.cell? ⟨X, 1, none⟩ = some (.slice A3 (sumK Ls k + q) c3) := by rw [Go.Joins.cell_of_block HX6.out]; rfl
          have hm : sumK Ls k + q + 1 ≤ 1000000000 := by omega
          obtain ⟨m, hm'⟩ : ∃ m, m = sumK Ls k + q := ⟨_, rfl⟩
          rw [← hm'] at cx1 hm HX6 HR6 hbo0
          replace hm' := Lib.hid hm'
          have HRd : Hid (RowsX w6.drew w2.heap.size X [⟨25, 2, .slice A3 m c3, m, ((knotPts (Ls.take k) ++ ptL (K.take q)).map (scQ s u)).flatMap ptC⟩, ⟨25, 2, .slice none 0 0, 0, []⟩, ⟨4, 1, .slice none 0 0, 0, []⟩, ⟨4, 1, .slice none 0 0, 0, []⟩, ⟨2, 1, .slice ae n ce, n, (endsL Ls).flatMap intC⟩, ⟨2, 1, .slice none 0 0, 0, []⟩, ⟨2, 1, .slice none 0 0, 0, []⟩]) := HR6.out.drew
          have hzd : w6.drew.heap.size = w6.heap.size := rfl
          have hB6d : Below w2.heap.size w2 w6.drew := hB6.drew
          have HXd : Hid (w6.drew.heap[X]? = some (.cells #[.int .i64 s, .slice A3 m c3, .slice none 0 0, .slice none 0 0, .slice none 0 0, .slice ae n ce, .slice none 0 0, .slice none 0 0, .bool false, .int .i64 0, .int .i64 1, .int .i64 32, .int .i64 64] 65 (0, 0))) := HX6.out
          have hbX : wr.heap.size ≠ X := by omega
          have hXb : X ≠ wr.heap.size := by omega
          have hbo : (Value.slice A3 m c3).ownBlock ≠ some wr.heap.size := hbo0
          have k0d : w6.drew.cell? ⟨wr.heap.size, 0, none⟩ = some (.int .i64 x) := k0
          have cx1d : w6.drew.cell? ⟨X, 1, none⟩ = some (.slice A3 m c3) := cx1
          have k1d : w6.drew.cell? ⟨wr.heap.size, 1, none⟩ = some (.int .i64 y) := k1
          refine wp_region_head 15 (fun w' => w'.cell? ⟨X, 1, none⟩ = some (.slice A3 m c3) ∧ w'.cell? ⟨wr.heap.size, 0, none⟩ = some (.int .i64 x) ∧ w'.cell? ⟨wr.heap.size, 1, none⟩ = some (.int .i64 y)) (by kernel_rfl) (by kernel_rfl) (by exact ⟨cx1d, k0d, k1d⟩) (fun hHeld => ?_)
          simp only [List.take_succ_cons, List.take_zero, List.drop_succ_cons, List.drop_zero]
          refine wpAnyH_take (i := 0) (v := ?_) ((List.getElem?_toArray).trans rfl) (by kernel_rfl) (by kernel_rfl) (by kernel_rfl) (fun _ _ _ h => h) (Or.inl ⟨by rfl, ?_⟩) (by assumption) ?_
          rotate_left
          · (intro w hSw; (try dsimp only at hSw); go_simp; (try (with_reducible rfl)))
          (try simp only [Act.put, List.setIfInBounds_toArray, List.set_cons_zero, List.set_cons_succ])
          refine wpAnyH_take (i := 1) (v := ?_) ((List.getElem?_toArray).trans rfl) (by kernel_rfl) (by kernel_rfl) (by kernel_rfl) (fun _ _ _ h => h) (Or.inl ⟨by rfl, ?_⟩) (by assumption) ?_
          rotate_left
          · (intro w hSw; (try dsimp only at hSw); go_simp; (try (with_reducible rfl)))
          (try simp only [Act.put, List.setIfInBounds_toArray, List.set_cons_zero, List.set_cons_succ])
          refine wpAnyH_take (i := 2) (v := ?_) ((List.getElem?_toArray).trans rfl) (by kernel_rfl) (by kernel_rfl) (by kernel_rfl) (fun _ _ _ h => h) (Or.inl ⟨by rfl, ?_⟩) (by assumption) ?_
          rotate_left
          · (intro w hSw; (try dsimp only at hSw); go_simp; (try (with_reducible rfl)))
          (try simp only [Act.put, List.setIfInBounds_toArray, List.set_cons_zero, List.set_cons_succ])
          refine wpAnyH_take (i := 3) (v := ?_) ((List.getElem?_toArray).trans rfl) (by kernel_rfl) (by kernel_rfl) (by kernel_rfl) (fun _ _ _ h => h) (Or.inl ⟨by rfl, ?_⟩) (by assumption) ?_
          rotate_left
          · (intro w hSw; (try dsimp only at hSw); go_simp; (try (with_reducible rfl)))
          (try simp only [Act.put, List.setIfInBounds_toArray, List.set_cons_zero, List.set_cons_succ])
          refine wpAnyH_take (i := 4) (v := ?_) ((List.getElem?_toArray).trans rfl) (by kernel_rfl) (by kernel_rfl) (by kernel_rfl) (fun _ _ _ h => h) (Or.inl ⟨by rfl, ?_⟩) (by assumption) ?_
          rotate_left
          · (intro w hSw; (try dsimp only at hSw); go_simp; (try (with_reducible rfl)))
          (try simp only [Act.put, List.setIfInBounds_toArray, List.set_cons_zero, List.set_cons_succ])
          refine wpAnyH_take (i := 5) (v := ?_) ((List.getElem?_toArray).trans rfl) (by kernel_rfl) (by kernel_rfl) (by kernel_rfl) (fun _ _ _ h => h) (Or.inl ⟨by rfl, ?_⟩) (by assumption) ?_
          rotate_left
          · (intro w hSw; (try dsimp only at hSw); go_simp; (try (with_reducible rfl)))
          (try simp only [Act.put, List.setIfInBounds_toArray, List.set_cons_zero, List.set_cons_succ])
          refine wpAnyH_take (i := 7) (v := ?_) ((List.getElem?_toArray).trans rfl) (by kernel_rfl) (by kernel_rfl) (by kernel_rfl) (fun _ _ _ h => h) (Or.inl ⟨by rfl, ?_⟩) (by assumption) ?_
          rotate_left
          · (intro w hSw; (try dsimp only at hSw); go_simp; (try (with_reducible rfl)))
          (try simp only [Act.put, List.setIfInBounds_toArray, List.set_cons_zero, List.set_cons_succ])
          refine wpAnyH_take (i := 8) (v := ?_) ((List.getElem?_toArray).trans rfl) (by kernel_rfl) (by kernel_rfl) (by kernel_rfl) (fun _ _ _ h => h) (Or.inl ⟨by rfl, ?_⟩) (by assumption) ?_
          rotate_left
          · (intro w hSw; (try dsimp only at hSw); go_simp; (try (with_reducible rfl)))
          (try simp only [Act.put, List.setIfInBounds_toArray, List.set_cons_zero, List.set_cons_succ])
          refine wpAnyH_take (i := 9) (v := ?_) ((List.getElem?_toArray).trans rfl) (by kernel_rfl) (by kernel_rfl) (by kernel_rfl) (fun _ _ _ h => h) (Or.inl ⟨by rfl, ?_⟩) (by assumption) ?_
          rotate_left
          · (intro w hSw; (try dsimp only at hSw); go_simp; (try (with_reducible rfl)))
          (try simp only [Act.put, List.setIfInBounds_toArray, List.set_cons_zero, List.set_cons_succ])
          refine wpAnyH_take (i := 10) (v := ?_) ((List.getElem?_toArray).trans rfl) (by kernel_rfl) (by kernel_rfl) (by kernel_rfl) (fun _ _ _ h => h) (Or.inl ⟨by rfl, ?_⟩) (by assumption) ?_
          rotate_left
          · (intro w hSw; (try dsimp only at hSw); go_simp; (try (with_reducible rfl)))
          (try simp only [Act.put, List.setIfInBounds_toArray, List.set_cons_zero, List.set_cons_succ])
          refine wpAnyH_ready (rs := [6]) (by kernel_rfl) (by simp) ?_
          refine AllReadyH.cons ((List.getElem?_toArray).trans rfl) (fun K0 hK0 => ?_) AllReadyH.nil
          (go_simp; go_at_call 94; (with_reducible refine (hcx.out _ s6 u6).mono ?_); rintro e w' ⟨rfl, rfl⟩; dsimp only)
          refine hK0.out _ _ ?_ (fun hHeld => ?_)
          · (exact ⟨cx1d, k0d, k1d⟩)
          clear hK0 K0
          (try simp only [Act.put, List.setIfInBounds_toArray, List.set_cons_zero, List.set_cons_succ])
          refine wpAnyH_ready (rs := [11]) (by kernel_rfl) (by simp) ?_
          refine AllReadyH.cons ((List.getElem?_toArray).trans rfl) (fun K0 hK0 => ?_) AllReadyH.nil
          (go_simp; go_at_call 94; (with_reducible refine (hcy.out _ s6 u6).mono ?_); rintro e w' ⟨rfl, rfl⟩; dsimp only)
          refine hK0.out _ _ ?_ (fun hHeld => ?_)
          · (exact ⟨cx1d, k0d, k1d⟩)
          clear hK0 K0
          (try simp only [Act.put, List.setIfInBounds_toArray, List.set_cons_zero, List.set_cons_succ])
          refine wpAnyH_take (i := 12) (v := ?_) ((List.getElem?_toArray).trans rfl) (by kernel_rfl) (by kernel_rfl) (by kernel_rfl) (fun _ _ _ h => h) (Or.inl ⟨by rfl, ?_⟩) (by assumption) ?_
          rotate_left
          · (intro w hSw; (try dsimp only at hSw); go_simp; (try (with_reducible rfl)))
          (try simp only [Act.put, List.setIfInBounds_toArray, List.set_cons_zero, List.set_cons_succ])
          refine wpAnyH_ready (rs := [13]) (by kernel_rfl) (by simp) ?_
          refine AllReadyH.cons ((List.getElem?_toArray).trans rfl) (fun K0 hK0 => ?_) AllReadyH.nil
          go_simp
          refine hK0.out _ _ ?_ (fun hHeld => ?_)
          · (exact ⟨Lib.cell?_alloc_some _ cx1d, Lib.cell?_alloc_some _ k0d, Lib.cell?_alloc_some _ k1d⟩)
          clear hK0 K0
          (try simp only [Act.put, List.setIfInBounds_toArray, List.set_cons_zero, List.set_cons_succ])
          refine wpAnyH_ready (rs := [14]) (by kernel_rfl) (by simp) ?_
          refine AllReadyH.cons ((List.getElem?_toArray).trans rfl) (fun K0 hK0 => ?_) AllReadyH.nil
          (refine stepAppR rfl (.tmp 61) (.tmp 73) elemPt rfl (v := .slice A3 m c3) (n := m) (xs := ((knotPts (Ls.take k) ++ ptL (K.take q)).map (scQ s u)).flatMap ptC) rfl ((HRd.out.alloc _).own 0 (r := ⟨25, 2, .slice A3 m c3, m, ((knotPts (Ls.take k) ++ ptL (K.take q)).map (scQ s u)).flatMap ptC⟩) rfl) rfl (src_at (cs := [.int .i64 sx, .int .i64 sy]) rfl (by simp [Value.oneCell']) (by simp)) (by omega) (by omega) (by first | omega | (simp <;> omega)) (m + 1) rfl ?_; intro A4 c4 w7 ho hg hv; have hz7 := hg.size; (try simp at hz7); have kb := hg.block wr.heap.size (by first | omega | (simp <;> omega)) (fun e => hbo e.symm); have kz0 : w7.cell? ⟨wr.heap.size, 0, none⟩ = some (.int .i64 x) := (World.cell?_of_block kb).trans (Lib.cell?_alloc_some _ k0d); have kz1 : w7.cell? ⟨wr.heap.size, 1, none⟩ = some (.int .i64 y) := (World.cell?_of_block kb).trans (Lib.cell?_alloc_some _ k1d); have HR7 : Hid (RowsX w7 w2.heap.size X [⟨25, 2, .slice A4 (m + 1) c4, (m + 1), ((knotPts (Ls.take k) ++ ptL (K.take q)).map (scQ s u)).flatMap ptC ++ [.int .i64 sx, .int .i64 sy]⟩, ⟨25, 2, .slice none 0 0, 0, []⟩, ⟨4, 1, .slice none 0 0, 0, []⟩, ⟨4, 1, .slice none 0 0, 0, []⟩, ⟨2, 1, .slice ae n ce, n, (endsL Ls).flatMap intC⟩, ⟨2, 1, .slice none 0 0, 0, []⟩, ⟨2, 1, .slice none 0 0, 0, []⟩]) := (by have h2 := RowsX.app (HRd.out.alloc _) 0 (r := ⟨25, 2, .slice A3 m c3, m, ((knotPts (Ls.take k) ++ ptL (K.take q)).map (scQ s u)).flatMap ptC⟩) rfl ho hg hv; exact h2); have HX7 : Hid (w7.heap[X]? = some (.cells #[.int .i64 s, .slice A3 m c3, .slice none 0 0, .slice none 0 0, .slice none 0 0, .slice ae n ce, .slice none 0 0, .slice none 0 0, .bool false, .int .i64 0, .int .i64 1, .int .i64 32, .int .i64 64] 65 (0, 0))) := (RowsX.block (HRd.out.alloc _) 0 (r := ⟨25, 2, .slice A3 m c3, m, ((knotPts (Ls.take k) ++ ptL (K.take q)).map (scQ s u)).flatMap ptC⟩) rfl hg).trans ((Below.heap_alloc _ _ _ (by omega)).trans HXd.out); have hB7 : Hid (Below w2.heap.size w6.drew w7) := Below.trans (Go.Joins.below_alloc1 _ _ |>.mono (by omega)) (below_app ((HRd.out.alloc _).own 0 (r := ⟨25, 2, .slice A3 m c3, m, ((knotPts (Ls.take k) ++ ptL (K.take q)).map (scQ s u)).flatMap ptC⟩) rfl) hg (by first | omega | (simp <;> omega))); clear ho hg hv; have cz1 : w7.cell? ⟨X, 1, none⟩ = some (.slice A3 m c3) := (by rw [Go.Joins.cell_of_block HX7.out]; rfl); have czf : ∀ o, w7.frozen? ⟨X, o, none⟩ = false := Go.Joins.unfrozen_of_block HX7.out; have czl : X < w7.heap.size := HR7.out.lt)
          refine hK0.out _ _ ?_ (fun hHeld => ?_)
          · (exact ⟨cz1, kz0, kz1⟩)
          clear hK0 K0
          (try simp only [Act.put, List.setIfInBounds_toArray, List.set_cons_zero, List.set_cons_succ])
          refine wpAnyH_done (by kernel_rfl) ?_ _
          show wpList _ _ _ _ _ _
          all_goals
            go_wp2_with fail
            go_roundw
            case rel =>
              have e1 : sumK Ls k + (q + 1) = m + 1 := by have := hm'.out; omega
              have e2 : ((knotPts (Ls.take k) ++ ptL (K.take (q + 1))).map (scQ s u)).flatMap ptC = ((knotPts (Ls.take k) ++ ptL (K.take q)).map (scQ s u)).flatMap ptC ++ [.int .i64 sx, .int .i64 sy] := by
                rw [hps.out, ← List.append_assoc, List.map_append, List.flatMap_append]
                show _ ++ (ptC (scQ s u (x, y)) ++ []) = _
                rw [hsc.out]; rfl
              refine ⟨q + 1, A4, c4, by go_num, by omega, ?_, ?_, (hB6d.trans hB7.out).setCell hXl _⟩
              · rw [e1]; exact Go.Joins.block_setCell HX7.out _
              · rw [e1, e2]; exact HR7.out.setX _
            case measure => simp [intOf]; omega
        · have hqn : q = K.length := by omega
          have hfin := HRi.out
          have hfx := HXi.out
          rw [hqn, List.take_length, ← hst.out] at hfin
          have he : sumK Ls k + K.length = sumK Ls (k + 1) := hs1.out.symm
          rw [hqn] at hfx
          rw [he] at hfin hfx
          replace hfin := Lib.hid hfin
          replace hfx := Lib.hid hfx
          replace hqn := Lib.hid hqn
          replace he := Lib.hid he
          clear HRi HXi
          go_wp2_with fail
          go_roundw
          case rel => exact ⟨k + 1, A3, c3, by go_num, by omega, hfx.out, hfin.out, hbi⟩
          case measure => simp [intOf]; omega
    · have hkn : n = k := by omega
      subst hkn
      have hfin := HRr.out
      rw [show Ls.take n = Ls from List.take_of_length_le (by rw [hll.out]; exact Nat.le_refl _)] at hfin
      replace HRr := Lib.hid hfin
      have hRB := (hbel.block (w.heap.size + 3) (by omega)).trans ((hb1.block (w.heap.size + 3) (by omega)).trans hnew.out.2.2.2)
      have hRB2 := Lib.hid ((hb1.block (w.heap.size + 3) (by omega)).trans hnew.out.2.2.2)
      replace hRB := Lib.hid hRB
      clear hfin hlt hnew
      obtain ⟨N, hN⟩ : ∃ N, N = sumK Ls n + 2 := ⟨_, rfl⟩
      have hNb' : N ≤ 722 := by omega
      replace hN := Lib.hid hN
      have cx1 : w5.cell? ⟨X, 1, none⟩ = some (.slice A1 (sumK Ls n) c1) := by rw [Go.Joins.cell_of_block HXr.out]; rfl
      have hRX : w.heap.size + 3 ≠ X := by omega
      have hXR : X ≠ w.heap.size + 3 := by omega
      have e2 : ((knotPts Ls).map (scQ s u)).flatMap ptC ++ [.int .i64 0, .int .i64 0, .int .i64 wd, .int .i64 0] = ((startPts Ls adv).map (scQ s u)).flatMap ptC := by
        unfold startPts
        rw [List.map_append, List.flatMap_append]
        show _ = _ ++ (ptC (scQ s u (0, 0)) ++ (ptC (scQ s u (adv, 0)) ++ []))
        rw [sc_zero ha.out, sc_wd ha.out, hwd'.out]; rfl
      replace e2 := Lib.hid e2
      by_cases hfull : 242 < N
      · have hF : startF Ls adv V s u = (zeroD, 5) := by unfold startF; rw [if_pos (by have := hN.out; omega)]
        replace hF := Lib.hid hF
        have hfi : (242 : Int) < (N : Int) := by omega
        go_wp2_with (at_builtin; refine wpAppAt rfl (.tmp 79) (.tmp 83) elemPt rfl (v := .slice A1 (sumK Ls n) c1) (n := sumK Ls n) (xs := ((knotPts Ls).map (scQ s u)).flatMap ptC) rfl ((HRr.out.alloc _).own 0 (r := ⟨25, 2, .slice A1 (sumK Ls n) c1, (sumK Ls n), ((knotPts Ls).map (scQ s u)).flatMap ptC⟩) rfl) rfl (src_many (m := 2) (cs := [.int .i64 0, .int .i64 0, .int .i64 wd, .int .i64 0]) rfl (by simp [Value.oneCell']) (by simp)) (by omega) (by omega) (by first | omega | (simp <;> omega)) N hN.out ?_; intro AK cK w7 ho hg hv; have hz7 := hg.size; (try simp at hz7); have HR7 : Hid (RowsX w7 w2.heap.size X [⟨25, 2, .slice AK N cK, N, ((startPts Ls adv).map (scQ s u)).flatMap ptC⟩, ⟨25, 2, .slice none 0 0, 0, []⟩, ⟨4, 1, .slice none 0 0, 0, []⟩, ⟨4, 1, .slice none 0 0, 0, []⟩, ⟨2, 1, .slice ae n ce, n, (endsL Ls).flatMap intC⟩, ⟨2, 1, .slice none 0 0, 0, []⟩, ⟨2, 1, .slice none 0 0, 0, []⟩]) := (by have h2 := RowsX.app (HRr.out.alloc _) 0 (r := ⟨25, 2, .slice A1 (sumK Ls n) c1, (sumK Ls n), ((knotPts Ls).map (scQ s u)).flatMap ptC⟩) rfl ho hg hv; rw [e2.out] at h2; exact h2); have HX7 : Hid (w7.heap[X]? = some (.cells #[.int .i64 s, .slice A1 (sumK Ls n) c1, .slice none 0 0, .slice none 0 0, .slice none 0 0, .slice ae n ce, .slice none 0 0, .slice none 0 0, .bool false, .int .i64 0, .int .i64 1, .int .i64 32, .int .i64 64] 65 (0, 0))) := (RowsX.block (HRr.out.alloc _) 0 (r := ⟨25, 2, .slice A1 (sumK Ls n) c1, (sumK Ls n), ((knotPts Ls).map (scQ s u)).flatMap ptC⟩) rfl hg).trans ((Below.heap_alloc _ _ _ (by omega)).trans HXr.out); have hB7 : Hid (Below w2.heap.size w5 w7) := Below.trans (Go.Joins.below_alloc1 _ _ |>.mono (by omega)) (below_app ((HRr.out.alloc _).own 0 (r := ⟨25, 2, .slice A1 (sumK Ls n) c1, (sumK Ls n), ((knotPts Ls).map (scQ s u)).flatMap ptC⟩) rfl) hg (by first | omega | (simp <;> omega))); clear ho hg hv; have cz1 : w7.cell? ⟨X, 1, none⟩ = some (.slice A1 (sumK Ls n) c1) := (by rw [Go.Joins.cell_of_block HX7.out]; rfl); have czf : ∀ o, w7.frozen? ⟨X, o, none⟩ = false := Go.Joins.unfrozen_of_block HX7.out; have czl : X < w7.heap.size := HR7.out.lt; have hcr : w7.heap[(w.heap.size + 3)]? = _ := ((hB7.out.block (w.heap.size + 3) (by omega)).trans hRB.out); have cr0 : w7.cell? ⟨w.heap.size + 3, 0, none⟩ = some (.int .i64 0) := (by rw [Go.Joins.cell_of_block hcr]; rfl); have cr1 : w7.cell? ⟨w.heap.size + 3, 1, none⟩ = some (.slice none 0 0) := (by rw [Go.Joins.cell_of_block hcr]; rfl); have cr2 : w7.cell? ⟨w.heap.size + 3, 2, none⟩ = some (.slice none 0 0) := (by rw [Go.Joins.cell_of_block hcr]; rfl); have cr3 : w7.cell? ⟨w.heap.size + 3, 3, none⟩ = some (.slice none 0 0) := (by rw [Go.Joins.cell_of_block hcr]; rfl); have cr4 : w7.cell? ⟨w.heap.size + 3, 4, none⟩ = some (.slice none 0 0) := (by rw [Go.Joins.cell_of_block hcr]; rfl); have cr5 : w7.cell? ⟨w.heap.size + 3, 5, none⟩ = some (.slice none 0 0) := (by rw [Go.Joins.cell_of_block hcr]; rfl); have cr6 : w7.cell? ⟨w.heap.size + 3, 6, none⟩ = some (.slice none 0 0) := (by rw [Go.Joins.cell_of_block hcr]; rfl); have cr7 : w7.cell? ⟨w.heap.size + 3, 7, none⟩ = some (.slice none 0 0) := (by rw [Go.Joins.cell_of_block hcr]; rfl); have cr8 : w7.cell? ⟨w.heap.size + 3, 8, none⟩ = some (.bool false) := (by rw [Go.Joins.cell_of_block hcr]; rfl); have cr9 : w7.cell? ⟨w.heap.size + 3, 9, none⟩ = some (.int .i64 0) := (by rw [Go.Joins.cell_of_block hcr]; rfl); have cr10 : w7.cell? ⟨w.heap.size + 3, 10, none⟩ = some (.int .i64 0) := (by rw [Go.Joins.cell_of_block hcr]; rfl); have cr11 : w7.cell? ⟨w.heap.size + 3, 11, none⟩ = some (.int .i64 0) := (by rw [Go.Joins.cell_of_block hcr]; rfl); have cr12 : w7.cell? ⟨w.heap.size + 3, 12, none⟩ = some (.int .i64 0) := (by rw [Go.Joins.cell_of_block hcr]; rfl); have crf : ∀ o, w7.frozen? ⟨w.heap.size + 3, o, none⟩ = false := Go.Joins.unfrozen_of_block hcr; have crl : w.heap.size + 3 < w7.heap.size := (by omega); clear hcr)
        refine bodyPost_ret (v := .tuple #[hinV zeroD zeroH, .int .i64 5]) (by simp [results, Try.results32, go_sem, cr0, cr1, cr2, cr3, cr4, cr5, cr6, cr7, cr8, cr9, cr10, cr11, cr12, zeroD, zeroH]) rfl ?_
        rw [hF.out]
        exact ⟨zeroH, rfl, HinOwn.zero _ _, below13 ((hBr.trans (hB7.out.mono (by omega))).setCell (p := ⟨X, 1, none⟩) (show w.heap.size ≤ X by omega) _) (by omega) _ _ _ _ _ _ _ _ _ _ _ _ _⟩
      · have hF : startF Ls adv V s u = (startD Ls adv V s u, 0) := by unfold startF; rw [if_neg (by have := hN.out; omega)]
        replace hF := Lib.hid hF
        have hfi : ¬ ((242 : Int) < (N : Int)) := by omega
        have hNs : N ≤ 242 := by omega
        have hNp : 0 < N := by have := hN.out; omega
        go_wp2_with (at_builtin; refine wpAppAt rfl (.tmp 79) (.tmp 83) elemPt rfl (v := .slice A1 (sumK Ls n) c1) (n := sumK Ls n) (xs := ((knotPts Ls).map (scQ s u)).flatMap ptC) rfl ((HRr.out.alloc _).own 0 (r := ⟨25, 2, .slice A1 (sumK Ls n) c1, (sumK Ls n), ((knotPts Ls).map (scQ s u)).flatMap ptC⟩) rfl) rfl (src_many (m := 2) (cs := [.int .i64 0, .int .i64 0, .int .i64 wd, .int .i64 0]) rfl (by simp [Value.oneCell']) (by simp)) (by omega) (by omega) (by first | omega | (simp <;> omega)) N hN.out ?_; intro AK cK w7 ho hg hv; have hz7 := hg.size; (try simp at hz7); have HR7 : Hid (RowsX w7 w2.heap.size X [⟨25, 2, .slice AK N cK, N, ((startPts Ls adv).map (scQ s u)).flatMap ptC⟩, ⟨25, 2, .slice none 0 0, 0, []⟩, ⟨4, 1, .slice none 0 0, 0, []⟩, ⟨4, 1, .slice none 0 0, 0, []⟩, ⟨2, 1, .slice ae n ce, n, (endsL Ls).flatMap intC⟩, ⟨2, 1, .slice none 0 0, 0, []⟩, ⟨2, 1, .slice none 0 0, 0, []⟩]) := (by have h2 := RowsX.app (HRr.out.alloc _) 0 (r := ⟨25, 2, .slice A1 (sumK Ls n) c1, (sumK Ls n), ((knotPts Ls).map (scQ s u)).flatMap ptC⟩) rfl ho hg hv; rw [e2.out] at h2; exact h2); have HX7 : Hid (w7.heap[X]? = some (.cells #[.int .i64 s, .slice A1 (sumK Ls n) c1, .slice none 0 0, .slice none 0 0, .slice none 0 0, .slice ae n ce, .slice none 0 0, .slice none 0 0, .bool false, .int .i64 0, .int .i64 1, .int .i64 32, .int .i64 64] 65 (0, 0))) := (RowsX.block (HRr.out.alloc _) 0 (r := ⟨25, 2, .slice A1 (sumK Ls n) c1, (sumK Ls n), ((knotPts Ls).map (scQ s u)).flatMap ptC⟩) rfl hg).trans ((Below.heap_alloc _ _ _ (by omega)).trans HXr.out); have hB7 : Hid (Below w2.heap.size w5 w7) := Below.trans (Go.Joins.below_alloc1 _ _ |>.mono (by omega)) (below_app ((HRr.out.alloc _).own 0 (r := ⟨25, 2, .slice A1 (sumK Ls n) c1, (sumK Ls n), ((knotPts Ls).map (scQ s u)).flatMap ptC⟩) rfl) hg (by first | omega | (simp <;> omega))); clear ho hg hv; have cz1 : w7.cell? ⟨X, 1, none⟩ = some (.slice A1 (sumK Ls n) c1) := (by rw [Go.Joins.cell_of_block HX7.out]; rfl); have czf : ∀ o, w7.frozen? ⟨X, o, none⟩ = false := Go.Joins.unfrozen_of_block HX7.out; have czl : X < w7.heap.size := HR7.out.lt)
        have HX8 : Hid ((w7.setCell ⟨X, 1, none⟩ (.slice AK N cK)).heap[X]? = some (.cells #[.int .i64 s, .slice AK N cK, .slice none 0 0, .slice none 0 0, .slice none 0 0, .slice ae n ce, .slice none 0 0, .slice none 0 0, .bool false, .int .i64 0, .int .i64 1, .int .i64 32, .int .i64 64] 65 (0, 0))) := Go.Joins.block_setCell HX7.out _
        have HR8 := Lib.hid (HR7.out.setX (j := 1) (.slice AK N cK))
        have hB8 : Below w2.heap.size w2 (w7.setCell ⟨X, 1, none⟩ (.slice AK N cK)) := (hbel.trans hB7.out).setCell (p := ⟨X, 1, none⟩) hXl _
        clear HX7 HR7 hB7 cz1 czf czl cx1 hz7
        generalize w7.setCell ⟨X, 1, none⟩ (.slice AK N cK) = w8 at *
        have hz8 := hB8.size
        have hX8 := HR8.out.lt
        have ow8 : w8.ownsRow w2.heap.size 25 2 (.slice AK N cK) N (((startPts Ls adv).map (scQ s u)).flatMap ptC) := HR8.out.own 0 (r := ⟨25, 2, .slice AK N cK, N, ((startPts Ls adv).map (scQ s u)).flatMap ptC⟩) rfl
        have hle8 : ((startPts Ls adv).map (scQ s u)).length = N := by rw [List.length_map, hPl, hN.out]
        refine (clonePt_any AK N cK _ _ ((startPts Ls adv).map (scQ s u)) w8 (rdS_own ptC_len (by omega) ow8 hle8) (by omega) (fun e => by obtain ⟨g, hg, _⟩ := own_at ow8 hNp; rw [e] at hg; simp at hg)).mono ?_
        rintro e w9 ⟨A9, c9, rfl, ho9, hb9⟩
        have HX9 : Hid (w9.heap[X]? = some (.cells #[.int .i64 s, .slice AK N cK, .slice none 0 0, .slice none 0 0, .slice none 0 0, .slice ae n ce, .slice none 0 0, .slice none 0 0, .bool false, .int .i64 0, .int .i64 1, .int .i64 32, .int .i64 64] 65 (0, 0))) := (hb9.block X hX8).trans HX8.out
        have HR9 : Hid (RowsX w9 w2.heap.size X [⟨25, 2, .slice AK N cK, N, ((startPts Ls adv).map (scQ s u)).flatMap ptC⟩, ⟨25, 2, .slice A9 N c9, N, ((startPts Ls adv).map (scQ s u)).flatMap ptC⟩, ⟨4, 1, .slice none 0 0, 0, []⟩, ⟨4, 1, .slice none 0 0, 0, []⟩, ⟨2, 1, .slice ae n ce, n, (endsL Ls).flatMap intC⟩, ⟨2, 1, .slice none 0 0, 0, []⟩, ⟨2, 1, .slice none 0 0, 0, []⟩]) := by
          have h2 := HR8.out.fresh 1 (r := ⟨25, 2, .slice none 0 0, 0, []⟩) rfl ho9 (Nat.le_refl _) hz8 hb9
          exact h2
        have hB9 : Below w2.heap.size w2 w9 := hB8.trans (hb9.mono hz8)
        have hz9 := hB9.size
        have hX9 := HR9.out.lt
        have cx2 : w9.cell? ⟨X, 2, none⟩ = some (.slice none 0 0) := by rw [Go.Joins.cell_of_block HX9.out]; rfl
        have cxf : ∀ o, w9.frozen? ⟨X, o, none⟩ = false := Go.Joins.unfrozen_of_block HX9.out
        clear ho9 hb9 ow8 HX8 HR8
        go_wp2_with fail
        have HXa : Hid ((w9.setCell ⟨X, 2, none⟩ (.slice A9 N c9)).heap[X]? = some (.cells #[.int .i64 s, .slice AK N cK, .slice A9 N c9, .slice none 0 0, .slice none 0 0, .slice ae n ce, .slice none 0 0, .slice none 0 0, .bool false, .int .i64 0, .int .i64 1, .int .i64 32, .int .i64 64] 65 (0, 0))) := Go.Joins.block_setCell HX9.out _
        have HRa := Lib.hid (HR9.out.setX (j := 2) (.slice A9 N c9))
        have hBa : Below w2.heap.size w2 (w9.setCell ⟨X, 2, none⟩ (.slice A9 N c9)) := hB9.setCell (p := ⟨X, 2, none⟩) hXl _
        clear HX9 HR9 hB9 cx2 cxf hX9 hz9 hX8 hz8 hB8
        generalize w9.setCell ⟨X, 2, none⟩ (.slice A9 N c9) = w10 at *
        have hz10 := hBa.size
        have hX10 := HRa.out.lt
        have cx1 : w10.cell? ⟨X, 1, none⟩ = some (.slice AK N cK) := by rw [Go.Joins.cell_of_block HXa.out]; rfl
        have cx3 : w10.cell? ⟨X, 3, none⟩ = some (.slice none 0 0) := by rw [Go.Joins.cell_of_block HXa.out]; rfl
        have cx4 : w10.cell? ⟨X, 4, none⟩ = some (.slice none 0 0) := by rw [Go.Joins.cell_of_block HXa.out]; rfl
        have cxf : ∀ o, w10.frozen? ⟨X, o, none⟩ = false := Go.Joins.unfrozen_of_block (w := w10) HXa.out
        have hX10d : X < w10.drew.heap.size := hX10
        have hzd10 : w10.drew.heap.size = w10.heap.size := rfl
        obtain ⟨mc, hmc⟩ : ∃ mc, mc = madeCells #[.bool false] N := ⟨_, rfl⟩
        have hmk : ∀ W, (Instr.makeSlice 63 (.int .i64 (N : Int)) (.int .i64 (N : Int))).run Try.prog W = .ok (.slice (some ⟨W.heap.size, 0, none⟩) N N) (W.alloc (.cells mc 4 (0, 0))) := fun W => by rw [hmc]; exact run_make_row' 63 4 (.bool false) 1 Try.underlying63 infoBool rfl .i64 .i64 N (by omega) (by omega) W
        have how := Lib.hid (fun (W : World) => show (W.alloc (.cells mc 4 (0, 0))).ownsRow W.heap.size 4 1 (.slice (some ⟨W.heap.size, 0, none⟩) N N) N ((List.replicate N false).flatMap boolC) by rw [hmc, rep_flat]; exact own_made W _ N _ _ (Nat.le_refl _) (by unfold maxLen; omega))
        replace hmc := Lib.hid hmc
        have hend : ∀ g1 g2 : Nat, ((g1 = w10.heap.size ∧ g2 = w10.heap.size + 1) ∨ (g1 = w10.heap.size + 1 ∧ g2 = w10.heap.size)) → (((((w10.setCell ⟨X, 3, none⟩ (.slice (some ⟨g1, 0, none⟩) N N)).setCell ⟨X, 4, none⟩ (.slice (some ⟨g2, 0, none⟩) N N)).alloc (.cells mc 4 (0, 0))).alloc (.cells mc 4 (0, 0))).drew).heap[X]? = some (.cells #[.int .i64 s, .slice AK N cK, .slice A9 N c9, .slice (some ⟨g1, 0, none⟩) N N, .slice (some ⟨g2, 0, none⟩) N N, .slice ae n ce, .slice none 0 0, .slice none 0 0, .bool false, .int .i64 0, .int .i64 1, .int .i64 32, .int .i64 64] 65 (0, 0)) ∧ RowsX (((((w10.setCell ⟨X, 3, none⟩ (.slice (some ⟨g1, 0, none⟩) N N)).setCell ⟨X, 4, none⟩ (.slice (some ⟨g2, 0, none⟩) N N)).alloc (.cells mc 4 (0, 0))).alloc (.cells mc 4 (0, 0))).drew) w2.heap.size X [⟨25, 2, .slice AK N cK, N, ((startPts Ls adv).map (scQ s u)).flatMap ptC⟩, ⟨25, 2, .slice A9 N c9, N, ((startPts Ls adv).map (scQ s u)).flatMap ptC⟩, ⟨4, 1, .slice (some ⟨g1, 0, none⟩) N N, N, (List.replicate N false).flatMap boolC⟩, ⟨4, 1, .slice (some ⟨g2, 0, none⟩) N N, N, (List.replicate N false).flatMap boolC⟩, ⟨2, 1, .slice ae n ce, n, (endsL Ls).flatMap intC⟩, ⟨2, 1, .slice none 0 0, 0, []⟩, ⟨2, 1, .slice none 0 0, 0, []⟩] ∧ Below w2.heap.size w2 (((((w10.setCell ⟨X, 3, none⟩ (.slice (some ⟨g1, 0, none⟩) N N)).setCell ⟨X, 4, none⟩ (.slice (some ⟨g2, 0, none⟩) N N)).alloc (.cells mc 4 (0, 0))).alloc (.cells mc 4 (0, 0))).drew) := by
          intro g1 g2 hg
          obtain ⟨w11, hw11⟩ : ∃ v, v = ((w10.setCell ⟨X, 3, none⟩ (.slice (some ⟨g1, 0, none⟩) N N)).setCell ⟨X, 4, none⟩ (.slice (some ⟨g2, 0, none⟩) N N)) := ⟨_, rfl⟩
          rw [← hw11]
          have HX11 : w11.heap[X]? = some (.cells #[.int .i64 s, .slice AK N cK, .slice A9 N c9, .slice (some ⟨g1, 0, none⟩) N N, .slice (some ⟨g2, 0, none⟩) N N, .slice ae n ce, .slice none 0 0, .slice none 0 0, .bool false, .int .i64 0, .int .i64 1, .int .i64 32, .int .i64 64] 65 (0, 0)) := by rw [hw11]; exact Go.Joins.block_setCell (Go.Joins.block_setCell HXa.out _) _
          have HR11 : RowsX w11 w2.heap.size X [⟨25, 2, .slice AK N cK, N, ((startPts Ls adv).map (scQ s u)).flatMap ptC⟩, ⟨25, 2, .slice A9 N c9, N, ((startPts Ls adv).map (scQ s u)).flatMap ptC⟩, ⟨4, 1, .slice none 0 0, 0, []⟩, ⟨4, 1, .slice none 0 0, 0, []⟩, ⟨2, 1, .slice ae n ce, n, (endsL Ls).flatMap intC⟩, ⟨2, 1, .slice none 0 0, 0, []⟩, ⟨2, 1, .slice none 0 0, 0, []⟩] := by rw [hw11]; exact (HRa.out.setX _).setX _
          have hs11 : w11.heap.size = w10.heap.size := by rw [hw11]; simp
          have hB11 : Below w2.heap.size w2 w11 := by rw [hw11]; exact (hBa.setCell (p := ⟨X, 3, none⟩) hXl _).setCell (p := ⟨X, 4, none⟩) hXl _
          have e1 : (w11.alloc (.cells mc 4 (0, 0))).heap.size = w10.heap.size + 1 := by simp [hs11]
          refine ⟨(Below.heap_alloc _ _ _ (by omega)).trans ((Below.heap_alloc _ _ _ (by omega)).trans HX11), ?_, ((hB11.alloc (by omega) _).alloc (by omega) _).drew⟩
          rcases hg with ⟨rfl, rfl⟩ | ⟨rfl, rfl⟩
          · have h1 := HR11.fresh 2 (r := ⟨4, 1, .slice none 0 0, 0, []⟩) rfl (how.out w11) (Nat.le_refl _) (by omega) (Go.Joins.below_alloc1 _ _)
            have h2 := h1.fresh 3 (r := ⟨4, 1, .slice none 0 0, 0, []⟩) rfl (how.out (w11.alloc (.cells mc 4 (0, 0)))) (Nat.le_refl _) (by omega) (Go.Joins.below_alloc1 _ _)
            rw [e1, hs11] at h2
            exact h2.drew
          · have h1 := HR11.fresh 3 (r := ⟨4, 1, .slice none 0 0, 0, []⟩) rfl (how.out w11) (Nat.le_refl _) (by omega) (Go.Joins.below_alloc1 _ _)
            have h2 := h1.fresh 2 (r := ⟨4, 1, .slice none 0 0, 0, []⟩) rfl (how.out (w11.alloc (.cells mc 4 (0, 0)))) (Nat.le_refl _) (by omega) (Go.Joins.below_alloc1 _ _)
            rw [e1, hs11] at h2
            exact h2.drew
        replace hend := Lib.hid hend
        clear HRa
        go_cut [] (fun wx => ∃ (g1 g2 : Nat), wx.heap[X]? = some (.cells #[.int .i64 s, .slice AK N cK, .slice A9 N c9, .slice (some ⟨g1, 0, none⟩) N N, .slice (some ⟨g2, 0, none⟩) N N, .slice ae n ce, .slice none 0 0, .slice none 0 0, .bool false, .int .i64 0, .int .i64 1, .int .i64 32, .int .i64 64] 65 (0, 0)) ∧ RowsX wx w2.heap.size X [⟨25, 2, .slice AK N cK, N, ((startPts Ls adv).map (scQ s u)).flatMap ptC⟩, ⟨25, 2, .slice A9 N c9, N, ((startPts Ls adv).map (scQ s u)).flatMap ptC⟩, ⟨4, 1, .slice (some ⟨g1, 0, none⟩) N N, N, (List.replicate N false).flatMap boolC⟩, ⟨4, 1, .slice (some ⟨g2, 0, none⟩) N N, N, (List.replicate N false).flatMap boolC⟩, ⟨2, 1, .slice ae n ce, n, (endsL Ls).flatMap intC⟩, ⟨2, 1, .slice none 0 0, 0, []⟩, ⟨2, 1, .slice none 0 0, 0, []⟩] ∧ Below w2.heap.size w2 wx)
        case first =>
          go_region_held3 (fun w' => w'.cell? ⟨X, 1, none⟩ = some (.slice AK N cK)) (first | exact cx1 | (go_simp; done)) (fail)
          all_goals
            go_wp2_with fail
            go_meet
            first | exact ⟨_, _, hend.out _ _ (.inl ⟨rfl, rfl⟩)⟩ | exact ⟨_, _, hend.out _ _ (.inr ⟨rfl, rfl⟩)⟩
        case rest =>
        clear hend how hmk hmc cx1 cx3 cx4 cxf hX10d hzd10 HXa hX10 hz10 hBa
        obtain ⟨w12, hw12⟩ : ∃ v, v = wc := ⟨_, rfl⟩
        subst hw12
        obtain ⟨g1, g2, HX, HR, hb12⟩ := hcut
        have hz12 := hb12.size
        replace HX := Lib.hid HX
        replace HR := Lib.hid HR
        go_wp2_with fail
        go_loopw [107] (fun i wr => ∃ (q : Nat) (ag : Option Addr) (cg : Nat), i = .int .i64 q ∧ q ≤ nv ∧ wr.heap[X]? = some (.cells #[.int .i64 s, .slice AK N cK, .slice A9 N c9, .slice (some ⟨g1, 0, none⟩) N N, .slice (some ⟨g2, 0, none⟩) N N, .slice ae n ce, .slice ag q cg, .slice none 0 0, .bool false, .int .i64 0, .int .i64 1, .int .i64 32, .int .i64 64] 65 (0, 0)) ∧ RowsX wr w2.heap.size X [⟨25, 2, .slice AK N cK, N, ((startPts Ls adv).map (scQ s u)).flatMap ptC⟩, ⟨25, 2, .slice A9 N c9, N, ((startPts Ls adv).map (scQ s u)).flatMap ptC⟩, ⟨4, 1, .slice (some ⟨g1, 0, none⟩) N N, N, (List.replicate N false).flatMap boolC⟩, ⟨4, 1, .slice (some ⟨g2, 0, none⟩) N N, N, (List.replicate N false).flatMap boolC⟩, ⟨2, 1, .slice ae n ce, n, (endsL Ls).flatMap intC⟩, ⟨2, 1, .slice ag q cg, q, ((V.map fun v => rnd (v * s * 64) u).take q).flatMap intC⟩, ⟨2, 1, .slice none 0 0, 0, []⟩] ∧ Below w2.heap.size w2 wr) (fun i wr => nv - (intOf i).toNat)
        case atStart => exact ⟨0, none, 0, rfl, Nat.zero_le _, HX.out, HR.out, hb12⟩
        case round =>
          clear HX HR hb12 hz12
          obtain ⟨q, ag, cg, rfl, hq, HXr, HRr, hbel⟩ := hrel
          have hz := hbel.size
          have hXw := HRr.lt
          replace HXr := Lib.hid HXr
          replace HRr := Lib.hid HRr
          have hBr : Below w.heap.size w wr := hBw2.trans (hbel.mono (by omega))
          by_cases hlt : q < nv
          · obtain ⟨b, off, v, rfl, hb1', hb2, hv, hcs⟩ := (hrv.out.frame (good_flat _) (Below.sameB hBr hhiv)).at hlt
            have q0 := hcs 0 _ rfl
            simp only [Nat.add_zero, Nat.mul_one] at q0
            have hbw : b < wr.heap.size := by omega
            have hca := Lib.hid (fun W h0 h1 => startScale_any (w.heap.size + 1) (w.heap.size + 2) v s u W h0 h1 (hV.out v (List.mem_of_getElem? hv)))
            have hst := Lib.hid (take_map_step (f := fun v => rnd (v * s * 64) u) hv)
            have hsv : Hid ((fun v => rnd (v * s * 64) u) v = rnd (v * s * 64) u) := rfl
            obtain ⟨sv, hsv'⟩ : ∃ sv, sv = rnd (v * s * 64) u := ⟨_, rfl⟩
            rw [← hsv'] at hca hsv
            replace hsv' := Lib.hid hsv'
            replace hv := Lib.hid hv
            clear hcs hb1' hb2
            have s6 : wr.drew.cell? ⟨w.heap.size + 1, 0, none⟩ = some (.int .i64 s) := (hbel.cell (by simp; omega)).trans s0
            have u6 : wr.drew.cell? ⟨w.heap.size + 2, 0, none⟩ = some (.int .i64 u) := (hbel.cell (by simp; omega)).trans u0
            have cq6 : wr.cell? ⟨X, 6, none⟩ = some (.slice ag q cg) := by rw [Go.Joins.cell_of_block HXr.out]; rfl
            have HXd : Hid (wr.drew.heap[X]? = some (.cells #[.int .i64 s, .slice AK N cK, .slice A9 N c9, .slice (some ⟨g1, 0, none⟩) N N, .slice (some ⟨g2, 0, none⟩) N N, .slice ae n ce, .slice ag q cg, .slice none 0 0, .bool false, .int .i64 0, .int .i64 1, .int .i64 32, .int .i64 64] 65 (0, 0))) := HXr.out
            have HRd : Hid (RowsX wr.drew w2.heap.size X [⟨25, 2, .slice AK N cK, N, ((startPts Ls adv).map (scQ s u)).flatMap ptC⟩, ⟨25, 2, .slice A9 N c9, N, ((startPts Ls adv).map (scQ s u)).flatMap ptC⟩, ⟨4, 1, .slice (some ⟨g1, 0, none⟩) N N, N, (List.replicate N false).flatMap boolC⟩, ⟨4, 1, .slice (some ⟨g2, 0, none⟩) N N, N, (List.replicate N false).flatMap boolC⟩, ⟨2, 1, .slice ae n ce, n, (endsL Ls).flatMap intC⟩, ⟨2, 1, .slice ag q cg, q, ((V.map fun v => rnd (v * s * 64) u).take q).flatMap intC⟩, ⟨2, 1, .slice none 0 0, 0, []⟩]) := HRr.out.drew
            have hB4 : Below w2.heap.size w2 wr.drew := hbel.drew
            have hzd : w2.heap.size ≤ wr.drew.heap.size := hz
            have hXd : X < wr.drew.heap.size := hXw
            go_wp2_with fail
            go_region_law (first | (refine stepAppR rfl (.tmp 112) (.tmp 116) elemInt64 rfl (v := .slice ag q cg) (n := q) (xs := ((V.map fun v => rnd (v * s * 64) u).take q).flatMap intC) rfl ((HRd.out.alloc _).own 5 (r := ⟨2, 1, .slice ag q cg, q, ((V.map fun v => rnd (v * s * 64) u).take q).flatMap intC⟩) rfl) rfl (src_at (cs := [.int .i64 sv]) rfl (by simp [Value.oneCell']) (by simp)) (by omega) (by omega) (by first | omega | (simp <;> omega)) (q + 1) rfl ?_; intro ah ch w7 ho hg hv; have hz7 := hg.size; (try simp at hz7); have HR7 : Hid (RowsX w7 w2.heap.size X [⟨25, 2, .slice AK N cK, N, ((startPts Ls adv).map (scQ s u)).flatMap ptC⟩, ⟨25, 2, .slice A9 N c9, N, ((startPts Ls adv).map (scQ s u)).flatMap ptC⟩, ⟨4, 1, .slice (some ⟨g1, 0, none⟩) N N, N, (List.replicate N false).flatMap boolC⟩, ⟨4, 1, .slice (some ⟨g2, 0, none⟩) N N, N, (List.replicate N false).flatMap boolC⟩, ⟨2, 1, .slice ae n ce, n, (endsL Ls).flatMap intC⟩, ⟨2, 1, .slice ah (q + 1) ch, (q + 1), ((V.map fun v => rnd (v * s * 64) u).take q).flatMap intC ++ [.int .i64 sv]⟩, ⟨2, 1, .slice none 0 0, 0, []⟩]) := (by have h2 := RowsX.app (HRd.out.alloc _) 5 (r := ⟨2, 1, .slice ag q cg, q, ((V.map fun v => rnd (v * s * 64) u).take q).flatMap intC⟩) rfl ho hg hv; exact h2); have HX7 : Hid (w7.heap[X]? = some (.cells #[.int .i64 s, .slice AK N cK, .slice A9 N c9, .slice (some ⟨g1, 0, none⟩) N N, .slice (some ⟨g2, 0, none⟩) N N, .slice ae n ce, .slice ag q cg, .slice none 0 0, .bool false, .int .i64 0, .int .i64 1, .int .i64 32, .int .i64 64] 65 (0, 0))) := (RowsX.block (HRd.out.alloc _) 5 (r := ⟨2, 1, .slice ag q cg, q, ((V.map fun v => rnd (v * s * 64) u).take q).flatMap intC⟩) rfl hg).trans ((Below.heap_alloc _ _ _ (by omega)).trans HXd.out); have hB7 : Hid (Below w2.heap.size wr.drew w7) := Below.trans (Go.Joins.below_alloc1 _ _ |>.mono (by omega)) (below_app ((HRd.out.alloc _).own 5 (r := ⟨2, 1, .slice ag q cg, q, ((V.map fun v => rnd (v * s * 64) u).take q).flatMap intC⟩) rfl) hg (by first | omega | (simp <;> omega))); clear ho hg hv; have cz6 : w7.cell? ⟨X, 6, none⟩ = some (.slice ag q cg) := (by rw [Go.Joins.cell_of_block HX7.out]; rfl); have czf : ∀ o, w7.frozen? ⟨X, o, none⟩ = false := Go.Joins.unfrozen_of_block HX7.out; have czl : X < w7.heap.size := HR7.out.lt) | (go_simp; go_at_call 94; (with_reducible refine (hca.out _ s6 u6).mono ?_); rintro e w' ⟨rfl, rfl⟩; dsimp only))
            all_goals
              go_wp2_with fail
              go_roundw
              case rel =>
                refine ⟨q + 1, ah, ch, by go_num, by omega, Go.Joins.block_setCell HX7.out _, ?_, (hB4.trans hB7.out).setCell (p := ⟨X, 6, none⟩) hXl _⟩
                rw [hst.out, List.flatMap_append, hsv.out]
                exact HR7.out.setX _
              case measure => simp [intOf]; omega
          · have hqn : nv = q := by omega
            subst hqn
            have hfin := HRr.out
            have ht3 : (V.map fun v => rnd (v * s * 64) u).take nv = V.map fun v => rnd (v * s * 64) u := List.take_of_length_le (by rw [List.length_map, hrv.out.1]; exact Nat.le_refl _)
            have ht2 : List.replicate N false = List.replicate (startPts Ls adv).length false := by rw [hPl, hN.out]
            rw [ht3, ht2] at hfin
            have hvl := hrv.out.1
            replace hfin := Lib.hid hfin
            clear ht3 ht2
            have cX0 : wr.cell? ⟨X, 0, none⟩ = some (.int .i64 s) := by rw [Go.Joins.cell_of_block HXr.out]; rfl
            have cX1 : wr.cell? ⟨X, 1, none⟩ = some (.slice AK N cK) := by rw [Go.Joins.cell_of_block HXr.out]; rfl
            have cX2 : wr.cell? ⟨X, 2, none⟩ = some (.slice A9 N c9) := by rw [Go.Joins.cell_of_block HXr.out]; rfl
            have cX3 : wr.cell? ⟨X, 3, none⟩ = some (.slice (some ⟨g1, 0, none⟩) N N) := by rw [Go.Joins.cell_of_block HXr.out]; rfl
            have cX4 : wr.cell? ⟨X, 4, none⟩ = some (.slice (some ⟨g2, 0, none⟩) N N) := by rw [Go.Joins.cell_of_block HXr.out]; rfl
            have cX5 : wr.cell? ⟨X, 5, none⟩ = some (.slice ae n ce) := by rw [Go.Joins.cell_of_block HXr.out]; rfl
            have cX6 : wr.cell? ⟨X, 6, none⟩ = some (.slice ag nv cg) := by rw [Go.Joins.cell_of_block HXr.out]; rfl
            have cX7 : wr.cell? ⟨X, 7, none⟩ = some (.slice none 0 0) := by rw [Go.Joins.cell_of_block HXr.out]; rfl
            have cX8 : wr.cell? ⟨X, 8, none⟩ = some (.bool false) := by rw [Go.Joins.cell_of_block HXr.out]; rfl
            have cX9 : wr.cell? ⟨X, 9, none⟩ = some (.int .i64 0) := by rw [Go.Joins.cell_of_block HXr.out]; rfl
            have cX10 : wr.cell? ⟨X, 10, none⟩ = some (.int .i64 1) := by rw [Go.Joins.cell_of_block HXr.out]; rfl
            have cX11 : wr.cell? ⟨X, 11, none⟩ = some (.int .i64 32) := by rw [Go.Joins.cell_of_block HXr.out]; rfl
            have cX12 : wr.cell? ⟨X, 12, none⟩ = some (.int .i64 64) := by rw [Go.Joins.cell_of_block HXr.out]; rfl
            have cXf : ∀ o, wr.frozen? ⟨X, o, none⟩ = false := Go.Joins.unfrozen_of_block HXr.out
            have hRB2 := ((hbel.block (w.heap.size + 3) (by omega)).trans hRB2.out)
            have cr0 : wr.cell? ⟨w.heap.size + 3, 0, none⟩ = some (.int .i64 0) := by rw [Go.Joins.cell_of_block hRB2]; rfl
            have cr1 : wr.cell? ⟨w.heap.size + 3, 1, none⟩ = some (.slice none 0 0) := by rw [Go.Joins.cell_of_block hRB2]; rfl
            have cr2 : wr.cell? ⟨w.heap.size + 3, 2, none⟩ = some (.slice none 0 0) := by rw [Go.Joins.cell_of_block hRB2]; rfl
            have cr3 : wr.cell? ⟨w.heap.size + 3, 3, none⟩ = some (.slice none 0 0) := by rw [Go.Joins.cell_of_block hRB2]; rfl
            have cr4 : wr.cell? ⟨w.heap.size + 3, 4, none⟩ = some (.slice none 0 0) := by rw [Go.Joins.cell_of_block hRB2]; rfl
            have cr5 : wr.cell? ⟨w.heap.size + 3, 5, none⟩ = some (.slice none 0 0) := by rw [Go.Joins.cell_of_block hRB2]; rfl
            have cr6 : wr.cell? ⟨w.heap.size + 3, 6, none⟩ = some (.slice none 0 0) := by rw [Go.Joins.cell_of_block hRB2]; rfl
            have cr7 : wr.cell? ⟨w.heap.size + 3, 7, none⟩ = some (.slice none 0 0) := by rw [Go.Joins.cell_of_block hRB2]; rfl
            have cr8 : wr.cell? ⟨w.heap.size + 3, 8, none⟩ = some (.bool false) := by rw [Go.Joins.cell_of_block hRB2]; rfl
            have cr9 : wr.cell? ⟨w.heap.size + 3, 9, none⟩ = some (.int .i64 0) := by rw [Go.Joins.cell_of_block hRB2]; rfl
            have cr10 : wr.cell? ⟨w.heap.size + 3, 10, none⟩ = some (.int .i64 0) := by rw [Go.Joins.cell_of_block hRB2]; rfl
            have cr11 : wr.cell? ⟨w.heap.size + 3, 11, none⟩ = some (.int .i64 0) := by rw [Go.Joins.cell_of_block hRB2]; rfl
            have cr12 : wr.cell? ⟨w.heap.size + 3, 12, none⟩ = some (.int .i64 0) := by rw [Go.Joins.cell_of_block hRB2]; rfl
            have crf : ∀ o, wr.frozen? ⟨w.heap.size + 3, o, none⟩ = false := Go.Joins.unfrozen_of_block hRB2
            have crl : w.heap.size + 3 < wr.heap.size := by omega
            go_wp2_with fail
            refine bodyPost_ret (v := .tuple #[hinV (startD Ls adv V s u) ⟨⟨AK, N, cK⟩, ⟨A9, N, c9⟩, ⟨some ⟨g1, 0, none⟩, N, N⟩, ⟨some ⟨g2, 0, none⟩, N, N⟩, ⟨ae, n, ce⟩, ⟨ag, nv, cg⟩, ⟨none, 0, 0⟩⟩, .int .i64 0]) (by simp [results, Try.results32, go_sem, cr0, cr1, cr2, cr3, cr4, cr5, cr6, cr7, cr8, cr9, cr10, cr11, cr12, startD]) rfl ?_
            rw [hF.out]
            refine ⟨_, rfl, ⟨Rows.lower (lo := w2.heap.size) ?_ (by omega), ⟨by simp [startD]; have := hN.out; omega, by simp [startD]; have := hN.out; omega, by simp [startD]; have := hN.out; omega, by simp [startD]; have := hN.out; omega, by simp [startD, endsL_len]; exact hll.out, by simp [startD]; omega, rfl⟩⟩, ?_⟩
            · exact rows13 hfin.out.rows (by omega) _ _ _ _ _ _ _ _ _ _ _ _ _
            · exact below13 hBr (by omega) _ _ _ _ _ _ _ _ _ _ _ _ _
end Go.Proofs.Ytgngcllodofimaa
