/- Rings traced along edges: the program's side. Conditions: as each states. -/
import Derived.Lib.BufferOwn
import Derived.Deep.OwnRows
import Derived.Test.YtlifiioflkhkoaaGreatFr40
import Derived.Test.YtlifiioflkhkoaaGreatFr36
import Derived.Test.YtlifiioflkhkoaaGreatFr28
import Derived.Test.YtlifiioflkhkoaaGreatFr24
import Derived.Test.YtlifiioflkhkoaaGreatFr27
namespace Go.Proofs.YtlifiioflkhkoaaGreat
open Go.RowKit
set_option linter.unusedVariables false
set_option maxRecDepth 100000
set_option linter.unusedSimpArgs false

theorem elemIntT : Elem Tryz.prog 130 3 1 8 := elem_mk (z := .int .i64 0) Tryz.underlying130 (by kernel_rfl) rfl (by omega)
def boolsO (Us : List Bool) : Obj := .cells (Us.map Value.bool).toArray 4 (0, 0)
theorem used_cell {w : World} {b : Nat} {Us : List Bool} (h : w.heap[b]? = some (boolsO Us)) {i : Nat} (hi : i < Us.length) : w.cell? ⟨b, i, none⟩ = some (.bool (usedAt Us i)) := by
  rw [Go.Joins.cell_of_block h]
  simp [usedAt, List.getD_eq_getElem?_getD, List.getElem?_eq_getElem hi]
theorem used_store {w : World} {b : Nat} {Us : List Bool} (h : w.heap[b]? = some (boolsO Us)) (i : Nat) : (w.setCell ⟨b, i, none⟩ (.bool true)).heap[b]? = some (boolsO (Us.set i true)) := by
  have := Go.Joins.block_setCell h (.bool true) (i := i)
  rw [this]
  unfold boolsO
  congr 2
  rw [List.map_set]
  simp
theorem made_bools (n : Nat) : Obj.cells (madeCells #[.bool false] n) 4 (0, 0) = boolsO (List.replicate n false) := by
  unfold boolsO
  congr 1
  apply Array.ext'
  refine List.ext_getElem (by simp [madeCells]) fun i h1 h2 => ?_
  simp [madeCells, Nat.mod_one]

theorem grown_then {a y w : World} {row : Option Nat} (h : a.grownBy y row) (hb : Below a.heap.size y w) : a.grownBy w row := ⟨hb.os.trans h.os, hb.tape.trans h.tape, hb.output.trans h.output, Nat.le_trans h.size hb.size, fun k hk hne => (hb.block k hk).trans (h.block k hk hne)⟩
theorem leg_of {w : World} {lo hi b off n : Nat} {E : List Leg} (h : RdS 4 (FlatR edgeC) w lo hi (some ⟨b, off, none⟩) n E) {j : Nat} (hj : j < n) : w.cell? ⟨b, off + j * 4, none⟩ = some (.int .i64 (legD E j).1.1) ∧ w.cell? ⟨b, off + j * 4 + 1, none⟩ = some (.int .i64 (legD E j).1.2) ∧ w.cell? ⟨b, off + j * 4 + 2, none⟩ = some (.int .i64 (legD E j).2.1) ∧ w.cell? ⟨b, off + j * 4 + 3, none⟩ = some (.int .i64 (legD E j).2.2) := by
  obtain ⟨b', off', e, hA, _, _, hje, hcs⟩ := h.at hj
  injection hA with hA
  injection hA with h1 h2
  subst h1 h2
  have he : legD E j = e := by unfold legD; rw [List.getD_eq_getElem?_getD, hje]; rfl
  rw [he]
  exact ⟨hcs 0 _ rfl, hcs 1 _ rfl, hcs 2 _ rfl, hcs 3 _ rfl⟩
theorem leg_ok {E : List Leg} (hok : EOk E) {n j : Nat} (hn : E.length = n) (hj : j < n) : pt2Ok (legD E j).1 = true ∧ pt2Ok (legD E j).2 = true := by
  have hm : legD E j ∈ E := by unfold legD; rw [List.getD_eq_getElem?_getD, List.getElem?_eq_getElem (by omega)]; exact List.getElem_mem _
  exact hok _ hm
def ROk (n : Nat) (Rs : List (List Pnt)) : Prop := ∀ K ∈ Rs, 1 ≤ K.length ∧ K.length ≤ n ∧ ∀ p ∈ K, pt2Ok p = true

set_option maxHeartbeats 32000000 in
theorem traceRings_any (A : Option Addr) (n c lo hi : Nat) (E : List Leg) (w : World) (hr : RdS 4 (FlatR edgeC) w lo hi A n E) (hhi : hi ≤ w.heap.size) (hn : n ≤ 1000) (hok : EOk E) :
    Calls Tryz.prog 81 #[.slice A n c] w fun e w' => ∃ (X : List (List Pnt)) (A' : Option Addr) (c' : Nat), AllTo E 0 (List.replicate n false) [] X ∧ e = .returned (.agg #[.slice A' X.length c']) ∧ RegOwn w' w.heap.size A' X.length c' X ∧ Below w.heap.size w w' ∧ X.length ≤ n ∧ ∀ K ∈ X, 1 ≤ K.length ∧ K.length ≤ n ∧ ∀ p ∈ K, pt2Ok p = true := by
  have hll := Lib.hid hr.1
  replace hok := Lib.hid hok
  have hmm := fun t W => run_makeMap (P := Tryz.prog) t W
  have hb0 := Go.Joins.below_alloc2 w (.cells #[.slice none 0 0] 26 (0, 0)) (.map #[] 0)
  have hnew := heap_new2 w (.cells #[.slice none 0 0] 26 (0, 0)) (.map #[] 0)
  have hz0 : ((w.alloc (.cells #[.slice none 0 0] 26 (0, 0))).alloc (.map #[] 0)).heap.size = w.heap.size + 2 := by simp
  have hm0 := World.ownsGroups_made (H := Unit) (w.alloc (.cells #[.slice none 0 0] 26 (0, 0))) Tryz.prog 28 3 .i64
  rw [show (w.alloc (.cells #[.slice none 0 0] 26 (0, 0))).heap.size = w.heap.size + 1 by simp] at hm0
  have hr0 := Lib.hid (hr.frame (good_flat _) (Below.sameB hb0 hhi))
  clear hr
  go_enter Tryz.func81, Tryz.ntmps81
  go_upto_region 2 with fail
  generalize (w.alloc (.cells #[.slice none 0 0] 26 (0, 0))).alloc (.map #[] 0) = v0 at *
  obtain ⟨Y, hY⟩ : ∃ Y, Y = w.heap.size := ⟨_, rfl⟩
  obtain ⟨M, hM⟩ : ∃ M, M = Y + 1 := ⟨_, rfl⟩
  rw [← hY] at hnew hz0 hhi hm0 ⊢
  rw [← hM] at hnew hm0 ⊢
  obtain ⟨hR0, hM0⟩ := hnew
  have hv0 : M + 1 ≤ v0.heap.size ∧ v0.heap.size ≤ M + 1 ∧ Y + 1 ≤ M ∧ M ≤ Y + 1 := by omega
  have hYH := Lib.hid hY
  have hB0 := Lib.hid hb0
  replace hm0 := Lib.hid hm0
  replace hR0 := Lib.hid hR0
  replace hM := Lib.hid hM
  clear hb0 hY hz0 hM0 hmm
  go_wp2_with fail
  go_loopg [19] n (fun kx s19 wr => ∃ (k : Nat) (D : DataW Unit), s19 = .int .i64 k ∧ k ≤ n ∧ n - k ≤ kx ∧ Hid (wr.ownsGroups Tryz.prog 28 (M + 1) 3 .i64 M k D) ∧ Hid (MapAt E D k) ∧ Below M v0 wr)
  case atStart => exact ⟨0, _, rfl, Nat.zero_le _, Nat.le_refl _, hm0, Lib.hid (mapAt_zero E), Below.refl _ _⟩
  case round =>
  obtain ⟨k, D, rfl, hk, hkx, hG, hMA, hbel⟩ := hrel
  generalize wr = xr at *
  have hzx := hbel.size
  by_cases hlt : k < n
  · have hki : (k : Int) < (n : Int) := by omega
    have i1 : (0 : Int) ≤ (k : Int) ∧ (k : Int) < (n : Int) := by omega
    obtain ⟨b, off, ax, ay, bx, ey, rfl, _, hb, hja, c0, d1, d2, d3⟩ := legAt (hr0.out.frame (good_flat _) (Below.sameB (hbel.mono (show hi ≤ M by omega)) (Nat.le_refl _))) hlt
    have hpa := (hok.out _ (List.mem_of_getElem? hja)).1
    have hlg : legD E k = ((ax, ay), (bx, ey)) := by unfold legD; rw [List.getD_eq_getElem?_getD, hja]; rfl
    obtain ⟨o1, o2, o3, o4⟩ := pt_bd hpa
    dsimp only at o1 o2 o3 o4
    obtain ⟨kl, hkl⟩ := key_pt (ax, ay) ⟨by dsimp only; omega, by dsimp only; omega⟩ ⟨by dsimp only; omega, by dsimp only; omega⟩
    have hbw : b < xr.heap.size := by omega
    have hal := Go.Joins.below_alloc2 xr (.cells #[.int .i64 ax, .int .i64 ay, .int .i64 bx, .int .i64 ey] 78 (0, 0)) (.cells #[.int .i64 k] 3 (0, 0))
    have hnw := heap_new2 xr (.cells #[.int .i64 ax, .int .i64 ay, .int .i64 bx, .int .i64 ey] 78 (0, 0)) (.cells #[.int .i64 k] 3 (0, 0))
    have hz2 : ((xr.alloc (.cells #[.int .i64 ax, .int .i64 ay, .int .i64 bx, .int .i64 ey] 78 (0, 0))).alloc (.cells #[.int .i64 k] 3 (0, 0))).heap.size = xr.heap.size + 2 := by simp
    have hGk := groups_kept hG.out hal
    obtain ⟨v, zs, st, w1, hrE, hg1, hz1, hat, hoi, hoi1, hzl, hback⟩ := entry_groups hGk lawPt Tryz.underlying129 zeroInts (show k < maxLen by unfold maxLen; omega) hkl
    have hatk := hMA.out (ax, ay) kl hkl
    have hzs := zs_is hoi (hatk.symm.trans hat)
    have hD := isMap_groups hG.out
    obtain ⟨A5, c5, hv⟩ := own_form hoi1.1
    subst hv
    have hX1 : w1.heap[xr.heap.size + 1]? = some (.cells #[.int .i64 k] 3 (0, 0)) := (hg1.block _ (by omega) (by intro e; injection e with e; omega)).trans hnw.2
    have hsrc := Lib.hid (src_block hX1 rfl)
    replace hrE := Lib.hid hrE
    replace hback := Lib.hid hback
    replace hoi1 := Lib.hid hoi1
    replace hoi := Lib.hid hoi
    have hs1 : M + 1 ≤ w1.heap.size := by omega
    have hzz : zs.length + 1 ≤ 1000000000 := by omega
    have hzl2 : zs.length + 1 ≤ k + 1 := by omega
    have hwf : Hid ((Lit.int .i64 (k : Int)).wf = true) := Lib.hid (WalkArith.wf_i64 (by omega))
    have hbW := Lib.hid ((hbel.trans (hal.mono (show M ≤ xr.heap.size by omega))).grown hg1 (by omega) (fun g hg => by injection hg with hg; omega))
    have hsz1 : w1.heap.size ≤ xr.heap.size + 2 := by omega
    have hxs : xr.heap.size + 2 ≤ w1.heap.size := by omega
    clear hat hG hX1 hnw hal hGk hz1 hg1 hbel hja hb hpa o1 o2 o3 o4
    replace hzs := Lib.hid hzs
    replace hD := Lib.hid hD
    replace hlg := Lib.hid hlg
    replace hkl := Lib.hid hkl
    replace hatk := Lib.hid hatk
    go_wp2_with (first | (refine wpEntry rfl (.tmp 24) (.tmp 26) 129 rfl rfl rfl hrE.out ?_) | (at_builtin; refine wpAppAt rfl (.tmp 27) (.tmp 29) elemIntT rfl (v := .slice A5 zs.length c5) (n := zs.length) (xs := zs.map (Value.int .i64)) rfl hoi1.out.1 rfl hsrc.out hzz (by omega) hs1 (zs.length + 1) rfl ?_; intro A6 c6 w2 ho2 hg2 hloc; obtain ⟨w3, hrS, hG3, hg3⟩ := hback.out w2 (.slice A6 (zs.length + 1) c6) (zs ++ [(k : Int)]) hg2 (hoi1.out.appended ho2 hwf.out) (by simp; omega) (hloc.imp id (fun h => ⟨_, h, by simp; omega⟩)); have hdat := Lib.hid ((hoi1.out.appended ho2 hwf.out).datum_pos (H := Unit) (by simp)); replace hrS := Lib.hid hrS; replace hG3 := Lib.hid hG3; replace hg3 := Lib.hid hg3; replace hg2 := Lib.hid hg2; clear ho2 hloc) | (refine wpEStore rfl (.tmp 24) (.tmp 32) (.tmp 31) 129 rfl rfl rfl rfl hrS.out ?_))
    go_roundg (n - (k + 1))
    case measure => omega
    case rel =>
      refine ⟨k + 1, _, by go_num, by omega, Nat.le_refl _, hG3, Lib.hid ?_, (hbW.out.grown hg2.out (by omega) (fun g hg => by have := (hoi.out.1.lt g hg).1; omega)).grown hg3.out (by have := hg2.out.size; omega) (fun g hg => by injection hg with hg; omega)⟩
      rw [hdat.out, hzs.out]
      exact mapAt_next hMA.out hD.out (by rw [hlg.out]) hkl.out
  have hki : ¬ (k : Int) < (n : Int) := by omega
  have hkn : k = n := by omega
  rw [hkn] at hG hMA
  have hElen : Hid (E.length = n) := hll
  have hlook := Lib.hid (fun (T : World) (hB : Below xr.heap.size xr T) (p : Pnt) (kl : Lit) (hk : keyOf Tryz.prog 28 (ptV p) = some kl) => look_after hG.out hMA.out hB hk)
  have hmk : ∀ W, (Instr.makeSlice 131 (.int .i64 (n : Int)) (.int .i64 (n : Int))).run Tryz.prog W = .ok (.slice (some ⟨W.heap.size, 0, none⟩) n n) (W.alloc (boolsO (List.replicate n false))) := fun W => by rw [← made_bools]; exact run_make_row' 131 4 (.bool false) 1 Tryz.underlying131 infoBool rfl .i64 .i64 n (by omega) (by omega) W
  have hR1 := Lib.hid ((hbel.block Y (by omega)).trans hR0.out)
  have hr1 := Lib.hid (hr0.out.frame (good_flat _) (Below.sameB (hbel.mono (show hi ≤ M by omega)) (Nat.le_refl _)))
  have hB1 := Lib.hid (hB0.out.trans (hbel.mono (by have := hYH.out; omega)))
  have hal := Go.Joins.below_alloc2 xr (boolsO (List.replicate n false)) (.cells #[.slice none 0 0] 26 (0, 0))
  have hnw := heap_new2 xr (boolsO (List.replicate n false)) (.cells #[.slice none 0 0] 26 (0, 0))
  have hz2 : ((xr.alloc (boolsO (List.replicate n false))).alloc (.cells #[.slice none 0 0] 26 (0, 0))).heap.size = xr.heap.size + 2 := by simp
  clear hG hMA hm0 hB0 hR0 hr0 hbel
  go_upto_region 9 with fail
  clear hmk
  generalize (xr.alloc (boolsO (List.replicate n false))).alloc (.cells #[.slice none 0 0] 26 (0, 0)) = v2 at *
  obtain ⟨U, hU⟩ : ∃ U, U = xr.heap.size := ⟨_, rfl⟩
  obtain ⟨O, hO⟩ : ∃ O, O = U + 1 := ⟨_, rfl⟩
  rw [← hU] at hnw hz2 hzx ⊢
  rw [← hO] at hnw ⊢
  have hUv : U + 2 ≤ v2.heap.size ∧ v2.heap.size ≤ U + 2 ∧ O ≤ U + 1 ∧ U + 1 ≤ O ∧ M + 1 ≤ U := by omega
  have hUX := Lib.hid hU
  have halH := Lib.hid hal
  have hnu := Lib.hid hnw.1
  have hno := Lib.hid hnw.2
  replace hO := Lib.hid hO
  clear hU hal hnw hz2
  go_wp2_with fail
  go_loopg [39] n (fun kx s39 wr => ∃ (f : Nat) (Us : List Bool) (Rs : List (List Pnt)) (Ao : Option Addr) (co : Nat) (ys : List Value), s39 = .int .i64 f ∧ f ≤ n ∧ n - f ≤ kx ∧ Hid (Us.length = n) ∧ Hid (∀ X, AllTo E f Us Rs X → AllTo E 0 (List.replicate n false) [] X) ∧ Hid (RegTo wr (O + 1) Ao Rs.length co ys Rs) ∧ Rs.length ≤ f ∧ Hid (ROk n Rs) ∧ Hid (wr.heap[U]? = some (boolsO Us)) ∧ Hid (wr.heap[O]? = some (.cells #[.slice Ao Rs.length co] 26 (0, 0))) ∧ Below U v2 wr)
  case atStart => exact ⟨0, List.replicate n false, [], none, 0, [], rfl, Nat.zero_le _, Nat.le_refl _, Lib.hid (by simp), Lib.hid fun X h => h, Lib.hid ⟨World.ownsRow_nil _ _ _ _, fun j K hj => absurd hj (Nat.not_lt_zero j), fun i j u v _ hu => by simp at hu⟩, Nat.le_refl _, Lib.hid (fun K hK => by cases hK), hnu, hno, Below.refl _ _⟩
  case round =>
  obtain ⟨f, Us, Rs, Ao, co, ys, rfl, hf, hfx, hUl, hall, hto, hRf, hRk, hUb, hOb, hbz⟩ := hrel
  generalize wr = zr at *
  have hzz := hbz.size
  have hBz := Lib.hid (hB1.out.trans ((halH.out.mono (by have := hUX.out; have := hB1.out.size; omega)).trans (hbz.mono (by have := hUX.out; have := hB1.out.size; omega))))
  have hXz := Lib.hid (halH.out.trans (hbz.mono (by have := hUX.out; omega)))
  have hRz := Lib.hid ((hXz.out.block Y (by have := hUX.out; omega)).trans hR1.out)
  have hrz := Lib.hid (hr1.out.frame (good_flat _) (Below.sameB (hXz.out.mono (show hi ≤ xr.heap.size by have := hUX.out; omega)) (Nat.le_refl _)))
  by_cases hfn : f < n
  rotate_left
  · have hfi : ¬ (f : Int) < (n : Int) := by omega
    have hfe : f = n := by omega
    have o1 : zr.cell? ⟨O, 0, none⟩ = some (.slice Ao Rs.length co) := by rw [Go.Joins.cell_of_block hOb.out]; rfl
    have y1 : zr.cell? ⟨Y, 0, none⟩ = some (.slice none 0 0) := by rw [Go.Joins.cell_of_block hRz.out]; rfl
    have yf := Go.Joins.unfrozen_of_block hRz.out
    have yl : Y < zr.heap.size := by omega
    have ol : O < zr.heap.size := by omega
    have hown := Lib.hid (hto.out.own rfl)
    have hX := Lib.hid (hall.out Rs (.done _ _ _ (by have := hElen.out; omega)))
    have hRn : Rs.length ≤ n := by omega
    clear hbz
    go_wp2_with fail
    refine bodyPost_ret (v := .agg #[.slice Ao Rs.length co]) ?_ rfl ⟨Rs, hX.out, Ao, co, rfl, ?_, ?_, hRn, fun K hK => ⟨(hRk.out K hK).1, (hRk.out K hK).2.1, fun a b h => (hRk.out K hK).2.2 (a, b) h⟩⟩
    · have r3 : (zr.setCell ⟨Y, 0, none⟩ (.slice Ao Rs.length co)).cell? ⟨Y, 0, none⟩ = some (.slice Ao Rs.length co) := by rw [Go.Joins.cell_of_block (Go.Joins.block_setCell hRz.out _)]; rfl
      simp [results, Tryz.results81, go_sem, r3]
    · have h1 := hown.out.stored_below (a := ⟨Y, 0, none⟩) (by show Y < O + 1; omega) (.slice Ao Rs.length co)
      exact h1.base (by have := hYH.out; omega)
    · exact hBz.out.setCell (by show w.heap.size ≤ Y; have := hYH.out; omega) _
  have hfi : (f : Int) < (n : Int) := by omega
  have i1 : (0 : Int) ≤ (f : Int) ∧ (f : Int) < (n : Int) := by omega
  have u0 := used_cell hUb.out (i := f) (by have := hUl.out; omega)
  have hUz : U < zr.heap.size := by omega
  by_cases hu : usedAt Us f = true
  · rw [hu] at u0
    have hskip := Lib.hid (fun X h => hall.out X (.skip _ _ _ _ (by have := hElen.out; omega) hu h))
    clear hu
    go_wp2_with fail
    go_roundg (n - (f + 1))
    case measure => omega
    case rel => exact ⟨f + 1, Us, Rs, Ao, co, ys, by go_num, by omega, Nat.le_refl _, hUl, hskip, hto, by omega, hRk, hUb, hOb, hbz⟩
  have hu2 : usedAt Us f = false := by simpa using hu
  rw [hu2] at u0
  have hfree : freeN Us ≤ n := by unfold freeN; have := List.countP_le_length (p := fun b : Bool => !b) (l := Us); have := hUl.out; omega
  have hring := Lib.hid (fun U' p' X h1 h2 => hall.out X (.ring _ _ _ U' p' _ (by have := hElen.out; omega) hu2 h1 h2))
  have hu2H := Lib.hid hu2
  clear hu hall
  have hbzH := Lib.hid hbz
  clear hbz
  go_wp2_with fail
  clear u0 hu2
  go_loopg [9, 10] n (fun ky s9 s10 wr => ∃ (now q : Nat) (Us1 : List Bool) (pts : List Pnt) (A9 : Option Addr) (c9 : Nat), s10 = .int .i64 now ∧ s9 = .slice A9 q c9 ∧ now < n ∧ Hid (usedAt Us1 now = false) ∧ freeN Us1 ≤ ky ∧ q + freeN Us1 ≤ n ∧ Hid (q = pts.length) ∧ Hid (Us1.length = n) ∧ Hid (∀ U' p', RingTo E f Us1 now pts U' p' → RingTo E f Us f [] U' p') ∧ Hid (∀ p ∈ pts, pt2Ok p = true) ∧ Hid (wr.heap[U]? = some (boolsO Us1)) ∧ Hid (wr.ownsRow zr.heap.size 28 2 (.slice A9 q c9) q (pts.flatMap ptC)) ∧ Hid (zr.grownBy wr (some U)))
  case atStart => exact ⟨f, 0, Us, [], none, 0, rfl, rfl, hfn, hu2H, hfree, by omega, Lib.hid rfl, hUl, Lib.hid fun U' p' h => h, Lib.hid (fun p hp => by cases hp), hUb, Lib.hid (World.ownsRow_nil _ _ _ _), Lib.hid ⟨rfl, rfl, rfl, Nat.le_refl _, fun _ _ _ => rfl⟩⟩
  case round =>
  obtain ⟨now, q, Us1, pts, A9, c9, rfl, rfl, hnow, hun, hky, hqn, hq, hU1, hrt, hpk, hUy, hown, hgr⟩ := hrel
  generalize wr = yr at *
  have hyz := hgr.out.size
  have hni : (now : Int) < (n : Int) := by omega
  have i2 : (0 : Int) ≤ (now : Int) ∧ (now : Int) < (n : Int) := by omega
  have hUy2 : U < yr.heap.size := by omega
  have u1 := used_cell hUy.out (i := now) (by have := hU1.out; omega)
  have uf := Go.Joins.unfrozen_of_block hUy.out
  have hfs := free_set (U := Us1) (i := now) (by have := hU1.out; omega) hun.out
  obtain ⟨Us2, hU2⟩ : ∃ V, V = Us1.set now true := ⟨_, rfl⟩
  rw [← hU2] at hfs
  have hUl2 : Hid (Us2.length = n) := Lib.hid (by rw [hU2, List.length_set]; exact hU1.out)
  have hUst := Lib.hid (used_store hUy.out now)
  rw [← hU2] at hUst
  have hry := hrz.out.frame (good_flat _) (show SameB lo hi zr yr from fun j h1 h2 => hgr.out.block j (by omega) (by intro e; injection e with e; omega))
  have hry1 := hry.frame (good_flat _) (show SameB lo hi yr (yr.setCell ⟨U, now, none⟩ (.bool true)) from fun j h1 h2 => Below.heap_setCell _ _ _ _ (by show j ≠ U; omega))
  have hgr1 : zr.grownBy (yr.setCell ⟨U, now, none⟩ (.bool true)) (some U) := Go.Lib.grownBy_setB hgr.out _ _
  have hown1 := ownsRow_setCell_below hown.out (a := ⟨U, now, none⟩) (by show U < zr.heap.size; omega) (.bool true)
  go_upto_region 16 with fail
  clear u1 uf
  have hzs : (yr.setCell ⟨U, now, none⟩ (.bool true)).heap.size = yr.heap.size := by simp
  generalize yr.setCell ⟨U, now, none⟩ (.bool true) = y1 at *
  obtain ⟨b, off, ax, ay, bx, ey, hbe, _, hb, hja, c0, c1, c2, c3⟩ := legAt hry1 hnow
  obtain ⟨hpa, hpb⟩ := hok.out _ (List.mem_of_getElem? hja)
  subst hbe
  have hlg : legD E now = ((ax, ay), (bx, ey)) := by unfold legD; rw [List.getD_eq_getElem?_getD, hja]; rfl
  have hbw : b < y1.heap.size := by omega
  have hbM : b < U := by omega
  have hq1 : q ≤ 1000 := by omega
  have hyz1 : zr.heap.size ≤ y1.heap.size := by omega
  have hys : yr.heap.size ≤ y1.heap.size := by omega
  clear hzs
  replace hlg := Lib.hid hlg
  replace hU2 := Lib.hid hU2
  replace hry1 := Lib.hid hry1
  replace hgr1 := Lib.hid hgr1
  replace hown1 := Lib.hid hown1
  clear hja hry hUy hown hgr hb
  go_upto_region 17 with (at_builtin; refine wpApp rfl (.tmp 50) (.tmp 56) elemPt rfl (v := .slice A9 q c9) (n := q) (xs := pts.flatMap ptC) rfl (hown1.out.alloc _) rfl (src_at (cs := [.int .i64 ax, .int .i64 ay]) rfl (by simp [Value.oneCell']) (by first | rfl | simp)) (by omega) (by omega) (by first | omega | (simp; omega)) (q + 1) rfl ?_; intro A10 c10 w9 ho9 hb9; replace ho9 := Lib.hid ho9; replace hb9 := Lib.hid hb9)
  have hb19 := Lib.hid (((Go.Joins.below_alloc1 y1 (.cells #[.int .i64 ax, .int .i64 ay] 28 (0, 0))).mono hyz1).trans hb9.out)
  have hgr9 := Lib.hid (grown_then hgr1.out hb19.out)
  have hU9 := Lib.hid ((hb19.out.block U (by omega)).trans hUst.out)
  have hr9 := Lib.hid (hry1.out.frame (good_flat _) (Below.sameB (hb19.out.mono (show hi ≤ zr.heap.size by omega)) (Nat.le_refl _)))
  have hbz9 : b < zr.heap.size := by omega
  have d0 := (hb19.out.cell (p := ⟨b, off + now * 4, none⟩) hbz9).trans c0
  have d1 := (hb19.out.cell (p := ⟨b, off + now * 4 + 1, none⟩) hbz9).trans c1
  have d2 := (hb19.out.cell (p := ⟨b, off + now * 4 + 2, none⟩) hbz9).trans c2
  have d3 := (hb19.out.cell (p := ⟨b, off + now * 4 + 3, none⟩) hbz9).trans c3
  have hzs9 := hgr9.out.size
  have hb9w : b < w9.heap.size := by omega
  have hS1 : Hid (∀ T, Below w9.heap.size w9 T → T.cell? ⟨b, off + now * 4, none⟩ = some (.int .i64 ax) ∧ T.cell? ⟨b, off + now * 4 + 1, none⟩ = some (.int .i64 ay) ∧ T.cell? ⟨b, off + now * 4 + 2, none⟩ = some (.int .i64 bx) ∧ T.cell? ⟨b, off + now * 4 + 3, none⟩ = some (.int .i64 ey)) := Lib.hid fun T h => ⟨(h.cell (p := ⟨b, off + now * 4, none⟩) hb9w).trans d0, (h.cell (p := ⟨b, off + now * 4 + 1, none⟩) hb9w).trans d1, (h.cell (p := ⟨b, off + now * 4 + 2, none⟩) hb9w).trans d2, (h.cell (p := ⟨b, off + now * 4 + 3, none⟩) hb9w).trans d3⟩
  clear c0 c1 c2 c3 hb19 hb9 hry1 hgr1 hUst hown1 hbw
  go_cut [11, 12, 13] (fun s11 s12 s13 wx => ∃ (P Q : Nat), s11 = .pointer (some ⟨P, 0, none⟩) ∧ s12 = .pointer (some ⟨Q, 0, none⟩) ∧ s13 = .int .i64 (-1) ∧ PB wx P bx ey ∧ PB wx Q ax ay ∧ w9.heap.size ≤ P ∧ w9.heap.size ≤ Q ∧ P ≠ Q ∧ Below w9.heap.size w9 wx)
  case first =>
    go_region_held3 (fun w' => w'.cell? ⟨b, off + now * 4, none⟩ = some (.int .i64 ax) ∧ w'.cell? ⟨b, off + now * 4 + 1, none⟩ = some (.int .i64 ay) ∧ w'.cell? ⟨b, off + now * 4 + 2, none⟩ = some (.int .i64 bx) ∧ w'.cell? ⟨b, off + now * 4 + 3, none⟩ = some (.int .i64 ey)) (first | (refine hS1.out _ ?_; repeat (first | with_reducible exact Below.refl _ _ | with_reducible refine Below.drew ?_ | with_reducible refine Below.alloc ?_ (by simp) _ | with_reducible refine Below.setCell ?_ (by simp) _))) (fail)
    all_goals go_wp2_with fail
    all_goals go_meet
    · exact ⟨_, _, rfl, rfl, rfl, (heap_new2 w9 _ _).1, (heap_new2 w9 _ _).2, Nat.le_refl _, Nat.le_succ _, by omega, Below.drew (Go.Joins.below_alloc2 w9 _ _)⟩
    · exact ⟨_, _, rfl, rfl, rfl, (heap_new2 w9 _ _).2, (heap_new2 w9 _ _).1, Nat.le_succ _, Nat.le_refl _, by omega, Below.drew (Go.Joins.below_alloc2 w9 _ _)⟩
  obtain ⟨P, Q, rfl, rfl, rfl, hP, hQ, hPl, hQl, hPQ, hbc⟩ := hcut
  generalize wc = tw at *
  have hgrT := Lib.hid (grown_then hgr9.out (hbc.mono hzs9))
  have hUT := Lib.hid ((hbc.block U (by omega)).trans hU9.out)
  have hrT := Lib.hid (hr9.out.frame (good_flat _) (Below.sameB (hbc.mono (show hi ≤ w9.heap.size by omega)) (Nat.le_refl _)))
  have hownT := Lib.hid (own_below ho9.out hbc)
  have hTz : zr.heap.size ≤ tw.heap.size := hgrT.out.size
  have hBX := hXz.out.grown hgrT.out (by have := hUX.out; omega) (fun g hg => by injection hg with hg; have := hUX.out; omega)
  obtain ⟨o1, o2, o3, o4⟩ := pt_bd hpb
  dsimp only at o1 o2 o3 o4
  obtain ⟨kl, hkl⟩ := key_pt (bx, ey) ⟨by dsimp only; omega, by dsimp only; omega⟩ ⟨by dsimp only; omega, by dsimp only; omega⟩
  obtain ⟨AL, cL, hrunL, hownL⟩ := hlook.out tw hBX (bx, ey) kl hkl
  obtain ⟨L, hL⟩ : ∃ L, L = idxP E (bx, ey) n := ⟨_, rfl⟩
  rw [← hL] at hrunL hownL
  have hLlt : Hid (∀ i ∈ L, i < n) := Lib.hid (fun i hi => by rw [hL] at hi; exact idxP_lt hi)
  have hLl : L.length ≤ n := by rw [hL]; exact idxP_len _ _ _
  have hnx : Hid (nextT E Us2 f now = bestF E Us2 f (bx, ey) (ax, ay) L) := Lib.hid (by unfold nextT; rw [hlg.out, hElen.out, hL])
  obtain ⟨l, hl⟩ : ∃ l, l = L.length := ⟨_, rfl⟩
  rw [← hl] at hrunL hownL hLl
  obtain ⟨p0, p1, _, pl⟩ := hP.cells
  have hPH := Lib.hid hP
  have hQH := Lib.hid hQ
  replace hrunL := Lib.hid hrunL
  replace hownL := Lib.hid hownL
  replace hL := Lib.hid hL
  replace hl := Lib.hid hl
  have hl1000 : l ≤ 1000 := by omega
  have hok2 := hok
  clear o1 o2 o3 o4 hkl hBX hS1 d0 d1 d2 d3 hP hQ hbc hr9 hU9 hgr9 ho9
  go_wp2_with (refine wpLook rfl (.tmp 68) (.tmp 69) 129 rfl rfl rfl hrunL.out ?_)
  clear p0 p1 pl
  go_loopg [13, 72] l (fun kz s13 s72 wr => ∃ (i : Nat) (best : Int), s72 = .int .i64 i ∧ i ≤ l ∧ l - i ≤ kz ∧ s13 = .int .i64 best ∧ Hid (best = bestF E Us2 f (bx, ey) (ax, ay) (L.take i)) ∧ Below tw.heap.size tw wr)
  case atStart => exact ⟨0, -1, rfl, Nat.zero_le _, Nat.le_refl _, rfl, Lib.hid rfl, Below.refl _ _⟩
  case round =>
  obtain ⟨i, best, rfl, hi9, hkz, rfl, hbe, hbs⟩ := hrel
  generalize wr = sr at *
  have hsz := hbs.size
  have hbok := bestF_ok (E := E) (U := Us2) (first := f) (o := (bx, ey)) (back := (ax, ay)) (n := n) (L := L.take i) (fun j hj => hLlt.out j (List.mem_of_mem_take hj))
  rw [← hbe.out] at hbok
  obtain ⟨hb1, hb2, hb3⟩ := hbok
  by_cases hil : i < l
  rotate_left
  · have hii : ¬ (i : Int) < (l : Int) := by omega
    rw [List.take_of_length_le (by have := hl.out; omega)] at hbe
    by_cases hbn : best < 0
    · replace hb3 := Lib.hid hb3
      have hbr2 := Lib.hid (hrt.out Us2 (pts ++ [(ax, ay)]) (by
        have h := RingTo.stop (E := E) (first := f) Us1 now pts (by rw [← hU2.out, hnx.out, ← hbe.out]; exact .inl hbn)
        rw [← hU2.out, hlg.out] at h
        exact h))
      have hgrS := grown_then hgrT.out (hbs.mono hTz)
      have hrow := Lib.hid (hto.out.grownB hgrS (by omega)).1
      have hoS := hgrS.block O (by omega) (by intro e; injection e with e; omega)
      have o1 : sr.cell? ⟨O, 0, none⟩ = some (.slice Ao Rs.length co) := by rw [Go.Joins.cell_of_block (hoS.trans hOb.out)]; rfl
      have of := Go.Joins.unfrozen_of_block (hoS.trans hOb.out)
      have ol : O < sr.heap.size := by have := hgrS.size; omega
      have hOS := Lib.hid (hoS.trans hOb.out)
      have hownS := Lib.hid (own_below hownT.out hbs)
      have hUS := Lib.hid ((hbs.block U (by omega)).trans hUT.out)
      have hgrSH := Lib.hid hgrS
      have hss := hbs.size
      have hR1000 : Rs.length ≤ 1000 := by omega
      have hOz : O < zr.heap.size := by omega
      clear hoS hgrS hbs
      go_wp2_with (at_builtin; refine wpAppAt rfl (.tmp 116) (.tmp 119) elemRing rfl (v := .slice Ao Rs.length co) (n := Rs.length) (xs := ys) rfl (hrow.out.alloc _) rfl (src_at (cs := [.slice A10 (q + 1) c10]) rfl (by simp [Value.oneCell']) (by first | rfl | simp)) (by omega) (by omega) (by simp; omega) (Rs.length + 1) rfl ?_; intro A7 c7 w6 ho6 hg6 _; have hk6 : w6.heap[O]? = sr.heap[O]? := (hg6.block O (by simp; omega) (fun e => by have := (hrow.out.lt O e.symm).1; omega)).trans (Below.heap_alloc _ _ _ ol); have x6 : w6.cell? ⟨O, 0, none⟩ = some (.slice Ao Rs.length co) := (World.cell?_of_block hk6).trans o1; have xf6 : ∀ o, w6.frozen? ⟨O, o, none⟩ = false := fun o => (World.frozen?_of_block hk6).trans (of o); have xl6 : O < w6.heap.size := (by have := hg6.size; simp at this; omega); replace hk6 := Lib.hid hk6; replace ho6 := Lib.hid ho6; replace hg6 := Lib.hid hg6)
      have hpl : (pts ++ [(ax, ay)]).length = q + 1 := by rw [List.length_append, ← hq.out]; rfl
      have hown6 := hownS.out
      rw [show pts.flatMap ptC ++ [Value.int .i64 ax, Value.int .i64 ay] = (pts ++ [(ax, ay)]).flatMap ptC by rw [List.flatMap_append]; rfl] at hown6
      rw [← hpl] at hown6 ho6 hg6
      have hnx6 := RegTo.nextG (b := U) (w1 := sr.alloc (.cells #[.slice A10 (pts ++ [(ax, ay)]).length c10] 42 (0, 0))) (B := zr.heap.size) (hto.out.snocL (pts ++ [(ax, ay)])) (by rw [List.getElem?_append_right (Nat.le_refl _), Nat.sub_self]; rfl) (grown_then hgrSH.out ((Go.Joins.below_alloc1 sr _).mono (by omega))) (by omega) (hown6.alloc _) (Nat.le_refl _) (by omega) ho6.out hg6.out
      have hU6 : w6.heap[U]? = some (boolsO Us2) := (hg6.out.block U (by simp; omega) (fun e => by have := (hrow.out.lt U e.symm).1; omega)).trans ((Below.heap_alloc _ _ _ (by omega)).trans hUS.out)
      go_roundg (n - (f + 1))
      case measure => omega
      case rel =>
        refine ⟨f + 1, Us2, Rs ++ [pts ++ [(ax, ay)]], A7, c7, ys ++ [.slice A10 (pts ++ [(ax, ay)]).length c10], by go_num, by omega, Nat.le_refl _, hUl2, Lib.hid fun X h => hring.out Us2 _ X hbr2.out h, Lib.hid ?_, by simp; omega, Lib.hid ?_, Lib.hid ((Below.heap_setCell _ _ _ _ (by show U ≠ O; omega)).trans hU6), Lib.hid ?_, ?_⟩
        · rw [List.length_append]
          exact hnx6.set (by show O < O + 1; omega) _
        · intro K hK
          rcases List.mem_append.1 hK with h | h
          · exact hRk.out K h
          · rw [List.mem_singleton.1 h, hpl]
            refine ⟨by omega, by omega, fun p hp => ?_⟩
            rcases List.mem_append.1 hp with h | h
            · exact hpk.out p h
            · rw [List.mem_singleton.1 h]; exact hpa
        · rw [List.length_append]
          exact Go.Joins.block_setCell (hk6.out.trans hOS.out) _
        · refine ((((hbzH.out.grown hgrSH.out (by omega) (fun g hg => by injection hg with hg; omega)).alloc (by have := hgrSH.out.size; omega) _).grown hg6.out (by have := hgrSH.out.size; simp; omega) (fun g hg => by have := (hrow.out.lt g hg).1; omega))).setCell (by show U ≤ O; omega) _
    by_cases hbf : best = (f : Int)
    · have t1 : (best == (f : Int)) = true := by simp [hbf]
      replace hbf := Lib.hid hbf
      replace hb3 := Lib.hid hb3
      have hbr2 := Lib.hid (hrt.out Us2 (pts ++ [(ax, ay)]) (by
        have h := RingTo.stop (E := E) (first := f) Us1 now pts (by rw [← hU2.out, hnx.out, ← hbe.out]; exact .inr hbf.out)
        rw [← hU2.out, hlg.out] at h
        exact h))
      have hgrS := grown_then hgrT.out (hbs.mono hTz)
      have hrow := Lib.hid (hto.out.grownB hgrS (by omega)).1
      have hoS := hgrS.block O (by omega) (by intro e; injection e with e; omega)
      have o1 : sr.cell? ⟨O, 0, none⟩ = some (.slice Ao Rs.length co) := by rw [Go.Joins.cell_of_block (hoS.trans hOb.out)]; rfl
      have of := Go.Joins.unfrozen_of_block (hoS.trans hOb.out)
      have ol : O < sr.heap.size := by have := hgrS.size; omega
      have hOS := Lib.hid (hoS.trans hOb.out)
      have hownS := Lib.hid (own_below hownT.out hbs)
      have hUS := Lib.hid ((hbs.block U (by omega)).trans hUT.out)
      have hgrSH := Lib.hid hgrS
      have hss := hbs.size
      have hR1000 : Rs.length ≤ 1000 := by omega
      have hOz : O < zr.heap.size := by omega
      clear hoS hgrS hbs
      go_wp2_with (at_builtin; refine wpAppAt rfl (.tmp 116) (.tmp 119) elemRing rfl (v := .slice Ao Rs.length co) (n := Rs.length) (xs := ys) rfl (hrow.out.alloc _) rfl (src_at (cs := [.slice A10 (q + 1) c10]) rfl (by simp [Value.oneCell']) (by first | rfl | simp)) (by omega) (by omega) (by simp; omega) (Rs.length + 1) rfl ?_; intro A7 c7 w6 ho6 hg6 _; have hk6 : w6.heap[O]? = sr.heap[O]? := (hg6.block O (by simp; omega) (fun e => by have := (hrow.out.lt O e.symm).1; omega)).trans (Below.heap_alloc _ _ _ ol); have x6 : w6.cell? ⟨O, 0, none⟩ = some (.slice Ao Rs.length co) := (World.cell?_of_block hk6).trans o1; have xf6 : ∀ o, w6.frozen? ⟨O, o, none⟩ = false := fun o => (World.frozen?_of_block hk6).trans (of o); have xl6 : O < w6.heap.size := (by have := hg6.size; simp at this; omega); replace hk6 := Lib.hid hk6; replace ho6 := Lib.hid ho6; replace hg6 := Lib.hid hg6)
      have hpl : (pts ++ [(ax, ay)]).length = q + 1 := by rw [List.length_append, ← hq.out]; rfl
      have hown6 := hownS.out
      rw [show pts.flatMap ptC ++ [Value.int .i64 ax, Value.int .i64 ay] = (pts ++ [(ax, ay)]).flatMap ptC by rw [List.flatMap_append]; rfl] at hown6
      rw [← hpl] at hown6 ho6 hg6
      have hnx6 := RegTo.nextG (b := U) (w1 := sr.alloc (.cells #[.slice A10 (pts ++ [(ax, ay)]).length c10] 42 (0, 0))) (B := zr.heap.size) (hto.out.snocL (pts ++ [(ax, ay)])) (by rw [List.getElem?_append_right (Nat.le_refl _), Nat.sub_self]; rfl) (grown_then hgrSH.out ((Go.Joins.below_alloc1 sr _).mono (by omega))) (by omega) (hown6.alloc _) (Nat.le_refl _) (by omega) ho6.out hg6.out
      have hU6 : w6.heap[U]? = some (boolsO Us2) := (hg6.out.block U (by simp; omega) (fun e => by have := (hrow.out.lt U e.symm).1; omega)).trans ((Below.heap_alloc _ _ _ (by omega)).trans hUS.out)
      go_roundg (n - (f + 1))
      case measure => omega
      case rel =>
        refine ⟨f + 1, Us2, Rs ++ [pts ++ [(ax, ay)]], A7, c7, ys ++ [.slice A10 (pts ++ [(ax, ay)]).length c10], by go_num, by omega, Nat.le_refl _, hUl2, Lib.hid fun X h => hring.out Us2 _ X hbr2.out h, Lib.hid ?_, by simp; omega, Lib.hid ?_, Lib.hid ((Below.heap_setCell _ _ _ _ (by show U ≠ O; omega)).trans hU6), Lib.hid ?_, ?_⟩
        · rw [List.length_append]
          exact hnx6.set (by show O < O + 1; omega) _
        · intro K hK
          rcases List.mem_append.1 hK with h | h
          · exact hRk.out K h
          · rw [List.mem_singleton.1 h, hpl]
            refine ⟨by omega, by omega, fun p hp => ?_⟩
            rcases List.mem_append.1 hp with h | h
            · exact hpk.out p h
            · rw [List.mem_singleton.1 h]; exact hpa
        · rw [List.length_append]
          exact Go.Joins.block_setCell (hk6.out.trans hOS.out) _
        · refine ((((hbzH.out.grown hgrSH.out (by omega) (fun g hg => by injection hg with hg; omega)).alloc (by have := hgrSH.out.size; omega) _).grown hg6.out (by have := hgrSH.out.size; simp; omega) (fun g hg => by have := (hrow.out.lt g hg).1; omega))).setCell (by show U ≤ O; omega) _
    · have t1 : (best == (f : Int)) = false := by simp [hbf]
      obtain ⟨m, hm⟩ : ∃ m : Nat, best = (m : Int) := ⟨best.toNat, by omega⟩
      have hum : usedAt Us2 m = false := by
        rcases hb3 (by omega) with h | h
        · rw [hm, Int.toNat_natCast] at h; exact h
        · exact absurd h hbf
      have hgo := Lib.hid (fun U' p' (h : RingTo E f Us2 m (pts ++ [(ax, ay)]) U' p') => hrt.out U' p' (RingTo.go _ _ _ _ _ (by rw [← hU2.out, hnx.out, ← hbe.out]; omega) (by rw [← hU2.out, hnx.out, ← hbe.out, hm, Int.toNat_natCast, hlg.out]; exact h)))
      have hgrS := Lib.hid (grown_then hgrT.out (hbs.mono hTz))
      have hownS := Lib.hid (own_below hownT.out hbs)
      have hUS := Lib.hid ((hbs.block U (by omega)).trans hUT.out)
      have hmn : m < n := by omega
      subst hm
      replace hum := Lib.hid hum
      clear hb3 hbs hbf
      go_wp2_with fail
      go_roundg (freeN Us2)
      case measure => omega
      case rel =>
        refine ⟨m, q + 1, Us2, pts ++ [(ax, ay)], A10, c10, rfl, rfl, hmn, hum, Nat.le_refl _, by omega, ?_, hUl2, hgo, ?_, hUS, ?_, hgrS⟩
        · rw [List.length_append, ← hq.out]; exact Lib.hid rfl
        · refine Lib.hid ?_
          intro p hp
          rcases List.mem_append.1 hp with h | h
          · exact hpk.out p h
          · rw [List.mem_singleton.1 h]; exact hpa
        · rw [List.flatMap_append]
          exact hownS
  have hii : (i : Int) < (l : Int) := by omega
  have i3 : (0 : Int) ≤ (i : Int) ∧ (i : Int) < (l : Int) := by omega
  obtain ⟨gL, hgL, hgM, hgl, _⟩ := own_at hownL.out (by omega)
  subst hgL
  obtain ⟨j, hj⟩ : ∃ j, L[i]? = some j := ⟨_, List.getElem?_eq_getElem (by have := hl.out; omega)⟩
  have hjn := hLlt.out j (List.mem_of_getElem? hj)
  have cj : sr.cell? ⟨gL, i, none⟩ = some (.int .i64 (j : Int)) := by
    refine (hbs.cell (p := ⟨gL, i, none⟩) hgl).trans ((hownL.out.cellAt i (by omega)).trans ?_)
    unfold intsV
    rw [List.getElem?_map, List.getElem?_map, hj]; rfl
  have hst := bestF_take (E := E) (U := Us2) (first := f) (o := (bx, ey)) (back := (ax, ay)) hj
  rw [← hbe.out] at hst
  have hglr : gL < sr.heap.size := by omega
  have hji : (j : Int) < (n : Int) := by omega
  have i4 : (0 : Int) ≤ (j : Int) ∧ (j : Int) < (n : Int) := by omega
  have u0 := used_cell ((hbs.block U (by omega)).trans hUT.out) (i := j) (by have := hUl2.out; omega)
  have hrS := hrT.out.frame (good_flat _) (Below.sameB (hbs.mono (show hi ≤ tw.heap.size by omega)) (Nat.le_refl _))
  obtain ⟨_, _, j2, j3⟩ := leg_of hrS hjn
  obtain ⟨p0, p1, _, pl⟩ := PB.cells (hPH.out.below hbs)
  obtain ⟨q0, q1, _, ql⟩ := PB.cells (hQH.out.below hbs)
  obtain ⟨⟨jx, jy⟩, hjp⟩ : ∃ p, p = (legD E j).2 := ⟨_, rfl⟩
  rw [← hjp] at j2 j3
  dsimp only at j2 j3
  have hjok : pt2Ok (jx, jy) = true := by rw [hjp]; exact (leg_ok hok2.out hElen.out hjn).2
  have hUs : U < sr.heap.size := by omega
  have hbsr : b < sr.heap.size := by omega
  have hbsH := Lib.hid hbs
  replace hj := Lib.hid hj
  obtain ⟨uj, huj⟩ : ∃ uj, uj = usedAt Us2 j := ⟨_, rfl⟩
  rw [← huj] at u0
  obtain ⟨cd, hcd0⟩ : ∃ cd : Bool, cd = ((!uj || decide (j = f)) && (decide (best < 0) || cwF (bx, ey) (ax, ay) (jx, jy) (legD E best.toNat).2)) := ⟨_, rfl⟩
  have hst2 : bestF E Us2 f (bx, ey) (ax, ay) (L.take (i + 1)) = if cd = true then (j : Int) else best := by rw [hst]; unfold stepT; rw [hcd0, huj, hjp]
  replace hst2 := Lib.hid hst2
  replace huj := Lib.hid huj
  clear hst hb3 hbs
  have hcd := Lib.hid hcd0
  clear hcd0
  go_upto_region 21 with fail
  clear cj
  go_cut [104] (fun s wx => s = .bool cd ∧ Below sr.heap.size sr wx)
  case first =>
    by_cases hbn : best < 0
    · have hcd2 : Hid (cd = (!uj || decide (j = f))) := Lib.hid (by rw [hcd.out, decide_eq_true hbn]; simp)
      have tb : decide (best < 0) = true := decide_eq_true hbn
      clear hcd
      cases uj with
      | false =>
        have hcf : Hid (cd = true) := Lib.hid (by rw [hcd2.out]; rfl)
        have u0' := fun dr os => cell_regrown u0 dr os
        refine wp_region_quiet_below (by kernel_rfl) (by kernel_rfl) ?_
        repeat (go_big_quiet_step (fail))
        refine wpQuiet_nil ?_
        intro _ hw'
        obtain ⟨⟨dq, osq⟩, hw''⟩ := hw'
        subst hw''
        have hb9 := below_regrown sr dq osq
        go_wp2_with fail
        go_meet
        case rel => exact ⟨by rw [hcf.out], hb9⟩
      | true =>
        by_cases hjf : j = f
        · have tj : ((j : Int) == (f : Int)) = true := by simp [hjf]
          have hcf : Hid (cd = true) := Lib.hid (by rw [hcd2.out, decide_eq_true hjf]; rfl)
          clear hjf
          have u0' := fun dr os => cell_regrown u0 dr os
          refine wp_region_quiet_below (by kernel_rfl) (by kernel_rfl) ?_
          repeat (go_big_quiet_step (fail))
          refine wpQuiet_nil ?_
          intro _ hw'
          obtain ⟨⟨dq, osq⟩, hw''⟩ := hw'
          subst hw''
          have hb9 := below_regrown sr dq osq
          go_wp2_with fail
          go_meet
          case rel => exact ⟨by rw [hcf.out], hb9⟩
        · have tj : ((j : Int) == (f : Int)) = false := by simp; omega
          have hcf : Hid (cd = false) := Lib.hid (by rw [hcd2.out, decide_eq_false hjf]; rfl)
          clear hjf
          have u0' := fun dr os => cell_regrown u0 dr os
          refine wp_region_quiet_below (by kernel_rfl) (by kernel_rfl) ?_
          repeat (go_big_quiet_step (fail))
          refine wpQuiet_nil ?_
          intro _ hw'
          obtain ⟨⟨dq, osq⟩, hw''⟩ := hw'
          subst hw''
          have hb9 := below_regrown sr dq osq
          go_wp2_with fail
          go_meet
          case rel => exact ⟨by rw [hcf.out], hb9⟩
    · obtain ⟨m, hm⟩ : ∃ m : Nat, best = (m : Int) := ⟨best.toNat, by omega⟩
      subst hm
      have hmn : m < n := by omega
      have hmi : (m : Int) < (n : Int) := by omega
      have i5 : (0 : Int) ≤ (m : Int) ∧ (m : Int) < (n : Int) := by omega
      obtain ⟨_, _, m2, m3⟩ := leg_of hrS hmn
      obtain ⟨⟨mx, my⟩, hmp⟩ : ∃ p, p = (legD E m).2 := ⟨_, rfl⟩
      rw [← hmp] at m2 m3
      dsimp only at m2 m3
      have hmok : pt2Ok (mx, my) = true := by rw [hmp]; exact (leg_ok hok2.out hElen.out hmn).2
      obtain ⟨v, hv⟩ : ∃ v, v = cwF (bx, ey) (ax, ay) (jx, jy) (mx, my) := ⟨_, rfl⟩
      have hcd2 : Hid (cd = ((!uj || decide (j = f)) && v)) := Lib.hid (by rw [hcd.out, decide_eq_false hbn, Int.toNat_natCast, hv, hmp]; simp)
      have hkc := Lib.hid (fun X dr os => Calls.regrown_of (w := X) (d := dr) (os := os) (clockFirst_any bx ey ax ay jx jy mx my v hv (Go.Sort.grow (redrawn X dr) os) hpb hpa hjok hmok))
      have tb : decide ((m : Int) < 0) = false := decide_eq_false hbn
      clear hcd hv hmp
      cases uj with
      | false =>
        have hcf : Hid (cd = v) := Lib.hid (by rw [hcd2.out]; simp)
        have u0' := fun dr os => cell_regrown u0 dr os
        have j2' := fun dr os => cell_regrown j2 dr os
        have j3' := fun dr os => cell_regrown j3 dr os
        have m2' := fun dr os => cell_regrown m2 dr os
        have m3' := fun dr os => cell_regrown m3 dr os
        have p0' := fun dr os => cell_regrown p0 dr os
        have p1' := fun dr os => cell_regrown p1 dr os
        have q0' := fun dr os => cell_regrown q0 dr os
        have q1' := fun dr os => cell_regrown q1 dr os
        refine wp_region_quiet_below (by kernel_rfl) (by kernel_rfl) ?_
        repeat (go_big_quiet_step (first | (with_reducible exact hkc.out _ _ _)))
        refine wpQuiet_nil ?_
        intro _ hw'
        obtain ⟨⟨dq, osq⟩, hw''⟩ := hw'
        subst hw''
        have hb9 := below_regrown sr dq osq
        go_wp2_with fail
        go_meet
        case rel => exact ⟨by rw [hcf.out], hb9⟩
      | true =>
        by_cases hjf : j = f
        · have tj : ((j : Int) == (f : Int)) = true := by simp [hjf]
          have hcf : Hid (cd = v) := Lib.hid (by rw [hcd2.out, decide_eq_true hjf]; simp)
          clear hjf
          have u0' := fun dr os => cell_regrown u0 dr os
          have j2' := fun dr os => cell_regrown j2 dr os
          have j3' := fun dr os => cell_regrown j3 dr os
          have m2' := fun dr os => cell_regrown m2 dr os
          have m3' := fun dr os => cell_regrown m3 dr os
          have p0' := fun dr os => cell_regrown p0 dr os
          have p1' := fun dr os => cell_regrown p1 dr os
          have q0' := fun dr os => cell_regrown q0 dr os
          have q1' := fun dr os => cell_regrown q1 dr os
          refine wp_region_quiet_below (by kernel_rfl) (by kernel_rfl) ?_
          repeat (go_big_quiet_step (first | (with_reducible exact hkc.out _ _ _)))
          refine wpQuiet_nil ?_
          intro _ hw'
          obtain ⟨⟨dq, osq⟩, hw''⟩ := hw'
          subst hw''
          have hb9 := below_regrown sr dq osq
          go_wp2_with fail
          go_meet
          case rel => exact ⟨by rw [hcf.out], hb9⟩
        · have tj : ((j : Int) == (f : Int)) = false := by simp; omega
          have hcf : Hid (cd = false) := Lib.hid (by rw [hcd2.out, decide_eq_false hjf]; simp)
          clear hjf
          have u0' := fun dr os => cell_regrown u0 dr os
          have j2' := fun dr os => cell_regrown j2 dr os
          have j3' := fun dr os => cell_regrown j3 dr os
          have m2' := fun dr os => cell_regrown m2 dr os
          have m3' := fun dr os => cell_regrown m3 dr os
          have p0' := fun dr os => cell_regrown p0 dr os
          have p1' := fun dr os => cell_regrown p1 dr os
          have q0' := fun dr os => cell_regrown q0 dr os
          have q1' := fun dr os => cell_regrown q1 dr os
          refine wp_region_quiet_below (by kernel_rfl) (by kernel_rfl) ?_
          repeat (go_big_quiet_step (first | (with_reducible exact hkc.out _ _ _)))
          refine wpQuiet_nil ?_
          intro _ hw'
          obtain ⟨⟨dq, osq⟩, hw''⟩ := hw'
          subst hw''
          have hb9 := below_regrown sr dq osq
          go_wp2_with fail
          go_meet
          case rel => exact ⟨by rw [hcf.out], hb9⟩
  obtain ⟨rfl, hb21⟩ := hcut
  have hbN := Lib.hid (hbsH.out.trans (hb21.mono hsz))
  clear u0 j2 j3 p0 p1 pl q0 q1 ql hb21
  cases cd with
  | true =>
    go_wp2_with fail
    go_roundg (l - (i + 1))
    case measure => omega
    case rel => exact ⟨i + 1, (j : Int), by go_num, by omega, Nat.le_refl _, rfl, Lib.hid (by rw [hst2.out]; rfl), hbN.out⟩
  | false =>
    go_wp2_with fail
    go_roundg (l - (i + 1))
    case measure => omega
    case rel => exact ⟨i + 1, best, by go_num, by omega, Nat.le_refl _, rfl, Lib.hid (by rw [hst2.out]; rfl), hbN.out⟩
end Go.Proofs.YtlifiioflkhkoaaGreat

/- The union of a region with nothing: the numbers alone. Conditions: as each states. -/
namespace Go.Proofs.YtlifiioflkhkoaaGreat
set_option linter.unusedVariables false
set_option maxRecDepth 100000

theorem sortU_len (L : List Pnt) : (sortU L).length ≤ L.length := by
  have h : ∀ (L S : List Pnt), (L.foldl putP S).length ≤ S.length + L.length := by
    intro L
    induction L with
    | nil => intro S; simp
    | cons p L ih =>
      intro S
      rw [List.foldl_cons, List.length_cons]
      have h1 := ih (putP S p)
      have h2 : (putP S p).length ≤ S.length + 1 := by
        unfold putP
        split
        · omega
        · simp only [List.length_append, List.length_take, List.length_drop, List.length_singleton]; omega
      omega
  have := h L []
  simpa [sortU] using this
theorem hot_len (E : List Leg) : (hotL E).length ≤ E.length * (E.length + 2) := Nat.le_trans (sortU_len _) (rawTo_len E _ (Nat.le_refl _))
theorem hot_nodup (E : List Leg) : (hotL E).Nodup := by
  refine (sortU_ris (rawTo E E.length)).imp ?_
  intro a b h e
  subst e
  rw [bef_iff] at h
  omega
theorem hot_rise (E : List Leg) : (hotL E).Pairwise fun p q => p.2 ≤ q.2 := by
  refine (sortU_ris (rawTo E E.length)).imp ?_
  intro a b h
  rw [bef_iff] at h
  omega
theorem hot_ok {E : List Leg} (h : EOk E) : ∀ p ∈ hotL E, pt2Ok p = true := fun p hp => rawTo_ok h p ((sortU_mem _ _).1 hp)
theorem dropL_tight (L : List Pnt) : Tight (dropL L) := drop_tight L
theorem drop_edgeN (Rs : List (List Pnt)) : edgeN (dropR Rs) ≤ edgeN Rs := by
  induction Rs with
  | nil => exact Nat.le_refl _
  | cons L Rs ih =>
    unfold dropR keepG edgeN at *
    rw [List.map_cons, List.filter_cons]
    split
    · rw [List.map_cons, List.map_cons, List.sum_cons, List.sum_cons, tight_len (dropL_tight L)]
      have : (dropL L).length = (edgesL L).length := by unfold dropL; rw [List.length_map]
      omega
    · rw [List.map_cons, List.sum_cons]
      omega
theorem dropL_mem {L : List Pnt} {p : Pnt} (h : p ∈ dropL L) : p ∈ L := by
  unfold dropL at h
  obtain ⟨e, he, rfl⟩ := List.mem_map.1 h
  exact (edges_mem he).2.1
theorem dropL_len (L : List Pnt) : (dropL L).length ≤ L.length := by
  unfold dropL; rw [List.length_map]; exact edgesTo_len L _
theorem allE_mem {Rs : List (List Pnt)} {L : List Pnt} {e : Leg} (hL : L ∈ Rs) (he : e ∈ edgesL L) : e ∈ allE Rs Rs.length := by
  unfold allE
  rw [List.take_length]
  exact List.mem_flatMap.2 ⟨L, hL, he⟩
theorem drop_snug {Rs : List (List Pnt)} (hv : regOk Rs = true) : Snug (hotL (allE (dropR Rs) (dropR Rs).length)) (dropR Rs) := by
  obtain ⟨v1, v2, v3⟩ := regOk_is hv
  refine ⟨Nat.le_trans (keepG_len _ _) v1, Nat.le_trans (drop_edgeN Rs) v3, fun K hK => ?_⟩
  obtain ⟨L, hL, rfl, h1⟩ := keepG_mem hK
  refine ⟨⟨h1, Nat.le_trans (dropL_len L) (path_len (v2 L hL)).2⟩, dropL_tight L, fun p hp => ?_⟩
  have ht := tight_edges (dropL_tight L)
  rw [← ht] at hp
  obtain ⟨e, he, rfl⟩ := List.mem_map.1 hp
  exact (hot_ends (allE_mem hK he)).1
theorem snug_ok {hot : List Pnt} {Rs : List (List Pnt)} (h : Snug hot Rs) (hh : ∀ p ∈ hot, pt2Ok p = true) : ∀ K ∈ Rs, ∀ p ∈ K, pt2Ok p = true := fun K hK p hp => hh p ((h.2.2 K hK).2.2 p hp)
theorem drop_pts {Rs : List (List Pnt)} (hv : regOk Rs = true) : ∀ K ∈ dropR Rs, ∀ p ∈ K, pt2Ok p = true := by
  obtain ⟨v1, v2, v3⟩ := regOk_is hv
  intro K hK p hp
  obtain ⟨L, hL, rfl, h1⟩ := keepG_mem hK
  have h2 := v2 L hL
  unfold pathOk at h2
  rw [Bool.and_eq_true] at h2
  exact List.all_eq_true.1 h2.2 p (dropL_mem hp)
/-- what the union of a region with nothing is -/
def RovTo (Rs : List (List Pnt)) (X : Option (List (List Pnt))) : Prop :=
  ∃ Y, SnapTo (hotL (allE (dropR Rs) (dropR Rs).length)) (dropR Rs) Y ∧ (Y = none → X = none) ∧ ∀ S, Y = some S → ∃ T, AllTo (borderF (allE S S.length) []) 0 (List.replicate (borderF (allE S S.length) []).length false) [] T ∧ X = if regOk (orderR T) = true then some (orderR T) else none
theorem RovTo.unique {Rs : List (List Pnt)} {X X' : Option (List (List Pnt))} (h : RovTo Rs X) (h' : RovTo Rs X') : X = X' := by
  obtain ⟨Y, h1, h2, h3⟩ := h
  obtain ⟨Y', h1', h2', h3'⟩ := h'
  have := h1.unique h1'
  subst this
  cases Y with
  | none => rw [h2 rfl, h2' rfl]
  | some S =>
    obtain ⟨T, h4, h5⟩ := h3 S rfl
    obtain ⟨T', h4', h5'⟩ := h3' S rfl
    have := h4.unique h4'
    subst this
    rw [h5, h5']
theorem RovTo.ok {Rs X : List (List Pnt)} (h : RovTo Rs (some X)) : regOk X = true := by
  obtain ⟨Y, h1, h2, h3⟩ := h
  cases Y with
  | none => cases h2 rfl
  | some S =>
    obtain ⟨T, h4, h5⟩ := h3 S rfl
    split at h5
    · rename_i h6
      injection h5 with h5
      rw [h5]; exact h6
    · cases h5
end Go.Proofs.YtlifiioflkhkoaaGreat

/- Rounds of ways through hot points, once more, with where the result lies. Conditions: as each states. -/
namespace Go.Proofs.YtlifiioflkhkoaaGreat
open Go.RowKit
set_option linter.unusedVariables false
set_option maxRecDepth 100000
set_option linter.unusedSimpArgs false

set_option maxHeartbeats 32000000 in
theorem snapRounds2_any (Ah : Option Addr) (nh ch loh hih : Nat) (hot : List Pnt) (A : Option Addr) (n c lo hi : Nat) (Rs : List (List Pnt)) (w : World) (hr : RegRd w lo hi A n Rs) (hhi : hi ≤ w.heap.size) (hh : RdS 2 (FlatR ptC) w loh hih Ah nh hot) (hhih : hih ≤ w.heap.size) (hnh : nh ≤ 1000) (hch : nh ≤ ch) (hnd : hot.Nodup) (hris : hot.Pairwise fun p q => p.2 ≤ q.2) (hok : ∀ p ∈ hot, pt2Ok p = true) (hgood : Snug hot Rs) :
    Calls Tryz.prog 80 #[.agg #[.slice A n c], .slice Ah nh ch] w fun e w' => ∃ X, SnapTo hot Rs X ∧ Below w.heap.size w w' ∧ (X = none → e = .returned (.tuple #[.agg #[.slice none 0 0], .int .i64 0, .int .i64 5])) ∧ ∀ Rs', X = some Rs' → Snug hot Rs' ∧ ∃ (A' : Option Addr) (n' c' lo' hi' : Nat) (r : Int), e = .returned (.tuple #[.agg #[.slice A' n' c'], .int .i64 r, .int .i64 0]) ∧ RegRd w' lo' hi' A' n' Rs' ∧ hi' ≤ w'.heap.size ∧ (lo ≤ lo' ∨ w.heap.size ≤ lo') := by
  have hll := Lib.hid hh.1
  have hnew := heap_new2 w (.cells #[.slice A n c] 26 (0, 0)) (.cells #[.slice none 0 0] 26 (0, 0))
  have hb0 := Go.Joins.below_alloc2 w (.cells #[.slice A n c] 26 (0, 0)) (.cells #[.slice none 0 0] 26 (0, 0))
  have hz0 : ((w.alloc (.cells #[.slice A n c] 26 (0, 0))).alloc (.cells #[.slice none 0 0] 26 (0, 0))).heap.size = w.heap.size + 2 := by simp
  have hr0 := Lib.hid (hr.frame good_ring (Below.sameB hb0 hhi))
  have hh0 := Lib.hid (hh.frame (good_flat _) (Below.sameB hb0 hhih))
  have hRl := hr.1
  clear hr hh
  go_enter Tryz.func80, Tryz.ntmps80
  go_upto_region 1 with fail
  generalize (w.alloc (.cells #[.slice A n c] 26 (0, 0))).alloc (.cells #[.slice none 0 0] 26 (0, 0)) = v0 at *
  obtain ⟨Y, hY⟩ : ∃ Y, Y = w.heap.size := ⟨_, rfl⟩
  rw [← hY] at hnew hz0 hhi hhih ⊢
  obtain ⟨hY0, hR0⟩ := hnew
  have hv0 : v0.heap.size = Y + 2 := hz0
  have hYH := Lib.hid hY
  have hB0 := Lib.hid hb0
  have hzw : w.heap.size ≤ Y ∧ Y ≤ w.heap.size := by omega
  replace hY0 := Lib.hid hY0
  replace hR0 := Lib.hid hR0
  replace hnd := Lib.hid hnd
  replace hris := Lib.hid hris
  replace hok := Lib.hid hok
  replace hgood := Lib.hid hgood
  replace hRl := Lib.hid hRl
  clear hb0 hY hz0
  go_wp2_with fail
  go_loopg [7] 16001 (fun kx s7 wr => ∃ (r : Int) (A1 : Option Addr) (n1 c1 lo1 hi1 : Nat) (Rs1 : List (List Pnt)), s7 = .int .i64 r ∧ 16001 - totR Rs1 ≤ kx ∧ Hid (∀ X, SnapTo hot Rs1 X → SnapTo hot Rs X) ∧ Hid (Snug hot Rs1) ∧ Hid (RegRd wr lo1 hi1 A1 n1 Rs1) ∧ hi1 ≤ wr.heap.size ∧ (hi1 ≤ Y ∨ Y + 2 ≤ lo1) ∧ (lo ≤ lo1 ∨ Y ≤ lo1) ∧ Hid (wr.heap[Y]? = some (.cells #[.slice A1 n1 c1] 26 (0, 0))) ∧ Hid (wr.heap[Y + 1]? = some (.cells #[.slice none 0 0] 26 (0, 0))) ∧ Hid (Below w.heap.size w wr) ∧ v0.heap.size ≤ wr.heap.size ∧ Hid (RdS 2 (FlatR ptC) wr loh hih Ah nh hot))
  case atStart => exact ⟨0, A, n, c, lo, hi, Rs, rfl, by omega, Lib.hid fun X h => h, hgood, hr0, by omega, .inl hhi, .inl (Nat.le_refl _), hY0, hR0, hB0, Nat.le_refl _, hh0⟩
  case round =>
  obtain ⟨r, A1, n1, c1, lo1, hi1, Rs1, rfl, hk1, hst, hgd, hrg, hhi1, hap, hlo9, hYb, hRb, hbl, hsz, hht⟩ := hrel
  generalize wr = xr at *
  obtain ⟨Ls, hLs⟩ : ∃ Ls, Ls = nextR hot Rs1 := ⟨_, rfl⟩
  have hLsH := Lib.hid hLs
  have hn1 := hrg.out.1
  have hLl : Ls.length = n1 := by rw [hLs, ← hn1]; unfold nextR; rw [List.length_map]
  have hn40 : n1 ≤ 40 := by have := hgd.out.1; omega
  have hll2 := hll.out
  have hLn : ∀ L ∈ Ls, L.length ≤ 1000000 := by
    intro L hL
    rw [hLs] at hL
    obtain ⟨K, hK, rfl⟩ := List.mem_map.1 hL
    have h1 := nextTo_len hot K (edgesL K).length
    rw [nextTo_all rfl] at h1
    have h2 : (edgesL K).length ≤ 400 := Nat.le_trans (edgesTo_len K _) (hgd.out.2.2 K hK).1.2
    have h3 : (edgesL K).length * hot.length ≤ 400 * 1000 := Nat.mul_le_mul h2 (by omega)
    omega
  replace hLn := Lib.hid hLn
  replace hLl := Lib.hid hLl
  replace hn1 := Lib.hid hn1
  clear hLs hll2
  have hal := Go.Joins.below_alloc1 xr (.cells #[.slice none 0 0] 26 (0, 0))
  have hXn := heap_alloc_new xr (.cells #[.slice none 0 0] 26 (0, 0))
  have hz3 : (xr.alloc (.cells #[.slice none 0 0] 26 (0, 0))).heap.size = xr.heap.size + 1 := by simp
  have hY3 := Lib.hid ((hal.block Y (by omega)).trans hYb.out)
  have hR3 := Lib.hid ((hal.block (Y + 1) (by omega)).trans hRb.out)
  have hrg3 := Lib.hid (hrg.out.frame good_ring (Below.sameB hal hhi1))
  have hB3 := Lib.hid (hbl.out.trans (hal.mono (by omega)))
  have hht3 := Lib.hid (hht.out.frame (good_flat _) (Below.sameB hal (by omega)))
  clear hal
  go_upto_region 4 with fail
  generalize xr.alloc (.cells #[.slice none 0 0] 26 (0, 0)) = w3 at *
  obtain ⟨X, hX⟩ : ∃ X, X = xr.heap.size := ⟨_, rfl⟩
  rw [← hX] at hXn hz3 hhi1 hsz ⊢
  have hX3 : X + 1 ≤ w3.heap.size ∧ w3.heap.size ≤ X + 1 ∧ Y + 2 ≤ X ∧ hi1 ≤ X ∧ hih ≤ Y := by omega
  have y3 : w3.cell? ⟨Y, 0, none⟩ = some (.slice A1 n1 c1) := by rw [Go.Joins.cell_of_block hY3.out]; rfl
  have hXnH := Lib.hid hXn
  have hXH := Lib.hid hX
  clear hYb hRb hrg hbl hht hX hXn hz3
  go_wp2_with fail
  clear y3
  go_loopg [20] n1 (fun ky s20 wr => ∃ (k : Nat) (Ao : Option Addr) (co : Nat) (ys : List Value), s20 = .int .i64 k ∧ k ≤ n1 ∧ n1 - k ≤ ky ∧ Hid (RegTo wr (X + 1) Ao k co ys Ls) ∧ Hid (wr.heap[X]? = some (.cells #[.slice Ao k co] 26 (0, 0))) ∧ Below X w3 wr)
  case atStart => exact ⟨0, none, 0, [], rfl, Nat.zero_le _, Nat.le_refl _, Lib.hid ⟨World.ownsRow_nil _ _ _ _, fun j K hj => absurd hj (Nat.not_lt_zero j), fun i j u v _ hu => by simp at hu⟩, hXnH, Below.refl _ _⟩
  case round =>
  clear hXnH
  obtain ⟨k, Ao, co, ys, rfl, hk, hky, hto, hXb, hbx⟩ := hrel
  generalize wr = zr at *
  have hzx := hbx.size
  have hXl : X < zr.heap.size := by omega
  have hBz := Lib.hid (hB3.out.trans (hbx.mono (by omega)))
  have hYz := Lib.hid ((hbx.block Y (by omega)).trans hY3.out)
  have hRz := Lib.hid ((hbx.block (Y + 1) (by omega)).trans hR3.out)
  have hrgz := Lib.hid (hrg3.out.frame good_ring (Below.sameB hbx (by omega)))
  have hhtz := Lib.hid (hht3.out.frame (good_flat _) (Below.sameB hbx (by omega)))
  by_cases hlt : k < n1
  rotate_left
  · have hkn : k = n1 := by omega
    have hki : ¬ (k : Int) < (n1 : Int) := by omega
    rw [hkn] at hto hXb
    have hown := Lib.hid (hto.out.own hLl.out)
    have hrdn := Lib.hid (hown.out.rd (fun K hK => Nat.le_trans (hLn.out K hK) (by unfold maxLen; decide)))
    obtain ⟨bq, hbq⟩ : ∃ b, b = decide (Ls = Rs1) := ⟨_, rfl⟩
    have hsame := Lib.hid (implSameReg_any Ao A1 n1 co n1 c1 _ _ _ _ Ls Rs1 bq hbq zr hrdn.out hrgz.out (Nat.le_refl _) (by omega) (by omega) (by omega) (fun K hK => Nat.le_trans (hLn.out K hK) (by omega)) (fun K hK => Nat.le_trans (hgd.out.2.2 K hK).1.2 (by omega)))
    have x5 : zr.cell? ⟨X, 0, none⟩ = some (.slice Ao n1 co) := by rw [Go.Joins.cell_of_block hXb.out]; rfl
    have y5 : zr.cell? ⟨Y, 0, none⟩ = some (.slice A1 n1 c1) := by rw [Go.Joins.cell_of_block hYz.out]; rfl
    replace hbq := Lib.hid hbq
    cases bq
    · have hne : Ls ≠ Rs1 := fun h => by have := hbq.out; rw [h] at this; simp at this
      rw [hLsH.out] at hne
      replace hne := Lib.hid hne
      obtain ⟨v, hv⟩ : ∃ v, v = regOk Ls := ⟨_, rfl⟩
      have hval := Lib.hid (fun W l u hW hs => validRegion_any Ao n1 co l u Ls v hv W hW hs (by omega) (fun K hK => Nat.le_trans (hLn.out K hK) (by omega)))
      replace hv := Lib.hid hv
      cases v
      · go_wp2_with (first | (go_at_call 28; refine hsame.out.mono ?_; rintro e w5 ⟨rfl, hb5⟩; have x6 : w5.cell? ⟨X, 0, none⟩ = some (.slice Ao n1 co) := (hb5.cell (p := ⟨X, 0, none⟩) hXl).trans x5; have hb5H := Lib.hid hb5; clear x5 y5 hb5) | (go_at_call 17; refine (hval.out w5 _ _ (hrdn.out.frame good_ring (Below.sameB hb5H.out (Nat.le_refl _))) hb5H.out.size).mono ?_; rintro e w6 ⟨rfl, hb6⟩; have hb6H := Lib.hid (hb5H.out.trans (hb6.mono hb5H.out.size)); have rc : w6.cell? ⟨Y + 1, 0, none⟩ = some (.slice none 0 0) := (by rw [Go.Joins.cell_of_block ((hb6H.out.block (Y + 1) (by omega)).trans hRz.out)]; rfl); have rf := Go.Joins.unfrozen_of_block ((hb6H.out.block (Y + 1) (by omega)).trans hRz.out); have rl : Y + 1 < w6.heap.size := (by have := hb6H.out.size; omega); clear x6 hb6))
        have hR6 := (hb6H.out.block (Y + 1) (by omega)).trans hRz.out
        refine bodyPost_ret (v := .tuple #[.agg #[.slice none 0 0], .int .i64 0, .int .i64 5]) ?_ rfl ⟨none, hst.out _ (.full _ hne.out (by rw [← hLsH.out]; exact hv.out.symm)), ?_, fun _ => rfl, (fun Rs' h => by cases h)⟩
        · have r3 : (w6.setCell ⟨Y + 1, 0, none⟩ (.slice none 0 0)).cell? ⟨Y + 1, 0, none⟩ = some (.slice none 0 0) := by rw [Go.Joins.cell_of_block (Go.Joins.block_setCell hR6 _)]; rfl
          simp [results, Tryz.results80, go_sem, r3]
        · exact (hBz.out.trans (hb6H.out.mono (by have := hBz.out.size; omega))).setCell (by show w.heap.size ≤ Y + 1; omega) _
      · go_wp2_with (first | (go_at_call 28; refine hsame.out.mono ?_; rintro e w5 ⟨rfl, hb5⟩; have x6 : w5.cell? ⟨X, 0, none⟩ = some (.slice Ao n1 co) := (hb5.cell (p := ⟨X, 0, none⟩) hXl).trans x5; have hb5H := Lib.hid hb5; clear x5 y5 hb5) | (go_at_call 17; refine (hval.out w5 _ _ (hrdn.out.frame good_ring (Below.sameB hb5H.out (Nat.le_refl _))) hb5H.out.size).mono ?_; rintro e w6 ⟨rfl, hb6⟩; have hb6H := Lib.hid (hb5H.out.trans (hb6.mono hb5H.out.size)); have x7 : w6.cell? ⟨X, 0, none⟩ = some (.slice Ao n1 co) := (hb6.cell (p := ⟨X, 0, none⟩) (by have := hb5H.out.size; show X < w5.heap.size; omega)).trans x6; have rc : w6.cell? ⟨Y, 0, none⟩ = some (.slice A1 n1 c1) := (by rw [Go.Joins.cell_of_block ((hb6H.out.block Y (by omega)).trans hYz.out)]; rfl); have rf := Go.Joins.unfrozen_of_block ((hb6H.out.block Y (by omega)).trans hYz.out); have rl : Y < w6.heap.size := (by have := hb6H.out.size; omega); clear x6 hb6))
        have hs6 := hb6H.out.size
        have hsn := Snug.next hgd.out hnd.out (by rw [← hLsH.out]; exact hv.out.symm)
        have hgr := Snug.grows hgd.out hnd.out hne.out
        have htt := hsn.tot
        have htt1 := hgd.out.tot
        rw [← hLsH.out] at hsn hgr
        go_roundg (16001 - totR Ls)
        case measure => omega
        case rel =>
          refine ⟨_, Ao, n1, co, X + 1, w6.heap.size, Ls, rfl, Nat.le_refl _, Lib.hid fun X h => hst.out X (.step _ _ hne.out (by rw [← hLsH.out]; exact hv.out.symm) (by rw [← hLsH.out]; exact h)), Lib.hid hsn, Lib.hid ?_, by simp, .inr (by omega), .inr (by omega), Lib.hid (Go.Joins.block_setCell ((hb6H.out.block Y (by omega)).trans hYz.out) _), Lib.hid ((Below.heap_setCell _ _ _ _ (by show Y + 1 ≠ Y; omega)).trans ((hb6H.out.block (Y + 1) (by omega)).trans hRz.out)), Lib.hid ((hBz.out.trans (hb6H.out.mono (by have := hBz.out.size; omega))).setCell (by show w.heap.size ≤ Y; omega) _), by simp; omega, Lib.hid ?_⟩
          · exact ((hrdn.out.frame good_ring (Below.sameB hb6H.out (Nat.le_refl _))).wide good_ring (Nat.le_refl _) hs6).frame good_ring (fun j h1 h2 => Below.heap_setCell _ _ _ _ (by show j ≠ Y; omega))
          · exact (hhtz.out.frame (good_flat _) (Below.sameB hb6H.out (by omega))).frame (good_flat _) (fun j h1 h2 => Below.heap_setCell _ _ _ _ (by show j ≠ Y; omega))
    · have heq : nextR hot Rs1 = Rs1 := by
        have := hbq.out
        rw [← hLsH.out]
        simpa using this.symm
      replace heq := Lib.hid heq
      go_wp2_with (go_at_call 28; refine hsame.out.mono ?_; rintro e w5 ⟨rfl, hb5⟩; have y6 : w5.cell? ⟨Y, 0, none⟩ = some (.slice A1 n1 c1) := (hb5.cell (p := ⟨Y, 0, none⟩) (by show Y < zr.heap.size; omega)).trans y5; have rc : w5.cell? ⟨Y + 1, 0, none⟩ = some (.slice none 0 0) := (by rw [Go.Joins.cell_of_block ((hb5.block (Y + 1) (by omega)).trans hRz.out)]; rfl); have rf := Go.Joins.unfrozen_of_block ((hb5.block (Y + 1) (by omega)).trans hRz.out); have rl : Y + 1 < w5.heap.size := (by have := hb5.size; omega); have hb5H := Lib.hid hb5; clear x5 y5 hb5)
      have hR6 := (hb5H.out.block (Y + 1) (by omega)).trans hRz.out
      have hs6 := hb5H.out.size
      refine bodyPost_ret (v := .tuple #[.agg #[.slice A1 n1 c1], .int .i64 r, .int .i64 0]) ?_ rfl ⟨some Rs1, hst.out _ (.stop _ heq.out), ?_, (fun h => by cases h), fun Rs' h => ?_⟩
      · have r3 : (w5.setCell ⟨Y + 1, 0, none⟩ (.slice A1 n1 c1)).cell? ⟨Y + 1, 0, none⟩ = some (.slice A1 n1 c1) := by rw [Go.Joins.cell_of_block (Go.Joins.block_setCell hR6 _)]; rfl
        simp [results, Tryz.results80, go_sem, r3]
      · exact (hBz.out.trans (hb5H.out.mono (by have := hBz.out.size; omega))).setCell (by show w.heap.size ≤ Y + 1; omega) _
      · injection h with h
        subst h
        refine ⟨hgd.out, A1, n1, c1, lo1, hi1, r, rfl, ?_, by simp; omega, hlo9.imp id (fun h => by omega)⟩
        exact (hrgz.out.frame good_ring (Below.sameB hb5H.out (by omega))).frame good_ring (fun j h1 h2 => Below.heap_setCell _ _ _ _ (by show j ≠ Y + 1; omega))
  have hki : (k : Int) < (n1 : Int) := by omega
  have i1 : (0 : Int) ≤ (k : Int) ∧ (k : Int) < (n1 : Int) := by omega
  obtain ⟨b, off, K, A2, n2, c2, hAb, hb1, hb, hja, q0, hmx, hrk⟩ := reg_at hrgz.out hlt
  subst hAb
  have hbw : b < zr.heap.size := by omega
  obtain ⟨⟨f1, f2⟩, f3, f4⟩ := hgd.out.2.2 K (List.mem_of_getElem? hja)
  have hn2 := hrk.1
  subst hn2
  have hLk : Ls[k]? = some (nextL hot K) := by rw [hLsH.out]; unfold nextR; rw [List.getElem?_map, hja]; rfl
  obtain ⟨E, hE⟩ : ∃ E, E = edgesL K := ⟨_, rfl⟩
  obtain ⟨N, hN⟩ : ∃ N, N = nextL hot K := ⟨_, rfl⟩
  rw [← hN] at hLk
  have hEm : ∀ e ∈ E, e.1 ≠ e.2 ∧ e.1 ∈ hot ∧ e.2 ∈ hot := fun e he => by
    rw [hE] at he
    obtain ⟨h1, h2, h3⟩ := edges_mem he
    exact ⟨h1, f4 _ h2, f4 _ h3⟩
  have hEl : E.length ≤ 400 := by rw [hE]; exact Nat.le_trans (edgesTo_len K _) f2
  have hedge := Lib.hid (fun W hW hs => edgesRing_own A2 K.length c2 lo1 hi1 K W hW hs f1 (by omega))
  rw [← hE] at hedge
  have hal3 := Go.Joins.below_alloc1 zr (.cells #[.slice A2 K.length c2] 42 (0, 0))
  have hbo3 := heap_alloc_new zr (.cells #[.slice A2 K.length c2] 42 (0, 0))
  have hz4 : (zr.alloc (.cells #[.slice A2 K.length c2] 42 (0, 0))).heap.size = zr.heap.size + 1 := by simp
  have hX4 := Lib.hid ((hal3.block X hXl).trans hXb.out)
  have hrk4 := Lib.hid (hrk.frame (good_flat _) (Below.sameB hal3 (by omega)))
  have hht4 := Lib.hid (hhtz.out.frame (good_flat _) (Below.sameB hal3 (by omega)))
  have hAL := Lib.hid hal3
  have hHx := Lib.hid hbx
  replace hE := Lib.hid hE
  replace hN := Lib.hid hN
  replace hEm := Lib.hid hEm
  replace hLk := Lib.hid hLk
  clear hja hmx hb1 hrk hXb hbx hal3 f3 f4 hYz hRz hBz
  go_upto_region 7 with fail
  generalize zr.alloc (.cells #[.slice A2 K.length c2] 42 (0, 0)) = w4 at *
  obtain ⟨Z, hZ⟩ : ∃ Z, Z = zr.heap.size := ⟨_, rfl⟩
  rw [← hZ] at hbo3 hz4 hzx hXl hbw ⊢
  have hZ4 : Z < w4.heap.size := by omega
  have z4 : w4.cell? ⟨Z, 0, none⟩ = some (.slice A2 K.length c2) := by rw [Go.Joins.cell_of_block hbo3]; rfl
  have hzw4 : Z + 1 ≤ w4.heap.size ∧ w4.heap.size ≤ Z + 1 ∧ hih ≤ w4.heap.size := by omega
  have hed4 := Lib.hid (hedge.out w4 hrk4.out (by omega))
  obtain ⟨m, hm⟩ : ∃ m, m = E.length := ⟨_, rfl⟩
  rw [← hm] at hed4 hEl
  replace hZ := Lib.hid hZ
  clear hbo3 hz4 hedge hrk4 hhtz q0
  replace hm := Lib.hid hm
  go_wp2_with (go_at_call 39; refine hed4.out.mono ?_; rintro e w5 ⟨A3, c3, rfl, ho5, hb5⟩; have hb5H := Lib.hid hb5; have ho5H := Lib.hid ho5; clear z4 hb5 ho5)
  have hs5 := hb5H.out.size
  have hE5 := Lib.hid (rdS_own edgeC_len (by omega) ho5H.out hm.out.symm)
  have hX5 := Lib.hid ((hb5H.out.block X (by omega)).trans hX4.out)
  have hht5 := Lib.hid (hht4.out.frame (good_flat _) (Below.sameB hb5H.out (by omega)))
  have hAL5 := Lib.hid (hAL.out.trans (hb5H.out.mono (by have := hAL.out.size; omega)))
  clear ho5H hht4 hX4 hed4
  go_loopg [11, 27] m (fun kz s11 s27 wr => ∃ (i q : Nat) (A6 : Option Addr) (c6 : Nat), s27 = .int .i64 i ∧ s11 = .slice A6 q c6 ∧ i ≤ m ∧ m - i ≤ kz ∧ q ≤ 1000 * i ∧ Hid (q = (nextTo hot K i).length) ∧ Hid (wr.ownsRow w5.heap.size 28 2 (.slice A6 q c6) q ((nextTo hot K i).flatMap ptC)) ∧ Below w5.heap.size w5 wr)
  case atStart => exact ⟨0, 0, none, 0, rfl, rfl, Nat.zero_le _, Nat.le_refl _, Nat.zero_le _, Lib.hid rfl, Lib.hid (World.ownsRow_nil _ _ _ _), Below.refl _ _⟩
  case round =>
  obtain ⟨i, q, A6, c6, rfl, rfl, hi, hkz, hqi, hq, HO, hb6⟩ := hrel
  generalize wr = yr at *
  have hz6 := hb6.size
  by_cases hil : i < m
  rotate_left
  · have hin : ¬ (i : Int) < (m : Int) := by omega
    have hMi : Hid (nextTo hot K i = N) := by
      show _ = _
      rw [hN.out]
      exact nextTo_all (by rw [← hE.out, ← hm.out]; omega)
    have hqM : Hid (q = N.length) := by show _ = _; rw [hq.out, hMi.out]
    have hq1 : q ≤ 400000 := by omega
    have hX6 := Lib.hid ((hb6.block X (by omega)).trans hX5.out)
    have hAL6 := Lib.hid (hAL5.out.trans (hb6.mono (by have := hAL.out.size; omega)))
    have hbx6 := Lib.hid (hHx.out.trans (hAL6.out.mono (by have := hZ.out; omega)))
    have hBx6 := hbx6.out.size
    have x5 : yr.cell? ⟨X, 0, none⟩ = some (.slice Ao k co) := by rw [Go.Joins.cell_of_block hX6.out]; rfl
    have xf5 := Go.Joins.unfrozen_of_block hX6.out
    have xl5 : X < yr.heap.size := by omega
    have hrow5 := Lib.hid (own_below hto.out.1 hAL6.out)
    clear hb6
    go_wp2_with (at_builtin; refine wpAppAt rfl (.tmp 46) (.tmp 49) elemRing rfl (v := .slice Ao k co) (n := k) (xs := ys) rfl (hrow5.out.alloc _) rfl (src_at (cs := [.slice A6 q c6]) rfl (by simp [Value.oneCell']) (by simp)) (by omega) (by omega) (by simp; omega) (k + 1) rfl ?_; intro A7 c7 w6 ho6 hg6 _; have hk6 : w6.heap[X]? = yr.heap[X]? := (hg6.block X (by simp; omega) (fun e => by have := (hrow5.out.lt X e.symm).1; omega)).trans (Below.heap_alloc _ _ _ xl5); have x6 : w6.cell? ⟨X, 0, none⟩ = some (.slice Ao k co) := (World.cell?_of_block hk6).trans x5; have xf6 : ∀ o, w6.frozen? ⟨X, o, none⟩ = false := fun o => (World.frozen?_of_block hk6).trans (xf5 o); have xl6 : X < w6.heap.size := (by have := hg6.size; simp at this; omega); replace hk6 := Lib.hid hk6; replace ho6 := Lib.hid ho6; replace hg6 := Lib.hid hg6)
    have HO3' := HO.out
    rw [hMi.out] at HO3'
    rw [hqM.out] at HO3' ho6 hg6
    have hnx := RegTo.next (w1 := yr.alloc (.cells #[.slice A6 N.length c6] 42 (0, 0))) (B := w5.heap.size) hto.out hLk.out (by rw [← hqM.out]; exact hAL6.out.trans ((Go.Joins.below_alloc1 yr _).mono (by have := hAL6.out.size; omega))) (HO3'.alloc _) (by have := hZ.out; omega) (by have := hZ.out; omega) ho6.out hg6.out
    go_roundg (n1 - (k + 1))
    case measure => omega
    case rel =>
      refine ⟨k + 1, A7, c7, _, by go_num, by omega, Nat.le_refl _, Lib.hid (hnx.set (by show X < X + 1; omega) _), Lib.hid (Go.Joins.block_setCell (hk6.out.trans hX6.out) _), ?_⟩
      exact ((hbx6.out.alloc (by omega) _).grown hg6.out (by simp; omega) (fun g hg => by have := (hrow5.out.lt g hg).1; omega)).setCell (Nat.le_refl _) _
  have hil2 : (i : Int) < (m : Int) := by omega
  have i2 : (0 : Int) ≤ (i : Int) ∧ (i : Int) < (m : Int) := by omega
  obtain ⟨g, og, e, hA3, hg1, hg2, hje, hcs⟩ := (hE5.out.frame (good_flat _) (Below.sameB hb6 (Nat.le_refl _))).at hil
  subst hA3
  obtain ⟨m1, m2, m3⟩ := hEm.out e (List.mem_of_getElem? hje)
  have hnh1 : 1 ≤ nh := by have := List.length_pos_of_mem m2; have := hll.out; omega
  have hnx := nextTo_next (hot := hot) (L := K) (k := i) (e := e) (by rw [← hE.out]; exact hje)
  obtain ⟨R, hbl1, hbl2⟩ := way_block hnd.out m2 m3 m1
  obtain ⟨W, hW⟩ : ∃ W, W = wayL e.1 e.2 hot := ⟨_, rfl⟩
  rw [← hW] at hnx hbl2
  have hWl1 : 1 ≤ W.length := by rw [hbl2]; simp
  have hWl2 : W.length ≤ 1000 := by rw [hW]; have := way_len e.1 e.2 hot; have := hll.out; omega
  have hsnap := fun V hV hs => snapEdge_any e.1 e.2 Ah nh ch loh hih hot W hW V hV hs hnh1 hnh hch hris.out hok.out (hok.out _ m2) (hok.out _ m3)
  obtain ⟨⟨ax, ay⟩, bx, ey⟩ := e
  have d0 := hcs 0 _ rfl
  have d1 := hcs 1 _ rfl
  have d2 := hcs 2 _ rfl
  have d3 := hcs 3 _ rfl
  simp only [Nat.add_zero] at d0
  dsimp only at d0 d1 d2 d3 hsnap
  obtain ⟨zl, hzl⟩ : ∃ zl, zl = W.length := ⟨_, rfl⟩
  rw [← hzl] at hsnap hWl1 hWl2
  have qz : IntKind.i64.wrap ((zl : Int) - 1) = ((zl - 1 : Nat) : Int) := by rw [wi (by omega)]; omega
  obtain ⟨zm, hzm⟩ : ∃ zm, zm = zl - 1 := ⟨_, rfl⟩
  rw [← hzm] at qz
  have hzm2 : zm + 1 ≤ zl ∧ zl ≤ zm + 1 ∧ (0 : Int) ≤ (zm : Int) ∧ (zm : Int) ≤ (zl : Int) := by omega
  have hgw : g < yr.heap.size := by omega
  have hq1 : q ≤ 400000 := by omega
  have hht6 := Lib.hid (hht5.out.frame (good_flat _) (Below.sameB hb6 (by omega)))
  have hb6H := Lib.hid hb6
  replace hnx := Lib.hid hnx
  replace hsnap := Lib.hid hsnap
  replace hW := Lib.hid hW
  replace hzl := Lib.hid hzl
  replace hzm := Lib.hid hzm
  have hih6 : hih ≤ yr.heap.size := by omega
  clear hcs hje hg1 hg2 m1 m2 m3 hbl1 hbl2 hb6
  go_wp2_with (first | (go_at_call 95; refine (hsnap.out _ (hht6.out.frame (good_flat _) (Below.sameB (Go.Joins.below_alloc1 _ _) hih6)) (by simp; omega)).mono ?_; rintro e w8 ⟨A9, c9, rfl, ho9, hb9⟩; obtain ⟨g9, hA9, hg9, hg9l, hzc, _⟩ := own_at ho9 (by omega); subst hA9; have hzc2 : (zm : Int) ≤ (c9 : Int) := (by omega); have HO8 := Lib.hid (own_below (HO.out.alloc (.cells #[.int .i64 ax, .int .i64 ay, .int .i64 bx, .int .i64 ey] 78 (0, 0))) hb9); have hb8 := Lib.hid (((Go.Joins.below_alloc1 yr (.cells #[.int .i64 ax, .int .i64 ay, .int .i64 bx, .int .i64 ey] 78 (0, 0)))).trans (hb9.mono (by simp))); have hs8 := hb8.out.size; have ho9H := Lib.hid ho9; clear d0 d1 d2 d3 ho9 hb9 hg9 hg9l) | (at_builtin; refine wpApp rfl (.tmp 37) (.tmp 42) elemPt rfl (v := .slice A6 q c6) (n := q) (xs := (nextTo hot K i).flatMap ptC) rfl HO8.out rfl (src_own (own_cutG ho9H.out (k := zm) (by omega)) (fun u hu => ptc_oneL W u (List.mem_of_mem_take hu))) (by omega) (by omega) (by omega) (q + zm) rfl ?_; intro A7 c7 w9 ho7 hb7; replace ho7 := Lib.hid ho7; replace hb7 := Lib.hid hb7))
  go_roundg (m - (i + 1))
  case measure => omega
  case rel =>
    refine ⟨i + 1, q + zm, A7, c7, by go_num, rfl, by omega, Nat.le_refl _, by omega, ?_, ?_, ?_⟩
    · rw [hnx.out, List.length_append, ← hq.out, List.length_dropLast, ← hzl.out]
      exact Lib.hid (by rw [hzm.out])
    · rw [hnx.out, List.flatMap_append]
      have h7 := ho7.out
      rw [flat_take2, show W.take zm = W.dropLast by rw [List.dropLast_eq_take, ← hzl.out, hzm.out]] at h7
      exact Lib.hid h7
    · exact (hb6H.out.trans (hb8.out.mono (by omega))).trans (hb7.out.mono (by omega))
end Go.Proofs.YtlifiioflkhkoaaGreat

