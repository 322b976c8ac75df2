/- spec.ScaleOutline. Conditions: as each states. -/
import Derived.Test.YtpjmpbdbfldnaaaScaleI
import Derived.Test.YtpjmpbdbfldnaaaMoveS
import Derived.StillTailTactics
namespace Go.Proofs.Ytpjmpbdbfldnaaa
open Go.RowKit
set_option linter.unusedVariables false
set_option maxRecDepth 100000

theorem OutTo.rd {w : World} {lo n co : Nat} {Ao : Option Addr} {ys : List Value} {Ls : List (List Knot)} (h : OutTo w lo Ao n co ys Ls) (hl : Ls.length = n) (hm : ∀ K ∈ Ls, K.length ≤ maxLen) : OutRd w lo w.heap.size Ao n Ls := (h.own hl).rd hm

set_option maxHeartbeats 4000000 in
theorem l18Outline_any (X : Nat) (A : Option Addr) (n c lo hi : Nat) (Ls : List (List Knot)) (x y : Int) (v : Bool) (hv : v = outOk (scaled x y Ls)) (w : World) (hX : X < w.heap.size) (hcell : w.cell? ⟨X, 0, none⟩ = some (.slice A n c)) (hr : OutRd w lo hi A n Ls) (hhi : hi ≤ w.heap.size) (hn : n ≤ 1048576) (hK : ∀ K ∈ Ls, K.length ≤ 1048576) (hok : outOk Ls = true) (hs : scalesB x y = true) :
    Calls Try.prog 119 #[.pointer (some ⟨X, 0, none⟩), .int .i64 x, .int .i64 y] w fun e w' => ∃ A' c', e = .returned (.tuple #[.agg #[.slice A' n c'], .bool v]) ∧ OutOwn w' w.heap.size A' n c' (scaled x y Ls) ∧ Below w.heap.size w w' := by
  have hLs : ∀ (K : List Knot) (p : Knot), K ∈ Ls → p ∈ K → askB p.1 x y = true ∧ askB p.2.1 x y = true := fun K p h1 h2 => by
    simp only [outOk, Bool.and_eq_true, List.all_eq_true] at hok
    have h3 := hok.1 K h1
    simp only [loopOk, Bool.and_eq_true, List.all_eq_true] at h3
    have h4 := ptOk_iff.1 (h3.2 p h2)
    exact ⟨ask_pt hs h4.1.1 h4.1.2, ask_pt hs h4.2.1 h4.2.2⟩
  replace hLs := Lib.hid hLs
  replace hr := Lib.hid hr
  replace hK := Lib.hid hK
  replace hv := Lib.hid hv
  clear hok hs
  have hnew := heap_new2 w (.cells #[.slice none 0 0] 41 (0, 0)) (.cells #[.slice none 0 0] 41 (0, 0))
  have hB0 : Below w.heap.size w ((w.alloc (.cells #[.slice none 0 0] 41 (0, 0))).alloc (.cells #[.slice none 0 0] 41 (0, 0))) := Go.Joins.below_alloc2 _ _ _
  have hz0 : w.heap.size + 2 ≤ ((w.alloc (.cells #[.slice none 0 0] 41 (0, 0))).alloc (.cells #[.slice none 0 0] 41 (0, 0))).heap.size := by simp
  replace hnew := Lib.hid hnew
  go_enter Try.func119, Try.ntmps119
  go_wp2_with fail
  generalize (w.alloc (.cells #[.slice none 0 0] 41 (0, 0))).alloc (.cells #[.slice none 0 0] 41 (0, 0)) = w2 at *
  have h20 : w2.cell? ⟨w.heap.size + 1, 0, none⟩ = some (.slice none 0 0) := by rw [Go.Joins.cell_of_block hnew.out.2]; rfl
  have h2f : ∀ o, w2.frozen? ⟨w.heap.size + 1, o, none⟩ = false := Go.Joins.unfrozen_of_block hnew.out.2
  go_loopw [9] (fun i wr => ∃ (k : Nat) (Ao : Option Addr) (co : Nat) (ys : List Value), i = .int .i64 k ∧ k ≤ n ∧ OutTo wr (w.heap.size + 2) Ao k co ys (scaled x y Ls) ∧ wr.cell? ⟨w.heap.size + 1, 0, none⟩ = some (.slice Ao k co) ∧ (∀ o, wr.frozen? ⟨w.heap.size + 1, o, none⟩ = false) ∧ w.heap.size + 2 ≤ wr.heap.size ∧ Hid (wr.heap[w.heap.size]? = some (.cells #[.slice none 0 0] 41 (0, 0))) ∧ Below w.heap.size w wr) (fun i wr => n - (intOf i).toNat)
  case atStart => exact ⟨0, none, 0, [], rfl, Nat.zero_le _, ⟨World.ownsRow_nil _ _ _ _, fun j K hj => absurd hj (Nat.not_lt_zero j), fun i j u v _ hu => by simp at hu⟩, h20, h2f, hz0, hnew.out.1, hB0⟩
  case round =>
    clear h20 h2f hB0 hz0 hnew
    obtain ⟨k, Ao, co, ys, rfl, hk, hto, oc, of, hz, hRb, hbel⟩ := hrel
    have o0r : wr.cell? ⟨X, 0, none⟩ = some (.slice A n c) := (hbel.cell (by simp; omega)).trans hcell
    have hXr : X < wr.heap.size := by omega
    replace hto := Lib.hid hto
    by_cases hlt : k < n
    · obtain ⟨b1, off1, K, A2, n2, c2, rfl, hb10, hb1h, hja, qk, hmx, hrk⟩ := out_at (hr.out.frame good_loop (Below.sameB hbel hhi)) hlt
      have hn2 := hrk.1
      subst hn2
      have hb1w : b1 < wr.heap.size := by omega
      have hKl := hK.out K (List.mem_of_getElem? hja)
      have hbd := Lib.hid (fun p hp => hLs.out K p (List.mem_of_getElem? hja) hp)
      replace hja := Lib.hid hja
      replace hrk := Lib.hid hrk
      replace hbel := Lib.hid hbel
      have hkl : hi ≤ wr.heap.size := by omega
      clear hmx hb10 hb1h hcell
      obtain ⟨wk, hwk⟩ : ∃ v, v = wr := ⟨_, rfl⟩
      subst hwk
      go_wp2_with fail
      go_loopw [11] (fun i wi => ∃ (q : Nat) (Al : Option Addr) (cl : Nat), i = .int .i64 q ∧ q ≤ K.length ∧ wi.ownsRow (wk.heap.size + 1) 119 3 (.slice Al q cl) q (((K.map (mapK (scP x y))).take q).flatMap knotC) ∧ wi.cell? ⟨wk.heap.size, 0, none⟩ = some (.slice Al q cl) ∧ (∀ o, wi.frozen? ⟨wk.heap.size, o, none⟩ = false) ∧ wk.heap.size + 1 ≤ wi.heap.size ∧ Below wk.heap.size wk wi) (fun i wi => K.length - (intOf i).toNat)
      case atStart => exact ⟨0, none, 0, rfl, Nat.zero_le _, World.ownsRow_nil _ _ _ _, by go_simp, fun o => by go_simp, by simp, (Below.refl _ _).alloc (Nat.le_refl _) _⟩
      case round =>
        obtain ⟨q, Al, cl, rfl, hq, ho, c8, f8, hz8, hbi⟩ := hrel
        have o0i : wr.cell? ⟨X, 0, none⟩ = some (.slice (some ⟨b1, off1, none⟩) n c) := (hbi.cell (by simp; omega)).trans o0r
        have qki : wr.cell? ⟨b1, off1 + k, none⟩ = some (.slice A2 K.length c2) := (hbi.cell (by simp; omega)).trans qk
        have hb1i : b1 < wr.heap.size := by omega
        have hX0 : X < wr.heap.size := by omega
        have hX8 : wk.heap.size < wr.heap.size := by omega
        by_cases hql : q < K.length
        · obtain ⟨b2, off2, p, rfl, hb20, hb2h, hp, hcs⟩ := (hrk.out.frame (good_flat _) (Below.sameB hbi hkl)).at hql
          have p0 := hcs 0 _ rfl
          have p1 := hcs 1 _ rfl
          have p2 := hcs 2 _ rfl
          simp only [Nat.add_zero] at p0 p1 p2
          have hb2w : b2 < wr.heap.size := by omega
          obtain ⟨ha1, ha2⟩ := hbd.out p (List.mem_of_getElem? hp)
          have hca := Lib.hid (fun W => l18Scale_any p.1 x y W ha1)
          have hcb := Lib.hid (fun W => l18Scale_any p.2.1 x y W ha2)
          have hfl := Lib.hid (take_flat (map_at (f := mapK (scP x y)) hp))
          have hkn : Hid (knotC (mapK (scP x y) p) = [.int .i64 (rnd (p.1 * x * 64) y), .int .i64 (rnd (p.2.1 * x * 64) y), .bool p.2.2]) := rfl
          generalize rnd (p.1 * x * 64) y = s0 at *
          generalize rnd (p.2.1 * x * 64) y = s1 at *
          have hlt8 := ho.lt
          have d0 : (wr.alloc (.cells #[.int .i64 p.1, .int .i64 p.2.1, .bool p.2.2] 119 (0, 0))).cell? ⟨wr.heap.size, 0, none⟩ = some (.int .i64 p.1) := by rw [Go.Joins.cell_of_block (heap_alloc_new wr _)]; rfl
          have d1 : (wr.alloc (.cells #[.int .i64 p.1, .int .i64 p.2.1, .bool p.2.2] 119 (0, 0))).cell? ⟨wr.heap.size, 1, none⟩ = some (.int .i64 p.2.1) := by rw [Go.Joins.cell_of_block (heap_alloc_new wr _)]; rfl
          have d2 : (wr.alloc (.cells #[.int .i64 p.1, .int .i64 p.2.1, .bool p.2.2] 119 (0, 0))).cell? ⟨wr.heap.size, 2, none⟩ = some (.bool p.2.2) := by rw [Go.Joins.cell_of_block (heap_alloc_new wr _)]; rfl
          have df : ∀ o, (wr.alloc (.cells #[.int .i64 p.1, .int .i64 p.2.1, .bool p.2.2] 119 (0, 0))).frozen? ⟨wr.heap.size, o, none⟩ = false := Go.Joins.unfrozen_of_block (heap_alloc_new wr _)
          have c8' : (wr.alloc (.cells #[.int .i64 p.1, .int .i64 p.2.1, .bool p.2.2] 119 (0, 0))).cell? ⟨wk.heap.size, 0, none⟩ = some (.slice Al q cl) := Lib.cell?_alloc_some _ c8
          have f8' : ∀ o, (wr.alloc (.cells #[.int .i64 p.1, .int .i64 p.2.1, .bool p.2.2] 119 (0, 0))).frozen? ⟨wk.heap.size, o, none⟩ = false := fun o => (World.frozen?_of_block (w := wr) (Below.heap_alloc _ _ _ hX8)).trans (f8 o)
          have hB3 : Below wk.heap.size wk (wr.alloc (.cells #[.int .i64 p.1, .int .i64 p.2.1, .bool p.2.2] 119 (0, 0))) := hbi.alloc (by omega) _
          have hz3 : wr.heap.size < (wr.alloc (.cells #[.int .i64 p.1, .int .i64 p.2.1, .bool p.2.2] 119 (0, 0))).heap.size := by simp
          have ho3 := Lib.hid (ho.alloc (.cells #[.int .i64 p.1, .int .i64 p.2.1, .bool p.2.2] 119 (0, 0)))
          have hne : wk.heap.size ≠ wr.heap.size := by omega
          have hne' : wr.heap.size ≠ wk.heap.size := by omega
          have hno : Hid ((Value.slice Al q cl).ownBlock ≠ some wr.heap.size) := fun e => by have := (hlt8 _ e).2; omega
          clear hcs hb20 hb2h ha1 ha2
          replace hp := Lib.hid hp
          replace ho := Lib.hid ho
          replace hbi := Lib.hid hbi
          replace hlt8 := Lib.hid hlt8
          replace hB3 := Lib.hid hB3
          go_wp2_with fail
          generalize wr.alloc (.cells #[.int .i64 p.1, .int .i64 p.2.1, .bool p.2.2] 119 (0, 0)) = w3 at *
          go_still_tail 14, (by kernel_rfl)
          still_call ((hca.out _).mono fun e w'' ⟨h1, h2⟩ => ⟨h1, h2.symm⟩)
          repeat still_step
          still_call ((hcb.out _).mono fun e w'' ⟨h1, h2⟩ => ⟨h1, h2.symm⟩)
          repeat still_step
          refine wpStill_nil ?_
          have e0 : w3.drew.cell? ⟨wr.heap.size, 0, none⟩ = some (.int .i64 p.1) := d0
          have e1 : w3.drew.cell? ⟨wr.heap.size, 1, none⟩ = some (.int .i64 p.2.1) := d1
          have e2 : w3.drew.cell? ⟨wr.heap.size, 2, none⟩ = some (.bool p.2.2) := d2
          have ef : ∀ o, w3.drew.frozen? ⟨wr.heap.size, o, none⟩ = false := df
          have c8d : w3.drew.cell? ⟨wk.heap.size, 0, none⟩ = some (.slice Al q cl) := c8'
          have f8d : ∀ o, w3.drew.frozen? ⟨wk.heap.size, o, none⟩ = false := f8'
          have hzd : wr.heap.size < w3.drew.heap.size := hz3
          have hBd : Hid (Below wk.heap.size wk w3.drew) := hB3.out.drew
          have hod : Hid (w3.drew.ownsRow (wk.heap.size + 1) 119 3 (.slice Al q cl) q (((K.map (mapK (scP x y))).take q).flatMap knotC)) := World.ownsRow.drew ho3.out
          clear d0 d1 d2 df c8' f8' hz3 hB3 ho3
          change wpList _ _ _ _ _ w3.drew
          generalize w3.drew = w4 at *
          go_wp2_with (at_builtin; refine wpAppAt rfl (.tmp 63) (.tmp 65) elemKnot rfl (v := .slice Al q cl) (n := q) (xs := ((K.map (mapK (scP x y))).take q).flatMap knotC) rfl ((ownsRow_setCell_other (ownsRow_setCell_other hod.out hno.out _) hno.out _).alloc _) rfl (src_at (cs := [.int .i64 s0, .int .i64 s1, .bool p.2.2]) rfl (by simp [Value.oneCell']) (by simp)) (by omega) (by omega) (by simp; omega) (q + 1) rfl ?_; intro A4 c4 w5 ho4 hg4 _; have hk4 : w5.heap[wk.heap.size]? = w4.heap[wk.heap.size]? := (hg4.block _ (by simp; omega) (fun e => by have := (hlt8.out _ e.symm).1; omega)).trans ((Below.heap_alloc _ _ _ (by simp; omega)).trans ((Below.heap_setCell _ _ _ _ (by simp; omega)).trans (Below.heap_setCell _ _ _ _ (by simp; omega)))); have c84 : w5.cell? ⟨wk.heap.size, 0, none⟩ = some (.slice Al q cl) := (World.cell?_of_block hk4).trans c8d; have f84 : ∀ o, w5.frozen? ⟨wk.heap.size, o, none⟩ = false := (fun o => (World.frozen?_of_block hk4).trans (f8d o)); clear hk4; replace ho4 := Lib.hid ho4; replace hg4 := Lib.hid hg4)
          go_roundw
          case rel =>
            have hg := hg4.out
            have hgs := hg.size
            simp at hgs
            refine ⟨q + 1, A4, c4, by go_num, by omega, ?_, by go_simp, fun o => by have := f84 o; go_simp, by simp; omega, ?_⟩
            · rw [hfl.out, hkn.out]; exact ownsRow_setCell_below ho4.out (by simp) _
            · exact ((((hBd.out.setCell (by simp; omega) _).setCell (by simp; omega) _).alloc (by simp; omega) _).grown hg (by simp; omega) (fun g hgk => by have := (hlt8.out _ hgk).1; omega)).setCell (by simp) _
          case measure => simp [intOf]; omega
        · have hqK : q = K.length := by omega
          subst hqK
          have hoci : wr.cell? ⟨w.heap.size + 1, 0, none⟩ = some (.slice Ao k co) := (hbi.cell (by simp; omega)).trans oc
          have hofi : ∀ o, wr.frozen? ⟨w.heap.size + 1, o, none⟩ = false := fun o => (hbi.frozen (by simp; omega)).trans (of o)
          have hXH : w.heap.size + 1 < wr.heap.size := by omega
          have hlt6 := Lib.hid hto.out.1.lt
          rw [List.take_of_length_le (by simp)] at ho
          have hRi : Hid (wr.heap[w.heap.size]? = some (.cells #[.slice none 0 0] 41 (0, 0))) := (hbi.block _ (by omega)).trans hRb.out
          replace ho := Lib.hid ho
          replace hbi := Lib.hid hbi
          go_wp2_with (at_builtin; refine wpAppAt rfl (.tmp 69) (.tmp 71) elemLoop rfl (v := .slice Ao k co) (n := k) (xs := ys) rfl ((own_below hto.out.1 hbi.out).alloc _) rfl (src_at (cs := [.slice Al K.length cl]) rfl (by simp [Value.oneCell']) (by simp)) (by omega) (by omega) (by simp; omega) (k + 1) rfl ?_; intro A5 c5 w5 ho5 hg5 _; have hk5 : w5.heap[w.heap.size + 1]? = wr.heap[w.heap.size + 1]? := (hg5.block _ (by simp; omega) (fun e => by have := (hlt6.out _ e.symm).1; omega)).trans (Below.heap_alloc _ _ _ (by omega)); have c85 : w5.cell? ⟨w.heap.size + 1, 0, none⟩ = some (.slice Ao k co) := (World.cell?_of_block hk5).trans hoci; have f85 : ∀ o, w5.frozen? ⟨w.heap.size + 1, o, none⟩ = false := (fun o => (World.frozen?_of_block hk5).trans (hofi o)); clear hk5; replace ho5 := Lib.hid ho5; replace hg5 := Lib.hid hg5)
          go_roundw
          case rel =>
            have hg := hg5.out
            have hgs := hg.size
            simp at hgs
            have hml : (K.map (mapK (scP x y))).length = K.length := List.length_map _
            have hmj : (scaled x y Ls)[k]? = some (K.map (mapK (scP x y))) := map_at hja.out
            have hnx := OutTo.next (w1 := wr.alloc (.cells #[.slice Al K.length cl] 117 (0, 0))) (B := wk.heap.size + 1) (A2 := Al) (c2 := cl) (A3 := A5) (cc := c5) hto.out hmj (hbi.out.alloc (by omega) _) (by rw [hml]; exact ho.out.alloc _) (by omega) hz (by rw [hml]; exact ho5.out) hg
            refine ⟨k + 1, A5, c5, _, by go_num, by omega, hnx.set (by simp) _, by go_simp, fun o => by have := f85 o; go_simp, by simp; omega, ?_, ?_⟩
            · exact (Below.heap_setCell _ _ _ _ (by simp)).trans ((hg.block _ (by simp; omega) (fun e => by have := (hlt6.out _ e.symm).1; omega)).trans ((Below.heap_alloc _ _ _ (by omega)).trans hRi.out))
            · exact (((hbel.out.trans (hbi.out.mono hbel.out.size)).alloc (by omega) _).grown hg (by simp; omega) (fun g hgk => by have := (hlt6.out _ hgk).1; omega)).setCell (by simp <;> omega) _
          case measure => simp [intOf]; omega
    · have hkn : k = n := by omega
      subst hkn
      have hlen : (scaled x y Ls).length = k := by unfold scaled; rw [List.length_map]; exact hr.out.1
      have hmK : ∀ K ∈ scaled x y Ls, K.length ≤ 1048576 := fun K h => by
        obtain ⟨K0, h0, rfl⟩ := List.mem_map.1 h
        rw [List.length_map]
        exact hK.out K0 h0
      have hval3 := Lib.hid (fun W (hS : SameB (w.heap.size + 2) wr.heap.size wr W) (hsz : wr.heap.size ≤ W.heap.size) (hc : W.cell? ⟨w.heap.size + 1, 0, none⟩ = some (.slice Ao k co)) => l10Ok_any (w.heap.size + 1) Ao k co (w.heap.size + 2) wr.heap.size (scaled x y Ls) v hv.out W (by omega) hc ((hto.out.rd hlen (fun K h => by have := hmK K h; unfold maxLen; omega)).frame good_loop hS) hsz (by omega) (fun K h => by have := hmK K h; omega))
      have how := Lib.hid (hto.out.own hlen)
      have r0 : wr.cell? ⟨w.heap.size, 0, none⟩ = some (.slice none 0 0) := by rw [Go.Joins.cell_of_block hRb.out]; rfl
      have rf : ∀ o, wr.frozen? ⟨w.heap.size, o, none⟩ = false := Go.Joins.unfrozen_of_block hRb.out
      have hH1 : w.heap.size + 1 < wr.heap.size := by omega
      have hH0 : w.heap.size < wr.heap.size := by omega
      clear hmK
      go_wp2_with fail
      go_region_held3 (fun w' => w'.cell? ⟨w.heap.size + 1, 0, none⟩ = some (.slice Ao k co)) (first | exact oc | exact oc4 | exact (World.cell?_of_block (w := w4) (Below.heap_setCell _ _ _ _ (by simp))).trans oc4)
        ((go_at_call 96; (with_reducible refine (hval3.out _ ?_ ?_ ?_).mono ?_); exact (SameB.refl _ _ wr).drew; exact Nat.le_refl _; exact oc; rintro e w4 ⟨rfl, hb4⟩; have hb4' : Below wr.heap.size wr w4 := (Below.refl _ _).drew.trans hb4; have oc4 : w4.cell? ⟨w.heap.size + 1, 0, none⟩ = some (.slice Ao k co) := (hb4'.cell (by simp; omega)).trans oc; have r4 : w4.cell? ⟨w.heap.size, 0, none⟩ = some (.slice none 0 0) := (hb4'.cell (by simp; omega)).trans r0; have rf4 : ∀ o, w4.frozen? ⟨w.heap.size, o, none⟩ = false := (fun o => (hb4'.frozen (by simp; omega)).trans (rf o)); clear hb4))
      go_wp2_with fail
      refine bodyPost_ret (v := .tuple #[.agg #[.slice Ao k co], .bool v]) (by simp [results, Try.results119, go_sem, r4]) rfl ⟨Ao, co, rfl, (OutOwn.stored_below (a := ⟨w.heap.size, 0, none⟩) (how.out.kept hb4') (by show w.heap.size < w.heap.size + 2; omega) _).base (by omega), (hbel.trans (hb4'.mono hbel.size)).setCell (by simp) _⟩

theorem ask0 (x y : Int) : askB 0 x y = scalesB x y := by
  have : inB 0 (-262144) 262144 = true := inB_iff.2 ⟨by omega, by omega⟩
  unfold askB scalesB; rw [this]; simp
set_option maxHeartbeats 4000000 in
theorem specScale_any (A : Option Addr) (n c lo hi : Nat) (Ls : List (List Knot)) (x y : Int) (w : World) (hr : OutRd w lo hi A n Ls) (hhi : hi ≤ w.heap.size) (hn : n ≤ 1048576) (hK : ∀ K ∈ Ls, K.length ≤ 1048576) :
    Calls Try.prog 46 #[.agg #[.slice A n c], .int .i64 x, .int .i64 y] w fun e w' => ∃ A' n' c', e = .returned (.tuple #[.agg #[.slice A' n' c'], .int .i64 (scaleOf x y Ls).2]) ∧ OutOwn w' w.heap.size A' n' c' (scaleOf x y Ls).1 ∧ Below w.heap.size w w' := by
  obtain ⟨v, hv⟩ : ∃ v, v = outOk Ls := ⟨_, rfl⟩
  have hval := Lib.hid (fun W (p : Nat) (hp : p < W.heap.size) (hc : W.cell? ⟨p, 0, none⟩ = some (.slice A n c)) (hS : SameB lo hi w W) (h : hi ≤ W.heap.size) => l10Ok_any p A n c lo hi Ls v hv W hp hc (hr.frame good_loop hS) h (by omega) (fun K h => by have := hK K h; omega))
  have hnew := heap_new2 w (.cells #[.slice A n c] 41 (0, 0)) (.cells #[.slice none 0 0] 41 (0, 0))
  have hS0 : SameB lo hi w ((w.alloc (.cells #[.slice A n c] 41 (0, 0))).alloc (.cells #[.slice none 0 0] 41 (0, 0))) := ((SameB.refl lo hi w).alloc hhi _).alloc (by simp; omega) _
  have hB0 : Below w.heap.size w ((w.alloc (.cells #[.slice A n c] 41 (0, 0))).alloc (.cells #[.slice none 0 0] 41 (0, 0))) := Go.Joins.below_alloc2 _ _ _
  have hz0 : w.heap.size + 2 ≤ ((w.alloc (.cells #[.slice A n c] 41 (0, 0))).alloc (.cells #[.slice none 0 0] 41 (0, 0))).heap.size := by simp
  have hc0 : ((w.alloc (.cells #[.slice A n c] 41 (0, 0))).alloc (.cells #[.slice none 0 0] 41 (0, 0))).cell? ⟨w.heap.size, 0, none⟩ = some (.slice A n c) := by rw [Go.Joins.cell_of_block hnew.1]; rfl
  replace hnew := Lib.hid hnew
  cases v with
  | false =>
    have hm : scaleOf x y Ls = ([], 1) := by rw [scaleOf, ← hv]; rfl
    rw [hm]
    clear hr hK hv hm
    go_enter Try.func46, Try.ntmps46
    go_wp2_with fail
    generalize (w.alloc (.cells #[.slice A n c] 41 (0, 0))).alloc (.cells #[.slice none 0 0] 41 (0, 0)) = w0 at *
    refine (hval.out _ w.heap.size (by omega) hc0 hS0 (by omega)).mono ?_
    rintro e w1 ⟨rfl, hb1⟩
    have hz1 := hb1.size
    have hR := (hb1.block (w.heap.size + 1) (by omega)).trans hnew.out.2
    have r0 : w1.cell? ⟨w.heap.size + 1, 0, none⟩ = some (.slice none 0 0) := by rw [Go.Joins.cell_of_block hR]; rfl
    have fr : ∀ o, w1.frozen? ⟨w.heap.size + 1, o, none⟩ = false := Go.Joins.unfrozen_of_block hR
    have hB1 : Below w.heap.size w w1 := hB0.trans (hb1.mono hB0.size)
    clear hnew hR hb1 hval hc0
    go_wp2_with fail
    refine bodyPost_ret (v := .tuple #[.agg #[.slice none 0 0], .int .i64 1]) (by simp [results, Try.results46, go_sem, r0]) rfl ⟨none, 0, 0, rfl, OutOwn.empty _ _, hB1.setCell (by simp <;> omega) _⟩
  | true =>
    cases hb : scalesB x y with
    | false =>
      have hm : scaleOf x y Ls = ([], 2) := by rw [scaleOf, ← hv, hb]; rfl
      rw [hm]
      have hask := Lib.hid (fun W => l18Ask_no 0 x y W ((ask0 x y).trans hb))
      clear hr hK hv hm hb
      go_enter Try.func46, Try.ntmps46
      go_wp2_with fail
      generalize (w.alloc (.cells #[.slice A n c] 41 (0, 0))).alloc (.cells #[.slice none 0 0] 41 (0, 0)) = w0 at *
      refine (hval.out _ w.heap.size (by omega) hc0 hS0 (by omega)).mono ?_
      rintro e w1 ⟨rfl, hb1⟩
      have hz1 := hb1.size
      have hR := (hb1.block (w.heap.size + 1) (by omega)).trans hnew.out.2
      have r0 : w1.cell? ⟨w.heap.size + 1, 0, none⟩ = some (.slice none 0 0) := by rw [Go.Joins.cell_of_block hR]; rfl
      have fr : ∀ o, w1.frozen? ⟨w.heap.size + 1, o, none⟩ = false := Go.Joins.unfrozen_of_block hR
      have hB1 : Below w.heap.size w w1 := hB0.trans (hb1.mono hB0.size)
      clear hnew hR hb1 hval hc0
      go_wp2_with fail
      refine (hask.out _).mono ?_
      rintro e w' ⟨rfl, rfl⟩
      go_wp2_with fail
      refine bodyPost_ret (v := .tuple #[.agg #[.slice none 0 0], .int .i64 2]) (by simp [results, Try.results46, go_sem, r0]) rfl ⟨none, 0, 0, rfl, OutOwn.empty _ _, hB1.setCell (by simp <;> omega) _⟩
    | true =>
      obtain ⟨v3, hv3⟩ : ∃ v3, v3 = outOk (scaled x y Ls) := ⟨_, rfl⟩
      have hask := Lib.hid (fun W => l18Ask_yes 0 x y W ((ask0 x y).trans hb))
      have hmap := Lib.hid (fun W (hX : w.heap.size < W.heap.size) (hc : W.cell? ⟨w.heap.size, 0, none⟩ = some (.slice A n c)) (hB : Below w.heap.size w W) => l18Outline_any w.heap.size A n c lo hi Ls x y v3 hv3 W hX hc (hr.frame good_loop (Below.sameB hB hhi)) (Nat.le_trans hhi hB.size) hn hK hv.symm hb)
      have hm : scaleOf x y Ls = if v3 then (scaled x y Ls, 0) else ([], 2) := by rw [scaleOf, ← hv, hb, ← hv3]; rfl
      replace hm := Lib.hid hm
      clear hr hK hv hb hv3
      go_enter Try.func46, Try.ntmps46
      go_wp2_with fail
      generalize (w.alloc (.cells #[.slice A n c] 41 (0, 0))).alloc (.cells #[.slice none 0 0] 41 (0, 0)) = w0 at *
      refine (hval.out _ w.heap.size (by omega) hc0 hS0 (by omega)).mono ?_
      rintro e w1 ⟨rfl, hb1⟩
      have hz1 := hb1.size
      have hR1 := (hb1.block (w.heap.size + 1) (by omega)).trans hnew.out.2
      have hc1 : w1.cell? ⟨w.heap.size, 0, none⟩ = some (.slice A n c) := (hb1.cell (by simp; omega)).trans hc0
      have hB1 : Below w.heap.size w w1 := hB0.trans (hb1.mono hB0.size)
      replace hR1 := Lib.hid hR1
      clear hnew hb1 hval hc0
      go_wp2_with fail
      refine (hask.out _).mono ?_
      rintro e w' ⟨rfl, rfl⟩
      go_wp2_with fail
      refine (hmap.out w1 (by omega) hc1 hB1).mono ?_
      rintro e w2 ⟨A2, c2, rfl, ho2, hb2⟩
      have hz2 := hb2.size
      have hR2 := (hb2.block (w.heap.size + 1) (by omega)).trans hR1.out
      have r0 : w2.cell? ⟨w.heap.size + 1, 0, none⟩ = some (.slice none 0 0) := by rw [Go.Joins.cell_of_block hR2]; rfl
      have fr : ∀ o, w2.frozen? ⟨w.heap.size + 1, o, none⟩ = false := Go.Joins.unfrozen_of_block hR2
      have hB2 := hB1.trans (hb2.mono hB1.size)
      have hlt2 : w.heap.size + 1 < w2.heap.size := by omega
      replace ho2 := Lib.hid ho2
      clear hb2 hR1 hR2 hmap hask hc1
      cases v3 with
      | false =>
        have hm' : scaleOf x y Ls = ([], 2) := hm.out
        replace hm' := Lib.hid hm'
        go_wp2_with fail
        refine bodyPost_ret (v := .tuple #[.agg #[.slice none 0 0], .int .i64 2]) (by simp [results, Try.results46, go_sem, r0, hlt2]) rfl ⟨none, 0, 0, by rw [hm'.out], by rw [hm'.out]; exact OutOwn.empty _ _, ?_⟩
        repeat (first | exact hB2 | refine Below.setCell ?_ (by simp <;> omega) _ | refine Below.alloc ?_ (by simp <;> omega) _)
      | true =>
        have hm' : scaleOf x y Ls = (scaled x y Ls, 0) := hm.out
        replace hm' := Lib.hid hm'
        go_wp2_with fail
        refine bodyPost_ret (v := .tuple #[.agg #[.slice A2 n c2], .int .i64 0]) (by simp [results, Try.results46, go_sem, r0, hlt2]) rfl ⟨A2, n, c2, by rw [hm'.out], by rw [hm'.out]; exact (OutOwn.kept (OutOwn.stored_below (a := ⟨w.heap.size + 1, 0, none⟩) ho2.out (by show w.heap.size + 1 < w1.heap.size; omega) _) ((Below.refl _ _).alloc (Nat.le_refl _) _)).base (by omega), ?_⟩
        repeat (first | exact hB2 | refine Below.setCell ?_ (by simp <;> omega) _ | refine Below.alloc ?_ (by simp <;> omega) _)
end Go.Proofs.Ytpjmpbdbfldnaaa
