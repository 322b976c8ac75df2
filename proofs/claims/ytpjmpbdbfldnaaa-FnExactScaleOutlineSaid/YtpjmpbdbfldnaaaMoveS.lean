/- spec.MoveOutline. Conditions: as it states. -/
import Derived.Test.YtpjmpbdbfldnaaaMoveI
namespace Go.Proofs.Ytpjmpbdbfldnaaa
open Go.RowKit
set_option linter.unusedVariables false
set_option maxRecDepth 100000

theorem OutTo.own {w : World} {lo n co : Nat} {Ao : Option Addr} {ys : List Value} {Ls : List (List Knot)} (h : OutTo w lo Ao n co ys Ls) (hl : Ls.length = n) : OutOwn w lo Ao n co Ls := by
  obtain ⟨h1, h2, h3⟩ := h
  exact ⟨ys, hl, h1, fun j K hj => h2 j K (by have := (List.getElem?_eq_some_iff.1 hj).1; omega) hj, h3⟩
theorem take_flat {K : List Knot} {q : Nat} {p : Knot} (h : K[q]? = some p) : (K.take (q + 1)).flatMap knotC = (K.take q).flatMap knotC ++ knotC p := by
  have hl := (List.getElem?_eq_some_iff.1 h).1
  rw [List.getElem?_eq_getElem hl] at h
  injection h with h
  rw [List.take_succ_eq_append_getElem hl, List.flatMap_append, h]; simp

set_option maxHeartbeats 4000000 in
theorem specMove_any (A : Option Addr) (n c lo hi : Nat) (Ls : List (List Knot)) (x y : Int) (w : World) (hr : OutRd w lo hi A n Ls) (hhi : hi ≤ w.heap.size) (hn : n ≤ 1048576) (hK : ∀ K ∈ Ls, K.length ≤ 1048576) :
    Calls Try.prog 29 #[.agg #[.slice A n c], .agg #[.int .i64 x, .int .i64 y]] w fun e w' => ∃ A' n' c', e = .returned (.tuple #[.agg #[.slice A' n' c'], .int .i64 (moveOf x y Ls).2]) ∧ OutOwn w' w.heap.size A' n' c' (moveOf x y Ls).1 ∧ Below w.heap.size w w' := by
  obtain ⟨v, hv⟩ : ∃ v, v = outOk Ls := ⟨_, rfl⟩
  have hval := Lib.hid (fun W (p : Nat) (hp : p < W.heap.size) (hc : W.cell? ⟨p, 0, none⟩ = some (.slice A n c)) (hS : SameB lo hi w W) (h : hi ≤ W.heap.size) => l10Ok_any p A n c lo hi Ls v hv W hp hc (hr.frame good_loop hS) h (by omega) (fun K h => by have := hK K h; omega))
  cases v with
  | false =>
    have hm : moveOf x y Ls = ([], 1) := by rw [moveOf, ← hv]; rfl
    rw [hm]
    clear hr hK hv hm
    go_enter Try.func29, Try.ntmps29
    go_wp2_with fail
    refine (hval.out _ w.heap.size (by simp; omega) (by go_simp) ((((SameB.refl lo hi w).alloc hhi _).alloc (by simp; omega) _).alloc (by simp; omega) _) (by simp; omega)).mono ?_
    rintro e w1 ⟨rfl, hb1⟩
    have hnew := heap_new0 w (.cells #[.slice A n c] 41 (0, 0)) (.cells #[.int .i64 x, .int .i64 y] 29 (0, 0)) (.cells #[.slice none 0 0] 41 (0, 0))
    have hR := (hb1.block _ (by simp <;> omega)).trans hnew.2.2
    have r0 : w1.cell? ⟨w.heap.size + 2, 0, none⟩ = some (.slice none 0 0) := by rw [Go.Joins.cell_of_block hR]; rfl
    have fr : ∀ o, w1.frozen? ⟨w.heap.size + 2, o, none⟩ = false := Go.Joins.unfrozen_of_block hR
    have hB1 : Below w.heap.size w w1 := ((((Below.refl _ _).alloc (Nat.le_refl _) _).alloc (by simp) _).alloc (by simp <;> omega) _).trans (hb1.mono (by simp <;> omega))
    clear hnew hR hb1 hval
    go_wp2_with fail
    refine bodyPost_ret (v := .tuple #[.agg #[.slice none 0 0], .int .i64 1]) (by simp [results, Try.results29, go_sem, r0]) rfl ⟨none, 0, 0, rfl, OutOwn.empty _ _, hB1.setCell (by simp; omega) _⟩
  | true =>
    obtain ⟨b, hb⟩ : ∃ b, b = ptOk x y := ⟨_, rfl⟩
    have hpt := Lib.hid (fun W => hb ▸ l03Ok_any x y W)
    cases b with
    | false =>
      have hm : moveOf x y Ls = ([], 1) := by rw [moveOf, ← hv, ← hb]; rfl
      rw [hm]
      clear hr hK hv hm hb
      go_enter Try.func29, Try.ntmps29
      go_wp2_with fail
      refine (hval.out _ w.heap.size (by simp; omega) (by go_simp) ((((SameB.refl lo hi w).alloc hhi _).alloc (by simp; omega) _).alloc (by simp; omega) _) (by simp; omega)).mono ?_
      rintro e w1 ⟨rfl, hb1⟩
      have hnew := heap_new0 w (.cells #[.slice A n c] 41 (0, 0)) (.cells #[.int .i64 x, .int .i64 y] 29 (0, 0)) (.cells #[.slice none 0 0] 41 (0, 0))
      have hR := (hb1.block _ (by simp <;> omega)).trans hnew.2.2
      have hP := (hb1.block _ (by simp <;> omega)).trans hnew.2.1
      have p0 : w1.cell? ⟨w.heap.size + 1, 0, none⟩ = some (.int .i64 x) := by rw [Go.Joins.cell_of_block hP]; rfl
      have p1 : w1.cell? ⟨w.heap.size + 1, 1, none⟩ = some (.int .i64 y) := by rw [Go.Joins.cell_of_block hP]; rfl
      have hB1 : Below w.heap.size w w1 := ((((Below.refl _ _).alloc (Nat.le_refl _) _).alloc (by simp) _).alloc (by simp <;> omega) _).trans (hb1.mono (by simp <;> omega))
      have hz1 := hb1.size
      simp at hz1
      clear hnew hb1 hval hP
      go_wp2_with fail
      refine (hpt.out _).mono ?_
      rintro e w2 ⟨rfl, hb2⟩
      have hR2 := (hb2.block (w.heap.size + 2) (by omega)).trans hR
      have r0 : w2.cell? ⟨w.heap.size + 2, 0, none⟩ = some (.slice none 0 0) := by rw [Go.Joins.cell_of_block hR2]; rfl
      have fr : ∀ o, w2.frozen? ⟨w.heap.size + 2, o, none⟩ = false := Go.Joins.unfrozen_of_block hR2
      have hB2 := hB1.trans (hb2.mono hB1.size)
      clear hR hR2 hb2
      go_wp2_with fail
      refine bodyPost_ret (v := .tuple #[.agg #[.slice none 0 0], .int .i64 1]) (by simp [results, Try.results29, go_sem, r0]) rfl ⟨none, 0, 0, rfl, OutOwn.empty _ _, hB2.setCell (by simp; omega) _⟩
    | true =>
      have hpk := ptOk_iff.1 hb.symm
      have hLs : ∀ (K : List Knot) (p : Knot), K ∈ Ls → p ∈ K → (-262144 ≤ p.1 ∧ p.1 ≤ 262144) ∧ (-262144 ≤ p.2.1 ∧ p.2.1 ≤ 262144) := fun K p h1 h2 => by
        have h := hv.symm
        simp only [outOk, Bool.and_eq_true, List.all_eq_true] at h
        have h3 := h.1 K h1
        simp only [loopOk, Bool.and_eq_true, List.all_eq_true] at h3
        exact ptOk_iff.1 (h3.2 p h2)
      replace hLs := Lib.hid hLs
      replace hr := Lib.hid hr
      replace hv := Lib.hid hv
      replace hb := Lib.hid hb
      replace hK := Lib.hid hK
      replace hpk := Lib.hid hpk
      go_enter Try.func29, Try.ntmps29
      go_wp2_with fail
      refine (hval.out _ w.heap.size (by simp; omega) (by go_simp) ((((SameB.refl lo hi w).alloc hhi _).alloc (by simp; omega) _).alloc (by simp; omega) _) (by simp; omega)).mono ?_
      rintro e w1 ⟨rfl, hb1⟩
      have hnew := heap_new0 w (.cells #[.slice A n c] 41 (0, 0)) (.cells #[.int .i64 x, .int .i64 y] 29 (0, 0)) (.cells #[.slice none 0 0] 41 (0, 0))
      have hO := (hb1.block _ (by simp <;> omega)).trans hnew.1
      have hR := (hb1.block _ (by simp <;> omega)).trans hnew.2.2
      have hP := (hb1.block _ (by simp <;> omega)).trans hnew.2.1
      have p0 : w1.cell? ⟨w.heap.size + 1, 0, none⟩ = some (.int .i64 x) := by rw [Go.Joins.cell_of_block hP]; rfl
      have p1 : w1.cell? ⟨w.heap.size + 1, 1, none⟩ = some (.int .i64 y) := by rw [Go.Joins.cell_of_block hP]; rfl
      have hB1 : Below w.heap.size w w1 := ((((Below.refl _ _).alloc (Nat.le_refl _) _).alloc (by simp) _).alloc (by simp <;> omega) _).trans (hb1.mono (by simp <;> omega))
      have hz1 := hb1.size
      simp at hz1
      clear hnew hb1
      go_wp2_with fail
      refine (hpt.out _).mono ?_
      rintro e w2 ⟨rfl, hb2⟩
      have hz2 := hb2.size
      have hO2 := (hb2.block w.heap.size (by omega)).trans hO
      have hP2 := (hb2.block (w.heap.size + 1) (by omega)).trans hP
      have hR2 := (hb2.block (w.heap.size + 2) (by omega)).trans hR
      have o0 : w2.cell? ⟨w.heap.size, 0, none⟩ = some (.slice A n c) := by rw [Go.Joins.cell_of_block hO2]; rfl
      have q0 : w2.cell? ⟨w.heap.size + 1, 0, none⟩ = some (.int .i64 x) := by rw [Go.Joins.cell_of_block hP2]; rfl
      have q1 : w2.cell? ⟨w.heap.size + 1, 1, none⟩ = some (.int .i64 y) := by rw [Go.Joins.cell_of_block hP2]; rfl
      have hB2 := hB1.trans (hb2.mono hB1.size)
      clear hO hR hP hb2 p0 p1
      go_wp2_with fail
      go_loopw [7] (fun i wr => ∃ (k : Nat) (Ao : Option Addr) (co : Nat) (ys : List Value), i = .int .i64 k ∧ k ≤ n ∧ OutTo wr (w2.heap.size + 1) Ao k co ys (moved x y Ls) ∧ wr.cell? ⟨w2.heap.size, 0, none⟩ = some (.slice Ao k co) ∧ (∀ o, wr.frozen? ⟨w2.heap.size, o, none⟩ = false) ∧ w2.heap.size + 1 ≤ wr.heap.size ∧ Below w2.heap.size w2 wr) (fun i wr => n - (intOf i).toNat)
      case atStart => exact ⟨0, none, 0, [], rfl, Nat.zero_le _, ⟨World.ownsRow_nil _ _ _ _, fun j K hj => absurd hj (Nat.not_lt_zero j), fun i j u v _ hu => by simp at hu⟩, by go_simp, fun o => by go_simp, by simp, (Below.refl _ _).alloc (Nat.le_refl _) _⟩
      case round =>
        obtain ⟨k, Ao, co, ys, rfl, hk, hto, oc, of, hz, hbel⟩ := hrel
        have o0r : wr.cell? ⟨w.heap.size, 0, none⟩ = some (.slice A n c) := (hbel.cell (by simp; omega)).trans o0
        have q0r : wr.cell? ⟨w.heap.size + 1, 0, none⟩ = some (.int .i64 x) := (hbel.cell (by simp; omega)).trans q0
        have q1r : wr.cell? ⟨w.heap.size + 1, 1, none⟩ = some (.int .i64 y) := (hbel.cell (by simp; omega)).trans q1
        have hBr := hB2.trans (hbel.mono hB2.size)
        replace hto := Lib.hid hto
        by_cases hlt : k < n
        · obtain ⟨b1, off1, K, A2, n2, c2, rfl, hb10, hb1h, hja, qk, hmx, hrk⟩ := out_at (hr.out.frame good_loop (Below.sameB hBr hhi)) hlt
          have hn2 := hrk.1
          subst hn2
          have hb1w : b1 < wr.heap.size := by omega
          have hKl := hK.out K (List.mem_of_getElem? hja)
          have hbd := Lib.hid (fun p hp => hLs.out K p (List.mem_of_getElem? hja) hp)
          have hna := rdS_none hrk
          replace hja := Lib.hid hja
          replace hrk := Lib.hid hrk
          replace hbel := Lib.hid hbel
          have hkl : hi ≤ wr.heap.size := by omega
          clear hmx hb10 hb1h hna o0 q0 q1
          obtain ⟨wk, hwk⟩ : ∃ v, v = wr := ⟨_, rfl⟩
          subst hwk
          go_wp2_with fail
          go_loopw [9] (fun i wi => ∃ (q : Nat) (Al : Option Addr) (cl : Nat), i = .int .i64 q ∧ q ≤ K.length ∧ wi.ownsRow (wk.heap.size + 1) 119 3 (.slice Al q cl) q (((K.map (mapK fun p => (p.1 + x, p.2 + y))).take q).flatMap knotC) ∧ wi.cell? ⟨wk.heap.size, 0, none⟩ = some (.slice Al q cl) ∧ (∀ o, wi.frozen? ⟨wk.heap.size, o, none⟩ = false) ∧ wk.heap.size + 1 ≤ wi.heap.size ∧ Below wk.heap.size wk wi) (fun i wi => K.length - (intOf i).toNat)
          case atStart => exact ⟨0, none, 0, rfl, Nat.zero_le _, World.ownsRow_nil _ _ _ _, by go_simp, fun o => by go_simp, by simp, (Below.refl _ _).alloc (Nat.le_refl _) _⟩
          case round =>
            obtain ⟨q, Al, cl, rfl, hq, ho, c8, f8, hz8, hbi⟩ := hrel
            have o0i : wr.cell? ⟨w.heap.size, 0, none⟩ = some (.slice (some ⟨b1, off1, none⟩) n c) := (hbi.cell (by simp; omega)).trans o0r
            have q0i : wr.cell? ⟨w.heap.size + 1, 0, none⟩ = some (.int .i64 x) := (hbi.cell (by simp; omega)).trans q0r
            have q1i : wr.cell? ⟨w.heap.size + 1, 1, none⟩ = some (.int .i64 y) := (hbi.cell (by simp; omega)).trans q1r
            have qki : wr.cell? ⟨b1, off1 + k, none⟩ = some (.slice A2 K.length c2) := (hbi.cell (by simp; omega)).trans qk
            have hb1i : b1 < wr.heap.size := by omega
            have hX0 : w.heap.size < wr.heap.size := by omega
            have hX1 : w.heap.size + 1 < wr.heap.size := by omega
            have hX8 : wk.heap.size < wr.heap.size := by omega
            by_cases hql : q < K.length
            · obtain ⟨b2, off2, p, rfl, hb20, hb2h, hp, hcs⟩ := (hrk.out.frame (good_flat _) (Below.sameB hbi hkl)).at hql
              have p0 := hcs 0 _ rfl
              have p1 := hcs 1 _ rfl
              have p2 := hcs 2 _ rfl
              simp only [Nat.add_zero] at p0 p1 p2
              have hb2w : b2 < wr.heap.size := by omega
              have hbp := hbd.out p (List.mem_of_getElem? hp)
              have hxk := hpk.out
              have hcall := Lib.hid (fun W => l09Sum_any p.1 p.2.1 x y W (by omega) (by omega) (by omega) (by omega))
              have hlt8 := ho.lt
              clear hcs hb20 hb2h hbp hxk
              replace hp := Lib.hid hp
              replace ho := Lib.hid ho
              replace hbi := Lib.hid hbi
              replace hlt8 := Lib.hid hlt8
              go_wp2_with fail
              refine (hcall.out _).mono ?_
              rintro e w3 ⟨rfl, hb3⟩
              have hz3 := hb3.size
              simp at hz3
              have d0 : w3.cell? ⟨wr.heap.size, 0, none⟩ = some (.int .i64 p.1) := (hb3.cell (by simp)).trans (by go_simp)
              have d1 : w3.cell? ⟨wr.heap.size, 1, none⟩ = some (.int .i64 p.2.1) := (hb3.cell (by simp)).trans (by go_simp)
              have d2 : w3.cell? ⟨wr.heap.size, 2, none⟩ = some (.bool p.2.2) := (hb3.cell (by simp)).trans (by go_simp)
              have df : ∀ o, w3.frozen? ⟨wr.heap.size, o, none⟩ = false := fun o => (hb3.frozen (by simp)).trans (by go_simp)
              have c8' : w3.cell? ⟨wk.heap.size, 0, none⟩ = some (.slice Al q cl) := (hb3.cell (by simp; omega)).trans (by go_simp)
              have f8' : ∀ o, w3.frozen? ⟨wk.heap.size, o, none⟩ = false := fun o => (hb3.frozen (by simp; omega)).trans (by have := f8 o; go_simp)
              have ho3 := Lib.hid (own_below (ho.out.alloc (.cells #[.int .i64 p.1, .int .i64 p.2.1, .bool p.2.2] 119 (0, 0))) hb3)
              have hne : wk.heap.size ≠ wr.heap.size := by omega
              have hne' : wr.heap.size ≠ wk.heap.size := by omega
              have hno : Hid ((Value.slice Al q cl).ownBlock ≠ some wr.heap.size) := fun e => by have := (hlt8.out _ e).2; omega
              go_wp2_with (at_builtin; refine wpAppAt rfl (.tmp 54) (.tmp 56) elemKnot rfl (v := .slice Al q cl) (n := q) (xs := ((K.map (mapK fun p => (p.1 + x, p.2 + y))).take q).flatMap knotC) rfl ((ownsRow_setCell_other (ownsRow_setCell_other ho3.out hno.out _) hno.out _).alloc _) rfl (src_at (cs := [.int .i64 (p.1 + x), .int .i64 (p.2.1 + y), .bool p.2.2]) rfl (by simp [Value.oneCell']) (by simp)) (by omega) (by omega) (by simp; omega) (q + 1) rfl ?_; intro A4 c4 w4 ho4 hg4 _; have hk4 : w4.heap[wk.heap.size]? = w3.heap[wk.heap.size]? := (hg4.block _ (by simp; omega) (fun e => by have := (hlt8.out _ e.symm).1; omega)).trans ((Below.heap_alloc _ _ _ (by simp; omega)).trans ((Below.heap_setCell _ _ _ _ (by simp; omega)).trans (Below.heap_setCell _ _ _ _ (by simp; omega)))); have c84 : w4.cell? ⟨wk.heap.size, 0, none⟩ = some (.slice Al q cl) := (World.cell?_of_block hk4).trans c8'; have f84 : ∀ o, w4.frozen? ⟨wk.heap.size, o, none⟩ = false := (fun o => (World.frozen?_of_block hk4).trans (f8' o)); clear hk4; replace ho4 := Lib.hid ho4; replace hg4 := Lib.hid hg4)
              go_roundw
              case rel =>
                have hg := hg4.out
                have hgs := hg.size
                simp at hgs
                have hB3 : Below wk.heap.size wk w3 := (hbi.out.alloc (by omega) _).trans (hb3.mono (by simp; omega))
                have hfl := take_flat (map_at (f := mapK fun p => (p.1 + x, p.2 + y)) hp.out)
                refine ⟨q + 1, A4, c4, by go_num, by omega, ?_, by go_simp, fun o => by have := f84 o; go_simp, by simp; omega, ?_⟩
                · rw [hfl]; exact ownsRow_setCell_below ho4.out (by simp) _
                · exact ((((hB3.setCell (by simp; omega) _).setCell (by simp; omega) _).alloc (by simp; omega) _).grown hg (by simp; omega) (fun g hgk => by have := (hlt8.out _ hgk).1; omega)).setCell (by simp) _
              case measure => simp [intOf]; omega
            · have hqK : q = K.length := by omega
              subst hqK
              have hoci : wr.cell? ⟨w2.heap.size, 0, none⟩ = some (.slice Ao k co) := (hbi.cell (by simp; omega)).trans oc
              have hofi : ∀ o, wr.frozen? ⟨w2.heap.size, o, none⟩ = false := fun o => (hbi.frozen (by simp; omega)).trans (of o)
              have hXH : w2.heap.size < wr.heap.size := by omega
              have hlt6 := Lib.hid hto.out.1.lt
              rw [List.take_of_length_le (by simp)] at ho
              replace ho := Lib.hid ho
              replace hbi := Lib.hid hbi
              go_wp2_with (at_builtin; refine wpAppAt rfl (.tmp 60) (.tmp 62) elemLoop rfl (v := .slice Ao k co) (n := k) (xs := ys) rfl ((own_below hto.out.1 hbi.out).alloc _) rfl (src_at (cs := [.slice Al K.length cl]) rfl (by simp [Value.oneCell']) (by simp)) (by omega) (by omega) (by simp; omega) (k + 1) rfl ?_; intro A5 c5 w5 ho5 hg5 _; have hk5 : w5.heap[w2.heap.size]? = wr.heap[w2.heap.size]? := (hg5.block _ (by simp; omega) (fun e => by have := (hlt6.out _ e.symm).1; omega)).trans (Below.heap_alloc _ _ _ (by omega)); have c85 : w5.cell? ⟨w2.heap.size, 0, none⟩ = some (.slice Ao k co) := (World.cell?_of_block hk5).trans hoci; have f85 : ∀ o, w5.frozen? ⟨w2.heap.size, o, none⟩ = false := (fun o => (World.frozen?_of_block hk5).trans (hofi o)); clear hk5; replace ho5 := Lib.hid ho5; replace hg5 := Lib.hid hg5)
              go_roundw
              case rel =>
                have hg := hg5.out
                have hgs := hg.size
                simp at hgs
                have hml : (K.map (mapK fun p => (p.1 + x, p.2 + y))).length = K.length := List.length_map _
                have hmj : (moved x y Ls)[k]? = some (K.map (mapK fun p => (p.1 + x, p.2 + y))) := map_at hja.out
                have hnx := OutTo.next (w1 := wr.alloc (.cells #[.slice Al K.length cl] 117 (0, 0))) (B := wk.heap.size + 1) (A2 := Al) (c2 := cl) (A3 := A5) (cc := c5) hto.out hmj (hbi.out.alloc (by omega) _) (by rw [hml]; exact ho.out.alloc _) (by omega) hz (by rw [hml]; exact ho5.out) hg
                refine ⟨k + 1, A5, c5, _, by go_num, by omega, hnx.set (by simp) _, by go_simp, fun o => by have := f85 o; go_simp, by simp; omega, ?_⟩
                exact (((hbel.out.trans (hbi.out.mono hbel.out.size)).alloc (by omega) _).grown hg (by simp; omega) (fun g hgk => by have := (hlt6.out _ hgk).1; omega)).setCell (by simp) _
              case measure => simp [intOf]; omega
        · have hkn : k = n := by omega
          subst hkn
          have how : OutOwn wr (w2.heap.size + 1) Ao k co (moved x y Ls) := hto.out.own (by unfold moved; rw [List.length_map]; exact hr.out.1)
          have hmK : ∀ K ∈ moved x y Ls, K.length ≤ 1048576 := fun K h => by
            obtain ⟨K0, h0, rfl⟩ := List.mem_map.1 h
            rw [List.length_map]
            exact hK.out K0 h0
          obtain ⟨v3, hv3⟩ : ∃ v3, v3 = outOk (moved x y Ls) := ⟨_, rfl⟩
          have hval3 := Lib.hid (l10Ok_any w2.heap.size Ao k co (w2.heap.size + 1) wr.heap.size (moved x y Ls) v3 hv3 wr (by omega) oc (how.rd (fun K h => by have := hmK K h; unfold maxLen; omega)) (Nat.le_refl _) (by omega) (fun K h => by have := hmK K h; omega))
          replace how := Lib.hid how
          have hR3 := Lib.hid ((hbel.block (w.heap.size + 2) (by omega)).trans hR2)
          clear hmK hP2 hR2 o0 q0 q1
          go_wp2_with fail
          refine hval3.out.mono ?_
          rintro e w4 ⟨rfl, hb4⟩
          have hz4 := hb4.size
          have hR4 := (hb4.block (w.heap.size + 2) (by omega)).trans hR3.out
          have r0 : w4.cell? ⟨w.heap.size + 2, 0, none⟩ = some (.slice none 0 0) := by rw [Go.Joins.cell_of_block hR4]; rfl
          have fr : ∀ o, w4.frozen? ⟨w.heap.size + 2, o, none⟩ = false := Go.Joins.unfrozen_of_block hR4
          have hB4 := hBr.trans (hb4.mono hBr.size)
          have oc4 : w4.cell? ⟨w2.heap.size, 0, none⟩ = some (.slice Ao k co) := (hb4.cell (by simp; omega)).trans oc
          have ho4 := Lib.hid (how.out.kept hb4)
          replace hv3 := Lib.hid hv3
          clear hb4 hR4 hval3 hR3
          cases v3 with
          | false =>
            have hm : moveOf x y Ls = ([], 2) := by rw [moveOf, ← hv.out, ← hb.out, ← hv3.out]; rfl
            replace hm := Lib.hid hm
            go_wp2_with fail
            refine bodyPost_ret (v := .tuple #[.agg #[.slice none 0 0], .int .i64 2]) (by simp [results, Try.results29, go_sem, r0]) rfl ⟨none, 0, 0, by rw [hm.out], by rw [hm.out]; exact OutOwn.empty _ _, hB4.setCell (by simp; omega) _⟩
          | true =>
            have hm : moveOf x y Ls = (moved x y Ls, 0) := by rw [moveOf, ← hv.out, ← hb.out, ← hv3.out]; rfl
            replace hm := Lib.hid hm
            go_wp2_with fail
            refine bodyPost_ret (v := .tuple #[.agg #[.slice Ao k co], .int .i64 0]) (by simp [results, Try.results29, go_sem, r0]) rfl ⟨Ao, k, co, by rw [hm.out], by rw [hm.out]; exact (OutOwn.stored_below (a := ⟨w.heap.size + 1 + 1, 0, none⟩) ho4.out (by show w.heap.size + 1 + 1 < w2.heap.size + 1; omega) _).base (by omega), hB4.setCell (by simp; omega) _⟩
end Go.Proofs.Ytpjmpbdbfldnaaa
