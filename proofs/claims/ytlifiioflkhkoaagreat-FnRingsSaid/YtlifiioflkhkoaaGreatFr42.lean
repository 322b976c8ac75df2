/- The union of a region with nothing: the program's side. Printed by mk_cm1.py. Conditions: as each states. -/
import Derived.Test.YtlifiioflkhkoaaGreatFr41
import Derived.Test.YtlifiioflkhkoaaGreatFr25
namespace Go.Proofs.YtlifiioflkhkoaaGreat
open Go.RowKit
set_option linter.unusedVariables false
set_option maxRecDepth 100000
set_option linter.unusedSimpArgs false

def VReg (B : Nat) (Rs : List (List Pnt)) (v : Value) (w : World) : Prop := ∃ A c, v = .agg #[.slice A Rs.length c] ∧ RegOwn w B A Rs.length c Rs
theorem VReg.stays (B : Nat) (Rs : List (List Pnt)) : Stays (VReg B Rs) := fun v w w' ⟨A, c, h1, h2⟩ hb => ⟨A, c, h1, h2.kept hb⟩
def VLeg (B : Nat) (E : List Leg) (v : Value) (w : World) : Prop := ∃ A c, v = .slice A E.length c ∧ w.ownsRow B 78 4 (.slice A E.length c) E.length (E.flatMap edgeC)
theorem VLeg.stays (B : Nat) (E : List Leg) : Stays (VLeg B E) := fun v w w' ⟨A, c, h1, h2⟩ hb => ⟨A, c, h1, own_below h2 hb⟩
def VTwo (E : List Leg) (v : Value) (w : World) : Prop := ∃ g Ax cx Ay cy B, v = .slice (some ⟨g, 0, none⟩) 2 2 ∧ w.heap[g]? = some (.cells #[.slice Ax E.length cx, .slice Ay 0 cy] 56 (0, 0)) ∧ w.ownsRow B 78 4 (.slice Ax E.length cx) E.length (E.flatMap edgeC) ∧ w.ownsRow B 78 4 (.slice Ay 0 cy) 0 []
theorem VTwo.stays (E : List Leg) : Stays (VTwo E) := fun v w w' ⟨g, Ax, cx, Ay, cy, B, h1, h2, h3, h4⟩ hb => ⟨g, Ax, cx, Ay, cy, B, h1, (hb.block g (Array.getElem?_eq_some_iff.1 h2).1).trans h2, own_below h3 hb, own_below h4 hb⟩
def VTr (E : List Leg) (n : Nat) (v : Value) (w : World) : Prop := ∃ T A c B, AllTo E 0 (List.replicate E.length false) [] T ∧ v = .agg #[.slice A T.length c] ∧ RegOwn w B A T.length c T ∧ T.length ≤ n ∧ ROk n T
theorem VTr.stays (E : List Leg) (n : Nat) : Stays (VTr E n) := fun v w w' ⟨T, A, c, B, h0, h1, h2, h3⟩ hb => ⟨T, A, c, B, h0, h1, h2.kept hb, h3⟩
def VOr (B : Nat) (E : List Leg) (v : Value) (w : World) : Prop := ∃ T A n c lo hi, AllTo E 0 (List.replicate E.length false) [] T ∧ v = .agg #[.slice A n c] ∧ RegRd w lo hi A n (orderR T) ∧ hi ≤ w.heap.size ∧ T.length ≤ 1000 ∧ (∀ K ∈ orderR T, 1 ≤ K.length ∧ K.length ≤ 1000) ∧ B ≤ lo
theorem VOr.stays (B : Nat) (E : List Leg) : Stays (VOr B E) := fun v w w' ⟨T, A, n, c, lo, hi, h0, h1, h2, h3, h4⟩ hb => ⟨T, A, n, c, lo, hi, h0, h1, h2.frame good_ring (Below.sameB hb h3), Nat.le_trans h3 hb.size, h4⟩

theorem own_none {w : World} {B : Nat} {e : TypeId} {size n c : Nat} {A : Option Addr} {xs : List Value} (h : w.ownsRow B e size (.slice A n c) n xs) : (A = none → c = 0) ∧ n ≤ c := by
  rcases h.2 with ⟨h1, h2⟩ | ⟨g, cap, cur, h1, h2, h3, h4, _⟩
  · injection h1 with h1 h3 h4
    exact ⟨fun _ => h4, by omega⟩
  · injection h1 with h1 h5 h6
    exact ⟨(fun h => by rw [h] at h1; cases h1), by omega⟩
theorem reg_keep {w : World} {lo hi n Q : Nat} {A : Option Addr} {Ls : List (List Pnt)} {t : TypeId} (h : RegRd w lo hi A n Ls) (hne : ∀ K ∈ Ls, 1 ≤ K.length) (hQ : w.heap[Q]? = some (.cells #[.slice none 0 0] t (0, 0))) (v : Value) : RegRd (w.setCell ⟨Q, 0, none⟩ v) lo hi A n Ls := by
  have hc : ∀ o u, w.cell? ⟨Q, o, none⟩ = some u → u = .slice none 0 0 := by
    intro o u hu
    rw [Go.Joins.cell_of_block hQ] at hu
    rcases o with _ | o
    · simpa using hu.symm
    · simp at hu
  have hoff : ∀ b o u, w.cell? ⟨b, o, none⟩ = some u → u ≠ .slice none 0 0 → (w.setCell ⟨Q, 0, none⟩ v).cell? ⟨b, o, none⟩ = some u := by
    intro b o u hu hn
    have hb : b ≠ Q := fun e => by subst e; exact hn (hc o u hu)
    exact (World.cell?_of_block (Below.heap_setCell _ _ _ _ hb)).trans hu
  refine ⟨h.1, fun h0 => ?_⟩
  obtain ⟨b, off, hA, h1, h2, h3⟩ := h.2 h0
  refine ⟨b, off, hA, h1, h2, fun j K hj => ?_⟩
  obtain ⟨es, e1, e2, A', n', c', e3, e4, e5⟩ := h3 j K hj
  have hK := hne K (List.mem_of_getElem? hj)
  have hn' := e5.1
  subst e3
  refine ⟨_, e1, fun i u hu => hoff _ _ _ (e2 i u hu) ?_, A', n', c', rfl, e4, e5.1, fun h0' => ?_⟩
  · intro hu2
    rcases i with _ | i
    · injection hu with hu
      rw [hu2] at hu
      injection hu with _ hu _
      omega
    · simp at hu
  · obtain ⟨b2, off2, hA2, g1, g2, g3⟩ := e5.2 h0'
    refine ⟨b2, off2, hA2, g1, g2, fun j p hp => ?_⟩
    obtain ⟨fs, f1, f2, f3⟩ := g3 j p hp
    refine ⟨fs, f1, fun i u hu => hoff _ _ _ (f2 i u hu) ?_, f3⟩
    intro hu2
    have f3' : fs = ptC p := f3
    rw [f3'] at hu
    unfold ptC at hu
    rcases i with _ | _ | i
    · injection hu with hu; rw [hu2] at hu; cases hu
    · injection hu with hu; rw [hu2] at hu; cases hu
    · simp at hu
theorem next_nil (hot : List Pnt) : nextR hot [] = [] := rfl
theorem order_bd {T : List (List Pnt)} {m : Nat} (h : ∀ K ∈ T, 1 ≤ K.length ∧ K.length ≤ m) : ∀ K ∈ orderR T, 1 ≤ K.length ∧ K.length ≤ m := by
  intro K hK
  unfold orderR at hK
  obtain ⟨L, hL, rfl⟩ := List.mem_map.1 ((List.mergeSort_perm _ _).mem_iff.1 hK)
  rw [(turnL_perm L).length_eq]
  exact h L hL
theorem order_len {T : List (List Pnt)} : (orderR T).length = T.length := by
  unfold orderR; simp
set_option maxHeartbeats 32000000 in
theorem unionNil_any (A : Option Addr) (n c lo hi : Nat) (Rs : List (List Pnt)) (w : World) (hr : RegRd w lo hi A n Rs) (hhi : hi ≤ w.heap.size) (hv : regOk Rs = true) (he : edgeN Rs ≤ 30) :
    Calls Tryz.prog 65 #[.agg #[.slice A n c], .agg #[.slice none 0 0], .int .i64 1] w fun e w' => ∃ X, RovTo Rs X ∧ Below w.heap.size w w' ∧ (X = none → e = .returned (.tuple #[.agg #[.slice none 0 0], .int .i64 5])) ∧ ∀ S, X = some S → ∃ (A' : Option Addr) (n' c' lo' hi' : Nat), e = .returned (.tuple #[.agg #[.slice A' n' c'], .int .i64 0]) ∧ RegRd w' lo' hi' A' n' S ∧ hi' ≤ w'.heap.size ∧ w.heap.size ≤ lo' := by
  obtain ⟨v1, v2, v3⟩ := regOk_is hv
  have hn : n ≤ 40 := by rw [← hr.1]; exact v1
  have hRlen : Hid (∀ K ∈ Rs, K.length ≤ 1000) := Lib.hid fun K hK => by have := (path_len (v2 K hK)).2; omega
  have hb0 : Below w.heap.size w (((w.alloc (.cells #[.slice A n c] 26 (0, 0))).alloc (.cells #[.slice none 0 0] 26 (0, 0))).alloc (.cells #[.slice none 0 0] 26 (0, 0))) := (Go.Joins.below_alloc2 w _ _).alloc (by simp; omega) _
  have hnew := heap_new0 w (.cells #[.slice A n c] 26 (0, 0)) (.cells #[.slice none 0 0] 26 (0, 0)) (.cells #[.slice none 0 0] 26 (0, 0))
  have hz0 : (((w.alloc (.cells #[.slice A n c] 26 (0, 0))).alloc (.cells #[.slice none 0 0] 26 (0, 0))).alloc (.cells #[.slice none 0 0] 26 (0, 0))).heap.size = w.heap.size + 3 := by simp
  have hr0 := Lib.hid (hr.frame good_ring (Below.sameB hb0 hhi))
  have hsn := Lib.hid (drop_snug hv)
  have hDp := Lib.hid (drop_pts hv)
  have hDe := drop_edgeN Rs
  have hDlen : Hid (∀ L ∈ dropR Rs, 1 ≤ L.length ∧ L.length ≤ 400) := Lib.hid fun L hL => (hsn.out.2.2 L hL).1
  have hD40 : (dropR Rs).length ≤ 40 := hsn.out.1
  have hEl : (allE (dropR Rs) (dropR Rs).length).length ≤ 30 := by rw [allE_len]; omega
  clear hr v1 v2 v3 hDe
  replace hv := Lib.hid hv
  go_enter Tryz.func65, Tryz.ntmps65
  go_upto_region 1 with fail
  generalize ((w.alloc (.cells #[.slice A n c] 26 (0, 0))).alloc (.cells #[.slice none 0 0] 26 (0, 0))).alloc (.cells #[.slice none 0 0] 26 (0, 0)) = v0 at *
  obtain ⟨Y, hY⟩ : ∃ Y, Y = w.heap.size := ⟨_, rfl⟩
  rw [← hY] at hnew hz0 hhi ⊢
  obtain ⟨hY0, hZ0, hW0⟩ := hnew
  have hv0 : Y + 3 ≤ v0.heap.size ∧ v0.heap.size ≤ Y + 3 := by omega
  have hYH := Lib.hid hY
  have hB0 := Lib.hid hb0
  have y0 : v0.cell? ⟨Y, 0, none⟩ = some (.slice A n c) := by rw [Go.Joins.cell_of_block hY0]; rfl
  have hyl : Y < v0.heap.size := by omega
  have hva := Lib.hid (validRegion_any A n c lo hi Rs true hv.out.symm v0 hr0.out (by omega) (by omega) (fun L hL => Nat.le_trans (hRlen.out L hL) (by omega)))
  have hvb := Lib.hid (fun W => validRegion_any none 0 0 0 0 [] true rfl W (RdS.nil _ _ _ _ _ _) (Nat.zero_le _) (by omega) (fun L hL => by cases hL))
  replace hY0 := Lib.hid hY0
  replace hZ0 := Lib.hid hZ0
  replace hW0 := Lib.hid hW0
  clear hb0 hY hz0
  go_wp2_with (first | (go_at_call 17; refine hva.out.mono ?_; rintro e w1 ⟨rfl, hb1⟩; have hb1H := Lib.hid hb1; have z1 : w1.cell? ⟨Y + 1, 0, none⟩ = some (.slice none 0 0) := (by rw [Go.Joins.cell_of_block ((hb1.block (Y + 1) (by omega)).trans hZ0.out)]; rfl); have zl1 : Y + 1 < w1.heap.size := (by have := hb1.size; omega); clear y0 hb1; replace hva := hb1H) | (go_at_call 17; refine (hvb.out _).mono ?_; rintro e V5 ⟨rfl, hb2⟩; have hb2H := Lib.hid (hb1H.out.trans (hb2.mono hb1H.out.size)); clear z1 zl1 hb2))
  have hs5 := hb2H.out.size
  have hY := Lib.hid ((hb2H.out.block Y (by omega)).trans hY0.out)
  have hZ := Lib.hid ((hb2H.out.block (Y + 1) (by omega)).trans hZ0.out)
  have hW := Lib.hid ((hb2H.out.block (Y + 2) (by omega)).trans hW0.out)
  have hYl : Y < V5.heap.size := by omega
  have hZl : Y + 1 < V5.heap.size := by omega
  have hWl : Y + 2 < V5.heap.size := by omega
  have hrV := Lib.hid (hr0.out.frame good_ring (Below.sameB hb2H.out (by omega)))
  have hhiV : hi ≤ V5.heap.size := by omega
  have hB5 := Lib.hid (hB0.out.trans (hb2H.out.mono (by have := hYH.out; omega)))
  clear hb2H hb1H hva hvb hr0 hY0 hZ0 hW0 hB0
  go_cut [] (fun wx => ∃ (A1 : Option Addr) (c1 : Nat) (A3 : Option Addr) (c3 : Nat), wx.heap[Y]? = some (.cells #[.slice A1 (dropR Rs).length c1] 26 (0, 0)) ∧ wx.heap[Y + 1]? = some (.cells #[.slice A3 0 c3] 26 (0, 0)) ∧ wx.heap[Y + 2]? = some (.cells #[.slice none 0 0] 26 (0, 0)) ∧ RegOwn wx (Y + 3) A1 (dropR Rs).length c1 (dropR Rs) ∧ RegOwn wx (Y + 3) A3 0 c3 [] ∧ Below Y V5 wx)
  case first =>
    refine wp_region_stays 4 (fun j => match j with | 0 => VEq (.agg #[.slice A n c]) | 1 => VReg V5.heap.size (dropR Rs) | 2 => VEq (.agg #[.slice none 0 0]) | 3 => VReg V5.heap.size (dropR []) | _ => VEq (.bool false)) (by kernel_rfl) (by kernel_rfl) ?_ ?_ ?_
    · intro j hj
      rcases (show j = 0 ∨ j = 1 ∨ j = 2 ∨ j = 3 by omega) with rfl | rfl | rfl | rfl <;> first | exact VEq.stays _ | exact VReg.stays _ _ | exact VLeg.stays _ _ | exact VTwo.stays _ | exact VTr.stays _ _ | exact VOr.stays _ _ | exact VBx.stays _ _
    · intro i hi
      rcases (show i = 0 ∨ i = 1 ∨ i = 2 ∨ i = 3 by omega) with rfl | rfl | rfl | rfl
      · intro o ho f wS K hB hd hK
        simp only [List.getElem?_cons_zero, List.getElem?_cons_succ, Option.some.injEq] at ho
        subst ho
        have hB' : Below V5.heap.size V5 wS := belowDr hB
        simp only [putsL, dstL, List.getElem?_cons_zero, List.getElem?_cons_succ, Option.bind, Act.put, List.setIfInBounds_toArray, List.set_cons_zero, List.set_cons_succ] at hK ⊢
        have d0 : wS.cell? ⟨Y, 0, none⟩ = some (.slice A n c) := (by rw [Go.Joins.cell_of_block ((hB'.block _ hYl).trans hY.out)]; rfl)
        have dl : Y < wS.heap.size := Nat.lt_of_lt_of_le hYl hB'.size
        go_simp
        exact hK _ _ rfl (Below.refl _ _)
      · intro o ho f wS K hB hd hK
        simp only [List.getElem?_cons_zero, List.getElem?_cons_succ, Option.some.injEq] at ho
        subst ho
        have hB' : Below V5.heap.size V5 wS := belowDr hB
        simp only [putsL, dstL, List.getElem?_cons_zero, List.getElem?_cons_succ, Option.bind, Act.put, List.setIfInBounds_toArray, List.set_cons_zero, List.set_cons_succ] at hK ⊢
        have e0 : f 0 = .agg #[.slice A n c] := hd 0 (by rfl)
        simp only [e0] at hK ⊢
        go_simp
        go_at_call 77
        refine (dropRepeats_any A n c _ _ Rs wS (hrV.out.frame good_ring (Below.sameB hB' hhiV)) (by have := hB'.size; omega) (by omega) hRlen.out).mono ?_
        rintro e w9 ⟨A', c', rfl, ho, hb9⟩
        exact hK _ _ ⟨A', c', rfl, ho.base hB'.size⟩ hb9
      · intro o ho f wS K hB hd hK
        simp only [List.getElem?_cons_zero, List.getElem?_cons_succ, Option.some.injEq] at ho
        subst ho
        have hB' : Below V5.heap.size V5 wS := belowDr hB
        simp only [putsL, dstL, List.getElem?_cons_zero, List.getElem?_cons_succ, Option.bind, Act.put, List.setIfInBounds_toArray, List.set_cons_zero, List.set_cons_succ] at hK ⊢
        have d0 : wS.cell? ⟨(Y + 1), 0, none⟩ = some (.slice none 0 0) := (by rw [Go.Joins.cell_of_block ((hB'.block _ hZl).trans hZ.out)]; rfl)
        have dl : (Y + 1) < wS.heap.size := Nat.lt_of_lt_of_le hZl hB'.size
        go_simp
        exact hK _ _ rfl (Below.refl _ _)
      · intro o ho f wS K hB hd hK
        simp only [List.getElem?_cons_zero, List.getElem?_cons_succ, Option.some.injEq] at ho
        subst ho
        have hB' : Below V5.heap.size V5 wS := belowDr hB
        simp only [putsL, dstL, List.getElem?_cons_zero, List.getElem?_cons_succ, Option.bind, Act.put, List.setIfInBounds_toArray, List.set_cons_zero, List.set_cons_succ] at hK ⊢
        have e2 : f 2 = .agg #[.slice none 0 0] := hd 2 (by rfl)
        simp only [e2] at hK ⊢
        go_simp
        go_at_call 77
        refine (dropRepeats_any none 0 0 _ _ [] wS (RdS.nil 1 ringR wS 0 0 none) (Nat.zero_le _) (by omega) (fun K hK => by cases hK)).mono ?_
        rintro e w9 ⟨A', c', rfl, ho, hb9⟩
        exact hK _ _ ⟨A', c', rfl, ho.base hB'.size⟩ hb9
    · intro f w9 hb9' hv
      have hb9 : Below V5.heap.size V5 w9 := hb9'
      simp only [putsL, dstL, List.getElem?_cons_zero, List.getElem?_cons_succ, Option.bind, Act.put, List.setIfInBounds_toArray, List.set_cons_zero, List.set_cons_succ, List.drop_succ_cons, List.drop_zero]
      obtain ⟨A1, c1, e1, ho1⟩ : VReg V5.heap.size (dropR Rs) (f 1) w9 := hv 1 (by omega)
      obtain ⟨A3, c3, e3, ho3⟩ : VReg V5.heap.size (dropR []) (f 3) w9 := hv 3 (by omega)
      have e0 : f 0 = .agg #[.slice A n c] := hv 0 (by omega)
      have e2 : f 2 = .agg #[.slice none 0 0] := hv 2 (by omega)
      simp only [e0, e1, e2, e3]
      have hY9 := (hb9.block Y hYl).trans hY.out
      have hZ9 := (hb9.block (Y + 1) hZl).trans hZ.out
      have hW9 := (hb9.block (Y + 2) hWl).trans hW.out
      have y0 : w9.cell? ⟨Y, 0, none⟩ = some (.slice A n c) := by rw [Go.Joins.cell_of_block hY9]; rfl
      have yf := Go.Joins.unfrozen_of_block hY9
      have yl : Y < w9.heap.size := by have := hb9.size; omega
      have z0 : w9.cell? ⟨Y + 1, 0, none⟩ = some (.slice none 0 0) := by rw [Go.Joins.cell_of_block hZ9]; rfl
      have zf := Go.Joins.unfrozen_of_block hZ9
      have zl : Y + 1 < w9.heap.size := by have := hb9.size; omega
      clear hv hb9' e0 e1 e2 e3
      go_wp2_with fail
      go_meet
      case rel =>
        refine ⟨A1, c1, A3, c3, (Below.heap_setCell _ _ _ _ (by show Y ≠ Y + 1; omega)).trans (Go.Joins.block_setCell hY9 _), Go.Joins.block_setCell ((Below.heap_setCell _ _ _ _ (by show Y + 1 ≠ Y; omega)).trans hZ9) _, (Below.heap_setCell _ _ _ _ (by show Y + 2 ≠ Y + 1; omega)).trans ((Below.heap_setCell _ _ _ _ (by show Y + 2 ≠ Y; omega)).trans hW9), ?_, ?_, ((hb9.mono (show Y ≤ V5.heap.size by omega)).setCell (Nat.le_refl _) _).setCell (by show Y ≤ Y + 1; omega) _⟩
        · exact ((ho1.base (show Y + 3 ≤ V5.heap.size by omega)).stored_below (a := ⟨Y, 0, none⟩) (by show Y < Y + 3; omega) _).stored_below (a := ⟨Y + 1, 0, none⟩) (by show Y + 1 < Y + 3; omega) _
        · exact ((ho3.base (show Y + 3 ≤ V5.heap.size by omega)).stored_below (a := ⟨Y, 0, none⟩) (by show Y < Y + 3; omega) _).stored_below (a := ⟨Y + 1, 0, none⟩) (by show Y + 1 < Y + 3; omega) _
  obtain ⟨A1, c1, A3, c3, hY1, hZ1, hW1, ho1, ho3, hb5⟩ := hcut
  generalize wc = V at *
  have hs6 := hb5.size
  obtain ⟨D, hD⟩ : ∃ D, D = dropR Rs := ⟨_, rfl⟩
  rw [← hD] at hY1 ho1 hD40 hDlen hEl hsn hDp
  have hBV := Lib.hid (hB5.out.trans (hb5.mono (by have := hYH.out; omega)))
  clear hY hZ hW hYl hZl hWl hrV hhiV hB5
  have hY := Lib.hid hY1
  have hZ := Lib.hid hZ1
  have hW := Lib.hid hW1
  have hYl : Y < V.heap.size := by omega
  have hZl : Y + 1 < V.heap.size := by omega
  have hWl : Y + 2 < V.heap.size := by omega
  have hrV := Lib.hid (ho1.rd (fun K hK => Nat.le_trans (hDlen.out K hK).2 (by unfold maxLen; decide)))
  have hrZ := Lib.hid (ho3.rd (fun K hK => by cases hK))
  have hrVh : V.heap.size ≤ V.heap.size := Nat.le_refl _
  have hrZh : V.heap.size ≤ V.heap.size := Nat.le_refl _
  replace hD := Lib.hid hD
  clear hY1 hZ1 hW1 ho1 ho3 hb5
  go_upto_region 6 with fail
  go_cut [8] (fun s8 wx => ∃ (A8 : Option Addr) (c8 : Nat), s8 = .slice A8 (allE D D.length).length c8 ∧ wx.ownsRow V.heap.size 78 4 (.slice A8 (allE D D.length).length c8) (allE D D.length).length ((allE D D.length).flatMap edgeC) ∧ Below V.heap.size V wx)
  case first =>
    refine wp_region_stays 6 (fun j => match j with | 0 => VEq (.agg #[.slice A1 D.length c1]) | 1 => VLeg V.heap.size (allE D D.length) | 2 => VEq (.agg #[.slice A3 0 c3]) | 3 => VLeg V.heap.size (allE [] 0) | 4 => VTwo (allE D D.length) | 5 => VLeg V.heap.size (allE D D.length ++ []) | _ => VEq (.bool false)) (by kernel_rfl) (by kernel_rfl) ?_ ?_ ?_
    · intro j hj
      rcases (show j = 0 ∨ j = 1 ∨ j = 2 ∨ j = 3 ∨ j = 4 ∨ j = 5 by omega) with rfl | rfl | rfl | rfl | rfl | rfl <;> first | exact VEq.stays _ | exact VReg.stays _ _ | exact VLeg.stays _ _ | exact VTwo.stays _ | exact VTr.stays _ _ | exact VOr.stays _ _ | exact VBx.stays _ _
    · intro i hi
      rcases (show i = 0 ∨ i = 1 ∨ i = 2 ∨ i = 3 ∨ i = 4 ∨ i = 5 by omega) with rfl | rfl | rfl | rfl | rfl | rfl
      · intro o ho f wS K hB hd hK
        simp only [List.getElem?_cons_zero, List.getElem?_cons_succ, Option.some.injEq] at ho
        subst ho
        have hB' : Below V.heap.size V wS := belowDr hB
        simp only [putsL, dstL, List.getElem?_cons_zero, List.getElem?_cons_succ, Option.bind, Act.put, List.setIfInBounds_toArray, List.set_cons_zero, List.set_cons_succ] at hK ⊢
        have d0 : wS.cell? ⟨Y, 0, none⟩ = some (.slice A1 D.length c1) := (by rw [Go.Joins.cell_of_block ((hB'.block _ hYl).trans hY.out)]; rfl)
        have dl : Y < wS.heap.size := Nat.lt_of_lt_of_le hYl hB'.size
        go_simp
        exact hK _ _ rfl (Below.refl _ _)
      · intro o ho f wS K hB hd hK
        simp only [List.getElem?_cons_zero, List.getElem?_cons_succ, Option.some.injEq] at ho
        subst ho
        have hB' : Below V.heap.size V wS := belowDr hB
        simp only [putsL, dstL, List.getElem?_cons_zero, List.getElem?_cons_succ, Option.bind, Act.put, List.setIfInBounds_toArray, List.set_cons_zero, List.set_cons_succ] at hK ⊢
        have e0 : f 0 = .agg #[.slice A1 D.length c1] := hd 0 (by rfl)
        simp only [e0] at hK ⊢
        go_simp
        go_at_call 22
        refine (edgesOf_any A1 D.length c1 _ _ D wS (hrV.out.frame good_ring (Below.sameB hB' hrVh)) (by have := hB'.size; omega) (by have := hD40; omega) hDlen.out).mono ?_
        rintro e w9 ⟨A', c', rfl, ho, hb9⟩
        exact hK _ _ ⟨A', c', rfl, own_down ho hB'.size⟩ hb9
      · intro o ho f wS K hB hd hK
        simp only [List.getElem?_cons_zero, List.getElem?_cons_succ, Option.some.injEq] at ho
        subst ho
        have hB' : Below V.heap.size V wS := belowDr hB
        simp only [putsL, dstL, List.getElem?_cons_zero, List.getElem?_cons_succ, Option.bind, Act.put, List.setIfInBounds_toArray, List.set_cons_zero, List.set_cons_succ] at hK ⊢
        have d0 : wS.cell? ⟨(Y + 1), 0, none⟩ = some (.slice A3 0 c3) := (by rw [Go.Joins.cell_of_block ((hB'.block _ hZl).trans hZ.out)]; rfl)
        have dl : (Y + 1) < wS.heap.size := Nat.lt_of_lt_of_le hZl hB'.size
        go_simp
        exact hK _ _ rfl (Below.refl _ _)
      · intro o ho f wS K hB hd hK
        simp only [List.getElem?_cons_zero, List.getElem?_cons_succ, Option.some.injEq] at ho
        subst ho
        have hB' : Below V.heap.size V wS := belowDr hB
        simp only [putsL, dstL, List.getElem?_cons_zero, List.getElem?_cons_succ, Option.bind, Act.put, List.setIfInBounds_toArray, List.set_cons_zero, List.set_cons_succ] at hK ⊢
        have e2 : f 2 = .agg #[.slice A3 0 c3] := hd 2 (by rfl)
        simp only [e2] at hK ⊢
        go_simp
        go_at_call 22
        refine (edgesOf_any A3 0 c3 _ _ [] wS (hrZ.out.frame good_ring (Below.sameB hB' hrZh)) (by have := hB'.size; omega) (by omega) (fun L hL => by cases hL)).mono ?_
        rintro e w9 ⟨A', c', rfl, ho, hb9⟩
        exact hK _ _ ⟨A', c', rfl, own_down ho hB'.size⟩ hb9
      · intro o ho f wS K hB hd hK
        simp only [List.getElem?_cons_zero, List.getElem?_cons_succ, Option.some.injEq] at ho
        subst ho
        have hB' : Below V.heap.size V wS := belowDr hB
        simp only [putsL, dstL, List.getElem?_cons_zero, List.getElem?_cons_succ, Option.bind, Act.put, List.setIfInBounds_toArray, List.set_cons_zero, List.set_cons_succ] at hK ⊢
        obtain ⟨Ax, cx, e1, ho1⟩ : VLeg V.heap.size (allE D D.length) (f 1) wS := hd 1 (by rfl)
        obtain ⟨Ay, cy, e3, ho3⟩ : VLeg V.heap.size (allE [] 0) (f 3) wS := hd 3 (by rfl)
        simp only [e1, e3] at hK ⊢
        go_simp
        exact hK _ _ ⟨wS.heap.size, Ax, cx, Ay, cy, V.heap.size, rfl, heap_alloc_new wS _, ho1.alloc _, ho3.alloc _⟩ (Go.Joins.below_alloc1 _ _)
      · intro o ho f wS K hB hd hK
        simp only [List.getElem?_cons_zero, List.getElem?_cons_succ, Option.some.injEq] at ho
        subst ho
        have hB' : Below V.heap.size V wS := belowDr hB
        simp only [putsL, dstL, List.getElem?_cons_zero, List.getElem?_cons_succ, Option.bind, Act.put, List.setIfInBounds_toArray, List.set_cons_zero, List.set_cons_succ] at hK ⊢
        obtain ⟨g, Ax, cx, Ay, cy, B, e4, hg, ho1, ho3⟩ : VTwo (allE D D.length) (f 4) wS := hd 4 (by rfl)
        simp only [e4] at hK ⊢
        go_simp
        go_at_call 78
        refine (concatLeg_any g Ax Ay (allE D D.length).length cx 0 cy 0 wS.heap.size (allE D D.length) [] wS (by rw [Go.Joins.cell_of_block hg]; rfl) (by rw [Go.Joins.cell_of_block hg]; rfl) ((rdS_own edgeC_len (by omega) ho1 rfl).wide (good_flat _) (Nat.zero_le _) (Nat.le_refl _)) ((rdS_own edgeC_len (by omega) ho3 rfl).wide (good_flat _) (Nat.zero_le _) (Nat.le_refl _)) (Nat.le_refl _) (by have := hEl; omega)).mono ?_
        rintro e w9 ⟨A', c', rfl, ho, hb9⟩
        exact hK _ _ ⟨A', c', by rw [List.append_nil]; rfl, by rw [List.append_nil] at ho ⊢; exact own_down ho hB'.size⟩ hb9
    · intro f w9 hb9' hv
      have hb9 : Below V.heap.size V w9 := hb9'
      simp only [putsL, dstL, List.getElem?_cons_zero, List.getElem?_cons_succ, Option.bind, Act.put, List.setIfInBounds_toArray, List.set_cons_zero, List.set_cons_succ, List.drop_succ_cons, List.drop_zero]
      obtain ⟨A8, c8, e5, ho8⟩ : VLeg V.heap.size (allE D D.length ++ []) (f 5) w9 := hv 5 (by omega)
      simp only [e5]
      rw [List.append_nil] at ho8
      clear hv hb9' e5
      go_wp2_with fail
      go_meet
      case rel => exact ⟨A8, c8, by first | rfl | (rw [List.append_nil]), ho8, hb9⟩
  obtain ⟨A8, c8, rfl, ho8, hb8⟩ := hcut
  generalize wc = x6 at *
  have hs8 := hb8.size
  obtain ⟨E0, hE0⟩ : ∃ E, E = allE D D.length := ⟨_, rfl⟩
  have hEok : EOk E0 := by rw [hE0]; exact allE_ok hDp.out _
  rw [← hE0] at ho8 hEl ⊢
  obtain ⟨hot, hhot⟩ : ∃ h, h = hotL E0 := ⟨_, rfl⟩
  have hsnH : Hid (Snug hot D) := Lib.hid (by have := hsn.out; rw [← hE0, ← hhot] at this; exact this)
  have hhl : hot.length ≤ 1000 := by
    rw [hhot]
    have h1 := hot_len E0
    have h2 : E0.length * (E0.length + 2) ≤ 30 * 32 := Nat.mul_le_mul hEl (by omega)
    omega
  have hnod : Hid hot.Nodup := Lib.hid (by rw [hhot]; exact hot_nodup E0)
  have hris : Hid (hot.Pairwise fun p q => p.2 ≤ q.2) := Lib.hid (by rw [hhot]; exact hot_rise E0)
  have hhok : Hid (∀ p ∈ hot, pt2Ok p = true) := Lib.hid (by rw [hhot]; exact hot_ok hEok)
  obtain ⟨hn8, hc8⟩ := own_none ho8
  have hhc := Lib.hid (hotPoints_any A8 E0.length c8 _ _ E0 x6 (rdS_own edgeC_len (by omega) ho8 rfl) hn8 hc8 (Nat.le_refl _) hEl hEok)
  rw [← hhot] at hhc
  have h400 : ¬ (400 : Int) < (E0.length : Int) := by omega
  have hY6 := Lib.hid ((hb8.block Y hYl).trans hY.out)
  have hZ6 := Lib.hid ((hb8.block (Y + 1) hZl).trans hZ.out)
  have hW6 := Lib.hid ((hb8.block (Y + 2) hWl).trans hW.out)
  have hr6 := Lib.hid (hrV.out.frame good_ring (Below.sameB hb8 hrVh))
  have hB6 := Lib.hid (hBV.out.trans (hb8.mono (by have := hYH.out; omega)))
  replace hE0 := Lib.hid hE0
  replace hhot := Lib.hid hhot
  replace hEok := Lib.hid hEok
  clear hsn ho8 hb8 hrV hrZ hY hZ hW hn8 hc8 hBV
  obtain ⟨hl, hhle⟩ : ∃ l, l = hot.length := ⟨_, rfl⟩
  rw [← hhle] at hhc hhl
  replace hhle := Lib.hid hhle
  go_upto_region 10 with (go_at_call 79; refine hhc.out.mono ?_; rintro e x7 ⟨A9, c9, rfl, ho9, hb9⟩; have ho9H := Lib.hid ho9; have hb9H := Lib.hid hb9; clear ho9 hb9)
  have hs9 := hb9H.out.size
  have hY7 := Lib.hid ((hb9H.out.block Y (by omega)).trans hY6.out)
  have hZ7 := Lib.hid ((hb9H.out.block (Y + 1) (by omega)).trans hZ6.out)
  have hW7 := Lib.hid ((hb9H.out.block (Y + 2) (by omega)).trans hW6.out)
  have hr7 := Lib.hid (hr6.out.frame good_ring (Below.sameB hb9H.out (by omega)))
  have hB7 := Lib.hid (hB6.out.trans (hb9H.out.mono (by have := hYH.out; omega)))
  have hrh := Lib.hid (rdS_own ptC_len (by omega) ho9H.out hhle.out.symm)
  have hc9 := (own_none ho9H.out).2
  have hsp := Lib.hid (snapRounds2_any A9 hl c9 _ _ hot A1 D.length c1 _ _ D x7 hr7.out (by omega) hrh.out (Nat.le_refl _) hhl hc9 hnod.out hris.out hhok.out hsnH.out)
  have y7 : x7.cell? ⟨Y, 0, none⟩ = some (.slice A1 D.length c1) := by rw [Go.Joins.cell_of_block hY7.out]; rfl
  have yl7 : Y < x7.heap.size := by omega
  clear hY6 hZ6 hW6 hr6 hB6 hhc
  go_wp2_with fail
  refine hsp.out.mono ?_
  rintro e x8 ⟨X1, hsx, hb10, hno, hyes⟩
  have hs10 := hb10.size
  have hY8 := (hb10.block Y yl7).trans hY7.out
  have hZ8 := (hb10.block (Y + 1) (by omega)).trans hZ7.out
  have hW8 := (hb10.block (Y + 2) (by omega)).trans hW7.out
  have y8 : x8.cell? ⟨Y, 0, none⟩ = some (.slice A1 D.length c1) := by rw [Go.Joins.cell_of_block hY8]; rfl
  have yf8 := Go.Joins.unfrozen_of_block hY8
  have yl8 : Y < x8.heap.size := by omega
  have hB8 := Lib.hid (hB7.out.trans (hb10.mono (by have := hYH.out; omega)))
  have hrh8 := Lib.hid (hrh.out.frame (good_flat _) (Below.sameB hb10 (Nat.le_refl _)))
  have hY8H := Lib.hid hY8
  have hZ8H := Lib.hid hZ8
  have hW8H := Lib.hid hW8
  have hsxH := Lib.hid hsx
  have hrovS := Lib.hid (show SnapTo (hotL (allE (dropR Rs) (dropR Rs).length)) (dropR Rs) X1 by rw [← hD.out, ← hE0.out, ← hhot.out]; exact hsx)
  clear y7 hsp hY7 hZ7 hW7 hr7 hB7 hrh hb10 hY8 hZ8 hW8 hsx
  cases X1 with
  | none =>
    obtain rfl := hno rfl
    clear hno hyes
    have w8 : x8.cell? ⟨Y + 2, 0, none⟩ = some (.slice none 0 0) := by rw [Go.Joins.cell_of_block hW8H.out]; rfl
    have hW9 : (x8.setCell ⟨Y, 0, none⟩ (.slice none 0 0)).heap[Y + 2]? = some (.cells #[.slice none 0 0] 26 (0, 0)) := (Below.heap_setCell _ _ _ _ (by show Y + 2 ≠ Y; omega)).trans hW8H.out
    have wf9 := Go.Joins.unfrozen_of_block hW8H.out
    have wl9 : Y + 2 < x8.heap.size := by omega
    have hY2 : ¬ Y + 2 = Y := by omega
    have hY2' : ¬ Y = Y + 2 := by omega
    go_wp2_with fail
    refine bodyPost_ret (v := .tuple #[.agg #[.slice none 0 0], .int .i64 5]) ?_ rfl ⟨none, ?_, ?_, fun _ => rfl, (fun S h => by cases h)⟩
    · have r3 : ((x8.setCell ⟨Y, 0, none⟩ (.slice none 0 0)).setCell ⟨Y + 2, 0, none⟩ (.slice none 0 0)).cell? ⟨Y + 2, 0, none⟩ = some (.slice none 0 0) := by rw [Go.Joins.cell_of_block (Go.Joins.block_setCell hW9 _)]; rfl
      simp [results, Tryz.results65, go_sem, r3]
    · exact ⟨none, hrovS.out, fun _ => rfl, fun S h => by cases h⟩
    · have hw1 : w.heap.size ≤ Y := by have := hYH.out; omega
      exact (hB8.out.setCell hw1 _).setCell (by show w.heap.size ≤ Y + 2; omega) _
  | some S =>
    obtain ⟨hSg, A4, n4, c4, lo4, hi4, r4, rfl, hrd4, hhi4, hlo4⟩ := hyes S rfl
    clear hno hyes
    have hr8 := hrd4.frame good_ring (show SameB lo4 hi4 x8 (x8.setCell ⟨Y, 0, none⟩ (.slice A4 n4 c4)) from fun j h1 h2 => Below.heap_setCell _ _ _ _ (by show j ≠ Y; omega))
    have hrh9 := hrh8.out.frame (good_flat _) (show SameB x6.heap.size x7.heap.size x8 (x8.setCell ⟨Y, 0, none⟩ (.slice A4 n4 c4)) from fun j h1 h2 => Below.heap_setCell _ _ _ _ (by show j ≠ Y; omega))
    go_upto_region 12 with fail
    have hz9 : (x8.setCell ⟨Y, 0, none⟩ (.slice A4 n4 c4)).heap.size = x8.heap.size := by simp
    have hY9 := Lib.hid (Go.Joins.block_setCell hY8H.out (i := 0) (.slice A4 n4 c4))
    have hZ9 := Lib.hid ((Below.heap_setCell x8 ⟨Y, 0, none⟩ (.slice A4 n4 c4) (Y + 1) (by show Y + 1 ≠ Y; omega)).trans hZ8H.out)
    have hW9 := Lib.hid ((Below.heap_setCell x8 ⟨Y, 0, none⟩ (.slice A4 n4 c4) (Y + 2) (by show Y + 2 ≠ Y; omega)).trans hW8H.out)
    have hB9 := Lib.hid (hB8.out.setCell (p := ⟨Y, 0, none⟩) (by show w.heap.size ≤ Y; have := hYH.out; omega) (.slice A4 n4 c4))
    clear y8 yf8 hrd4 hY8H hZ8H hW8H hB8 hrh8
    generalize x8.setCell ⟨Y, 0, none⟩ (.slice A4 n4 c4) = x9 at *
    have z9 : x9.cell? ⟨Y + 1, 0, none⟩ = some (.slice A3 0 c3) := by rw [Go.Joins.cell_of_block hZ9.out]; rfl
    have zl9 : Y + 1 < x9.heap.size := by omega
    have hsp2 := Lib.hid (snapRounds2_any A9 hl c9 _ _ hot A3 0 c3 0 0 [] x9 (RdS.nil _ _ _ _ _ _) (Nat.zero_le _) hrh9 (by omega) hhl hc9 hnod.out hris.out hhok.out ⟨by simp, by simp [edgeN], fun L hL => by cases hL⟩)
    have hr9 := Lib.hid hr8
    have hx9s : x8.heap.size ≤ x9.heap.size := by omega
    clear hr8 hrh9 hz9
    go_wp2_with fail
    refine hsp2.out.mono ?_
    rintro e x10 ⟨X2, hsx2, hb11, hno2, hyes2⟩
    have hX2 := hsx2.unique (.stop _ (next_nil hot))
    subst hX2
    obtain ⟨_, A5, n5, c5, lo5, hi5, r5, rfl, hrd5, _, _⟩ := hyes2 [] rfl
    have hn5 : n5 = 0 := hrd5.1.symm
    subst hn5
    clear hsx2 hno2 hyes2 hrd5 z9 hsp2
    have hs11 := hb11.size
    have hZ10 := (hb11.block (Y + 1) zl9).trans hZ9.out
    have z10 : x10.cell? ⟨Y + 1, 0, none⟩ = some (.slice A3 0 c3) := by rw [Go.Joins.cell_of_block hZ10]; rfl
    have zf10 := Go.Joins.unfrozen_of_block hZ10
    have zl10 : Y + 1 < x10.heap.size := by omega
    have hY10 := Lib.hid ((Below.heap_setCell x10 ⟨Y + 1, 0, none⟩ (.slice A5 0 c5) Y (by show Y ≠ Y + 1; omega)).trans ((hb11.block Y (by omega)).trans hY9.out))
    have hZ11 := Lib.hid (Go.Joins.block_setCell hZ10 (i := 0) (.slice A5 0 c5))
    have hW11 := Lib.hid ((Below.heap_setCell x10 ⟨Y + 1, 0, none⟩ (.slice A5 0 c5) (Y + 2) (by show Y + 2 ≠ Y + 1; omega)).trans ((hb11.block (Y + 2) (by omega)).trans hW9.out))
    have hB11 := Lib.hid ((hB9.out.trans (hb11.mono (by have := hYH.out; omega))).setCell (p := ⟨Y + 1, 0, none⟩) (by show w.heap.size ≤ Y + 1; have := hYH.out; omega) (.slice A5 0 c5))
    have hr11 := Lib.hid ((hr9.out.frame good_ring (Below.sameB hb11 (by omega))).frame good_ring (show SameB lo4 hi4 x10 (x10.setCell ⟨Y + 1, 0, none⟩ (.slice A5 0 c5)) from fun j h1 h2 => Below.heap_setCell _ _ _ _ (by show j ≠ Y + 1; omega)))
    clear hb11 hZ10 hY9 hZ9 hW9 hB9 hr9
    go_upto_region 15 with fail
    have hz12 : (x10.setCell ⟨Y + 1, 0, none⟩ (.slice A5 0 c5)).heap.size = x10.heap.size := by simp
    clear z10 zf10
    generalize x10.setCell ⟨Y + 1, 0, none⟩ (.slice A5 0 c5) = V6 at *
    have hY6l : Y < V6.heap.size := by omega
    have hZ6l : Y + 1 < V6.heap.size := by omega
    have hW6l : Y + 2 < V6.heap.size := by omega
    have hr6h : hi4 ≤ V6.heap.size := by omega
    clear hz12
    obtain ⟨ES, hES⟩ : ∃ E, E = allE S S.length := ⟨_, rfl⟩
    have hESok : EOk ES := by rw [hES]; exact allE_ok (snug_ok hSg hhok.out) _
    have hESl : ES.length ≤ 400 := by rw [hES, allE_len]; exact hSg.2.1
    have hn4 : n4 = S.length := hr11.out.1.symm
    have hn40 : n4 ≤ 40 := by rw [hn4]; exact hSg.1
    have hSlen : Hid (∀ L ∈ S, 1 ≤ L.length ∧ L.length ≤ 400) := Lib.hid fun L hL => (hSg.2.2 L hL).1
    obtain ⟨BE, hBE⟩ : ∃ B, B = borderF ES [] := ⟨_, rfl⟩
    have hBok : EOk BE := by rw [hBE]; exact border_ok hESok (fun e he => by cases he)
    have hBl : BE.length ≤ 400 := by rw [hBE]; have := border_len ES []; simp at this; omega
    have hES4 : Hid (allE S n4 = ES) := Lib.hid (by rw [hES, hn4])
    replace hES := Lib.hid hES
    replace hBE := Lib.hid hBE
    replace hESok := Lib.hid hESok
    replace hBok := Lib.hid hBok
    replace hn4 := Lib.hid hn4
    go_cut [12] (fun s12 wx => ∃ (Q : Nat) (T : List (List Pnt)) (A7 : Option Addr) (n7 c7 lo7 hi7 : Nat), s12 = .pointer (some ⟨Q, 0, none⟩) ∧ AllTo BE 0 (List.replicate BE.length false) [] T ∧ wx.heap[Q]? = some (.cells #[.slice A7 n7 c7] 26 (0, 0)) ∧ V6.heap.size ≤ Q ∧ RegRd wx lo7 hi7 A7 n7 (orderR T) ∧ hi7 ≤ wx.heap.size ∧ T.length ≤ 1000 ∧ (∀ K ∈ orderR T, K.length ≤ 1000) ∧ V6.heap.size ≤ lo7 ∧ Below V6.heap.size V6 wx)
    case first =>
      refine wp_region_stays 9 (fun j => match j with | 0 => VEq (.agg #[.slice A4 n4 c4]) | 1 => VLeg V6.heap.size ES | 2 => VEq (.agg #[.slice A5 0 c5]) | 3 => VLeg V6.heap.size [] | 4 => VEq (.int .i64 1) | 5 => VLeg V6.heap.size BE | 6 => VTr BE 400 | 7 => VOr V6.heap.size BE | 8 => VBx V6.heap.size (.cells #[.slice none 0 0] 26 (0, 0)) | _ => VEq (.bool false)) (by kernel_rfl) (by kernel_rfl) ?_ ?_ ?_
      · intro j hj
        rcases (show j = 0 ∨ j = 1 ∨ j = 2 ∨ j = 3 ∨ j = 4 ∨ j = 5 ∨ j = 6 ∨ j = 7 ∨ j = 8 by omega) with rfl | rfl | rfl | rfl | rfl | rfl | rfl | rfl | rfl <;> first | exact VEq.stays _ | exact VReg.stays _ _ | exact VLeg.stays _ _ | exact VTwo.stays _ | exact VTr.stays _ _ | exact VOr.stays _ _ | exact VBx.stays _ _
      · intro i hi
        rcases (show i = 0 ∨ i = 1 ∨ i = 2 ∨ i = 3 ∨ i = 4 ∨ i = 5 ∨ i = 6 ∨ i = 7 ∨ i = 8 by omega) with rfl | rfl | rfl | rfl | rfl | rfl | rfl | rfl | rfl
        · intro o ho f wS K hB hd hK
          simp only [List.getElem?_cons_zero, List.getElem?_cons_succ, Option.some.injEq] at ho
          subst ho
          have hB' : Below V6.heap.size V6 wS := belowDr hB
          simp only [putsL, dstL, List.getElem?_cons_zero, List.getElem?_cons_succ, Option.bind, Act.put, List.setIfInBounds_toArray, List.set_cons_zero, List.set_cons_succ] at hK ⊢
          have d0 : wS.cell? ⟨Y, 0, none⟩ = some (.slice A4 n4 c4) := (by rw [Go.Joins.cell_of_block ((hB'.block _ hY6l).trans hY10.out)]; rfl)
          have dl : Y < wS.heap.size := Nat.lt_of_lt_of_le hY6l hB'.size
          go_simp
          exact hK _ _ rfl (Below.refl _ _)
        · intro o ho f wS K hB hd hK
          simp only [List.getElem?_cons_zero, List.getElem?_cons_succ, Option.some.injEq] at ho
          subst ho
          have hB' : Below V6.heap.size V6 wS := belowDr hB
          simp only [putsL, dstL, List.getElem?_cons_zero, List.getElem?_cons_succ, Option.bind, Act.put, List.setIfInBounds_toArray, List.set_cons_zero, List.set_cons_succ] at hK ⊢
          have e0 : f 0 = .agg #[.slice A4 n4 c4] := hd 0 (by rfl)
          simp only [e0] at hK ⊢
          go_simp
          go_at_call 22
          have hc := edgesOf_any A4 n4 c4 _ _ S wS (hr11.out.frame good_ring (Below.sameB hB' hr6h)) (by have := hB'.size; omega) hn40 hSlen.out
          rw [hES4.out] at hc
          refine hc.mono ?_
          rintro e w9 ⟨A', c', rfl, ho, hb9⟩
          exact hK _ _ ⟨A', c', rfl, own_down ho hB'.size⟩ hb9
        · intro o ho f wS K hB hd hK
          simp only [List.getElem?_cons_zero, List.getElem?_cons_succ, Option.some.injEq] at ho
          subst ho
          have hB' : Below V6.heap.size V6 wS := belowDr hB
          simp only [putsL, dstL, List.getElem?_cons_zero, List.getElem?_cons_succ, Option.bind, Act.put, List.setIfInBounds_toArray, List.set_cons_zero, List.set_cons_succ] at hK ⊢
          have d0 : wS.cell? ⟨Y + 1, 0, none⟩ = some (.slice A5 0 c5) := (by rw [Go.Joins.cell_of_block ((hB'.block _ hZ6l).trans hZ11.out)]; rfl)
          have dl : Y + 1 < wS.heap.size := Nat.lt_of_lt_of_le hZ6l hB'.size
          go_simp
          exact hK _ _ rfl (Below.refl _ _)
        · intro o ho f wS K hB hd hK
          simp only [List.getElem?_cons_zero, List.getElem?_cons_succ, Option.some.injEq] at ho
          subst ho
          have hB' : Below V6.heap.size V6 wS := belowDr hB
          simp only [putsL, dstL, List.getElem?_cons_zero, List.getElem?_cons_succ, Option.bind, Act.put, List.setIfInBounds_toArray, List.set_cons_zero, List.set_cons_succ] at hK ⊢
          have e2 : f 2 = .agg #[.slice A5 0 c5] := hd 2 (by rfl)
          simp only [e2] at hK ⊢
          go_simp
          go_at_call 22
          refine (edgesOf_any A5 0 c5 0 0 [] wS (RdS.nil _ _ _ _ _ _) (Nat.zero_le _) (by omega) (fun L hL => by cases hL)).mono ?_
          rintro e w9 ⟨A', c', rfl, ho, hb9⟩
          exact hK _ _ ⟨A', c', rfl, own_down ho hB'.size⟩ hb9
        · intro o ho f wS K hB hd hK
          simp only [List.getElem?_cons_zero, List.getElem?_cons_succ, Option.some.injEq] at ho
          subst ho
          have hB' : Below V6.heap.size V6 wS := belowDr hB
          simp only [putsL, dstL, List.getElem?_cons_zero, List.getElem?_cons_succ, Option.bind, Act.put, List.setIfInBounds_toArray, List.set_cons_zero, List.set_cons_succ] at hK ⊢
          go_simp
          exact hK _ _ rfl (Below.refl _ _)
        · intro o ho f wS K hB hd hK
          simp only [List.getElem?_cons_zero, List.getElem?_cons_succ, Option.some.injEq] at ho
          subst ho
          have hB' : Below V6.heap.size V6 wS := belowDr hB
          simp only [putsL, dstL, List.getElem?_cons_zero, List.getElem?_cons_succ, Option.bind, Act.put, List.setIfInBounds_toArray, List.set_cons_zero, List.set_cons_succ] at hK ⊢
          obtain ⟨Ax, cx, e1, ho1⟩ : VLeg V6.heap.size ES (f 1) wS := hd 1 (by rfl)
          obtain ⟨Ay, cy, e3, ho3⟩ : VLeg V6.heap.size [] (f 3) wS := hd 3 (by rfl)
          have e4 : f 4 = .int .i64 1 := hd 4 (by rfl)
          simp only [e1, e3, e4] at hK ⊢
          go_simp
          go_at_call 82
          have hc := borderEdges_any Ax Ay ES.length cx 0 cy _ _ _ _ ES [] wS (rdS_own edgeC_len (by omega) ho1 rfl) (rdS_own edgeC_len (by omega) ho3 rfl) (Nat.le_refl _) (Nat.le_refl _) (by omega) hESok.out (fun e he => by cases he)
          rw [← hBE.out] at hc
          refine hc.mono ?_
          rintro e w9 ⟨A', c', rfl, ho, hb9⟩
          exact hK _ _ ⟨A', c', rfl, own_down ho hB'.size⟩ hb9
        · intro o ho f wS K hB hd hK
          simp only [List.getElem?_cons_zero, List.getElem?_cons_succ, Option.some.injEq] at ho
          subst ho
          have hB' : Below V6.heap.size V6 wS := belowDr hB
          simp only [putsL, dstL, List.getElem?_cons_zero, List.getElem?_cons_succ, Option.bind, Act.put, List.setIfInBounds_toArray, List.set_cons_zero, List.set_cons_succ] at hK ⊢
          obtain ⟨Ax, cx, e5, ho5⟩ : VLeg V6.heap.size BE (f 5) wS := hd 5 (by rfl)
          simp only [e5] at hK ⊢
          go_simp
          go_at_call 81
          refine (traceRings_any Ax BE.length cx _ _ BE wS (rdS_own edgeC_len (by omega) ho5 rfl) (Nat.le_refl _) (by omega) hBok.out).mono ?_
          rintro e w9 ⟨T, A', c', hall, rfl, ho, hb9, hTl, hTk⟩
          exact hK _ _ ⟨T, A', c', _, hall, rfl, ho, by omega, fun K hK => ⟨(hTk K hK).1, by have := (hTk K hK).2.1; omega, (hTk K hK).2.2⟩⟩ hb9
        · intro o ho f wS K hB hd hK
          simp only [List.getElem?_cons_zero, List.getElem?_cons_succ, Option.some.injEq] at ho
          subst ho
          have hB' : Below V6.heap.size V6 wS := belowDr hB
          simp only [putsL, dstL, List.getElem?_cons_zero, List.getElem?_cons_succ, Option.bind, Act.put, List.setIfInBounds_toArray, List.set_cons_zero, List.set_cons_succ] at hK ⊢
          obtain ⟨T, Ax, cx, B, hall, e6, ho6, hTl, hTk⟩ : VTr BE 400 (f 6) wS := hd 6 (by rfl)
          simp only [e6] at hK ⊢
          go_simp
          go_at_call 41
          refine (orderRings_any Ax T.length cx _ _ T wS (ho6.rd (fun K hK => Nat.le_trans (hTk K hK).2.1 (by unfold maxLen; decide))) ho6.cap (Nat.le_refl _) (by omega) (fun K hK => ⟨(hTk K hK).1, by have := (hTk K hK).2.1; omega, (hTk K hK).2.2⟩)).mono ?_
          rintro e w9 ⟨A', c', rfl, hrd, hb9⟩
          exact hK _ _ ⟨T, A', T.length, c', _, _, hall, rfl, hrd, Nat.le_refl _, by omega, order_bd (fun K hK => ⟨(hTk K hK).1, by have := (hTk K hK).2.1; omega⟩), hB'.size⟩ hb9
        · intro o ho f wS K hB hd hK
          simp only [List.getElem?_cons_zero, List.getElem?_cons_succ, Option.some.injEq] at ho
          subst ho
          have hB' : Below V6.heap.size V6 wS := belowDr hB
          simp only [putsL, dstL, List.getElem?_cons_zero, List.getElem?_cons_succ, Option.bind, Act.put, List.setIfInBounds_toArray, List.set_cons_zero, List.set_cons_succ] at hK ⊢
          go_simp
          exact hK _ _ ⟨_, rfl, hB'.size, heap_alloc_new wS _⟩ (Go.Joins.below_alloc1 _ _)
      · intro f w9 hb9' hv
        have hb9 : Below V6.heap.size V6 w9 := hb9'
        simp only [putsL, dstL, List.getElem?_cons_zero, List.getElem?_cons_succ, Option.bind, Act.put, List.setIfInBounds_toArray, List.set_cons_zero, List.set_cons_succ, List.drop_succ_cons, List.drop_zero]
        obtain ⟨T, A7, n7, c7, lo7, hi7, hall, e7, hrd, hhi7, hT, hTb, hlo7⟩ : VOr V6.heap.size BE (f 7) w9 := hv 7 (by omega)
        obtain ⟨Q, e8, hQl, hQ⟩ : VBx V6.heap.size (.cells #[.slice none 0 0] 26 (0, 0)) (f 8) w9 := hv 8 (by omega)
        simp only [e7, e8]
        have q0 : w9.cell? ⟨Q, 0, none⟩ = some (.slice none 0 0) := by rw [Go.Joins.cell_of_block hQ]; rfl
        have qf := Go.Joins.unfrozen_of_block hQ
        have ql : Q < w9.heap.size := (Array.getElem?_eq_some_iff.1 hQ).1
        clear hv hb9' e7 e8
        go_wp2_with fail
        go_meet
        case rel => exact ⟨Q, T, A7, n7, c7, lo7, hi7, rfl, hall, Go.Joins.block_setCell hQ _, hQl, reg_keep hrd (fun K hK => (hTb K hK).1) hQ _, by simp; omega, hT, fun K hK => (hTb K hK).2, hlo7, hb9.setCell (p := ⟨Q, 0, none⟩) hQl _⟩
    obtain ⟨Q, T, A7, n7, c7, lo7, hi7, rfl, hall, hQ, hQl, hrd7, hhi7, hT, hTb, hlo7, hbc⟩ := hcut
    generalize wc = x12 at *
    have hs12 := hbc.size
    obtain ⟨v, hvd⟩ : ∃ v, v = regOk (orderR T) := ⟨_, rfl⟩
    have hn7 : n7 ≤ 1000 := by rw [← hrd7.1, order_len]; exact hT
    have hval := Lib.hid (validRegion_any A7 n7 c7 lo7 hi7 (orderR T) v hvd x12 hrd7 hhi7 (by omega) (fun K hK => Nat.le_trans (hTb K hK) (by omega)))
    have q0 : x12.cell? ⟨Q, 0, none⟩ = some (.slice A7 n7 c7) := by rw [Go.Joins.cell_of_block hQ]; rfl
    have ql := (Array.getElem?_eq_some_iff.1 hQ).1
    have hQH := Lib.hid hQ
    have hW12 := Lib.hid ((hbc.block (Y + 2) (by omega)).trans hW11.out)
    have hB12 := Lib.hid (hB11.out.trans (hbc.mono (by have := hYH.out; omega)))
    have hrov : Hid (RovTo Rs (if regOk (orderR T) = true then some (orderR T) else none)) := Lib.hid ⟨some S, hrovS.out, (fun h => by cases h), fun S' hS' => by
      injection hS' with hS'
      subst hS'
      refine ⟨T, ?_, rfl⟩
      rw [← hES.out, ← hBE.out]
      exact hall⟩
    have hrd7H := Lib.hid hrd7
    have hwY : w.heap.size ≤ Y + 2 := by have := hYH.out; omega
    replace hvd := Lib.hid hvd
    clear hQ hbc hrd7 hall hW11 hB11 hr11 hY10 hZ11
    cases v with
    | false =>
      go_wp2_with (go_at_call 17; refine hval.out.mono ?_; rintro e x13 ⟨rfl, hb13⟩; have hW13 := (hb13.block (Y + 2) (by omega)).trans hW12.out; have w13 : x13.cell? ⟨Y + 2, 0, none⟩ = some (.slice none 0 0) := (by rw [Go.Joins.cell_of_block hW13]; rfl); have wf13 := Go.Joins.unfrozen_of_block hW13; have wl13 : Y + 2 < x13.heap.size := (by have := hb13.size; omega); have hb13H := Lib.hid hb13; have hW13H := Lib.hid hW13; clear q0 hW13 hb13)
      refine bodyPost_ret (v := .tuple #[.agg #[.slice none 0 0], .int .i64 5]) ?_ rfl ⟨none, ?_, ?_, fun _ => rfl, (fun S h => by cases h)⟩
      · have r3 : (x13.setCell ⟨Y + 2, 0, none⟩ (.slice none 0 0)).cell? ⟨Y + 2, 0, none⟩ = some (.slice none 0 0) := by rw [Go.Joins.cell_of_block (Go.Joins.block_setCell hW13H.out _)]; rfl
        simp [results, Tryz.results65, go_sem, r3]
      · have h := hrov.out
        rw [← hvd.out, if_neg (by simp)] at h
        exact h
      · exact (hB12.out.trans (hb13H.out.mono (by have := hB12.out.size; omega))).setCell hwY _
    | true =>
      go_wp2_with (go_at_call 17; refine hval.out.mono ?_; rintro e x13 ⟨rfl, hb13⟩; have hW13 := (hb13.block (Y + 2) (by omega)).trans hW12.out; have w13 : x13.cell? ⟨Y + 2, 0, none⟩ = some (.slice none 0 0) := (by rw [Go.Joins.cell_of_block hW13]; rfl); have wf13 := Go.Joins.unfrozen_of_block hW13; have wl13 : Y + 2 < x13.heap.size := (by have := hb13.size; omega); have q13 : x13.cell? ⟨Q, 0, none⟩ = some (.slice A7 n7 c7) := (by rw [Go.Joins.cell_of_block ((hb13.block Q ql).trans hQH.out)]; rfl); have ql13 : Q < x13.heap.size := (by have := hb13.size; omega); have hb13H := Lib.hid hb13; have hW13H := Lib.hid hW13; clear q0 hW13 hb13)
      have hwQ : ¬ Y + 2 = Q := by omega
      refine bodyPost_ret (v := .tuple #[.agg #[.slice A7 n7 c7], .int .i64 0]) ?_ rfl ⟨some (orderR T), ?_, ?_, (fun h => by cases h), fun S' h => ?_⟩
      · have r3 : (x13.setCell ⟨Y + 2, 0, none⟩ (.slice A7 n7 c7)).cell? ⟨Y + 2, 0, none⟩ = some (.slice A7 n7 c7) := by rw [Go.Joins.cell_of_block (Go.Joins.block_setCell hW13H.out _)]; rfl
        simp [results, Tryz.results65, go_sem, r3]
      · have h := hrov.out
        rw [← hvd.out, if_pos rfl] at h
        exact h
      · exact (hB12.out.trans (hb13H.out.mono (by have := hB12.out.size; omega))).setCell hwY _
      · injection h with h
        subst h
        have hv2 := hvd.out
        refine ⟨A7, n7, c7, lo7, hi7, rfl, ?_, by have := hb13H.out.size; simp; omega, by have := hYH.out; omega⟩
        exact reg_keep (hrd7H.out.frame good_ring (Below.sameB hb13H.out hhi7)) (fun K hK => (path_len ((regOk_is hv2.symm).2.1 K hK)).1) hW13H.out _
end Go.Proofs.YtlifiioflkhkoaaGreat

