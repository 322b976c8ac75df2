/- The whole outline of a glyph: the program's walk. Printed by mk_whi.py. Conditions: as each states. -/
import Derived.Deep.RegionHeld3
import Derived.Test.YtgdkabljgabjoaaGreatDoorGw42
import Derived.Test.YtgdkabljgabjoaaGreatDoorGw19
namespace Go.Proofs.YtgdkabljgabjoaaGreatDoor
open Go.RowKit Go.Maps
set_option linter.unusedVariables false
set_option maxRecDepth 100000


/-- a map of the call's own is no row -/
theorem map_ne_own {α : Type} {E : ElemRd α} {w : World} {P : Program} {k : TypeId} {b n : Nat} {f : Lit → Option α} {lo e size m : Nat} {v : Value} {xs : List Value} (h : MapF E w P k b n f) (ho : w.ownsRow lo e size v m xs) : some b ≠ v.ownBlock := by
  intro he
  obtain ⟨D, ⟨es, c, h0, _⟩, _⟩ := h
  obtain ⟨cs, h1⟩ := own_kind ho he.symm
  rw [h0] at h1
  cases h1
theorem OutTo.map {w w' : World} {P : Program} {kt : TypeId} {bm n : Nat} {f : Lit → Option Int} {lo k co : Nat} {Ao : Option Addr} {ys : List Value} {Ls : List (List Knot)} (h : OutTo w lo Ao k co ys Ls) (hm : MapF intE w P kt bm n f) (hg : w.grownBy w' (some bm)) : OutTo w' lo Ao k co ys Ls := by
  obtain ⟨h1, h2, h3⟩ := h
  have hs : ∀ {e size n : Nat} {v : Value} {xs : List Value}, w.ownsRow lo e size v n xs → w'.ownsRow lo e size v n xs := fun {e size n v xs} ho => own_same ho fun g hg' => hg.block g (ho.lt g hg').2 fun e => map_ne_own hm ho (e.symm.trans hg'.symm)
  exact ⟨hs h1, fun j K hj hK => by obtain ⟨Aj, cj, h4, h5⟩ := h2 j K hj hK; exact ⟨Aj, cj, h4, hs h5⟩, h3⟩
theorem OutTo.one {w : World} {lo k co : Nat} {Ao : Option Addr} {ys : List Value} {Ls : List (List Knot)} (h : OutTo w lo Ao k co ys Ls) (hk : Ls.length = k) : ∀ u ∈ ys, u.oneCell' = true := fun u hu => by
  obtain ⟨j, hj⟩ := List.getElem?_of_mem hu
  have hjl := (List.getElem?_eq_some_iff.1 hj).1
  have hyl := h.1.1
  obtain ⟨Aj, cj, h4, _⟩ := h.2.1 j _ (by omega) (List.getElem?_eq_getElem (by omega))
  rw [hj] at h4
  injection h4 with h4
  subst h4
  rfl
theorem OutTo.base {w : World} {lo lo' k co : Nat} {Ao : Option Addr} {ys : List Value} {Ls : List (List Knot)} (h : OutTo w lo Ao k co ys Ls) (hl : lo' ≤ lo) : OutTo w lo' Ao k co ys Ls :=
  ⟨own_lower h.1 hl, fun j K hj hK => by obtain ⟨Aj, cj, h4, h5⟩ := h.2.1 j K hj hK; exact ⟨Aj, cj, h4, own_lower h5 hl⟩, h.2.2⟩


set_option maxHeartbeats 16000000 in
theorem wholeLoops_any (u : Int) (A : Option Addr) (n c lo hi : Nat) (L : List Gl) (out : List Int) (ho : Ord (tgts L) out) (hl : L.length = n) (hn : n ≤ 40) (hB : ∀ g ∈ L, GlB g) :
    ∀ (t : Nat) (x m1 m2 : Int) (w : World), out[t]? = some x → cntF L out x ≤ 12 →
    (-1000000 * (100 - (t : Int)) ≤ m1 ∧ m1 ≤ 1000000 * (100 - (t : Int))) → (-1000000 * (100 - (t : Int)) ≤ m2 ∧ m2 ≤ 1000000 * (100 - (t : Int))) → GsRd w lo hi A n L → hi ≤ w.heap.size →
    Calls Tryz.prog 61 #[.agg #[.int .i64 u, .slice A n c], .int .i64 x, .agg #[.int .i64 m1, .int .i64 m2]] w fun e w' => ∃ Ao k co ys, e = .returned (.slice Ao k co) ∧ k = (wholeF L (cntF L out) out x (m1, m2)).length ∧ OutTo w' w.heap.size Ao k co ys (wholeF L (cntF L out) out x (m1, m2)) ∧ Below w.heap.size w w' := by
  replace ho := Lib.hid ho
  replace hB := Lib.hid hB
  replace hl := Lib.hid hl
  intro t
  induction t using Nat.strongRecOn with
  | ind t ih =>
    intro x m1 m2 w hx hc12 hm1 hm2 hr hhi
    replace ih := Lib.hid ih
    obtain ⟨hx0, hxn⟩ := ho.out.rng x (List.mem_of_getElem? hx)
    rw [tgts_length, hl.out] at hxn
    have htl : t < 40 := by
      have h1 := ho.out.le
      have h2 := (List.getElem?_eq_some_iff.1 hx).1
      rw [tgts_length, hl.out] at h1
      omega
    obtain ⟨b1, f1, d, hh, rfl, hb0, hb1, hja, hcs, hrg⟩ := gs_at hr hxn
    have hB0 : Below w.heap.size w ((w.alloc (.cells #[.int .i64 u, .slice (some ⟨b1, f1, none⟩) n c] 36 (0, 0))).alloc (.cells #[.int .i64 m1, .int .i64 m2] 102 (0, 0))) := Go.Joins.below_alloc2 _ _ _
    have hxe : ((x.toNat : Nat) : Int) = x := by omega
    obtain ⟨xn, hxn'⟩ : ∃ xn, xn = x.toNat := ⟨_, rfl⟩
    rw [← hxn'] at hxe hxn hja hcs
    have q0 := hcs 0 _ rfl
    have q1 := hcs 1 _ rfl
    have q2 := hcs 2 _ rfl
    have q3 := hcs 3 _ rfl
    have q4 := hcs 4 _ rfl
    have q5 := hcs 5 _ rfl
    have q6 := hcs 6 _ rfl
    simp only [Nat.add_zero] at q0
    have hxi : (xn : Int) < (n : Int) := by omega
    have hz0 : ((w.alloc (.cells #[.int .i64 u, .slice (some ⟨b1, f1, none⟩) n c] 36 (0, 0))).alloc (.cells #[.int .i64 m1, .int .i64 m2] 102 (0, 0))).heap.size = w.heap.size + 2 := by simp
    have hb1w : b1 < w.heap.size := by omega
    subst hxe
    replace hja := Lib.hid hja
    replace hrg := Lib.hid hrg
    replace hr := Lib.hid hr
    replace hx := Lib.hid hx
    replace hxn' := Lib.hid hxn'
    clear hcs
    go_enter Tryz.func61, Tryz.ntmps61
    go_wp2_with fail
    have hnew := heap_new0 w (.cells #[.int .i64 u, .slice (some ⟨b1, f1, none⟩) n c] 36 (0, 0)) (.cells #[.int .i64 m1, .int .i64 m2] 102 (0, 0)) (.cells #[.string d.name, .int .i64 d.code, .int .i64 d.adv, .slice hh.out.A hh.out.n hh.out.c, .slice hh.parts.A hh.parts.n hh.parts.c, .slice hh.anchors.A hh.anchors.n hh.anchors.c, .string d.hints] 28 (0, 0))
    have hB3 : Below w.heap.size w (((w.alloc (.cells #[.int .i64 u, .slice (some ⟨b1, f1, none⟩) n c] 36 (0, 0))).alloc (.cells #[.int .i64 m1, .int .i64 m2] 102 (0, 0))).alloc (.cells #[.string d.name, .int .i64 d.code, .int .i64 d.adv, .slice hh.out.A hh.out.n hh.out.c, .slice hh.parts.A hh.parts.n hh.parts.c, .slice hh.anchors.A hh.anchors.n hh.anchors.c, .string d.hints] 28 (0, 0))) := (((Below.refl _ _).alloc (Nat.le_refl _) _).alloc (by simp) _).alloc (by simp <;> omega) _
    have hz3 : (((w.alloc (.cells #[.int .i64 u, .slice (some ⟨b1, f1, none⟩) n c] 36 (0, 0))).alloc (.cells #[.int .i64 m1, .int .i64 m2] 102 (0, 0))).alloc (.cells #[.string d.name, .int .i64 d.code, .int .i64 d.adv, .slice hh.out.A hh.out.n hh.out.c, .slice hh.parts.A hh.parts.n hh.parts.c, .slice hh.anchors.A hh.anchors.n hh.anchors.c, .string d.hints] 28 (0, 0))).heap.size = w.heap.size + 3 := by simp
    have hz3l : (((w.alloc (.cells #[.int .i64 u, .slice (some ⟨b1, f1, none⟩) n c] 36 (0, 0))).alloc (.cells #[.int .i64 m1, .int .i64 m2] 102 (0, 0))).alloc (.cells #[.string d.name, .int .i64 d.code, .int .i64 d.adv, .slice hh.out.A hh.out.n hh.out.c, .slice hh.parts.A hh.parts.n hh.parts.c, .slice hh.anchors.A hh.anchors.n hh.anchors.c, .string d.hints] 28 (0, 0))).heap.size ≤ w.heap.size + 3 := by omega
    have hz3g : w.heap.size + 3 ≤ (((w.alloc (.cells #[.int .i64 u, .slice (some ⟨b1, f1, none⟩) n c] 36 (0, 0))).alloc (.cells #[.int .i64 m1, .int .i64 m2] 102 (0, 0))).alloc (.cells #[.string d.name, .int .i64 d.code, .int .i64 d.adv, .slice hh.out.A hh.out.n hh.out.c, .slice hh.parts.A hh.parts.n hh.parts.c, .slice hh.anchors.A hh.anchors.n hh.anchors.c, .string d.hints] 28 (0, 0))).heap.size := by omega
    clear hz3 hz0 hB0 q0 q1 q2 q3 q4 q5 q6
    generalize (((w.alloc (.cells #[.int .i64 u, .slice (some ⟨b1, f1, none⟩) n c] 36 (0, 0))).alloc (.cells #[.int .i64 m1, .int .i64 m2] 102 (0, 0))).alloc (.cells #[.string d.name, .int .i64 d.code, .int .i64 d.adv, .slice hh.out.A hh.out.n hh.out.c, .slice hh.parts.A hh.parts.n hh.parts.c, .slice hh.anchors.A hh.anchors.n hh.anchors.c, .string d.hints] 28 (0, 0))) = w0 at *
    obtain ⟨HG, HM, HE⟩ := hnew
    replace HG := Lib.hid HG
    replace HM := Lib.hid HM
    replace HE := Lib.hid HE
    obtain ⟨hg1, hg2, hg3, hg4⟩ := hB.out d (List.mem_of_getElem? hja.out)
    have hol := hrg.out.1.1
    replace hg2 := Lib.hid hg2
    replace hg4 := Lib.hid hg4
    go_loopw [8, 25] (fun ov i wr => ∃ (k : Nat) (Ao : Option Addr) (co : Nat) (ys : List Value), i = .int .i64 k ∧ ov = .slice Ao k co ∧ k ≤ hh.out.n ∧ OutTo wr (w.heap.size + 3) Ao k co ys (d.out.map (List.map (movP (m1, m2)))) ∧ Below w0.heap.size w0 wr) (fun ov i wr => hh.out.n - (intOf i).toNat)
    case atStart => exact ⟨0, none, 0, [], rfl, rfl, Nat.zero_le _, ⟨World.ownsRow_nil _ _ _ _, fun j K hj => absurd hj (Nat.not_lt_zero j), fun i j u v _ hu => by simp at hu⟩, Below.refl _ _⟩
    case round =>
      obtain ⟨k, Ao, co, ys, rfl, rfl, hk, hto, hbel⟩ := hrel
      obtain ⟨w5, hw5⟩ : ∃ v, v = wr := ⟨_, rfl⟩
      subst hw5
      have hz5 := hbel.size
      have hB5 : Below w.heap.size w w5 := hB3.trans (hbel.mono (by omega))
      replace hto := Lib.hid hto
      by_cases hlt : k < hh.out.n
      · obtain ⟨b3, f3, K, A2, n2, c2, hA, hb30, hb3h, hka, qk, hmx, hrk⟩ := out_at hrg.out.1 hlt
        have hn2 := hrk.1
        subst hn2
        rw [hA]
        have qkr : w5.cell? ⟨b3, f3 + k, none⟩ = some (.slice A2 K.length c2) := (hB5.cell (by simp; omega)).trans qk
        have hb3w : b3 < w5.heap.size := by omega
        have hki : (k : Int) < (hh.out.n : Int) := by omega
        obtain ⟨hKl, hKc⟩ := hg2.out K (List.mem_of_getElem? hka)
        replace hka := Lib.hid hka
        replace hrk := Lib.hid hrk
        replace hKc := Lib.hid hKc
        go_wp2_with fail
        have hzL : (w5.alloc (.cells #[.slice A2 K.length c2] 113 (0, 0))).heap.size = w5.heap.size + 1 := by simp
        have hBL : Below w.heap.size w (w5.alloc (.cells #[.slice A2 K.length c2] 113 (0, 0))) := hB5.alloc hB5.size _
        refine (cloneKnot_any A2 K.length c2 lo hi K (w5.alloc (.cells #[.slice A2 K.length c2] 113 (0, 0))) (hrk.out.frame (good_flat _) (Below.sameB hBL hhi)) (by omega) (rdS_none hrk.out)).mono ?_
        rintro e w6 ⟨Ak, ck, rfl, hok, hb6⟩
        rw [hzL] at hok hb6
        have hz6 := hb6.size
        rw [hzL] at hz6
        have hb56 : Below w5.heap.size w5 w6 := (Go.Joins.below_alloc1 w5 (.cells #[.slice A2 K.length c2] 113 (0, 0))).trans (hb6.mono (Nat.le_succ _))
        have hok0 : w6.ownsRow (w5.heap.size + 1) 152 3 (.slice Ak K.length ck) K.length ((mixT (K.map (movP (m1, m2))) K 0).flatMap knotC) := by rw [mixT_zero]; exact hok
        replace hok0 := Lib.hid hok0
        have hlenK : (K.map (movP (m1, m2))).length = K.length := List.length_map ..
        replace hlenK := Lib.hid hlenK
        clear hzL hok hb6 qkr hb3w
        go_wp2_with fail
        go_loopw [34] (fun i wr => ∃ q : Nat, i = .int .i64 q ∧ q ≤ K.length ∧ wr.ownsRow (w5.heap.size + 1) 152 3 (.slice Ak K.length ck) K.length ((mixT (K.map (movP (m1, m2))) K q).flatMap knotC) ∧ Below w5.heap.size w5 wr) (fun i wr => K.length - (intOf i).toNat)
        case atStart => exact ⟨0, rfl, Nat.zero_le _, hok0.out, hb56⟩
        case round =>
          clear hok0 hb56
          obtain ⟨q, rfl, hq, hok, hb56⟩ := hrel
          have hz7 := hb56.size
          by_cases hql : q < K.length
          · obtain ⟨y, hy⟩ : ∃ y, K[q]? = some y := ⟨_, List.getElem?_eq_getElem hql⟩
            have hyq : (mixT (K.map (movP (m1, m2))) K q)[q]? = some y := by rw [mixT_at hlenK.out hql]; exact hy
            obtain ⟨g, rfl, hgl, hgs, _, hcg, hfg⟩ := own_at hok (by omega)
            obtain ⟨hcx, hcy⟩ := hKc.out y (List.mem_of_getElem? hy)
            have hkey := mixT_set hlenK.out (k := q) (m := movP (m1, m2) y) (by rw [List.getElem?_map, hy]; rfl)
            obtain ⟨y1, y2, z⟩ := y
            dsimp only [movP] at hcx hcy hkey
            have hKql := mixT_len hlenK.out q
            have c0 := hcg (q * 3) (by omega)
            have c1 := hcg (q * 3 + 1) (by omega)
            have v0 := flat_get knotC_len _ q _ 0 hyq (by omega)
            have v1 := flat_get knotC_len _ q _ 1 hyq (by omega)
            simp only [Nat.add_zero] at v0
            rw [v0] at c0
            rw [v1] at c1
            simp only [knotC, List.getElem?_cons_zero, List.getElem?_cons_succ] at c0 c1
            have fz0 := hfg (q * 3)
            have fz1 := hfg (q * 3 + 1)
            have s0 := (World.ownsRow.drew hok).stored (q * 3) (.int .i64 (y1 + m1))
            have s1 := s0.1.stored (q * 3 + 1) (.int .i64 (y2 + m2))
            rw [flat_set2 hyq, hkey] at s1
            replace s1 := Lib.hid s1
            have HMr := (hb56.block (w.heap.size + 1) (by omega)).trans ((hbel.block (w.heap.size + 1) (by omega)).trans HM.out)
            have cm1 : wr.cell? ⟨w.heap.size + 1, 0, none⟩ = some (.int .i64 m1) := by rw [Go.Joins.cell_of_block HMr]; rfl
            have cm2 : wr.cell? ⟨w.heap.size + 1, 1, none⟩ = some (.int .i64 m2) := by rw [Go.Joins.cell_of_block HMr]; rfl
            have e1 : IntKind.i64.wrap (y1 + m1) = y1 + m1 := IntWalk.i64_in _ (by omega)
            have e2 : IntKind.i64.wrap (y2 + m2) = y2 + m2 := IntWalk.i64_in _ (by omega)
            have hqi : (q : Int) < (K.length : Int) := by omega
            have hq0 : (0 : Int) ≤ (q : Int) := by omega
            replace hy := Lib.hid hy
            clear hcg hfg v0 v1 s0 hkey hKql hyq HMr
            go_wp2_with fail
            go_still_tail 21, (by kernel_rfl)
            go_wp2_with fail
            go_roundw
            case rel => exact ⟨q + 1, by go_num, by omega, s1.out.1, (hb56.drew.setCell (p := ⟨g, q * 3, none⟩) (by simp; omega) _).setCell (p := ⟨g, q * 3 + 1, none⟩) (by simp; omega) _⟩
            case measure => simp [intOf]; omega
          · have hqn : K.length = q := by omega
            have hfin := hok
            rw [← hqn, mixT_all hlenK.out] at hfin
            have oy : Hid (wr.ownsRow (w.heap.size + 3) 113 1 (.slice Ao k co) k ys) := own_below hto.out.1 hb56
            have hk12 : k ≤ 12 := by omega
            have hKk : (d.out.map (List.map (movP (m1, m2))))[k]? = some (K.map (movP (m1, m2))) := by rw [List.getElem?_map, hka.out]; rfl
            replace hfin := Lib.hid hfin
            replace hqn := Lib.hid hqn
            replace hKk := Lib.hid hKk
            clear hok
            go_wp2_with (at_builtin; refine wpAppAt rfl (.tmp 61) (.tmp 64) elemLoop rfl (v := .slice Ao k co) (n := k) (xs := ys) rfl (oy.out.alloc _) rfl (src_at (cs := [.slice Ak K.length ck]) rfl (by simp [Value.oneCell']) (by simp)) (by omega) (by omega) (by first | omega | (simp <;> omega)) (k + 1) rfl ?_; intro A4 c4 w8 ho8 hg8 hv8; have hz8 := hg8.size; (try simp at hz8); have hb8 : Hid (Below (w.heap.size + 3) _ w8) := below_app (oy.out.alloc _) hg8 (by first | omega | (simp <;> omega)); replace ho8 := Lib.hid ho8; replace hg8 := Lib.hid hg8; clear hv8)
            go_roundw
            case rel =>
              have hKL : (K.map (movP (m1, m2))).length = K.length := hlenK.out
              have hnx := OutTo.next (w1 := wr.alloc (.cells #[.slice Ak K.length ck] 113 (0, 0))) hto.out hKk.out (hb56.alloc (by omega) _) (A2 := Ak) (c2 := ck) (B := w5.heap.size + 1) (by rw [hKL]; exact hfin.out.alloc _) (Nat.le_succ _) (by omega) (by rw [hKL]; exact ho8.out) hg8.out
              exact ⟨k + 1, A4, c4, _, by go_num, rfl, by omega, hnx, ((hbel.trans (hb56.mono (by omega))).alloc (by omega) _).trans (hb8.out.mono (by omega))⟩
            case measure => simp [intOf]; omega
      · have hkn : hh.out.n = k := by omega
        have hki : ¬ ((k : Int) < (hh.out.n : Int)) := by omega
        have hmm := fun (t : TypeId) (W : World) => run_makeMap (P := Tryz.prog) t W
        have HE5 := Lib.hid ((hbel.block (w.heap.size + 2) (by omega)).trans HE.out)
        have ce4 : (w5.alloc (.map #[] 0)).cell? ⟨w.heap.size + 2, 4, none⟩ = some (.slice hh.parts.A hh.parts.n hh.parts.c) := Lib.cell?_alloc_some _ (by rw [Go.Joins.cell_of_block HE5.out]; rfl)
        have ce4' : w5.cell? ⟨w.heap.size + 2, 4, none⟩ = some (.slice hh.parts.A hh.parts.n hh.parts.c) := by rw [Go.Joins.cell_of_block HE5.out]; rfl
        have hl5 : w.heap.size + 2 < w5.heap.size := by omega
        have hja' : L[(xn : Int).toNat]? = some d := by rw [Int.toNat_natCast]; exact hja.out
        obtain ⟨base, hbase⟩ : ∃ b, b = d.out.map (List.map (movP (m1, m2))) := ⟨_, rfl⟩
        obtain ⟨F, hF⟩ : ∃ F : Part → List (List Knot), F = fun p => if 0 < cntF L out p.1 then wholeF L (cntF L out) out p.1 (m1 + p.2.1, m2 + p.2.2) else [] := ⟨_, rfl⟩
        have hWx : wholeF L (cntF L out) out xn (m1, m2) = base ++ d.parts.flatMap F := by rw [hbase, hF]; exact wholeF_at ho.out hx.out hja' (m1, m2)
        have hlenW : ((base ++ d.parts.flatMap F).length : Int) = cntF L out xn := by
          rw [← hWx]
          exact wholeF_len ho.out t xn hx.out ⟨d, hja'⟩ (fun t' y hy => by
            obtain ⟨h0, h1⟩ := ho.out.rng _ (List.mem_of_getElem? hy)
            rw [tgts_length] at h1
            exact ⟨_, List.getElem?_eq_getElem (by omega)⟩) (m1, m2) hc12
        have hle12 : ∀ j, (base ++ (d.parts.take j).flatMap F).length ≤ 12 := fun j => by
          have e : d.parts.flatMap F = (d.parts.take j).flatMap F ++ (d.parts.drop j).flatMap F := by rw [← List.flatMap_append, List.take_append_drop]
          rw [e] at hlenW
          simp only [List.length_append] at hlenW ⊢
          omega
        have hbl : base.length = k := by rw [hbase, List.length_map]; omega
        have hpl := hrg.out.2.1.1
        have hmap0 : MapF intE (w5.alloc (.map #[] 0)) Tryz.prog 2 w5.heap.size 40 (fun _ => none) := (MapF.made intE w5 Tryz.prog 2).mono (by omega)
        have hto0 : OutTo (w5.alloc (.map #[] 0)) (w.heap.size + 3) Ao k co ys (base ++ (d.parts.take 0).flatMap F) := by
          rw [List.take_zero, List.flatMap_nil, List.append_nil, hbase]
          exact hto.out.kept (Go.Joins.below_alloc1 _ _)
        have hz6 : (w5.alloc (.map #[] 0)).heap.size = w5.heap.size + 1 := by simp
        have hB6 : Below w.heap.size w (w5.alloc (.map #[] 0)) := hB5.alloc (by omega) _
        have HG6 := (Below.heap_alloc w5 (.map #[] 0) w.heap.size (by omega)).trans ((hbel.block w.heap.size (by omega)).trans HG.out)
        have HM6 := (Below.heap_alloc w5 (.map #[] 0) (w.heap.size + 1) (by omega)).trans ((hbel.block (w.heap.size + 1) (by omega)).trans HM.out)
        replace hmap0 := Lib.hid hmap0
        replace hto0 := Lib.hid hto0
        replace HG6 := Lib.hid HG6
        replace HM6 := Lib.hid HM6
        replace hbase := Lib.hid hbase
        replace hF := Lib.hid hF
        replace hWx := Lib.hid hWx
        replace hlenW := Lib.hid hlenW
        replace hja' := Lib.hid hja'
        replace hbl := Lib.hid hbl
        go_wp2_with fail
        clear hto ce4 ce4' HE5
        obtain ⟨w6, hw6⟩ : ∃ v, v = w5.alloc (.map #[] 0) := ⟨_, rfl⟩
        rw [← hw6] at hmap0 hto0 hz6 hB6 HG6 HM6 ⊢
        replace hw6 := Lib.hid hw6
        have hz6l : w6.heap.size ≤ w5.heap.size + 1 := by omega
        have hz6g : w5.heap.size + 1 ≤ w6.heap.size := by omega
        clear hz6
        go_loopw [8, 71] (fun ov i wr => ∃ (j k2 : Nat) (A2 : Option Addr) (c2 : Nat) (ys2 : List Value) (f' : Lit → Option Int), i = .int .i64 j ∧ ov = .slice A2 k2 c2 ∧ j ≤ hh.parts.n ∧ k2 = (base ++ (d.parts.take j).flatMap F).length ∧ OutTo wr (w.heap.size + 3) A2 k2 c2 ys2 (base ++ (d.parts.take j).flatMap F) ∧ MapF intE wr Tryz.prog 2 w5.heap.size 40 f' ∧ MemOk (cntF L out) n f' ∧ Below (w.heap.size + 3) w6 wr) (fun ov i wr => hh.parts.n - (intOf i).toNat)
        case atStart => exact ⟨0, k, Ao, co, ys, _, rfl, rfl, Nat.zero_le _, by rw [List.take_zero, List.flatMap_nil, List.append_nil]; exact hbl.out.symm, hto0.out, hmap0.out, MemOk.none _ _, Below.refl _ _⟩
        case round =>
          clear hmap0 hto0
          obtain ⟨j, k2, A2, c2, ys2, f', rfl, rfl, hj, hk2, hto2, hmap2, hmem2, hb2⟩ := hrel
          have hz2 := hb2.size
          have hBr : Below w.heap.size w wr := hB6.trans (hb2.mono (by omega))
          have HGr := (hb2.block w.heap.size (by omega)).trans HG6.out
          have HMr := (hb2.block (w.heap.size + 1) (by omega)).trans HM6.out
          have g0 : wr.cell? ⟨w.heap.size, 0, none⟩ = some (.int .i64 u) := by rw [Go.Joins.cell_of_block HGr]; rfl
          have g1 : wr.cell? ⟨w.heap.size, 1, none⟩ = some (.slice (some ⟨b1, f1, none⟩) n c) := by rw [Go.Joins.cell_of_block HGr]; rfl
          have hzr : w.heap.size + 1 < wr.heap.size := by omega
          have hzr0 : w.heap.size < wr.heap.size := by omega
          have hk12 := hle12 j
          rw [← hk2] at hk12
          replace hk2 := Lib.hid hk2
          replace hto2 := Lib.hid hto2
          replace hmem2 := Lib.hid hmem2
          by_cases hjl : j < hh.parts.n
          · obtain ⟨p1, o1, ⟨y0, y1, y2⟩, hA, _, hpw, hjb, hcs⟩ := (hrg.out.2.1.frame (good_flat _) (Below.sameB hBr hhi)).at hjl
            have q0 := hcs 0 _ rfl
            have q1 := hcs 1 _ rfl
            have q2 := hcs 2 _ rfl
            simp only [Nat.add_zero] at q0 q1 q2
            have hpw' : p1 < wr.heap.size := by omega
            have hmemp := List.mem_of_getElem? hjb
            obtain ⟨sN, hst, hsN⟩ := part_at ho.out hx.out hja'.out hmemp
            have hcy := part_le ho.out hx.out hja'.out hc12 hmemp
            obtain ⟨hgb1, hgb2⟩ := hg4.out _ hmemp
            dsimp only at hgb1 hgb2 hsN hcy
            have hzb := cntF_bd L out y0
            have hcall := Lib.hid (loopCount_any u (some ⟨b1, f1, none⟩) n c lo hi w5.heap.size L out ho.out hl.out hn (fun g hg => ⟨(hB.out g hg).1, (hB.out g hg).2.2.1⟩) (by omega) sN y0 f' (wr.alloc (.cells #[.int .i64 y0, .int .i64 y1, .int .i64 y2] 106 (0, 0))) hsN (hmap2.alloc _) hmem2.out ((hr.out.frame good_glyph (Below.sameB hBr hhi)).frame good_glyph (SameB.alloc (SameB.refl lo hi wr) (by omega) _)) (by simp; omega))
            have hih := Lib.hid (fun (W : World) (hBW : Below w.heap.size w W) => ih.out sN hst y0 (m1 + y1) (m2 + y2) W hsN hcy (by omega) (by omega) (hr.out.frame good_glyph (Below.sameB hBW hhi)) (Nat.le_trans hhi hBW.size))
            have hnx : base ++ (d.parts.take (j + 1)).flatMap F = (base ++ (d.parts.take j).flatMap F) ++ F (y0, y1, y2) := by rw [take_snocW hjb, List.flatMap_append, ← List.append_assoc]; simp
            have hFy : F (y0, y1, y2) = if 0 < cntF L out y0 then wholeF L (cntF L out) out y0 (m1 + y1, m2 + y2) else [] := by rw [hF.out]
            have hle1 := hle12 (j + 1)
            rw [hnx, List.length_append, ← hk2.out] at hle1
            rw [hA]
            replace hA := Lib.hid hA
            replace hsN := Lib.hid hsN
            replace hjb := Lib.hid hjb
            replace hnx := Lib.hid hnx
            replace hFy := Lib.hid hFy
            have hj0 : (0 : Int) ≤ (j : Int) ∧ (j : Int) < (hh.parts.n : Int) := by omega
            clear hcs hmemp
            go_wp2_with fail
            refine hcall.out.mono ?_
            rintro e w8 ⟨f2, rfl, hm8, hme8, hg8⟩
            have hgr8 : wr.grownBy w8 (some w5.heap.size) := grown_trans (World.grownBy_alloc wr _ _) hg8
            have hz8 := hg8.size
            simp at hz8
            have hto8 := Lib.hid (hto2.out.map hmap2 hgr8)
            have hb8 : Below (w.heap.size + 3) w6 w8 := hb2.grown hgr8 (by omega) (fun k hk => by cases hk; omega)
            have hB8 : Below w.heap.size w w8 := hB6.trans (hb8.mono (by omega))
            have HP8 := (hg8.block wr.heap.size (by simp) (by intro e; injection e with e; have := hmap2.lt; omega)).trans (heap_alloc_new wr _)
            have e0 : w8.cell? ⟨wr.heap.size, 0, none⟩ = some (.int .i64 y0) := by rw [Go.Joins.cell_of_block HP8]; rfl
            have e1 : w8.cell? ⟨wr.heap.size, 1, none⟩ = some (.int .i64 y1) := by rw [Go.Joins.cell_of_block HP8]; rfl
            have e2 : w8.cell? ⟨wr.heap.size, 2, none⟩ = some (.int .i64 y2) := by rw [Go.Joins.cell_of_block HP8]; rfl
            have HG8 := (hb8.block w.heap.size (by omega)).trans HG6.out
            have HM8 := (hb8.block (w.heap.size + 1) (by omega)).trans HM6.out
            have g80 : w8.cell? ⟨w.heap.size, 0, none⟩ = some (.int .i64 u) := by rw [Go.Joins.cell_of_block HG8]; rfl
            have g81 : w8.cell? ⟨w.heap.size, 1, none⟩ = some (.slice (some ⟨b1, f1, none⟩) n c) := by rw [Go.Joins.cell_of_block HG8]; rfl
            have cm1 : w8.cell? ⟨w.heap.size + 1, 0, none⟩ = some (.int .i64 m1) := by rw [Go.Joins.cell_of_block HM8]; rfl
            have cm2 : w8.cell? ⟨w.heap.size + 1, 1, none⟩ = some (.int .i64 m2) := by rw [Go.Joins.cell_of_block HM8]; rfl
            have a1 : IntKind.i64.wrap (m1 + y1) = m1 + y1 := IntWalk.i64_in _ (by omega)
            have a2 : IntKind.i64.wrap (m2 + y2) = m2 + y2 := IntWalk.i64_in _ (by omega)
            have hlr8 : wr.heap.size < w8.heap.size := by omega
            have hlm8 : w.heap.size + 1 < w8.heap.size := by omega
            have hlg8 : w.heap.size < w8.heap.size := by omega
            replace hm8 := Lib.hid hm8
            replace hme8 := Lib.hid hme8
            clear hcall hmap2 hto2 q0 q1 q2 g0 g1 HGr HMr HP8 HG8 HM8 hgr8 hg8
            obtain ⟨z, hz⟩ : ∃ z, z = cntF L out y0 := ⟨_, rfl⟩
            rw [← hz] at hzb ⊢
            have hFz := hFy.out
            rw [← hz] at hFz
            replace hz := Lib.hid hz
            by_cases hz0 : 0 < z
            · rw [if_pos hz0] at hFz
              replace hFz := Lib.hid hFz
              go_wp2_with fail
              refine (hih.out w8 hB8).mono ?_
              rintro e w9 ⟨A3, k3, c3, ys3, rfl, hk3, hto3, hb9⟩
              have hz9 := hb9.size
              rw [hFz.out, ← hk3] at hle1
              have ho9 := Lib.hid (own_below hto8.out.1 hb9)
              have hs9 := Lib.hid (src_own hto3.1 (hto3.one hk3.symm))
              have hm9 := Lib.hid (hm8.out.below hb9)
              have hb69 := hb8.trans (hb9.mono (by omega))
              replace hto3 := Lib.hid hto3
              replace hk3 := Lib.hid hk3
              clear e0 e1 e2 g80 g81 cm1 cm2 hih
              go_wp2_with (at_builtin; refine wpAppAt rfl (.tmp 81) (.tmp 98) elemLoop rfl (v := .slice A2 k2 c2) (n := k2) (xs := ys2) rfl ho9.out rfl hs9.out (by omega) (by omega) (by omega) (k2 + k3) rfl ?_; intro A4 c4 w10 ho10 hg10 hv10; clear hv10; have hz10 := hg10.size; replace ho10 := Lib.hid ho10; replace hg10 := Lib.hid hg10)
              go_roundw
              case rel =>
                have hto10 := OutTo.join hto8.out hk2.out.symm hb9 hto3.out hk3.out.symm (Nat.le_refl _) (by omega) ho10.out hg10.out
                exact ⟨j + 1, k2 + k3, A4, c4, _, f2, by go_num, rfl, by omega, by rw [hnx.out, hFz.out, List.length_append, ← hk2.out, ← hk3.out], by rw [hnx.out, hFz.out]; exact hto10, hm9.out.kept hg10.out (map_ne_own hm9.out ho9.out), hme8.out, hb69.trans (below_app ho9.out hg10.out (by omega))⟩
              case measure => simp [intOf]; omega
            · rw [if_neg hz0] at hFz
              replace hFz := Lib.hid hFz
              go_wp2_with fail
              go_roundw
              case rel => exact ⟨j + 1, k2, A2, c2, ys2, f2, by go_num, rfl, by omega, by rw [hnx.out, hFz.out, List.append_nil]; exact hk2.out, by rw [hnx.out, hFz.out, List.append_nil]; exact hto8.out, hm8.out, hme8.out, hb8⟩
              case measure => simp [intOf]; omega
          · have hjn : j = hh.parts.n := by omega
            have hfull : d.parts.take j = d.parts := List.take_of_length_le (by rw [hrg.out.2.1.1]; omega)
            have hkf := hk2.out
            have htf := hto2.out
            rw [hfull, ← hWx.out] at hkf htf
            replace hfull := Lib.hid hfull
            replace hkf := Lib.hid hkf
            replace htf := Lib.hid htf
            clear hk2 hto2
            go_wp2_with fail
            go_ret
            exact ⟨A2, k2, c2, ys2, rfl, hkf.out, htf.out.base (by omega), hBr⟩
end Go.Proofs.YtgdkabljgabjoaaGreatDoor

/- The whole outline of a glyph: the program's side. Conditions: as each states. -/
namespace Go.Proofs.YtgdkabljgabjoaaGreatDoor
open Go.RowKit
set_option linter.unusedVariables false
set_option maxRecDepth 100000

set_option maxHeartbeats 8000000 in
theorem implWhole_any (d : GSet) (h : GSetH) (x : Int) (R : List (List Knot) × Int) (hR : R = whoR d x) (lo hi : Nat) (w : World) (hr : GSetRc w lo hi d h) (hhi : hi ≤ w.heap.size) (hm : d.small 1000000000) (hs : ∀ g ∈ d.gl, g.str) :
    Calls Tryz.prog 22 #[gsV d h, .int .i64 x] w fun e w' => ∃ A' n' c', e = .returned (.tuple #[.agg #[.slice A' n' c'], .int .i64 R.2]) ∧ OutOwn w' w.heap.size A' n' c' R.1 ∧ Below w.heap.size w w' := by
  have hnew := heap_new2 w (.cells #[.int .i64 d.unit, .slice h.gl.A h.gl.n h.gl.c] 36 (0, 0)) (.cells #[.slice none 0 0] 24 (0, 0))
  have hB0 : Below w.heap.size w ((w.alloc (.cells #[.int .i64 d.unit, .slice h.gl.A h.gl.n h.gl.c] 36 (0, 0))).alloc (.cells #[.slice none 0 0] 24 (0, 0))) := Go.Joins.below_alloc2 _ _ _
  have hz0 : ((w.alloc (.cells #[.int .i64 d.unit, .slice h.gl.A h.gl.n h.gl.c] 36 (0, 0))).alloc (.cells #[.slice none 0 0] 24 (0, 0))).heap.size = w.heap.size + 2 := by simp
  obtain ⟨w0, hw0⟩ : ∃ v, v = ((w.alloc (.cells #[.int .i64 d.unit, .slice h.gl.A h.gl.n h.gl.c] 36 (0, 0))).alloc (.cells #[.slice none 0 0] 24 (0, 0))) := ⟨_, rfl⟩
  rw [← hw0] at hnew hB0 hz0
  have k0 : w0.cell? ⟨w.heap.size, 0, none⟩ = some (.int .i64 d.unit) := by rw [Go.Joins.cell_of_block hnew.1]; rfl
  have k1 : w0.cell? ⟨w.heap.size, 1, none⟩ = some (.slice h.gl.A h.gl.n h.gl.c) := by rw [Go.Joins.cell_of_block hnew.1]; rfl
  have hzl : w0.heap.size ≤ w.heap.size + 2 := by omega
  have hzg : w.heap.size + 2 ≤ w0.heap.size := by omega
  clear hz0
  obtain ⟨q, hq⟩ : ∃ q, q = askR d x := ⟨_, rfl⟩
  obtain ⟨C, hC⟩ : ∃ C, C = if q = 0 then cntF d.gl (order (tgts d.gl)) x else 0 := ⟨_, rfl⟩
  have hc := Lib.hid (implLoopCount_any d h x C q (by unfold cntR; rw [hC, hq]) lo hi w0 (hr.frame good_glyphc (Below.sameB hB0 hhi)) (Nat.le_trans hhi hB0.size) hm hs)
  have hcs := ask_cases d x
  rw [← hq] at hcs
  have hwl : w.heap.size < w0.heap.size := by omega
  by_cases hq0 : q = 0
  rotate_left
  · have hm' : R = ([], q) := by rw [hR, whoR, ← hq, if_neg hq0]
    subst hm'
    clear hR hq hr hm hs hC hcs
    go_enter Tryz.func22, Tryz.ntmps22
    go_wp2_with fail
    rw [← hw0]
    go_wp2_with fail
    refine hc.out.mono ?_
    rintro e w1 ⟨rfl, hb1⟩
    have hz1 := hb1.size
    have hB1 : Below w.heap.size w w1 := hB0.trans (hb1.mono (by omega))
    have HR := (hb1.block (w.heap.size + 1) (by omega)).trans hnew.2
    have cR : w1.cell? ⟨w.heap.size + 1, 0, none⟩ = some (.slice none 0 0) := by rw [Go.Joins.cell_of_block HR]; rfl
    have fR : ∀ o, w1.frozen? ⟨w.heap.size + 1, o, none⟩ = false := Go.Joins.unfrozen_of_block HR
    have hRl : w.heap.size + 1 < w1.heap.size := by omega
    clear hc hb1 hnew k0 k1
    go_wp2_with fail
    refine bodyPost_ret (v := .tuple #[.agg #[.slice none 0 0], .int .i64 q]) (by simp [results, Tryz.results22, go_sem, cR]) rfl ⟨none, 0, 0, rfl, own_emptyW _ _, hB1.setCell (p := ⟨w.heap.size + 1, 0, none⟩) (by simp) _⟩
  · subst hq0
    obtain ⟨hok, hx0, hxl⟩ : setOk d = true ∧ 0 ≤ x ∧ x < d.gl.length := by
      rcases hcs with h1 | h1 | h1
      · cases h1
      · cases h1
      · exact h1.2
    have hRF : R = whoF d x := by rw [hR, whoR, ← hq, if_pos rfl]
    simp only [if_true] at hC
    have hl := hr.1
    obtain ⟨t, ht⟩ := ord_at (set_is hok).2.2 hx0 hxl
    have hn40 : h.gl.n ≤ 40 := by rw [← hl]; exact (set_is hok).1
    have hall : ∀ (t' : Nat) (y : Int), (order (tgts d.gl))[t']? = some y → ∃ g, d.gl[y.toNat]? = some g := fun t' y hy => by
      obtain ⟨h0, h1⟩ := (order_ord (tgts d.gl)).rng _ (List.mem_of_getElem? hy)
      rw [tgts_length] at h1
      exact ⟨_, List.getElem?_eq_getElem (by omega)⟩
    have hCb := cntF_bd d.gl (order (tgts d.gl)) x
    rw [← hC] at hCb
    have hlen : C ≤ 12 → ((whoW d x).length : Int) = C := fun h12 => by
      rw [hC]
      exact wholeF_len (order_ord _) t x ht (hall t x ht) hall (0, 0) (by rw [← hC]; exact h12)
    have hKb : ∀ K ∈ whoW d x, K.length ≤ 60 := wholeF_bd (order_ord _) (set_glb hok) t x ht (0, 0)
    have hwhole := Lib.hid (fun (W : World) (h12 : C ≤ 12) (hBW : Below w.heap.size w W) => wholeLoops_any d.unit h.gl.A h.gl.n h.gl.c lo hi d.gl (order (tgts d.gl)) (order_ord _) hl hn40 (set_glb hok) t x 0 0 W ht (by rw [← hC]; exact h12) (by have := (List.getElem?_eq_some_iff.1 ht).1; have := (order_ord (tgts d.gl)).le; rw [tgts_length] at this; omega) (by have := (List.getElem?_eq_some_iff.1 ht).1; have := (order_ord (tgts d.gl)).le; rw [tgts_length] at this; omega) (GsRc.rd (hr.frame good_glyphc (Below.sameB hBW hhi))) (Nat.le_trans hhi hBW.size))
    have hW : wholeF d.gl (cntF d.gl (order (tgts d.gl))) (order (tgts d.gl)) x (0, 0) = whoW d x := rfl
    rw [hW] at hwhole
    obtain ⟨v2, hv2⟩ : ∃ v, v = outOk (whoW d x) := ⟨_, rfl⟩
    have hRR : R = if 12 < C then ([], 5) else if v2 then (whoW d x, 0) else ([], 2) := by rw [hRF, whoF, ← hC, ← hv2]
    obtain ⟨Lw, hLw⟩ : ∃ l, l = whoW d x := ⟨_, rfl⟩
    rw [← hLw] at hlen hKb hwhole hv2 hRR
    replace hC := Lib.hid hC
    replace hLw := Lib.hid hLw
    replace hRR := Lib.hid hRR
    replace hv2 := Lib.hid hv2
    clear hR hRF hW hq hm hs hcs hall hr
    go_enter Tryz.func22, Tryz.ntmps22
    go_wp2_with fail
    rw [← hw0]
    go_wp2_with fail
    refine hc.out.mono ?_
    rintro e w1 ⟨rfl, hb1⟩
    have hz1 := hb1.size
    have hB1 : Below w.heap.size w w1 := hB0.trans (hb1.mono (by omega))
    have HR := (hb1.block (w.heap.size + 1) (by omega)).trans hnew.2
    have cR : w1.cell? ⟨w.heap.size + 1, 0, none⟩ = some (.slice none 0 0) := by rw [Go.Joins.cell_of_block HR]; rfl
    have fR : ∀ o, w1.frozen? ⟨w.heap.size + 1, o, none⟩ = false := Go.Joins.unfrozen_of_block HR
    have hRl : w.heap.size + 1 < w1.heap.size := by omega
    by_cases h12 : 12 < C
    · have hm' := hRR.out
      rw [if_pos h12] at hm'
      subst hm'
      clear hc hb1 hnew k0 k1
      go_wp2_with fail
      refine bodyPost_ret (v := .tuple #[.agg #[.slice none 0 0], .int .i64 5]) (by simp [results, Tryz.results22, go_sem, cR]) rfl ⟨none, 0, 0, rfl, own_emptyW _ _, hB1.setCell (p := ⟨w.heap.size + 1, 0, none⟩) (by simp) _⟩
    have hm' := hRR.out
    rw [if_neg h12] at hm'
    have hm2 := Lib.hid hm'
    have hl12 := hlen (by omega)
    clear hm'
    by_cases hC0 : 0 < C
    · have j0 : w1.cell? ⟨w.heap.size, 0, none⟩ = some (.int .i64 d.unit) := (hb1.cell (by simp; omega)).trans k0
      have j1 : w1.cell? ⟨w.heap.size, 1, none⟩ = some (.slice h.gl.A h.gl.n h.gl.c) := (hb1.cell (by simp; omega)).trans k1
      have hwl1 : w.heap.size < w1.heap.size := by omega
      go_wp2_with fail
      refine (hwhole.out _ (by omega) (hB1.alloc hB1.size _)).mono ?_
      rintro e w2 ⟨A2, k2, c2, ys2, rfl, hk2, hto2, hb2⟩
      have hzW : (w1.alloc (.cells #[.slice none 0 0] 24 (0, 0))).heap.size = w1.heap.size + 1 := by simp
      rw [hzW] at hto2 hb2
      have hz2 := hb2.size
      rw [hzW] at hz2
      have hown : OutOwn w2 (w1.heap.size + 1) A2 k2 c2 Lw := ⟨ys2, hk2.symm, hto2.1, fun j K hj => hto2.2.1 j K (by rw [hk2]; exact (List.getElem?_eq_some_iff.1 hj).1) hj, hto2.2.2⟩
      have hB2 : Below w.heap.size w w2 := (hB1.alloc hB1.size _).trans (hb2.mono (by omega))
      have HX := (hb2.block w1.heap.size (by omega)).trans (heap_alloc_new w1 _)
      have fX : ∀ o, w2.frozen? ⟨w1.heap.size, o, none⟩ = false := Go.Joins.unfrozen_of_block HX
      have hXl : w1.heap.size < w2.heap.size := by omega
      have cX : w2.cell? ⟨w1.heap.size, 0, none⟩ = some (.slice none 0 0) := by rw [Go.Joins.cell_of_block HX]; rfl
      have HR2 := ((hb2.block (w.heap.size + 1) (by omega)).trans ((Below.heap_alloc w1 _ (w.heap.size + 1) (by omega)))).trans HR
      have fR2 : ∀ o, w2.frozen? ⟨w.heap.size + 1, o, none⟩ = false := Go.Joins.unfrozen_of_block HR2
      have cR2 : w2.cell? ⟨w.heap.size + 1, 0, none⟩ = some (.slice none 0 0) := by rw [Go.Joins.cell_of_block HR2]; rfl
      have hRl2 : w.heap.size + 1 < w2.heap.size := by omega
      have hown3 := hown.stored_below (a := ⟨w1.heap.size, 0, none⟩) (by simp) (.slice A2 k2 c2)
      have hk12 : k2 ≤ 12 := by omega
      have hval := Lib.hid (validOutline_any A2 k2 c2 (w1.heap.size + 1) (w2.setCell ⟨w1.heap.size, 0, none⟩ (.slice A2 k2 c2)).heap.size Lw v2 hv2.out _ (hown3.rd (fun K hK => by have := hKb K hK; unfold maxLen; omega)) (Nat.le_refl _) (by omega) (fun K hK => by have := hKb K hK; omega))
      replace hown3 := Lib.hid hown3
      replace hk2 := Lib.hid hk2
      clear hc hb1 k0 k1 j0 j1 hown hto2 hwhole
      go_wp2_with fail
      refine hval.out.mono ?_
      rintro e w3 ⟨rfl, hb3⟩
      have hzs : (w2.setCell ⟨w1.heap.size, 0, none⟩ (.slice A2 k2 c2)).heap.size = w2.heap.size := by simp
      have hz3 := hb3.size
      rw [hzs] at hz3 hb3
      have HX3 : w3.heap[w1.heap.size]? = some (.cells #[.slice A2 k2 c2] 24 (0, 0)) := (hb3.block w1.heap.size (by omega)).trans (Go.Joins.block_setCell HX _)
      have cX3 : w3.cell? ⟨w1.heap.size, 0, none⟩ = some (.slice A2 k2 c2) := by rw [Go.Joins.cell_of_block HX3]; rfl
      have HR3 := ((hb3.block (w.heap.size + 1) (by omega)).trans (Below.heap_setCell w2 ⟨w1.heap.size, 0, none⟩ _ (w.heap.size + 1) (by simp; omega))).trans HR2
      have fR3 : ∀ o, w3.frozen? ⟨w.heap.size + 1, o, none⟩ = false := Go.Joins.unfrozen_of_block HR3
      have cR3 : w3.cell? ⟨w.heap.size + 1, 0, none⟩ = some (.slice none 0 0) := by rw [Go.Joins.cell_of_block HR3]; rfl
      have hRl3 : w.heap.size + 1 < w3.heap.size := by omega
      have hXl3 : w1.heap.size < w3.heap.size := by omega
      have hB3 : Below w.heap.size w w3 := (hB2.setCell (p := ⟨w1.heap.size, 0, none⟩) (by simp; omega) _).trans (hb3.mono (by omega))
      have hown4 := Lib.hid (hown3.out.kept (by rw [hzs]; exact hb3))
      clear hval hb3 HX HR2 fR2 cR2 HR fR cR fX cX hnew
      cases v2 with
      | false =>
        have hm3 := hm2.out
        simp only [Bool.false_eq_true, if_false] at hm3
        subst hm3
        go_wp2_with fail
        refine bodyPost_ret (v := .tuple #[.agg #[.slice none 0 0], .int .i64 2]) (by simp [results, Tryz.results22, go_sem, cR3]) rfl ⟨none, 0, 0, rfl, own_emptyW _ _, hB3.setCell (p := ⟨w.heap.size + 1, 0, none⟩) (by simp) _⟩
      | true =>
        have hm3 := hm2.out
        simp only [if_true] at hm3
        subst hm3
        go_wp2_with fail
        refine bodyPost_ret (v := .tuple #[.agg #[.slice A2 k2 c2], .int .i64 0]) (by simp [results, Tryz.results22, go_sem, cR3]) rfl ⟨A2, k2, c2, rfl, (hown4.out.stored_below (a := ⟨w.heap.size + 1, 0, none⟩) (by simp; omega) _).base (by omega), hB3.setCell (p := ⟨w.heap.size + 1, 0, none⟩) (by simp) _⟩
    · have hL0 : Lw = [] := List.length_eq_zero_iff.1 (by omega)
      subst hL0
      have e2 : v2 = true := by rw [hv2.out]; rfl
      subst e2
      have hm3 := hm2.out
      simp only [if_true] at hm3
      subst hm3
      have hzW : (w1.alloc (.cells #[.slice none 0 0] 24 (0, 0))).heap.size = w1.heap.size + 1 := by simp
      have hval := Lib.hid (validOutline_any none 0 0 0 0 [] true rfl (w1.alloc (.cells #[.slice none 0 0] 24 (0, 0))) ⟨rfl, fun h => absurd h (Nat.lt_irrefl 0)⟩ (Nat.zero_le _) (by omega) (fun K hK => by cases hK))
      go_wp2_with fail
      refine hval.out.mono ?_
      rintro e w3 ⟨rfl, hb3⟩
      have hz3 := hb3.size
      rw [hzW] at hz3 hb3
      have HX3 := (hb3.block w1.heap.size (by omega)).trans (heap_alloc_new w1 _)
      have cX3 : w3.cell? ⟨w1.heap.size, 0, none⟩ = some (.slice none 0 0) := by rw [Go.Joins.cell_of_block HX3]; rfl
      have HR3 := ((hb3.block (w.heap.size + 1) (by omega)).trans (Below.heap_alloc w1 _ (w.heap.size + 1) (by omega))).trans HR
      have fR3 : ∀ o, w3.frozen? ⟨w.heap.size + 1, o, none⟩ = false := Go.Joins.unfrozen_of_block HR3
      have cR3 : w3.cell? ⟨w.heap.size + 1, 0, none⟩ = some (.slice none 0 0) := by rw [Go.Joins.cell_of_block HR3]; rfl
      have hRl3 : w.heap.size + 1 < w3.heap.size := by omega
      have hXl3 : w1.heap.size < w3.heap.size := by omega
      have hB3 : Below w.heap.size w w3 := (hB1.alloc hB1.size _).trans (hb3.mono (by omega))
      clear hval hb3 HR fR cR hnew hc k0 k1 hwhole
      go_wp2_with fail
      refine bodyPost_ret (v := .tuple #[.agg #[.slice none 0 0], .int .i64 0]) (by simp [results, Tryz.results22, go_sem, cR3]) rfl ⟨none, 0, 0, rfl, own_emptyW _ _, hB3.setCell (p := ⟨w.heap.size + 1, 0, none⟩) (by simp) _⟩
end Go.Proofs.YtgdkabljgabjoaaGreatDoor

/- The users of a glyph: the program's side. Conditions: as each states. -/
namespace Go.Proofs.YtgdkabljgabjoaaGreatDoor
open Go.RowKit
set_option linter.unusedVariables false
set_option maxRecDepth 100000

theorem partGlyph_any (bb : Nat) (x0 x1 x2 gl : Int) (t : Bool) (ht : t = decide (x0 = gl)) (w : World) (hc : w.cell? ⟨bb, 0, none⟩ = some (.int .i64 gl)) (hb : bb < w.heap.size) :
    Calls Tryz.prog 64 #[.agg #[.int .i64 x0, .int .i64 x1, .int .i64 x2], .pointer (some ⟨bb, 0, none⟩)] w fun e w' => e = .returned (.bool t) ∧ Below w.heap.size w w' := by
  cases t
  · have u : (x0 == gl) = false := by simpa using (of_decide_eq_false ht.symm)
    clear ht
    go_enter Tryz.func64, Tryz.ntmps64
    go_wp2_with fail
    go_ret
    exact ⟨rfl, Go.Joins.below_alloc1 _ _⟩
  · have u : (x0 == gl) = true := by simpa using (of_decide_eq_true ht.symm)
    clear ht
    go_enter Tryz.func64, Tryz.ntmps64
    go_wp2_with fail
    go_ret
    exact ⟨rfl, Go.Joins.below_alloc1 _ _⟩

set_option maxHeartbeats 2000000 in
theorem partIndex_any (A : Option Addr) (n c lo hi : Nat) (K : List Part) (bb : Nat) (gl : Int) (w : World) (hr : RdS 3 (FlatR partC) w lo hi A n K) (hhi : hi ≤ w.heap.size) (hn : n ≤ 1000000000) (hc : w.cell? ⟨bb, 0, none⟩ = some (.int .i64 gl)) (hb : bb < w.heap.size) :
    Calls Tryz.prog 105 #[.slice A n c, .func (.func 64) #[] #[.pointer (some ⟨bb, 0, none⟩)]] w fun e w' => ∃ r : Int, e = .returned (.int .i64 r) ∧ decide (0 ≤ r) = usedIn K gl ∧ Below w.heap.size w w' := by
  replace hr := Lib.hid hr
  replace hc := Lib.hid hc
  go_enter Tryz.func105, Tryz.ntmps105
  go_wp2_with fail
  go_loopw [8] (fun i wr => ∃ k : Nat, i = .int .i64 k ∧ k ≤ n ∧ usedIn (K.take k) gl = false ∧ Below w.heap.size w wr) (fun i wr => n - (intOf i).toNat)
  case atStart => exact ⟨0, rfl, Nat.zero_le _, rfl, Below.refl _ _⟩
  case round =>
    obtain ⟨k, rfl, hk, hall, hbel⟩ := hrel
    replace hall := Lib.hid hall
    have hsz := hbel.size
    by_cases hlt : k < n
    · obtain ⟨b1, o1, ⟨x0, x1, x2⟩, rfl, _, hbw, hja, hcs⟩ := (hr.out.frame (good_flat _) (Below.sameB hbel hhi)).at hlt
      have q0 := hcs 0 _ rfl
      have q1 := hcs 1 _ rfl
      have q2 := hcs 2 _ rfl
      simp only [Nat.add_zero] at q0 q1 q2
      clear hcs
      obtain ⟨t, ht⟩ : ∃ t, t = decide (x0 = gl) := ⟨_, rfl⟩
      have hst := usedIn_step (x := gl) hja
      rw [hall.out, Bool.false_or, ← ht] at hst
      have hsub : usedIn (K.take (k + 1)) gl = true → usedIn K gl = true := fun h => by
        unfold usedIn at h ⊢
        rw [List.any_eq_true] at h ⊢
        obtain ⟨p, hp, h⟩ := h
        exact ⟨p, List.mem_of_mem_take hp, h⟩
      replace hja := Lib.hid hja
      have hcall := Lib.hid (partGlyph_any bb x0 x1 x2 gl t ht wr ((hbel.cell hb).trans hc.out) (by omega))
      replace ht := Lib.hid ht
      replace hst := Lib.hid hst
      replace hsub := Lib.hid hsub
      have hbw' : b1 < wr.heap.size := by omega
      go_wp2_with fail
      refine hcall.out.mono ?_
      rintro e w1 ⟨rfl, hb1⟩
      cases t
      · go_wp2_with fail
        go_roundw
        case rel => exact ⟨k + 1, by go_num, by omega, hst.out, hbel.trans (hb1.mono hbel.size)⟩
        case measure => simp [intOf]; omega
      · go_wp2_with fail
        go_ret
        exact ⟨k, rfl, by rw [hsub.out hst.out]; simp, hbel.trans (hb1.mono hbel.size)⟩
    · have hkn : k = n := by omega
      have hfin := Lib.hid (show usedIn K gl = false from by have := hall.out; rwa [hkn, List.take_of_length_le (Nat.le_of_eq hr.out.1)] at this)
      replace hkn := Lib.hid hkn
      go_wp2_with fail
      go_ret
      exact ⟨-1, rfl, by rw [hfin.out]; rfl, hbel⟩
theorem partContains_any (A : Option Addr) (n c lo hi : Nat) (K : List Part) (bb : Nat) (gl : Int) (b : Bool) (hbb : b = usedIn K gl) (w : World) (hr : RdS 3 (FlatR partC) w lo hi A n K) (hhi : hi ≤ w.heap.size) (hn : n ≤ 1000000000) (hc : w.cell? ⟨bb, 0, none⟩ = some (.int .i64 gl)) (hb : bb < w.heap.size) :
    Calls Tryz.prog 63 #[.slice A n c, .func (.func 64) #[] #[.pointer (some ⟨bb, 0, none⟩)]] w fun e w' => e = .returned (.bool b) ∧ Below w.heap.size w w' := by
  have hi := Lib.hid (partIndex_any A n c lo hi K bb gl w hr hhi hn hc hb)
  replace hbb := Lib.hid hbb
  clear hr hc
  go_enter Tryz.func63, Tryz.ntmps63
  go_wp2_with fail
  refine hi.out.mono ?_
  rintro e w1 ⟨r, rfl, hd, hb1⟩
  replace hd := Lib.hid hd
  go_wp2_with fail
  go_ret
  exact ⟨ret_bool (by rw [hbb.out]; exact hd.out), hb1⟩

set_option maxHeartbeats 4000000 in
theorem implGlyphUsers_flat (d : GSet) (A0 : Option Addr) (n0 c0 : Nat) (x0 : Int) (U : List Int) (r : Int) (hU : U = useU d x0) (hrq : r = askR d x0) (lo hi : Nat) (w : World) (hr : GsRc w lo hi A0 n0 d.gl) (hhi : hi ≤ w.heap.size) (hm : d.small 1000000000) (hs : ∀ g ∈ d.gl, g.str) :
    Calls Tryz.prog 23 #[.agg #[.int .i64 d.unit, .slice A0 n0 c0], .int .i64 x0] w fun e w' => ∃ A' c', e = .returned (.tuple #[.slice A' U.length c', .int .i64 r]) ∧ w'.ownsRow w.heap.size 2 1 (.slice A' U.length c') U.length (U.flatMap intC) ∧ Below w.heap.size w w' := by
  have hB0 : Below w.heap.size w ((w.alloc (.cells #[.int .i64 d.unit, .slice A0 n0 c0] 36 (0, 0))).alloc (.cells #[.int .i64 x0] 2 (0, 0))) := Go.Joins.below_alloc2 _ _ _
  have hnew := heap_new2 w (.cells #[.int .i64 d.unit, .slice A0 n0 c0] 36 (0, 0)) (.cells #[.int .i64 x0] 2 (0, 0))
  have hc := Lib.hid (checkGlyph_any d ⟨⟨A0, n0, c0⟩⟩ x0 r hrq lo hi ((w.alloc (.cells #[.int .i64 d.unit, .slice A0 n0 c0] 36 (0, 0))).alloc (.cells #[.int .i64 x0] 2 (0, 0))) (hr.frame good_glyphc (Below.sameB hB0 hhi)) (Nat.le_trans hhi hB0.size) hm hs)
  have k1 : ((w.alloc (.cells #[.int .i64 d.unit, .slice A0 n0 c0] 36 (0, 0))).alloc (.cells #[.int .i64 x0] 2 (0, 0))).cell? ⟨w.heap.size, 0 + 1, none⟩ = some (.slice A0 n0 c0) := by rw [Go.Joins.cell_of_block hnew.1]; rfl
  have k3 : ((w.alloc (.cells #[.int .i64 d.unit, .slice A0 n0 c0] 36 (0, 0))).alloc (.cells #[.int .i64 x0] 2 (0, 0))).cell? ⟨w.heap.size + 1, 0, none⟩ = some (.int .i64 x0) := by rw [Go.Joins.cell_of_block hnew.2]; rfl
  have hz : w.heap.size + 1 < ((w.alloc (.cells #[.int .i64 d.unit, .slice A0 n0 c0] 36 (0, 0))).alloc (.cells #[.int .i64 x0] 2 (0, 0))).heap.size := by simp
  clear hnew
  have hcs := ask_cases d x0
  unfold useU at hU
  rw [← hrq] at hcs hU
  by_cases hq0 : r = 0
  rotate_left
  · rw [if_neg hq0] at hU
    subst hU
    have hq1 : r = 1 ∨ r = 2 := by omega
    replace hrq := Lib.hid hrq
    clear hr hm hs hcs k1 k3 hq0
    rcases hq1 with rfl | rfl
    all_goals
      go_enter Tryz.func23, Tryz.ntmps23
      go_wp2_with fail
      refine hc.out.mono ?_
      rintro e w1 ⟨rfl, hb1⟩
      go_wp2_with fail
      go_ret2
      exact ⟨none, 0, rfl, World.ownsRow_nil _ _ _ _, hB0.trans (hb1.mono hB0.size)⟩
  · rw [if_pos hq0] at hU
    obtain ⟨_, hok, hx0, hxn⟩ : r = 0 ∧ setOk d = true ∧ 0 ≤ x0 ∧ x0 < d.gl.length := by rcases hcs with h1 | h1 | h1; omega; omega; exact h1
    subst hq0
    have hl := hr.1
    obtain ⟨hn40, hgok, hfull⟩ := set_is hok
    have hn : n0 ≤ 40 := by omega
    rw [hl] at hU
    have hpn := Lib.hid (fun (g : Gl) (hg : g ∈ d.gl) => (glyph_is (hgok g hg)).2.1)
    replace hU := Lib.hid hU
    replace hrq := Lib.hid hrq
    replace hl := Lib.hid hl
    replace hr := Lib.hid (GsRc.rd hr)
    clear hm hs hcs hok hn40 hgok hfull hxn
    go_enter Tryz.func23, Tryz.ntmps23
    go_wp2_with fail
    refine hc.out.mono ?_
    rintro e w1 ⟨rfl, hb1⟩
    have hB1 := hB0.trans (hb1.mono hB0.size)
    have k2 := (hb1.cell (p := ⟨w.heap.size, 0 + 1, none⟩) (by simp; omega)).trans k1
    have k4 := (hb1.cell (p := ⟨w.heap.size + 1, 0, none⟩) hz).trans k3
    have hz1 : w.heap.size + 1 < w1.heap.size := Nat.lt_of_lt_of_le hz hb1.size
    have hs1 : w.heap.size ≤ w1.heap.size := by omega
    simp only [Nat.zero_add] at k2
    clear hc hb1 k1 k3 hz
    go_wp2_with fail
    go_loopw [7, 19] (fun v7 v8 wr => ∃ (k : Nat) (A' : Option Addr) (c' : Nat), v8 = .int .i64 k ∧ k ≤ n0 ∧ v7 = .slice A' (usersT d.gl x0 k).length c' ∧ wr.ownsRow w1.heap.size 2 1 (.slice A' (usersT d.gl x0 k).length c') (usersT d.gl x0 k).length ((usersT d.gl x0 k).flatMap intC) ∧ Below w1.heap.size w1 wr) (fun v7 v8 wr => n0 - (intOf v8).toNat)
    case atStart => exact ⟨0, none, 0, rfl, Nat.zero_le _, rfl, World.ownsRow_nil _ _ _ _, Below.refl _ _⟩
    case round =>
      obtain ⟨k, A', c', rfl, hk, rfl, ho, hbel⟩ := hrel
      have hsz := hbel.size
      have kr := (hbel.cell (p := ⟨w.heap.size, 1, none⟩) (by show w.heap.size < _; omega)).trans k2
      have kq := (hbel.cell (p := ⟨w.heap.size + 1, 0, none⟩) hz1).trans k4
      have hzr : w.heap.size + 1 < wr.heap.size := by omega
      have hB3 := hB1.trans (hbel.mono hB1.size)
      by_cases hlt : k < n0
      · obtain ⟨b1, f1, g, hh, rfl, hb0, hb1, hja, hcs, hrg⟩ := gs_at (hr.out.frame good_glyph (Below.sameB hB3 hhi)) hlt
        have hki : (0 : Int) ≤ (k : Int) ∧ (k : Int) < (n0 : Int) := by omega
        have hgp : hh.parts.n ≤ 6 := by rw [← hrg.2.1.1]; exact hpn.out g (List.mem_of_getElem? hja)
        have hnext := usersT_next (x := x0) hja
        have hUl := usersT_len (L := d.gl) (x := x0) (k := k)
        obtain ⟨V, hV⟩ : ∃ V, V = usersT d.gl x0 k := ⟨_, rfl⟩
        obtain ⟨V2, hV2⟩ : ∃ V2, V2 = usersT d.gl x0 (k + 1) := ⟨_, rfl⟩
        obtain ⟨b, hb⟩ : ∃ b, b = usedIn g.parts x0 := ⟨_, rfl⟩
        rw [← hV] at ho hnext hUl ⊢
        rw [← hV2, ← hb] at hnext
        have q0 := hcs 0 _ rfl
        have q1 := hcs 1 _ rfl
        have q2 := hcs 2 _ rfl
        have q3 := hcs 3 _ rfl
        have q4 := hcs 4 _ rfl
        have q5 := hcs 5 _ rfl
        have q6 := hcs 6 _ rfl
        simp only [Nat.add_zero] at q0 q1 q2 q3 q4 q5 q6
        have hb1w : b1 < wr.heap.size := by omega
        have hcall := Lib.hid (fun (W : World) (hW : Below wr.heap.size wr W) => partContains_any hh.parts.A hh.parts.n hh.parts.c lo hi g.parts (w.heap.size + 1) x0 b hb W (hrg.2.1.frame (good_flat _) (Below.sameB hW (by omega))) (by have := hW.size; omega) (by omega) ((hW.cell hzr).trans kq) (by have := hW.size; omega))
        have ho := Lib.hid ho
        replace hV := Lib.hid hV
        replace hV2 := Lib.hid hV2
        replace hb := Lib.hid hb
        replace hja := Lib.hid hja
        clear hcs hrg
        cases b with
        | true =>
          rw [if_pos rfl] at hnext
          replace hnext := Lib.hid hnext
          go_wp2_with fail
          refine (hcall.out _ (Go.Joins.below_alloc1 _ _)).mono ?_
          rintro e w2 ⟨rfl, hb2⟩
          have hb2s := hb2.size
          simp at hb2s
          have ho2 := Lib.hid (own_below (own_below ho.out (Go.Joins.below_alloc1 _ _)) hb2)
          have hb3 := (hbel.alloc hsz _).trans (hb2.mono (by simp; omega))
          clear hb2 hcall
          go_wp2_with (at_builtin; refine wpApp rfl (.tmp 28) (.tmp 30) elemInt64 rfl (base := w1.heap.size) (v := .slice A' V.length c') rfl (ho2.out.alloc _) rfl (src_at (cs := [.int .i64 (k : Int)]) rfl (by simp [Value.oneCell']) (by simp)) (by omega) (by omega) (by simp; omega) (V.length + 1) rfl ?_; intro A3 c3 w3 ho3 hb4; replace ho3 := Lib.hid ho3)
          go_roundw
          case rel =>
            have hb5 := (hb3.alloc (by omega) _).trans hb4
            refine ⟨k + 1, A3, c3, by go_num, by omega, ?_, ?_, hb5⟩
            · rw [← hV2.out, hnext.out, List.length_append]; rfl
            · rw [← hV2.out, hnext.out, flat_int_snoc, List.length_append]; exact ho3.out
          case measure => simp [intOf]; omega
        | false =>
          rw [if_neg (by simp)] at hnext
          replace hnext := Lib.hid hnext
          go_wp2_with fail
          refine (hcall.out _ (Go.Joins.below_alloc1 _ _)).mono ?_
          rintro e w2 ⟨rfl, hb2⟩
          have hb2s := hb2.size
          simp at hb2s
          have ho2 := Lib.hid (own_below (own_below ho.out (Go.Joins.below_alloc1 _ _)) hb2)
          have hb3 := (hbel.alloc hsz _).trans (hb2.mono (by simp; omega))
          clear hb2 hcall
          go_wp2_with fail
          go_roundw
          case rel =>
            refine ⟨k + 1, A', c', by go_num, by omega, ?_, ?_, hb3⟩
            · rw [← hV2.out, hnext.out]
            · rw [← hV2.out, hnext.out]; exact ho2.out
          case measure => simp [intOf]; omega
      · have hkn : k = n0 := by omega
        have hUk := Lib.hid (show U = usersT d.gl x0 k by rw [hU.out, hkn])
        replace hkn := Lib.hid hkn
        have hoz := Lib.hid (own_lower ho hs1)
        obtain ⟨V, hV⟩ : ∃ V, V = usersT d.gl x0 k := ⟨_, rfl⟩
        rw [← hV] at hoz hUk ⊢
        clear ho
        go_wp2_with fail
        go_ret2
        have hUe := hUk.out
        subst hUe
        exact ⟨A', c', rfl, hoz.out, hB3⟩
theorem implGlyphUsers_any (d : GSet) (h : GSetH) (x0 : Int) (U : List Int) (r : Int) (hU : U = useU d x0) (hrq : r = askR d x0) (lo hi : Nat) (w : World) (hr : GSetRc w lo hi d h) (hhi : hi ≤ w.heap.size) (hm : d.small 1000000000) (hs : ∀ g ∈ d.gl, g.str) :
    Calls Tryz.prog 23 #[gsV d h, .int .i64 x0] w fun e w' => ∃ A' c', e = .returned (.tuple #[.slice A' U.length c', .int .i64 r]) ∧ w'.ownsRow w.heap.size 2 1 (.slice A' U.length c') U.length (U.flatMap intC) ∧ Below w.heap.size w w' :=
  implGlyphUsers_flat d h.gl.A h.gl.n h.gl.c x0 U r hU hrq lo hi w hr hhi hm hs
end Go.Proofs.YtgdkabljgabjoaaGreatDoor

