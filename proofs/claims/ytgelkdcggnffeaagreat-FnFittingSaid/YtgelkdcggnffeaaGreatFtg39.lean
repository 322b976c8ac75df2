/- Regions, as outlines are: XCopy turned. Conditions: as each states. -/
import Derived.Test.YtgelkdcggnffeaaGreatFtg33
import Derived.Test.YtgelkdcggnffeaaGreatFtg07
import Derived.Test.YtgelkdcggnffeaaGreatFtg38
import Derived.Test.YtgelkdcggnffeaaGreatFtg35
namespace Go.Proofs.YtgelkdcggnffeaaGreat
open Go.RowKit
set_option linter.unusedVariables false
set_option maxRecDepth 100000

/-- the first k loops stand in the row ys, each in a block of its own -/
def RegTo (w : World) (lo : Nat) (Ao : Option Addr) (k co : Nat) (ys : List Value) (Ls : List (List (Int × Int))) : Prop := w.ownsRow lo 41 1 (.slice Ao k co) k ys ∧
  (∀ (j : Nat) (K : List (Int × Int)), j < k → Ls[j]? = some K → ∃ (Aj : Option Addr) (cj : Nat), ys[j]? = some (.slice Aj K.length cj) ∧ w.ownsRow lo 71 2 (.slice Aj K.length cj) K.length (K.flatMap ptC)) ∧
  (∀ (i j : Nat) (u v : Value), i ≠ j → ys[i]? = some u → ys[j]? = some v → ApartV u v)
theorem RegTo.kept {w w' : World} {lo k co : Nat} {Ao : Option Addr} {ys : List Value} {Ls : List (List (Int × Int))} (h : RegTo w lo Ao k co ys Ls) (hb : Below w.heap.size w w') : RegTo w' lo Ao k co ys Ls := by
  obtain ⟨h1, h2, h3⟩ := h
  refine ⟨own_below h1 hb, fun j K hj hK => ?_, h3⟩
  obtain ⟨Aj, cj, h4, h5⟩ := h2 j K hj hK
  exact ⟨Aj, cj, h4, own_below h5 hb⟩
theorem RegTo.set {w : World} {lo k co : Nat} {Ao : Option Addr} {ys : List Value} {Ls : List (List (Int × Int))} (h : RegTo w lo Ao k co ys Ls) {a : Addr} (ha : a.block < lo) (u : Value) : RegTo (w.setCell a u) lo Ao k co ys Ls := by
  obtain ⟨h1, h2, h3⟩ := h
  refine ⟨ownsRow_setCell_below h1 ha u, fun j K hj hK => ?_, h3⟩
  obtain ⟨Aj, cj, h4, h5⟩ := h2 j K hj hK
  exact ⟨Aj, cj, h4, ownsRow_setCell_below h5 ha u⟩
/-- one loop more: a row that lies above all that stood before, appended -/
theorem RegTo.next {w w1 w2 : World} {lo B k co c2 cc : Nat} {Ao A2 A3 : Option Addr} {ys : List Value} {Ls : List (List (Int × Int))} {K : List (Int × Int)} (h : RegTo w lo Ao k co ys Ls) (hK : Ls[k]? = some K)
    (hb : Below w.heap.size w w1) (hr : w1.ownsRow B 71 2 (.slice A2 K.length c2) K.length (K.flatMap ptC)) (hB : w.heap.size ≤ B) (hlo : lo ≤ w.heap.size)
    (ho : w2.ownsRow lo 41 1 (.slice A3 (k + 1) cc) (k + 1) (ys ++ [.slice A2 K.length c2])) (hg : w1.grownBy w2 (Value.slice Ao k co).ownBlock) : RegTo w2 lo A3 (k + 1) cc (ys ++ [.slice A2 K.length c2]) Ls := by
  obtain ⟨h1, h2, h3⟩ := h
  have h1' := own_below h1 hb
  have hyl := h1.1
  rw [Nat.mul_one] at hyl
  have hne : ∀ {g : Nat} {v : Value} {n : Nat} {xs : List Value} {B' : Nat}, w1.ownsRow B' 71 2 v n xs → v.ownBlock = some g → w2.heap[g]? = w1.heap[g]? := fun {g v n xs B'} hv hg' =>
    hg.block g (hv.lt g hg').2 fun e => own_ne_kind hv h1' (by decide) hg' e.symm
  refine ⟨ho, fun j K' hj hK' => ?_, fun i j u v hij hu hv => ?_⟩
  · by_cases hjk : j = k
    · subst hjk
      have e := Option.some.inj (hK.symm.trans hK')
      subst e
      refine ⟨A2, c2, by rw [List.getElem?_append_right (by omega), hyl]; simp, own_lower (own_same hr fun g hg' => hne hr hg') (by omega)⟩
    · obtain ⟨Aj, cj, h4, h5⟩ := h2 j K' (by omega) hK'
      refine ⟨Aj, cj, by rw [List.getElem?_append_left (by omega)]; exact h4, own_same (own_below h5 hb) fun g hg' => hne (own_below h5 hb) hg'⟩
  · have hold : ∀ (j : Nat) (v : Value), j < k → ys[j]? = some v → j < Ls.length → ∀ g, v.ownBlock = some g → g < w.heap.size := fun j v hj hv hjl g hg' => by
      obtain ⟨Aj, cj, h4, h5⟩ := h2 j _ hj (List.getElem?_eq_getElem hjl)
      rw [hv] at h4
      injection h4 with h4
      subst h4
      exact (h5.lt g hg').2
    have hkl := (List.getElem?_eq_some_iff.1 hK).1
    have hil := (List.getElem?_eq_some_iff.1 hu).1
    have hjl := (List.getElem?_eq_some_iff.1 hv).1
    simp at hil hjl
    by_cases hik : i < k
    · rw [List.getElem?_append_left (by omega)] at hu
      by_cases hjk : j < k
      · rw [List.getElem?_append_left (by omega)] at hv
        exact h3 i j u v hij hu hv
      · obtain rfl : j = k := by omega
        rw [List.getElem?_append_right (by omega), hyl] at hv
        simp at hv
        subst hv
        intro g hgu hgv
        have := hold i u hik hu (by omega) g hgu
        have := (hr.lt g hgv).1
        omega
    · obtain rfl : i = k := by omega
      rw [List.getElem?_append_right (by omega), hyl] at hu
      rw [List.getElem?_append_left (by omega)] at hv
      simp at hu
      subst hu
      intro g hgu hgv
      have := hold j v (by omega) hv (by omega) g hgv
      have := (hr.lt g hgu).1
      omega
end Go.Proofs.YtgelkdcggnffeaaGreat

/- The region along an outline: the reference's side. Printed by mk_fo3.py. Conditions: as each states. -/
namespace Go.Proofs.YtgelkdcggnffeaaGreat
open Go.RowKit
set_option linter.unusedVariables false
set_option maxRecDepth 100000

theorem ringsL_all {Ks : List (List Knot)} (h : ∀ K ∈ Ks, ringL K ≠ none) : ringsL Ks = some (Ks.map fun K => (ringL K).getD []) := by
  induction Ks with
  | nil => rfl
  | cons K Ls ih =>
    have h1 := h K (List.mem_cons_self ..)
    rw [ringsL, ih (fun K' hK' => h K' (List.mem_cons_of_mem _ hK'))]
    cases hR : ringL K with
    | none => exact absurd hR h1
    | some R => simp [hR]
theorem ringsL_none {Ks : List (List Knot)} {K : List Knot} (hK : K ∈ Ks) (h : ringL K = none) : ringsL Ks = none := by
  induction Ks with
  | nil => cases hK
  | cons K' Ls ih =>
    rw [ringsL]
    rcases List.mem_cons.1 hK with e | e
    · rw [← e, h]
    · rw [ih e]; cases ringL K' <;> rfl
/-- the region along an outline, made by the call -/
def RegnTo (r : Option (List (List Pnt))) (n : Nat) (w : World) (e : Ending) (w' : World) : Prop :=
  (r = none ∧ ∃ A m c, e = .returned (.tuple #[.agg #[.slice A m c], .bool false])) ∨
  ∃ Rs A c, r = some Rs ∧ e = .returned (.tuple #[.agg #[.slice A n c], .bool true]) ∧ RegOwn w' w.heap.size A n c Rs ∧ ∀ R ∈ Rs, R.length ≤ 200000
theorem belowD2 {w w' : World} (h : Below w.drew.heap.size w.drew w') : Below w.heap.size w w' := (Below.drew (Below.refl w.heap.size w)).trans h
/-- a loop that can be laid flat -/
def FlatIn (K : List Knot) : Prop := 1 ≤ K.length ∧ K.length ≤ 1000 ∧ KsOk K ∧ (knAt K 0).2.2 = true

set_option maxHeartbeats 16000000 in
theorem l10Region_any (p po : Nat) (A : Option Addr) (n c lo hi : Nat) (Ks : List (List Knot)) (w : World) (hp : w.cell? ⟨p, po, none⟩ = some (.slice A n c)) (hr : OutRd w lo hi A n Ks) (hhi : hi ≤ w.heap.size) (hn : n ≤ 1000) (hK : ∀ K ∈ Ks, FlatIn K) :
    Calls Tryz.prog 26 #[.pointer (some ⟨p, po, none⟩), .int .i64 1] w fun e w' => RegnTo (flatO Ks) n w e w' ∧ Below w.heap.size w w' := by
  have hl := hr.1
  have hpl : p < w.heap.size := cell_lt hp
  have hb0 := Go.Joins.below_alloc2 w (.cells #[.slice none 0 0] 26 (0, 0)) (.cells #[.slice none 0 0] 26 (0, 0))
  have hz0 : ((w.alloc (.cells #[.slice none 0 0] 26 (0, 0))).alloc (.cells #[.slice none 0 0] 26 (0, 0))).heap.size = w.heap.size + 2 := by simp
  have hnew := heap_new2 w (.cells #[.slice none 0 0] 26 (0, 0)) (.cells #[.slice none 0 0] 26 (0, 0))
  have hr0 := Lib.hid (hr.frame good_loop (Below.sameB hb0 hhi))
  have hp0 := Lib.hid ((hb0.cell (p := ⟨p, po, none⟩) hpl).trans hp)
  obtain ⟨Fs, hFs⟩ : ∃ Fs : List (List Pnt), Fs = Ks.map fun K => (ringL K).getD [] := ⟨_, rfl⟩
  have hFa : ∀ (j : Nat) (K : List Knot) (R : List Pnt), Ks[j]? = some K → ringL K = some R → Fs[j]? = some R := fun j K R h h2 => by rw [hFs, List.getElem?_map, h]; simp [h2]
  have hFl : Fs.length = n := by rw [hFs, List.length_map, hl]
  replace hFs := Lib.hid hFs
  replace hFa := Lib.hid hFa
  replace hFl := Lib.hid hFl
  clear hp hr
  go_enter Tryz.func26, Tryz.ntmps26
  go_upto_region 2 with fail
  generalize (w.alloc (.cells #[.slice none 0 0] 26 (0, 0))).alloc (.cells #[.slice none 0 0] 26 (0, 0)) = v0 at *
  obtain ⟨X, hX⟩ : ∃ X, X = w.heap.size + 1 := ⟨_, rfl⟩
  rw [← hX] at hnew ⊢
  have hwX : w.heap.size < X := by omega
  have hXv : X + 1 ≤ v0.heap.size := by omega
  obtain ⟨hR0, hX0⟩ := hnew
  replace hR0 := Lib.hid hR0
  replace hX0 := Lib.hid hX0
  replace hX := Lib.hid hX
  have hB0 := Lib.hid hb0
  clear hb0
  go_wp2_with fail
  go_loopw [7] (fun iv wr => ∃ (k : Nat) (Ao : Option Addr) (co : Nat) (ys : List Value), iv = .int .i64 k ∧ k ≤ n ∧ RegTo wr (X + 1) Ao k co ys Fs ∧ wr.heap[X]? = some (.cells #[.slice Ao k co] 26 (0, 0)) ∧ (∀ j K, j < k → Ks[j]? = some K → ∃ R, ringL K = some R ∧ R.length ≤ 200000) ∧ Below X v0 wr) (fun iv wr => n - (intOf iv).toNat)
  case atStart => exact ⟨0, none, 0, [], rfl, Nat.zero_le _, ⟨World.ownsRow_nil _ _ _ _, fun j K hj => absurd hj (Nat.not_lt_zero j), fun i j u v _ hu => by simp at hu⟩, hX0.out, fun j L hj => absurd hj (Nat.not_lt_zero j), Below.refl _ _⟩
  case round =>
  clear hX0
  obtain ⟨k, Ao, co, ys, rfl, hk, hto, hXb, hsm, hbx⟩ := hrel
  generalize wr = xr at *
  have hzx := hbx.size
  have hXl : X < xr.heap.size := (Array.getElem?_eq_some_iff.1 hXb).1
  have hRx := Lib.hid ((hbx.block w.heap.size hwX).trans hR0.out)
  have hBx := Lib.hid (hB0.out.trans (hbx.mono (by omega)))
  have px : xr.cell? ⟨p, po, none⟩ = some (.slice A n c) := (hbx.cell (p := ⟨p, po, none⟩) (by show p < X; omega)).trans hp0.out
  have plx : p < xr.heap.size := by omega
  have rx : xr.cell? ⟨w.heap.size, 0, none⟩ = some (.slice none 0 0) := by rw [Go.Joins.cell_of_block hRx.out]; rfl
  have rfx := Go.Joins.unfrozen_of_block hRx.out
  have rlx : w.heap.size < xr.heap.size := by omega
  replace hto := Lib.hid hto
  replace hsm := Lib.hid hsm
  by_cases hlt : k < n
  rotate_left
  · have hkn : k = n := by omega
    subst hkn
    have hki : ¬ (k : Int) < (k : Int) := by omega
    have xc : xr.cell? ⟨X, 0, none⟩ = some (.slice Ao k co) := by rw [Go.Joins.cell_of_block hXb]; rfl
    have hall : ringsL Ks = some Fs := by
      rw [hFs.out]
      refine ringsL_all fun K hK => ?_
      obtain ⟨j, hj⟩ := List.mem_iff_getElem?.1 hK
      obtain ⟨R, h1, _⟩ := hsm.out j K (by have := (List.getElem?_eq_some_iff.1 hj).1; omega) hj
      rw [h1]; exact Option.some_ne_none _
    have hlen : ∀ R ∈ Fs, R.length ≤ 200000 := by
      intro R hR
      rw [hFs.out] at hR
      obtain ⟨K, hK, rfl⟩ := List.mem_map.1 hR
      obtain ⟨j, hj⟩ := List.mem_iff_getElem?.1 hK
      obtain ⟨R, h1, h2⟩ := hsm.out j K (by have := (List.getElem?_eq_some_iff.1 hj).1; omega) hj
      rw [h1]; exact h2
    have hown : RegOwn xr (X + 1) Ao k co Fs := by
      obtain ⟨g1, g2, g3⟩ := hto.out
      exact ⟨ys, hFl.out, g1, fun j K hj => g2 j K (by have := (List.getElem?_eq_some_iff.1 hj).1; have := hFl.out; omega) hj, g3⟩
    have hrd := hown.rd (fun K hK => Nat.le_trans (hlen K hK) (by decide))
    obtain ⟨v, hv⟩ : ∃ v, v = regOk Fs := ⟨_, rfl⟩
    have hok := Lib.hid (fun (W : World) (hb : Below xr.heap.size xr W) => l13Ok_any X 0 Ao k co (X + 1) xr.heap.size Fs v hv W ((hb.cell (p := ⟨X, 0, none⟩) hXl).trans xc) (hrd.frame good_ring (Below.sameB hb (Nat.le_refl _))) hb.size (by omega) (fun L hL => Nat.le_trans (hlen L hL) (by omega)))
    have hfo : flatO Ks = if v = true then some Fs else none := by unfold flatO; rw [hall, hv]
    replace hv := Lib.hid hv
    replace hall := Lib.hid hall
    replace hlen := Lib.hid hlen
    replace hown := Lib.hid hown
    replace hfo := Lib.hid hfo
    clear hrd rx rfx rlx hXb
    go_wp2_with fail
    refine wp_region_head 2 (fun w' => w'.cell? ⟨X, 0, none⟩ = some (.slice Ao k co)) (by kernel_rfl) (by kernel_rfl) (by exact xc) (fun hHeld => ?_)
    simp only [List.take_succ_cons, List.take_zero, List.drop_succ_cons, List.drop_zero]
    refine wpAnyH_take (i := 0) (v := ?_) ((List.getElem?_toArray).trans rfl) (by kernel_rfl) (by kernel_rfl) (by kernel_rfl) (fun _ _ _ h => h) (Or.inl ⟨by rfl, ?_⟩) (by assumption) ?_
    rotate_left
    · (intro w hSw; (try dsimp only at hSw); go_simp; (try (with_reducible rfl)))
    (try simp only [Act.put, List.setIfInBounds_toArray, List.set_cons_zero, List.set_cons_succ])
    refine wpAnyH_ready (rs := [1]) (by kernel_rfl) (by simp) ?_
    refine AllReadyH.cons ((List.getElem?_toArray).trans rfl) (fun K0 hK0 => ?_) AllReadyH.nil
    (go_simp; go_at_call 15; (with_reducible refine (hok.out _ ?_).mono ?_); exact Below.drew (Below.refl _ _); rintro e w2 ⟨rfl, hb2⟩; have hB2 : Hid (Below xr.heap.size xr w2) := Lib.hid (belowD2 hb2); have sQ := Lib.hid ((hB2.out.cell (p := ⟨X, 0, none⟩) hXl).trans xc); have hR2 := Lib.hid ((hB2.out.block w.heap.size (by omega)).trans hRx.out); have rf2 := Go.Joins.unfrozen_of_block hR2.out; have r2 : w2.cell? ⟨w.heap.size, 0, none⟩ = some (.slice none 0 0) := (by rw [Go.Joins.cell_of_block hR2.out]; rfl); have rl2 : w.heap.size < w2.heap.size := (by have := hB2.out.size; omega); dsimp only)
    refine hK0.out _ _ ?_ (fun hHeld => ?_)
    · (exact sQ.out)
    clear hK0 K0
    (try simp only [Act.put, List.setIfInBounds_toArray, List.set_cons_zero, List.set_cons_succ])
    refine wpAnyH_done (by kernel_rfl) ?_ _
    show wpList _ _ _ _ _ _
    go_wp2_with fail
    all_goals
      refine bodyPost_ret (v := .tuple #[.agg #[.slice Ao k co], .bool v]) (by simp [results, Tryz.results26, go_sem, r2]) rfl ⟨?_, (hBx.out.trans (hB2.out.mono (by omega))).setCell (p := ⟨w.heap.size, 0, none⟩) (Nat.le_refl _) _⟩
      cases v with
      | false => exact .inl ⟨by rw [hfo.out]; rfl, Ao, k, co, rfl⟩
      | true => exact .inr ⟨Fs, Ao, co, by rw [hfo.out]; rfl, rfl, ((hown.out.kept hB2.out).stored_below (by show w.heap.size < X + 1; omega) _).base (by omega), hlen.out⟩
  have hki : (k : Int) < (n : Int) := by omega
  have i1 : (0 : Int) ≤ (k : Int) ∧ (k : Int) < (n : Int) := by omega
  have hrx := hr0.out.frame good_loop (Below.sameB (hbx.mono (show hi ≤ X by omega)) (Nat.le_refl _))
  obtain ⟨b, off, K, A2, n2, c2, rfl, hb0, hb, hja, q0, hm, hrk⟩ := out_at hrx hlt
  have hbw : b < xr.heap.size := by omega
  obtain ⟨f1, f2, f3, f4⟩ := hK K (List.mem_of_getElem? hja)
  have hn2 := hrk.1
  have hcall := Lib.hid (l10Ring_any b (off + k) A2 n2 c2 lo hi K xr q0 hrk (by omega) (by omega) (by omega) f3 f4)
  have hjaH := Lib.hid hja
  clear hm hb0 hb hja hrk f3 f4
  go_wp2_with fail
  refine hcall.out.mono ?_
  rintro e w2 ⟨⟨hno, rfl⟩ | ⟨R, A3, c3, hR, rfl, ho3, hR2⟩, hb3⟩
  · have hnf : flatO Ks = none := by unfold flatO; rw [ringsL_none (List.mem_of_getElem? hjaH.out) hno]
    replace hnf := Lib.hid hnf
    have hal3 := Go.Joins.below_alloc1 w2 (.cells #[.slice none 0 0] 41 (0, 0))
    have hz3 := hb3.size
    have hB4 := Lib.hid ((hBx.out.trans (hb3.mono (by omega))).trans (hal3.mono (by omega)))
    have hR4 := Lib.hid ((hal3.block w.heap.size (by omega)).trans ((hb3.block w.heap.size rlx).trans hRx.out))
    clear px plx rx rfx q0 hno
    go_upto_region 6 with fail
    generalize w2.alloc (.cells #[.slice none 0 0] 41 (0, 0)) = w4 at *
    have r4 : w4.cell? ⟨w.heap.size, 0, none⟩ = some (.slice none 0 0) := by rw [Go.Joins.cell_of_block hR4.out]; rfl
    have rf4 := Go.Joins.unfrozen_of_block hR4.out
    have rl4 : w.heap.size < w4.heap.size := by have := hal3.size; omega
    clear hal3
    go_wp2_with fail
    refine bodyPost_ret (v := .tuple #[.agg #[.slice none 0 0], .bool false]) (by simp [results, Tryz.results26, go_sem, r4]) rfl ⟨.inl ⟨hnf.out, none, 0, 0, rfl⟩, ?_⟩
    exact hB4.out.setCell (Nat.le_refl _) _
  · clear px plx rx rfx q0
    replace ho3 := Lib.hid ho3
    have hz3 := hb3.size
    have hX3 := Lib.hid ((hb3.block X hXl).trans hXb)
    have hbx3 := Lib.hid (hbx.trans (hb3.mono (by omega)))
    clear hcall hXb
    have hFk := Lib.hid (hFa.out k K R hjaH.out hR)
    replace hR := Lib.hid hR
    have hal3 := Go.Joins.below_alloc1 w2 (.cells #[.slice A3 R.length c3] 41 (0, 0))
    have hbo3 := heap_alloc_new w2 (.cells #[.slice A3 R.length c3] 41 (0, 0))
    have hz4 : (w2.alloc (.cells #[.slice A3 R.length c3] 41 (0, 0))).heap.size = w2.heap.size + 1 := by simp
    have ho4 := Lib.hid (own_below ho3.out hal3)
    have hb4 := hb3.trans (hal3.mono hz3)
    have hX4 := Lib.hid ((hal3.block X (by omega)).trans hX3.out)
    have hbx4 := Lib.hid (hbx3.out.trans (hal3.mono (by omega)))
    clear ho3 hX3 hbx3 hb3 hal3
    go_upto_region 6 with fail
    generalize w2.alloc (.cells #[.slice A3 R.length c3] 41 (0, 0)) = w4 at *
    obtain ⟨Z, hZ⟩ : ∃ Z, Z = w2.heap.size := ⟨_, rfl⟩
    rw [← hZ] at hbo3 hz4 hz3 ⊢
    have hZ4 : Z < w4.heap.size := by omega
    have hzw4 : xr.heap.size ≤ w4.heap.size := by omega
    clear hz4
    replace hZ := Lib.hid hZ
    have z0 : w4.cell? ⟨Z, 0, none⟩ = some (.slice A3 R.length c3) := by rw [Go.Joins.cell_of_block hbo3]; rfl
    have x4 : w4.cell? ⟨X, 0, none⟩ = some (.slice Ao k co) := by rw [Go.Joins.cell_of_block hX4.out]; rfl
    have xf4 := Go.Joins.unfrozen_of_block hX4.out
    have xl4 : X < w4.heap.size := by omega
    have hrow4 := Lib.hid (own_below hto.out.1 hb4)
    clear hbo3
    go_wp2_with (at_builtin; refine wpAppAt rfl (.tmp 35) (.tmp 37) elemRing rfl (v := .slice Ao k co) (n := k) (xs := ys) rfl (hrow4.out.alloc _) rfl (src_at (cs := [.slice A3 R.length c3]) rfl (by simp [Value.oneCell']) (by simp)) (by omega) (by omega) (by simp; omega) (k + 1) rfl ?_; intro A4 c4 w5 ho5 hg5 _; have hk5 : w5.heap[X]? = w4.heap[X]? := (hg5.block X (by simp; omega) (fun e => by have := (hrow4.out.lt X e.symm).1; omega)).trans (Below.heap_alloc _ _ _ xl4); have x5 : w5.cell? ⟨X, 0, none⟩ = some (.slice Ao k co) := (World.cell?_of_block hk5).trans x4; have xf5 : ∀ o, w5.frozen? ⟨X, o, none⟩ = false := fun o => (World.frozen?_of_block hk5).trans (xf4 o); have xl5 : X < w5.heap.size := (by have := hg5.size; simp at this; omega); replace hk5 := Lib.hid hk5; replace ho5 := Lib.hid ho5; replace hg5 := Lib.hid hg5)
    have hnx := RegTo.next (w1 := w4.alloc (.cells #[.slice A3 R.length c3] 41 (0, 0))) hto.out hFk.out (hb4.trans ((Go.Joins.below_alloc1 w4 _).mono hzw4)) (ho4.out.alloc _) (show xr.heap.size ≤ xr.heap.size from Nat.le_refl _) (by omega) ho5.out hg5.out
    go_roundw
    case rel =>
      refine ⟨k + 1, A4, c4, _, by go_num, by omega, hnx.set (by show X < X + 1; omega) _, Go.Joins.block_setCell (hk5.out.trans hX4.out) _, fun j K' hj hK' => ?_, ?_⟩
      · rcases Nat.lt_or_ge j k with h | h
        · exact hsm.out j K' h hK'
        · obtain rfl : j = k := by omega
          have h2 := hjaH.out
          rw [hK'] at h2
          injection h2 with h2
          exact ⟨R, by rw [h2]; exact hR.out, hR2⟩
      · exact ((hbx4.out.alloc (by omega) _).grown hg5.out (by simp; omega) (fun g hg => by have := (hrow4.out.lt g hg).1; omega)).setCell (Nat.le_refl _) _
    case measure => simp [intOf]; omega
end Go.Proofs.YtgelkdcggnffeaaGreat

