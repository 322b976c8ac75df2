/- mapOutline, over whatever closure of points. Conditions: as it states. -/
import Derived.Test.YtpjmpbdbfldnaaaCopyW
namespace Go.Proofs.Ytpjmpbdbfldnaaa
open Go.RowKit
set_option linter.unusedVariables false
set_option maxRecDepth 100000

def mapK (g : Int × Int → Int × Int) (p : Knot) : Knot := ((g (p.1, p.2.1)).1, (g (p.1, p.2.1)).2, p.2.2)
/-- the first k turned, the others not -/
def half {α : Type} (f : α → α) (L : List α) (k : Nat) : List α := (L.take k).map f ++ L.drop k
theorem half_zero {α : Type} (f : α → α) (L : List α) : half f L 0 = L := by simp [half]
theorem half_length {α : Type} (f : α → α) (L : List α) (k : Nat) : (half f L k).length = L.length := by simp [half]; omega
theorem half_all {α : Type} (f : α → α) (L : List α) {k : Nat} (h : L.length ≤ k) : half f L k = L.map f := by simp [half, List.take_of_length_le h, List.drop_of_length_le h]
theorem half_at {α : Type} (f : α → α) (L : List α) (k : Nat) {j : Nat} {a : α} (h : L[j]? = some a) : (half f L k)[j]? = some (if j < k then f a else a) := by
  have hl := (List.getElem?_eq_some_iff.1 h).1
  unfold half
  by_cases hj : j < k
  · rw [List.getElem?_append_left (by simp; omega), if_pos hj, List.getElem?_map, List.getElem?_take_of_lt hj, h]; rfl
  · rw [List.getElem?_append_right (by simp; omega), if_neg hj, List.getElem?_drop]
    rw [show k + (j - (List.map f (List.take k L)).length) = j by simp; omega, h]
theorem half_at_inv {α : Type} (f : α → α) (L : List α) (k : Nat) {j : Nat} {b : α} (h : (half f L k)[j]? = some b) : ∃ a, L[j]? = some a ∧ b = if j < k then f a else a := by
  have hl := (List.getElem?_eq_some_iff.1 h).1
  rw [half_length] at hl
  have ha : L[j]? = some L[j] := List.getElem?_eq_getElem hl
  rw [half_at f L k ha] at h
  injection h with h
  exact ⟨_, ha, h.symm⟩

theorem move1_any (bb : Nat) (x y x1 y1 : Int) (w : World) (hc0 : w.cell? ⟨bb, 0, none⟩ = some (.int .i64 x1)) (hc1 : w.cell? ⟨bb, 1, none⟩ = some (.int .i64 y1)) (hb : bb < w.heap.size) (h0 : -9223372036854775808 ≤ x + x1) (h1 : x + x1 ≤ 9223372036854775807) (h2 : -9223372036854775808 ≤ y + y1) (h3 : y + y1 ≤ 9223372036854775807) :
    Calls Try.prog 101 #[.agg #[.int .i64 x, .int .i64 y], .pointer (some ⟨bb, 0, none⟩)] w fun e w' => e = .returned (.agg #[.int .i64 (x + x1), .int .i64 (y + y1)]) ∧ Below w.heap.size w w' := by
  go_enter Try.func101, Try.ntmps101
  go_wp2_with fail
  refine bodyPost_ret (v := .agg #[.int .i64 (x + x1), .int .i64 (y + y1)]) (by simp [results, Try.results101, go_sem]) rfl ⟨rfl, ?_⟩
  repeat (first | exact Below.refl _ _ | refine Below.setCell ?_ (by simp <;> omega) _ | refine Below.alloc ?_ (by simp <;> omega) _)

theorem map_set (g : Int × Int → Int × Int) {K : List Knot} {q : Nat} {p : Knot} (hp : K[q]? = some p) :
    (((half (mapK g) K q).flatMap knotC).set (q * 3) (.int .i64 (g (p.1, p.2.1)).1)).set (q * 3 + 1) (.int .i64 (g (p.1, p.2.1)).2) = (half (mapK g) K (q + 1)).flatMap knotC := by
  have hql := (List.getElem?_eq_some_iff.1 hp).1
  have hfl : ((half (mapK g) K q).flatMap knotC).length = K.length * 3 := by rw [flat_length knotC_len, half_length]
  refine flat_ext knotC_len (half_length _ _ _) (by rw [List.length_set, List.length_set, hfl]) fun j a hj i hi => ?_
  obtain ⟨a0, ha0, rfl⟩ := half_at_inv _ _ _ hj
  have h0 := half_at (mapK g) K q ha0
  have hf := flat_get knotC_len _ j _ i h0 hi
  by_cases hjq : j = q
  · subst hjq
    have e := Option.some.inj (ha0.symm.trans hp)
    subst e
    rw [if_neg (by omega)] at hf
    rw [if_pos (by omega)]
    match i, hi with
    | 0, _ => rw [List.getElem?_set_ne (by omega), Nat.add_zero, List.getElem?_set_self (by omega)]; rfl
    | 1, _ => rw [List.getElem?_set_self (by rw [List.length_set]; omega)]; rfl
    | 2, _ => rw [List.getElem?_set_ne (by omega), List.getElem?_set_ne (by omega), hf]; rfl
  · rw [List.getElem?_set_ne (by omega), List.getElem?_set_ne (by omega), hf]
    simp only [show (j < q + 1) ↔ (j < q) by omega]

set_option maxHeartbeats 4000000 in
theorem mapOutline_any (fid : Nat) (cap : Value) (g : Int × Int → Int × Int) (A : Option Addr) (n c lo hi : Nat) (Ls : List (List Knot)) (w : World) (hr : OutRd w lo hi A n Ls) (hhi : hi ≤ w.heap.size) (hn : n ≤ 1048576) (hK : ∀ K ∈ Ls, K.length ≤ 1048576)
    (hfn : ∀ args w, Sem.run Try.prog (callFunc fid args) w = .ok (.enter fid args) w)
    (hcl : ∀ (K : List Knot) (p : Knot) (W : World), K ∈ Ls → p ∈ K → SameB 0 w.heap.size w W → w.heap.size ≤ W.heap.size → Calls Try.prog fid #[.agg #[.int .i64 p.1, .int .i64 p.2.1], cap] W fun e w' => e = .returned (.agg #[.int .i64 (g (p.1, p.2.1)).1, .int .i64 (g (p.1, p.2.1)).2]) ∧ Below W.heap.size W w') :
    Calls Try.prog 100 #[.agg #[.slice A n c], .func (.func fid) #[] #[cap]] w fun e w' => ∃ A' c', e = .returned (.agg #[.slice A' n c']) ∧ OutOwn w' w.heap.size A' n c' (Ls.map (List.map (mapK g))) ∧ Below w.heap.size w w' := by
  have hcopy := Lib.hid (fun a b => copyOutline_any A n c lo hi Ls ((w.alloc a).alloc b) (hr.frame good_loop (((SameB.refl _ _ w).alloc hhi _).alloc (by simp; omega) _)) (by simp; omega) hn hK)
  replace hcl := Lib.hid hcl
  replace hK := Lib.hid hK
  have hll := Lib.hid hr.1
  clear hr
  go_enter Try.func100, Try.ntmps100
  go_wp2_with fail
  refine (hcopy.out _ _).mono ?_
  rintro e w1 ⟨A', c', rfl, ho1, hb1⟩
  clear hcopy
  obtain ⟨ys, hin⟩ := ho1.in
  have hsz1 := hb1.size
  simp at hsz1 hin
  have hnew := heap_new0 w (.cells #[.slice A n c] 41 (0, 0)) (.cells #[.slice none 0 0] 41 (0, 0)) (.cells #[.slice none 0 0] 41 (0, 0))
  have hX1 : w1.heap[w.heap.size + 1]? = some (.cells #[.slice none 0 0] 41 (0, 0)) := (hb1.block _ (by simp)).trans ((Below.heap_alloc _ _ _ (by simp)).symm.trans hnew.2.1)
  have hB1 : Below w.heap.size w w1 := (((Below.refl _ _).alloc (Nat.le_refl _) _).alloc (by simp) _).trans (hb1.mono (by simp <;> omega))
  clear hnew hb1 ho1
  replace hX1 := Lib.hid hX1
  go_wp2_with fail
  go_loopw [14] (fun i wr => ∃ (k : Nat), i = .int .i64 k ∧ k ≤ n ∧ OutIn wr (w.heap.size + 2) w1.heap.size A' n c' ys (half (List.map (mapK g)) Ls k) ∧ wr.cell? ⟨w1.heap.size, 0, none⟩ = some (.slice A' n c') ∧ wr.heap[w.heap.size + 1]? = some (.cells #[.slice none 0 0] 41 (0, 0)) ∧ w1.heap.size + 1 ≤ wr.heap.size ∧ Below w.heap.size w wr) (fun i wr => n - (intOf i).toNat)
  case atStart =>
    refine ⟨0, rfl, Nat.zero_le _, ?_, ?_, ?_, ?_, ?_⟩
    · rw [half_zero]; exact hin.same ((SameB.refl _ _ _).alloc (Nat.le_refl _) _)
    · go_simp
    · exact (Below.heap_alloc _ _ _ (by omega)).trans hX1.out
    · simp
    · exact hB1.alloc (by omega) _
  case round =>
    clear hin
    obtain ⟨k, rfl, hk, hin, q5, hX, hz, hbel⟩ := hrel
    replace hX := Lib.hid hX
    by_cases hlt : k < n
    · obtain ⟨K, hja⟩ : ∃ K, Ls[k]? = some K := ⟨_, List.getElem?_eq_getElem (by have := hll.out; omega)⟩
      have hhk := half_at (List.map (mapK g)) Ls k hja
      rw [if_neg (by omega)] at hhk
      obtain ⟨Ak, ck, hyk, hok⟩ := hin.2.2.1 k K hhk
      obtain ⟨gA, rfl, hBA, hgA, hnA, hcA, hfA⟩ := own_at hin.2.1 (by omega)
      have qk := hcA k (by omega)
      rw [hyk] at qk
      clear hcA hfA
      have hKl := hK.out K (List.mem_of_getElem? hja)
      have hKm := Lib.hid (List.mem_of_getElem? hja)
      have hown : ∀ g', (Value.slice Ak K.length ck).ownBlock = some g' → w.heap.size + 2 ≤ g' ∧ g' < w1.heap.size := fun g' hg' => ⟨(hok.lt g' hg').1, hin.2.2.2.2.2 k _ g' hyk hg'⟩
      replace hown := Lib.hid hown
      replace hyk := Lib.hid hyk
      replace hok := Lib.hid hok
      replace hja := Lib.hid hja
      replace hin := Lib.hid hin
      replace hhk := Lib.hid hhk
      obtain ⟨wk, hwk⟩ : ∃ x, x = wr := ⟨_, rfl⟩
      subst hwk
      go_wp2_with fail
      go_loopw [21] (fun i wi => ∃ (q : Nat), i = .int .i64 q ∧ q ≤ K.length ∧ wi.ownsRow (w.heap.size + 2) 119 3 (.slice Ak K.length ck) K.length ((half (mapK g) K q).flatMap knotC) ∧ (wk.alloc (.cells #[.slice Ak K.length ck] 117 (0, 0))).grownBy wi (Value.slice Ak K.length ck).ownBlock) (fun i wi => K.length - (intOf i).toNat)
      case atStart => exact ⟨0, rfl, Nat.zero_le _, by rw [half_zero]; exact hok.out.alloc _, World.grownBy.refl _ _⟩
      case round =>
        obtain ⟨q, rfl, hq, ho, hg⟩ := hrel
        have hgs := hg.size
        simp at hgs
        have hBi : Below w.heap.size w wr := (hbel.alloc (by omega) _).grown hg (by simp; omega) (fun g' hg' => by have := (hown.out g' hg').1; omega)
        have ht7 : wr.heap[wk.heap.size]? = some (.cells #[.slice Ak K.length ck] 117 (0, 0)) := (hg.block _ (by simp) (fun e => by have := (hown.out _ e.symm).2; omega)).trans (heap_alloc_new wk _)
        replace hg := Lib.hid hg
        by_cases hql : q < K.length
        · obtain ⟨p, hp⟩ : ∃ p, K[q]? = some p := ⟨_, List.getElem?_eq_getElem hql⟩
          have hhq := half_at (mapK g) K q hp
          rw [if_neg (by omega)] at hhq
          obtain ⟨gk, rfl, hBk, hgk, hnk, hck, hfk⟩ := own_at ho (by omega)
          have c0 := hck (q * 3) (by omega)
          have c1 := hck (q * 3 + 1) (by omega)
          have e0 := flat_get knotC_len _ q p 0 hhq (by omega)
          have e1 := flat_get knotC_len _ q p 1 hhq (by omega)
          rw [Nat.add_zero] at e0
          rw [e0] at c0
          rw [e1] at c1
          replace c0 : wr.cell? ⟨gk, q * 3, none⟩ = some (.int .i64 p.1) := c0
          replace c1 : wr.cell? ⟨gk, q * 3 + 1, none⟩ = some (.int .i64 p.2.1) := c1
          have t7 : wr.cell? ⟨wk.heap.size, 0, none⟩ = some (.slice (some ⟨gk, 0, none⟩) K.length ck) := by rw [Go.Joins.cell_of_block ht7]; rfl
          have hcq := Lib.hid (hcl.out K p wr.drew hKm.out (List.mem_of_getElem? hp) (Below.sameB hBi.drew (Nat.le_refl _)) hBi.size)
          have hne : gk ≠ wk.heap.size := by have := (hown.out gk rfl).2; omega
          have hlt7 : wk.heap.size < wr.heap.size := by omega
          have s0 := ho.stored (q * 3) (.int .i64 (g (p.1, p.2.1)).1)
          clear e0 e1 hck hfk ht7 s0
          replace ho := Lib.hid ho
          replace hp := Lib.hid hp
          replace hhq := Lib.hid hhq
          replace hBi := Lib.hid hBi
          go_wp2_with fail
          go_region_law (first | (go_simp; refine hcq.out.mono ?_; rintro e w2 ⟨rfl, hb2⟩; have ho2 := own_below (World.ownsRow.drew ho.out) hb2; obtain ⟨gk', hgk', _, hgl2, _, hck2, hfk2⟩ := own_at ho2 (by omega); injection hgk' with hgk'; injection hgk' with hgk'; subst hgk'; have d0 : (w2.cell? ⟨gk, q * 3, none⟩) = some (.int .i64 p.1) := ((hb2.cell (by simp; omega)).trans c0); have d1 : (w2.cell? ⟨gk, q * 3 + 1, none⟩) = some (.int .i64 p.2.1) := ((hb2.cell (by simp; omega)).trans c1); have f0 := hfk2 (q * 3); have f1 := hfk2 (q * 3 + 1); have t72 : w2.cell? ⟨wk.heap.size, 0, none⟩ = some (.slice (some ⟨gk, 0, none⟩) K.length ck) := ((hb2.cell (by simp; omega)).trans t7); clear hck2 hfk2; replace ho2 := Lib.hid ho2; replace hb2 := Lib.hid hb2; dsimp only))
          all_goals
            go_wp2_with fail
            go_roundw
            case rel =>
              have st0 := ho2.out.stored (q * 3) (.int .i64 (g (p.1, p.2.1)).1)
              have st1 := st0.1.stored (q * 3 + 1) (.int .i64 (g (p.1, p.2.1)).2)
              have hp' := hp.out
              have e : (((half (mapK g) K q).flatMap knotC).set (q * 3) (.int .i64 (g (p.1, p.2.1)).1)).set (q * 3 + 1) (.int .i64 (g (p.1, p.2.1)).2) = (half (mapK g) K (q + 1)).flatMap knotC := map_set g hp'
              refine ⟨q + 1, by go_num, by omega, e ▸ st1.1, ?_⟩
              have hgd : wr.grownBy w2 (some gk) := ⟨hb2.out.os, hb2.out.tape, hb2.out.output, hb2.out.size, fun b hb _ => hb2.out.block b hb⟩
              exact grown_mkKnot hg.out (grown_mkKnot hgd (grown_mkKnot st0.2 st1.2))
            case measure => simp [intOf]; omega
        · have hqK : q = K.length := by omega
          subst hqK
          have hbe : ∀ b, b < wk.heap.size → (Value.slice Ak K.length ck).ownBlock ≠ some b → wr.heap[b]? = wk.heap[b]? := fun b hb hne => (hg.out.block b (by simp; omega) (fun e => hne e.symm)).trans (Below.heap_alloc _ _ _ (by omega))
          rw [half_all _ _ (Nat.le_refl _)] at ho
          replace ho := Lib.hid ho
          replace hbe := Lib.hid hbe
          replace hBi := Lib.hid hBi
          replace ht7 := Lib.hid ht7
          go_wp2_with fail
          go_roundw
          case rel =>
            obtain ⟨i1, i2, i3, i4, i5, i6⟩ := hin.out
            have hbo : ∀ g', (Value.slice Ak K.length ck).ownBlock = some g' → g' ≠ w1.heap.size ∧ g' ≠ w.heap.size + 1 := fun g' hg' => by have := hown.out g' hg'; omega
            refine ⟨k + 1, by go_num, by omega, ⟨by rw [half_length]; exact hll.out, own_same i2 fun g' hg' => hbe.out g' (i2.lt g' hg').2 (own_ne_kind i2 hok.out (by decide) hg'), fun j K' hj => ?_, i4, i5, i6⟩, ?_, ?_, by omega, hBi.out⟩
            · obtain ⟨K0, hK0, rfl⟩ := half_at_inv _ _ _ hj
              by_cases hjk : j = k
              · subst hjk
                have e1 := Option.some.inj (hK0.symm.trans hja.out)
                subst e1
                rw [if_pos (by omega), List.length_map]
                exact ⟨Ak, ck, hyk.out, ho.out⟩
              · have h0 := half_at (List.map (mapK g)) Ls k hK0
                rw [show (if j < k + 1 then List.map (mapK g) K0 else K0) = (if j < k then List.map (mapK g) K0 else K0) by simp only [show (j < k + 1) ↔ (j < k) by omega]]
                obtain ⟨Aj, cj, h1, h2⟩ := i3 j _ h0
                exact ⟨Aj, cj, h1, own_same h2 fun g' hg' => hbe.out g' (h2.lt g' hg').2 (i4 j k _ _ hjk h1 hyk.out g' hg')⟩
            · exact (World.cell?_of_block (w := wk) (hbe.out w1.heap.size (by omega) (fun e => (hbo _ e).1 rfl))).trans q5
            · exact (hbe.out (w.heap.size + 1) (by omega) (fun e => (hbo _ e).2 rfl)).trans hX.out
          case measure => simp [intOf]; omega
    · have hkn : k = n := by omega
      replace hkn := Lib.hid hkn
      replace hin := Lib.hid hin
      have x1 : wr.cell? ⟨w.heap.size + 1, 0, none⟩ = some (.slice none 0 0) := by rw [Go.Joins.cell_of_block hX.out]; rfl
      have xf : ∀ o, wr.frozen? ⟨w.heap.size + 1, o, none⟩ = false := Go.Joins.unfrozen_of_block hX.out
      go_wp2_with fail
      refine bodyPost_ret (v := .agg #[.slice A' n c']) (by simp [results, Try.results100, go_sem, x1]) rfl ⟨A', c', rfl, ?_, ?_⟩
      · have h := hin.out
        rw [half_all _ _ (by have := hkn.out; have := hll.out; omega)] at h
        exact ((h.own).stored_below (by simp) _).base (by omega)
      · exact hbel.setCell (by simp) _
end Go.Proofs.Ytpjmpbdbfldnaaa
