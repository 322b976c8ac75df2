/- The drawn points, and what an input chooses. Conditions: as each states. -/
import Derived.Deep.RegionHeld3
import Derived.Deep.DeepCutAuto
import Derived.Test.YtlifiioflkhkoaaGreatFr16
import Derived.Test.YtlifiioflkhkoaaGreatFr11
import Derived.Test.YtlifiioflkhkoaaGreatFr21
import Derived.Test.YtlifiioflkhkoaaGreatFr30
import Derived.Test.YtlifiioflkhkoaaGreatFr27
import Derived.Test.YtlifiioflkhkoaaGreatFr35
namespace Go.Proofs.YtlifiioflkhkoaaGreat
open Go.RowKit
set_option linter.unusedVariables false
set_option maxRecDepth 100000

theorem e8At_any (A : Option Addr) (n c lo hi : Nat) (L : List Int) (k : Nat) (m : Int) (w : World) (hr : RdS 1 u8R w lo hi A n L) (hn : n ≤ 1000000000) (hk : k ≤ 1000) (hm0 : 1 < m) (hm1 : m ≤ 1000000) :
    Calls Tryz.prog 11 #[.slice A n c, .int .i64 (k : Int), .int .i64 m] w fun e w' => ∃ r : Int, e = .returned (.int .i64 r) ∧ 0 ≤ r ∧ r < m ∧ w = w' := by
  by_cases hlt : k < n
  · obtain ⟨b1, o1, v, rfl, _, hbw, hv0, hv1, q0⟩ := u8_at hr hlt
    clear hr
    have hki : (0 : Int) ≤ (k : Int) ∧ (k : Int) < (n : Int) := by omega
    have hv := Int.emod_nonneg v (show m ≠ 0 by omega)
    have hv' := Int.emod_lt_of_pos v (show 0 < m by omega)
    go_enter Tryz.func11, Tryz.ntmps11
    go_wp2_with fail
    go_ret
    exact ⟨_, rfl, hv, hv', rfl⟩
  · clear hr
    go_enter Tryz.func11, Tryz.ntmps11
    go_wp2_with fail
    go_ret
    exact ⟨0, rfl, by omega, by omega, rfl⟩
theorem e8Long_any (A0 A1 : Option Addr) (n0 c0 n1 c1 : Nat) (b : Bool) (hb : b = (decide ((1048576 : Int) < (n0 : Int)) || decide ((1048576 : Int) < (n1 : Int)))) (w : World) (h0 : n0 ≤ 9223372036854775807) (h1 : n1 ≤ 9223372036854775807) :
    Calls Tryz.prog 4 #[.slice A0 n0 c0, .slice A1 n1 c1] w fun e w' => e = .returned (.bool b) ∧ w = w' := by
  replace hb := Lib.hid hb
  by_cases h2 : (1048576 : Int) < (n0 : Int)
  all_goals
    by_cases h3 : (1048576 : Int) < (n1 : Int)
    all_goals
      go_enter Tryz.func4, Tryz.ntmps4
      go_wp2_with fail
      go_ret
      exact ⟨ret_bool (by rw [hb.out]; simp [h2, h3]), rfl⟩

theorem Src0.set {w : World} {b k x o : Nat} {v : Value} (h : Src0 w b k) (hx : b < x) : Src0 (w.setCell ⟨x, o, none⟩ v) b k := h.kept (B := b + 1) (Below.setCell (p := ⟨x, o, none⟩) (Below.refl (b + 1) w) hx v) (by omega)
theorem grown_setO {w W : World} {row : Option Nat} (h : w.grownBy W row) {x : Nat} (hx : w.heap.size ≤ x) (o : Nat) (u : Value) : w.grownBy (W.setCell ⟨x, o, none⟩ u) row :=
  ⟨h.os, h.tape, h.output, by simpa using h.size, fun i hi hn => (Below.heap_setCell W ⟨x, o, none⟩ u i (by simp only; omega)).trans (h.block i hi hn)⟩
def InSq (m : Int) (p : Int × Int) : Prop := (-m ≤ p.1 ∧ p.1 ≤ m) ∧ (-m ≤ p.2 ∧ p.2 ≤ m)
set_option maxHeartbeats 1000000 in
theorem l03Draw_any (b k : Nat) (m : Int) (w : World) (hs : Src0 w b k) (hk : k ≤ 999999800) (hm0 : 0 ≤ m) (hm1 : m ≤ 1000000000) :
    Calls Tryz.prog 58 #[.pointer (some ⟨b, 0, none⟩), .int .i64 m] w fun e w' => ∃ (x y : Int) (k' : Nat), e = .returned (.agg #[.int .i64 x, .int .i64 y]) ∧ InSq m (x, y) ∧ Src0 w' b k' ∧ k' ≤ k + 10 ∧ w.grownBy w' (some b) := by
  have hbl := hs.lt
  have hc := Lib.hid (l03Coord_any b k m (w.alloc (.cells #[.int .i64 0, .int .i64 0] 28 (0, 0))) (hs.kept (Go.Joins.below_alloc1 _ _) hbl) (by omega) hm0 hm1)
  clear hs
  go_enter Tryz.func58, Tryz.ntmps58
  go_wp2_with fail
  refine hc.out.mono ?_
  rintro e w1 ⟨x, k1, rfl, hx0, hx1, hs1, hk1, hg1⟩
  have hz1 := hg1.size
  simp at hz1
  have hn1 : Hid (w1.heap[w.heap.size]? = some (.cells #[.int .i64 0, .int .i64 0] 28 (0, 0))) := (hg1.block _ (by simp) (by intro e; injection e with e; omega)).trans (heap_alloc_new w _)
  have hc1 := Lib.hid (l03Coord_any b k1 m w1 hs1 (by omega) hm0 hm1)
  have hG1 := grown_tr (grown_of (Go.Joins.below_alloc1 _ _) (some b)) hg1
  clear hs1 hc hg1
  go_wp2_with fail
  refine hc1.out.mono ?_
  rintro e w2 ⟨y, k2, rfl, hy0, hy1, hs2, hk2, hg2⟩
  have hz2 := hg2.size
  have hn2 : Hid (w2.heap[w.heap.size]? = some (.cells #[.int .i64 0, .int .i64 0] 28 (0, 0))) := (hg2.block _ (by omega) (by intro e; injection e with e; omega)).trans hn1.out
  have hG2 := Lib.hid (grown_tr hG1 hg2)
  have r0 : w2.cell? ⟨w.heap.size, 0, none⟩ = some (.int .i64 0) := by rw [Go.Joins.cell_of_block hn2.out]; rfl
  have r1 : w2.cell? ⟨w.heap.size, 1, none⟩ = some (.int .i64 0) := by rw [Go.Joins.cell_of_block hn2.out]; rfl
  have rf : ∀ o, w2.frozen? ⟨w.heap.size, o, none⟩ = false := Go.Joins.unfrozen_of_block hn2.out
  have hz : w.heap.size < w2.heap.size := by omega
  replace hs2 := Lib.hid hs2
  clear hc1 hn1 hG1 hg2
  go_wp2_with fail
  refine bodyPost_ret (v := .agg #[.int .i64 x, .int .i64 y]) (by simp [results, Tryz.results58, go_sem, r0, r1]) rfl ⟨x, y, k2, rfl, ⟨⟨by omega, by omega⟩, by omega, by omega⟩, ?_, by omega, ?_⟩
  · exact (hs2.out.set hbl).set hbl
  · exact grown_setO (grown_setO hG2.out (Nat.le_refl _) _ _) (Nat.le_refl _) _ _
theorem l00From_any (A : Option Addr) (n c : Nat) (w : World) :
    Calls Tryz.prog 14 #[.slice A n c] w fun e w' => e = .returned (.pointer (some ⟨w.heap.size, 0, none⟩)) ∧ SrcR w' w.heap.size A n c 0 0 ∧ Below w.heap.size w w' := by
  go_enter Tryz.func14, Tryz.ntmps14
  go_wp2_with fail
  go_ret
  exact ⟨rfl, heap_alloc_new w _, Go.Joins.below_alloc1 _ _⟩
theorem InSq.mono {m k : Int} {p : Int × Int} (h : InSq m p) (hk : m ≤ k) : InSq k p := ⟨⟨by have := h.1.1; omega, by have := h.1.2; omega⟩, by have := h.2.1; omega, by have := h.2.2; omega⟩
theorem cell_setO {w : World} {b o x o' : Nat} {v : Value} (h : b ≠ x) : (w.setCell ⟨x, o', none⟩ v).cell? ⟨b, o, none⟩ = w.cell? ⟨b, o, none⟩ := World.cell?_of_block (Below.heap_setCell w ⟨x, o', none⟩ v b h)
abbrev Six (w : World) (b c d : Nat) (x0 x1 y0 y1 z0 z1 : Int) : Prop := w.cell? ⟨b, 0, none⟩ = some (.int .i64 x0) ∧ w.cell? ⟨b, 1, none⟩ = some (.int .i64 x1) ∧ w.cell? ⟨c, 0, none⟩ = some (.int .i64 y0) ∧ w.cell? ⟨c, 1, none⟩ = some (.int .i64 y1) ∧ w.cell? ⟨d, 0, none⟩ = some (.int .i64 z0) ∧ w.cell? ⟨d, 1, none⟩ = some (.int .i64 z1)
theorem Six.set {w : World} {b c d : Nat} {x0 x1 y0 y1 z0 z1 : Int} {x o : Nat} {v : Value} (h : Six w b c d x0 x1 y0 y1 z0 z1) (hb : x < b) (hc : x < c) (hd : x < d) : Six (w.setCell ⟨x, o, none⟩ v) b c d x0 x1 y0 y1 z0 z1 :=
  ⟨(cell_setO (by omega)).trans h.1, (cell_setO (by omega)).trans h.2.1, (cell_setO (by omega)).trans h.2.2.1, (cell_setO (by omega)).trans h.2.2.2.1, (cell_setO (by omega)).trans h.2.2.2.2.1, (cell_setO (by omega)).trans h.2.2.2.2.2⟩
def PtAt (w : World) (b : Nat) (x y : Int) : Prop := w.heap[b]? = some (.cells #[.int .i64 x, .int .i64 y] 28 (0, 0))
theorem PtAt.grown {w w' : World} {b g : Nat} {x y : Int} (h : PtAt w b x y) (hg : w.grownBy w' (some g)) (hn : b ≠ g) : PtAt w' b x y := by
  have hl : b < w.heap.size := (Array.getElem?_eq_some_iff.1 h).1
  exact (hg.block b hl (by intro e; injection e with e; exact hn e)).trans h
theorem PtAt.below {w w' : World} {b : Nat} {x y : Int} (h : PtAt w b x y) (hb : Below w.heap.size w w') : PtAt w' b x y := by
  have hl : b < w.heap.size := (Array.getElem?_eq_some_iff.1 h).1
  exact (hb.block b hl).trans h
theorem PtAt.cells {w : World} {b : Nat} {x y : Int} (h : PtAt w b x y) : w.cell? ⟨b, 0, none⟩ = some (.int .i64 x) ∧ w.cell? ⟨b, 1, none⟩ = some (.int .i64 y) ∧ (∀ o, w.frozen? ⟨b, o, none⟩ = false) ∧ b < w.heap.size :=
  ⟨by rw [Go.Joins.cell_of_block h]; rfl, by rw [Go.Joins.cell_of_block h]; rfl, Go.Joins.unfrozen_of_block h, (Array.getElem?_eq_some_iff.1 h).1⟩
theorem PtAt.put {w : World} {b : Nat} {x y : Int} (h : PtAt w b x y) (x' y' : Int) : PtAt ((w.setCell ⟨b, 0, none⟩ (.int .i64 x')).setCell ⟨b, 1, none⟩ (.int .i64 y')) b x' y' :=
  Go.Joins.block_setCell (Go.Joins.block_setCell h (.int .i64 x')) (.int .i64 y')
theorem PtAt.off {w : World} {b : Nat} {x y : Int} (h : PtAt w b x y) {c o : Nat} {v : Value} (hc : b ≠ c) : PtAt (w.setCell ⟨c, o, none⟩ v) b x y := (Below.heap_setCell w ⟨c, o, none⟩ v b hc).trans h
end Go.Proofs.YtlifiioflkhkoaaGreat

/- A drawn loop. Conditions: as each states. -/
namespace Go.Proofs.YtlifiioflkhkoaaGreat
open Go.RowKit
set_option linter.unusedVariables false
set_option maxRecDepth 100000

theorem own_grown {w w' : World} {lo e size n b : Nat} {v : Value} {xs : List Value} (h : w.ownsRow lo e size v n xs) (hg : w.grownBy w' (some b)) (hb : b < lo) : w'.ownsRow lo e size v n xs :=
  own_same h fun g hg' => hg.block g (h.lt g hg').2 (by intro e; injection e with e; have := (h.lt g hg').1; omega)

theorem Src0.keepL {w w' : World} {b k : Nat} (h : Src0 w b k) (hs : ∀ g, g ≤ b → w'.heap[g]? = w.heap[g]?) : Src0 w' b k := by
  obtain ⟨A, n, c, lo, hi, seed, L, h1, h2, h3, h4⟩ := h
  exact ⟨A, n, c, lo, hi, seed, L, h1.keep (hs b (Nat.le_refl _)), h2.frame good_u8 (fun g _ hg => hs g (by omega)), h3, h4⟩

end Go.Proofs.YtlifiioflkhkoaaGreat

/- Regions in the making while a source of draws runs. XFtR's laws. Conditions: as each states. -/
namespace Go.Proofs.YtlifiioflkhkoaaGreat
open Go.RowKit
set_option linter.unusedVariables false
set_option maxRecDepth 100000

theorem RegTo.nextG {b : Nat} {w w1 w2 : World} {lo B k co c2 cc : Nat} {Ao A2 A3 : Option Addr} {ys : List Value} {Ls : List (List (Int × Int))} {K : List (Int × Int)} (h : RegTo w lo Ao k co ys Ls) (hK : Ls[k]? = some K)
    (hb : w.grownBy w1 (some b)) (hbl : b < lo) (hr : w1.ownsRow B 28 2 (.slice A2 K.length c2) K.length (K.flatMap ptC)) (hB : w.heap.size ≤ B) (hlo : lo ≤ w.heap.size)
    (ho : w2.ownsRow lo 42 1 (.slice A3 (k + 1) cc) (k + 1) (ys ++ [.slice A2 K.length c2])) (hg : w1.grownBy w2 (Value.slice Ao k co).ownBlock) : RegTo w2 lo A3 (k + 1) cc (ys ++ [.slice A2 K.length c2]) Ls := by
  obtain ⟨h1, h2, h3⟩ := h
  have h1' := own_grown h1 hb hbl
  have hyl := h1.1
  rw [Nat.mul_one] at hyl
  have hne : ∀ {g : Nat} {v : Value} {n : Nat} {xs : List Value} {B' : Nat}, w1.ownsRow B' 28 2 v n xs → v.ownBlock = some g → w2.heap[g]? = w1.heap[g]? := fun {g v n xs B'} hv hg' =>
    hg.block g (hv.lt g hg').2 fun e => own_ne_kind hv h1' (by decide) hg' e.symm
  refine ⟨ho, fun j K' hj hK' => ?_, fun i j u v hij hu hv => ?_⟩
  · by_cases hjk : j = k
    · subst hjk
      have e := Option.some.inj (hK.symm.trans hK')
      subst e
      refine ⟨A2, c2, by rw [List.getElem?_append_right (by omega), hyl]; simp, own_lower (own_same hr fun g hg' => hne hr hg') (by omega)⟩
    · obtain ⟨Aj, cj, h4, h5⟩ := h2 j K' (by omega) hK'
      refine ⟨Aj, cj, by rw [List.getElem?_append_left (by omega)]; exact h4, own_same (own_grown h5 hb hbl) fun g hg' => hne (own_grown h5 hb hbl) hg'⟩
  · have hold : ∀ (j : Nat) (v : Value), j < k → ys[j]? = some v → j < Ls.length → ∀ g, v.ownBlock = some g → g < w.heap.size := fun j v hj hv hjl g hg' => by
      obtain ⟨Aj, cj, h4, h5⟩ := h2 j _ hj (List.getElem?_eq_getElem hjl)
      rw [hv] at h4
      injection h4 with h4
      subst h4
      exact (h5.lt g hg').2
    have hkl := (List.getElem?_eq_some_iff.1 hK).1
    have hil := (List.getElem?_eq_some_iff.1 hu).1
    have hjl := (List.getElem?_eq_some_iff.1 hv).1
    simp at hil hjl
    by_cases hik : i < k
    · rw [List.getElem?_append_left (by omega)] at hu
      by_cases hjk : j < k
      · rw [List.getElem?_append_left (by omega)] at hv
        exact h3 i j u v hij hu hv
      · obtain rfl : j = k := by omega
        rw [List.getElem?_append_right (by omega), hyl] at hv
        simp at hv
        subst hv
        intro g hgu hgv
        have := hold i u hik hu (by omega) g hgu
        have := (hr.lt g hgv).1
        omega
    · obtain rfl : i = k := by omega
      rw [List.getElem?_append_right (by omega), hyl] at hu
      rw [List.getElem?_append_left (by omega)] at hv
      simp at hu
      subst hu
      intro g hgu hgv
      have := hold j v (by omega) hv (by omega) g hgv
      have := (hr.lt g hgu).1
      omega
theorem RegTo.grownB {w w' : World} {lo k co b : Nat} {Ao : Option Addr} {ys : List Value} {Ls : List (List (Int × Int))} (h : RegTo w lo Ao k co ys Ls) (hg : w.grownBy w' (some b)) (hb : b < lo) : RegTo w' lo Ao k co ys Ls := by
  obtain ⟨h1, h2, h3⟩ := h
  refine ⟨own_grown h1 hg hb, fun j K hj hK => ?_, h3⟩
  obtain ⟨Aj, cj, h4, h5⟩ := h2 j K hj hK
  exact ⟨Aj, cj, h4, own_grown h5 hg hb⟩
theorem RegTo.own {w : World} {lo n c : Nat} {A : Option Addr} {ys : List Value} {Ls : List (List Pnt)} (h : RegTo w lo A n c ys Ls) (hl : Ls.length = n) : RegOwn w lo A n c Ls :=
  ⟨ys, hl, h.1, fun j K hj => h.2.1 j K (by have := (List.getElem?_eq_some_iff.1 hj).1; omega) hj, h.2.2⟩

theorem in_ok {m : Int} {x y : Int} (h : InSq m (x, y)) (hm : m ≤ 300) : ptOk x y = true := by
  obtain ⟨⟨h1, h2⟩, h3, h4⟩ := h
  simp only at h1 h2 h3 h4
  exact ptOk_iff.2 ⟨⟨by omega, by omega⟩, by omega, by omega⟩
theorem RegTo.ext {w : World} {lo n c : Nat} {A : Option Addr} {ys : List Value} {Ls Ms : List (List Pnt)} (h : RegTo w lo A n c ys Ls) (he : ∀ j, j < n → Ms[j]? = Ls[j]?) : RegTo w lo A n c ys Ms :=
  ⟨h.1, fun j K hj hK => h.2.1 j K hj (by rw [← he j hj]; exact hK), h.2.2⟩
theorem RegTo.snocL {w : World} {lo c : Nat} {A : Option Addr} {ys : List Value} {Ls : List (List Pnt)} (h : RegTo w lo A Ls.length c ys Ls) (K : List Pnt) : RegTo w lo A Ls.length c ys (Ls ++ [K]) :=
  h.ext fun j hj => by rw [List.getElem?_append_left hj]
theorem RegTo.lower {w : World} {lo lo' n c : Nat} {A : Option Addr} {ys : List Value} {Ls : List (List Pnt)} (h : RegTo w lo A n c ys Ls) (hl : lo' ≤ lo) : RegTo w lo' A n c ys Ls := by
  obtain ⟨h1, h2, h3⟩ := h
  refine ⟨own_lower h1 hl, fun j K hj hK => ?_, h3⟩
  obtain ⟨Aj, cj, h4, h5⟩ := h2 j K hj hK
  exact ⟨Aj, cj, h4, own_lower h5 hl⟩
end Go.Proofs.YtlifiioflkhkoaaGreat

/- Rounds of ways through hot points: the program's side. Conditions: as each states. -/
namespace Go.Proofs.YtlifiioflkhkoaaGreat
open Go.RowKit
set_option linter.unusedVariables false
set_option maxRecDepth 100000
set_option linter.unusedSimpArgs false

def Snug (hot : List Pnt) (Rs : List (List Pnt)) : Prop := Rs.length ≤ 40 ∧ edgeN Rs ≤ 400 ∧ ∀ L ∈ Rs, (1 ≤ L.length ∧ L.length ≤ 400) ∧ Tight L ∧ ∀ p ∈ L, p ∈ hot
theorem path_len {L : List Pnt} (h : pathOk L = true) : 1 ≤ L.length ∧ L.length ≤ 400 := by
  unfold pathOk inB at h
  simp at h
  omega
theorem Snug.next {hot : List Pnt} {Rs : List (List Pnt)} (h : Snug hot Rs) (hn : hot.Nodup) (hv : regOk (nextR hot Rs) = true) : Snug hot (nextR hot Rs) := by
  obtain ⟨h1, h2, h3⟩ := h
  obtain ⟨v1, v2, v3⟩ := regOk_is hv
  refine ⟨v1, v3, fun L hL => ⟨path_len (v2 L hL), ?_⟩⟩
  obtain ⟨K, hK, rfl⟩ := List.mem_map.1 hL
  exact ⟨next_tight hn (h3 K hK).2.2, fun p hp => next_mem hp⟩
theorem Snug.tot {hot : List Pnt} {Rs : List (List Pnt)} (h : Snug hot Rs) : totR Rs ≤ 16000 := by
  have h1 := tot_le (Rs := Rs) (m := 400) fun L hL => (h.2.2 L hL).1.2
  have h2 := h.1
  have : Rs.length * 400 ≤ 40 * 400 := Nat.mul_le_mul_right _ h2
  omega
theorem Snug.grows {hot : List Pnt} {Rs : List (List Pnt)} (h : Snug hot Rs) (hn : hot.Nodup) (hne : nextR hot Rs ≠ Rs) : totR Rs < totR (nextR hot Rs) := by
  obtain ⟨h1, h2⟩ := next_tot hn fun L hL => (h.2.2 L hL).2
  rcases Nat.lt_or_eq_of_le h1 with h3 | h3
  · exact h3
  · exact absurd (h2 h3.symm) hne
theorem way_len (a b : Pnt) (hot : List Pnt) : (wayL a b hot).length ≤ hot.length := by
  rw [(way_perm a b hot).length_eq]; exact cand_len a b hot
theorem flat_le {f : Pnt × Pnt → List Pnt} {m : Nat} : ∀ {E : List (Pnt × Pnt)}, (∀ e ∈ E, (f e).length ≤ m) → (E.flatMap f).length ≤ E.length * m
  | [], _ => Nat.zero_le _
  | e :: E, h => by
    have h1 := h e List.mem_cons_self
    have h2 := flat_le fun e' he => h e' (List.mem_cons_of_mem _ he)
    rw [List.flatMap_cons, List.length_append, List.length_cons, Nat.succ_mul]
    omega
theorem nextTo_len (hot L : List Pnt) (k : Nat) : (nextTo hot L k).length ≤ k * hot.length := by
  unfold nextTo
  refine Nat.le_trans (flat_le (m := hot.length) fun e _ => ?_) (Nat.mul_le_mul_right _ (by rw [List.length_take]; omega))
  rw [List.length_dropLast]
  have := way_len e.1 e.2 hot
  omega
theorem own_cutG {w : World} {B size : Nat} {e : TypeId} {g n cap k : Nat} {ys : List Value} (h : w.ownsRow B e size (.slice (some ⟨g, 0, none⟩) n cap) n ys) (hk : k ≤ n) : w.ownsRow B e size (.slice (some ⟨g, 0, none⟩) k cap) k (ys.take (k * size)) := by
  obtain ⟨hl, h2⟩ := h
  have hm : k * size ≤ n * size := Nat.mul_le_mul_right _ hk
  rcases h2 with ⟨h0, _⟩ | ⟨g', cap', cur, hv, hg, hh, hn, hcap, hsz, htake⟩
  · cases h0
  · injection hv with e1 _ e3
    injection e1 with e1
    injection e1 with e1
    subst e1; subst e3
    refine ⟨by rw [List.length_take]; omega, .inr ⟨g, cap, cur, rfl, hg, hh, by omega, hcap, hsz, ?_⟩⟩
    rw [← htake, List.take_take, Nat.min_eq_left hm]

theorem ptc_oneL (W : List Pnt) : ∀ u ∈ W.flatMap ptC, u.oneCell' = true := by
  intro u hu
  obtain ⟨p, _, hp⟩ := List.mem_flatMap.1 hu
  unfold ptC at hp
  simp at hp
  rcases hp with rfl | rfl <;> rfl

end Go.Proofs.YtlifiioflkhkoaaGreat

