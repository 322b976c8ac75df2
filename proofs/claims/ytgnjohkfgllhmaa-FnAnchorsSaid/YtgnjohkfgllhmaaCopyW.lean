/- copyOutline, walked. Conditions: as it states. -/
import Derived.Test.YtgnjohkfgllhmaaCopy
import Derived.StillTailTactics
import Derived.Deep.RegionHeld3
namespace Go.Proofs.Ytgnjohkfgllhmaa
open Go.RowKit
set_option linter.unusedVariables false
set_option maxRecDepth 100000

/-- an append to a row of the call's own, as one step of a region that draws -/
theorem stepAppAt {P : Program} {w : World} {ops : Array Oper} {o : Oper} {a : Act} {K : Act → World → Prop} {Q : Exit → Act → World → Prop} {E' : Prop} (hgd : o.guard = none) (s x : Operand) {t e : TypeId} {size bytes : Nat} (E : Elem P t e size bytes)
    (ho : o.op = .call { callee := .builtin .append, args := #[s, x], argTypes := #[t, t] })
    {base : Nat} {v : Value} {n : Nat} {xs : List Value} (hs : a.eval s = v) (hown : w.ownsRow base e size v n xs)
    {A : Option Addr} {m c : Nat} {news : List Value} (hx : a.eval x = .slice A m c) (hsrc : Src w size A m news) (h63 : n + m ≤ 1000000000) (hbytes : bytes ≤ 100000) (hbase : base ≤ w.heap.size) (k : Nat) (hk : k = n + m)
    (h : ∀ A' c' w', w'.ownsRow base e size (.slice A' k c') k (xs ++ news) → w.grownBy w' v.ownBlock → K (a.put o.dst (.slice A' k c')) w') :
    if Region.wanted o (yielded ops a.tmps) = true then Oper.wp P o a w K Q else E' := by
  have hw : Region.wanted o (yielded ops a.tmps) = true := by simp [Region.wanted, hgd]
  rw [if_pos hw]
  obtain ⟨v', w', hr, h2, h3, h4⟩ := run_app (P := P) E o.type hown (c := c) hsrc h63 hbytes hbase
  obtain ⟨A', c', rfl⟩ := own_form h2
  unfold Oper.wp execOp
  simp only [ho, resolve, invoke, builtin, Sem.run_bind, Sem.run_pure, Result.andThen_ok, List.map_toArray, List.map_cons, List.map_nil, hs, hx, hr]
  subst hk
  exact h A' c' w' h2 h3

set_option maxHeartbeats 2000000 in
theorem copyOutline_any (A : Option Addr) (n c lo hi : Nat) (Ls : List (List Knot)) (w : World) (hr : OutRd w lo hi A n Ls) (hhi : hi ≤ w.heap.size) (hn : n ≤ 1048576) (hK : ∀ K ∈ Ls, K.length ≤ 1048576) :
    Calls Try.prog 80 #[.agg #[.slice A n c]] w fun e w' => ∃ A' c', e = .returned (.agg #[.slice A' n c']) ∧ OutOwn w' w.heap.size A' n c' Ls ∧ Below w.heap.size w w' := by
  have hll := Lib.hid hr.1
  replace hr := Lib.hid hr
  replace hK := Lib.hid hK
  go_enter Try.func80, Try.ntmps80
  go_wp2_with fail
  go_loopw [10] (fun i wr => ∃ (k : Nat) (Ao : Option Addr) (co : Nat) (ys : List Value), i = .int .i64 k ∧ k ≤ n ∧ OutTo wr (w.heap.size + 3) Ao k co ys Ls ∧ wr.cell? ⟨w.heap.size + 2, 0, none⟩ = some (.slice Ao k co) ∧ (∀ o, wr.frozen? ⟨w.heap.size + 2, o, none⟩ = false) ∧ wr.cell? ⟨w.heap.size + 1, 0, none⟩ = some (.slice none 0 0) ∧ (∀ o, wr.frozen? ⟨w.heap.size + 1, o, none⟩ = false) ∧ w.heap.size + 3 ≤ wr.heap.size ∧ Below w.heap.size w wr) (fun i wr => n - (intOf i).toNat)
  case atStart =>
    have hnew := heap_new0 w (.cells #[.slice A n c] 36 (0, 0)) (.cells #[.slice none 0 0] 36 (0, 0)) (.cells #[.slice none 0 0] 36 (0, 0))
    refine ⟨0, none, 0, [], rfl, Nat.zero_le _, ⟨World.ownsRow_nil _ _ _ _, fun j K hj => absurd hj (Nat.not_lt_zero j), fun i j u v _ hu => by simp at hu⟩, by rw [Go.Joins.cell_of_block hnew.2.2]; rfl, Go.Joins.unfrozen_of_block hnew.2.2, by rw [Go.Joins.cell_of_block hnew.2.1]; rfl, Go.Joins.unfrozen_of_block hnew.2.1, by simp, ((((Below.refl _ _).alloc (Nat.le_refl _) _).alloc (by simp) _).alloc (by simp <;> omega) _)⟩
  case round =>
    obtain ⟨k, Ao, co, ys, rfl, hk, hto, q2, f2, q1, f1, hz, hbel⟩ := hrel
    replace hto := Lib.hid hto
    have q2' : wr.cell? ⟨w.heap.size + 1 + 1, 0, none⟩ = some (.slice Ao k co) := q2
    have f2' : ∀ o, wr.frozen? ⟨w.heap.size + 1 + 1, o, none⟩ = false := f2
    clear q2 f2
    have hz2 : w.heap.size + 1 + 1 < wr.heap.size := by omega
    by_cases hlt : k < n
    · obtain ⟨b, off, K, A2, n2, c2, rfl, hb0, hb, hja, q0, hm, hrk⟩ := out_at (hr.out.frame good_loop (Below.sameB hbel hhi)) hlt
      have hbw : b < wr.heap.size := by omega
      have hlen : n2 ≤ 1048576 := by rw [← hrk.1]; exact hK.out K (List.mem_of_getElem? hja)
      have hn2 := Lib.hid hrk.1
      have hcall := Lib.hid (fun W (hS : SameB 0 wr.heap.size wr W) => cloneKnot_any A2 n2 c2 lo hi K W (hrk.frame (good_flat _) (hS.mono (Nat.zero_le _) (by omega))) hlen (rdS_none hrk))
      clear hrk hm hb0 hb
      replace hja := Lib.hid hja
      replace q1 := Lib.hid q1
      replace f1 := Lib.hid f1
      go_wp2_with fail
      go_region_law (first | (refine stepAppAt rfl (.tmp 15) (.tmp 20) elemLoop rfl (v := .slice Ao k co) (n := k) (xs := ys) rfl ((own_below hto.out.1 hB1.out).alloc _) rfl (src_at (cs := [.slice A3 n2 c3]) rfl (by simp [Value.oneCell']) (by simp)) (by omega) (by omega) (by simp; omega) (k + 1) rfl ?_; intro A4 c4 w2 ho2 hg2; have hne : (Value.slice Ao k co).ownBlock ≠ some (w.heap.size + 1 + 1) := (fun e => by have := (hto.out.1.lt _ e).1; omega); have hk2 : w2.heap[w.heap.size + 1 + 1]? = wr.heap[w.heap.size + 1 + 1]? := ((hg2.block _ (by simp; omega) (fun e => hne e.symm)).trans (Below.heap_alloc _ _ _ (by omega))).trans (hB1.out.block _ hz2); have q4 : w2.cell? ⟨w.heap.size + 1 + 1, 0, none⟩ = some (.slice Ao k co) := ((World.cell?_of_block hk2).trans q2'); have f4 : ∀ o, w2.frozen? ⟨w.heap.size + 1 + 1, o, none⟩ = false := (fun o => (World.frozen?_of_block hk2).trans (f2' o)); clear hk2 hne; replace ho2 := Lib.hid ho2; replace hg2 := Lib.hid hg2) | (go_simp; go_at_call 120; refine (hcall.out _ (by repeat (first | exact SameB.refl _ _ _ | refine SameB.drew ?_ | refine SameB.alloc ?_ (by simp <;> omega) _))).mono ?_; rintro e w1 ⟨A3, c3, rfl, ho1, hb1⟩; have hB1 : Below wr.heap.size wr w1 := (((Below.refl _ _).alloc (Nat.le_refl _) _).drew).trans (hb1.mono (by simp)); have hs1 : wr.heap.size + 1 ≤ w1.heap.size := (by have := hb1.size; simp at this; exact this); have q3 : w1.cell? ⟨w.heap.size + 1 + 1, 0, none⟩ = some (.slice Ao k co) := (by rw [hB1.cell hz2]; exact q2'); have q3' : w1.cell? ⟨wr.heap.size, 0, none⟩ = some (.slice A2 n2 c2) := (by rw [hb1.cell (by simp)]; go_simp); replace ho1 := Lib.hid ho1; replace hB1 := Lib.hid hB1; have hs2 : w.heap.size + 1 + 1 < w1.heap.size := (by omega); clear hb1; dsimp only))
      all_goals
        go_wp2_with fail
        go_roundw
        case rel =>
          have hn2' := hn2.out
          subst hn2'
          have hB := hB1.out
          have hg := hg2.out
          have hgs := hg.size
          simp at hgs
          have hto' := hto.out
          have hne1 : (Value.slice Ao k co).ownBlock ≠ some (w.heap.size + 1) := fun e => by have := (hto'.1.lt _ e).1; omega
          have hk1 : w2.heap[w.heap.size + 1]? = wr.heap[w.heap.size + 1]? := ((hg.block _ (by simp; omega) (fun e => hne1 e.symm)).trans (Below.heap_alloc _ _ _ (by omega))).trans (hB.block _ (by omega))
          have hnx := OutTo.next (w1 := w1.alloc (.cells #[.slice A3 K.length c3] 107 (0, 0))) hto' hja.out ((hB.alloc hB.size _)) (ho1.out.alloc _) (by simp) hz ho2.out hg
          refine ⟨k + 1, A4, c4, _, by go_num, by omega, hnx.set (by simp) _, by go_simp, fun o => by have := f4 o; go_simp, ?_, fun o => ?_, by simp; omega, ?_⟩
          · exact (World.cell?_of_block (w := wr) ((Below.heap_setCell _ _ _ _ (by simp)).trans hk1)).trans q1.out
          · exact (World.frozen?_of_block (w := wr) ((Below.heap_setCell _ _ _ _ (by simp)).trans hk1)).trans (f1.out o)
          · exact (((hbel.trans (hB.mono hbel.size)).alloc (by omega) _).grown hg (by simp; omega) (fun g hgk => by have := (hto'.1.lt g hgk).1; omega)).setCell (by simp; omega) _
        case measure => simp [intOf]; omega
    · have hkn : k = n := by omega
      replace hkn := Lib.hid hkn
      replace hto := Lib.hid hto
      go_wp2_with fail
      refine bodyPost_ret (v := .agg #[.slice Ao n co]) (by have := hkn.out; simp [results, Try.results80, go_sem, q1, this]) rfl ⟨Ao, co, rfl, ?_, ?_⟩
      · obtain ⟨h1, h2, h3⟩ := hto.out
        have hkn' := hkn.out
        have hll' := hll.out
        subst hkn'
        refine ⟨ys, hll', own_lower (ownsRow_setCell_below h1 (by simp) _) (by omega), fun j K hj => ?_, h3⟩
        obtain ⟨Aj, cj, h4, h5⟩ := h2 j K (by have := (List.getElem?_eq_some_iff.1 hj).1; omega) hj
        exact ⟨Aj, cj, h4, own_lower (ownsRow_setCell_below h5 (by simp) _) (by omega)⟩
      · exact hbel.setCell (by simp) _
end Go.Proofs.Ytgnjohkfgllhmaa
