/- The program's outline of a state of the hint machine. Printed by mk_ho2.py. Conditions: as each states. -/
import Derived.Test.YtgngcllodofimaaHo1
import Derived.Test.YtgngcllodofimaaOutM
import Derived.Deep.RegionHeld3
namespace Go.Proofs.Ytgngcllodofimaa
open Go.RowKit
set_option linter.unusedVariables false
set_option maxRecDepth 100000

/-- one row of the outline turned -/
theorem OutIn.setRow {w w' : World} {lo hi n c : Nat} {A : Option Addr} {ys : List Value} {Ls : List (List Knot)} (h : OutIn w lo hi A n c ys Ls) {j : Nat} {K K' : List Knot} (hj : Ls[j]? = some K) (hl : K'.length = K.length) {Aj : Option Addr} {cj : Nat} (hv : ys[j]? = some (.slice Aj K.length cj))
    (ho : w'.ownsRow lo 147 3 (.slice Aj K.length cj) K.length (K'.flatMap knotC)) (hg : w.grownBy w' (Value.slice Aj K.length cj).ownBlock) : OutIn w' lo hi A n c ys (Ls.set j K') := by
  obtain ⟨h1, h2, h3, h4, h5, h6⟩ := h
  have hjl := (List.getElem?_eq_some_iff.1 hj).1
  obtain ⟨Aj', cj', hv', hoj⟩ := h3 j K hj
  have e := Option.some.inj (hv.symm.trans hv')
  injection e with e1 e2 e3
  subst e1 e3
  refine ⟨by rw [List.length_set]; exact h1, own_same h2 fun g hgv => hg.block g (h2.lt g hgv).2 fun e => own_ne_kind h2 hoj (by decide) hgv e.symm, fun i L hi => ?_, h4, h5, h6⟩
  by_cases hij : i = j
  · subst hij
    rw [List.getElem?_set_self hjl] at hi
    injection hi with hi; subst hi
    exact ⟨Aj, cj, by rw [hl]; exact hv, by rw [hl]; exact ho⟩
  · rw [List.getElem?_set_ne (Ne.symm hij)] at hi
    obtain ⟨Ai, ci, hvi, hoi⟩ := h3 i L hi
    exact ⟨Ai, ci, hvi, own_same hoi fun g hgv => hg.block g (hoi.lt g hgv).2 fun e => h4 i j _ _ hij hvi hv g hgv e.symm⟩
theorem flat_set2 {L : List Knot} {q : Nat} {a b x1 x2 : Int} {z : Bool} (hq : L[q]? = some (a, b, z)) : ((L.flatMap knotC).set (q * 3) (.int .i64 x1)).set (q * 3 + 1) (.int .i64 x2) = (L.set q (x1, x2, z)).flatMap knotC := by
  have hql := (List.getElem?_eq_some_iff.1 hq).1
  have hfl : (L.flatMap knotC).length = L.length * 3 := flat_length knotC_len L
  refine flat_ext (n := L.length) knotC_len (by rw [List.length_set]) (by rw [List.length_set, List.length_set]; exact hfl) fun j k hj i hi => ?_
  by_cases hjq : j = q
  · subst hjq
    rw [List.getElem?_set_self hql] at hj
    injection hj with hj; subst hj
    match i, hi with
    | 0, _ => rw [List.getElem?_set_ne (by omega)]; simp only [Nat.add_zero]; rw [List.getElem?_set_self (by omega)]; rfl
    | 1, _ => rw [List.getElem?_set_self (by rw [List.length_set]; omega)]; rfl
    | 2, _ => rw [List.getElem?_set_ne (by omega), List.getElem?_set_ne (by omega), flat_get knotC_len L j _ 2 hq (by omega)]; rfl
  · rw [List.getElem?_set_ne (Ne.symm hjq)] at hj
    rw [List.getElem?_set_ne (by omega), List.getElem?_set_ne (by omega)]
    exact flat_get knotC_len L j k i hj hi
theorem set_same {α : Type} {L : List α} {k : Nat} {a : α} (h : L[k]? = some a) : L.set k a = L := by
  apply List.ext_getElem?
  intro i
  by_cases hi : i = k
  · subst hi; rw [List.getElem?_set_self (List.getElem?_eq_some_iff.1 h).1]; exact h.symm
  · rw [List.getElem?_set_ne (Ne.symm hi)]
theorem mixT_next {α : Type} {M K : List α} (h : M.length = K.length) {L : List (List α)} {j q : Nat} {m : α} (hm : M[q]? = some m) : (L.set j (mixT M K q)).set j ((mixT M K q).set q m) = L.set j (mixT M K (q + 1)) := by
  rw [List.set_set, mixT_set h hm]


set_option maxHeartbeats 8000000 in
theorem hintedOutline_any (d : HinterD) (h : HinterH) (lon hin : Nat) (P : List (Int × Int)) (A : Option Addr) (n c lo hi : Nat) (Ls : List (List Knot)) (w : World) (hp : RdS 2 (FlatR ptC) w lon hin h.now.A h.now.n P) (hhin : hin ≤ w.heap.size) (hr : OutRd w lo hi A n Ls) (hhi : hi ≤ w.heap.size) (hn : n ≤ 12) (hK : ∀ K ∈ Ls, K.length ≤ 60) (hN : sumK Ls n ≤ h.now.n) (h2N : 2 ≤ h.now.n) (hN2 : h.now.n ≤ 242) (hsm : ∀ p ∈ P, -1000000000000000000 ≤ p.1 ∧ p.1 ≤ 1000000000000000000) :
    Calls Try.prog 115 #[hinV d h, .agg #[.slice A n c]] w fun e w' => ∃ A' c', e = .returned (.tuple #[.agg #[.slice A' n c'], .int .i64 (hintW P)]) ∧ OutOwn w' w.heap.size A' n c' (hintLs P 0 Ls) ∧ Below w.heap.size w w' := by
  have hll := Lib.hid hr.1
  have hnew := Lib.hid (heap_new0 w (.cells #[.int .i64 d.size, .slice h.orig.A h.orig.n h.orig.c, .slice h.now.A h.now.n h.now.c, .slice h.tx.A h.tx.n h.tx.c, .slice h.ty.A h.ty.n h.ty.c, .slice h.ends.A h.ends.n h.ends.c, .slice h.values.A h.values.n h.values.c, .slice h.stack.A h.stack.n h.stack.c, .bool d.axisY, .int .i64 d.ref, .int .i64 d.state, .int .i64 d.cut, .int .i64 d.least] 65 (0, 0)) (.cells #[.slice A n c] 46 (0, 0)) (.cells #[.slice none 0 0] 46 (0, 0)))
  have hB0 : Below w.heap.size w (((w.alloc (.cells #[.int .i64 d.size, .slice h.orig.A h.orig.n h.orig.c, .slice h.now.A h.now.n h.now.c, .slice h.tx.A h.tx.n h.tx.c, .slice h.ty.A h.ty.n h.ty.c, .slice h.ends.A h.ends.n h.ends.c, .slice h.values.A h.values.n h.values.c, .slice h.stack.A h.stack.n h.stack.c, .bool d.axisY, .int .i64 d.ref, .int .i64 d.state, .int .i64 d.cut, .int .i64 d.least] 65 (0, 0))).alloc (.cells #[.slice A n c] 46 (0, 0))).alloc (.cells #[.slice none 0 0] 46 (0, 0))) := (((Below.refl _ _).alloc (Nat.le_refl _) _).alloc (by simp) _).alloc (by simp <;> omega) _
  have hz0 : (((w.alloc (.cells #[.int .i64 d.size, .slice h.orig.A h.orig.n h.orig.c, .slice h.now.A h.now.n h.now.c, .slice h.tx.A h.tx.n h.tx.c, .slice h.ty.A h.ty.n h.ty.c, .slice h.ends.A h.ends.n h.ends.c, .slice h.values.A h.values.n h.values.c, .slice h.stack.A h.stack.n h.stack.c, .bool d.axisY, .int .i64 d.ref, .int .i64 d.state, .int .i64 d.cut, .int .i64 d.least] 65 (0, 0))).alloc (.cells #[.slice A n c] 46 (0, 0))).alloc (.cells #[.slice none 0 0] 46 (0, 0))).heap.size = w.heap.size + 3 := by simp
  have hc1 : (((w.alloc (.cells #[.int .i64 d.size, .slice h.orig.A h.orig.n h.orig.c, .slice h.now.A h.now.n h.now.c, .slice h.tx.A h.tx.n h.tx.c, .slice h.ty.A h.ty.n h.ty.c, .slice h.ends.A h.ends.n h.ends.c, .slice h.values.A h.values.n h.values.c, .slice h.stack.A h.stack.n h.stack.c, .bool d.axisY, .int .i64 d.ref, .int .i64 d.state, .int .i64 d.cut, .int .i64 d.least] 65 (0, 0))).alloc (.cells #[.slice A n c] 46 (0, 0))).alloc (.cells #[.slice none 0 0] 46 (0, 0))).cell? ⟨w.heap.size + 1, 0, none⟩ = some (.slice A n c) := by rw [Go.Joins.cell_of_block hnew.out.2.1]; rfl
  have hcall := Lib.hid (copyOutline_any A n c lo hi Ls (((w.alloc (.cells #[.int .i64 d.size, .slice h.orig.A h.orig.n h.orig.c, .slice h.now.A h.now.n h.now.c, .slice h.tx.A h.tx.n h.tx.c, .slice h.ty.A h.ty.n h.ty.c, .slice h.ends.A h.ends.n h.ends.c, .slice h.values.A h.values.n h.values.c, .slice h.stack.A h.stack.n h.stack.c, .bool d.axisY, .int .i64 d.ref, .int .i64 d.state, .int .i64 d.cut, .int .i64 d.least] 65 (0, 0))).alloc (.cells #[.slice A n c] 46 (0, 0))).alloc (.cells #[.slice none 0 0] 46 (0, 0))) (hr.frame good_loop (Below.sameB hB0 hhi)) (by omega) (by omega) (fun K h => by have := hK K h; omega))
  generalize hw0 : (((w.alloc (.cells #[.int .i64 d.size, .slice h.orig.A h.orig.n h.orig.c, .slice h.now.A h.now.n h.now.c, .slice h.tx.A h.tx.n h.tx.c, .slice h.ty.A h.ty.n h.ty.c, .slice h.ends.A h.ends.n h.ends.c, .slice h.values.A h.values.n h.values.c, .slice h.stack.A h.stack.n h.stack.c, .bool d.axisY, .int .i64 d.ref, .int .i64 d.state, .int .i64 d.cut, .int .i64 d.least] 65 (0, 0))).alloc (.cells #[.slice A n c] 46 (0, 0))).alloc (.cells #[.slice none 0 0] 46 (0, 0))) = w0 at hnew hB0 hz0 hc1 hcall
  replace hw0 := Lib.hid hw0
  replace hr := Lib.hid hr
  replace hK := Lib.hid hK
  replace hsm := Lib.hid hsm
  obtain ⟨N, hNe⟩ : ∃ N, N = h.now.n := ⟨_, rfl⟩
  obtain ⟨AN, hAN⟩ : ∃ AN, AN = h.now.A := ⟨_, rfl⟩
  obtain ⟨cN, hcN⟩ : ∃ cN, cN = h.now.c := ⟨_, rfl⟩
  rw [← hNe, ← hAN] at hp
  rw [← hNe] at hN h2N hN2
  rw [← hNe, ← hAN, ← hcN] at hnew
  replace hp := Lib.hid hp
  replace hNe := Lib.hid hNe
  replace hAN := Lib.hid hAN
  replace hcN := Lib.hid hcN
  go_enter Try.func115, Try.ntmps115
  go_wp2_with fail
  rw [hw0.out]
  clear hw0
  refine hcall.out.mono ?_
  rintro e w1 ⟨A6, c6, rfl, ho6, hb1⟩
  obtain ⟨ys, hin6⟩ := ho6.in
  have hz1 := hb1.size
  have hB1 : Below w.heap.size w w1 := hB0.trans (hb1.mono (by omega))
  have HH := (hb1.block w.heap.size (by omega)).trans hnew.out.1
  have HR := (hb1.block (w.heap.size + 2) (by omega)).trans hnew.out.2.2
  have H6 := heap_alloc_new w1 (.cells #[.slice A6 n c6] 46 (0, 0))
  obtain ⟨lo6, hlo6⟩ : ∃ v, v = w0.heap.size := ⟨_, rfl⟩
  obtain ⟨hi6, hhi6⟩ : ∃ v, v = w1.heap.size := ⟨_, rfl⟩
  obtain ⟨b6, hb6⟩ : ∃ v, v = w1.heap.size := ⟨_, rfl⟩
  rw [← hlo6, ← hhi6] at hin6
  have hin7 : OutIn (w1.alloc (.cells #[.slice A6 n c6] 46 (0, 0))) lo6 hi6 A6 n c6 ys Ls := hin6.same ((SameB.refl _ _ _).alloc (by omega) _)
  have hin8 : OutIn (w1.alloc (.cells #[.slice A6 n c6] 46 (0, 0))) lo6 hi6 A6 n c6 ys (mixT (hintLs P 0 Ls) Ls 0) := by rw [mixT_zero]; exact hin7
  have hlo6w : lo6 ≤ w1.heap.size := by omega
  replace hin8 := Lib.hid hin8
  replace HH := Lib.hid HH
  replace HR := Lib.hid HR
  replace H6 := Lib.hid H6
  clear hin6 hin7 ho6 hnew hcall hb1 hc1
  go_wp2_with fail
  go_loopw [7, 17] (fun av i wr => ∃ k : Nat, av = .int .i64 (sumK Ls k : Int) ∧ i = .int .i64 k ∧ k ≤ n ∧ OutIn wr lo6 hi6 A6 n c6 ys (mixT (hintLs P 0 Ls) Ls k) ∧ wr.heap[b6]? = some (.cells #[.slice A6 n c6] 46 (0, 0)) ∧ b6 + 1 ≤ wr.heap.size ∧ Below lo6 w1 wr) (fun av i wr => n - (intOf i).toNat)
  case atStart =>
    exact ⟨0, rfl, rfl, Nat.zero_le _, hin8.out, by rw [hb6]; exact H6.out, by rw [hb6]; simp, (Below.refl _ _).alloc hlo6w _⟩
  case round =>
    clear hin8 H6
    obtain ⟨k, rfl, rfl, hk, hin, H6, hz6, hbel⟩ := hrel
    obtain ⟨w5, hw5⟩ : ∃ v, v = wr := ⟨_, rfl⟩
    subst hw5
    have hz := hbel.size
    replace H6 := Lib.hid H6
    by_cases hlt : k < n
    · obtain ⟨K, hja⟩ : ∃ K, Ls[k]? = some K := ⟨_, List.getElem?_eq_getElem (by have := hll.out; omega)⟩
      have hlen := hintLs_len P 0 Ls
      have hkk : (mixT (hintLs P 0 Ls) Ls k)[k]? = some K := by rw [mixT_at hlen (by have := hll.out; omega)]; exact hja
      obtain ⟨i1, i2, i3, i4, i5, i6⟩ := id hin
      obtain ⟨Ak, ck, hyk, hok⟩ := i3 k K hkk
      obtain ⟨g6, rfl, hg6l, hg6h, _, hc6, _⟩ := own_at i2 (by omega)
      have q6 := hc6 k (by omega)
      rw [hyk] at q6
      have hKl := hK.out K (List.mem_of_getElem? hja)
      have hs1 := sumK_step hja
      have hsn : sumK Ls (k + 1) ≤ sumK Ls n := sumK_mono (by omega)
      have hat : (hintLs P 0 Ls)[k]? = some (hintK P (sumK Ls k) K) := by have := hintLs_at (P := P) (a := 0) hja; rwa [Nat.zero_add] at this
      replace hat := Lib.hid hat
      replace hlen := Lib.hid hlen
      replace hkk := Lib.hid hkk
      replace hja := Lib.hid hja
      replace hyk := Lib.hid hyk
      replace hin := Lib.hid hin
      clear i1 i2 i3 i4 i5 hok hc6
      replace i6 := Lib.hid i6
      go_wp2_with fail
      clear q6
      go_loopw [7, 24] (fun av i wr => ∃ q : Nat, av = .int .i64 ((sumK Ls k + q : Nat) : Int) ∧ i = .int .i64 q ∧ q ≤ K.length ∧ OutIn wr lo6 hi6 (some ⟨g6, 0, none⟩) n c6 ys ((mixT (hintLs P 0 Ls) Ls k).set k (mixT (hintK P (sumK Ls k) K) K q)) ∧ wr.heap[w5.heap.size]? = some (.cells #[.slice Ak K.length ck] 145 (0, 0)) ∧ wr.heap[b6]? = some (.cells #[.slice (some ⟨g6, 0, none⟩) n c6] 46 (0, 0)) ∧ w5.heap.size + 1 ≤ wr.heap.size ∧ Below lo6 w1 wr) (fun av i wr => K.length - (intOf i).toNat)
      case atStart =>
        refine ⟨0, rfl, rfl, Nat.zero_le _, ?_, heap_alloc_new w5 _, (Below.heap_alloc _ _ _ (by omega)).trans H6.out, by simp, hbel.alloc (by omega) _⟩
        rw [mixT_zero, set_same hkk.out]
        exact hin.out.same ((SameB.refl _ _ _).alloc (by omega) _)
      case round =>
        clear hin H6 hz6 hbel
        obtain ⟨q, rfl, rfl, hq, hin, H9, H6, hz9, hbel⟩ := hrel
        have hzr := hbel.size
        have hBr : Below w.heap.size w wr := hB1.trans (hbel.mono (by omega))
        have hlenK := hintK_len P (sumK Ls k) K
        replace H9 := Lib.hid H9
        replace H6 := Lib.hid H6
        by_cases hql : q < K.length
        · obtain ⟨x, hx⟩ : ∃ x, K[q]? = some x := ⟨_, List.getElem?_eq_getElem hql⟩
          have hxq : (mixT (hintK P (sumK Ls k) K) K q)[q]? = some x := by rw [mixT_at hlenK hql]; exact hx
          obtain ⟨m, hm⟩ : ∃ m, m = sumK Ls k + q := ⟨_, rfl⟩
          have hmN : m < N := by omega
          obtain ⟨bN, oN, y, rfl, hbN0, hbNh, hy, hcn⟩ := hp.out.at hmN
          have y0 := (hBr.cell (p := ⟨bN, oN + m * 2 + 0, none⟩) (by simp; omega)).trans (hcn 0 _ rfl)
          have y1 := (hBr.cell (p := ⟨bN, oN + m * 2 + 1, none⟩) (by simp; omega)).trans (hcn 1 _ rfl)
          simp only [Nat.add_zero] at y0
          have hKq : ((mixT (hintLs P 0 Ls) Ls k).set k (mixT (hintK P (sumK Ls k) K) K q))[k]? = some (mixT (hintK P (sumK Ls k) K) K q) := List.getElem?_set_self (List.getElem?_eq_some_iff.1 hkk.out).1
          have hKql := mixT_len hlenK q
          obtain ⟨Ak', ck', hyk', hok⟩ := hin.2.2.1 k _ hKq
          have e := Option.some.inj (hyk.out.symm.trans hyk')
          injection e with e1 e2 e3
          subst e1 e3
          rw [hKql] at hok hyk'
          obtain ⟨g, rfl, hgl, hgs, _, hcg, hfg⟩ := own_at hok (by omega)
          have hgh : g < hi6 := i6.out k _ g hyk.out rfl
          have hkey := mixT_next (L := mixT (hintLs P 0 Ls) Ls k) (j := k) hlenK (hintK_at hx (by rw [← hm]; exact hy))
          obtain ⟨x1, x2, z⟩ := x
          obtain ⟨px, py⟩ := y
          dsimp only at y0 y1 hkey
          have c0 := hcg (q * 3) (by omega)
          have c1 := hcg (q * 3 + 1) (by omega)
          have v0 := flat_get knotC_len _ q _ 0 hxq (by omega)
          have v1 := flat_get knotC_len _ q _ 1 hxq (by omega)
          simp only [Nat.add_zero] at v0
          rw [v0] at c0
          rw [v1] at c1
          simp only [knotC, List.getElem?_cons_zero, List.getElem?_cons_succ] at c0 c1
          have f0 := hfg (q * 3)
          have f1 := hfg (q * 3 + 1)
          have s0 := (World.ownsRow.drew hok).stored (q * 3) (.int .i64 px)
          have s1 := s0.1.stored (q * 3 + 1) (.int .i64 py)
          rw [flat_set2 hxq] at s1
          have hset := Lib.hid (OutIn.setRow (w' := (wr.drew.setCell ⟨g, q * 3, none⟩ (.int .i64 px)).setCell ⟨g, q * 3 + 1, none⟩ (.int .i64 py)) (hin.same (w' := wr.drew) (fun b _ _ => rfl)) hKq (K' := (mixT (hintK P (sumK Ls k) K) K q).set q (px, py, z)) (by rw [List.length_set]) (by rw [hKql]; exact hyk') (by rw [hKql]; exact s1.1) (by rw [hKql]; exact grown_mkKnot s0.2 s1.2))
          rw [hkey] at hset
          have cb9 : wr.cell? ⟨w5.heap.size, 0, none⟩ = some (.slice (some ⟨g, 0, none⟩) K.length ck) := by rw [Go.Joins.cell_of_block H9.out]; rfl
          have ch2 : wr.cell? ⟨w.heap.size, 2, none⟩ = some (.slice (some ⟨bN, oN, none⟩) N cN) := by rw [Go.Joins.cell_of_block ((hbel.block w.heap.size (by omega)).trans HH.out)]; rfl
          have n1 : g ≠ w5.heap.size := by omega
          have n2 : g ≠ w.heap.size := by omega
          have n3 : g ≠ bN := by omega
          have n6 : g ≠ b6 := by omega
          have hmi : (m : Int) < (N : Int) := by omega
          have hm0 : (0 : Int) ≤ (m : Int) := by omega
          have hgr : g < wr.heap.size := hgs
          have hqm : sumK Ls k + (q + 1) = m + 1 := by omega
          replace hqm := Lib.hid hqm
          rw [← hm]
          replace hm := Lib.hid hm
          replace hy := Lib.hid hy
          replace hx := Lib.hid hx
          clear hin hok s0 s1 hKq hKql hkey hyk' hxq hcg hfg hcn v0 v1 hgh e2
          go_wp2_with fail
          go_region_held3 (fun w' => w'.cell? ⟨w5.heap.size, 0, none⟩ = some (.slice (some ⟨g, 0, none⟩) K.length ck) ∧ w'.cell? ⟨w.heap.size, 2, none⟩ = some (.slice (some ⟨bN, oN, none⟩) N cN) ∧ w'.cell? ⟨bN, oN + m * 2, none⟩ = some (.int .i64 px) ∧ w'.cell? ⟨bN, oN + m * 2 + 1, none⟩ = some (.int .i64 py)) (first | exact ⟨cb9, ch2, y0, y1⟩ | exact ⟨((World.cell?_setCell_far _ _ _ _ n1).trans ((World.cell?_setCell_far _ _ _ _ n1).trans cb9)), ((World.cell?_setCell_far _ _ _ _ n2).trans ((World.cell?_setCell_far _ _ _ _ n2).trans ch2)), ((World.cell?_setCell_far _ _ _ _ n3).trans ((World.cell?_setCell_far _ _ _ _ n3).trans y0)), ((World.cell?_setCell_far _ _ _ _ n3).trans ((World.cell?_setCell_far _ _ _ _ n3).trans y1))⟩) (fail)
          go_wp2_with fail
          go_roundw
          case rel =>
            refine ⟨q + 1, by rw [hqm.out]; go_num, by go_num, by omega, hset.out, ?_, ?_, by simp; omega, (hbel.drew.setCell (p := ⟨g, q * 3, none⟩) hgl _).setCell (p := ⟨g, q * 3 + 1, none⟩) hgl _⟩
            · exact (Below.heap_setCell _ _ _ _ n1.symm).trans ((Below.heap_setCell _ _ _ _ n1.symm).trans H9.out)
            · exact (Below.heap_setCell _ _ _ _ n6.symm).trans ((Below.heap_setCell _ _ _ _ n6.symm).trans H6.out)
          case measure => simp [intOf]; omega
        · have hqn : K.length = q := by omega
          have hfin := hin
          rw [← hqn, mixT_all hlenK, mixT_set hlen.out hat.out] at hfin
          have hsK : sumK Ls k + q = sumK Ls (k + 1) := by omega
          replace hsK := Lib.hid hsK
          replace hfin := Lib.hid hfin
          replace hqn := Lib.hid hqn
          clear hin
          go_wp2_with fail
          go_roundw
          case rel => exact ⟨k + 1, by have := hsK.out; go_num, by go_num, by omega, hfin.out, H6.out, by omega, hbel⟩
          case measure => simp [intOf]; omega
    · have hkn : n = k := by omega
      subst hkn
      subst hb6
      have hlen := hintLs_len P 0 Ls
      have hfin := hin
      rw [show mixT (hintLs P 0 Ls) Ls n = hintLs P 0 Ls by rw [← hll.out]; exact mixT_all hlen] at hfin
      have hll2 := hp.out.1
      have hBr : Below w.heap.size w w5 := hB1.trans (hbel.mono (by omega))
      obtain ⟨bN, oN, p1, rfl, hbN0, hbNh, hy1, hcn1⟩ := hp.out.at (show N - 1 < N by omega)
      obtain ⟨bN', oN', p2, hA, _, _, hy2, hcn2⟩ := hp.out.at (show N - 2 < N by omega)
      injection hA with hA
      injection hA with hA1 hA2
      subst hA1 hA2
      have y1 := (hBr.cell (p := ⟨bN, oN + (N - 1) * 2 + 0, none⟩) (by simp; omega)).trans (hcn1 0 _ rfl)
      have y2 := (hBr.cell (p := ⟨bN, oN + (N - 2) * 2 + 0, none⟩) (by simp; omega)).trans (hcn2 0 _ rfl)
      simp only [Nat.add_zero] at y1 y2
      have hW : hintW P = p1.1 - p2.1 := by
        unfold hintW
        rw [hll2, List.getD_eq_getElem?_getD, List.getD_eq_getElem?_getD, hy1, hy2]; rfl
      replace hW := Lib.hid hW
      have b1 := hsm.out p1 (List.mem_of_getElem? hy1)
      have b2 := hsm.out p2 (List.mem_of_getElem? hy2)
      obtain ⟨x1, z1⟩ := p1
      obtain ⟨x2, z2⟩ := p2
      dsimp only at y1 y2 b1 b2 hW
      have e1 : IntKind.i64.wrap ((N : Int) - 1) = ((N - 1 : Nat) : Int) := by rw [IntWalk.i64_in _ (by omega)]; omega
      have e2 : IntKind.i64.wrap ((N : Int) - 2) = ((N - 2 : Nat) : Int) := by rw [IntWalk.i64_in _ (by omega)]; omega
      have e3 : IntKind.i64.wrap (x1 - x2) = x1 - x2 := IntWalk.i64_in _ (by omega)
      obtain ⟨m1, hm1⟩ : ∃ m, m = N - 1 := ⟨_, rfl⟩
      obtain ⟨m2, hm2⟩ : ∃ m, m = N - 2 := ⟨_, rfl⟩
      rw [← hm1] at e1 y1
      rw [← hm2] at e2 y2
      have i1 : (m1 : Int) < (N : Int) := by omega
      have i2 : (m2 : Int) < (N : Int) := by omega
      have j1 : (0 : Int) ≤ (m1 : Int) := by omega
      have j2 : (0 : Int) ≤ (m2 : Int) := by omega
      have HR2 := (hbel.block (w.heap.size + 2) (by omega)).trans HR.out
      have cb6 : w5.cell? ⟨w1.heap.size, 0, none⟩ = some (.slice A6 n c6) := by rw [Go.Joins.cell_of_block H6.out]; rfl
      have ch2 : w5.cell? ⟨w.heap.size, 2, none⟩ = some (.slice (some ⟨bN, oN, none⟩) N cN) := by rw [Go.Joins.cell_of_block ((hbel.block w.heap.size (by omega)).trans HH.out)]; rfl
      have cr0 : w5.cell? ⟨w.heap.size + 2, 0, none⟩ = some (.slice none 0 0) := by rw [Go.Joins.cell_of_block HR2]; rfl
      have crf : ∀ o, w5.frozen? ⟨w.heap.size + 2, o, none⟩ = false := Go.Joins.unfrozen_of_block HR2
      have n1 : w.heap.size + 2 ≠ w1.heap.size := by omega
      have n2 : w.heap.size + 2 ≠ w.heap.size := by omega
      have n3 : w.heap.size + 2 ≠ bN := by omega
      have hl5 : w.heap.size < w5.heap.size := by omega
      have hl5r : w.heap.size + 2 < w5.heap.size := by omega
      replace hfin := Lib.hid hfin
      clear hin hm1 hm2 b1 b2 hcn1 hcn2 HR2
      go_wp2_with fail
      go_region_held3 (fun w' => w'.cell? ⟨w1.heap.size, 0, none⟩ = some (.slice A6 n c6) ∧ w'.cell? ⟨w.heap.size, 2, none⟩ = some (.slice (some ⟨bN, oN, none⟩) N cN) ∧ w'.cell? ⟨bN, oN + m1 * 2, none⟩ = some (.int .i64 x1) ∧ w'.cell? ⟨bN, oN + m2 * 2, none⟩ = some (.int .i64 x2)) (first | exact ⟨cb6, ch2, y1, y2⟩ | exact ⟨(World.cell?_setCell_far _ _ _ _ n1).trans cb6, (World.cell?_setCell_far _ _ _ _ n2).trans ch2, (World.cell?_setCell_far _ _ _ _ n3).trans y1, (World.cell?_setCell_far _ _ _ _ n3).trans y2⟩) (fail)
      go_wp2_with fail
      refine bodyPost_ret (v := .tuple #[.agg #[.slice A6 n c6], .int .i64 (x1 - x2)]) (by simp [results, Try.results115, go_sem, cr0]) rfl ⟨A6, c6, by rw [hW.out], ?_, (hBr.drew.setCell (p := ⟨w.heap.size + 2, 0, none⟩) (by simp) _)⟩
      have hfd : OutIn (w5.drew.setCell ⟨w.heap.size + 2, 0, none⟩ (.slice A6 n c6)) lo6 hi6 A6 n c6 ys (hintLs P 0 Ls) := hfin.out.same (SameB.setCell (fun b _ _ => rfl) (.inl (by simp; omega)) _)
      obtain ⟨ys', h1, h2, h3, h4⟩ := hfd.own
      exact ⟨ys', h1, own_lower h2 (by omega), fun j K hj => by obtain ⟨Aj, cj, h5, h6⟩ := h3 j K hj; exact ⟨Aj, cj, h5, own_lower h6 (by omega)⟩, h4⟩
end Go.Proofs.Ytgngcllodofimaa
