/- The reference's outline of a state of the hint machine. Printed by mk_ho1.py. Conditions: as each states. -/
import Derived.Test.YtgngcllodofimaaHo0
import Derived.Test.YtgngcllodofimaaCopyW
import Derived.Test.YtgngcllodofimaaRowk
import Derived.Test.YtgngcllodofimaaRegT
import Derived.Test.YtgngcllodofimaaHinter
namespace Go.Proofs.Ytgngcllodofimaa
open Go.RowKit
set_option linter.unusedVariables false
set_option maxRecDepth 100000

set_option maxHeartbeats 8000000 in
theorem l20Outline_any (Xh Xo : Nat) (AN : Option Addr) (N cN lon hin : Nat) (P : List (Int × Int)) (A : Option Addr) (n c lo hi : Nat) (Ls : List (List Knot)) (w : World) (hXh : Xh < w.heap.size) (hXo : Xo < w.heap.size) (hc2 : w.cell? ⟨Xh, 2, none⟩ = some (.slice AN N cN)) (hc0 : w.cell? ⟨Xo, 0, none⟩ = some (.slice A n c))
    (hp : RdS 2 (FlatR ptC) w lon hin AN N P) (hhin : hin ≤ w.heap.size) (hr : OutRd w lo hi A n Ls) (hhi : hi ≤ w.heap.size) (hn : n ≤ 12) (hK : ∀ K ∈ Ls, K.length ≤ 60) (hN : sumK Ls n ≤ N) (hN2 : N ≤ 242) :
    Calls Try.prog 109 #[.pointer (some ⟨Xh, 0, none⟩), .pointer (some ⟨Xo, 0, none⟩)] w fun e w' => ∃ A' c', e = .returned (.agg #[.slice A' n c']) ∧ OutOwn w' w.heap.size A' n c' (hintLs P 0 Ls) ∧ Below w.heap.size w w' := by
  have hll := Lib.hid hr.1
  have hnew := heap_new2 w (.cells #[.slice none 0 0] 46 (0, 0)) (.cells #[.slice none 0 0] 46 (0, 0))
  replace hr := Lib.hid hr
  replace hK := Lib.hid hK
  replace hp := Lib.hid hp
  go_enter Try.func109, Try.ntmps109
  go_wp2_with fail
  go_loopw [6, 7] (fun av i wr => ∃ (k : Nat) (Ao : Option Addr) (co : Nat) (ys : List Value), av = .int .i64 (sumK Ls k : Int) ∧ i = .int .i64 k ∧ k ≤ n ∧ OutTo wr (w.heap.size + 2) Ao k co ys (hintLs P 0 Ls) ∧ wr.heap[w.heap.size + 1]? = some (.cells #[.slice Ao k co] 46 (0, 0)) ∧ wr.heap[w.heap.size]? = some (.cells #[.slice none 0 0] 46 (0, 0)) ∧ w.heap.size + 2 ≤ wr.heap.size ∧ Below w.heap.size w wr) (fun av i wr => n - (intOf i).toNat)
  case atStart =>
    exact ⟨0, none, 0, [], rfl, rfl, Nat.zero_le _, ⟨World.ownsRow_nil _ _ _ _, fun j K hj => absurd hj (Nat.not_lt_zero j), fun i j u v _ hu => by simp at hu⟩, hnew.2, hnew.1, by simp, Go.Joins.below_alloc2 _ _ _⟩
  case round =>
    clear hnew
    obtain ⟨k, Ao, co, ys, rfl, rfl, hk, hto, HO, HR, hz, hbel⟩ := hrel
    obtain ⟨w5, hw5⟩ : ∃ v, v = wr := ⟨_, rfl⟩
    subst hw5
    replace hto := Lib.hid hto
    replace HO := Lib.hid HO
    replace HR := Lib.hid HR
    have o0 : w5.cell? ⟨Xo, 0, none⟩ = some (.slice A n c) := (hbel.cell (by simp; omega)).trans hc0
    have hXw : Xo < w5.heap.size := by omega
    by_cases hlt : k < n
    · obtain ⟨b1, off1, K, A2, n2, c2, rfl, hb10, hb1h, hja, qk, hmx, hrk⟩ := out_at hr.out hlt
      have hn2 := hrk.1
      subst hn2
      have hKl := hK.out K (List.mem_of_getElem? hja)
      have hs1 := sumK_step hja
      have hsn : sumK Ls (k + 1) ≤ sumK Ls n := sumK_mono (by omega)
      have hat := Lib.hid (hintLs_at (P := P) (a := 0) hja)
      replace hja := Lib.hid hja
      replace hrk := Lib.hid hrk
      have hb1w : b1 < w.heap.size := by omega
      have hnz : w5.heap.size < (w5.alloc (.cells #[.slice none 0 0] 145 (0, 0))).heap.size := by simp
      clear hmx hb10 hb1h
      go_wp2_with fail
      go_loopw [6, 9] (fun av i wi => ∃ (q : Nat) (Al : Option Addr) (cl : Nat), av = .int .i64 ((sumK Ls k + q : Nat) : Int) ∧ i = .int .i64 q ∧ q ≤ K.length ∧ wi.heap[w5.heap.size]? = some (.cells #[.slice Al q cl] 145 (0, 0)) ∧ wi.ownsRow (w5.heap.size + 1) 147 3 (.slice Al q cl) q (((hintK P (sumK Ls k) K).take q).flatMap knotC) ∧ w5.heap.size + 1 ≤ wi.heap.size ∧ Below w5.heap.size w5 wi) (fun av i wi => K.length - (intOf i).toNat)
      case atStart =>
        exact ⟨0, none, 0, rfl, rfl, Nat.zero_le _, heap_alloc_new w5 _, World.ownsRow_nil _ _ _ _, by simp, Go.Joins.below_alloc1 _ _⟩
      case round =>
        clear hXw o0 hnz
        obtain ⟨q, Al, cl, rfl, rfl, hq, HL, ho, hzi, hbi⟩ := hrel
        have hBi : Below w.heap.size w wr := hbel.trans (hbi.mono (by omega))
        have o0 : wr.cell? ⟨Xo, 0, none⟩ = some (.slice (some ⟨b1, off1, none⟩) n c) := (hBi.cell (by simp; omega)).trans hc0
        have qkr : wr.cell? ⟨b1, off1 + k, none⟩ = some (.slice A2 K.length c2) := (hBi.cell (by simp; omega)).trans qk
        have hXw : Xo < wr.heap.size := by omega
        have hb1r : b1 < wr.heap.size := by omega
        replace HL := Lib.hid HL
        replace ho := Lib.hid ho
        by_cases hql : q < K.length
        · obtain ⟨b2, off2, x, rfl, hb20, hb2h, hx, hcs⟩ := hrk.out.at hql
          have p2 := hcs 2 _ rfl
          obtain ⟨m, hm⟩ : ∃ m, m = sumK Ls k + q := ⟨_, rfl⟩
          have hmN : m < N := by omega
          obtain ⟨bN, oN, y, rfl, hbN0, hbNh, hy, hcn⟩ := hp.out.at hmN
          have y0 := hcn 0 _ rfl
          have y1 := hcn 1 _ rfl
          simp only [Nat.add_zero] at y0 y1
          rw [hm] at hy
          have hst := Lib.hid (take_step (hintK_at hx hy))
          obtain ⟨x1, x2, z⟩ := x
          obtain ⟨px, py⟩ := y
          dsimp only at p2 y0 y1 hst
          replace hx := Lib.hid hx
          replace hy := Lib.hid hy
          clear hcs hcn
          have Sof : ∀ W : World, Below w.heap.size w W → W.cell? ⟨Xh, 2, none⟩ = some (.slice (some ⟨bN, oN, none⟩) N cN) ∧ W.cell? ⟨bN, oN + m * 2, none⟩ = some (.int .i64 px) ∧ W.cell? ⟨bN, oN + m * 2 + 1, none⟩ = some (.int .i64 py) ∧ W.cell? ⟨Xo, 0, none⟩ = some (.slice (some ⟨b1, off1, none⟩) n c) ∧ W.cell? ⟨b1, off1 + k, none⟩ = some (.slice (some ⟨b2, off2, none⟩) K.length c2) ∧ W.cell? ⟨b2, off2 + q * 3 + 2, none⟩ = some (.bool z) := fun W hB => ⟨(hB.cell (by simp; omega)).trans hc2, (hB.cell (by simp; omega)).trans y0, (hB.cell (by simp; omega)).trans y1, (hB.cell (by simp; omega)).trans hc0, (hB.cell (by simp; omega)).trans qk, (hB.cell (by simp; omega)).trans p2⟩
          have hl0 : wr.cell? ⟨w5.heap.size, 0, none⟩ = some (.slice Al q cl) := by rw [Go.Joins.cell_of_block HL.out]; rfl
          have hlw : w5.heap.size < wr.heap.size := by omega
          have hBd : Below w.heap.size w wr.drew := hBi.drew
          have hbd : Below w5.heap.size w5 wr.drew := hbi.drew
          have hod : Hid (wr.drew.ownsRow (w5.heap.size + 1) 147 3 (.slice Al q cl) q (((hintK P (sumK Ls k) K).take q).flatMap knotC)) := World.ownsRow.drew ho.out
          have HLd : Hid (wr.drew.heap[w5.heap.size]? = some (.cells #[.slice Al q cl] 145 (0, 0))) := HL.out
          have hzd : w5.heap.size + 1 ≤ wr.drew.heap.size := hzi
          have hwd : w.heap.size ≤ wr.drew.heap.size := hBd.size
          have hmi : (m : Int) < (N : Int) := by omega
          have hm0 : (0 : Int) ≤ (m : Int) := by omega
          rw [← hm]
          replace Sof := Lib.hid Sof
          replace hm := Lib.hid hm
          replace hy := Lib.hid hy
          clear y0 y1 p2
          go_wp2_with fail
          clear o0 qkr hXw hb1r
          have hl0d : wr.drew.cell? ⟨w5.heap.size, 0, none⟩ = some (.slice Al q cl) := hl0
          refine wp_region_head 24 (fun w' => w'.cell? ⟨w5.heap.size, 0, none⟩ = some (.slice Al q cl) ∧ w'.cell? ⟨Xh, 2, none⟩ = some (.slice (some ⟨bN, oN, none⟩) N cN) ∧ w'.cell? ⟨bN, oN + m * 2, none⟩ = some (.int .i64 px) ∧ w'.cell? ⟨bN, oN + m * 2 + 1, none⟩ = some (.int .i64 py) ∧ w'.cell? ⟨Xo, 0, none⟩ = some (.slice (some ⟨b1, off1, none⟩) n c) ∧ w'.cell? ⟨b1, off1 + k, none⟩ = some (.slice (some ⟨b2, off2, none⟩) K.length c2) ∧ w'.cell? ⟨b2, off2 + q * 3 + 2, none⟩ = some (.bool z)) (by kernel_rfl) (by kernel_rfl) (by exact ⟨hl0d, Sof.out _ hBd⟩) (fun hHeld => ?_)
          simp only [List.take_succ_cons, List.take_zero, List.drop_succ_cons, List.drop_zero]
          refine wpAnyH_take (i := 0) (v := ?_) ((List.getElem?_toArray).trans rfl) (by kernel_rfl) (by kernel_rfl) (by kernel_rfl) (fun _ _ _ h => h) (Or.inl ⟨by rfl, ?_⟩) (by assumption) ?_
          rotate_left
          · (intro w hSw; (try dsimp only at hSw); go_simp; (try (with_reducible rfl)))
          (try simp only [Act.put, List.setIfInBounds_toArray, List.set_cons_zero, List.set_cons_succ])
          refine wpAnyH_take (i := 1) (v := ?_) ((List.getElem?_toArray).trans rfl) (by kernel_rfl) (by kernel_rfl) (by kernel_rfl) (fun _ _ _ h => h) (Or.inl ⟨by rfl, ?_⟩) (by assumption) ?_
          rotate_left
          · (intro w hSw; (try dsimp only at hSw); go_simp; (try (with_reducible rfl)))
          (try simp only [Act.put, List.setIfInBounds_toArray, List.set_cons_zero, List.set_cons_succ])
          refine wpAnyH_take (i := 2) (v := ?_) ((List.getElem?_toArray).trans rfl) (by kernel_rfl) (by kernel_rfl) (by kernel_rfl) (fun _ _ _ h => h) (Or.inl ⟨by rfl, ?_⟩) (by assumption) ?_
          rotate_left
          · (intro w hSw; (try dsimp only at hSw); go_simp; (try (with_reducible rfl)))
          (try simp only [Act.put, List.setIfInBounds_toArray, List.set_cons_zero, List.set_cons_succ])
          refine wpAnyH_take (i := 3) (v := ?_) ((List.getElem?_toArray).trans rfl) (by kernel_rfl) (by kernel_rfl) (by kernel_rfl) (fun _ _ _ h => h) (Or.inl ⟨by rfl, ?_⟩) (by assumption) ?_
          rotate_left
          · (intro w hSw; (try dsimp only at hSw); go_simp; (try (with_reducible rfl)))
          (try simp only [Act.put, List.setIfInBounds_toArray, List.set_cons_zero, List.set_cons_succ])
          refine wpAnyH_take (i := 4) (v := ?_) ((List.getElem?_toArray).trans rfl) (by kernel_rfl) (by kernel_rfl) (by kernel_rfl) (fun _ _ _ h => h) (Or.inl ⟨by rfl, ?_⟩) (by assumption) ?_
          rotate_left
          · (intro w hSw; (try dsimp only at hSw); go_simp; (try (with_reducible rfl)))
          (try simp only [Act.put, List.setIfInBounds_toArray, List.set_cons_zero, List.set_cons_succ])
          refine wpAnyH_take (i := 5) (v := ?_) ((List.getElem?_toArray).trans rfl) (by kernel_rfl) (by kernel_rfl) (by kernel_rfl) (fun _ _ _ h => h) (Or.inl ⟨by rfl, ?_⟩) (by assumption) ?_
          rotate_left
          · (intro w hSw; (try dsimp only at hSw); go_simp; (try (with_reducible rfl)))
          (try simp only [Act.put, List.setIfInBounds_toArray, List.set_cons_zero, List.set_cons_succ])
          refine wpAnyH_take (i := 6) (v := ?_) ((List.getElem?_toArray).trans rfl) (by kernel_rfl) (by kernel_rfl) (by kernel_rfl) (fun _ _ _ h => h) (Or.inl ⟨by rfl, ?_⟩) (by assumption) ?_
          rotate_left
          · (intro w hSw; (try dsimp only at hSw); go_simp; (try (with_reducible rfl)))
          (try simp only [Act.put, List.setIfInBounds_toArray, List.set_cons_zero, List.set_cons_succ])
          refine wpAnyH_take (i := 7) (v := ?_) ((List.getElem?_toArray).trans rfl) (by kernel_rfl) (by kernel_rfl) (by kernel_rfl) (fun _ _ _ h => h) (Or.inl ⟨by rfl, ?_⟩) (by assumption) ?_
          rotate_left
          · (intro w hSw; (try dsimp only at hSw); go_simp; (try (with_reducible rfl)))
          (try simp only [Act.put, List.setIfInBounds_toArray, List.set_cons_zero, List.set_cons_succ])
          refine wpAnyH_take (i := 8) (v := ?_) ((List.getElem?_toArray).trans rfl) (by kernel_rfl) (by kernel_rfl) (by kernel_rfl) (fun _ _ _ h => h) (Or.inl ⟨by rfl, ?_⟩) (by assumption) ?_
          rotate_left
          · (intro w hSw; (try dsimp only at hSw); go_simp; (try (with_reducible rfl)))
          (try simp only [Act.put, List.setIfInBounds_toArray, List.set_cons_zero, List.set_cons_succ])
          refine wpAnyH_take (i := 9) (v := ?_) ((List.getElem?_toArray).trans rfl) (by kernel_rfl) (by kernel_rfl) (by kernel_rfl) (fun _ _ _ h => h) (Or.inl ⟨by rfl, ?_⟩) (by assumption) ?_
          rotate_left
          · (intro w hSw; (try dsimp only at hSw); go_simp; (try (with_reducible rfl)))
          (try simp only [Act.put, List.setIfInBounds_toArray, List.set_cons_zero, List.set_cons_succ])
          refine wpAnyH_take (i := 10) (v := ?_) ((List.getElem?_toArray).trans rfl) (by kernel_rfl) (by kernel_rfl) (by kernel_rfl) (fun _ _ _ h => h) (Or.inl ⟨by rfl, ?_⟩) (by assumption) ?_
          rotate_left
          · (intro w hSw; (try dsimp only at hSw); go_simp; (try (with_reducible rfl)))
          (try simp only [Act.put, List.setIfInBounds_toArray, List.set_cons_zero, List.set_cons_succ])
          refine wpAnyH_take (i := 11) (v := ?_) ((List.getElem?_toArray).trans rfl) (by kernel_rfl) (by kernel_rfl) (by kernel_rfl) (fun _ _ _ h => h) (Or.inl ⟨by rfl, ?_⟩) (by assumption) ?_
          rotate_left
          · (intro w hSw; (try dsimp only at hSw); go_simp; (try (with_reducible rfl)))
          (try simp only [Act.put, List.setIfInBounds_toArray, List.set_cons_zero, List.set_cons_succ])
          refine wpAnyH_take (i := 12) (v := ?_) ((List.getElem?_toArray).trans rfl) (by kernel_rfl) (by kernel_rfl) (by kernel_rfl) (fun _ _ _ h => h) (Or.inl ⟨by rfl, ?_⟩) (by assumption) ?_
          rotate_left
          · (intro w hSw; (try dsimp only at hSw); go_simp; (try (with_reducible rfl)))
          (try simp only [Act.put, List.setIfInBounds_toArray, List.set_cons_zero, List.set_cons_succ])
          refine wpAnyH_take (i := 13) (v := ?_) ((List.getElem?_toArray).trans rfl) (by kernel_rfl) (by kernel_rfl) (by kernel_rfl) (fun _ _ _ h => h) (Or.inl ⟨by rfl, ?_⟩) (by assumption) ?_
          rotate_left
          · (intro w hSw; (try dsimp only at hSw); go_simp; (try (with_reducible rfl)))
          (try simp only [Act.put, List.setIfInBounds_toArray, List.set_cons_zero, List.set_cons_succ])
          refine wpAnyH_take (i := 14) (v := ?_) ((List.getElem?_toArray).trans rfl) (by kernel_rfl) (by kernel_rfl) (by kernel_rfl) (fun _ _ _ h => h) (Or.inl ⟨by rfl, ?_⟩) (by assumption) ?_
          rotate_left
          · (intro w hSw; (try dsimp only at hSw); go_simp; (try (with_reducible rfl)))
          (try simp only [Act.put, List.setIfInBounds_toArray, List.set_cons_zero, List.set_cons_succ])
          refine wpAnyH_take (i := 15) (v := ?_) ((List.getElem?_toArray).trans rfl) (by kernel_rfl) (by kernel_rfl) (by kernel_rfl) (fun _ _ _ h => h) (Or.inl ⟨by rfl, ?_⟩) (by assumption) ?_
          rotate_left
          · (intro w hSw; (try dsimp only at hSw); go_simp; (try (with_reducible rfl)))
          (try simp only [Act.put, List.setIfInBounds_toArray, List.set_cons_zero, List.set_cons_succ])
          refine wpAnyH_take (i := 16) (v := ?_) ((List.getElem?_toArray).trans rfl) (by kernel_rfl) (by kernel_rfl) (by kernel_rfl) (fun _ _ _ h => h) (Or.inl ⟨by rfl, ?_⟩) (by assumption) ?_
          rotate_left
          · (intro w hSw; (try dsimp only at hSw); go_simp; (try (with_reducible rfl)))
          (try simp only [Act.put, List.setIfInBounds_toArray, List.set_cons_zero, List.set_cons_succ])
          refine wpAnyH_take (i := 17) (v := ?_) ((List.getElem?_toArray).trans rfl) (by kernel_rfl) (by kernel_rfl) (by kernel_rfl) (fun _ _ _ h => h) (Or.inl ⟨by rfl, ?_⟩) (by assumption) ?_
          rotate_left
          · (intro w hSw; (try dsimp only at hSw); go_simp; (try (with_reducible rfl)))
          (try simp only [Act.put, List.setIfInBounds_toArray, List.set_cons_zero, List.set_cons_succ])
          refine wpAnyH_take (i := 18) (v := ?_) ((List.getElem?_toArray).trans rfl) (by kernel_rfl) (by kernel_rfl) (by kernel_rfl) (fun _ _ _ h => h) (Or.inl ⟨by rfl, ?_⟩) (by assumption) ?_
          rotate_left
          · (intro w hSw; (try dsimp only at hSw); go_simp; (try (with_reducible rfl)))
          (try simp only [Act.put, List.setIfInBounds_toArray, List.set_cons_zero, List.set_cons_succ])
          refine wpAnyH_take (i := 19) (v := ?_) ((List.getElem?_toArray).trans rfl) (by kernel_rfl) (by kernel_rfl) (by kernel_rfl) (fun _ _ _ h => h) (Or.inl ⟨by rfl, ?_⟩) (by assumption) ?_
          rotate_left
          · (intro w hSw; (try dsimp only at hSw); go_simp; (try (with_reducible rfl)))
          (try simp only [Act.put, List.setIfInBounds_toArray, List.set_cons_zero, List.set_cons_succ])
          refine wpAnyH_take (i := 20) (v := ?_) ((List.getElem?_toArray).trans rfl) (by kernel_rfl) (by kernel_rfl) (by kernel_rfl) (fun _ _ _ h => h) (Or.inl ⟨by rfl, ?_⟩) (by assumption) ?_
          rotate_left
          · (intro w hSw; (try dsimp only at hSw); go_simp; (try (with_reducible rfl)))
          (try simp only [Act.put, List.setIfInBounds_toArray, List.set_cons_zero, List.set_cons_succ])
          refine wpAnyH_take (i := 21) (v := ?_) ((List.getElem?_toArray).trans rfl) (by kernel_rfl) (by kernel_rfl) (by kernel_rfl) (fun _ _ _ h => h) (Or.inl ⟨by rfl, ?_⟩) (by assumption) ?_
          rotate_left
          · (intro w hSw; (try dsimp only at hSw); go_simp; (try (with_reducible rfl)))
          (try simp only [Act.put, List.setIfInBounds_toArray, List.set_cons_zero, List.set_cons_succ])
          refine wpAnyH_ready (rs := [22]) (by kernel_rfl) (by simp) ?_
          refine AllReadyH.cons ((List.getElem?_toArray).trans rfl) (fun K0 hK0 => ?_) AllReadyH.nil
          go_simp
          refine hK0.out _ _ ?_ (fun hHeld => ?_)
          · (exact ⟨Lib.cell?_alloc_some _ hl0d, Sof.out _ (hBd.alloc hwd _)⟩)
          clear hK0 K0
          (try simp only [Act.put, List.setIfInBounds_toArray, List.set_cons_zero, List.set_cons_succ])
          refine wpAnyH_ready (rs := [23]) (by kernel_rfl) (by simp) ?_
          refine AllReadyH.cons ((List.getElem?_toArray).trans rfl) (fun K0 hK0 => ?_) AllReadyH.nil
          (refine stepAppAt rfl (.tmp 35) (.tmp 56) elemKnot rfl (v := .slice Al q cl) (n := q) (xs := ((hintK P (sumK Ls k) K).take q).flatMap knotC) rfl (hod.out.alloc _) rfl (src_at (cs := [.int .i64 px, .int .i64 py, .bool z]) rfl (by simp [Value.oneCell']) (by simp)) (by omega) (by omega) (by first | omega | (simp <;> omega)) (q + 1) rfl ?_; intro A4 c4 w7 ho7 hg7; have hz7 := hg7.size; (try simp at hz7); have HL7 : Hid (w7.heap[w5.heap.size]? = some (.cells #[.slice Al q cl] 145 (0, 0))) := (hg7.block w5.heap.size (by first | omega | (simp <;> omega)) (fun e => by have := (World.ownsRow.lt hod.out _ e.symm).1; omega)).trans ((Below.heap_alloc _ _ _ (by omega)).trans HLd.out); have hb7 : Hid (Below w5.heap.size w5 w7) := (hbd.alloc (by omega) _).trans (below_app (own_lower (hod.out.alloc _) (by omega)) hg7 (by first | omega | (simp <;> omega))); have hB7 : Hid (Below w.heap.size w w7) := hbel.trans (hb7.out.mono (by omega)); replace ho7 := Lib.hid ho7; clear hg7; have cl7 : w7.cell? ⟨w5.heap.size, 0, none⟩ = some (.slice Al q cl) := (by rw [Go.Joins.cell_of_block HL7.out]; rfl); have clf : ∀ o, w7.frozen? ⟨w5.heap.size, o, none⟩ = false := Go.Joins.unfrozen_of_block HL7.out; have cll : w5.heap.size < w7.heap.size := (by omega))
          refine hK0.out _ _ ?_ (fun hHeld => ?_)
          · (exact ⟨cl7, Sof.out _ hB7.out⟩)
          clear hK0 K0
          (try simp only [Act.put, List.setIfInBounds_toArray, List.set_cons_zero, List.set_cons_succ])
          refine wpAnyH_done (by kernel_rfl) ?_ _
          show wpList _ _ _ _ _ _
          all_goals
            go_wp2_with fail
            go_roundw
            case rel =>
              have e1 : sumK Ls k + (q + 1) = m + 1 := by have := hm.out; omega
              refine ⟨q + 1, A4, c4, by rw [e1]; go_num, by go_num, by omega, Go.Joins.block_setCell HL7.out _, ?_, by simp; omega, hb7.out.setCell (Nat.le_refl _) _⟩
              rw [hst.out, List.flatMap_append]
              exact ownsRow_setCell_below ho7.out (Nat.lt_succ_self _) _
            case measure => simp [intOf]; omega
        · have hqn : K.length = q := by omega
          have hl' : (hintK P (sumK Ls k) K).length = K.length := hintK_len _ _ _
          have ho' := ho.out
          rw [List.take_of_length_le (by omega)] at ho'
          replace ho' := Lib.hid ho'
          have oy : Hid (wr.ownsRow (w.heap.size + 2) 145 1 (.slice Ao k co) k ys) := own_below hto.out.1 hbi
          have HOr : Hid (wr.heap[w.heap.size + 1]? = some (.cells #[.slice Ao k co] 46 (0, 0))) := (hbi.block _ (by omega)).trans HO.out
          have HRr : Hid (wr.heap[w.heap.size]? = some (.cells #[.slice none 0 0] 46 (0, 0))) := (hbi.block _ (by omega)).trans HR.out
          have cO : wr.cell? ⟨w.heap.size + 1, 0, none⟩ = some (.slice Ao k co) := by rw [Go.Joins.cell_of_block HOr.out]; rfl
          have cOl : w.heap.size + 1 < wr.heap.size := by omega
          have cL : wr.cell? ⟨w5.heap.size, 0, none⟩ = some (.slice Al q cl) := by rw [Go.Joins.cell_of_block HL.out]; rfl
          have cLl : w5.heap.size < wr.heap.size := by omega
          have hkm : k ≤ 12 := by omega
          have hsK : sumK Ls k + q = sumK Ls (k + 1) := by omega
          replace hsK := Lib.hid hsK
          replace hqn := Lib.hid hqn
          replace hl' := Lib.hid hl'
          go_wp2_with (at_builtin; refine wpAppAt rfl (.tmp 62) (.tmp 64) elemLoop rfl (v := .slice Ao k co) (n := k) (xs := ys) rfl (oy.out.alloc _) rfl (src_at (cs := [.slice Al q cl]) rfl (by simp [Value.oneCell']) (by simp)) (by omega) (by omega) (by first | omega | (simp <;> omega)) (k + 1) rfl ?_; intro A4 c4 w7 ho7 hg7 hv7; have hz7 := hg7.size; (try simp at hz7); have HO7 : Hid (w7.heap[w.heap.size + 1]? = some (.cells #[.slice Ao k co] 46 (0, 0))) := (hg7.block (w.heap.size + 1) (by first | omega | (simp <;> omega)) (fun e => by have := (World.ownsRow.lt oy.out _ e.symm).1; omega)).trans ((Below.heap_alloc _ _ _ (by omega)).trans HOr.out); have HR7 : Hid (w7.heap[w.heap.size]? = some (.cells #[.slice none 0 0] 46 (0, 0))) := (hg7.block w.heap.size (by first | omega | (simp <;> omega)) (fun e => by have := (World.ownsRow.lt oy.out _ e.symm).1; omega)).trans ((Below.heap_alloc _ _ _ (by omega)).trans HRr.out); have hB7 : Hid (Below w.heap.size w w7) := (hBi.alloc (by omega) _).trans (below_app (own_lower (oy.out.alloc _) (by omega)) hg7 (by first | omega | (simp <;> omega))); replace ho7 := Lib.hid ho7; replace hg7 := Lib.hid hg7; clear hv7; have cO7 : w7.cell? ⟨w.heap.size + 1, 0, none⟩ = some (.slice Ao k co) := (by rw [Go.Joins.cell_of_block HO7.out]; rfl); have cOf : ∀ o, w7.frozen? ⟨w.heap.size + 1, o, none⟩ = false := Go.Joins.unfrozen_of_block HO7.out; have cO7l : w.heap.size + 1 < w7.heap.size := (by omega))
          go_roundw
          case rel =>
            have hqn' := hqn.out
            have hlq : (hintK P (0 + sumK Ls k) K).length = q := by rw [hintK_len]; exact hqn'
            have hrow : (wr.alloc (.cells #[.slice Al q cl] 145)).ownsRow (w5.heap.size + 1) 147 3 (.slice Al (hintK P (0 + sumK Ls k) K).length cl) (hintK P (0 + sumK Ls k) K).length ((hintK P (0 + sumK Ls k) K).flatMap knotC) := by
              rw [hlq, Nat.zero_add]; exact ho'.out.alloc _
            have ho8 : w7.ownsRow (w.heap.size + 2) 145 1 (.slice A4 (k + 1) c4) (k + 1) (ys ++ [.slice Al (hintK P (0 + sumK Ls k) K).length cl]) := by rw [hlq]; exact ho7.out
            have hnx := OutTo.next (w1 := wr.alloc (.cells #[.slice Al q cl] 145)) hto.out hat.out (hbi.alloc hbi.size _) hrow (Nat.le_succ _) hz ho8 hg7.out
            refine ⟨k + 1, A4, c4, _, by have := hsK.out; go_num, by go_num, by omega, hnx.set (by simp) _, Go.Joins.block_setCell HO7.out _, (Below.heap_setCell _ _ _ _ (by simp)).trans HR7.out, by simp; omega, hB7.out.setCell (by simp) _⟩
          case measure => simp [intOf]; omega
    · have hkn : n = k := by omega
      subst hkn
      have cO : w5.cell? ⟨w.heap.size + 1, 0, none⟩ = some (.slice Ao n co) := by rw [Go.Joins.cell_of_block HO.out]; rfl
      have cOl : w.heap.size + 1 < w5.heap.size := by omega
      have cR : w5.cell? ⟨w.heap.size, 0, none⟩ = some (.slice none 0 0) := by rw [Go.Joins.cell_of_block HR.out]; rfl
      have cRf : ∀ o, w5.frozen? ⟨w.heap.size, o, none⟩ = false := Go.Joins.unfrozen_of_block HR.out
      go_wp2_with fail
      refine bodyPost_ret (v := .agg #[.slice Ao n co]) (by simp [results, Try.results109, go_sem, cR]) rfl ⟨Ao, co, rfl, ?_, hbel.setCell (Nat.le_refl _) _⟩
      obtain ⟨h1, h2, h3⟩ := hto.out.set (a := ⟨w.heap.size, 0, none⟩) (show w.heap.size < w.heap.size + 2 by omega) (.slice Ao n co)
      refine ⟨ys, (hintLs_len _ _ _).trans hll.out, own_lower h1 (by omega), fun j K hj => ?_, h3⟩
      obtain ⟨Aj, cj, h4, h5⟩ := h2 j K (by have := (List.getElem?_eq_some_iff.1 hj).1; rw [hintLs_len, hll.out] at this; omega) hj
      exact ⟨Aj, cj, h4, own_lower h5 (by omega)⟩


set_option maxHeartbeats 4000000 in
theorem l20Width_any (Xh : Nat) (AN : Option Addr) (N cN lon hin : Nat) (P : List (Int × Int)) (w : World) (hXh : Xh < w.heap.size) (hc2 : w.cell? ⟨Xh, 2, none⟩ = some (.slice AN N cN)) (hp : RdS 2 (FlatR ptC) w lon hin AN N P) (hhin : hin ≤ w.heap.size) (hN : 2 ≤ N) (hN2 : N ≤ 242) (hsm : ∀ p ∈ P, -1000000000000000000 ≤ p.1 ∧ p.1 ≤ 1000000000000000000) :
    Calls Try.prog 110 #[.pointer (some ⟨Xh, 0, none⟩)] w fun e w' => e = .returned (.int .i64 (hintW P)) ∧ Below w.heap.size w w' := by
  have hll := hp.1
  obtain ⟨bN, oN, p1, rfl, hbN0, hbNh, hy1, hc1⟩ := hp.at (show N - 1 < N by omega)
  obtain ⟨bN', oN', p2, hA, _, _, hy2, hc3⟩ := hp.at (show N - 2 < N by omega)
  injection hA with hA
  injection hA with hA1 hA2
  subst hA1 hA2
  have y1 := hc1 0 _ rfl
  have y2 := hc3 0 _ rfl
  simp only [Nat.add_zero] at y1 y2
  have hW : hintW P = p1.1 - p2.1 := by
    unfold hintW
    rw [hll, List.getD_eq_getElem?_getD, List.getD_eq_getElem?_getD, hy1, hy2]; rfl
  rw [hW]
  have b1 := hsm p1 (List.mem_of_getElem? hy1)
  have b2 := hsm p2 (List.mem_of_getElem? hy2)
  obtain ⟨x1, z1⟩ := p1
  obtain ⟨x2, z2⟩ := p2
  dsimp only at y1 y2 b1 b2
  have e1 : IntKind.i64.wrap ((N : Int) - 1) = ((N - 1 : Nat) : Int) := by rw [IntWalk.i64_in _ (by omega)]; omega
  have e2 : IntKind.i64.wrap ((N : Int) - 2) = ((N - 2 : Nat) : Int) := by rw [IntWalk.i64_in _ (by omega)]; omega
  have e3 : IntKind.i64.wrap (x1 - x2) = x1 - x2 := IntWalk.i64_in _ (by omega)
  obtain ⟨m1, hm1⟩ : ∃ m, m = N - 1 := ⟨_, rfl⟩
  obtain ⟨m2, hm2⟩ : ∃ m, m = N - 2 := ⟨_, rfl⟩
  rw [← hm1] at e1 y1
  rw [← hm2] at e2 y2
  have i1 : (m1 : Int) < (N : Int) := by omega
  have i2 : (m2 : Int) < (N : Int) := by omega
  have j1 : (0 : Int) ≤ (m1 : Int) := by omega
  have j2 : (0 : Int) ≤ (m2 : Int) := by omega
  have hbw : bN < w.heap.size := by omega
  clear hW hll hsm hy1 hy2 hc1 hc3 hm1 hm2 hp b1 b2
  go_enter Try.func110, Try.ntmps110
  go_wp2_with fail
  go_region_held3 (fun w' => w'.cell? ⟨Xh, 2, none⟩ = some (.slice (some ⟨bN, oN, none⟩) N cN) ∧ w'.cell? ⟨bN, oN + m1 * 2, none⟩ = some (.int .i64 x1) ∧ w'.cell? ⟨bN, oN + m2 * 2, none⟩ = some (.int .i64 x2)) (exact ⟨hc2, y1, y2⟩) (fail)
  go_wp2_with fail
  go_ret
  exact ⟨rfl, (Below.refl _ _).drew⟩
end Go.Proofs.Ytgngcllodofimaa
