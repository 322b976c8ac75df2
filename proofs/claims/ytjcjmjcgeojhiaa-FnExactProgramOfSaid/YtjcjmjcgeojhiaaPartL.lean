/- The law on the partner of an instruction. Conditions: as each states. -/
import Derived.Test.YtjcjmjcgeojhiaaPart
namespace Go.Proofs.Ytjcjmjcgeojhiaa
open Go.RowKit
set_option linter.unusedVariables false
set_option maxRecDepth 100000

theorem szHintS_any (A : Option Addr) (n c : Nat) (w : World) (hn : n ≤ 9223372036854775807) :
    Calls Try.prog 19 #[.slice A n c, .int .i64 1048576] w fun e w' => e = .returned (.int .i64 (if n ≤ 1048576 then 1048576 - n else -1)) ∧ w = w' := by
  by_cases h : n ≤ 1048576
  · go_enter Try.func19, Try.ntmps19
    go_wp2_with fail
    go_ret
    exact ⟨rfl, rfl⟩
  · go_enter Try.func19, Try.ntmps19
    go_wp2_with fail
    go_ret
    exact ⟨rfl, rfl⟩

theorem infoHint : (Try.prog.info? 96).map (fun i => (i.zero, i.size, i.bytes)) = some (some (.agg #[.int .i64 0, .int .i64 0]), 2, 16) := by kernel_rfl

theorem hintCells_get : ∀ (L : List (Int × Int)) (j : Nat), j < L.length → (hintCells L)[j * 2]? = some (.int .i64 (L.getD j (0, 0)).1) ∧ (hintCells L)[j * 2 + 1]? = some (.int .i64 (L.getD j (0, 0)).2) := by
  intro L
  induction L with
  | nil => intro j hj; simp at hj
  | cons p L ih =>
    intro j hj
    cases j with
    | zero => simp [hintCells]
    | succ j =>
      have := ih j (by simpa using hj)
      have e : hintCells (p :: L) = .int .i64 p.1 :: .int .i64 p.2 :: hintCells L := by simp [hintCells]
      rw [e, show (j + 1) * 2 = j * 2 + 1 + 1 by omega]
      simpa using this

theorem toHintS_any (A : Option Addr) (n c : Nat) (L : List (Int × Int)) (w : World) (hr : RdH w A n L) (hn : n ≤ 1048576) :
    Calls Try.prog 21 #[.slice A n c] w fun e w' => ∃ g, e = .returned (.slice (some ⟨g, 0, none⟩) n n) ∧ w'.ownsRow w.heap.size 96 2 (.slice (some ⟨g, 0, none⟩) n n) n (hintCells L) ∧ Below w.heap.size w w' := by
  obtain ⟨i0, hi0, hz0, hs0, hby0⟩ := info_parts infoHint
  go_enter Try.func21, Try.ntmps21
  go_wp2_with (at_make; refine wpList_make_full _ rfl _ _ 40 rfl w.heap.size 96 i0 (.agg #[.int .i64 0, .int .i64 0]) 2 Try.underlying40 hi0 hz0 hs0 .i64 .i64 _ _ n rfl rfl rfl rfl (by rw [hby0]; omega) (by unfold maxLen; omega) (Nat.le_refl _) ?_; intro w0 hown0 hg0)
  have hb0 : Below w.heap.size w w0 := (Below.refl _ _).grown hg0 (Nat.le_refl _) (by simp)
  clear hg0
  go_loopw [4] (fun i wr => ∃ (k : Nat) (ys : List Value), i = .int .i64 k ∧ k ≤ n ∧ wr.ownsRow w.heap.size 96 2 (.slice (some ⟨w.heap.size, 0, none⟩) n n) n ys ∧ (∀ j, j < k → ys[j * 2]? = some (.int .i64 (L.getD j (0, 0)).1) ∧ ys[j * 2 + 1]? = some (.int .i64 (L.getD j (0, 0)).2)) ∧ Below w.heap.size w wr) (fun i wr => n - (intOf i).toNat)
  case atStart => exact ⟨0, _, rfl, Nat.zero_le _, hown0, fun j hj => absurd hj (Nat.not_lt_zero j), hb0⟩
  case round =>
    clear hown0 hb0
    obtain ⟨k, ys, rfl, hk, ho, hall, hbel⟩ := hrel
    replace hall := Lib.hid hall
    by_cases hlt : k < n
    · obtain ⟨hl, hcs⟩ := hr
      obtain ⟨b, off, rfl, hb, hcs⟩ := hcs (by omega)
      obtain ⟨h1, h2⟩ := hcs k hlt
      rw [← hbel.cell (p := ⟨b, off + k * 2, none⟩) hb] at h1
      rw [← hbel.cell (p := ⟨b, off + k * 2 + 1, none⟩) hb] at h2
      obtain ⟨p, hp⟩ : ∃ p, p = L.getD k (0, 0) := ⟨_, rfl⟩
      rw [← hp] at h1 h2
      replace hp := Lib.hid hp
      replace hl := Lib.hid hl
      clear hcs
      replace ho := Lib.hid ho
      go_wp2_with (go_at_call 71; refine (toHint_any _ _ _).mono ?_; rintro e w1 ⟨rfl, hb1⟩; have ho1 := own_below ho.out hb1; obtain ⟨g, hg, _, hglt, _, hcell, hfr⟩ := own_addr ho1 (by omega); injection hg with hg; injection hg with hg; subst hg; have c1 := hcell (k * 2) (by omega); have c2 := hcell (k * 2 + 1) (by omega); have hyl := ho1.1; rw [List.getElem?_eq_getElem (by omega)] at c1 c2; have f1 := hfr (k * 2); have f2 := hfr (k * 2 + 1); clear hcell hfr; replace ho1 := Lib.hid ho1; replace hyl := Lib.hid hyl; generalize ys[k * 2]'(by have := hyl.out; omega) = v1 at c1; generalize ys[k * 2 + 1]'(by have := hyl.out; omega) = v2 at c2)
      go_roundw
      case rel =>
        have s2 := ((ho1.out.stored (k * 2) (.int .i64 p.1)).1.stored (k * 2 + 1) (.int .i64 p.2)).1
        refine ⟨k + 1, _, by go_num, by omega, s2, fun j hj => ?_, ((hbel.trans (hb1.mono hbel.size)).setCell (Nat.le_refl _) _).setCell (Nat.le_refl _) _⟩
        have := hyl.out
        rcases Nat.lt_or_ge j k with h | h
        · rw [List.getElem?_set_ne (by omega), List.getElem?_set_ne (by omega), List.getElem?_set_ne (by omega), List.getElem?_set_ne (by omega)]
          exact hall.out j h
        · obtain rfl : j = k := by omega
          rw [List.getElem?_set_ne (by omega), List.getElem?_set_self (by omega), List.getElem?_set_self (by simp; omega), hp.out]
          exact ⟨rfl, rfl⟩
      case measure => simp [intOf]; omega
    · have hkn : k = n := by omega
      replace hkn := Lib.hid hkn
      replace ho := Lib.hid ho
      have hl := Lib.hid hr.1
      clear hr
      go_wp2_with fail
      go_ret
      refine ⟨w.heap.size, rfl, ?_, hbel⟩
      have : ys = hintCells L := by
        apply List.ext_getElem?
        intro j
        have hyl := ho.out.1
        have hl := hl.out
        have hkn := hkn.out
        by_cases hj : j < n * 2
        · obtain ⟨q, hq⟩ : ∃ q, j = q * 2 ∨ j = q * 2 + 1 := ⟨j / 2, by omega⟩
          have h1 := hall.out q (by omega)
          have h2 := hintCells_get L q (by omega)
          rcases hq with rfl | rfl
          · rw [h1.1, h2.1]
          · rw [h1.2, h2.2]
        · rw [List.getElem?_eq_none (by omega), List.getElem?_eq_none (by rw [hintCells_length]; omega)]
      rw [← this]; exact ho.out

end Go.Proofs.Ytjcjmjcgeojhiaa
