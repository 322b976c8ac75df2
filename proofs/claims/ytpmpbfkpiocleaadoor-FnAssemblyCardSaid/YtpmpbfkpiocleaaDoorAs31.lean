/- Drawn instructions, all depths. Conditions: as each states. -/
import Derived.BigQuiet
import Derived.Test.YtpmpbfkpiocleaaDoorAs30
import Derived.Test.YtpmpbfkpiocleaaDoorAs16
import Derived.Test.YtpmpbfkpiocleaaDoorAs20
namespace Go.Proofs.YtpmpbfkpiocleaaDoor
open Go.RowKit
set_option linter.unusedVariables false
set_option maxRecDepth 100000

theorem l19Draw_all (pts : Int) (hp0 : 1 < pts) (hp1 : pts ≤ 100) : ∀ dd : Nat, dd ≤ 3 → ∀ (b k : Nat) (w : World), Src0 w b k → k ≤ 998000000 - 1000000 * dd →
    Calls Tryd.prog 12 #[.pointer (some ⟨b, 0, none⟩), .int .i64 pts, .int .i64 (3 - (dd : Int))] w fun e w' => FaPost w b k dd (40 * 6 ^ (dd + 1)) (110 * 6 ^ (dd + 1)) e w' := by
  intro dd
  induction dd with
  | zero =>
    intro hdd b k w hs hk
    have := l19Draw_step 0 hdd 40 110 (by omega) (by omega) (by omega) (by omega) pts hp0 hp1 998000000 (by omega) (fun h => absurd h (by omega)) b k w hs (by omega)
    refine this.mono ?_
    intro e w' h
    simpa using h
  | succ d ih =>
    intro hdd b k w hs hk
    have hpw : 6 ^ (d + 1) ≤ 216 := by
      rcases (show d = 0 ∨ d = 1 ∨ d = 2 by omega) with rfl | rfl | rfl <;> decide
    have hp1' : 1 ≤ 6 ^ (d + 1) := Nat.one_le_pow _ _ (by omega)
    have hs6 : 6 ^ (d + 1 + 1) = 6 * 6 ^ (d + 1) := by rw [Nat.pow_succ, Nat.mul_comm]
    generalize 6 ^ (d + 1) = P at *
    have := l19Draw_step (d + 1) hdd (40 * P) (110 * P) (by omega) (by omega) (by omega) (by omega) pts hp0 hp1 (998000000 - 1000000 * (d + 1)) (by omega) (fun _ b' k' w' hs' hk' => by
      have h := ih (by omega) b' k' w' hs' (by omega)
      rw [show (3 : Int) - ((d + 1 : Nat) : Int) + 1 = 3 - (d : Int) by omega, show d + 1 - 1 = d by omega]
      exact h) b k w hs (by omega)
    rw [hs6, show 40 * (6 * P) = 6 * (40 * P) by omega, show 110 * (6 * P) = 6 * (110 * P) by omega]
    exact this

/-- valid, nested instructions of a call's own -/
def HintsOwn (w : World) (B : Nat) (A : Option Addr) (n c : Nat) (L : List (Int × Int)) : Prop :=
  L.length = n ∧ w.ownsRow B 32 2 (.slice A n c) n (hintCells L) ∧ allValid L = true ∧ nestB (codesOf L) = true ∧ n ≤ 60000

set_option maxHeartbeats 2000000 in
theorem E8Hints_any (A : Option Addr) (n c lo hi : Nat) (L : List Int) (w : World) (hr : RdS 1 u8R w lo hi A n L) (hhi : hi ≤ w.heap.size) (hn : n ≤ 1000000000) :
    Calls Tryd.prog 4 #[.slice A n c] w fun e w' => ∃ (A' : Option Addr) (n' c' : Nat) (H : List (Int × Int)), e = .returned (.slice A' n' c') ∧ HintsOwn w' w.heap.size A' n' c' H ∧ Below w.heap.size w w' := by
  replace hr := Lib.hid hr
  go_enter Tryd.func4, Tryd.ntmps4
  go_wp2_with fail
  refine (l00From_any _ _ _ _).mono ?_
  rintro e w1 ⟨rfl, hs1, hb1⟩
  have hS1 : Src0 w1 w.heap.size 0 := ⟨A, n, c, lo, hi, 0, L, hs1, hr.out.frame good_u8 (Below.sameB hb1 (by omega)), by omega, hn⟩
  have hz1 : w.heap.size < w1.heap.size := hS1.lt
  have hc := Lib.hid (l19Draw_all 6 (by omega) (by omega) 3 (by omega) w.heap.size 0 w1 hS1 (by omega))
  clear hS1 hs1
  go_wp2_with fail
  refine hc.out.mono ?_
  rintro e w2 ⟨A', n', c', H, k', rfl, hl, hown, hv, hbal, hn', hs2, hk, hg⟩
  have hb2 : Below w.heap.size w w2 := hb1.grown hg (by omega) (fun g hg => by injection hg with hg; omega)
  have hf : HintsOwn w2 w.heap.size A' n' c' H := ⟨hl, own_base hown (by omega), hv, nest_of (hbal.mono (by omega)), by omega⟩
  replace hf := Lib.hid hf
  clear hown hbal hs2 hg hc hr
  go_wp2_with fail
  go_ret
  exact ⟨A', n', c', H, rfl, hf.out, hb2⟩
end Go.Proofs.YtpmpbfkpiocleaaDoor

/- The laws on the names of states. Conditions: as each states. -/
namespace Go.Proofs.YtpmpbfkpiocleaaDoor
open Go.RowKit
set_option linter.unusedVariables false
set_option maxRecDepth 100000

/-- r is the place of the first s in l, or -1 -/
def FirstAt (l : List ByteArray) (s : ByteArray) (r : Int) : Prop :=
  (r = -1 ∧ ∀ j, j < l.length → l.getD j ByteArray.empty ≠ s) ∨ ∃ k : Nat, r = k ∧ k < l.length ∧ l.getD k ByteArray.empty = s ∧ ∀ j, j < k → l.getD j ByteArray.empty ≠ s
theorem FirstAt.unique {l : List ByteArray} {s : ByteArray} {r r' : Int} (h : FirstAt l s r) (h' : FirstAt l s r') : r = r' := by
  rcases h with ⟨rfl, h⟩ | ⟨k, rfl, hk, h1, h2⟩ <;> rcases h' with ⟨rfl, h'⟩ | ⟨k', rfl, hk', h1', h2'⟩
  · rfl
  · exact absurd h1' (h k' hk')
  · exact absurd h1 (h' k hk)
  · rcases Nat.lt_trichotomy k k' with h | h | h
    · exact absurd h1 (h2' k h)
    · omega
    · exact absurd h1' (h2 k' h)

/-- a run of strings in memory -/
def StrRow (w : World) (b off : Nat) (l : List ByteArray) : Prop := ∀ j, j < l.length → w.cell? ⟨b, off + j, none⟩ = some (.string (l.getD j ByteArray.empty))


theorem index_any (b off cap : Nat) (l : List ByteArray) (s : ByteArray) (w : World) (hl : l.length ≤ 1000000) (hr : StrRow w b off l) :
    Calls Tryd.prog 44 #[.slice (some ⟨b, off, none⟩) l.length cap, .string s] w fun e w' => ∃ r : Int, e = .returned (.int .i64 r) ∧ FirstAt l s r ∧ w = w' := by
  obtain ⟨n, hn⟩ : ∃ n, n = l.length := ⟨_, rfl⟩
  rw [← hn]
  have hn' := Lib.hid hn
  have hl2 : n ≤ 1000000 := by omega
  clear hn hl
  go_enter Tryd.func44, Tryd.ntmps44
  go_wp2
  go_loop [8] (fun i => ∃ k : Nat, k ≤ n ∧ i = .int .i64 k ∧ ∀ j, j < k → l.getD j ByteArray.empty ≠ s) (fun i => n - (intOf i).toNat)
  case atStart => exact ⟨0, Nat.zero_le _, rfl, fun j hj => absurd hj (Nat.not_lt_zero j)⟩
  case round =>
    obtain ⟨k, hk, rfl, hall⟩ := hrel
    replace hall := Lib.hid hall
    by_cases hlt : k < n
    · have hc := hr k (by rw [← hn'.out]; exact hlt)
      have hlt' := Lib.hid (show k < l.length by rw [← hn'.out]; exact hlt)
      go_wp2
      · have he := bytes_eq (by assumption)
        go_ret
        exact ⟨k, rfl, .inr ⟨k, rfl, hlt'.out, by rw [List.getD_eq_getElem?_getD]; exact he.symm, hall.out⟩, rfl⟩
      · have he := bytes_ne (by assumption)
        go_round
        case rel => exact ⟨k + 1, by omega, by go_num, fun j hj => by
          rcases Nat.lt_or_ge j k with h | h
          · exact hall.out j h
          · obtain rfl : j = k := by omega
            rw [List.getD_eq_getElem?_getD]; exact fun h => he h.symm⟩
        case measure => simp [intOf]; omega
    · go_wp2
      go_ret
      exact ⟨-1, rfl, .inl ⟨rfl, fun j hj => hall.out j (by have := hn'.out; omega)⟩, rfl⟩

end Go.Proofs.YtpmpbfkpiocleaaDoor

