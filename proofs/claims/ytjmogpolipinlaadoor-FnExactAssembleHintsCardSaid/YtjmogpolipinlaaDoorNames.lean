/- The laws on the names of states. Conditions: as each states. -/
import Derived.Test.YtjmogpolipinlaaDoorInt
import Derived.BigQuiet
namespace Go.Proofs.YtjmogpolipinlaaDoor
open Go.RowKit
set_option linter.unusedVariables false
set_option maxRecDepth 100000

/-- r is the place of the first s in l, or -1 -/
def FirstAt (l : List ByteArray) (s : ByteArray) (r : Int) : Prop :=
  (r = -1 ∧ ∀ j, j < l.length → l.getD j ByteArray.empty ≠ s) ∨ ∃ k : Nat, r = k ∧ k < l.length ∧ l.getD k ByteArray.empty = s ∧ ∀ j, j < k → l.getD j ByteArray.empty ≠ s
theorem FirstAt.unique {l : List ByteArray} {s : ByteArray} {r r' : Int} (h : FirstAt l s r) (h' : FirstAt l s r') : r = r' := by
  rcases h with ⟨rfl, h⟩ | ⟨k, rfl, hk, h1, h2⟩ <;> rcases h' with ⟨rfl, h'⟩ | ⟨k', rfl, hk', h1', h2'⟩
  · rfl
  · exact absurd h1' (h k' hk')
  · exact absurd h1 (h' k hk)
  · rcases Nat.lt_trichotomy k k' with h | h | h
    · exact absurd h1 (h2' k h)
    · omega
    · exact absurd h1' (h2 k' h)

/-- a run of strings in memory -/
def StrRow (w : World) (b off : Nat) (l : List ByteArray) : Prop := ∀ j, j < l.length → w.cell? ⟨b, off + j, none⟩ = some (.string (l.getD j ByteArray.empty))


theorem index_any (b off cap : Nat) (l : List ByteArray) (s : ByteArray) (w : World) (hl : l.length ≤ 1000000) (hr : StrRow w b off l) :
    Calls Tryd.prog 24 #[.slice (some ⟨b, off, none⟩) l.length cap, .string s] w fun e w' => ∃ r : Int, e = .returned (.int .i64 r) ∧ FirstAt l s r ∧ w = w' := by
  obtain ⟨n, hn⟩ : ∃ n, n = l.length := ⟨_, rfl⟩
  rw [← hn]
  have hn' := Lib.hid hn
  have hl2 : n ≤ 1000000 := by omega
  clear hn hl
  go_enter Tryd.func24, Tryd.ntmps24
  go_wp2
  go_loop [8] (fun i => ∃ k : Nat, k ≤ n ∧ i = .int .i64 k ∧ ∀ j, j < k → l.getD j ByteArray.empty ≠ s) (fun i => n - (intOf i).toNat)
  case atStart => exact ⟨0, Nat.zero_le _, rfl, fun j hj => absurd hj (Nat.not_lt_zero j)⟩
  case round =>
    obtain ⟨k, hk, rfl, hall⟩ := hrel
    replace hall := Lib.hid hall
    by_cases hlt : k < n
    · have hc := hr k (by rw [← hn'.out]; exact hlt)
      have hlt' := Lib.hid (show k < l.length by rw [← hn'.out]; exact hlt)
      go_wp2
      · have he := bytes_eq (by assumption)
        go_ret
        exact ⟨k, rfl, .inr ⟨k, rfl, hlt'.out, by rw [List.getD_eq_getElem?_getD]; exact he.symm, hall.out⟩, rfl⟩
      · have he := bytes_ne (by assumption)
        go_round
        case rel => exact ⟨k + 1, by omega, by go_num, fun j hj => by
          rcases Nat.lt_or_ge j k with h | h
          · exact hall.out j h
          · obtain rfl : j = k := by omega
            rw [List.getD_eq_getElem?_getD]; exact fun h => he h.symm⟩
        case measure => simp [intOf]; omega
    · go_wp2
      go_ret
      exact ⟨-1, rfl, .inl ⟨rfl, fun j hj => hall.out j (by have := hn'.out; omega)⟩, rfl⟩

def stNames : List ByteArray := [⟨#[111, 102, 102]⟩, ⟨#[103, 114, 105, 100]⟩, ⟨#[104, 97, 108, 102]⟩, ⟨#[100, 111, 117, 98, 108, 101]⟩, ⟨#[100, 111, 119, 110]⟩, ⟨#[117, 112]⟩]
theorem stNames_row {w : World} {b t : Nat} (h : w.heap[b]? = some (.cells #[.string ⟨#[111, 102, 102]⟩, .string ⟨#[103, 114, 105, 100]⟩, .string ⟨#[104, 97, 108, 102]⟩, .string ⟨#[100, 111, 117, 98, 108, 101]⟩, .string ⟨#[100, 111, 119, 110]⟩, .string ⟨#[117, 112]⟩] t (0, 0))) : StrRow w b 0 stNames := by
  intro j hj
  match j, hj with
  | 0, _ | 1, _ | 2, _ | 3, _ | 4, _ | 5, _ => simp [World.cell?, h, stNames]

end Go.Proofs.YtjmogpolipinlaaDoor
