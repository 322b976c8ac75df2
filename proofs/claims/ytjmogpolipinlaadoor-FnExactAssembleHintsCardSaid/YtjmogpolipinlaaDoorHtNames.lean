/- The words of the codes, and the code with a word. Conditions: as each states. -/
import Derived.Test.YtjmogpolipinlaaDoorNames
import Derived.Test.YtjmogpolipinlaaDoorShelf
import Derived.Test.YtjmogpolipinlaaDoorDat
import Derived.Test.YtjmogpolipinlaaDoorHtSplit
import Derived.Lib.SmallJoins
namespace Go.Proofs.YtjmogpolipinlaaDoor
open Go.RowKit
set_option linter.unusedVariables false
set_option maxRecDepth 100000

def htNames : List ByteArray := [⟨#[115, 116, 111, 112]⟩, ⟨#[112, 111, 112]⟩, ⟨#[100, 117, 112]⟩, ⟨#[115, 119, 97, 112]⟩, ⟨#[97, 100, 100]⟩, ⟨#[115, 117, 98]⟩, ⟨#[109, 117, 108]⟩, ⟨#[100, 105, 118]⟩, ⟨#[110, 101, 103]⟩, ⟨#[97, 98, 115]⟩, ⟨#[109, 105, 110]⟩, ⟨#[109, 97, 120]⟩, ⟨#[108, 101, 115, 115]⟩, ⟨#[101, 113, 117, 97, 108]⟩, ⟨#[110, 111, 116]⟩, ⟨#[114, 111, 117, 110, 100]⟩, ⟨#[97, 120, 105, 115, 120]⟩, ⟨#[97, 120, 105, 115, 121]⟩, ⟨#[114, 101, 102]⟩, ⟨#[103, 101, 116]⟩, ⟨#[111, 114, 105, 103]⟩, ⟨#[112, 117, 116]⟩, ⟨#[115, 104, 105, 102, 116]⟩, ⟨#[103, 114, 105, 100]⟩, ⟨#[108, 105, 110, 107]⟩, ⟨#[115, 116, 101, 109]⟩, ⟨#[101, 118, 101, 110]⟩, ⟨#[115, 109, 111, 111, 116, 104]⟩, ⟨#[116, 111, 117, 99, 104]⟩, ⟨#[102, 114, 101, 101]⟩, ⟨#[118, 97, 108, 117, 101]⟩, ⟨#[115, 116, 111, 114, 101]⟩, ⟨#[115, 105, 122, 101]⟩, ⟨#[99, 111, 117, 110, 116]⟩, ⟨#[100, 101, 108, 116, 97]⟩, ⟨#[105, 102]⟩, ⟨#[101, 108, 115, 101]⟩, ⟨#[101, 110, 100]⟩, ⟨#[97, 103, 97, 105, 110]⟩, ⟨#[112, 117, 115, 104]⟩, ⟨#[119, 111, 114, 100]⟩, ⟨#[115, 116, 97, 116, 101]⟩, ⟨#[99, 117, 116]⟩, ⟨#[108, 101, 97, 115, 116]⟩, ⟨#[114, 101, 112, 101, 97, 116]⟩]
theorem strRow_of {w : World} {b t : Nat} {l : List ByteArray} (h : w.heap[b]? = some (.cells (l.map Value.string).toArray t (0, 0))) : StrRow w b 0 l := by
  intro j hj
  rw [Go.Joins.cell_of_block h]
  simp [hj]
def htBytes : List UInt8 := [115, 116, 111, 112, 32, 112, 111, 112, 32, 100, 117, 112, 32, 115, 119, 97, 112, 32, 97, 100, 100, 32, 115, 117, 98, 32, 109, 117, 108, 32, 100, 105, 118, 32, 110, 101, 103, 32, 97, 98, 115, 32, 109, 105, 110, 32, 109, 97, 120, 32, 108, 101, 115, 115, 32, 101, 113, 117, 97, 108, 32, 110, 111, 116, 32, 114, 111, 117, 110, 100, 32, 97, 120, 105, 115, 120, 32, 97, 120, 105, 115, 121, 32, 114, 101, 102, 32, 103, 101, 116, 32, 111, 114, 105, 103, 32, 112, 117, 116, 32, 115, 104, 105, 102, 116, 32, 103, 114, 105, 100, 32, 108, 105, 110, 107, 32, 115, 116, 101, 109, 32, 101, 118, 101, 110, 32, 115, 109, 111, 111, 116, 104, 32, 116, 111, 117, 99, 104, 32, 102, 114, 101, 101, 32, 118, 97, 108, 117, 101, 32, 115, 116, 111, 114, 101, 32, 115, 105, 122, 101, 32, 99, 111, 117, 110, 116, 32, 100, 101, 108, 116, 97, 32, 105, 102, 32, 101, 108, 115, 101, 32, 101, 110, 100, 32, 97, 103, 97, 105, 110, 32, 112, 117, 115, 104, 32, 119, 111, 114, 100, 32, 115, 116, 97, 116, 101, 32, 99, 117, 116, 32, 108, 101, 97, 115, 116, 32, 114, 101, 112, 101, 97, 116]
theorem ht_parts : splitF 32 htBytes = htNames.map fun s => s.data.toList := by kernel_rfl
theorem ht_lit : (⟨#[115, 116, 111, 112, 32, 112, 111, 112, 32, 100, 117, 112, 32, 115, 119, 97, 112, 32, 97, 100, 100, 32, 115, 117, 98, 32, 109, 117, 108, 32, 100, 105, 118, 32, 110, 101, 103, 32, 97, 98, 115, 32, 109, 105, 110, 32, 109, 97, 120, 32, 108, 101, 115, 115, 32, 101, 113, 117, 97, 108, 32, 110, 111, 116, 32, 114, 111, 117, 110, 100, 32, 97, 120, 105, 115, 120, 32, 97, 120, 105, 115, 121, 32, 114, 101, 102, 32, 103, 101, 116, 32, 111, 114, 105, 103, 32, 112, 117, 116, 32, 115, 104, 105, 102, 116, 32, 103, 114, 105, 100, 32, 108, 105, 110, 107, 32, 115, 116, 101, 109, 32, 101, 118, 101, 110, 32, 115, 109, 111, 111, 116, 104, 32, 116, 111, 117, 99, 104, 32, 102, 114, 101, 101, 32, 118, 97, 108, 117, 101, 32, 115, 116, 111, 114, 101, 32, 115, 105, 122, 101, 32, 99, 111, 117, 110, 116, 32, 100, 101, 108, 116, 97, 32, 105, 102, 32, 101, 108, 115, 101, 32, 101, 110, 100, 32, 97, 103, 97, 105, 110, 32, 112, 117, 115, 104, 32, 119, 111, 114, 100, 32, 115, 116, 97, 116, 101, 32, 99, 117, 116, 32, 108, 101, 97, 115, 116, 32, 114, 101, 112, 101, 97, 116]⟩ : ByteArray).data.toList = htBytes := rfl
theorem ht_split : Lib.splitB ⟨#[32]⟩ 0 (Lib.countB ⟨#[115, 116, 111, 112, 32, 112, 111, 112, 32, 100, 117, 112, 32, 115, 119, 97, 112, 32, 97, 100, 100, 32, 115, 117, 98, 32, 109, 117, 108, 32, 100, 105, 118, 32, 110, 101, 103, 32, 97, 98, 115, 32, 109, 105, 110, 32, 109, 97, 120, 32, 108, 101, 115, 115, 32, 101, 113, 117, 97, 108, 32, 110, 111, 116, 32, 114, 111, 117, 110, 100, 32, 97, 120, 105, 115, 120, 32, 97, 120, 105, 115, 121, 32, 114, 101, 102, 32, 103, 101, 116, 32, 111, 114, 105, 103, 32, 112, 117, 116, 32, 115, 104, 105, 102, 116, 32, 103, 114, 105, 100, 32, 108, 105, 110, 107, 32, 115, 116, 101, 109, 32, 101, 118, 101, 110, 32, 115, 109, 111, 111, 116, 104, 32, 116, 111, 117, 99, 104, 32, 102, 114, 101, 101, 32, 118, 97, 108, 117, 101, 32, 115, 116, 111, 114, 101, 32, 115, 105, 122, 101, 32, 99, 111, 117, 110, 116, 32, 100, 101, 108, 116, 97, 32, 105, 102, 32, 101, 108, 115, 101, 32, 101, 110, 100, 32, 97, 103, 97, 105, 110, 32, 112, 117, 115, 104, 32, 119, 111, 114, 100, 32, 115, 116, 97, 116, 101, 32, 99, 117, 116, 32, 108, 101, 97, 115, 116, 32, 114, 101, 112, 101, 97, 116]⟩ ⟨#[32]⟩) ⟨#[115, 116, 111, 112, 32, 112, 111, 112, 32, 100, 117, 112, 32, 115, 119, 97, 112, 32, 97, 100, 100, 32, 115, 117, 98, 32, 109, 117, 108, 32, 100, 105, 118, 32, 110, 101, 103, 32, 97, 98, 115, 32, 109, 105, 110, 32, 109, 97, 120, 32, 108, 101, 115, 115, 32, 101, 113, 117, 97, 108, 32, 110, 111, 116, 32, 114, 111, 117, 110, 100, 32, 97, 120, 105, 115, 120, 32, 97, 120, 105, 115, 121, 32, 114, 101, 102, 32, 103, 101, 116, 32, 111, 114, 105, 103, 32, 112, 117, 116, 32, 115, 104, 105, 102, 116, 32, 103, 114, 105, 100, 32, 108, 105, 110, 107, 32, 115, 116, 101, 109, 32, 101, 118, 101, 110, 32, 115, 109, 111, 111, 116, 104, 32, 116, 111, 117, 99, 104, 32, 102, 114, 101, 101, 32, 118, 97, 108, 117, 101, 32, 115, 116, 111, 114, 101, 32, 115, 105, 122, 101, 32, 99, 111, 117, 110, 116, 32, 100, 101, 108, 116, 97, 32, 105, 102, 32, 101, 108, 115, 101, 32, 101, 110, 100, 32, 97, 103, 97, 105, 110, 32, 112, 117, 115, 104, 32, 119, 111, 114, 100, 32, 115, 116, 97, 116, 101, 32, 99, 117, 116, 32, 108, 101, 97, 115, 116, 32, 114, 101, 112, 101, 97, 116]⟩ = htNames := by
  rw [splitB_is, ht_lit, ht_parts, List.map_map]
  rfl
theorem ht_count : Lib.countB ⟨#[115, 116, 111, 112, 32, 112, 111, 112, 32, 100, 117, 112, 32, 115, 119, 97, 112, 32, 97, 100, 100, 32, 115, 117, 98, 32, 109, 117, 108, 32, 100, 105, 118, 32, 110, 101, 103, 32, 97, 98, 115, 32, 109, 105, 110, 32, 109, 97, 120, 32, 108, 101, 115, 115, 32, 101, 113, 117, 97, 108, 32, 110, 111, 116, 32, 114, 111, 117, 110, 100, 32, 97, 120, 105, 115, 120, 32, 97, 120, 105, 115, 121, 32, 114, 101, 102, 32, 103, 101, 116, 32, 111, 114, 105, 103, 32, 112, 117, 116, 32, 115, 104, 105, 102, 116, 32, 103, 114, 105, 100, 32, 108, 105, 110, 107, 32, 115, 116, 101, 109, 32, 101, 118, 101, 110, 32, 115, 109, 111, 111, 116, 104, 32, 116, 111, 117, 99, 104, 32, 102, 114, 101, 101, 32, 118, 97, 108, 117, 101, 32, 115, 116, 111, 114, 101, 32, 115, 105, 122, 101, 32, 99, 111, 117, 110, 116, 32, 100, 101, 108, 116, 97, 32, 105, 102, 32, 101, 108, 115, 101, 32, 101, 110, 100, 32, 97, 103, 97, 105, 110, 32, 112, 117, 115, 104, 32, 119, 111, 114, 100, 32, 115, 116, 97, 116, 101, 32, 99, 117, 116, 32, 108, 101, 97, 115, 116, 32, 114, 101, 112, 101, 97, 116]⟩ ⟨#[32]⟩ + 1 = 45 := by
  rw [countB_is, ht_lit, ht_parts, List.length_map]
  rfl

/-- the cell of the library's greatest length holds a number -/
def MaxI (w : World) : Prop := ∃ m : Int, w.cell? ⟨0, 0, none⟩ = some (.int .i64 m)
theorem MaxI.kept {w w' : World} {B : Nat} (h : MaxI w) (hb : Below B w w') (hB : 0 < B) : MaxI w' := by
  obtain ⟨m, hm⟩ := h
  exact ⟨m, by rw [← hm]; exact hb.cell (p := ⟨0, 0, none⟩) hB⟩
theorem MaxI.lt {w : World} (h : MaxI w) : 0 < w.heap.size := by
  obtain ⟨m, hm⟩ := h
  exact cell_lt hm

theorem ht_call (m : Int) (w : World) (hm : w.cell? ⟨0, 0, none⟩ = some (.int .i64 m)) :
    Calls Tryd.prog 47 #[.string ⟨#[115, 116, 111, 112, 32, 112, 111, 112, 32, 100, 117, 112, 32, 115, 119, 97, 112, 32, 97, 100, 100, 32, 115, 117, 98, 32, 109, 117, 108, 32, 100, 105, 118, 32, 110, 101, 103, 32, 97, 98, 115, 32, 109, 105, 110, 32, 109, 97, 120, 32, 108, 101, 115, 115, 32, 101, 113, 117, 97, 108, 32, 110, 111, 116, 32, 114, 111, 117, 110, 100, 32, 97, 120, 105, 115, 120, 32, 97, 120, 105, 115, 121, 32, 114, 101, 102, 32, 103, 101, 116, 32, 111, 114, 105, 103, 32, 112, 117, 116, 32, 115, 104, 105, 102, 116, 32, 103, 114, 105, 100, 32, 108, 105, 110, 107, 32, 115, 116, 101, 109, 32, 101, 118, 101, 110, 32, 115, 109, 111, 111, 116, 104, 32, 116, 111, 117, 99, 104, 32, 102, 114, 101, 101, 32, 118, 97, 108, 117, 101, 32, 115, 116, 111, 114, 101, 32, 115, 105, 122, 101, 32, 99, 111, 117, 110, 116, 32, 100, 101, 108, 116, 97, 32, 105, 102, 32, 101, 108, 115, 101, 32, 101, 110, 100, 32, 97, 103, 97, 105, 110, 32, 112, 117, 115, 104, 32, 119, 111, 114, 100, 32, 115, 116, 97, 116, 101, 32, 99, 117, 116, 32, 108, 101, 97, 115, 116, 32, 114, 101, 112, 101, 97, 116]⟩, .string ⟨#[32]⟩] w fun e w' => e = .returned (.slice (some ⟨w.heap.size, 0, none⟩) 45 45) ∧ w' = w.alloc (.cells (htNames.map Value.string).toArray 9) := by
  have h := Tryd.strings_Split ⟨#[115, 116, 111, 112, 32, 112, 111, 112, 32, 100, 117, 112, 32, 115, 119, 97, 112, 32, 97, 100, 100, 32, 115, 117, 98, 32, 109, 117, 108, 32, 100, 105, 118, 32, 110, 101, 103, 32, 97, 98, 115, 32, 109, 105, 110, 32, 109, 97, 120, 32, 108, 101, 115, 115, 32, 101, 113, 117, 97, 108, 32, 110, 111, 116, 32, 114, 111, 117, 110, 100, 32, 97, 120, 105, 115, 120, 32, 97, 120, 105, 115, 121, 32, 114, 101, 102, 32, 103, 101, 116, 32, 111, 114, 105, 103, 32, 112, 117, 116, 32, 115, 104, 105, 102, 116, 32, 103, 114, 105, 100, 32, 108, 105, 110, 107, 32, 115, 116, 101, 109, 32, 101, 118, 101, 110, 32, 115, 109, 111, 111, 116, 104, 32, 116, 111, 117, 99, 104, 32, 102, 114, 101, 101, 32, 118, 97, 108, 117, 101, 32, 115, 116, 111, 114, 101, 32, 115, 105, 122, 101, 32, 99, 111, 117, 110, 116, 32, 100, 101, 108, 116, 97, 32, 105, 102, 32, 101, 108, 115, 101, 32, 101, 110, 100, 32, 97, 103, 97, 105, 110, 32, 112, 117, 115, 104, 32, 119, 111, 114, 100, 32, 115, 116, 97, 116, 101, 32, 99, 117, 116, 32, 108, 101, 97, 115, 116, 32, 114, 101, 112, 101, 97, 116]⟩ ⟨#[32]⟩ m w (by decide +kernel) hm (by decide +kernel)
  rw [ht_split, ht_count] at h
  exact h
theorem implWords_any (w : World) (hm : MaxI w) :
    Calls Tryd.prog 23 #[] w fun e w' => e = .returned (.slice (some ⟨w.heap.size, 0, none⟩) 45 45) ∧ StrRow w' w.heap.size 0 htNames ∧ Below w.heap.size w w' := by
  obtain ⟨m, hm⟩ := hm
  go_enter Tryd.func23, Tryd.ntmps23
  go_wp2_with fail
  refine (ht_call m w hm).mono ?_
  rintro e w1 ⟨rfl, rfl⟩
  go_wp2_with fail
  go_ret
  exact ⟨rfl, strRow_of (heap_alloc_new w _), (Below.refl _ _).alloc (Nat.le_refl _) _⟩

theorem specWords_any (w : World) :
    Calls Tryd.prog 22 #[] w fun e w' => e = .returned (.slice (some ⟨w.heap.size, 0, none⟩) 45 45) ∧ StrRow w' w.heap.size 0 htNames ∧ Below w.heap.size w w' := by
  go_enter Tryd.func22, Tryd.ntmps22
  go_wp2
  go_ret
  exact ⟨rfl, strRow_of (heap_alloc_new w _), (Below.refl _ _).alloc (Nat.le_refl _) _⟩

/-- the word of a code -/
def htWord (c : Int) : ByteArray := if 0 ≤ c ∧ c ≤ 44 then htNames.getD c.toNat ByteArray.empty else ByteArray.empty
theorem htWord_in {k : Nat} (h : k < 45) : htWord (k : Int) = htNames.getD k ByteArray.empty := by
  unfold htWord; rw [if_pos (by omega)]; rfl
theorem htWord_out {c : Int} (h : c < 0 ∨ 44 < c) : htWord c = ByteArray.empty := by
  unfold htWord; rw [if_neg (by omega)]

theorem specHintName_any (c : Int) (w : World) :
    Calls Tryd.prog 8 #[.int .i64 c] w fun e w' => e = .returned (.string (htWord c)) ∧ Below w.heap.size w w' := by
  cases hi : inB c 0 44
  · have ho := inB_false.1 hi
    go_enter Tryd.func8, Tryd.ntmps8
    go_wp2_with (go_at_call 21; refine (l00In_any _ _ _ _).mono ?_; rintro e w' ⟨rfl, rfl⟩)
    go_ret
    exact ⟨by rw [htWord_out ho]; rfl, Below.refl _ _⟩
  · obtain ⟨h0, h1⟩ := inB_iff.1 hi
    obtain ⟨k, rfl⟩ : ∃ k : Nat, c = k := ⟨c.toNat, by omega⟩
    have hk : k < 45 := by omega
    have hki : (0 : Int) ≤ (k : Int) ∧ (k : Int) < 45 := by omega
    go_enter Tryd.func8, Tryd.ntmps8
    go_wp2_with (go_at_call 21; refine (l00In_any _ _ _ _).mono ?_; rintro e w' ⟨rfl, rfl⟩)
    refine (specWords_any _).mono ?_
    rintro e w1 ⟨rfl, hr, hb⟩
    have hc := hr k hk
    simp only [Nat.zero_add] at hc
    rw [← htWord_in hk] at hc
    replace hr := Lib.hid hr
    replace hb := Lib.hid hb
    go_wp2_with fail
    go_ret
    exact ⟨rfl, hb.out⟩

theorem implHintName_any (c : Int) (w : World) (hm : MaxI w) :
    Calls Tryd.prog 9 #[.int .i64 c] w fun e w' => e = .returned (.string (htWord c)) ∧ Below w.heap.size w w' := by
  by_cases ho : c < 0 ∨ 44 < c
  · have hw := htWord_out ho
    rcases ho with ho | ho
    all_goals
      go_enter Tryd.func9, Tryd.ntmps9
      go_wp2_with fail
      go_ret
      exact ⟨by rw [hw]; rfl, Below.refl _ _⟩
  · obtain ⟨k, rfl⟩ : ∃ k : Nat, c = k := ⟨c.toNat, by omega⟩
    have hk : k < 45 := by omega
    have hki : (0 : Int) ≤ (k : Int) ∧ (k : Int) < 45 := by omega
    have hk0 : ¬ ((k : Int) < 0) := by omega
    have hk1 : ¬ ((44 : Int) < (k : Int)) := by omega
    replace hm := Lib.hid hm
    go_enter Tryd.func9, Tryd.ntmps9
    go_wp2_with fail
    refine (implWords_any _ hm.out).mono ?_
    rintro e w1 ⟨rfl, hr, hb⟩
    have hc := hr k hk
    simp only [Nat.zero_add] at hc
    rw [← htWord_in hk] at hc
    replace hr := Lib.hid hr
    replace hb := Lib.hid hb
    go_wp2_with fail
    go_ret
    exact ⟨rfl, hb.out⟩

theorem implHintNamed_any (s : ByteArray) (w : World) (hm : MaxI w) :
    Calls Tryd.prog 11 #[.string s] w fun e w' => ∃ r : Int, e = .returned (.int .i64 r) ∧ FirstAt htNames s r ∧ Below w.heap.size w w' := by
  replace hm := Lib.hid hm
  go_enter Tryd.func11, Tryd.ntmps11
  go_wp2_with fail
  refine (implWords_any _ hm.out).mono ?_
  rintro e w1 ⟨rfl, hr, hb⟩
  replace hr := Lib.hid hr
  go_wp2_with fail
  refine (index_any _ 0 45 htNames s _ (by decide) hr.out).mono ?_
  rintro e w2 ⟨r, rfl, hf, rfl⟩
  replace hf := Lib.hid hf
  go_wp2_with fail
  go_ret
  exact ⟨r, rfl, hf.out, hb⟩

theorem specHintNamed_any (s : ByteArray) (w : World) :
    Calls Tryd.prog 10 #[.string s] w fun e w' => ∃ r : Int, e = .returned (.int .i64 r) ∧ FirstAt htNames s r ∧ Below w.heap.size w w' := by
  go_enter Tryd.func10, Tryd.ntmps10
  go_wp2_with fail
  refine (specWords_any _).mono ?_
  rintro e w1 ⟨rfl, hr, hb⟩
  replace hr := Lib.hid hr
  replace hb := Lib.hid hb
  go_wp2_with fail
  go_loop [4] (fun i => ∃ k : Nat, k ≤ 45 ∧ i = .int .i64 k ∧ ∀ j, j < k → htNames.getD j ByteArray.empty ≠ s) (fun i => 45 - (intOf i).toNat)
  case atStart => exact ⟨0, Nat.zero_le _, rfl, fun j hj => absurd hj (Nat.not_lt_zero j)⟩
  case round =>
    obtain ⟨k, hk, rfl, hall⟩ := hrel
    replace hall := Lib.hid hall
    by_cases hlt : k < 45
    · have hc := hr.out k hlt
      simp only [Nat.zero_add] at hc
      generalize hx : htNames.getD k ByteArray.empty = x at hc
      replace hx := Lib.hid hx
      go_wp2
      · have he := bytes_eq (by assumption)
        go_ret
        exact ⟨k, rfl, .inr ⟨k, rfl, hlt, by rw [hx.out]; exact he, hall.out⟩, hb.out⟩
      · have he := bytes_ne (by assumption)
        go_round
        case rel => exact ⟨k + 1, by omega, by go_num, fun j hj => by
          rcases Nat.lt_or_ge j k with h | h
          · exact hall.out j h
          · obtain rfl : j = k := by omega
            rw [hx.out]; exact fun h => he h⟩
        case measure => simp [intOf]; omega
    · go_wp2
      go_ret
      exact ⟨-1, rfl, .inl ⟨rfl, fun j hj => hall.out j (by have : htNames.length = 45 := rfl; omega)⟩, hb.out⟩

theorem lawHintName_walk (c : Int) (_ : (Lit.int .i64 c).wf = true) (w : World) (hm : MaxI w) :
    Calls Tryd.prog 3 #[.int .i64 c] w fun e w' => e = .returned (.bool true) ∧ Below w.heap.size w w' := by
  have hml := hm.lt
  replace hm := Lib.hid hm
  go_enter Tryd.func3, Tryd.ntmps3
  go_wp2_with fail
  refine (specHintName_any _ _).mono ?_
  rintro e w1 ⟨rfl, hb1⟩
  have hc := Lib.hid (implHintName_any c w1 (hm.out.kept hb1 hml))
  go_wp2_with fail
  refine hc.out.mono ?_
  rintro e w2 ⟨rfl, hb2⟩
  go_wp2_with fail
  go_ret
  exact ⟨rfl, hb1.trans (hb2.mono hb1.size)⟩
theorem lawHintNamed_walk (s : ByteArray) (_ : s.size ≤ maxLen) (w : World) (hm : MaxI w) :
    Calls Tryd.prog 4 #[.string s] w fun e w' => e = .returned (.bool true) ∧ Below w.heap.size w w' := by
  have hml := hm.lt
  replace hm := Lib.hid hm
  by_cases hs : (1048576 : Int) < s.size
  · go_enter Tryd.func4, Tryd.ntmps4
    go_wp2_with fail
    go_ret
    exact ⟨rfl, Below.refl _ _⟩
  · go_enter Tryd.func4, Tryd.ntmps4
    go_wp2_with fail
    refine (specHintNamed_any _ _).mono ?_
    rintro e w1 ⟨r, rfl, hf, hb1⟩
    have hc := Lib.hid (implHintNamed_any s w1 (hm.out.kept hb1 hml))
    replace hf := Lib.hid hf
    go_wp2_with fail
    refine hc.out.mono ?_
    rintro e w2 ⟨r2, rfl, hf2, hb2⟩
    obtain rfl := hf.out.unique hf2
    replace hf2 := Lib.hid hf2
    go_wp2_with fail
    go_ret
    exact ⟨rfl, hb1.trans (hb2.mono hb1.size)⟩
end Go.Proofs.YtjmogpolipinlaaDoor
