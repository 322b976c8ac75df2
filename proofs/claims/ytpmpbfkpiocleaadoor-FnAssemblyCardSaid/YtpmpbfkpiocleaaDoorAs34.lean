/- The reference's making of a program. Conditions: as each states. -/
import Derived.Laws.NewBlocks
import Derived.Lib.SmallJoins
import Derived.Test.YtpmpbfkpiocleaaDoorAs28
namespace Go.Proofs.YtpmpbfkpiocleaaDoor
open Go.RowKit
set_option linter.unusedVariables false
set_option maxRecDepth 100000

theorem src_two {w : World} {b : Nat} {u v : Value} {t : TypeId} (h1 : u.oneCell' = true) (h2 : v.oneCell' = true) (hb : b = w.heap.size) : Src (w.alloc (.cells #[u, v] t)) 1 (some ⟨b, 0, none⟩) 2 [u, v] := by
  subst hb
  refine ⟨rfl, fun x hx => ?_, fun _ => ⟨_, rfl, fun j x hj => ?_⟩⟩
  · simp at hx; rcases hx with rfl | rfl <;> assumption
  · have : (⟨w.heap.size, 0, none⟩ : Addr).add j = ⟨w.heap.size, j, none⟩ := by unfold Addr.add; split <;> simp_all
    rw [this, Go.Joins.cell_of_block (heap_alloc_new w _)]
    match j, hj with
    | 0, hj => exact hj
    | 1, hj => exact hj
theorem take_next {L : List (Int × Int)} {k : Nat} {p : Int × Int} (h : L[k]? = some p) : L.take (k + 1) = L.take k ++ [p] := by
  have hl := (List.getElem?_eq_some_iff.1 h).1
  rw [List.take_succ_eq_append_getElem hl]
  rw [List.getElem?_eq_getElem hl] at h
  injection h with h
  rw [h]
theorem rdH_at {w : World} {A : Option Addr} {n : Nat} {L : List (Int × Int)} (h : RdH w A n L) {k : Nat} (hk : k < n) : ∃ b off p, A = some ⟨b, off, none⟩ ∧ b < w.heap.size ∧ L[k]? = some p ∧ w.cell? ⟨b, off + k * 2, none⟩ = some (.int .i64 p.1) ∧ w.cell? ⟨b, off + k * 2 + 1, none⟩ = some (.int .i64 p.2) := by
  obtain ⟨hl, h⟩ := h
  obtain ⟨b, off, rfl, hb, hc⟩ := h (by omega)
  obtain ⟨h1, h2⟩ := hc k hk
  have hg : L[k]? = some (L.getD k (0, 0)) := by
    rw [List.getD_eq_getElem?_getD, List.getElem?_eq_getElem (by omega)]; rfl
  exact ⟨b, off, _, rfl, hb, hg, h1, h2⟩
end Go.Proofs.YtpmpbfkpiocleaaDoor

/- A number as one byte or as two. Conditions: as each states. -/
namespace Go.Proofs.YtpmpbfkpiocleaaDoor
open Go.RowKit
set_option linter.unusedVariables false
set_option maxRecDepth 100000

theorem u64_bytes (y : Int) : ∃ u : Nat, IntKind.u64.wrap y = (u : Int) ∧ ((u : Int) % 256 = ((b8 y).toNat : Int)) ∧ ((u : Int) / 256 % 256 = ((b8 (y / 256)).toNat : Int)) ∧ u < 18446744073709551616 := by
  refine ⟨(IntKind.u64.wrap y).toNat, ?_, ?_, ?_, ?_⟩ <;> (try rw [b8_nat]) <;> simp only [IntKind.wrap, IntKind.signed, IntKind.bits] <;> simp <;> omega

set_option maxHeartbeats 1000000 in
theorem putWord1_any (y : Int) (w : World) (h1 : -128 ≤ y) (h2 : y ≤ 255) :
    Calls Tryd.prog 20 #[.int .i64 y, .int .i64 1] w fun e w' => e = .returned (.string ⟨#[b8 y]⟩) ∧ Below w.heap.size w w' := by
  obtain ⟨u, hu, hu1, hu2, hu3⟩ := u64_bytes y
  have hu0 : (0 : Int) ≤ (u : Int) := by omega
  have hv0 : (0 : Int) ≤ (u : Int) / 256 := by omega
  have hv1 : (u : Int) / 256 ≤ 1000000000000000000 := by omega
  replace hu3 := Lib.hid hu3
  have hmk : ∀ w, (Instr.makeSlice 22 (.int .i64 1) (.int .i64 1)).run Tryd.prog w = .ok (.slice (some ⟨w.heap.size, 0, none⟩) 1 1) (w.alloc (.cells #[.int .u8 0] 5 (0, 0))) := fun _ => by kernel_rfl
  go_enter Tryd.func20, Tryd.ntmps20
  go_wp2_with fail
  go_loopw [7, 8] (fun uu i wr => (i = .int .i64 0 ∧ uu = .int .u64 (u : Int) ∧ wr = w.alloc (.cells #[.int .u8 0] 5 (0, 0))) ∨ (i = .int .i64 (-1) ∧ (∃ q : Int, uu = .int .u64 q) ∧ wr = w.alloc (.cells #[.int .u8 (b8 y).toNat] 5 (0, 0)))) (fun uu i wr => (intOf i + 1).toNat)
  case atStart => exact .inl ⟨rfl, rfl, rfl⟩
  case round =>
    clear hmk
    rcases hrel with ⟨rfl, rfl, rfl⟩ | ⟨rfl, ⟨q, rfl⟩, rfl⟩
    · go_wp2_with fail
      go_roundw
      case rel => exact .inr ⟨by first | rfl | go_num, ⟨_, rfl⟩, (by first | trivial | rfl)⟩
      case measure => simp [intOf]
    · have kr := run_bytes_str (P := Tryd.prog) (w := w.alloc (.cells #[.int .u8 (b8 y).toNat] 5 (0, 0))) (src := 22) (dst := 9) (e := 5) Tryd.underlying22 Tryd.underlying5 Tryd.underlying9 (A := some ⟨w.heap.size, 0, none⟩) (n := 1) (c := 1) (ds := [b8 y]) (src_new (cs := [.int .u8 (b8 y).toNat]) rfl (by simp [Value.oneCell'])) (fun h => by cases h)
      go_wp2_with fail
      go_ret
      exact ⟨rfl, Go.Joins.below_alloc1 _ _⟩
set_option maxHeartbeats 1000000 in
theorem putWord2_any (y : Int) (w : World) (h1 : -32768 ≤ y) (h2 : y ≤ 65535) :
    Calls Tryd.prog 20 #[.int .i64 y, .int .i64 2] w fun e w' => e = .returned (.string ⟨#[b8 (y / 256), b8 y]⟩) ∧ Below w.heap.size w w' := by
  obtain ⟨u, hu, hu1, hu2, hu3⟩ := u64_bytes y
  have hu0 : (0 : Int) ≤ (u : Int) := by omega
  have hv0 : (0 : Int) ≤ (u : Int) / 256 := by omega
  have hv1 : (u : Int) / 256 ≤ 1000000000000000000 := by omega
  replace hu3 := Lib.hid hu3
  have hmk : ∀ w, (Instr.makeSlice 22 (.int .i64 2) (.int .i64 2)).run Tryd.prog w = .ok (.slice (some ⟨w.heap.size, 0, none⟩) 2 2) (w.alloc (.cells #[.int .u8 0, .int .u8 0] 5 (0, 0))) := fun _ => by kernel_rfl
  go_enter Tryd.func20, Tryd.ntmps20
  go_wp2_with fail
  go_loopw [7, 8] (fun uu i wr => (i = .int .i64 1 ∧ uu = .int .u64 (u : Int) ∧ wr = w.alloc (.cells #[.int .u8 0, .int .u8 0] 5 (0, 0))) ∨ (i = .int .i64 0 ∧ uu = .int .u64 ((u : Int) / 256) ∧ wr = w.alloc (.cells #[.int .u8 0, .int .u8 (b8 y).toNat] 5 (0, 0))) ∨ (i = .int .i64 (-1) ∧ (∃ q : Int, uu = .int .u64 q) ∧ wr = w.alloc (.cells #[.int .u8 (b8 (y / 256)).toNat, .int .u8 (b8 y).toNat] 5 (0, 0)))) (fun uu i wr => (intOf i + 1).toNat)
  case atStart => exact .inl ⟨rfl, rfl, rfl⟩
  case round =>
    clear hmk
    rcases hrel with ⟨rfl, rfl, rfl⟩ | ⟨rfl, rfl, rfl⟩ | ⟨rfl, ⟨q, rfl⟩, rfl⟩
    · go_wp2_with fail
      go_roundw
      case rel => exact .inr (.inl ⟨by first | rfl | go_num, rfl, (by first | trivial | rfl)⟩)
      case measure => simp [intOf]
    · go_wp2_with fail
      go_roundw
      case rel => exact .inr (.inr ⟨by first | rfl | go_num, ⟨_, rfl⟩, (by first | trivial | rfl)⟩)
      case measure => simp [intOf]
    · have kr := run_bytes_str (P := Tryd.prog) (w := w.alloc (.cells #[.int .u8 (b8 (y / 256)).toNat, .int .u8 (b8 y).toNat] 5 (0, 0))) (src := 22) (dst := 9) (e := 5) Tryd.underlying22 Tryd.underlying5 Tryd.underlying9 (A := some ⟨w.heap.size, 0, none⟩) (n := 2) (c := 2) (ds := [b8 (y / 256), b8 y]) (src_two rfl rfl rfl) (fun h => by cases h)
      go_wp2_with fail
      go_ret
      exact ⟨rfl, Go.Joins.below_alloc1 _ _⟩
end Go.Proofs.YtpmpbfkpiocleaaDoor

