/- Whether a glyph is valid: the program's side. Conditions: as it states. -/
import Derived.BigQuiet
import Derived.Lib.QuietBelow
import Derived.Test.YtfkidklpjiiclaaGreatTe26
namespace Go.Proofs.YtfkidklpjiiclaaGreat
open Go.RowKit
set_option linter.unusedVariables false
set_option maxRecDepth 100000

theorem RdS.take {α : Type} {k : Nat} {R : Rel α} {w : World} {lo hi : Nat} {A : Option Addr} {n : Nat} {L : List α} (h : RdS k R w lo hi A n L) {j : Nat} (hj : j ≤ n) : RdS k R w lo hi A j (L.take j) := by
  obtain ⟨hl, h⟩ := h
  refine ⟨by rw [List.length_take]; omega, fun hn => ?_⟩
  obtain ⟨b, off, h1, h2, h3, h4⟩ := h (by omega)
  refine ⟨b, off, h1, h2, h3, fun i a hi' => ?_⟩
  have hij : i < j := by
    have := (List.getElem?_eq_some_iff.1 hi').1
    rw [List.length_take] at this; omega
  rw [List.getElem?_take_of_lt hij] at hi'
  exact h4 i a hi'
def ancIdx (K : List Anch) (nm : ByteArray) : Int := match K.findIdx? (fun a => decide (a.1 = nm)) with
  | some k => k
  | none => -1
theorem ancIdx_is (K : List Anch) (nm : ByteArray) : AnchAt K nm (ancIdx K nm) := by
  unfold ancIdx
  cases h : K.findIdx? (fun a => decide (a.1 = nm)) with
  | none =>
    rw [List.findIdx?_eq_none_iff] at h
    exact .inl ⟨rfl, fun b hb => by simpa using h b hb⟩
  | some k =>
    rw [List.findIdx?_eq_some_iff_getElem] at h
    obtain ⟨hk, h1, h2⟩ := h
    refine .inr ⟨k, K[k], rfl, List.getElem?_eq_getElem hk, by simpa using h1, fun b hb => ?_⟩
    obtain ⟨j, hj, rfl⟩ := List.getElem_of_mem hb
    rw [List.getElem_take]
    have hjk : j < k := by rw [List.length_take] at hj; omega
    simpa using h2 j hjk
theorem AnchAt.unique {K : List Anch} {nm : ByteArray} {r r' : Int} (h : AnchAt K nm r) (h' : AnchAt K nm r') : r = r' := by
  have key : ∀ {k k' : Nat} {a : Anch}, K[k]? = some a → a.1 = nm → (∀ b ∈ K.take k', b.1 ≠ nm) → k' ≤ k := by
    intro k k' a ha hn hall
    rcases Nat.lt_or_ge k k' with hlt | hge
    · exact absurd hn (hall a (List.mem_of_getElem? (i := k) (by rw [List.getElem?_take_of_lt hlt]; exact ha)))
    · exact hge
  rcases h with ⟨rfl, h⟩ | ⟨k, a, rfl, ha, hn, h⟩ <;> rcases h' with ⟨rfl, h'⟩ | ⟨k', a', rfl, ha', hn', h'⟩
  · rfl
  · exact absurd hn' (h a' (List.mem_of_getElem? ha'))
  · exact absurd hn (h' a (List.mem_of_getElem? ha))
  · have := key ha hn h'
    have := key ha' hn' h
    omega
theorem anchorAt_idx (A : Option Addr) (n c lo hi : Nat) (K : List Anch) (nm : ByteArray) (w : World) (hr : RdS 3 (FlatR anchC) w lo hi A n K) (hhi : hi ≤ w.heap.size) (hn : n ≤ 1000000000) :
    Calls Tryz.prog 81 #[.slice A n c, .string nm] w fun e w' => e = .returned (.int .i64 (ancIdx K nm)) ∧ Below w.heap.size w w' :=
  (anchorAt_any A n c lo hi K nm w hr hhi hn).mono fun e w' ⟨r, he, hr, hb⟩ => ⟨by rw [he, hr.unique (ancIdx_is K nm)], hb⟩

theorem implValidG_n0 (x0 : ByteArray) (x1 x2 : Int) (x3 : List (List Knot)) (x4 : List Part) (x5 : List Anch) (x6 : ByteArray) (A3 A4 A5 : Option Addr) (n3 c3 n4 c4 n5 c5 lo hi : Nat) (w : World) (ho : OutRd w lo hi A3 n3 x3) (hp : RdS 3 (FlatR partC) w lo hi A4 n4 x4) (ha : RdS 3 (FlatR anchC) w lo hi A5 n5 x5) (hhi : hi ≤ w.heap.size) (hm : Gl.small ⟨x0, x1, x2, x3, x4, x5, x6⟩ 1000000000) (hs0 : x0.size ≤ 9223372036854775807) (hs6 : x6.size ≤ 9223372036854775807) (htn : false = nameB x0) :
    Calls Tryz.prog 33 #[.agg #[.string x0, .int .i64 x1, .int .i64 x2, .slice A3 n3 c3, .slice A4 n4 c4, .slice A5 n5 c5, .string x6]] w fun e w' => e = .returned (.bool false) ∧ Below w.heap.size w w' := by
  have hB0 : Below w.heap.size w (w.alloc (.cells #[.string x0, .int .i64 x1, .int .i64 x2, .slice A3 n3 c3, .slice A4 n4 c4, .slice A5 n5 c5, .string x6] 58 (0, 0))) := Go.Joins.below_alloc1 _ _
  have k0 : (w.alloc (.cells #[.string x0, .int .i64 x1, .int .i64 x2, .slice A3 n3 c3, .slice A4 n4 c4, .slice A5 n5 c5, .string x6] 58 (0, 0))).cell? ⟨w.heap.size, 0, none⟩ = some (.string x0) := by rw [Go.Joins.cell_of_block (heap_alloc_new w _)]; rfl
  have k1 : (w.alloc (.cells #[.string x0, .int .i64 x1, .int .i64 x2, .slice A3 n3 c3, .slice A4 n4 c4, .slice A5 n5 c5, .string x6] 58 (0, 0))).cell? ⟨w.heap.size, 1, none⟩ = some (.int .i64 x1) := by rw [Go.Joins.cell_of_block (heap_alloc_new w _)]; rfl
  have k2 : (w.alloc (.cells #[.string x0, .int .i64 x1, .int .i64 x2, .slice A3 n3 c3, .slice A4 n4 c4, .slice A5 n5 c5, .string x6] 58 (0, 0))).cell? ⟨w.heap.size, 2, none⟩ = some (.int .i64 x2) := by rw [Go.Joins.cell_of_block (heap_alloc_new w _)]; rfl
  have k3 : (w.alloc (.cells #[.string x0, .int .i64 x1, .int .i64 x2, .slice A3 n3 c3, .slice A4 n4 c4, .slice A5 n5 c5, .string x6] 58 (0, 0))).cell? ⟨w.heap.size, 3, none⟩ = some (.slice A3 n3 c3) := by rw [Go.Joins.cell_of_block (heap_alloc_new w _)]; rfl
  have k4 : (w.alloc (.cells #[.string x0, .int .i64 x1, .int .i64 x2, .slice A3 n3 c3, .slice A4 n4 c4, .slice A5 n5 c5, .string x6] 58 (0, 0))).cell? ⟨w.heap.size, 4, none⟩ = some (.slice A4 n4 c4) := by rw [Go.Joins.cell_of_block (heap_alloc_new w _)]; rfl
  have k5 : (w.alloc (.cells #[.string x0, .int .i64 x1, .int .i64 x2, .slice A3 n3 c3, .slice A4 n4 c4, .slice A5 n5 c5, .string x6] 58 (0, 0))).cell? ⟨w.heap.size, 5, none⟩ = some (.slice A5 n5 c5) := by rw [Go.Joins.cell_of_block (heap_alloc_new w _)]; rfl
  have k6 : (w.alloc (.cells #[.string x0, .int .i64 x1, .int .i64 x2, .slice A3 n3 c3, .slice A4 n4 c4, .slice A5 n5 c5, .string x6] 58 (0, 0))).cell? ⟨w.heap.size, 6, none⟩ = some (.string x6) := by rw [Go.Joins.cell_of_block (heap_alloc_new w _)]; rfl
  have hsz0 : w.heap.size < (w.alloc (.cells #[.string x0, .int .i64 x1, .int .i64 x2, .slice A3 n3 c3, .slice A4 n4 c4, .slice A5 n5 c5, .string x6] 58 (0, 0))).heap.size := by simp
  have cN := Lib.hid (fun W => implIsName_any x0 false htn W hs0)
  replace htn := Lib.hid htn
  clear ho hp ha hm
  go_enter Tryz.func33, Tryz.ntmps33
  go_wp2_with fail
  refine (cN.out _).mono ?_
  rintro e w0 ⟨rfl, rfl⟩
  go_wp2_with fail
  go_ret
  exact ⟨rfl, hB0⟩

theorem implValidG_n1 (x0 : ByteArray) (x1 x2 : Int) (x3 : List (List Knot)) (x4 : List Part) (x5 : List Anch) (x6 : ByteArray) (A3 A4 A5 : Option Addr) (n3 c3 n4 c4 n5 c5 lo hi : Nat) (w : World) (ho : OutRd w lo hi A3 n3 x3) (hp : RdS 3 (FlatR partC) w lo hi A4 n4 x4) (ha : RdS 3 (FlatR anchC) w lo hi A5 n5 x5) (hhi : hi ≤ w.heap.size) (hm : Gl.small ⟨x0, x1, x2, x3, x4, x5, x6⟩ 1000000000) (hs0 : x0.size ≤ 9223372036854775807) (hs6 : x6.size ≤ 9223372036854775807) (htn : true = nameB x0) (hno : x1 < -1) :
    Calls Tryz.prog 33 #[.agg #[.string x0, .int .i64 x1, .int .i64 x2, .slice A3 n3 c3, .slice A4 n4 c4, .slice A5 n5 c5, .string x6]] w fun e w' => e = .returned (.bool false) ∧ Below w.heap.size w w' := by
  have hB0 : Below w.heap.size w (w.alloc (.cells #[.string x0, .int .i64 x1, .int .i64 x2, .slice A3 n3 c3, .slice A4 n4 c4, .slice A5 n5 c5, .string x6] 58 (0, 0))) := Go.Joins.below_alloc1 _ _
  have k0 : (w.alloc (.cells #[.string x0, .int .i64 x1, .int .i64 x2, .slice A3 n3 c3, .slice A4 n4 c4, .slice A5 n5 c5, .string x6] 58 (0, 0))).cell? ⟨w.heap.size, 0, none⟩ = some (.string x0) := by rw [Go.Joins.cell_of_block (heap_alloc_new w _)]; rfl
  have k1 : (w.alloc (.cells #[.string x0, .int .i64 x1, .int .i64 x2, .slice A3 n3 c3, .slice A4 n4 c4, .slice A5 n5 c5, .string x6] 58 (0, 0))).cell? ⟨w.heap.size, 1, none⟩ = some (.int .i64 x1) := by rw [Go.Joins.cell_of_block (heap_alloc_new w _)]; rfl
  have k2 : (w.alloc (.cells #[.string x0, .int .i64 x1, .int .i64 x2, .slice A3 n3 c3, .slice A4 n4 c4, .slice A5 n5 c5, .string x6] 58 (0, 0))).cell? ⟨w.heap.size, 2, none⟩ = some (.int .i64 x2) := by rw [Go.Joins.cell_of_block (heap_alloc_new w _)]; rfl
  have k3 : (w.alloc (.cells #[.string x0, .int .i64 x1, .int .i64 x2, .slice A3 n3 c3, .slice A4 n4 c4, .slice A5 n5 c5, .string x6] 58 (0, 0))).cell? ⟨w.heap.size, 3, none⟩ = some (.slice A3 n3 c3) := by rw [Go.Joins.cell_of_block (heap_alloc_new w _)]; rfl
  have k4 : (w.alloc (.cells #[.string x0, .int .i64 x1, .int .i64 x2, .slice A3 n3 c3, .slice A4 n4 c4, .slice A5 n5 c5, .string x6] 58 (0, 0))).cell? ⟨w.heap.size, 4, none⟩ = some (.slice A4 n4 c4) := by rw [Go.Joins.cell_of_block (heap_alloc_new w _)]; rfl
  have k5 : (w.alloc (.cells #[.string x0, .int .i64 x1, .int .i64 x2, .slice A3 n3 c3, .slice A4 n4 c4, .slice A5 n5 c5, .string x6] 58 (0, 0))).cell? ⟨w.heap.size, 5, none⟩ = some (.slice A5 n5 c5) := by rw [Go.Joins.cell_of_block (heap_alloc_new w _)]; rfl
  have k6 : (w.alloc (.cells #[.string x0, .int .i64 x1, .int .i64 x2, .slice A3 n3 c3, .slice A4 n4 c4, .slice A5 n5 c5, .string x6] 58 (0, 0))).cell? ⟨w.heap.size, 6, none⟩ = some (.string x6) := by rw [Go.Joins.cell_of_block (heap_alloc_new w _)]; rfl
  have hsz0 : w.heap.size < (w.alloc (.cells #[.string x0, .int .i64 x1, .int .i64 x2, .slice A3 n3 c3, .slice A4 n4 c4, .slice A5 n5 c5, .string x6] 58 (0, 0))).heap.size := by simp
  have cN := Lib.hid (fun W => implIsName_any x0 true htn W hs0)
  replace htn := Lib.hid htn
  clear ho hp ha hm
  go_enter Tryz.func33, Tryz.ntmps33
  go_wp2_with fail
  refine (cN.out _).mono ?_
  rintro e w0 ⟨rfl, rfl⟩
  go_wp2_with fail
  go_ret
  exact ⟨rfl, hB0⟩

theorem implValidG_n2 (x0 : ByteArray) (x1 x2 : Int) (x3 : List (List Knot)) (x4 : List Part) (x5 : List Anch) (x6 : ByteArray) (A3 A4 A5 : Option Addr) (n3 c3 n4 c4 n5 c5 lo hi : Nat) (w : World) (ho : OutRd w lo hi A3 n3 x3) (hp : RdS 3 (FlatR partC) w lo hi A4 n4 x4) (ha : RdS 3 (FlatR anchC) w lo hi A5 n5 x5) (hhi : hi ≤ w.heap.size) (hm : Gl.small ⟨x0, x1, x2, x3, x4, x5, x6⟩ 1000000000) (hs0 : x0.size ≤ 9223372036854775807) (hs6 : x6.size ≤ 9223372036854775807) (htn : true = nameB x0) (b0 : -1 ≤ x1) (hno : 65535 < x1) :
    Calls Tryz.prog 33 #[.agg #[.string x0, .int .i64 x1, .int .i64 x2, .slice A3 n3 c3, .slice A4 n4 c4, .slice A5 n5 c5, .string x6]] w fun e w' => e = .returned (.bool false) ∧ Below w.heap.size w w' := by
  have hB0 : Below w.heap.size w (w.alloc (.cells #[.string x0, .int .i64 x1, .int .i64 x2, .slice A3 n3 c3, .slice A4 n4 c4, .slice A5 n5 c5, .string x6] 58 (0, 0))) := Go.Joins.below_alloc1 _ _
  have k0 : (w.alloc (.cells #[.string x0, .int .i64 x1, .int .i64 x2, .slice A3 n3 c3, .slice A4 n4 c4, .slice A5 n5 c5, .string x6] 58 (0, 0))).cell? ⟨w.heap.size, 0, none⟩ = some (.string x0) := by rw [Go.Joins.cell_of_block (heap_alloc_new w _)]; rfl
  have k1 : (w.alloc (.cells #[.string x0, .int .i64 x1, .int .i64 x2, .slice A3 n3 c3, .slice A4 n4 c4, .slice A5 n5 c5, .string x6] 58 (0, 0))).cell? ⟨w.heap.size, 1, none⟩ = some (.int .i64 x1) := by rw [Go.Joins.cell_of_block (heap_alloc_new w _)]; rfl
  have k2 : (w.alloc (.cells #[.string x0, .int .i64 x1, .int .i64 x2, .slice A3 n3 c3, .slice A4 n4 c4, .slice A5 n5 c5, .string x6] 58 (0, 0))).cell? ⟨w.heap.size, 2, none⟩ = some (.int .i64 x2) := by rw [Go.Joins.cell_of_block (heap_alloc_new w _)]; rfl
  have k3 : (w.alloc (.cells #[.string x0, .int .i64 x1, .int .i64 x2, .slice A3 n3 c3, .slice A4 n4 c4, .slice A5 n5 c5, .string x6] 58 (0, 0))).cell? ⟨w.heap.size, 3, none⟩ = some (.slice A3 n3 c3) := by rw [Go.Joins.cell_of_block (heap_alloc_new w _)]; rfl
  have k4 : (w.alloc (.cells #[.string x0, .int .i64 x1, .int .i64 x2, .slice A3 n3 c3, .slice A4 n4 c4, .slice A5 n5 c5, .string x6] 58 (0, 0))).cell? ⟨w.heap.size, 4, none⟩ = some (.slice A4 n4 c4) := by rw [Go.Joins.cell_of_block (heap_alloc_new w _)]; rfl
  have k5 : (w.alloc (.cells #[.string x0, .int .i64 x1, .int .i64 x2, .slice A3 n3 c3, .slice A4 n4 c4, .slice A5 n5 c5, .string x6] 58 (0, 0))).cell? ⟨w.heap.size, 5, none⟩ = some (.slice A5 n5 c5) := by rw [Go.Joins.cell_of_block (heap_alloc_new w _)]; rfl
  have k6 : (w.alloc (.cells #[.string x0, .int .i64 x1, .int .i64 x2, .slice A3 n3 c3, .slice A4 n4 c4, .slice A5 n5 c5, .string x6] 58 (0, 0))).cell? ⟨w.heap.size, 6, none⟩ = some (.string x6) := by rw [Go.Joins.cell_of_block (heap_alloc_new w _)]; rfl
  have hsz0 : w.heap.size < (w.alloc (.cells #[.string x0, .int .i64 x1, .int .i64 x2, .slice A3 n3 c3, .slice A4 n4 c4, .slice A5 n5 c5, .string x6] 58 (0, 0))).heap.size := by simp
  have cN := Lib.hid (fun W => implIsName_any x0 true htn W hs0)
  replace htn := Lib.hid htn
  clear ho hp ha hm
  go_enter Tryz.func33, Tryz.ntmps33
  go_wp2_with fail
  refine (cN.out _).mono ?_
  rintro e w0 ⟨rfl, rfl⟩
  go_wp2_with fail
  go_ret
  exact ⟨rfl, hB0⟩

theorem implValidG_n3 (x0 : ByteArray) (x1 x2 : Int) (x3 : List (List Knot)) (x4 : List Part) (x5 : List Anch) (x6 : ByteArray) (A3 A4 A5 : Option Addr) (n3 c3 n4 c4 n5 c5 lo hi : Nat) (w : World) (ho : OutRd w lo hi A3 n3 x3) (hp : RdS 3 (FlatR partC) w lo hi A4 n4 x4) (ha : RdS 3 (FlatR anchC) w lo hi A5 n5 x5) (hhi : hi ≤ w.heap.size) (hm : Gl.small ⟨x0, x1, x2, x3, x4, x5, x6⟩ 1000000000) (hs0 : x0.size ≤ 9223372036854775807) (hs6 : x6.size ≤ 9223372036854775807) (htn : true = nameB x0) (b0 : -1 ≤ x1) (b1 : x1 ≤ 65535) (hno : x2 < 0) :
    Calls Tryz.prog 33 #[.agg #[.string x0, .int .i64 x1, .int .i64 x2, .slice A3 n3 c3, .slice A4 n4 c4, .slice A5 n5 c5, .string x6]] w fun e w' => e = .returned (.bool false) ∧ Below w.heap.size w w' := by
  have hB0 : Below w.heap.size w (w.alloc (.cells #[.string x0, .int .i64 x1, .int .i64 x2, .slice A3 n3 c3, .slice A4 n4 c4, .slice A5 n5 c5, .string x6] 58 (0, 0))) := Go.Joins.below_alloc1 _ _
  have k0 : (w.alloc (.cells #[.string x0, .int .i64 x1, .int .i64 x2, .slice A3 n3 c3, .slice A4 n4 c4, .slice A5 n5 c5, .string x6] 58 (0, 0))).cell? ⟨w.heap.size, 0, none⟩ = some (.string x0) := by rw [Go.Joins.cell_of_block (heap_alloc_new w _)]; rfl
  have k1 : (w.alloc (.cells #[.string x0, .int .i64 x1, .int .i64 x2, .slice A3 n3 c3, .slice A4 n4 c4, .slice A5 n5 c5, .string x6] 58 (0, 0))).cell? ⟨w.heap.size, 1, none⟩ = some (.int .i64 x1) := by rw [Go.Joins.cell_of_block (heap_alloc_new w _)]; rfl
  have k2 : (w.alloc (.cells #[.string x0, .int .i64 x1, .int .i64 x2, .slice A3 n3 c3, .slice A4 n4 c4, .slice A5 n5 c5, .string x6] 58 (0, 0))).cell? ⟨w.heap.size, 2, none⟩ = some (.int .i64 x2) := by rw [Go.Joins.cell_of_block (heap_alloc_new w _)]; rfl
  have k3 : (w.alloc (.cells #[.string x0, .int .i64 x1, .int .i64 x2, .slice A3 n3 c3, .slice A4 n4 c4, .slice A5 n5 c5, .string x6] 58 (0, 0))).cell? ⟨w.heap.size, 3, none⟩ = some (.slice A3 n3 c3) := by rw [Go.Joins.cell_of_block (heap_alloc_new w _)]; rfl
  have k4 : (w.alloc (.cells #[.string x0, .int .i64 x1, .int .i64 x2, .slice A3 n3 c3, .slice A4 n4 c4, .slice A5 n5 c5, .string x6] 58 (0, 0))).cell? ⟨w.heap.size, 4, none⟩ = some (.slice A4 n4 c4) := by rw [Go.Joins.cell_of_block (heap_alloc_new w _)]; rfl
  have k5 : (w.alloc (.cells #[.string x0, .int .i64 x1, .int .i64 x2, .slice A3 n3 c3, .slice A4 n4 c4, .slice A5 n5 c5, .string x6] 58 (0, 0))).cell? ⟨w.heap.size, 5, none⟩ = some (.slice A5 n5 c5) := by rw [Go.Joins.cell_of_block (heap_alloc_new w _)]; rfl
  have k6 : (w.alloc (.cells #[.string x0, .int .i64 x1, .int .i64 x2, .slice A3 n3 c3, .slice A4 n4 c4, .slice A5 n5 c5, .string x6] 58 (0, 0))).cell? ⟨w.heap.size, 6, none⟩ = some (.string x6) := by rw [Go.Joins.cell_of_block (heap_alloc_new w _)]; rfl
  have hsz0 : w.heap.size < (w.alloc (.cells #[.string x0, .int .i64 x1, .int .i64 x2, .slice A3 n3 c3, .slice A4 n4 c4, .slice A5 n5 c5, .string x6] 58 (0, 0))).heap.size := by simp
  have cN := Lib.hid (fun W => implIsName_any x0 true htn W hs0)
  replace htn := Lib.hid htn
  clear ho hp ha hm
  go_enter Tryz.func33, Tryz.ntmps33
  go_wp2_with fail
  refine (cN.out _).mono ?_
  rintro e w0 ⟨rfl, rfl⟩
  go_wp2_with fail
  go_ret
  exact ⟨rfl, hB0⟩

theorem implValidG_n4 (x0 : ByteArray) (x1 x2 : Int) (x3 : List (List Knot)) (x4 : List Part) (x5 : List Anch) (x6 : ByteArray) (A3 A4 A5 : Option Addr) (n3 c3 n4 c4 n5 c5 lo hi : Nat) (w : World) (ho : OutRd w lo hi A3 n3 x3) (hp : RdS 3 (FlatR partC) w lo hi A4 n4 x4) (ha : RdS 3 (FlatR anchC) w lo hi A5 n5 x5) (hhi : hi ≤ w.heap.size) (hm : Gl.small ⟨x0, x1, x2, x3, x4, x5, x6⟩ 1000000000) (hs0 : x0.size ≤ 9223372036854775807) (hs6 : x6.size ≤ 9223372036854775807) (htn : true = nameB x0) (b0 : -1 ≤ x1) (b1 : x1 ≤ 65535) (b2 : 0 ≤ x2) (hno : 262144 < x2) :
    Calls Tryz.prog 33 #[.agg #[.string x0, .int .i64 x1, .int .i64 x2, .slice A3 n3 c3, .slice A4 n4 c4, .slice A5 n5 c5, .string x6]] w fun e w' => e = .returned (.bool false) ∧ Below w.heap.size w w' := by
  have hB0 : Below w.heap.size w (w.alloc (.cells #[.string x0, .int .i64 x1, .int .i64 x2, .slice A3 n3 c3, .slice A4 n4 c4, .slice A5 n5 c5, .string x6] 58 (0, 0))) := Go.Joins.below_alloc1 _ _
  have k0 : (w.alloc (.cells #[.string x0, .int .i64 x1, .int .i64 x2, .slice A3 n3 c3, .slice A4 n4 c4, .slice A5 n5 c5, .string x6] 58 (0, 0))).cell? ⟨w.heap.size, 0, none⟩ = some (.string x0) := by rw [Go.Joins.cell_of_block (heap_alloc_new w _)]; rfl
  have k1 : (w.alloc (.cells #[.string x0, .int .i64 x1, .int .i64 x2, .slice A3 n3 c3, .slice A4 n4 c4, .slice A5 n5 c5, .string x6] 58 (0, 0))).cell? ⟨w.heap.size, 1, none⟩ = some (.int .i64 x1) := by rw [Go.Joins.cell_of_block (heap_alloc_new w _)]; rfl
  have k2 : (w.alloc (.cells #[.string x0, .int .i64 x1, .int .i64 x2, .slice A3 n3 c3, .slice A4 n4 c4, .slice A5 n5 c5, .string x6] 58 (0, 0))).cell? ⟨w.heap.size, 2, none⟩ = some (.int .i64 x2) := by rw [Go.Joins.cell_of_block (heap_alloc_new w _)]; rfl
  have k3 : (w.alloc (.cells #[.string x0, .int .i64 x1, .int .i64 x2, .slice A3 n3 c3, .slice A4 n4 c4, .slice A5 n5 c5, .string x6] 58 (0, 0))).cell? ⟨w.heap.size, 3, none⟩ = some (.slice A3 n3 c3) := by rw [Go.Joins.cell_of_block (heap_alloc_new w _)]; rfl
  have k4 : (w.alloc (.cells #[.string x0, .int .i64 x1, .int .i64 x2, .slice A3 n3 c3, .slice A4 n4 c4, .slice A5 n5 c5, .string x6] 58 (0, 0))).cell? ⟨w.heap.size, 4, none⟩ = some (.slice A4 n4 c4) := by rw [Go.Joins.cell_of_block (heap_alloc_new w _)]; rfl
  have k5 : (w.alloc (.cells #[.string x0, .int .i64 x1, .int .i64 x2, .slice A3 n3 c3, .slice A4 n4 c4, .slice A5 n5 c5, .string x6] 58 (0, 0))).cell? ⟨w.heap.size, 5, none⟩ = some (.slice A5 n5 c5) := by rw [Go.Joins.cell_of_block (heap_alloc_new w _)]; rfl
  have k6 : (w.alloc (.cells #[.string x0, .int .i64 x1, .int .i64 x2, .slice A3 n3 c3, .slice A4 n4 c4, .slice A5 n5 c5, .string x6] 58 (0, 0))).cell? ⟨w.heap.size, 6, none⟩ = some (.string x6) := by rw [Go.Joins.cell_of_block (heap_alloc_new w _)]; rfl
  have hsz0 : w.heap.size < (w.alloc (.cells #[.string x0, .int .i64 x1, .int .i64 x2, .slice A3 n3 c3, .slice A4 n4 c4, .slice A5 n5 c5, .string x6] 58 (0, 0))).heap.size := by simp
  have cN := Lib.hid (fun W => implIsName_any x0 true htn W hs0)
  replace htn := Lib.hid htn
  clear ho hp ha hm
  go_enter Tryz.func33, Tryz.ntmps33
  go_wp2_with fail
  refine (cN.out _).mono ?_
  rintro e w0 ⟨rfl, rfl⟩
  go_wp2_with fail
  go_ret
  exact ⟨rfl, hB0⟩

theorem implValidG_n5 (x0 : ByteArray) (x1 x2 : Int) (x3 : List (List Knot)) (x4 : List Part) (x5 : List Anch) (x6 : ByteArray) (A3 A4 A5 : Option Addr) (n3 c3 n4 c4 n5 c5 lo hi : Nat) (w : World) (ho : OutRd w lo hi A3 n3 x3) (hp : RdS 3 (FlatR partC) w lo hi A4 n4 x4) (ha : RdS 3 (FlatR anchC) w lo hi A5 n5 x5) (hhi : hi ≤ w.heap.size) (hm : Gl.small ⟨x0, x1, x2, x3, x4, x5, x6⟩ 1000000000) (hs0 : x0.size ≤ 9223372036854775807) (hs6 : x6.size ≤ 9223372036854775807) (htn : true = nameB x0) (b1 : -1 ≤ x1) (b2 : x1 ≤ 65535) (b3 : 0 ≤ x2) (b4 : x2 ≤ 262144) (hto : false = outOk x3) :
    Calls Tryz.prog 33 #[.agg #[.string x0, .int .i64 x1, .int .i64 x2, .slice A3 n3 c3, .slice A4 n4 c4, .slice A5 n5 c5, .string x6]] w fun e w' => e = .returned (.bool false) ∧ Below w.heap.size w w' := by
  have hB0 : Below w.heap.size w (w.alloc (.cells #[.string x0, .int .i64 x1, .int .i64 x2, .slice A3 n3 c3, .slice A4 n4 c4, .slice A5 n5 c5, .string x6] 58 (0, 0))) := Go.Joins.below_alloc1 _ _
  have k0 : (w.alloc (.cells #[.string x0, .int .i64 x1, .int .i64 x2, .slice A3 n3 c3, .slice A4 n4 c4, .slice A5 n5 c5, .string x6] 58 (0, 0))).cell? ⟨w.heap.size, 0, none⟩ = some (.string x0) := by rw [Go.Joins.cell_of_block (heap_alloc_new w _)]; rfl
  have k1 : (w.alloc (.cells #[.string x0, .int .i64 x1, .int .i64 x2, .slice A3 n3 c3, .slice A4 n4 c4, .slice A5 n5 c5, .string x6] 58 (0, 0))).cell? ⟨w.heap.size, 1, none⟩ = some (.int .i64 x1) := by rw [Go.Joins.cell_of_block (heap_alloc_new w _)]; rfl
  have k2 : (w.alloc (.cells #[.string x0, .int .i64 x1, .int .i64 x2, .slice A3 n3 c3, .slice A4 n4 c4, .slice A5 n5 c5, .string x6] 58 (0, 0))).cell? ⟨w.heap.size, 2, none⟩ = some (.int .i64 x2) := by rw [Go.Joins.cell_of_block (heap_alloc_new w _)]; rfl
  have k3 : (w.alloc (.cells #[.string x0, .int .i64 x1, .int .i64 x2, .slice A3 n3 c3, .slice A4 n4 c4, .slice A5 n5 c5, .string x6] 58 (0, 0))).cell? ⟨w.heap.size, 3, none⟩ = some (.slice A3 n3 c3) := by rw [Go.Joins.cell_of_block (heap_alloc_new w _)]; rfl
  have k4 : (w.alloc (.cells #[.string x0, .int .i64 x1, .int .i64 x2, .slice A3 n3 c3, .slice A4 n4 c4, .slice A5 n5 c5, .string x6] 58 (0, 0))).cell? ⟨w.heap.size, 4, none⟩ = some (.slice A4 n4 c4) := by rw [Go.Joins.cell_of_block (heap_alloc_new w _)]; rfl
  have k5 : (w.alloc (.cells #[.string x0, .int .i64 x1, .int .i64 x2, .slice A3 n3 c3, .slice A4 n4 c4, .slice A5 n5 c5, .string x6] 58 (0, 0))).cell? ⟨w.heap.size, 5, none⟩ = some (.slice A5 n5 c5) := by rw [Go.Joins.cell_of_block (heap_alloc_new w _)]; rfl
  have k6 : (w.alloc (.cells #[.string x0, .int .i64 x1, .int .i64 x2, .slice A3 n3 c3, .slice A4 n4 c4, .slice A5 n5 c5, .string x6] 58 (0, 0))).cell? ⟨w.heap.size, 6, none⟩ = some (.string x6) := by rw [Go.Joins.cell_of_block (heap_alloc_new w _)]; rfl
  have hsz0 : w.heap.size < (w.alloc (.cells #[.string x0, .int .i64 x1, .int .i64 x2, .slice A3 n3 c3, .slice A4 n4 c4, .slice A5 n5 c5, .string x6] 58 (0, 0))).heap.size := by simp
  have cN := Lib.hid (fun W => implIsName_any x0 true htn W hs0)
  have cO := Lib.hid (fun (W : World) (hB : Below w.heap.size w W) => validOutline_any A3 n3 c3 lo hi x3 false hto W (ho.frame good_loop (Below.sameB hB hhi)) (Nat.le_trans hhi hB.size) (hm.out ho.1).1 hm.k)
  replace htn := Lib.hid htn
  replace hto := Lib.hid hto
  clear ho hp ha hm
  go_enter Tryz.func33, Tryz.ntmps33
  go_wp2_with fail
  refine (cN.out _).mono ?_
  rintro e w0 ⟨rfl, rfl⟩
  go_wp2_with fail
  refine (cO.out _ hB0).mono ?_
  rintro e w1 ⟨rfl, hb1⟩
  have hB1 := hB0.trans (hb1.mono hB0.size)
  have K3 := (hb1.cell hsz0).trans k3
  have K4 := (hb1.cell hsz0).trans k4
  have K5 := (hb1.cell hsz0).trans k5
  have K6 := (hb1.cell hsz0).trans k6
  have hsz1 : w.heap.size < w1.heap.size := Nat.lt_of_lt_of_le hsz0 hb1.size
  clear k0 k1 k2 k3 k4 k5 k6 hb1
  go_wp2_with fail
  go_ret
  exact ⟨rfl, hB1⟩

theorem implValidG_n6 (x0 : ByteArray) (x1 x2 : Int) (x3 : List (List Knot)) (x4 : List Part) (x5 : List Anch) (x6 : ByteArray) (A3 A4 A5 : Option Addr) (n3 c3 n4 c4 n5 c5 lo hi : Nat) (w : World) (ho : OutRd w lo hi A3 n3 x3) (hp : RdS 3 (FlatR partC) w lo hi A4 n4 x4) (ha : RdS 3 (FlatR anchC) w lo hi A5 n5 x5) (hhi : hi ≤ w.heap.size) (hm : Gl.small ⟨x0, x1, x2, x3, x4, x5, x6⟩ 1000000000) (hs0 : x0.size ≤ 9223372036854775807) (hs6 : x6.size ≤ 9223372036854775807) (htn : true = nameB x0) (b1 : -1 ≤ x1) (b2 : x1 ≤ 65535) (b3 : 0 ≤ x2) (b4 : x2 ≤ 262144) (hto : true = outOk x3) (b5 : 0 < n4) (b5' : 0 < n3) :
    Calls Tryz.prog 33 #[.agg #[.string x0, .int .i64 x1, .int .i64 x2, .slice A3 n3 c3, .slice A4 n4 c4, .slice A5 n5 c5, .string x6]] w fun e w' => e = .returned (.bool false) ∧ Below w.heap.size w w' := by
  have g1 : (0 : Int) < (n4 : Int) := by omega
  have g2 : (0 : Int) < (n3 : Int) := by omega
  have hB0 : Below w.heap.size w (w.alloc (.cells #[.string x0, .int .i64 x1, .int .i64 x2, .slice A3 n3 c3, .slice A4 n4 c4, .slice A5 n5 c5, .string x6] 58 (0, 0))) := Go.Joins.below_alloc1 _ _
  have k0 : (w.alloc (.cells #[.string x0, .int .i64 x1, .int .i64 x2, .slice A3 n3 c3, .slice A4 n4 c4, .slice A5 n5 c5, .string x6] 58 (0, 0))).cell? ⟨w.heap.size, 0, none⟩ = some (.string x0) := by rw [Go.Joins.cell_of_block (heap_alloc_new w _)]; rfl
  have k1 : (w.alloc (.cells #[.string x0, .int .i64 x1, .int .i64 x2, .slice A3 n3 c3, .slice A4 n4 c4, .slice A5 n5 c5, .string x6] 58 (0, 0))).cell? ⟨w.heap.size, 1, none⟩ = some (.int .i64 x1) := by rw [Go.Joins.cell_of_block (heap_alloc_new w _)]; rfl
  have k2 : (w.alloc (.cells #[.string x0, .int .i64 x1, .int .i64 x2, .slice A3 n3 c3, .slice A4 n4 c4, .slice A5 n5 c5, .string x6] 58 (0, 0))).cell? ⟨w.heap.size, 2, none⟩ = some (.int .i64 x2) := by rw [Go.Joins.cell_of_block (heap_alloc_new w _)]; rfl
  have k3 : (w.alloc (.cells #[.string x0, .int .i64 x1, .int .i64 x2, .slice A3 n3 c3, .slice A4 n4 c4, .slice A5 n5 c5, .string x6] 58 (0, 0))).cell? ⟨w.heap.size, 3, none⟩ = some (.slice A3 n3 c3) := by rw [Go.Joins.cell_of_block (heap_alloc_new w _)]; rfl
  have k4 : (w.alloc (.cells #[.string x0, .int .i64 x1, .int .i64 x2, .slice A3 n3 c3, .slice A4 n4 c4, .slice A5 n5 c5, .string x6] 58 (0, 0))).cell? ⟨w.heap.size, 4, none⟩ = some (.slice A4 n4 c4) := by rw [Go.Joins.cell_of_block (heap_alloc_new w _)]; rfl
  have k5 : (w.alloc (.cells #[.string x0, .int .i64 x1, .int .i64 x2, .slice A3 n3 c3, .slice A4 n4 c4, .slice A5 n5 c5, .string x6] 58 (0, 0))).cell? ⟨w.heap.size, 5, none⟩ = some (.slice A5 n5 c5) := by rw [Go.Joins.cell_of_block (heap_alloc_new w _)]; rfl
  have k6 : (w.alloc (.cells #[.string x0, .int .i64 x1, .int .i64 x2, .slice A3 n3 c3, .slice A4 n4 c4, .slice A5 n5 c5, .string x6] 58 (0, 0))).cell? ⟨w.heap.size, 6, none⟩ = some (.string x6) := by rw [Go.Joins.cell_of_block (heap_alloc_new w _)]; rfl
  have hsz0 : w.heap.size < (w.alloc (.cells #[.string x0, .int .i64 x1, .int .i64 x2, .slice A3 n3 c3, .slice A4 n4 c4, .slice A5 n5 c5, .string x6] 58 (0, 0))).heap.size := by simp
  have cN := Lib.hid (fun W => implIsName_any x0 true htn W hs0)
  have cO := Lib.hid (fun (W : World) (hB : Below w.heap.size w W) => validOutline_any A3 n3 c3 lo hi x3 true hto W (ho.frame good_loop (Below.sameB hB hhi)) (Nat.le_trans hhi hB.size) (hm.out ho.1).1 hm.k)
  replace htn := Lib.hid htn
  replace hto := Lib.hid hto
  clear ho hp ha hm
  go_enter Tryz.func33, Tryz.ntmps33
  go_wp2_with fail
  refine (cN.out _).mono ?_
  rintro e w0 ⟨rfl, rfl⟩
  go_wp2_with fail
  refine (cO.out _ hB0).mono ?_
  rintro e w1 ⟨rfl, hb1⟩
  have hB1 := hB0.trans (hb1.mono hB0.size)
  have K3 := (hb1.cell hsz0).trans k3
  have K4 := (hb1.cell hsz0).trans k4
  have K5 := (hb1.cell hsz0).trans k5
  have K6 := (hb1.cell hsz0).trans k6
  have hsz1 : w.heap.size < w1.heap.size := Nat.lt_of_lt_of_le hsz0 hb1.size
  clear k0 k1 k2 k3 k4 k5 k6 hb1
  go_wp2_with fail
  go_ret
  exact ⟨rfl, hB1⟩

theorem implValidG_n7a (x0 : ByteArray) (x1 x2 : Int) (x3 : List (List Knot)) (x4 : List Part) (x5 : List Anch) (x6 : ByteArray) (A3 A4 A5 : Option Addr) (n3 c3 n4 c4 n5 c5 lo hi : Nat) (w : World) (ho : OutRd w lo hi A3 n3 x3) (hp : RdS 3 (FlatR partC) w lo hi A4 n4 x4) (ha : RdS 3 (FlatR anchC) w lo hi A5 n5 x5) (hhi : hi ≤ w.heap.size) (hm : Gl.small ⟨x0, x1, x2, x3, x4, x5, x6⟩ 1000000000) (hs0 : x0.size ≤ 9223372036854775807) (hs6 : x6.size ≤ 9223372036854775807) (htn : true = nameB x0) (b1 : -1 ≤ x1) (b2 : x1 ≤ 65535) (b3 : 0 ≤ x2) (b4 : x2 ≤ 262144) (hto : true = outOk x3) (b9 : 0 < n4) (b10 : ¬ 0 < n3)  (hno : 6 < n4) :
    Calls Tryz.prog 33 #[.agg #[.string x0, .int .i64 x1, .int .i64 x2, .slice A3 n3 c3, .slice A4 n4 c4, .slice A5 n5 c5, .string x6]] w fun e w' => e = .returned (.bool false) ∧ Below w.heap.size w w' := by
  have hB0 : Below w.heap.size w (w.alloc (.cells #[.string x0, .int .i64 x1, .int .i64 x2, .slice A3 n3 c3, .slice A4 n4 c4, .slice A5 n5 c5, .string x6] 58 (0, 0))) := Go.Joins.below_alloc1 _ _
  have k0 : (w.alloc (.cells #[.string x0, .int .i64 x1, .int .i64 x2, .slice A3 n3 c3, .slice A4 n4 c4, .slice A5 n5 c5, .string x6] 58 (0, 0))).cell? ⟨w.heap.size, 0, none⟩ = some (.string x0) := by rw [Go.Joins.cell_of_block (heap_alloc_new w _)]; rfl
  have k1 : (w.alloc (.cells #[.string x0, .int .i64 x1, .int .i64 x2, .slice A3 n3 c3, .slice A4 n4 c4, .slice A5 n5 c5, .string x6] 58 (0, 0))).cell? ⟨w.heap.size, 1, none⟩ = some (.int .i64 x1) := by rw [Go.Joins.cell_of_block (heap_alloc_new w _)]; rfl
  have k2 : (w.alloc (.cells #[.string x0, .int .i64 x1, .int .i64 x2, .slice A3 n3 c3, .slice A4 n4 c4, .slice A5 n5 c5, .string x6] 58 (0, 0))).cell? ⟨w.heap.size, 2, none⟩ = some (.int .i64 x2) := by rw [Go.Joins.cell_of_block (heap_alloc_new w _)]; rfl
  have k3 : (w.alloc (.cells #[.string x0, .int .i64 x1, .int .i64 x2, .slice A3 n3 c3, .slice A4 n4 c4, .slice A5 n5 c5, .string x6] 58 (0, 0))).cell? ⟨w.heap.size, 3, none⟩ = some (.slice A3 n3 c3) := by rw [Go.Joins.cell_of_block (heap_alloc_new w _)]; rfl
  have k4 : (w.alloc (.cells #[.string x0, .int .i64 x1, .int .i64 x2, .slice A3 n3 c3, .slice A4 n4 c4, .slice A5 n5 c5, .string x6] 58 (0, 0))).cell? ⟨w.heap.size, 4, none⟩ = some (.slice A4 n4 c4) := by rw [Go.Joins.cell_of_block (heap_alloc_new w _)]; rfl
  have k5 : (w.alloc (.cells #[.string x0, .int .i64 x1, .int .i64 x2, .slice A3 n3 c3, .slice A4 n4 c4, .slice A5 n5 c5, .string x6] 58 (0, 0))).cell? ⟨w.heap.size, 5, none⟩ = some (.slice A5 n5 c5) := by rw [Go.Joins.cell_of_block (heap_alloc_new w _)]; rfl
  have k6 : (w.alloc (.cells #[.string x0, .int .i64 x1, .int .i64 x2, .slice A3 n3 c3, .slice A4 n4 c4, .slice A5 n5 c5, .string x6] 58 (0, 0))).cell? ⟨w.heap.size, 6, none⟩ = some (.string x6) := by rw [Go.Joins.cell_of_block (heap_alloc_new w _)]; rfl
  have hsz0 : w.heap.size < (w.alloc (.cells #[.string x0, .int .i64 x1, .int .i64 x2, .slice A3 n3 c3, .slice A4 n4 c4, .slice A5 n5 c5, .string x6] 58 (0, 0))).heap.size := by simp
  have cN := Lib.hid (fun W => implIsName_any x0 true htn W hs0)
  have cO := Lib.hid (fun (W : World) (hB : Below w.heap.size w W) => validOutline_any A3 n3 c3 lo hi x3 true hto W (ho.frame good_loop (Below.sameB hB hhi)) (Nat.le_trans hhi hB.size) (hm.out ho.1).1 hm.k)
  replace htn := Lib.hid htn
  replace hto := Lib.hid hto
  clear ho hp ha hm
  go_enter Tryz.func33, Tryz.ntmps33
  go_wp2_with fail
  refine (cN.out _).mono ?_
  rintro e w0 ⟨rfl, rfl⟩
  go_wp2_with fail
  refine (cO.out _ hB0).mono ?_
  rintro e w1 ⟨rfl, hb1⟩
  have hB1 := hB0.trans (hb1.mono hB0.size)
  have K3 := (hb1.cell hsz0).trans k3
  have K4 := (hb1.cell hsz0).trans k4
  have K5 := (hb1.cell hsz0).trans k5
  have K6 := (hb1.cell hsz0).trans k6
  have hsz1 : w.heap.size < w1.heap.size := Nat.lt_of_lt_of_le hsz0 hb1.size
  clear k0 k1 k2 k3 k4 k5 k6 hb1
  go_wp2_with fail
  go_ret
  exact ⟨rfl, hB1⟩

theorem implValidG_n8a (x0 : ByteArray) (x1 x2 : Int) (x3 : List (List Knot)) (x4 : List Part) (x5 : List Anch) (x6 : ByteArray) (A3 A4 A5 : Option Addr) (n3 c3 n4 c4 n5 c5 lo hi : Nat) (w : World) (ho : OutRd w lo hi A3 n3 x3) (hp : RdS 3 (FlatR partC) w lo hi A4 n4 x4) (ha : RdS 3 (FlatR anchC) w lo hi A5 n5 x5) (hhi : hi ≤ w.heap.size) (hm : Gl.small ⟨x0, x1, x2, x3, x4, x5, x6⟩ 1000000000) (hs0 : x0.size ≤ 9223372036854775807) (hs6 : x6.size ≤ 9223372036854775807) (htn : true = nameB x0) (b1 : -1 ≤ x1) (b2 : x1 ≤ 65535) (b3 : 0 ≤ x2) (b4 : x2 ≤ 262144) (hto : true = outOk x3) (b9 : 0 < n4) (b10 : ¬ 0 < n3) (b6 : n4 ≤ 6) (hno : 6 < n5) :
    Calls Tryz.prog 33 #[.agg #[.string x0, .int .i64 x1, .int .i64 x2, .slice A3 n3 c3, .slice A4 n4 c4, .slice A5 n5 c5, .string x6]] w fun e w' => e = .returned (.bool false) ∧ Below w.heap.size w w' := by
  have hB0 : Below w.heap.size w (w.alloc (.cells #[.string x0, .int .i64 x1, .int .i64 x2, .slice A3 n3 c3, .slice A4 n4 c4, .slice A5 n5 c5, .string x6] 58 (0, 0))) := Go.Joins.below_alloc1 _ _
  have k0 : (w.alloc (.cells #[.string x0, .int .i64 x1, .int .i64 x2, .slice A3 n3 c3, .slice A4 n4 c4, .slice A5 n5 c5, .string x6] 58 (0, 0))).cell? ⟨w.heap.size, 0, none⟩ = some (.string x0) := by rw [Go.Joins.cell_of_block (heap_alloc_new w _)]; rfl
  have k1 : (w.alloc (.cells #[.string x0, .int .i64 x1, .int .i64 x2, .slice A3 n3 c3, .slice A4 n4 c4, .slice A5 n5 c5, .string x6] 58 (0, 0))).cell? ⟨w.heap.size, 1, none⟩ = some (.int .i64 x1) := by rw [Go.Joins.cell_of_block (heap_alloc_new w _)]; rfl
  have k2 : (w.alloc (.cells #[.string x0, .int .i64 x1, .int .i64 x2, .slice A3 n3 c3, .slice A4 n4 c4, .slice A5 n5 c5, .string x6] 58 (0, 0))).cell? ⟨w.heap.size, 2, none⟩ = some (.int .i64 x2) := by rw [Go.Joins.cell_of_block (heap_alloc_new w _)]; rfl
  have k3 : (w.alloc (.cells #[.string x0, .int .i64 x1, .int .i64 x2, .slice A3 n3 c3, .slice A4 n4 c4, .slice A5 n5 c5, .string x6] 58 (0, 0))).cell? ⟨w.heap.size, 3, none⟩ = some (.slice A3 n3 c3) := by rw [Go.Joins.cell_of_block (heap_alloc_new w _)]; rfl
  have k4 : (w.alloc (.cells #[.string x0, .int .i64 x1, .int .i64 x2, .slice A3 n3 c3, .slice A4 n4 c4, .slice A5 n5 c5, .string x6] 58 (0, 0))).cell? ⟨w.heap.size, 4, none⟩ = some (.slice A4 n4 c4) := by rw [Go.Joins.cell_of_block (heap_alloc_new w _)]; rfl
  have k5 : (w.alloc (.cells #[.string x0, .int .i64 x1, .int .i64 x2, .slice A3 n3 c3, .slice A4 n4 c4, .slice A5 n5 c5, .string x6] 58 (0, 0))).cell? ⟨w.heap.size, 5, none⟩ = some (.slice A5 n5 c5) := by rw [Go.Joins.cell_of_block (heap_alloc_new w _)]; rfl
  have k6 : (w.alloc (.cells #[.string x0, .int .i64 x1, .int .i64 x2, .slice A3 n3 c3, .slice A4 n4 c4, .slice A5 n5 c5, .string x6] 58 (0, 0))).cell? ⟨w.heap.size, 6, none⟩ = some (.string x6) := by rw [Go.Joins.cell_of_block (heap_alloc_new w _)]; rfl
  have hsz0 : w.heap.size < (w.alloc (.cells #[.string x0, .int .i64 x1, .int .i64 x2, .slice A3 n3 c3, .slice A4 n4 c4, .slice A5 n5 c5, .string x6] 58 (0, 0))).heap.size := by simp
  have cN := Lib.hid (fun W => implIsName_any x0 true htn W hs0)
  have cO := Lib.hid (fun (W : World) (hB : Below w.heap.size w W) => validOutline_any A3 n3 c3 lo hi x3 true hto W (ho.frame good_loop (Below.sameB hB hhi)) (Nat.le_trans hhi hB.size) (hm.out ho.1).1 hm.k)
  replace htn := Lib.hid htn
  replace hto := Lib.hid hto
  clear ho hp ha hm
  go_enter Tryz.func33, Tryz.ntmps33
  go_wp2_with fail
  refine (cN.out _).mono ?_
  rintro e w0 ⟨rfl, rfl⟩
  go_wp2_with fail
  refine (cO.out _ hB0).mono ?_
  rintro e w1 ⟨rfl, hb1⟩
  have hB1 := hB0.trans (hb1.mono hB0.size)
  have K3 := (hb1.cell hsz0).trans k3
  have K4 := (hb1.cell hsz0).trans k4
  have K5 := (hb1.cell hsz0).trans k5
  have K6 := (hb1.cell hsz0).trans k6
  have hsz1 : w.heap.size < w1.heap.size := Nat.lt_of_lt_of_le hsz0 hb1.size
  clear k0 k1 k2 k3 k4 k5 k6 hb1
  go_wp2_with fail
  go_ret
  exact ⟨rfl, hB1⟩

theorem implValidG_n8b (x0 : ByteArray) (x1 x2 : Int) (x3 : List (List Knot)) (x4 : List Part) (x5 : List Anch) (x6 : ByteArray) (A3 A4 A5 : Option Addr) (n3 c3 n4 c4 n5 c5 lo hi : Nat) (w : World) (ho : OutRd w lo hi A3 n3 x3) (hp : RdS 3 (FlatR partC) w lo hi A4 n4 x4) (ha : RdS 3 (FlatR anchC) w lo hi A5 n5 x5) (hhi : hi ≤ w.heap.size) (hm : Gl.small ⟨x0, x1, x2, x3, x4, x5, x6⟩ 1000000000) (hs0 : x0.size ≤ 9223372036854775807) (hs6 : x6.size ≤ 9223372036854775807) (htn : true = nameB x0) (b1 : -1 ≤ x1) (b2 : x1 ≤ 65535) (b3 : 0 ≤ x2) (b4 : x2 ≤ 262144) (hto : true = outOk x3) (b9 : ¬ 0 < n4) (b10 : 0 < n3) (b6 : n4 ≤ 6) (hno : 6 < n5) :
    Calls Tryz.prog 33 #[.agg #[.string x0, .int .i64 x1, .int .i64 x2, .slice A3 n3 c3, .slice A4 n4 c4, .slice A5 n5 c5, .string x6]] w fun e w' => e = .returned (.bool false) ∧ Below w.heap.size w w' := by
  have hB0 : Below w.heap.size w (w.alloc (.cells #[.string x0, .int .i64 x1, .int .i64 x2, .slice A3 n3 c3, .slice A4 n4 c4, .slice A5 n5 c5, .string x6] 58 (0, 0))) := Go.Joins.below_alloc1 _ _
  have k0 : (w.alloc (.cells #[.string x0, .int .i64 x1, .int .i64 x2, .slice A3 n3 c3, .slice A4 n4 c4, .slice A5 n5 c5, .string x6] 58 (0, 0))).cell? ⟨w.heap.size, 0, none⟩ = some (.string x0) := by rw [Go.Joins.cell_of_block (heap_alloc_new w _)]; rfl
  have k1 : (w.alloc (.cells #[.string x0, .int .i64 x1, .int .i64 x2, .slice A3 n3 c3, .slice A4 n4 c4, .slice A5 n5 c5, .string x6] 58 (0, 0))).cell? ⟨w.heap.size, 1, none⟩ = some (.int .i64 x1) := by rw [Go.Joins.cell_of_block (heap_alloc_new w _)]; rfl
  have k2 : (w.alloc (.cells #[.string x0, .int .i64 x1, .int .i64 x2, .slice A3 n3 c3, .slice A4 n4 c4, .slice A5 n5 c5, .string x6] 58 (0, 0))).cell? ⟨w.heap.size, 2, none⟩ = some (.int .i64 x2) := by rw [Go.Joins.cell_of_block (heap_alloc_new w _)]; rfl
  have k3 : (w.alloc (.cells #[.string x0, .int .i64 x1, .int .i64 x2, .slice A3 n3 c3, .slice A4 n4 c4, .slice A5 n5 c5, .string x6] 58 (0, 0))).cell? ⟨w.heap.size, 3, none⟩ = some (.slice A3 n3 c3) := by rw [Go.Joins.cell_of_block (heap_alloc_new w _)]; rfl
  have k4 : (w.alloc (.cells #[.string x0, .int .i64 x1, .int .i64 x2, .slice A3 n3 c3, .slice A4 n4 c4, .slice A5 n5 c5, .string x6] 58 (0, 0))).cell? ⟨w.heap.size, 4, none⟩ = some (.slice A4 n4 c4) := by rw [Go.Joins.cell_of_block (heap_alloc_new w _)]; rfl
  have k5 : (w.alloc (.cells #[.string x0, .int .i64 x1, .int .i64 x2, .slice A3 n3 c3, .slice A4 n4 c4, .slice A5 n5 c5, .string x6] 58 (0, 0))).cell? ⟨w.heap.size, 5, none⟩ = some (.slice A5 n5 c5) := by rw [Go.Joins.cell_of_block (heap_alloc_new w _)]; rfl
  have k6 : (w.alloc (.cells #[.string x0, .int .i64 x1, .int .i64 x2, .slice A3 n3 c3, .slice A4 n4 c4, .slice A5 n5 c5, .string x6] 58 (0, 0))).cell? ⟨w.heap.size, 6, none⟩ = some (.string x6) := by rw [Go.Joins.cell_of_block (heap_alloc_new w _)]; rfl
  have hsz0 : w.heap.size < (w.alloc (.cells #[.string x0, .int .i64 x1, .int .i64 x2, .slice A3 n3 c3, .slice A4 n4 c4, .slice A5 n5 c5, .string x6] 58 (0, 0))).heap.size := by simp
  have cN := Lib.hid (fun W => implIsName_any x0 true htn W hs0)
  have cO := Lib.hid (fun (W : World) (hB : Below w.heap.size w W) => validOutline_any A3 n3 c3 lo hi x3 true hto W (ho.frame good_loop (Below.sameB hB hhi)) (Nat.le_trans hhi hB.size) (hm.out ho.1).1 hm.k)
  replace htn := Lib.hid htn
  replace hto := Lib.hid hto
  clear ho hp ha hm
  go_enter Tryz.func33, Tryz.ntmps33
  go_wp2_with fail
  refine (cN.out _).mono ?_
  rintro e w0 ⟨rfl, rfl⟩
  go_wp2_with fail
  refine (cO.out _ hB0).mono ?_
  rintro e w1 ⟨rfl, hb1⟩
  have hB1 := hB0.trans (hb1.mono hB0.size)
  have K3 := (hb1.cell hsz0).trans k3
  have K4 := (hb1.cell hsz0).trans k4
  have K5 := (hb1.cell hsz0).trans k5
  have K6 := (hb1.cell hsz0).trans k6
  have hsz1 : w.heap.size < w1.heap.size := Nat.lt_of_lt_of_le hsz0 hb1.size
  clear k0 k1 k2 k3 k4 k5 k6 hb1
  go_wp2_with fail
  go_ret
  exact ⟨rfl, hB1⟩

theorem implValidG_n8c (x0 : ByteArray) (x1 x2 : Int) (x3 : List (List Knot)) (x4 : List Part) (x5 : List Anch) (x6 : ByteArray) (A3 A4 A5 : Option Addr) (n3 c3 n4 c4 n5 c5 lo hi : Nat) (w : World) (ho : OutRd w lo hi A3 n3 x3) (hp : RdS 3 (FlatR partC) w lo hi A4 n4 x4) (ha : RdS 3 (FlatR anchC) w lo hi A5 n5 x5) (hhi : hi ≤ w.heap.size) (hm : Gl.small ⟨x0, x1, x2, x3, x4, x5, x6⟩ 1000000000) (hs0 : x0.size ≤ 9223372036854775807) (hs6 : x6.size ≤ 9223372036854775807) (htn : true = nameB x0) (b1 : -1 ≤ x1) (b2 : x1 ≤ 65535) (b3 : 0 ≤ x2) (b4 : x2 ≤ 262144) (hto : true = outOk x3) (b9 : ¬ 0 < n4) (b10 : ¬ 0 < n3) (b6 : n4 ≤ 6) (hno : 6 < n5) :
    Calls Tryz.prog 33 #[.agg #[.string x0, .int .i64 x1, .int .i64 x2, .slice A3 n3 c3, .slice A4 n4 c4, .slice A5 n5 c5, .string x6]] w fun e w' => e = .returned (.bool false) ∧ Below w.heap.size w w' := by
  have hB0 : Below w.heap.size w (w.alloc (.cells #[.string x0, .int .i64 x1, .int .i64 x2, .slice A3 n3 c3, .slice A4 n4 c4, .slice A5 n5 c5, .string x6] 58 (0, 0))) := Go.Joins.below_alloc1 _ _
  have k0 : (w.alloc (.cells #[.string x0, .int .i64 x1, .int .i64 x2, .slice A3 n3 c3, .slice A4 n4 c4, .slice A5 n5 c5, .string x6] 58 (0, 0))).cell? ⟨w.heap.size, 0, none⟩ = some (.string x0) := by rw [Go.Joins.cell_of_block (heap_alloc_new w _)]; rfl
  have k1 : (w.alloc (.cells #[.string x0, .int .i64 x1, .int .i64 x2, .slice A3 n3 c3, .slice A4 n4 c4, .slice A5 n5 c5, .string x6] 58 (0, 0))).cell? ⟨w.heap.size, 1, none⟩ = some (.int .i64 x1) := by rw [Go.Joins.cell_of_block (heap_alloc_new w _)]; rfl
  have k2 : (w.alloc (.cells #[.string x0, .int .i64 x1, .int .i64 x2, .slice A3 n3 c3, .slice A4 n4 c4, .slice A5 n5 c5, .string x6] 58 (0, 0))).cell? ⟨w.heap.size, 2, none⟩ = some (.int .i64 x2) := by rw [Go.Joins.cell_of_block (heap_alloc_new w _)]; rfl
  have k3 : (w.alloc (.cells #[.string x0, .int .i64 x1, .int .i64 x2, .slice A3 n3 c3, .slice A4 n4 c4, .slice A5 n5 c5, .string x6] 58 (0, 0))).cell? ⟨w.heap.size, 3, none⟩ = some (.slice A3 n3 c3) := by rw [Go.Joins.cell_of_block (heap_alloc_new w _)]; rfl
  have k4 : (w.alloc (.cells #[.string x0, .int .i64 x1, .int .i64 x2, .slice A3 n3 c3, .slice A4 n4 c4, .slice A5 n5 c5, .string x6] 58 (0, 0))).cell? ⟨w.heap.size, 4, none⟩ = some (.slice A4 n4 c4) := by rw [Go.Joins.cell_of_block (heap_alloc_new w _)]; rfl
  have k5 : (w.alloc (.cells #[.string x0, .int .i64 x1, .int .i64 x2, .slice A3 n3 c3, .slice A4 n4 c4, .slice A5 n5 c5, .string x6] 58 (0, 0))).cell? ⟨w.heap.size, 5, none⟩ = some (.slice A5 n5 c5) := by rw [Go.Joins.cell_of_block (heap_alloc_new w _)]; rfl
  have k6 : (w.alloc (.cells #[.string x0, .int .i64 x1, .int .i64 x2, .slice A3 n3 c3, .slice A4 n4 c4, .slice A5 n5 c5, .string x6] 58 (0, 0))).cell? ⟨w.heap.size, 6, none⟩ = some (.string x6) := by rw [Go.Joins.cell_of_block (heap_alloc_new w _)]; rfl
  have hsz0 : w.heap.size < (w.alloc (.cells #[.string x0, .int .i64 x1, .int .i64 x2, .slice A3 n3 c3, .slice A4 n4 c4, .slice A5 n5 c5, .string x6] 58 (0, 0))).heap.size := by simp
  have cN := Lib.hid (fun W => implIsName_any x0 true htn W hs0)
  have cO := Lib.hid (fun (W : World) (hB : Below w.heap.size w W) => validOutline_any A3 n3 c3 lo hi x3 true hto W (ho.frame good_loop (Below.sameB hB hhi)) (Nat.le_trans hhi hB.size) (hm.out ho.1).1 hm.k)
  replace htn := Lib.hid htn
  replace hto := Lib.hid hto
  clear ho hp ha hm
  go_enter Tryz.func33, Tryz.ntmps33
  go_wp2_with fail
  refine (cN.out _).mono ?_
  rintro e w0 ⟨rfl, rfl⟩
  go_wp2_with fail
  refine (cO.out _ hB0).mono ?_
  rintro e w1 ⟨rfl, hb1⟩
  have hB1 := hB0.trans (hb1.mono hB0.size)
  have K3 := (hb1.cell hsz0).trans k3
  have K4 := (hb1.cell hsz0).trans k4
  have K5 := (hb1.cell hsz0).trans k5
  have K6 := (hb1.cell hsz0).trans k6
  have hsz1 : w.heap.size < w1.heap.size := Nat.lt_of_lt_of_le hsz0 hb1.size
  clear k0 k1 k2 k3 k4 k5 k6 hb1
  go_wp2_with fail
  go_ret
  exact ⟨rfl, hB1⟩

theorem implValidG_n9a (x0 : ByteArray) (x1 x2 : Int) (x3 : List (List Knot)) (x4 : List Part) (x5 : List Anch) (x6 : ByteArray) (A3 A4 A5 : Option Addr) (n3 c3 n4 c4 n5 c5 lo hi : Nat) (w : World) (ho : OutRd w lo hi A3 n3 x3) (hp : RdS 3 (FlatR partC) w lo hi A4 n4 x4) (ha : RdS 3 (FlatR anchC) w lo hi A5 n5 x5) (hhi : hi ≤ w.heap.size) (hm : Gl.small ⟨x0, x1, x2, x3, x4, x5, x6⟩ 1000000000) (hs0 : x0.size ≤ 9223372036854775807) (hs6 : x6.size ≤ 9223372036854775807) (htn : true = nameB x0) (b1 : -1 ≤ x1) (b2 : x1 ≤ 65535) (b3 : 0 ≤ x2) (b4 : x2 ≤ 262144) (hto : true = outOk x3) (b9 : 0 < n4) (b10 : ¬ 0 < n3) (b6 : n4 ≤ 6) (b7 : n5 ≤ 6) (hno : 400 < x6.size) :
    Calls Tryz.prog 33 #[.agg #[.string x0, .int .i64 x1, .int .i64 x2, .slice A3 n3 c3, .slice A4 n4 c4, .slice A5 n5 c5, .string x6]] w fun e w' => e = .returned (.bool false) ∧ Below w.heap.size w w' := by
  have hB0 : Below w.heap.size w (w.alloc (.cells #[.string x0, .int .i64 x1, .int .i64 x2, .slice A3 n3 c3, .slice A4 n4 c4, .slice A5 n5 c5, .string x6] 58 (0, 0))) := Go.Joins.below_alloc1 _ _
  have k0 : (w.alloc (.cells #[.string x0, .int .i64 x1, .int .i64 x2, .slice A3 n3 c3, .slice A4 n4 c4, .slice A5 n5 c5, .string x6] 58 (0, 0))).cell? ⟨w.heap.size, 0, none⟩ = some (.string x0) := by rw [Go.Joins.cell_of_block (heap_alloc_new w _)]; rfl
  have k1 : (w.alloc (.cells #[.string x0, .int .i64 x1, .int .i64 x2, .slice A3 n3 c3, .slice A4 n4 c4, .slice A5 n5 c5, .string x6] 58 (0, 0))).cell? ⟨w.heap.size, 1, none⟩ = some (.int .i64 x1) := by rw [Go.Joins.cell_of_block (heap_alloc_new w _)]; rfl
  have k2 : (w.alloc (.cells #[.string x0, .int .i64 x1, .int .i64 x2, .slice A3 n3 c3, .slice A4 n4 c4, .slice A5 n5 c5, .string x6] 58 (0, 0))).cell? ⟨w.heap.size, 2, none⟩ = some (.int .i64 x2) := by rw [Go.Joins.cell_of_block (heap_alloc_new w _)]; rfl
  have k3 : (w.alloc (.cells #[.string x0, .int .i64 x1, .int .i64 x2, .slice A3 n3 c3, .slice A4 n4 c4, .slice A5 n5 c5, .string x6] 58 (0, 0))).cell? ⟨w.heap.size, 3, none⟩ = some (.slice A3 n3 c3) := by rw [Go.Joins.cell_of_block (heap_alloc_new w _)]; rfl
  have k4 : (w.alloc (.cells #[.string x0, .int .i64 x1, .int .i64 x2, .slice A3 n3 c3, .slice A4 n4 c4, .slice A5 n5 c5, .string x6] 58 (0, 0))).cell? ⟨w.heap.size, 4, none⟩ = some (.slice A4 n4 c4) := by rw [Go.Joins.cell_of_block (heap_alloc_new w _)]; rfl
  have k5 : (w.alloc (.cells #[.string x0, .int .i64 x1, .int .i64 x2, .slice A3 n3 c3, .slice A4 n4 c4, .slice A5 n5 c5, .string x6] 58 (0, 0))).cell? ⟨w.heap.size, 5, none⟩ = some (.slice A5 n5 c5) := by rw [Go.Joins.cell_of_block (heap_alloc_new w _)]; rfl
  have k6 : (w.alloc (.cells #[.string x0, .int .i64 x1, .int .i64 x2, .slice A3 n3 c3, .slice A4 n4 c4, .slice A5 n5 c5, .string x6] 58 (0, 0))).cell? ⟨w.heap.size, 6, none⟩ = some (.string x6) := by rw [Go.Joins.cell_of_block (heap_alloc_new w _)]; rfl
  have hsz0 : w.heap.size < (w.alloc (.cells #[.string x0, .int .i64 x1, .int .i64 x2, .slice A3 n3 c3, .slice A4 n4 c4, .slice A5 n5 c5, .string x6] 58 (0, 0))).heap.size := by simp
  have cN := Lib.hid (fun W => implIsName_any x0 true htn W hs0)
  have cO := Lib.hid (fun (W : World) (hB : Below w.heap.size w W) => validOutline_any A3 n3 c3 lo hi x3 true hto W (ho.frame good_loop (Below.sameB hB hhi)) (Nat.le_trans hhi hB.size) (hm.out ho.1).1 hm.k)
  replace htn := Lib.hid htn
  replace hto := Lib.hid hto
  clear ho hp ha hm
  go_enter Tryz.func33, Tryz.ntmps33
  go_wp2_with fail
  refine (cN.out _).mono ?_
  rintro e w0 ⟨rfl, rfl⟩
  go_wp2_with fail
  refine (cO.out _ hB0).mono ?_
  rintro e w1 ⟨rfl, hb1⟩
  have hB1 := hB0.trans (hb1.mono hB0.size)
  have K3 := (hb1.cell hsz0).trans k3
  have K4 := (hb1.cell hsz0).trans k4
  have K5 := (hb1.cell hsz0).trans k5
  have K6 := (hb1.cell hsz0).trans k6
  have hsz1 : w.heap.size < w1.heap.size := Nat.lt_of_lt_of_le hsz0 hb1.size
  clear k0 k1 k2 k3 k4 k5 k6 hb1
  go_wp2_with fail
  go_ret
  exact ⟨rfl, hB1⟩

theorem implValidG_n9b (x0 : ByteArray) (x1 x2 : Int) (x3 : List (List Knot)) (x4 : List Part) (x5 : List Anch) (x6 : ByteArray) (A3 A4 A5 : Option Addr) (n3 c3 n4 c4 n5 c5 lo hi : Nat) (w : World) (ho : OutRd w lo hi A3 n3 x3) (hp : RdS 3 (FlatR partC) w lo hi A4 n4 x4) (ha : RdS 3 (FlatR anchC) w lo hi A5 n5 x5) (hhi : hi ≤ w.heap.size) (hm : Gl.small ⟨x0, x1, x2, x3, x4, x5, x6⟩ 1000000000) (hs0 : x0.size ≤ 9223372036854775807) (hs6 : x6.size ≤ 9223372036854775807) (htn : true = nameB x0) (b1 : -1 ≤ x1) (b2 : x1 ≤ 65535) (b3 : 0 ≤ x2) (b4 : x2 ≤ 262144) (hto : true = outOk x3) (b9 : ¬ 0 < n4) (b10 : 0 < n3) (b6 : n4 ≤ 6) (b7 : n5 ≤ 6) (hno : 400 < x6.size) :
    Calls Tryz.prog 33 #[.agg #[.string x0, .int .i64 x1, .int .i64 x2, .slice A3 n3 c3, .slice A4 n4 c4, .slice A5 n5 c5, .string x6]] w fun e w' => e = .returned (.bool false) ∧ Below w.heap.size w w' := by
  have hB0 : Below w.heap.size w (w.alloc (.cells #[.string x0, .int .i64 x1, .int .i64 x2, .slice A3 n3 c3, .slice A4 n4 c4, .slice A5 n5 c5, .string x6] 58 (0, 0))) := Go.Joins.below_alloc1 _ _
  have k0 : (w.alloc (.cells #[.string x0, .int .i64 x1, .int .i64 x2, .slice A3 n3 c3, .slice A4 n4 c4, .slice A5 n5 c5, .string x6] 58 (0, 0))).cell? ⟨w.heap.size, 0, none⟩ = some (.string x0) := by rw [Go.Joins.cell_of_block (heap_alloc_new w _)]; rfl
  have k1 : (w.alloc (.cells #[.string x0, .int .i64 x1, .int .i64 x2, .slice A3 n3 c3, .slice A4 n4 c4, .slice A5 n5 c5, .string x6] 58 (0, 0))).cell? ⟨w.heap.size, 1, none⟩ = some (.int .i64 x1) := by rw [Go.Joins.cell_of_block (heap_alloc_new w _)]; rfl
  have k2 : (w.alloc (.cells #[.string x0, .int .i64 x1, .int .i64 x2, .slice A3 n3 c3, .slice A4 n4 c4, .slice A5 n5 c5, .string x6] 58 (0, 0))).cell? ⟨w.heap.size, 2, none⟩ = some (.int .i64 x2) := by rw [Go.Joins.cell_of_block (heap_alloc_new w _)]; rfl
  have k3 : (w.alloc (.cells #[.string x0, .int .i64 x1, .int .i64 x2, .slice A3 n3 c3, .slice A4 n4 c4, .slice A5 n5 c5, .string x6] 58 (0, 0))).cell? ⟨w.heap.size, 3, none⟩ = some (.slice A3 n3 c3) := by rw [Go.Joins.cell_of_block (heap_alloc_new w _)]; rfl
  have k4 : (w.alloc (.cells #[.string x0, .int .i64 x1, .int .i64 x2, .slice A3 n3 c3, .slice A4 n4 c4, .slice A5 n5 c5, .string x6] 58 (0, 0))).cell? ⟨w.heap.size, 4, none⟩ = some (.slice A4 n4 c4) := by rw [Go.Joins.cell_of_block (heap_alloc_new w _)]; rfl
  have k5 : (w.alloc (.cells #[.string x0, .int .i64 x1, .int .i64 x2, .slice A3 n3 c3, .slice A4 n4 c4, .slice A5 n5 c5, .string x6] 58 (0, 0))).cell? ⟨w.heap.size, 5, none⟩ = some (.slice A5 n5 c5) := by rw [Go.Joins.cell_of_block (heap_alloc_new w _)]; rfl
  have k6 : (w.alloc (.cells #[.string x0, .int .i64 x1, .int .i64 x2, .slice A3 n3 c3, .slice A4 n4 c4, .slice A5 n5 c5, .string x6] 58 (0, 0))).cell? ⟨w.heap.size, 6, none⟩ = some (.string x6) := by rw [Go.Joins.cell_of_block (heap_alloc_new w _)]; rfl
  have hsz0 : w.heap.size < (w.alloc (.cells #[.string x0, .int .i64 x1, .int .i64 x2, .slice A3 n3 c3, .slice A4 n4 c4, .slice A5 n5 c5, .string x6] 58 (0, 0))).heap.size := by simp
  have cN := Lib.hid (fun W => implIsName_any x0 true htn W hs0)
  have cO := Lib.hid (fun (W : World) (hB : Below w.heap.size w W) => validOutline_any A3 n3 c3 lo hi x3 true hto W (ho.frame good_loop (Below.sameB hB hhi)) (Nat.le_trans hhi hB.size) (hm.out ho.1).1 hm.k)
  replace htn := Lib.hid htn
  replace hto := Lib.hid hto
  clear ho hp ha hm
  go_enter Tryz.func33, Tryz.ntmps33
  go_wp2_with fail
  refine (cN.out _).mono ?_
  rintro e w0 ⟨rfl, rfl⟩
  go_wp2_with fail
  refine (cO.out _ hB0).mono ?_
  rintro e w1 ⟨rfl, hb1⟩
  have hB1 := hB0.trans (hb1.mono hB0.size)
  have K3 := (hb1.cell hsz0).trans k3
  have K4 := (hb1.cell hsz0).trans k4
  have K5 := (hb1.cell hsz0).trans k5
  have K6 := (hb1.cell hsz0).trans k6
  have hsz1 : w.heap.size < w1.heap.size := Nat.lt_of_lt_of_le hsz0 hb1.size
  clear k0 k1 k2 k3 k4 k5 k6 hb1
  go_wp2_with fail
  go_ret
  exact ⟨rfl, hB1⟩

theorem implValidG_n9c (x0 : ByteArray) (x1 x2 : Int) (x3 : List (List Knot)) (x4 : List Part) (x5 : List Anch) (x6 : ByteArray) (A3 A4 A5 : Option Addr) (n3 c3 n4 c4 n5 c5 lo hi : Nat) (w : World) (ho : OutRd w lo hi A3 n3 x3) (hp : RdS 3 (FlatR partC) w lo hi A4 n4 x4) (ha : RdS 3 (FlatR anchC) w lo hi A5 n5 x5) (hhi : hi ≤ w.heap.size) (hm : Gl.small ⟨x0, x1, x2, x3, x4, x5, x6⟩ 1000000000) (hs0 : x0.size ≤ 9223372036854775807) (hs6 : x6.size ≤ 9223372036854775807) (htn : true = nameB x0) (b1 : -1 ≤ x1) (b2 : x1 ≤ 65535) (b3 : 0 ≤ x2) (b4 : x2 ≤ 262144) (hto : true = outOk x3) (b9 : ¬ 0 < n4) (b10 : ¬ 0 < n3) (b6 : n4 ≤ 6) (b7 : n5 ≤ 6) (hno : 400 < x6.size) :
    Calls Tryz.prog 33 #[.agg #[.string x0, .int .i64 x1, .int .i64 x2, .slice A3 n3 c3, .slice A4 n4 c4, .slice A5 n5 c5, .string x6]] w fun e w' => e = .returned (.bool false) ∧ Below w.heap.size w w' := by
  have hB0 : Below w.heap.size w (w.alloc (.cells #[.string x0, .int .i64 x1, .int .i64 x2, .slice A3 n3 c3, .slice A4 n4 c4, .slice A5 n5 c5, .string x6] 58 (0, 0))) := Go.Joins.below_alloc1 _ _
  have k0 : (w.alloc (.cells #[.string x0, .int .i64 x1, .int .i64 x2, .slice A3 n3 c3, .slice A4 n4 c4, .slice A5 n5 c5, .string x6] 58 (0, 0))).cell? ⟨w.heap.size, 0, none⟩ = some (.string x0) := by rw [Go.Joins.cell_of_block (heap_alloc_new w _)]; rfl
  have k1 : (w.alloc (.cells #[.string x0, .int .i64 x1, .int .i64 x2, .slice A3 n3 c3, .slice A4 n4 c4, .slice A5 n5 c5, .string x6] 58 (0, 0))).cell? ⟨w.heap.size, 1, none⟩ = some (.int .i64 x1) := by rw [Go.Joins.cell_of_block (heap_alloc_new w _)]; rfl
  have k2 : (w.alloc (.cells #[.string x0, .int .i64 x1, .int .i64 x2, .slice A3 n3 c3, .slice A4 n4 c4, .slice A5 n5 c5, .string x6] 58 (0, 0))).cell? ⟨w.heap.size, 2, none⟩ = some (.int .i64 x2) := by rw [Go.Joins.cell_of_block (heap_alloc_new w _)]; rfl
  have k3 : (w.alloc (.cells #[.string x0, .int .i64 x1, .int .i64 x2, .slice A3 n3 c3, .slice A4 n4 c4, .slice A5 n5 c5, .string x6] 58 (0, 0))).cell? ⟨w.heap.size, 3, none⟩ = some (.slice A3 n3 c3) := by rw [Go.Joins.cell_of_block (heap_alloc_new w _)]; rfl
  have k4 : (w.alloc (.cells #[.string x0, .int .i64 x1, .int .i64 x2, .slice A3 n3 c3, .slice A4 n4 c4, .slice A5 n5 c5, .string x6] 58 (0, 0))).cell? ⟨w.heap.size, 4, none⟩ = some (.slice A4 n4 c4) := by rw [Go.Joins.cell_of_block (heap_alloc_new w _)]; rfl
  have k5 : (w.alloc (.cells #[.string x0, .int .i64 x1, .int .i64 x2, .slice A3 n3 c3, .slice A4 n4 c4, .slice A5 n5 c5, .string x6] 58 (0, 0))).cell? ⟨w.heap.size, 5, none⟩ = some (.slice A5 n5 c5) := by rw [Go.Joins.cell_of_block (heap_alloc_new w _)]; rfl
  have k6 : (w.alloc (.cells #[.string x0, .int .i64 x1, .int .i64 x2, .slice A3 n3 c3, .slice A4 n4 c4, .slice A5 n5 c5, .string x6] 58 (0, 0))).cell? ⟨w.heap.size, 6, none⟩ = some (.string x6) := by rw [Go.Joins.cell_of_block (heap_alloc_new w _)]; rfl
  have hsz0 : w.heap.size < (w.alloc (.cells #[.string x0, .int .i64 x1, .int .i64 x2, .slice A3 n3 c3, .slice A4 n4 c4, .slice A5 n5 c5, .string x6] 58 (0, 0))).heap.size := by simp
  have cN := Lib.hid (fun W => implIsName_any x0 true htn W hs0)
  have cO := Lib.hid (fun (W : World) (hB : Below w.heap.size w W) => validOutline_any A3 n3 c3 lo hi x3 true hto W (ho.frame good_loop (Below.sameB hB hhi)) (Nat.le_trans hhi hB.size) (hm.out ho.1).1 hm.k)
  replace htn := Lib.hid htn
  replace hto := Lib.hid hto
  clear ho hp ha hm
  go_enter Tryz.func33, Tryz.ntmps33
  go_wp2_with fail
  refine (cN.out _).mono ?_
  rintro e w0 ⟨rfl, rfl⟩
  go_wp2_with fail
  refine (cO.out _ hB0).mono ?_
  rintro e w1 ⟨rfl, hb1⟩
  have hB1 := hB0.trans (hb1.mono hB0.size)
  have K3 := (hb1.cell hsz0).trans k3
  have K4 := (hb1.cell hsz0).trans k4
  have K5 := (hb1.cell hsz0).trans k5
  have K6 := (hb1.cell hsz0).trans k6
  have hsz1 : w.heap.size < w1.heap.size := Nat.lt_of_lt_of_le hsz0 hb1.size
  clear k0 k1 k2 k3 k4 k5 k6 hb1
  go_wp2_with fail
  go_ret
  exact ⟨rfl, hB1⟩

set_option maxHeartbeats 8000000 in
theorem implValidG_la (x0 : ByteArray) (x1 x2 : Int) (x3 : List (List Knot)) (x4 : List Part) (x5 : List Anch) (x6 : ByteArray) (A3 A4 A5 : Option Addr) (n3 c3 n4 c4 n5 c5 lo hi : Nat) (w : World) (ho : OutRd w lo hi A3 n3 x3) (hp : RdS 3 (FlatR partC) w lo hi A4 n4 x4) (ha : RdS 3 (FlatR anchC) w lo hi A5 n5 x5) (hhi : hi ≤ w.heap.size) (hm : Gl.small ⟨x0, x1, x2, x3, x4, x5, x6⟩ 1000000000) (hs0 : x0.size ≤ 9223372036854775807) (hs6 : x6.size ≤ 9223372036854775807) (hs5 : ∀ a ∈ x5, a.1.size ≤ 9223372036854775807) (hcap : n5 ≤ c5) (v : Bool) (hv : v = glyphOk (⟨x0, x1, x2, x3, x4, x5, x6⟩ : Gl)) (htn : true = nameB x0) (b1 : -1 ≤ x1) (b2 : x1 ≤ 65535) (b3 : 0 ≤ x2) (b4 : x2 ≤ 262144) (hto : true = outOk x3) (b9 : 0 < n4) (b10 : ¬ 0 < n3) (b6 : n4 ≤ 6) (b7 : n5 ≤ 6) (b8 : x6.size ≤ 400) :
    Calls Tryz.prog 33 #[.agg #[.string x0, .int .i64 x1, .int .i64 x2, .slice A3 n3 c3, .slice A4 n4 c4, .slice A5 n5 c5, .string x6]] w fun e w' => e = .returned (.bool v) ∧ Below w.heap.size w w' := by
  have hB0 : Below w.heap.size w (w.alloc (.cells #[.string x0, .int .i64 x1, .int .i64 x2, .slice A3 n3 c3, .slice A4 n4 c4, .slice A5 n5 c5, .string x6] 58 (0, 0))) := Go.Joins.below_alloc1 _ _
  have k0 : (w.alloc (.cells #[.string x0, .int .i64 x1, .int .i64 x2, .slice A3 n3 c3, .slice A4 n4 c4, .slice A5 n5 c5, .string x6] 58 (0, 0))).cell? ⟨w.heap.size, 0, none⟩ = some (.string x0) := by rw [Go.Joins.cell_of_block (heap_alloc_new w _)]; rfl
  have k1 : (w.alloc (.cells #[.string x0, .int .i64 x1, .int .i64 x2, .slice A3 n3 c3, .slice A4 n4 c4, .slice A5 n5 c5, .string x6] 58 (0, 0))).cell? ⟨w.heap.size, 1, none⟩ = some (.int .i64 x1) := by rw [Go.Joins.cell_of_block (heap_alloc_new w _)]; rfl
  have k2 : (w.alloc (.cells #[.string x0, .int .i64 x1, .int .i64 x2, .slice A3 n3 c3, .slice A4 n4 c4, .slice A5 n5 c5, .string x6] 58 (0, 0))).cell? ⟨w.heap.size, 2, none⟩ = some (.int .i64 x2) := by rw [Go.Joins.cell_of_block (heap_alloc_new w _)]; rfl
  have k3 : (w.alloc (.cells #[.string x0, .int .i64 x1, .int .i64 x2, .slice A3 n3 c3, .slice A4 n4 c4, .slice A5 n5 c5, .string x6] 58 (0, 0))).cell? ⟨w.heap.size, 3, none⟩ = some (.slice A3 n3 c3) := by rw [Go.Joins.cell_of_block (heap_alloc_new w _)]; rfl
  have k4 : (w.alloc (.cells #[.string x0, .int .i64 x1, .int .i64 x2, .slice A3 n3 c3, .slice A4 n4 c4, .slice A5 n5 c5, .string x6] 58 (0, 0))).cell? ⟨w.heap.size, 4, none⟩ = some (.slice A4 n4 c4) := by rw [Go.Joins.cell_of_block (heap_alloc_new w _)]; rfl
  have k5 : (w.alloc (.cells #[.string x0, .int .i64 x1, .int .i64 x2, .slice A3 n3 c3, .slice A4 n4 c4, .slice A5 n5 c5, .string x6] 58 (0, 0))).cell? ⟨w.heap.size, 5, none⟩ = some (.slice A5 n5 c5) := by rw [Go.Joins.cell_of_block (heap_alloc_new w _)]; rfl
  have k6 : (w.alloc (.cells #[.string x0, .int .i64 x1, .int .i64 x2, .slice A3 n3 c3, .slice A4 n4 c4, .slice A5 n5 c5, .string x6] 58 (0, 0))).cell? ⟨w.heap.size, 6, none⟩ = some (.string x6) := by rw [Go.Joins.cell_of_block (heap_alloc_new w _)]; rfl
  have hsz0 : w.heap.size < (w.alloc (.cells #[.string x0, .int .i64 x1, .int .i64 x2, .slice A3 n3 c3, .slice A4 n4 c4, .slice A5 n5 c5, .string x6] 58 (0, 0))).heap.size := by simp
  have cN := Lib.hid (fun W => implIsName_any x0 true htn W hs0)
  have cO := Lib.hid (fun (W : World) (hB : Below w.heap.size w W) => validOutline_any A3 n3 c3 lo hi x3 true hto W (ho.frame good_loop (Below.sameB hB hhi)) (Nat.le_trans hhi hB.size) (hm.out ho.1).1 hm.k)
  have lo1 := Lib.hid ho.1
  have lp1 := Lib.hid hp.1
  have la1 := Lib.hid ha.1
  have e8 := Lib.hid (fun (k : Nat) (p : Part) (h : x4[k]? = some p) (h1 : partOk p = false) => hv.trans (glyph_f8 (g := (⟨x0, x1, x2, x3, x4, x5, x6⟩ : Gl)) h h1))
  have e9 := Lib.hid (fun (k : Nat) (h : k < n5) (h1 : anchAt x5 k = false) => hv.trans (glyph_f9 (g := (⟨x0, x1, x2, x3, x4, x5, x6⟩ : Gl)) (by show k < x5.length; rw [la1.out]; exact h) h1))
  have hyes := Lib.hid (fun (h8 : (x4.take n4).all partOk = true) (h9 : (List.range n5).all (anchAt x5) = true) => hv.trans (glyph_t (g := (⟨x0, x1, x2, x3, x4, x5, x6⟩ : Gl)) htn.symm (inB_iff.2 ⟨b1, b2⟩) (inB_iff.2 ⟨b3, b4⟩) hto.symm (by show x4.length ≤ 6; rw [lp1.out]; exact b6) (by show x5.length ≤ 6; rw [la1.out]; exact b7) b8 (by show (x4.take x4.length).all partOk = true; rw [lp1.out]; exact h8) (by show (List.range x5.length).all (anchAt x5) = true; rw [la1.out]; exact h9) (by show x4.length = 0 ∨ x3.length = 0; rw [lp1.out, lo1.out]; omega)))
  replace htn := Lib.hid htn
  replace hto := Lib.hid hto
  replace hv := Lib.hid hv
  replace ho := Lib.hid ho
  replace hp := Lib.hid hp
  replace ha := Lib.hid ha
  replace hs5 := Lib.hid hs5
  clear hm
  go_enter Tryz.func33, Tryz.ntmps33
  go_wp2_with fail
  refine (cN.out _).mono ?_
  rintro e w0 ⟨rfl, rfl⟩
  go_wp2_with fail
  refine (cO.out _ hB0).mono ?_
  rintro e w1 ⟨rfl, hb1⟩
  have hB1 := hB0.trans (hb1.mono hB0.size)
  have K3 := (hb1.cell hsz0).trans k3
  have K4 := (hb1.cell hsz0).trans k4
  have K5 := (hb1.cell hsz0).trans k5
  have K6 := (hb1.cell hsz0).trans k6
  have hsz1 : w.heap.size < w1.heap.size := Nat.lt_of_lt_of_le hsz0 hb1.size
  clear k0 k1 k2 k3 k4 k5 k6 hb1
  go_wp2_with fail
  go_loopw [69] (fun i wr => ∃ k : Nat, i = .int .i64 k ∧ k ≤ n4 ∧ (x4.take k).all partOk = true ∧ Below w1.heap.size w1 wr) (fun i wr => n4 - (intOf i).toNat)
  case atStart => exact ⟨0, rfl, Nat.zero_le _, rfl, Below.refl _ _⟩
  case round =>
    obtain ⟨k, rfl, hk, hall, hbel⟩ := hrel
    replace hall := Lib.hid hall
    have hsz := hbel.size
    have hB2 := hB1.trans (hbel.mono hB1.size)
    by_cases hlt : k < n4
    · obtain ⟨p1, f1, ⟨y0, y1, y2⟩, rfl, _, hpw, hja, hcs⟩ := (hp.out.frame (good_flat _) (Below.sameB hB2 hhi)).at hlt
      have q0 := hcs 0 _ rfl
      have q1 := hcs 1 _ rfl
      have q2 := hcs 2 _ rfl
      simp only [Nat.add_zero] at q0 q1 q2
      have hpw' : p1 < wr.heap.size := by omega
      have e8' := Lib.hid (fun (h1 : partOk (y0, y1, y2) = false) => e8.out k _ hja h1)
      have hst := Lib.hid (fun (h1 : partOk (y0, y1, y2) = true) => all_stepX hall.out hja h1)
      have hbw : Below w1.heap.size w1 (wr.alloc (.cells #[.int .i64 y0, .int .i64 y1, .int .i64 y2] 150 (0, 0))) := hbel.alloc hsz _
      clear hcs hja hall
      by_cases d1 : 0 ≤ y0
      rotate_left
      · have hvf := e8'.out (by simp [partOk, inB, d1])
        subst hvf
        go_wp2_with fail
        go_ret
        exact ⟨rfl, hB1.trans (hbw.mono hB1.size)⟩
      by_cases d2 : y0 < 40
      rotate_left
      · have hvf := e8'.out (by simp [partOk, inB]; omega)
        subst hvf
        go_wp2_with fail
        go_ret
        exact ⟨rfl, hB1.trans (hbw.mono hB1.size)⟩
      obtain ⟨tp, htp⟩ : ∃ t, t = ptOk y1 y2 := ⟨_, rfl⟩
      have cP := Lib.hid (fun W => (validPt_any y1 y2 W))
      rw [← htp] at cP
      replace htp := Lib.hid htp
      go_wp2_with fail
      refine (cP.out _).mono ?_
      rintro e w2 ⟨rfl, hb2⟩
      have hbw2 := hbw.trans (hb2.mono hbw.size)
      clear hb2
      cases tp
      · have hvf := e8'.out (by simp [partOk, htp.out.symm])
        subst hvf
        go_wp2_with fail
        go_ret
        exact ⟨rfl, hB1.trans (hbw2.mono hB1.size)⟩
      · go_wp2_with fail
        go_roundw
        case rel => exact ⟨k + 1, by go_num, by omega, hst.out (by simp [partOk, htp.out.symm, inB]; omega), hbw2⟩
        case measure => simp [intOf]; omega
    · have hkn : k = n4 := by omega
      have hall' := Lib.hid (show (x4.take n4).all partOk = true by rw [← hkn]; exact hall.out)
      have KK := (hbel.cell hsz1).trans K5
      have hszr : w.heap.size < wr.heap.size := by omega
      replace hkn := Lib.hid hkn
      clear hall K3 K4 K5 K6
      go_wp2_with fail
      generalize wr = wo at hB2 KK hszr ⊢
      go_loopw [91] (fun i wr => ∃ k : Nat, i = .int .i64 k ∧ k ≤ n5 ∧ (List.range k).all (anchAt x5) = true ∧ Below wo.heap.size wo wr) (fun i wr => n5 - (intOf i).toNat)
      case atStart => exact ⟨0, rfl, Nat.zero_le _, rfl, Below.refl _ _⟩
      case round =>
        obtain ⟨k, rfl, hk, hall, hbel⟩ := hrel
        replace hall := Lib.hid hall
        have hsz := hbel.size
        have hB3 := hB2.trans (hbel.mono hB2.size)
        have hszk : w.heap.size < wr.heap.size := by omega
        by_cases hlt : k < n5
        · obtain ⟨p1, f1, ⟨y0, y1, y2⟩, rfl, _, hpw, hja, hcs⟩ := (ha.out.frame (good_flat _) (Below.sameB hB3 hhi)).at hlt
          have q0 := hcs 0 _ rfl
          have q1 := hcs 1 _ rfl
          have q2 := hcs 2 _ rfl
          simp only [Nat.add_zero] at q0 q1 q2
          have hpw' : p1 < wr.heap.size := by omega
          have hKr := (hbel.cell hszr).trans KK
          have hzy : y0.size ≤ 9223372036854775807 := hs5.out _ (List.mem_of_getElem? hja)
          have hcap' : k ≤ c5 := by omega
          obtain ⟨W, hW⟩ : ∃ W, W = wr.alloc (.cells #[.string y0, .int .i64 y1, .int .i64 y2] 170 (0, 0)) := ⟨_, rfl⟩
          have hbw : Below wo.heap.size wo W := by rw [hW]; exact hbel.alloc hsz _
          have hBW := hB2.trans (hbw.mono hB2.size)
          have g0 : W.cell? ⟨wr.heap.size, 0, none⟩ = some (.string y0) := by rw [hW, Go.Joins.cell_of_block (heap_alloc_new wr _)]; rfl
          have g1 : W.cell? ⟨wr.heap.size, 1, none⟩ = some (.int .i64 y1) := by rw [hW, Go.Joins.cell_of_block (heap_alloc_new wr _)]; rfl
          have g2 : W.cell? ⟨wr.heap.size, 2, none⟩ = some (.int .i64 y2) := by rw [hW, Go.Joins.cell_of_block (heap_alloc_new wr _)]; rfl
          have g5 : W.cell? ⟨w.heap.size, 5, none⟩ = some (.slice (some ⟨p1, f1, none⟩) n5 c5) := by rw [hW]; exact ((Below.refl wr.heap.size wr).alloc (Nat.le_refl _) _ |>.cell hszk).trans hKr
          have m0 : ∀ dr os, (Go.Sort.grow (redrawn W dr) os).cell? ⟨wr.heap.size, 0, none⟩ = some (.string y0) := cell_regrown g0
          have m1 : ∀ dr os, (Go.Sort.grow (redrawn W dr) os).cell? ⟨wr.heap.size, 1, none⟩ = some (.int .i64 y1) := cell_regrown g1
          have m2 : ∀ dr os, (Go.Sort.grow (redrawn W dr) os).cell? ⟨wr.heap.size, 2, none⟩ = some (.int .i64 y2) := cell_regrown g2
          have m5 : ∀ dr os, (Go.Sort.grow (redrawn W dr) os).cell? ⟨w.heap.size, 5, none⟩ = some (.slice (some ⟨p1, f1, none⟩) n5 c5) := cell_regrown g5
          obtain ⟨tn, htn'⟩ : ∃ t, t = nameB y0 := ⟨_, rfl⟩
          obtain ⟨tp, htp⟩ : ∃ t, t = ptOk y1 y2 := ⟨_, rfl⟩
          obtain ⟨ri, hri⟩ : ∃ r, r = ancIdx (x5.take k) y0 := ⟨_, rfl⟩
          have hfree := Lib.hid ((ancIdx_is (x5.take k) y0).free (a := (y0, y1, y2)))
          rw [← hri] at hfree
          have cN2 := Lib.hid (fun dr os => Calls.regrown_of ((implIsName_any y0 tn htn' (Go.Sort.grow (redrawn W dr) os) hzy).mono fun e w' h => (⟨h.1, h.2 ▸ Below.refl _ _⟩ : e = .returned (.bool tn) ∧ Below _ _ w')))
          have cP := Lib.hid (fun dr os => Calls.regrown_of (validPt_any y1 y2 (Go.Sort.grow (redrawn W dr) os)))
          rw [← htp] at cP
          have cA := Lib.hid (fun dr os => Calls.regrown_of (anchorAt_idx (some ⟨p1, f1, none⟩) k c5 lo hi (x5.take k) y0 (Go.Sort.grow (redrawn W dr) os) (((ha.out.take (by omega)).frame (good_flat _) (Below.sameB hBW hhi)).frame (good_flat _) (Below.sameB (below_regrown W dr os) (Nat.le_trans hhi hBW.size))) (Nat.le_trans hhi (Nat.le_trans hBW.size (below_regrown W dr os).size)) (by omega)))
          rw [← hri] at cA
          have hat : anchAt x5 k = (tn && tp && !decide (0 ≤ ri)) := by rw [anchAt_eq hja, htn', htp, hfree.out]; simp
          have hno := Lib.hid (fun (h : anchAt x5 k = false) => e9.out k hlt h)
          have hst := Lib.hid (fun (h : anchAt x5 k = true) => range_step hall.out h)
          replace hat := Lib.hid hat
          replace htn' := Lib.hid htn'
          replace htp := Lib.hid htp
          replace hri := Lib.hid hri
          clear hcs hja hall g0 g1 g2 g5
          go_wp2_with fail
          rw [← hW]
          replace hW := Lib.hid hW
          have hki : (0 : Int) ≤ (k : Int) ∧ (k : Int) ≤ (c5 : Int) := by omega
          have hsW := hbw.size
          clear q0 q1 q2 hKr
          cases tn with
          | false =>
            have hvf := hno.out (by rw [hat.out]; rfl)
            subst hvf
            refine wp_region_quiet_below (by kernel_rfl) (by kernel_rfl) ?_
            repeat (go_big_quiet_step (exact cN2.out _ _))
            refine wpQuiet_nil ?_
            intro _ hw'
            obtain ⟨⟨dq, osq⟩, hw''⟩ := hw'
            subst hw''
            have hb3 := hBW.trans ((below_regrown W dq osq).mono hBW.size)
            generalize Go.Sort.grow (redrawn W dq) osq = w3 at hb3 ⊢
            clear m0 m1 m2 m5
            go_wp2_with fail
            go_ret
            exact ⟨rfl, hb3⟩
          | true =>
            cases tp with
            | false =>
              have hvf := hno.out (by rw [hat.out]; rfl)
              subst hvf
              refine wp_region_quiet_below (by kernel_rfl) (by kernel_rfl) ?_
              repeat (go_big_quiet_step (first | exact cN2.out _ _ | exact cP.out _ _))
              refine wpQuiet_nil ?_
              intro _ hw'
              obtain ⟨⟨dq, osq⟩, hw''⟩ := hw'
              subst hw''
              have hb3 := hBW.trans ((below_regrown W dq osq).mono hBW.size)
              generalize Go.Sort.grow (redrawn W dq) osq = w3 at hb3 ⊢
              clear m0 m1 m2 m5
              go_wp2_with fail
              go_ret
              exact ⟨rfl, hb3⟩
            | true =>
              by_cases hr0 : 0 ≤ ri
              · have hvf := hno.out (by rw [hat.out]; simp [hr0])
                subst hvf
                refine wp_region_quiet_below (by kernel_rfl) (by kernel_rfl) ?_
                repeat (go_big_quiet_step (first | exact cN2.out _ _ | exact cP.out _ _ | exact cA.out _ _))
                refine wpQuiet_nil ?_
                intro _ hw'
                obtain ⟨⟨dq, osq⟩, hw''⟩ := hw'
                subst hw''
                have hb3 := hBW.trans ((below_regrown W dq osq).mono hBW.size)
                generalize Go.Sort.grow (redrawn W dq) osq = w3 at hb3 ⊢
                clear m0 m1 m2 m5
                go_wp2_with fail
                go_ret
                exact ⟨rfl, hb3⟩
              · have hst' := Lib.hid (hst.out (by rw [hat.out]; simp [hr0]))
                refine wp_region_quiet_below (by kernel_rfl) (by kernel_rfl) ?_
                repeat (go_big_quiet_step (first | exact cN2.out _ _ | exact cP.out _ _ | exact cA.out _ _))
                refine wpQuiet_nil ?_
                intro _ hw'
                obtain ⟨⟨dq, osq⟩, hw''⟩ := hw'
                subst hw''
                have hb4 := hbw.trans ((below_regrown W dq osq).mono hbw.size)
                generalize Go.Sort.grow (redrawn W dq) osq = w3 at hb4 ⊢
                clear m0 m1 m2 m5
                go_wp2_with fail
                go_roundw
                case rel => exact ⟨k + 1, by go_num, by omega, hst'.out, hb4⟩
                case measure => simp [intOf]; omega
        · have hkn : k = n5 := by omega
          have hvt := hyes.out hall'.out (by rw [← hkn]; exact hall.out)
          subst hvt
          replace hkn := Lib.hid hkn
          go_wp2_with fail
          go_ret
          exact ⟨rfl, hB3⟩

set_option maxHeartbeats 8000000 in
theorem implValidG_lb (x0 : ByteArray) (x1 x2 : Int) (x3 : List (List Knot)) (x4 : List Part) (x5 : List Anch) (x6 : ByteArray) (A3 A4 A5 : Option Addr) (n3 c3 n4 c4 n5 c5 lo hi : Nat) (w : World) (ho : OutRd w lo hi A3 n3 x3) (hp : RdS 3 (FlatR partC) w lo hi A4 n4 x4) (ha : RdS 3 (FlatR anchC) w lo hi A5 n5 x5) (hhi : hi ≤ w.heap.size) (hm : Gl.small ⟨x0, x1, x2, x3, x4, x5, x6⟩ 1000000000) (hs0 : x0.size ≤ 9223372036854775807) (hs6 : x6.size ≤ 9223372036854775807) (hs5 : ∀ a ∈ x5, a.1.size ≤ 9223372036854775807) (hcap : n5 ≤ c5) (v : Bool) (hv : v = glyphOk (⟨x0, x1, x2, x3, x4, x5, x6⟩ : Gl)) (htn : true = nameB x0) (b1 : -1 ≤ x1) (b2 : x1 ≤ 65535) (b3 : 0 ≤ x2) (b4 : x2 ≤ 262144) (hto : true = outOk x3) (b9 : ¬ 0 < n4) (b10 : 0 < n3) (b6 : n4 ≤ 6) (b7 : n5 ≤ 6) (b8 : x6.size ≤ 400) :
    Calls Tryz.prog 33 #[.agg #[.string x0, .int .i64 x1, .int .i64 x2, .slice A3 n3 c3, .slice A4 n4 c4, .slice A5 n5 c5, .string x6]] w fun e w' => e = .returned (.bool v) ∧ Below w.heap.size w w' := by
  have hB0 : Below w.heap.size w (w.alloc (.cells #[.string x0, .int .i64 x1, .int .i64 x2, .slice A3 n3 c3, .slice A4 n4 c4, .slice A5 n5 c5, .string x6] 58 (0, 0))) := Go.Joins.below_alloc1 _ _
  have k0 : (w.alloc (.cells #[.string x0, .int .i64 x1, .int .i64 x2, .slice A3 n3 c3, .slice A4 n4 c4, .slice A5 n5 c5, .string x6] 58 (0, 0))).cell? ⟨w.heap.size, 0, none⟩ = some (.string x0) := by rw [Go.Joins.cell_of_block (heap_alloc_new w _)]; rfl
  have k1 : (w.alloc (.cells #[.string x0, .int .i64 x1, .int .i64 x2, .slice A3 n3 c3, .slice A4 n4 c4, .slice A5 n5 c5, .string x6] 58 (0, 0))).cell? ⟨w.heap.size, 1, none⟩ = some (.int .i64 x1) := by rw [Go.Joins.cell_of_block (heap_alloc_new w _)]; rfl
  have k2 : (w.alloc (.cells #[.string x0, .int .i64 x1, .int .i64 x2, .slice A3 n3 c3, .slice A4 n4 c4, .slice A5 n5 c5, .string x6] 58 (0, 0))).cell? ⟨w.heap.size, 2, none⟩ = some (.int .i64 x2) := by rw [Go.Joins.cell_of_block (heap_alloc_new w _)]; rfl
  have k3 : (w.alloc (.cells #[.string x0, .int .i64 x1, .int .i64 x2, .slice A3 n3 c3, .slice A4 n4 c4, .slice A5 n5 c5, .string x6] 58 (0, 0))).cell? ⟨w.heap.size, 3, none⟩ = some (.slice A3 n3 c3) := by rw [Go.Joins.cell_of_block (heap_alloc_new w _)]; rfl
  have k4 : (w.alloc (.cells #[.string x0, .int .i64 x1, .int .i64 x2, .slice A3 n3 c3, .slice A4 n4 c4, .slice A5 n5 c5, .string x6] 58 (0, 0))).cell? ⟨w.heap.size, 4, none⟩ = some (.slice A4 n4 c4) := by rw [Go.Joins.cell_of_block (heap_alloc_new w _)]; rfl
  have k5 : (w.alloc (.cells #[.string x0, .int .i64 x1, .int .i64 x2, .slice A3 n3 c3, .slice A4 n4 c4, .slice A5 n5 c5, .string x6] 58 (0, 0))).cell? ⟨w.heap.size, 5, none⟩ = some (.slice A5 n5 c5) := by rw [Go.Joins.cell_of_block (heap_alloc_new w _)]; rfl
  have k6 : (w.alloc (.cells #[.string x0, .int .i64 x1, .int .i64 x2, .slice A3 n3 c3, .slice A4 n4 c4, .slice A5 n5 c5, .string x6] 58 (0, 0))).cell? ⟨w.heap.size, 6, none⟩ = some (.string x6) := by rw [Go.Joins.cell_of_block (heap_alloc_new w _)]; rfl
  have hsz0 : w.heap.size < (w.alloc (.cells #[.string x0, .int .i64 x1, .int .i64 x2, .slice A3 n3 c3, .slice A4 n4 c4, .slice A5 n5 c5, .string x6] 58 (0, 0))).heap.size := by simp
  have cN := Lib.hid (fun W => implIsName_any x0 true htn W hs0)
  have cO := Lib.hid (fun (W : World) (hB : Below w.heap.size w W) => validOutline_any A3 n3 c3 lo hi x3 true hto W (ho.frame good_loop (Below.sameB hB hhi)) (Nat.le_trans hhi hB.size) (hm.out ho.1).1 hm.k)
  have lo1 := Lib.hid ho.1
  have lp1 := Lib.hid hp.1
  have la1 := Lib.hid ha.1
  have e8 := Lib.hid (fun (k : Nat) (p : Part) (h : x4[k]? = some p) (h1 : partOk p = false) => hv.trans (glyph_f8 (g := (⟨x0, x1, x2, x3, x4, x5, x6⟩ : Gl)) h h1))
  have e9 := Lib.hid (fun (k : Nat) (h : k < n5) (h1 : anchAt x5 k = false) => hv.trans (glyph_f9 (g := (⟨x0, x1, x2, x3, x4, x5, x6⟩ : Gl)) (by show k < x5.length; rw [la1.out]; exact h) h1))
  have hyes := Lib.hid (fun (h8 : (x4.take n4).all partOk = true) (h9 : (List.range n5).all (anchAt x5) = true) => hv.trans (glyph_t (g := (⟨x0, x1, x2, x3, x4, x5, x6⟩ : Gl)) htn.symm (inB_iff.2 ⟨b1, b2⟩) (inB_iff.2 ⟨b3, b4⟩) hto.symm (by show x4.length ≤ 6; rw [lp1.out]; exact b6) (by show x5.length ≤ 6; rw [la1.out]; exact b7) b8 (by show (x4.take x4.length).all partOk = true; rw [lp1.out]; exact h8) (by show (List.range x5.length).all (anchAt x5) = true; rw [la1.out]; exact h9) (by show x4.length = 0 ∨ x3.length = 0; rw [lp1.out, lo1.out]; omega)))
  replace htn := Lib.hid htn
  replace hto := Lib.hid hto
  replace hv := Lib.hid hv
  replace ho := Lib.hid ho
  replace hp := Lib.hid hp
  replace ha := Lib.hid ha
  replace hs5 := Lib.hid hs5
  clear hm
  go_enter Tryz.func33, Tryz.ntmps33
  go_wp2_with fail
  refine (cN.out _).mono ?_
  rintro e w0 ⟨rfl, rfl⟩
  go_wp2_with fail
  refine (cO.out _ hB0).mono ?_
  rintro e w1 ⟨rfl, hb1⟩
  have hB1 := hB0.trans (hb1.mono hB0.size)
  have K3 := (hb1.cell hsz0).trans k3
  have K4 := (hb1.cell hsz0).trans k4
  have K5 := (hb1.cell hsz0).trans k5
  have K6 := (hb1.cell hsz0).trans k6
  have hsz1 : w.heap.size < w1.heap.size := Nat.lt_of_lt_of_le hsz0 hb1.size
  clear k0 k1 k2 k3 k4 k5 k6 hb1
  go_wp2_with fail
  go_loopw [69] (fun i wr => ∃ k : Nat, i = .int .i64 k ∧ k ≤ n4 ∧ (x4.take k).all partOk = true ∧ Below w1.heap.size w1 wr) (fun i wr => n4 - (intOf i).toNat)
  case atStart => exact ⟨0, rfl, Nat.zero_le _, rfl, Below.refl _ _⟩
  case round =>
    obtain ⟨k, rfl, hk, hall, hbel⟩ := hrel
    replace hall := Lib.hid hall
    have hsz := hbel.size
    have hB2 := hB1.trans (hbel.mono hB1.size)
    by_cases hlt : k < n4
    · first | (exfalso; omega) | skip
    · have hkn : k = n4 := by omega
      have hall' := Lib.hid (show (x4.take n4).all partOk = true by rw [← hkn]; exact hall.out)
      have KK := (hbel.cell hsz1).trans K5
      have hszr : w.heap.size < wr.heap.size := by omega
      replace hkn := Lib.hid hkn
      clear hall K3 K4 K5 K6
      go_wp2_with fail
      generalize wr = wo at hB2 KK hszr ⊢
      go_loopw [91] (fun i wr => ∃ k : Nat, i = .int .i64 k ∧ k ≤ n5 ∧ (List.range k).all (anchAt x5) = true ∧ Below wo.heap.size wo wr) (fun i wr => n5 - (intOf i).toNat)
      case atStart => exact ⟨0, rfl, Nat.zero_le _, rfl, Below.refl _ _⟩
      case round =>
        obtain ⟨k, rfl, hk, hall, hbel⟩ := hrel
        replace hall := Lib.hid hall
        have hsz := hbel.size
        have hB3 := hB2.trans (hbel.mono hB2.size)
        have hszk : w.heap.size < wr.heap.size := by omega
        by_cases hlt : k < n5
        · obtain ⟨p1, f1, ⟨y0, y1, y2⟩, rfl, _, hpw, hja, hcs⟩ := (ha.out.frame (good_flat _) (Below.sameB hB3 hhi)).at hlt
          have q0 := hcs 0 _ rfl
          have q1 := hcs 1 _ rfl
          have q2 := hcs 2 _ rfl
          simp only [Nat.add_zero] at q0 q1 q2
          have hpw' : p1 < wr.heap.size := by omega
          have hKr := (hbel.cell hszr).trans KK
          have hzy : y0.size ≤ 9223372036854775807 := hs5.out _ (List.mem_of_getElem? hja)
          have hcap' : k ≤ c5 := by omega
          obtain ⟨W, hW⟩ : ∃ W, W = wr.alloc (.cells #[.string y0, .int .i64 y1, .int .i64 y2] 170 (0, 0)) := ⟨_, rfl⟩
          have hbw : Below wo.heap.size wo W := by rw [hW]; exact hbel.alloc hsz _
          have hBW := hB2.trans (hbw.mono hB2.size)
          have g0 : W.cell? ⟨wr.heap.size, 0, none⟩ = some (.string y0) := by rw [hW, Go.Joins.cell_of_block (heap_alloc_new wr _)]; rfl
          have g1 : W.cell? ⟨wr.heap.size, 1, none⟩ = some (.int .i64 y1) := by rw [hW, Go.Joins.cell_of_block (heap_alloc_new wr _)]; rfl
          have g2 : W.cell? ⟨wr.heap.size, 2, none⟩ = some (.int .i64 y2) := by rw [hW, Go.Joins.cell_of_block (heap_alloc_new wr _)]; rfl
          have g5 : W.cell? ⟨w.heap.size, 5, none⟩ = some (.slice (some ⟨p1, f1, none⟩) n5 c5) := by rw [hW]; exact ((Below.refl wr.heap.size wr).alloc (Nat.le_refl _) _ |>.cell hszk).trans hKr
          have m0 : ∀ dr os, (Go.Sort.grow (redrawn W dr) os).cell? ⟨wr.heap.size, 0, none⟩ = some (.string y0) := cell_regrown g0
          have m1 : ∀ dr os, (Go.Sort.grow (redrawn W dr) os).cell? ⟨wr.heap.size, 1, none⟩ = some (.int .i64 y1) := cell_regrown g1
          have m2 : ∀ dr os, (Go.Sort.grow (redrawn W dr) os).cell? ⟨wr.heap.size, 2, none⟩ = some (.int .i64 y2) := cell_regrown g2
          have m5 : ∀ dr os, (Go.Sort.grow (redrawn W dr) os).cell? ⟨w.heap.size, 5, none⟩ = some (.slice (some ⟨p1, f1, none⟩) n5 c5) := cell_regrown g5
          obtain ⟨tn, htn'⟩ : ∃ t, t = nameB y0 := ⟨_, rfl⟩
          obtain ⟨tp, htp⟩ : ∃ t, t = ptOk y1 y2 := ⟨_, rfl⟩
          obtain ⟨ri, hri⟩ : ∃ r, r = ancIdx (x5.take k) y0 := ⟨_, rfl⟩
          have hfree := Lib.hid ((ancIdx_is (x5.take k) y0).free (a := (y0, y1, y2)))
          rw [← hri] at hfree
          have cN2 := Lib.hid (fun dr os => Calls.regrown_of ((implIsName_any y0 tn htn' (Go.Sort.grow (redrawn W dr) os) hzy).mono fun e w' h => (⟨h.1, h.2 ▸ Below.refl _ _⟩ : e = .returned (.bool tn) ∧ Below _ _ w')))
          have cP := Lib.hid (fun dr os => Calls.regrown_of (validPt_any y1 y2 (Go.Sort.grow (redrawn W dr) os)))
          rw [← htp] at cP
          have cA := Lib.hid (fun dr os => Calls.regrown_of (anchorAt_idx (some ⟨p1, f1, none⟩) k c5 lo hi (x5.take k) y0 (Go.Sort.grow (redrawn W dr) os) (((ha.out.take (by omega)).frame (good_flat _) (Below.sameB hBW hhi)).frame (good_flat _) (Below.sameB (below_regrown W dr os) (Nat.le_trans hhi hBW.size))) (Nat.le_trans hhi (Nat.le_trans hBW.size (below_regrown W dr os).size)) (by omega)))
          rw [← hri] at cA
          have hat : anchAt x5 k = (tn && tp && !decide (0 ≤ ri)) := by rw [anchAt_eq hja, htn', htp, hfree.out]; simp
          have hno := Lib.hid (fun (h : anchAt x5 k = false) => e9.out k hlt h)
          have hst := Lib.hid (fun (h : anchAt x5 k = true) => range_step hall.out h)
          replace hat := Lib.hid hat
          replace htn' := Lib.hid htn'
          replace htp := Lib.hid htp
          replace hri := Lib.hid hri
          clear hcs hja hall g0 g1 g2 g5
          go_wp2_with fail
          rw [← hW]
          replace hW := Lib.hid hW
          have hki : (0 : Int) ≤ (k : Int) ∧ (k : Int) ≤ (c5 : Int) := by omega
          have hsW := hbw.size
          clear q0 q1 q2 hKr
          cases tn with
          | false =>
            have hvf := hno.out (by rw [hat.out]; rfl)
            subst hvf
            refine wp_region_quiet_below (by kernel_rfl) (by kernel_rfl) ?_
            repeat (go_big_quiet_step (exact cN2.out _ _))
            refine wpQuiet_nil ?_
            intro _ hw'
            obtain ⟨⟨dq, osq⟩, hw''⟩ := hw'
            subst hw''
            have hb3 := hBW.trans ((below_regrown W dq osq).mono hBW.size)
            generalize Go.Sort.grow (redrawn W dq) osq = w3 at hb3 ⊢
            clear m0 m1 m2 m5
            go_wp2_with fail
            go_ret
            exact ⟨rfl, hb3⟩
          | true =>
            cases tp with
            | false =>
              have hvf := hno.out (by rw [hat.out]; rfl)
              subst hvf
              refine wp_region_quiet_below (by kernel_rfl) (by kernel_rfl) ?_
              repeat (go_big_quiet_step (first | exact cN2.out _ _ | exact cP.out _ _))
              refine wpQuiet_nil ?_
              intro _ hw'
              obtain ⟨⟨dq, osq⟩, hw''⟩ := hw'
              subst hw''
              have hb3 := hBW.trans ((below_regrown W dq osq).mono hBW.size)
              generalize Go.Sort.grow (redrawn W dq) osq = w3 at hb3 ⊢
              clear m0 m1 m2 m5
              go_wp2_with fail
              go_ret
              exact ⟨rfl, hb3⟩
            | true =>
              by_cases hr0 : 0 ≤ ri
              · have hvf := hno.out (by rw [hat.out]; simp [hr0])
                subst hvf
                refine wp_region_quiet_below (by kernel_rfl) (by kernel_rfl) ?_
                repeat (go_big_quiet_step (first | exact cN2.out _ _ | exact cP.out _ _ | exact cA.out _ _))
                refine wpQuiet_nil ?_
                intro _ hw'
                obtain ⟨⟨dq, osq⟩, hw''⟩ := hw'
                subst hw''
                have hb3 := hBW.trans ((below_regrown W dq osq).mono hBW.size)
                generalize Go.Sort.grow (redrawn W dq) osq = w3 at hb3 ⊢
                clear m0 m1 m2 m5
                go_wp2_with fail
                go_ret
                exact ⟨rfl, hb3⟩
              · have hst' := Lib.hid (hst.out (by rw [hat.out]; simp [hr0]))
                refine wp_region_quiet_below (by kernel_rfl) (by kernel_rfl) ?_
                repeat (go_big_quiet_step (first | exact cN2.out _ _ | exact cP.out _ _ | exact cA.out _ _))
                refine wpQuiet_nil ?_
                intro _ hw'
                obtain ⟨⟨dq, osq⟩, hw''⟩ := hw'
                subst hw''
                have hb4 := hbw.trans ((below_regrown W dq osq).mono hbw.size)
                generalize Go.Sort.grow (redrawn W dq) osq = w3 at hb4 ⊢
                clear m0 m1 m2 m5
                go_wp2_with fail
                go_roundw
                case rel => exact ⟨k + 1, by go_num, by omega, hst'.out, hb4⟩
                case measure => simp [intOf]; omega
        · have hkn : k = n5 := by omega
          have hvt := hyes.out hall'.out (by rw [← hkn]; exact hall.out)
          subst hvt
          replace hkn := Lib.hid hkn
          go_wp2_with fail
          go_ret
          exact ⟨rfl, hB3⟩

set_option maxHeartbeats 8000000 in
theorem implValidG_lc (x0 : ByteArray) (x1 x2 : Int) (x3 : List (List Knot)) (x4 : List Part) (x5 : List Anch) (x6 : ByteArray) (A3 A4 A5 : Option Addr) (n3 c3 n4 c4 n5 c5 lo hi : Nat) (w : World) (ho : OutRd w lo hi A3 n3 x3) (hp : RdS 3 (FlatR partC) w lo hi A4 n4 x4) (ha : RdS 3 (FlatR anchC) w lo hi A5 n5 x5) (hhi : hi ≤ w.heap.size) (hm : Gl.small ⟨x0, x1, x2, x3, x4, x5, x6⟩ 1000000000) (hs0 : x0.size ≤ 9223372036854775807) (hs6 : x6.size ≤ 9223372036854775807) (hs5 : ∀ a ∈ x5, a.1.size ≤ 9223372036854775807) (hcap : n5 ≤ c5) (v : Bool) (hv : v = glyphOk (⟨x0, x1, x2, x3, x4, x5, x6⟩ : Gl)) (htn : true = nameB x0) (b1 : -1 ≤ x1) (b2 : x1 ≤ 65535) (b3 : 0 ≤ x2) (b4 : x2 ≤ 262144) (hto : true = outOk x3) (b9 : ¬ 0 < n4) (b10 : ¬ 0 < n3) (b6 : n4 ≤ 6) (b7 : n5 ≤ 6) (b8 : x6.size ≤ 400) :
    Calls Tryz.prog 33 #[.agg #[.string x0, .int .i64 x1, .int .i64 x2, .slice A3 n3 c3, .slice A4 n4 c4, .slice A5 n5 c5, .string x6]] w fun e w' => e = .returned (.bool v) ∧ Below w.heap.size w w' := by
  have hB0 : Below w.heap.size w (w.alloc (.cells #[.string x0, .int .i64 x1, .int .i64 x2, .slice A3 n3 c3, .slice A4 n4 c4, .slice A5 n5 c5, .string x6] 58 (0, 0))) := Go.Joins.below_alloc1 _ _
  have k0 : (w.alloc (.cells #[.string x0, .int .i64 x1, .int .i64 x2, .slice A3 n3 c3, .slice A4 n4 c4, .slice A5 n5 c5, .string x6] 58 (0, 0))).cell? ⟨w.heap.size, 0, none⟩ = some (.string x0) := by rw [Go.Joins.cell_of_block (heap_alloc_new w _)]; rfl
  have k1 : (w.alloc (.cells #[.string x0, .int .i64 x1, .int .i64 x2, .slice A3 n3 c3, .slice A4 n4 c4, .slice A5 n5 c5, .string x6] 58 (0, 0))).cell? ⟨w.heap.size, 1, none⟩ = some (.int .i64 x1) := by rw [Go.Joins.cell_of_block (heap_alloc_new w _)]; rfl
  have k2 : (w.alloc (.cells #[.string x0, .int .i64 x1, .int .i64 x2, .slice A3 n3 c3, .slice A4 n4 c4, .slice A5 n5 c5, .string x6] 58 (0, 0))).cell? ⟨w.heap.size, 2, none⟩ = some (.int .i64 x2) := by rw [Go.Joins.cell_of_block (heap_alloc_new w _)]; rfl
  have k3 : (w.alloc (.cells #[.string x0, .int .i64 x1, .int .i64 x2, .slice A3 n3 c3, .slice A4 n4 c4, .slice A5 n5 c5, .string x6] 58 (0, 0))).cell? ⟨w.heap.size, 3, none⟩ = some (.slice A3 n3 c3) := by rw [Go.Joins.cell_of_block (heap_alloc_new w _)]; rfl
  have k4 : (w.alloc (.cells #[.string x0, .int .i64 x1, .int .i64 x2, .slice A3 n3 c3, .slice A4 n4 c4, .slice A5 n5 c5, .string x6] 58 (0, 0))).cell? ⟨w.heap.size, 4, none⟩ = some (.slice A4 n4 c4) := by rw [Go.Joins.cell_of_block (heap_alloc_new w _)]; rfl
  have k5 : (w.alloc (.cells #[.string x0, .int .i64 x1, .int .i64 x2, .slice A3 n3 c3, .slice A4 n4 c4, .slice A5 n5 c5, .string x6] 58 (0, 0))).cell? ⟨w.heap.size, 5, none⟩ = some (.slice A5 n5 c5) := by rw [Go.Joins.cell_of_block (heap_alloc_new w _)]; rfl
  have k6 : (w.alloc (.cells #[.string x0, .int .i64 x1, .int .i64 x2, .slice A3 n3 c3, .slice A4 n4 c4, .slice A5 n5 c5, .string x6] 58 (0, 0))).cell? ⟨w.heap.size, 6, none⟩ = some (.string x6) := by rw [Go.Joins.cell_of_block (heap_alloc_new w _)]; rfl
  have hsz0 : w.heap.size < (w.alloc (.cells #[.string x0, .int .i64 x1, .int .i64 x2, .slice A3 n3 c3, .slice A4 n4 c4, .slice A5 n5 c5, .string x6] 58 (0, 0))).heap.size := by simp
  have cN := Lib.hid (fun W => implIsName_any x0 true htn W hs0)
  have cO := Lib.hid (fun (W : World) (hB : Below w.heap.size w W) => validOutline_any A3 n3 c3 lo hi x3 true hto W (ho.frame good_loop (Below.sameB hB hhi)) (Nat.le_trans hhi hB.size) (hm.out ho.1).1 hm.k)
  have lo1 := Lib.hid ho.1
  have lp1 := Lib.hid hp.1
  have la1 := Lib.hid ha.1
  have e8 := Lib.hid (fun (k : Nat) (p : Part) (h : x4[k]? = some p) (h1 : partOk p = false) => hv.trans (glyph_f8 (g := (⟨x0, x1, x2, x3, x4, x5, x6⟩ : Gl)) h h1))
  have e9 := Lib.hid (fun (k : Nat) (h : k < n5) (h1 : anchAt x5 k = false) => hv.trans (glyph_f9 (g := (⟨x0, x1, x2, x3, x4, x5, x6⟩ : Gl)) (by show k < x5.length; rw [la1.out]; exact h) h1))
  have hyes := Lib.hid (fun (h8 : (x4.take n4).all partOk = true) (h9 : (List.range n5).all (anchAt x5) = true) => hv.trans (glyph_t (g := (⟨x0, x1, x2, x3, x4, x5, x6⟩ : Gl)) htn.symm (inB_iff.2 ⟨b1, b2⟩) (inB_iff.2 ⟨b3, b4⟩) hto.symm (by show x4.length ≤ 6; rw [lp1.out]; exact b6) (by show x5.length ≤ 6; rw [la1.out]; exact b7) b8 (by show (x4.take x4.length).all partOk = true; rw [lp1.out]; exact h8) (by show (List.range x5.length).all (anchAt x5) = true; rw [la1.out]; exact h9) (by show x4.length = 0 ∨ x3.length = 0; rw [lp1.out, lo1.out]; omega)))
  replace htn := Lib.hid htn
  replace hto := Lib.hid hto
  replace hv := Lib.hid hv
  replace ho := Lib.hid ho
  replace hp := Lib.hid hp
  replace ha := Lib.hid ha
  replace hs5 := Lib.hid hs5
  clear hm
  go_enter Tryz.func33, Tryz.ntmps33
  go_wp2_with fail
  refine (cN.out _).mono ?_
  rintro e w0 ⟨rfl, rfl⟩
  go_wp2_with fail
  refine (cO.out _ hB0).mono ?_
  rintro e w1 ⟨rfl, hb1⟩
  have hB1 := hB0.trans (hb1.mono hB0.size)
  have K3 := (hb1.cell hsz0).trans k3
  have K4 := (hb1.cell hsz0).trans k4
  have K5 := (hb1.cell hsz0).trans k5
  have K6 := (hb1.cell hsz0).trans k6
  have hsz1 : w.heap.size < w1.heap.size := Nat.lt_of_lt_of_le hsz0 hb1.size
  clear k0 k1 k2 k3 k4 k5 k6 hb1
  go_wp2_with fail
  go_loopw [69] (fun i wr => ∃ k : Nat, i = .int .i64 k ∧ k ≤ n4 ∧ (x4.take k).all partOk = true ∧ Below w1.heap.size w1 wr) (fun i wr => n4 - (intOf i).toNat)
  case atStart => exact ⟨0, rfl, Nat.zero_le _, rfl, Below.refl _ _⟩
  case round =>
    obtain ⟨k, rfl, hk, hall, hbel⟩ := hrel
    replace hall := Lib.hid hall
    have hsz := hbel.size
    have hB2 := hB1.trans (hbel.mono hB1.size)
    by_cases hlt : k < n4
    · first | (exfalso; omega) | skip
    · have hkn : k = n4 := by omega
      have hall' := Lib.hid (show (x4.take n4).all partOk = true by rw [← hkn]; exact hall.out)
      have KK := (hbel.cell hsz1).trans K5
      have hszr : w.heap.size < wr.heap.size := by omega
      replace hkn := Lib.hid hkn
      clear hall K3 K4 K5 K6
      go_wp2_with fail
      generalize wr = wo at hB2 KK hszr ⊢
      go_loopw [91] (fun i wr => ∃ k : Nat, i = .int .i64 k ∧ k ≤ n5 ∧ (List.range k).all (anchAt x5) = true ∧ Below wo.heap.size wo wr) (fun i wr => n5 - (intOf i).toNat)
      case atStart => exact ⟨0, rfl, Nat.zero_le _, rfl, Below.refl _ _⟩
      case round =>
        obtain ⟨k, rfl, hk, hall, hbel⟩ := hrel
        replace hall := Lib.hid hall
        have hsz := hbel.size
        have hB3 := hB2.trans (hbel.mono hB2.size)
        have hszk : w.heap.size < wr.heap.size := by omega
        by_cases hlt : k < n5
        · obtain ⟨p1, f1, ⟨y0, y1, y2⟩, rfl, _, hpw, hja, hcs⟩ := (ha.out.frame (good_flat _) (Below.sameB hB3 hhi)).at hlt
          have q0 := hcs 0 _ rfl
          have q1 := hcs 1 _ rfl
          have q2 := hcs 2 _ rfl
          simp only [Nat.add_zero] at q0 q1 q2
          have hpw' : p1 < wr.heap.size := by omega
          have hKr := (hbel.cell hszr).trans KK
          have hzy : y0.size ≤ 9223372036854775807 := hs5.out _ (List.mem_of_getElem? hja)
          have hcap' : k ≤ c5 := by omega
          obtain ⟨W, hW⟩ : ∃ W, W = wr.alloc (.cells #[.string y0, .int .i64 y1, .int .i64 y2] 170 (0, 0)) := ⟨_, rfl⟩
          have hbw : Below wo.heap.size wo W := by rw [hW]; exact hbel.alloc hsz _
          have hBW := hB2.trans (hbw.mono hB2.size)
          have g0 : W.cell? ⟨wr.heap.size, 0, none⟩ = some (.string y0) := by rw [hW, Go.Joins.cell_of_block (heap_alloc_new wr _)]; rfl
          have g1 : W.cell? ⟨wr.heap.size, 1, none⟩ = some (.int .i64 y1) := by rw [hW, Go.Joins.cell_of_block (heap_alloc_new wr _)]; rfl
          have g2 : W.cell? ⟨wr.heap.size, 2, none⟩ = some (.int .i64 y2) := by rw [hW, Go.Joins.cell_of_block (heap_alloc_new wr _)]; rfl
          have g5 : W.cell? ⟨w.heap.size, 5, none⟩ = some (.slice (some ⟨p1, f1, none⟩) n5 c5) := by rw [hW]; exact ((Below.refl wr.heap.size wr).alloc (Nat.le_refl _) _ |>.cell hszk).trans hKr
          have m0 : ∀ dr os, (Go.Sort.grow (redrawn W dr) os).cell? ⟨wr.heap.size, 0, none⟩ = some (.string y0) := cell_regrown g0
          have m1 : ∀ dr os, (Go.Sort.grow (redrawn W dr) os).cell? ⟨wr.heap.size, 1, none⟩ = some (.int .i64 y1) := cell_regrown g1
          have m2 : ∀ dr os, (Go.Sort.grow (redrawn W dr) os).cell? ⟨wr.heap.size, 2, none⟩ = some (.int .i64 y2) := cell_regrown g2
          have m5 : ∀ dr os, (Go.Sort.grow (redrawn W dr) os).cell? ⟨w.heap.size, 5, none⟩ = some (.slice (some ⟨p1, f1, none⟩) n5 c5) := cell_regrown g5
          obtain ⟨tn, htn'⟩ : ∃ t, t = nameB y0 := ⟨_, rfl⟩
          obtain ⟨tp, htp⟩ : ∃ t, t = ptOk y1 y2 := ⟨_, rfl⟩
          obtain ⟨ri, hri⟩ : ∃ r, r = ancIdx (x5.take k) y0 := ⟨_, rfl⟩
          have hfree := Lib.hid ((ancIdx_is (x5.take k) y0).free (a := (y0, y1, y2)))
          rw [← hri] at hfree
          have cN2 := Lib.hid (fun dr os => Calls.regrown_of ((implIsName_any y0 tn htn' (Go.Sort.grow (redrawn W dr) os) hzy).mono fun e w' h => (⟨h.1, h.2 ▸ Below.refl _ _⟩ : e = .returned (.bool tn) ∧ Below _ _ w')))
          have cP := Lib.hid (fun dr os => Calls.regrown_of (validPt_any y1 y2 (Go.Sort.grow (redrawn W dr) os)))
          rw [← htp] at cP
          have cA := Lib.hid (fun dr os => Calls.regrown_of (anchorAt_idx (some ⟨p1, f1, none⟩) k c5 lo hi (x5.take k) y0 (Go.Sort.grow (redrawn W dr) os) (((ha.out.take (by omega)).frame (good_flat _) (Below.sameB hBW hhi)).frame (good_flat _) (Below.sameB (below_regrown W dr os) (Nat.le_trans hhi hBW.size))) (Nat.le_trans hhi (Nat.le_trans hBW.size (below_regrown W dr os).size)) (by omega)))
          rw [← hri] at cA
          have hat : anchAt x5 k = (tn && tp && !decide (0 ≤ ri)) := by rw [anchAt_eq hja, htn', htp, hfree.out]; simp
          have hno := Lib.hid (fun (h : anchAt x5 k = false) => e9.out k hlt h)
          have hst := Lib.hid (fun (h : anchAt x5 k = true) => range_step hall.out h)
          replace hat := Lib.hid hat
          replace htn' := Lib.hid htn'
          replace htp := Lib.hid htp
          replace hri := Lib.hid hri
          clear hcs hja hall g0 g1 g2 g5
          go_wp2_with fail
          rw [← hW]
          replace hW := Lib.hid hW
          have hki : (0 : Int) ≤ (k : Int) ∧ (k : Int) ≤ (c5 : Int) := by omega
          have hsW := hbw.size
          clear q0 q1 q2 hKr
          cases tn with
          | false =>
            have hvf := hno.out (by rw [hat.out]; rfl)
            subst hvf
            refine wp_region_quiet_below (by kernel_rfl) (by kernel_rfl) ?_
            repeat (go_big_quiet_step (exact cN2.out _ _))
            refine wpQuiet_nil ?_
            intro _ hw'
            obtain ⟨⟨dq, osq⟩, hw''⟩ := hw'
            subst hw''
            have hb3 := hBW.trans ((below_regrown W dq osq).mono hBW.size)
            generalize Go.Sort.grow (redrawn W dq) osq = w3 at hb3 ⊢
            clear m0 m1 m2 m5
            go_wp2_with fail
            go_ret
            exact ⟨rfl, hb3⟩
          | true =>
            cases tp with
            | false =>
              have hvf := hno.out (by rw [hat.out]; rfl)
              subst hvf
              refine wp_region_quiet_below (by kernel_rfl) (by kernel_rfl) ?_
              repeat (go_big_quiet_step (first | exact cN2.out _ _ | exact cP.out _ _))
              refine wpQuiet_nil ?_
              intro _ hw'
              obtain ⟨⟨dq, osq⟩, hw''⟩ := hw'
              subst hw''
              have hb3 := hBW.trans ((below_regrown W dq osq).mono hBW.size)
              generalize Go.Sort.grow (redrawn W dq) osq = w3 at hb3 ⊢
              clear m0 m1 m2 m5
              go_wp2_with fail
              go_ret
              exact ⟨rfl, hb3⟩
            | true =>
              by_cases hr0 : 0 ≤ ri
              · have hvf := hno.out (by rw [hat.out]; simp [hr0])
                subst hvf
                refine wp_region_quiet_below (by kernel_rfl) (by kernel_rfl) ?_
                repeat (go_big_quiet_step (first | exact cN2.out _ _ | exact cP.out _ _ | exact cA.out _ _))
                refine wpQuiet_nil ?_
                intro _ hw'
                obtain ⟨⟨dq, osq⟩, hw''⟩ := hw'
                subst hw''
                have hb3 := hBW.trans ((below_regrown W dq osq).mono hBW.size)
                generalize Go.Sort.grow (redrawn W dq) osq = w3 at hb3 ⊢
                clear m0 m1 m2 m5
                go_wp2_with fail
                go_ret
                exact ⟨rfl, hb3⟩
              · have hst' := Lib.hid (hst.out (by rw [hat.out]; simp [hr0]))
                refine wp_region_quiet_below (by kernel_rfl) (by kernel_rfl) ?_
                repeat (go_big_quiet_step (first | exact cN2.out _ _ | exact cP.out _ _ | exact cA.out _ _))
                refine wpQuiet_nil ?_
                intro _ hw'
                obtain ⟨⟨dq, osq⟩, hw''⟩ := hw'
                subst hw''
                have hb4 := hbw.trans ((below_regrown W dq osq).mono hbw.size)
                generalize Go.Sort.grow (redrawn W dq) osq = w3 at hb4 ⊢
                clear m0 m1 m2 m5
                go_wp2_with fail
                go_roundw
                case rel => exact ⟨k + 1, by go_num, by omega, hst'.out, hb4⟩
                case measure => simp [intOf]; omega
        · have hkn : k = n5 := by omega
          have hvt := hyes.out hall'.out (by rw [← hkn]; exact hall.out)
          subst hvt
          replace hkn := Lib.hid hkn
          go_wp2_with fail
          go_ret
          exact ⟨rfl, hB3⟩

theorem implValidG_any (d : Gl) (h : GlH) (v : Bool) (hv : v = glyphOk d) (lo hi : Nat) (w : World) (hr : GlRd w lo hi d h) (hhi : hi ≤ w.heap.size) (hm : d.small 1000000000) (hs : d.name.size ≤ 9223372036854775807 ∧ d.hints.size ≤ 9223372036854775807 ∧ ∀ a ∈ d.anchors, a.1.size ≤ 9223372036854775807) (hcap : h.anchors.n ≤ h.anchors.c) :
    Calls Tryz.prog 33 #[glV d h] w fun e w' => e = .returned (.bool v) ∧ Below w.heap.size w w' := by
  have lo1 := hr.1.1
  have lp1 := hr.2.1.1
  have la1 := hr.2.2.1
  cases htn : nameB d.name
  · rw [hv, glyph_f1 htn]; exact implValidG_n0 d.name d.code d.adv d.out d.parts d.anchors d.hints h.out.A h.parts.A h.anchors.A h.out.n h.out.c h.parts.n h.parts.c h.anchors.n h.anchors.c lo hi w hr.1 hr.2.1 hr.2.2 hhi hm hs.1 hs.2.1 htn.symm
  by_cases b1 : -1 ≤ d.code
  rotate_left
  · rw [hv, glyph_f2 (by simp [inB]; omega)]; exact implValidG_n1 d.name d.code d.adv d.out d.parts d.anchors d.hints h.out.A h.parts.A h.anchors.A h.out.n h.out.c h.parts.n h.parts.c h.anchors.n h.anchors.c lo hi w hr.1 hr.2.1 hr.2.2 hhi hm hs.1 hs.2.1 htn.symm (by omega)
  by_cases b2 : d.code ≤ 65535
  rotate_left
  · rw [hv, glyph_f2 (by simp [inB]; omega)]; exact implValidG_n2 d.name d.code d.adv d.out d.parts d.anchors d.hints h.out.A h.parts.A h.anchors.A h.out.n h.out.c h.parts.n h.parts.c h.anchors.n h.anchors.c lo hi w hr.1 hr.2.1 hr.2.2 hhi hm hs.1 hs.2.1 htn.symm b1 (by omega)
  by_cases b3 : 0 ≤ d.adv
  rotate_left
  · rw [hv, glyph_f3 (by simp [inB]; omega)]; exact implValidG_n3 d.name d.code d.adv d.out d.parts d.anchors d.hints h.out.A h.parts.A h.anchors.A h.out.n h.out.c h.parts.n h.parts.c h.anchors.n h.anchors.c lo hi w hr.1 hr.2.1 hr.2.2 hhi hm hs.1 hs.2.1 htn.symm b1 b2 (by omega)
  by_cases b4 : d.adv ≤ 262144
  rotate_left
  · rw [hv, glyph_f3 (by simp [inB]; omega)]; exact implValidG_n4 d.name d.code d.adv d.out d.parts d.anchors d.hints h.out.A h.parts.A h.anchors.A h.out.n h.out.c h.parts.n h.parts.c h.anchors.n h.anchors.c lo hi w hr.1 hr.2.1 hr.2.2 hhi hm hs.1 hs.2.1 htn.symm b1 b2 b3 (by omega)
  cases hto : outOk d.out
  · rw [hv, glyph_f4 hto]; exact implValidG_n5 d.name d.code d.adv d.out d.parts d.anchors d.hints h.out.A h.parts.A h.anchors.A h.out.n h.out.c h.parts.n h.parts.c h.anchors.n h.anchors.c lo hi w hr.1 hr.2.1 hr.2.2 hhi hm hs.1 hs.2.1 htn.symm b1 b2 b3 b4 hto.symm
  by_cases b9 : 0 < h.parts.n <;> by_cases b10 : 0 < h.out.n
  · rw [hv, glyph_f10 (by omega) (by omega)]; exact implValidG_n6 d.name d.code d.adv d.out d.parts d.anchors d.hints h.out.A h.parts.A h.anchors.A h.out.n h.out.c h.parts.n h.parts.c h.anchors.n h.anchors.c lo hi w hr.1 hr.2.1 hr.2.2 hhi hm hs.1 hs.2.1 htn.symm b1 b2 b3 b4 hto.symm b9 b10
  all_goals
    by_cases b6 : h.parts.n ≤ 6
    rotate_left
    · first | (exfalso; omega) | (rw [hv, glyph_f5 (by omega)]; exact implValidG_n7a d.name d.code d.adv d.out d.parts d.anchors d.hints h.out.A h.parts.A h.anchors.A h.out.n h.out.c h.parts.n h.parts.c h.anchors.n h.anchors.c lo hi w hr.1 hr.2.1 hr.2.2 hhi hm hs.1 hs.2.1 htn.symm b1 b2 b3 b4 hto.symm b9 b10 (by omega))
    by_cases b7 : h.anchors.n ≤ 6
    rotate_left
    · rw [hv, glyph_f6 (by omega)]
      first | exact implValidG_n8a d.name d.code d.adv d.out d.parts d.anchors d.hints h.out.A h.parts.A h.anchors.A h.out.n h.out.c h.parts.n h.parts.c h.anchors.n h.anchors.c lo hi w hr.1 hr.2.1 hr.2.2 hhi hm hs.1 hs.2.1 htn.symm b1 b2 b3 b4 hto.symm b9 b10 b6 (by omega) | exact implValidG_n8b d.name d.code d.adv d.out d.parts d.anchors d.hints h.out.A h.parts.A h.anchors.A h.out.n h.out.c h.parts.n h.parts.c h.anchors.n h.anchors.c lo hi w hr.1 hr.2.1 hr.2.2 hhi hm hs.1 hs.2.1 htn.symm b1 b2 b3 b4 hto.symm b9 b10 b6 (by omega) | exact implValidG_n8c d.name d.code d.adv d.out d.parts d.anchors d.hints h.out.A h.parts.A h.anchors.A h.out.n h.out.c h.parts.n h.parts.c h.anchors.n h.anchors.c lo hi w hr.1 hr.2.1 hr.2.2 hhi hm hs.1 hs.2.1 htn.symm b1 b2 b3 b4 hto.symm b9 b10 b6 (by omega)
    by_cases b8 : d.hints.size ≤ 400
    rotate_left
    · rw [hv, glyph_f7 (by omega)]
      first | exact implValidG_n9a d.name d.code d.adv d.out d.parts d.anchors d.hints h.out.A h.parts.A h.anchors.A h.out.n h.out.c h.parts.n h.parts.c h.anchors.n h.anchors.c lo hi w hr.1 hr.2.1 hr.2.2 hhi hm hs.1 hs.2.1 htn.symm b1 b2 b3 b4 hto.symm b9 b10 b6 b7 (by omega) | exact implValidG_n9b d.name d.code d.adv d.out d.parts d.anchors d.hints h.out.A h.parts.A h.anchors.A h.out.n h.out.c h.parts.n h.parts.c h.anchors.n h.anchors.c lo hi w hr.1 hr.2.1 hr.2.2 hhi hm hs.1 hs.2.1 htn.symm b1 b2 b3 b4 hto.symm b9 b10 b6 b7 (by omega) | exact implValidG_n9c d.name d.code d.adv d.out d.parts d.anchors d.hints h.out.A h.parts.A h.anchors.A h.out.n h.out.c h.parts.n h.parts.c h.anchors.n h.anchors.c lo hi w hr.1 hr.2.1 hr.2.2 hhi hm hs.1 hs.2.1 htn.symm b1 b2 b3 b4 hto.symm b9 b10 b6 b7 (by omega)
    first | exact implValidG_la d.name d.code d.adv d.out d.parts d.anchors d.hints h.out.A h.parts.A h.anchors.A h.out.n h.out.c h.parts.n h.parts.c h.anchors.n h.anchors.c lo hi w hr.1 hr.2.1 hr.2.2 hhi hm hs.1 hs.2.1 hs.2.2 hcap v hv htn.symm b1 b2 b3 b4 hto.symm b9 b10 b6 b7 b8 | exact implValidG_lb d.name d.code d.adv d.out d.parts d.anchors d.hints h.out.A h.parts.A h.anchors.A h.out.n h.out.c h.parts.n h.parts.c h.anchors.n h.anchors.c lo hi w hr.1 hr.2.1 hr.2.2 hhi hm hs.1 hs.2.1 hs.2.2 hcap v hv htn.symm b1 b2 b3 b4 hto.symm b9 b10 b6 b7 b8 | exact implValidG_lc d.name d.code d.adv d.out d.parts d.anchors d.hints h.out.A h.parts.A h.anchors.A h.out.n h.out.c h.parts.n h.parts.c h.anchors.n h.anchors.c lo hi w hr.1 hr.2.1 hr.2.2 hhi hm hs.1 hs.2.1 hs.2.2 hcap v hv htn.symm b1 b2 b3 b4 hto.symm b9 b10 b6 b7 b8
end Go.Proofs.YtfkidklpjiiclaaGreat

