/- The start of the hint machine: the reference. Printed by mk_st3.py. Conditions: as each states. -/
import Derived.Test.YtgngcllodofimaaSt2
import Derived.Test.YtgngcllodofimaaRowk
import Derived.Test.YtgngcllodofimaaHinter
import Derived.Deep.RegionHeld3
namespace Go.Proofs.Ytgngcllodofimaa
open Go.RowKit
set_option linter.unusedVariables false
set_option maxRecDepth 100000

def startPts (Ls : List (List Knot)) (adv : Int) : List (Int × Int) := knotPts Ls ++ [(0, 0), (adv, 0)]
def startD (Ls : List (List Knot)) (adv : Int) (V : List Int) (s u : Int) : HinterD where
  size := s
  orig := (startPts Ls adv).map (scQ s u)
  now := (startPts Ls adv).map (scQ s u)
  tx := List.replicate (startPts Ls adv).length false
  ty := List.replicate (startPts Ls adv).length false
  ends := endsL Ls
  values := V.map fun v => rnd (v * s * 64) u
  stack := []
  axisY := false
  ref := 0
  state := 1
  cut := 32
  least := 64
def zeroD : HinterD := ⟨0, [], [], [], [], [], [], [], false, 0, 0, 0, 0⟩
def startF (Ls : List (List Knot)) (adv : Int) (V : List Int) (s u : Int) : HinterD × Int := if 242 < (startPts Ls adv).length then (zeroD, 5) else (startD Ls adv V s u, 0)
theorem startPts_len (Ls : List (List Knot)) (adv : Int) : (startPts Ls adv).length = sumK Ls Ls.length + 2 := by
  unfold startPts
  rw [List.length_append, ← knotPts_len, List.take_length]; rfl

/-- a state of the hint machine whose seven rows are the call's own -/
def hinRows (d : HinterD) (h : HinterH) : List RowE := [⟨25, 2, .slice h.orig.A h.orig.n h.orig.c, h.orig.n, d.orig.flatMap ptC⟩, ⟨25, 2, .slice h.now.A h.now.n h.now.c, h.now.n, d.now.flatMap ptC⟩,
  ⟨4, 1, .slice h.tx.A h.tx.n h.tx.c, h.tx.n, d.tx.flatMap boolC⟩, ⟨4, 1, .slice h.ty.A h.ty.n h.ty.c, h.ty.n, d.ty.flatMap boolC⟩, ⟨2, 1, .slice h.ends.A h.ends.n h.ends.c, h.ends.n, d.ends.flatMap intC⟩,
  ⟨2, 1, .slice h.values.A h.values.n h.values.c, h.values.n, d.values.flatMap intC⟩, ⟨2, 1, .slice h.stack.A h.stack.n h.stack.c, h.stack.n, d.stack.flatMap intC⟩]
structure HinLen (d : HinterD) (h : HinterH) : Prop where
  l0 : d.orig.length = h.orig.n
  l1 : d.now.length = h.now.n
  l2 : d.tx.length = h.tx.n
  l3 : d.ty.length = h.ty.n
  l4 : d.ends.length = h.ends.n
  l5 : d.values.length = h.values.n
  l6 : d.stack.length = h.stack.n
def HinOwn (w : World) (lo : Nat) (d : HinterD) (h : HinterH) : Prop := Rows w lo (hinRows d h) ∧ HinLen d h
theorem HinOwn.rd {w : World} {lo : Nat} {d : HinterD} {h : HinterH} (r : HinOwn w lo d h) : HinterRd w lo w.heap.size d h := by
  obtain ⟨r, l⟩ := r
  exact ⟨rdS_own ptC_len (by omega) (r.own 0 rfl) l.l0, rdS_own ptC_len (by omega) (r.own 1 rfl) l.l1, rdS_own boolC_len (by omega) (r.own 2 rfl) l.l2, rdS_own boolC_len (by omega) (r.own 3 rfl) l.l3, rdS_own intC_len (by omega) (r.own 4 rfl) l.l4, rdS_own intC_len (by omega) (r.own 5 rfl) l.l5, rdS_own intC_len (by omega) (r.own 6 rfl) l.l6⟩
theorem rows_nil7 (w : World) (lo : Nat) (e0 s0 e1 s1 e2 s2 e3 s3 e4 s4 e5 s5 e6 s6 : Nat) : Rows w lo [⟨e0, s0, .slice none 0 0, 0, []⟩, ⟨e1, s1, .slice none 0 0, 0, []⟩, ⟨e2, s2, .slice none 0 0, 0, []⟩, ⟨e3, s3, .slice none 0 0, 0, []⟩, ⟨e4, s4, .slice none 0 0, 0, []⟩, ⟨e5, s5, .slice none 0 0, 0, []⟩, ⟨e6, s6, .slice none 0 0, 0, []⟩] :=
  Rows.nils w lo (Rows.nils w lo (Rows.nils w lo (Rows.nils w lo (Rows.nils w lo (Rows.nils w lo (Rows.nils w lo (Rows.nil w lo) _ _) _ _) _ _) _ _) _ _) _ _) _ _
def zeroH : HinterH := ⟨⟨none, 0, 0⟩, ⟨none, 0, 0⟩, ⟨none, 0, 0⟩, ⟨none, 0, 0⟩, ⟨none, 0, 0⟩, ⟨none, 0, 0⟩, ⟨none, 0, 0⟩⟩
theorem HinOwn.zero (w : World) (lo : Nat) : HinOwn w lo zeroD zeroH := ⟨rows_nil7 w lo _ _ _ _ _ _ _ _ _ _ _ _ _ _, ⟨rfl, rfl, rfl, rfl, rfl, rfl, rfl⟩⟩
theorem take_map_step {α β : Type} {f : α → β} {L : List α} {k : Nat} {a : α} (h : L[k]? = some a) : (L.map f).take (k + 1) = (L.map f).take k ++ [f a] := by
  rw [List.take_add_one, List.getElem?_map, h]; rfl
theorem rep_step {α : Type} (k : Nat) (b : α) : List.replicate (k + 1) b = List.replicate k b ++ [b] := List.replicate_succ'

theorem set13 {w : World} {x : Nat} {t : TypeId} {v0 v1 v2 v3 v4 v5 v6 v7 v8 v9 v10 v11 v12 : Value} (h : w.heap[x]? = some (.cells #[v0, v1, v2, v3, v4, v5, v6, v7, v8, v9, v10, v11, v12] t (0, 0))) (u0 u1 u2 u3 u4 u5 u6 u7 u8 u9 u10 u11 u12 : Value) :
    (((((((((((((w.setCell ⟨x, 0, none⟩ u0).setCell ⟨x, 1, none⟩ u1).setCell ⟨x, 2, none⟩ u2).setCell ⟨x, 3, none⟩ u3).setCell ⟨x, 4, none⟩ u4).setCell ⟨x, 5, none⟩ u5).setCell ⟨x, 6, none⟩ u6).setCell ⟨x, 7, none⟩ u7).setCell ⟨x, 8, none⟩ u8).setCell ⟨x, 9, none⟩ u9).setCell ⟨x, 10, none⟩ u10).setCell ⟨x, 11, none⟩ u11).setCell ⟨x, 12, none⟩ u12).heap[x]? = some (.cells #[u0, u1, u2, u3, u4, u5, u6, u7, u8, u9, u10, u11, u12] t (0, 0)) := by
  have h1 : (w.setCell ⟨x, 0, none⟩ u0).heap[x]? = some (.cells #[u0, v1, v2, v3, v4, v5, v6, v7, v8, v9, v10, v11, v12] t (0, 0)) := Go.Joins.block_setCell h u0
  have h2 : ((w.setCell ⟨x, 0, none⟩ u0).setCell ⟨x, 1, none⟩ u1).heap[x]? = some (.cells #[u0, u1, v2, v3, v4, v5, v6, v7, v8, v9, v10, v11, v12] t (0, 0)) := Go.Joins.block_setCell h1 u1
  have h3 : (((w.setCell ⟨x, 0, none⟩ u0).setCell ⟨x, 1, none⟩ u1).setCell ⟨x, 2, none⟩ u2).heap[x]? = some (.cells #[u0, u1, u2, v3, v4, v5, v6, v7, v8, v9, v10, v11, v12] t (0, 0)) := Go.Joins.block_setCell h2 u2
  have h4 : ((((w.setCell ⟨x, 0, none⟩ u0).setCell ⟨x, 1, none⟩ u1).setCell ⟨x, 2, none⟩ u2).setCell ⟨x, 3, none⟩ u3).heap[x]? = some (.cells #[u0, u1, u2, u3, v4, v5, v6, v7, v8, v9, v10, v11, v12] t (0, 0)) := Go.Joins.block_setCell h3 u3
  have h5 : (((((w.setCell ⟨x, 0, none⟩ u0).setCell ⟨x, 1, none⟩ u1).setCell ⟨x, 2, none⟩ u2).setCell ⟨x, 3, none⟩ u3).setCell ⟨x, 4, none⟩ u4).heap[x]? = some (.cells #[u0, u1, u2, u3, u4, v5, v6, v7, v8, v9, v10, v11, v12] t (0, 0)) := Go.Joins.block_setCell h4 u4
  have h6 : ((((((w.setCell ⟨x, 0, none⟩ u0).setCell ⟨x, 1, none⟩ u1).setCell ⟨x, 2, none⟩ u2).setCell ⟨x, 3, none⟩ u3).setCell ⟨x, 4, none⟩ u4).setCell ⟨x, 5, none⟩ u5).heap[x]? = some (.cells #[u0, u1, u2, u3, u4, u5, v6, v7, v8, v9, v10, v11, v12] t (0, 0)) := Go.Joins.block_setCell h5 u5
  have h7 : (((((((w.setCell ⟨x, 0, none⟩ u0).setCell ⟨x, 1, none⟩ u1).setCell ⟨x, 2, none⟩ u2).setCell ⟨x, 3, none⟩ u3).setCell ⟨x, 4, none⟩ u4).setCell ⟨x, 5, none⟩ u5).setCell ⟨x, 6, none⟩ u6).heap[x]? = some (.cells #[u0, u1, u2, u3, u4, u5, u6, v7, v8, v9, v10, v11, v12] t (0, 0)) := Go.Joins.block_setCell h6 u6
  have h8 : ((((((((w.setCell ⟨x, 0, none⟩ u0).setCell ⟨x, 1, none⟩ u1).setCell ⟨x, 2, none⟩ u2).setCell ⟨x, 3, none⟩ u3).setCell ⟨x, 4, none⟩ u4).setCell ⟨x, 5, none⟩ u5).setCell ⟨x, 6, none⟩ u6).setCell ⟨x, 7, none⟩ u7).heap[x]? = some (.cells #[u0, u1, u2, u3, u4, u5, u6, u7, v8, v9, v10, v11, v12] t (0, 0)) := Go.Joins.block_setCell h7 u7
  have h9 : (((((((((w.setCell ⟨x, 0, none⟩ u0).setCell ⟨x, 1, none⟩ u1).setCell ⟨x, 2, none⟩ u2).setCell ⟨x, 3, none⟩ u3).setCell ⟨x, 4, none⟩ u4).setCell ⟨x, 5, none⟩ u5).setCell ⟨x, 6, none⟩ u6).setCell ⟨x, 7, none⟩ u7).setCell ⟨x, 8, none⟩ u8).heap[x]? = some (.cells #[u0, u1, u2, u3, u4, u5, u6, u7, u8, v9, v10, v11, v12] t (0, 0)) := Go.Joins.block_setCell h8 u8
  have h10 : ((((((((((w.setCell ⟨x, 0, none⟩ u0).setCell ⟨x, 1, none⟩ u1).setCell ⟨x, 2, none⟩ u2).setCell ⟨x, 3, none⟩ u3).setCell ⟨x, 4, none⟩ u4).setCell ⟨x, 5, none⟩ u5).setCell ⟨x, 6, none⟩ u6).setCell ⟨x, 7, none⟩ u7).setCell ⟨x, 8, none⟩ u8).setCell ⟨x, 9, none⟩ u9).heap[x]? = some (.cells #[u0, u1, u2, u3, u4, u5, u6, u7, u8, u9, v10, v11, v12] t (0, 0)) := Go.Joins.block_setCell h9 u9
  have h11 : (((((((((((w.setCell ⟨x, 0, none⟩ u0).setCell ⟨x, 1, none⟩ u1).setCell ⟨x, 2, none⟩ u2).setCell ⟨x, 3, none⟩ u3).setCell ⟨x, 4, none⟩ u4).setCell ⟨x, 5, none⟩ u5).setCell ⟨x, 6, none⟩ u6).setCell ⟨x, 7, none⟩ u7).setCell ⟨x, 8, none⟩ u8).setCell ⟨x, 9, none⟩ u9).setCell ⟨x, 10, none⟩ u10).heap[x]? = some (.cells #[u0, u1, u2, u3, u4, u5, u6, u7, u8, u9, u10, v11, v12] t (0, 0)) := Go.Joins.block_setCell h10 u10
  have h12 : ((((((((((((w.setCell ⟨x, 0, none⟩ u0).setCell ⟨x, 1, none⟩ u1).setCell ⟨x, 2, none⟩ u2).setCell ⟨x, 3, none⟩ u3).setCell ⟨x, 4, none⟩ u4).setCell ⟨x, 5, none⟩ u5).setCell ⟨x, 6, none⟩ u6).setCell ⟨x, 7, none⟩ u7).setCell ⟨x, 8, none⟩ u8).setCell ⟨x, 9, none⟩ u9).setCell ⟨x, 10, none⟩ u10).setCell ⟨x, 11, none⟩ u11).heap[x]? = some (.cells #[u0, u1, u2, u3, u4, u5, u6, u7, u8, u9, u10, u11, v12] t (0, 0)) := Go.Joins.block_setCell h11 u11
  have h13 : (((((((((((((w.setCell ⟨x, 0, none⟩ u0).setCell ⟨x, 1, none⟩ u1).setCell ⟨x, 2, none⟩ u2).setCell ⟨x, 3, none⟩ u3).setCell ⟨x, 4, none⟩ u4).setCell ⟨x, 5, none⟩ u5).setCell ⟨x, 6, none⟩ u6).setCell ⟨x, 7, none⟩ u7).setCell ⟨x, 8, none⟩ u8).setCell ⟨x, 9, none⟩ u9).setCell ⟨x, 10, none⟩ u10).setCell ⟨x, 11, none⟩ u11).setCell ⟨x, 12, none⟩ u12).heap[x]? = some (.cells #[u0, u1, u2, u3, u4, u5, u6, u7, u8, u9, u10, u11, u12] t (0, 0)) := Go.Joins.block_setCell h12 u12
  exact h13
theorem below13 {B x : Nat} {w w0 : World} (h : Below B w0 w) (hx : B ≤ x) (u0 u1 u2 u3 u4 u5 u6 u7 u8 u9 u10 u11 u12 : Value) : Below B w0 (((((((((((((w.setCell ⟨x, 0, none⟩ u0).setCell ⟨x, 1, none⟩ u1).setCell ⟨x, 2, none⟩ u2).setCell ⟨x, 3, none⟩ u3).setCell ⟨x, 4, none⟩ u4).setCell ⟨x, 5, none⟩ u5).setCell ⟨x, 6, none⟩ u6).setCell ⟨x, 7, none⟩ u7).setCell ⟨x, 8, none⟩ u8).setCell ⟨x, 9, none⟩ u9).setCell ⟨x, 10, none⟩ u10).setCell ⟨x, 11, none⟩ u11).setCell ⟨x, 12, none⟩ u12) :=
  ((((((((((((h.setCell hx _).setCell hx _).setCell hx _).setCell hx _).setCell hx _).setCell hx _).setCell hx _).setCell hx _).setCell hx _).setCell hx _).setCell hx _).setCell hx _).setCell hx _
theorem rows13 {lo x : Nat} {w : World} {R : List RowE} (h : Rows w lo R) (hx : x < lo) (u0 u1 u2 u3 u4 u5 u6 u7 u8 u9 u10 u11 u12 : Value) : Rows (((((((((((((w.setCell ⟨x, 0, none⟩ u0).setCell ⟨x, 1, none⟩ u1).setCell ⟨x, 2, none⟩ u2).setCell ⟨x, 3, none⟩ u3).setCell ⟨x, 4, none⟩ u4).setCell ⟨x, 5, none⟩ u5).setCell ⟨x, 6, none⟩ u6).setCell ⟨x, 7, none⟩ u7).setCell ⟨x, 8, none⟩ u8).setCell ⟨x, 9, none⟩ u9).setCell ⟨x, 10, none⟩ u10).setCell ⟨x, 11, none⟩ u11).setCell ⟨x, 12, none⟩ u12) lo R :=
  ((((((((((((h.set (a := ⟨x, 0, none⟩) hx _).set (a := ⟨x, 1, none⟩) hx _).set (a := ⟨x, 2, none⟩) hx _).set (a := ⟨x, 3, none⟩) hx _).set (a := ⟨x, 4, none⟩) hx _).set (a := ⟨x, 5, none⟩) hx _).set (a := ⟨x, 6, none⟩) hx _).set (a := ⟨x, 7, none⟩) hx _).set (a := ⟨x, 8, none⟩) hx _).set (a := ⟨x, 9, none⟩) hx _).set (a := ⟨x, 10, none⟩) hx _).set (a := ⟨x, 11, none⟩) hx _).set (a := ⟨x, 12, none⟩) hx _
theorem size13 {x : Nat} {w : World} (u0 u1 u2 u3 u4 u5 u6 u7 u8 u9 u10 u11 u12 : Value) : (((((((((((((w.setCell ⟨x, 0, none⟩ u0).setCell ⟨x, 1, none⟩ u1).setCell ⟨x, 2, none⟩ u2).setCell ⟨x, 3, none⟩ u3).setCell ⟨x, 4, none⟩ u4).setCell ⟨x, 5, none⟩ u5).setCell ⟨x, 6, none⟩ u6).setCell ⟨x, 7, none⟩ u7).setCell ⟨x, 8, none⟩ u8).setCell ⟨x, 9, none⟩ u9).setCell ⟨x, 10, none⟩ u10).setCell ⟨x, 11, none⟩ u11).setCell ⟨x, 12, none⟩ u12).heap.size = w.heap.size := by simp

set_option maxHeartbeats 8000000 in
theorem l20Start_any (X0 : Nat) (A : Option Addr) (n c lo hi : Nat) (Ls : List (List Knot)) (adv : Int) (AV : Option Addr) (nv cv lov hiv : Nat) (V : List Int) (s u : Int) (w : World) (hX0 : X0 < w.heap.size) (hcell : w.cell? ⟨X0, 0, none⟩ = some (.slice A n c)) (hr : OutRd w lo hi A n Ls) (hhi : hi ≤ w.heap.size) (hn : n ≤ 12) (hK : ∀ K ∈ Ls, K.length ≤ 60) (hpt : ∀ K ∈ Ls, ∀ p ∈ K, askB p.1 s u = true ∧ askB p.2.1 s u = true)
    (hrv : RdS 1 (FlatR intC) w lov hiv AV nv V) (hhiv : hiv ≤ w.heap.size) (hnv : nv ≤ 16) (hV : ∀ v ∈ V, askB v s u = true) (hadv : askB adv s u = true) :
    Calls Try.prog 89 #[.pointer (some ⟨X0, 0, none⟩), .int .i64 adv, .slice AV nv cv, .int .i64 s, .int .i64 u] w fun e w' => ∃ h : HinterH, e = .returned (.tuple #[hinV (startF Ls adv V s u).1 h, .int .i64 (startF Ls adv V s u).2]) ∧ HinOwn w' w.heap.size (startF Ls adv V s u).1 h ∧ Below w.heap.size w w' := by
  have hll := Lib.hid hr.1
  have hPl : (startPts Ls adv).length = sumK Ls n + 2 := by rw [startPts_len, hll.out]
  have hNb := sumK_le hK n
  have hask : ∀ p ∈ startPts Ls adv, askB p.1 s u = true ∧ askB p.2 s u = true := fun p hp => by
    have h0 : askB 0 s u = true := ask_in hadv (by omega) (by omega)
    unfold startPts at hp
    rcases List.mem_append.1 hp with h | h
    · obtain ⟨K, h1, h2⟩ := List.mem_flatMap.1 h
      obtain ⟨q, h3, rfl⟩ := List.mem_map.1 h2
      exact hpt K h1 q h3
    · simp at h
      rcases h with rfl | rfl
      · exact ⟨h0, h0⟩
      · exact ⟨hadv, h0⟩
  replace hr := Lib.hid hr
  replace hrv := Lib.hid hrv
  replace hK := Lib.hid hK
  replace hask := Lib.hid hask
  replace hV := Lib.hid hV
  clear hpt
  have hB0 : Below w.heap.size w (w.alloc (.cells #[.int .i64 0, .slice none 0 0, .slice none 0 0, .slice none 0 0, .slice none 0 0, .slice none 0 0, .slice none 0 0, .slice none 0 0, .bool false, .int .i64 0, .int .i64 0, .int .i64 0, .int .i64 0] 65 (0, 0))) := Go.Joins.below_alloc1 _ _
  have hk := Lib.hid (l20Knots_any X0 A n c lo hi Ls (w.alloc (.cells #[.int .i64 0, .slice none 0 0, .slice none 0 0, .slice none 0 0, .slice none 0 0, .slice none 0 0, .slice none 0 0, .slice none 0 0, .bool false, .int .i64 0, .int .i64 0, .int .i64 0, .int .i64 0] 65 (0, 0))) (by simp; omega) ((hB0.cell hX0).trans hcell) (hr.out.frame good_loop (Below.sameB hB0 hhi)) (Nat.le_trans hhi hB0.size) hn hK.out)
  have hR0 : Hid ((w.alloc (.cells #[.int .i64 0, .slice none 0 0, .slice none 0 0, .slice none 0 0, .slice none 0 0, .slice none 0 0, .slice none 0 0, .slice none 0 0, .bool false, .int .i64 0, .int .i64 0, .int .i64 0, .int .i64 0] 65 (0, 0))).heap[w.heap.size]? = some (.cells #[.int .i64 0, .slice none 0 0, .slice none 0 0, .slice none 0 0, .slice none 0 0, .slice none 0 0, .slice none 0 0, .slice none 0 0, .bool false, .int .i64 0, .int .i64 0, .int .i64 0, .int .i64 0] 65 (0, 0))) := heap_alloc_new w _
  have hz0 : (w.alloc (.cells #[.int .i64 0, .slice none 0 0, .slice none 0 0, .slice none 0 0, .slice none 0 0, .slice none 0 0, .slice none 0 0, .slice none 0 0, .bool false, .int .i64 0, .int .i64 0, .int .i64 0, .int .i64 0] 65 (0, 0))).heap.size = w.heap.size + 1 := by simp
  obtain ⟨N, hN⟩ : ∃ N, N = sumK Ls n + 2 := ⟨_, rfl⟩
  have hNk : sumK Ls n + 2 = N := hN.symm
  replace hN := Lib.hid hN
  by_cases hfull : 242 < N
  · have hF : startF Ls adv V s u = (zeroD, 5) := by unfold startF; rw [if_pos (by omega)]
    rw [hF]
    clear hF
    have hfi : (242 : Int) < (N : Int) := by omega
    go_enter Try.func89, Try.ntmps89
    go_wp2_with fail
    generalize w.alloc (.cells #[.int .i64 0, .slice none 0 0, .slice none 0 0, .slice none 0 0, .slice none 0 0, .slice none 0 0, .slice none 0 0, .slice none 0 0, .bool false, .int .i64 0, .int .i64 0, .int .i64 0, .int .i64 0] 65 (0, 0)) = w0 at *
    refine hk.out.mono ?_
    rintro e w1 ⟨A1, cc1, rfl, ho1, hb1⟩
    have hz1 := hb1.size
    have HR1 := Lib.hid ((hb1.block w.heap.size (by omega)).trans hR0.out)
    have hB1 := hB0.trans (hb1.mono hB0.size)
    replace ho1 := Lib.hid ho1
    clear hk hb1 hR0
    have hm1 : sumK Ls n + 2 ≤ 1000000000 := by omega
    go_wp2_with (at_builtin; refine wpAppAt rfl (.tmp 20) (.tmp 24) elemPt rfl (v := .slice A1 (sumK Ls n) cc1) (n := sumK Ls n) (xs := (knotPts Ls).flatMap ptC) rfl (ho1.out.alloc _) rfl (src_many (m := 2) (cs := [.int .i64 0, .int .i64 0, .int .i64 adv, .int .i64 0]) rfl (by simp [Value.oneCell']) (by simp)) (by omega) (by omega) (by simp; omega) N hN.out ?_; intro AK cK w2 ho2 hg2 _; have hz2 := hg2.size; simp at hz2; have HR2 : Hid (w2.heap[w.heap.size]? = _) := ((hg2.block w.heap.size (by simp; omega) (fun e => by have := (ho1.out.lt _ e.symm).1; omega)).trans ((Below.heap_alloc _ _ _ (by omega)).trans HR1.out)); have hB2 : Below w.heap.size w w2 := (hB1.alloc hB1.size _).grown hg2 (by simp; omega) (fun g hg => by have := (ho1.out.lt g hg).1; omega); replace ho2 := Lib.hid ho2; replace hg2 := Lib.hid hg2; have cr0 : w2.cell? ⟨w.heap.size, 0, none⟩ = some (.int .i64 0) := (by rw [Go.Joins.cell_of_block HR2.out]; rfl); have cr1 : w2.cell? ⟨w.heap.size, 1, none⟩ = some (.slice none 0 0) := (by rw [Go.Joins.cell_of_block HR2.out]; rfl); have cr2 : w2.cell? ⟨w.heap.size, 2, none⟩ = some (.slice none 0 0) := (by rw [Go.Joins.cell_of_block HR2.out]; rfl); have cr3 : w2.cell? ⟨w.heap.size, 3, none⟩ = some (.slice none 0 0) := (by rw [Go.Joins.cell_of_block HR2.out]; rfl); have cr4 : w2.cell? ⟨w.heap.size, 4, none⟩ = some (.slice none 0 0) := (by rw [Go.Joins.cell_of_block HR2.out]; rfl); have cr5 : w2.cell? ⟨w.heap.size, 5, none⟩ = some (.slice none 0 0) := (by rw [Go.Joins.cell_of_block HR2.out]; rfl); have cr6 : w2.cell? ⟨w.heap.size, 6, none⟩ = some (.slice none 0 0) := (by rw [Go.Joins.cell_of_block HR2.out]; rfl); have cr7 : w2.cell? ⟨w.heap.size, 7, none⟩ = some (.slice none 0 0) := (by rw [Go.Joins.cell_of_block HR2.out]; rfl); have cr8 : w2.cell? ⟨w.heap.size, 8, none⟩ = some (.bool false) := (by rw [Go.Joins.cell_of_block HR2.out]; rfl); have cr9 : w2.cell? ⟨w.heap.size, 9, none⟩ = some (.int .i64 0) := (by rw [Go.Joins.cell_of_block HR2.out]; rfl); have cr10 : w2.cell? ⟨w.heap.size, 10, none⟩ = some (.int .i64 0) := (by rw [Go.Joins.cell_of_block HR2.out]; rfl); have cr11 : w2.cell? ⟨w.heap.size, 11, none⟩ = some (.int .i64 0) := (by rw [Go.Joins.cell_of_block HR2.out]; rfl); have cr12 : w2.cell? ⟨w.heap.size, 12, none⟩ = some (.int .i64 0) := (by rw [Go.Joins.cell_of_block HR2.out]; rfl); have crf : ∀ o, w2.frozen? ⟨w.heap.size, o, none⟩ = false := Go.Joins.unfrozen_of_block HR2.out; have crl : w.heap.size < w2.heap.size := (by omega))
    refine bodyPost_ret (v := .tuple #[hinV zeroD zeroH, .int .i64 5]) (by simp [results, Try.results89, go_sem, cr0, cr1, cr2, cr3, cr4, cr5, cr6, cr7, cr8, cr9, cr10, cr11, cr12, zeroD, zeroH]) rfl ⟨zeroH, rfl, HinOwn.zero _ _, ?_⟩
    repeat (first | refine Below.setCell ?_ (by first | omega | (simp <;> omega)) _ | exact hB2)
  · have hF : startF Ls adv V s u = (startD Ls adv V s u, 0) := by unfold startF; rw [if_neg (by omega)]
    rw [hF]
    clear hF
    have hfi : ¬ ((242 : Int) < (N : Int)) := by omega
    go_enter Try.func89, Try.ntmps89
    go_wp2_with fail
    generalize w.alloc (.cells #[.int .i64 0, .slice none 0 0, .slice none 0 0, .slice none 0 0, .slice none 0 0, .slice none 0 0, .slice none 0 0, .slice none 0 0, .bool false, .int .i64 0, .int .i64 0, .int .i64 0, .int .i64 0] 65 (0, 0)) = w0 at *
    refine hk.out.mono ?_
    rintro e w1 ⟨A1, cc1, rfl, ho1, hb1⟩
    have hz1 := hb1.size
    have HR1 := Lib.hid ((hb1.block w.heap.size (by omega)).trans hR0.out)
    have hB1 := hB0.trans (hb1.mono hB0.size)
    replace ho1 := Lib.hid ho1
    clear hk hb1 hR0
    have hm1 : sumK Ls n + 2 ≤ 1000000000 := by omega
    go_wp2_with (at_builtin; refine wpAppAt rfl (.tmp 20) (.tmp 24) elemPt rfl (v := .slice A1 (sumK Ls n) cc1) (n := sumK Ls n) (xs := (knotPts Ls).flatMap ptC) rfl (ho1.out.alloc _) rfl (src_many (m := 2) (cs := [.int .i64 0, .int .i64 0, .int .i64 adv, .int .i64 0]) rfl (by simp [Value.oneCell']) (by simp)) (by omega) (by omega) (by simp; omega) N hN.out ?_; intro AK cK w2 ho2 hg2 _; have hz2 := hg2.size; simp at hz2; have HR2 : Hid (w2.heap[w.heap.size]? = _) := ((hg2.block w.heap.size (by simp; omega) (fun e => by have := (ho1.out.lt _ e.symm).1; omega)).trans ((Below.heap_alloc _ _ _ (by omega)).trans HR1.out)); have hB2 : Below w.heap.size w w2 := (hB1.alloc hB1.size _).grown hg2 (by simp; omega) (fun g hg => by have := (ho1.out.lt g hg).1; omega); replace ho2 := Lib.hid ho2; replace hg2 := Lib.hid hg2)
    have hp2 : Hid (RdS 2 (FlatR ptC) w2 w0.heap.size w2.heap.size AK N (startPts Ls adv)) := rdS_own ptC_len (by omega) (by have h := ho2.out; rw [show (startPts Ls adv).flatMap ptC = (knotPts Ls).flatMap ptC ++ [.int .i64 0, .int .i64 0, .int .i64 adv, .int .i64 0] by simp [startPts, ptC]]; exact h) (by omega)
    clear ho2 hg2 ho1 HR1
    go_loopw [14] (fun i wr => ∃ (k : Nat) (a0 : Option Addr) (c0 : Nat) (a1 : Option Addr) (c1 : Nat) (a2 : Option Addr) (c2 : Nat) (a3 : Option Addr) (c3 : Nat), i = .int .i64 k ∧ k ≤ N ∧ wr.heap[w2.heap.size]? = some (.cells #[.int .i64 s, .slice a0 k c0, .slice a1 k c1, .slice a2 k c2, .slice a3 k c3, .slice none 0 0, .slice none 0 0, .slice none 0 0, .bool false, .int .i64 0, .int .i64 1, .int .i64 32, .int .i64 64] 65 (0, 0)) ∧ Rows wr (w2.heap.size + 1) [⟨25, 2, .slice a0 k c0, k, (((startPts Ls adv).map (scQ s u)).take k).flatMap ptC⟩, ⟨25, 2, .slice a1 k c1, k, (((startPts Ls adv).map (scQ s u)).take k).flatMap ptC⟩, ⟨4, 1, .slice a2 k c2, k, (List.replicate k false).flatMap boolC⟩, ⟨4, 1, .slice a3 k c3, k, (List.replicate k false).flatMap boolC⟩, ⟨2, 1, .slice none 0 0, 0, []⟩, ⟨2, 1, .slice none 0 0, 0, []⟩, ⟨2, 1, .slice none 0 0, 0, []⟩] ∧ Below w2.heap.size w2 wr ∧ w2.heap.size + 1 ≤ wr.heap.size) (fun i wr => N - (intOf i).toNat)
    case atStart =>
      refine ⟨0, none, 0, none, 0, none, 0, none, 0, rfl, Nat.zero_le _, heap_alloc_new w2 _, ?_, ?_, by simp⟩
      · simp only [List.take_zero, List.flatMap_nil, List.replicate_zero]
        exact rows_nil7 _ _ _ _ _ _ _ _ _ _ _ _ _ _ _ _
      exact (Below.refl _ _).alloc (Nat.le_refl _) _
    case round =>
      obtain ⟨k, a0, c0, a1, c1, a2, c2, a3, c3, rfl, hk, HXr, hRr, hbel, hz⟩ := hrel
      replace HXr := Lib.hid HXr
      replace hRr := Lib.hid hRr
      by_cases hlt : k < N
      · obtain ⟨b, off, p, rfl, hb1, hb2, hp, hcs⟩ := (hp2.out.frame (good_flat _) (Below.sameB hbel (Nat.le_refl _))).at hlt
        have q0 := hcs 0 _ rfl
        have q1 := hcs 1 _ rfl
        simp only [Nat.add_zero] at q0 q1
        have hbw : b < wr.heap.size := by omega
        obtain ⟨ha1, ha2⟩ := hask.out p (List.mem_of_getElem? hp)
        have hsc := Lib.hid (fun W => l20Scaled_any p.1 p.2 s u W ha1 ha2)
        have hst := Lib.hid (take_map_step (f := scQ s u) hp)
        obtain ⟨x, y⟩ := p
        dsimp only at q0 q1 hsc
        generalize scQ s u (x, y) = sp at *
        obtain ⟨sx, sy⟩ := sp
        dsimp only at hsc
        replace hp := Lib.hid hp
        clear hcs ha1 ha2 hb1 hb2
        go_wp2_with (first | (go_at_call 160; refine (hsc.out _).mono ?_; rintro e w3 ⟨rfl, hb3⟩; have hz3 := hb3.size; have hRw3 : Hid (Rows w3 (w2.heap.size + 1) [⟨25, 2, .slice a0 k c0, k, (((startPts Ls adv).map (scQ s u)).take k).flatMap ptC⟩, ⟨25, 2, .slice a1 k c1, k, (((startPts Ls adv).map (scQ s u)).take k).flatMap ptC⟩, ⟨4, 1, .slice a2 k c2, k, (List.replicate k false).flatMap boolC⟩, ⟨4, 1, .slice a3 k c3, k, (List.replicate k false).flatMap boolC⟩, ⟨2, 1, .slice none 0 0, 0, []⟩, ⟨2, 1, .slice none 0 0, 0, []⟩, ⟨2, 1, .slice none 0 0, 0, []⟩]) := hRr.out.below hb3; have Hw3 : Hid (w3.heap[w2.heap.size]? = some (.cells #[.int .i64 s, .slice a0 k c0, .slice a1 k c1, .slice a2 k c2, .slice a3 k c3, .slice none 0 0, .slice none 0 0, .slice none 0 0, .bool false, .int .i64 0, .int .i64 1, .int .i64 32, .int .i64 64] 65 (0, 0))) := (hb3.block w2.heap.size (by omega)).trans HXr.out; have hB3 : Hid (Below (w2.heap.size + 1) wr w3) := hb3.mono (by omega); clear hb3; have hne : w2.heap.size ≠ w3.heap.size := (by omega); have hne' : w3.heap.size ≠ w2.heap.size := (by omega); have ca1 : w3.cell? ⟨w2.heap.size, 1, none⟩ = some (.slice a0 k c0) := (by rw [Go.Joins.cell_of_block Hw3.out]; rfl); have caf : ∀ o, w3.frozen? ⟨w2.heap.size, o, none⟩ = false := Go.Joins.unfrozen_of_block Hw3.out; have cal : w2.heap.size < w3.heap.size := (by omega)) | (at_builtin; refine wpAppAt rfl (.tmp 46) (.tmp 48) elemPt rfl (v := .slice a0 k c0) (n := k) (xs := (((startPts Ls adv).map (scQ s u)).take k).flatMap ptC) rfl ((hRw3.out.below (by repeat (first | exact Below.refl _ _ | refine Below.setCell ?_ (by simp <;> omega) _ | refine Below.alloc ?_ (by simp <;> omega) _))).own 0 rfl) rfl (src_at (cs := [.int .i64 sx, .int .i64 sy]) rfl (by simp [Value.oneCell']) (by simp)) (by omega) (by omega) (by first | omega | (simp <;> omega)) (k + 1) rfl ?_; intro b0 d0 w4 ho hg hv; have hzw4 := hg.size; (try simp at hzw4); have hRw4 : Hid (Rows w4 (w2.heap.size + 1) [⟨25, 2, .slice (some ⟨w3.heap.size, 0, none⟩) 1 1, 1, [.int .i64 sx, .int .i64 sy]⟩, ⟨25, 2, .slice b0 (k + 1) d0, k + 1, (((startPts Ls adv).map (scQ s u)).take k).flatMap ptC ++ [.int .i64 sx, .int .i64 sy]⟩, ⟨25, 2, .slice a1 k c1, k, (((startPts Ls adv).map (scQ s u)).take k).flatMap ptC⟩, ⟨4, 1, .slice a2 k c2, k, (List.replicate k false).flatMap boolC⟩, ⟨4, 1, .slice a3 k c3, k, (List.replicate k false).flatMap boolC⟩, ⟨2, 1, .slice none 0 0, 0, []⟩, ⟨2, 1, .slice none 0 0, 0, []⟩, ⟨2, 1, .slice none 0 0, 0, []⟩]) := (by have h1 := (Rows.box hRw3.out (x := w3.heap.size) (e := 25) (cs := [.int .i64 sx, .int .i64 sy]) (heap_alloc_new w3 _) rfl (Nat.le_refl _) (by omega) (by repeat (first | exact Below.refl _ _ | refine Below.setCell ?_ (by simp <;> omega) _ | refine Below.alloc ?_ (by simp <;> omega) _))); have h2 := Rows.app (h1.alloc _) 1 rfl ho hg hv; exact h2); have Hw4 : Hid (w4.heap[w2.heap.size]? = some (.cells #[.int .i64 s, .slice a0 k c0, .slice a1 k c1, .slice a2 k c2, .slice a3 k c3, .slice none 0 0, .slice none 0 0, .slice none 0 0, .bool false, .int .i64 0, .int .i64 1, .int .i64 32, .int .i64 64] 65 (0, 0))) := (hg.block w2.heap.size (by first | omega | (simp <;> omega)) (fun e => by have := ((hRw3.out.own 0 rfl).lt _ e.symm).1; omega)).trans ((Below.block (B := w3.heap.size) (by repeat (first | exact Below.refl _ _ | refine Below.setCell ?_ (by simp <;> omega) _ | refine Below.alloc ?_ (by simp <;> omega) _)) _ (by omega)).trans Hw3.out); have hBgw4 : Hid (Below (w2.heap.size + 1) _ w4) := below_app ((hRw3.out.below (by repeat (first | exact Below.refl _ _ | refine Below.setCell ?_ (by simp <;> omega) _ | refine Below.alloc ?_ (by simp <;> omega) _))).own 0 rfl) hg (by first | omega | (simp <;> omega)); clear ho hg hv; have aq1 : w4.cell? ⟨w2.heap.size, 1, none⟩ = some (.slice a0 k c0) := (by rw [Go.Joins.cell_of_block Hw4.out]; rfl); have aq2 : w4.cell? ⟨w2.heap.size, 2, none⟩ = some (.slice a1 k c1) := (by rw [Go.Joins.cell_of_block Hw4.out]; rfl); have aqf : ∀ o, w4.frozen? ⟨w2.heap.size, o, none⟩ = false := Go.Joins.unfrozen_of_block Hw4.out; have aql : w2.heap.size < w4.heap.size := (by omega); have ap := Lib.hid (own_cellR (hRw4.out.own 0 rfl)); have ap0 : w4.cell? ⟨w3.heap.size, 0, none⟩ = some (.int .i64 sx) := ap.out 0 (by simp); have ap1 : w4.cell? ⟨w3.heap.size, 1, none⟩ = some (.int .i64 sy) := ap.out 1 (by simp); have apl : w3.heap.size < w4.heap.size := (by omega)) | (at_builtin; refine wpAppAt rfl (.tmp 52) (.tmp 54) elemPt rfl (v := .slice a1 k c1) (n := k) (xs := (((startPts Ls adv).map (scQ s u)).take k).flatMap ptC) rfl (((hRw4.out.set (a := ⟨w2.heap.size, 1, none⟩) (Nat.lt_succ_self _) _).alloc _).own 2 rfl) rfl (src_at (cs := [.int .i64 sx, .int .i64 sy]) rfl (by simp [Value.oneCell']) (by simp)) (by omega) (by omega) (by first | omega | (simp <;> omega)) (k + 1) rfl ?_; intro b1 d1 w5 ho hg hv; have hzw5 := hg.size; (try simp at hzw5); have hRw5 : Hid (Rows w5 (w2.heap.size + 1) [⟨25, 2, .slice (some ⟨w3.heap.size, 0, none⟩) 1 1, 1, [.int .i64 sx, .int .i64 sy]⟩, ⟨25, 2, .slice b0 (k + 1) d0, k + 1, (((startPts Ls adv).map (scQ s u)).take k).flatMap ptC ++ [.int .i64 sx, .int .i64 sy]⟩, ⟨25, 2, .slice b1 (k + 1) d1, k + 1, (((startPts Ls adv).map (scQ s u)).take k).flatMap ptC ++ [.int .i64 sx, .int .i64 sy]⟩, ⟨4, 1, .slice a2 k c2, k, (List.replicate k false).flatMap boolC⟩, ⟨4, 1, .slice a3 k c3, k, (List.replicate k false).flatMap boolC⟩, ⟨2, 1, .slice none 0 0, 0, []⟩, ⟨2, 1, .slice none 0 0, 0, []⟩, ⟨2, 1, .slice none 0 0, 0, []⟩]) := (by have h2 := Rows.app ((hRw4.out.set (a := ⟨w2.heap.size, 1, none⟩) (Nat.lt_succ_self _) _).alloc _) 2 rfl ho hg hv; exact h2); have Hw5 : Hid (w5.heap[w2.heap.size]? = some (.cells #[.int .i64 s, .slice b0 (k + 1) d0, .slice a1 k c1, .slice a2 k c2, .slice a3 k c3, .slice none 0 0, .slice none 0 0, .slice none 0 0, .bool false, .int .i64 0, .int .i64 1, .int .i64 32, .int .i64 64] 65 (0, 0))) := (hg.block w2.heap.size (by first | omega | (simp <;> omega)) (fun e => by have := ((hRw4.out.own 2 rfl).lt _ e.symm).1; omega)).trans ((Below.heap_alloc _ _ _ (by first | omega | (simp <;> omega))).trans (Go.Joins.block_setCell Hw4.out _)); have hBgw5 : Hid (Below (w2.heap.size + 1) _ w5) := below_app (((hRw4.out.set (a := ⟨w2.heap.size, 1, none⟩) (Nat.lt_succ_self _) _).alloc _).own 2 rfl) hg (by first | omega | (simp <;> omega)); clear ho hg hv; have bq2 : w5.cell? ⟨w2.heap.size, 2, none⟩ = some (.slice a1 k c1) := (by rw [Go.Joins.cell_of_block Hw5.out]; rfl); have bq3 : w5.cell? ⟨w2.heap.size, 3, none⟩ = some (.slice a2 k c2) := (by rw [Go.Joins.cell_of_block Hw5.out]; rfl); have bqf : ∀ o, w5.frozen? ⟨w2.heap.size, o, none⟩ = false := Go.Joins.unfrozen_of_block Hw5.out; have bql : w2.heap.size < w5.heap.size := (by omega); have bp := Lib.hid (own_cellR (hRw5.out.own 0 rfl)); have bp0 : w5.cell? ⟨w3.heap.size, 0, none⟩ = some (.int .i64 sx) := bp.out 0 (by simp); have bp1 : w5.cell? ⟨w3.heap.size, 1, none⟩ = some (.int .i64 sy) := bp.out 1 (by simp); have bpl : w3.heap.size < w5.heap.size := (by omega)) | (at_builtin; refine wpAppAt rfl (.tmp 58) (.tmp 59) elemBool rfl (v := .slice a2 k c2) (n := k) (xs := (List.replicate k false).flatMap boolC) rfl (((hRw5.out.set (a := ⟨w2.heap.size, 2, none⟩) (Nat.lt_succ_self _) _).alloc _).own 3 rfl) rfl (src_at (cs := [.bool false]) rfl (by simp [Value.oneCell']) (by simp)) (by omega) (by omega) (by first | omega | (simp <;> omega)) (k + 1) rfl ?_; intro b2 d2 w6 ho hg hv; have hzw6 := hg.size; (try simp at hzw6); have hRw6 : Hid (Rows w6 (w2.heap.size + 1) [⟨25, 2, .slice (some ⟨w3.heap.size, 0, none⟩) 1 1, 1, [.int .i64 sx, .int .i64 sy]⟩, ⟨25, 2, .slice b0 (k + 1) d0, k + 1, (((startPts Ls adv).map (scQ s u)).take k).flatMap ptC ++ [.int .i64 sx, .int .i64 sy]⟩, ⟨25, 2, .slice b1 (k + 1) d1, k + 1, (((startPts Ls adv).map (scQ s u)).take k).flatMap ptC ++ [.int .i64 sx, .int .i64 sy]⟩, ⟨4, 1, .slice b2 (k + 1) d2, k + 1, (List.replicate k false).flatMap boolC ++ [.bool false]⟩, ⟨4, 1, .slice a3 k c3, k, (List.replicate k false).flatMap boolC⟩, ⟨2, 1, .slice none 0 0, 0, []⟩, ⟨2, 1, .slice none 0 0, 0, []⟩, ⟨2, 1, .slice none 0 0, 0, []⟩]) := (by have h2 := Rows.app ((hRw5.out.set (a := ⟨w2.heap.size, 2, none⟩) (Nat.lt_succ_self _) _).alloc _) 3 rfl ho hg hv; exact h2); have Hw6 : Hid (w6.heap[w2.heap.size]? = some (.cells #[.int .i64 s, .slice b0 (k + 1) d0, .slice b1 (k + 1) d1, .slice a2 k c2, .slice a3 k c3, .slice none 0 0, .slice none 0 0, .slice none 0 0, .bool false, .int .i64 0, .int .i64 1, .int .i64 32, .int .i64 64] 65 (0, 0))) := (hg.block w2.heap.size (by first | omega | (simp <;> omega)) (fun e => by have := ((hRw5.out.own 3 rfl).lt _ e.symm).1; omega)).trans ((Below.heap_alloc _ _ _ (by first | omega | (simp <;> omega))).trans (Go.Joins.block_setCell Hw5.out _)); have hBgw6 : Hid (Below (w2.heap.size + 1) _ w6) := below_app (((hRw5.out.set (a := ⟨w2.heap.size, 2, none⟩) (Nat.lt_succ_self _) _).alloc _).own 3 rfl) hg (by first | omega | (simp <;> omega)); clear ho hg hv; have cq3 : w6.cell? ⟨w2.heap.size, 3, none⟩ = some (.slice a2 k c2) := (by rw [Go.Joins.cell_of_block Hw6.out]; rfl); have cq4 : w6.cell? ⟨w2.heap.size, 4, none⟩ = some (.slice a3 k c3) := (by rw [Go.Joins.cell_of_block Hw6.out]; rfl); have cqf : ∀ o, w6.frozen? ⟨w2.heap.size, o, none⟩ = false := Go.Joins.unfrozen_of_block Hw6.out; have cql : w2.heap.size < w6.heap.size := (by omega); have cp := Lib.hid (own_cellR (hRw6.out.own 0 rfl)); have cp0 : w6.cell? ⟨w3.heap.size, 0, none⟩ = some (.int .i64 sx) := cp.out 0 (by simp); have cp1 : w6.cell? ⟨w3.heap.size, 1, none⟩ = some (.int .i64 sy) := cp.out 1 (by simp); have cpl : w3.heap.size < w6.heap.size := (by omega)) | (at_builtin; refine wpAppAt rfl (.tmp 63) (.tmp 64) elemBool rfl (v := .slice a3 k c3) (n := k) (xs := (List.replicate k false).flatMap boolC) rfl (((hRw6.out.set (a := ⟨w2.heap.size, 3, none⟩) (Nat.lt_succ_self _) _).alloc _).own 4 rfl) rfl (src_at (cs := [.bool false]) rfl (by simp [Value.oneCell']) (by simp)) (by omega) (by omega) (by first | omega | (simp <;> omega)) (k + 1) rfl ?_; intro b3 d3 w7 ho hg hv; have hzw7 := hg.size; (try simp at hzw7); have hRw7 : Hid (Rows w7 (w2.heap.size + 1) [⟨25, 2, .slice (some ⟨w3.heap.size, 0, none⟩) 1 1, 1, [.int .i64 sx, .int .i64 sy]⟩, ⟨25, 2, .slice b0 (k + 1) d0, k + 1, (((startPts Ls adv).map (scQ s u)).take k).flatMap ptC ++ [.int .i64 sx, .int .i64 sy]⟩, ⟨25, 2, .slice b1 (k + 1) d1, k + 1, (((startPts Ls adv).map (scQ s u)).take k).flatMap ptC ++ [.int .i64 sx, .int .i64 sy]⟩, ⟨4, 1, .slice b2 (k + 1) d2, k + 1, (List.replicate k false).flatMap boolC ++ [.bool false]⟩, ⟨4, 1, .slice b3 (k + 1) d3, k + 1, (List.replicate k false).flatMap boolC ++ [.bool false]⟩, ⟨2, 1, .slice none 0 0, 0, []⟩, ⟨2, 1, .slice none 0 0, 0, []⟩, ⟨2, 1, .slice none 0 0, 0, []⟩]) := (by have h2 := Rows.app ((hRw6.out.set (a := ⟨w2.heap.size, 3, none⟩) (Nat.lt_succ_self _) _).alloc _) 4 rfl ho hg hv; exact h2); have Hw7 : Hid (w7.heap[w2.heap.size]? = some (.cells #[.int .i64 s, .slice b0 (k + 1) d0, .slice b1 (k + 1) d1, .slice b2 (k + 1) d2, .slice a3 k c3, .slice none 0 0, .slice none 0 0, .slice none 0 0, .bool false, .int .i64 0, .int .i64 1, .int .i64 32, .int .i64 64] 65 (0, 0))) := (hg.block w2.heap.size (by first | omega | (simp <;> omega)) (fun e => by have := ((hRw6.out.own 4 rfl).lt _ e.symm).1; omega)).trans ((Below.heap_alloc _ _ _ (by first | omega | (simp <;> omega))).trans (Go.Joins.block_setCell Hw6.out _)); have hBgw7 : Hid (Below (w2.heap.size + 1) _ w7) := below_app (((hRw6.out.set (a := ⟨w2.heap.size, 3, none⟩) (Nat.lt_succ_self _) _).alloc _).own 4 rfl) hg (by first | omega | (simp <;> omega)); clear ho hg hv; have dq4 : w7.cell? ⟨w2.heap.size, 4, none⟩ = some (.slice a3 k c3) := (by rw [Go.Joins.cell_of_block Hw7.out]; rfl); have dqf : ∀ o, w7.frozen? ⟨w2.heap.size, o, none⟩ = false := Go.Joins.unfrozen_of_block Hw7.out; have dql : w2.heap.size < w7.heap.size := (by omega); have dp := Lib.hid (own_cellR (hRw7.out.own 0 rfl)); have dp0 : w7.cell? ⟨w3.heap.size, 0, none⟩ = some (.int .i64 sx) := dp.out 0 (by simp); have dp1 : w7.cell? ⟨w3.heap.size, 1, none⟩ = some (.int .i64 sy) := dp.out 1 (by simp); have dpl : w3.heap.size < w7.heap.size := (by omega)))
        go_roundw
        case rel =>
          have e1 : (((startPts Ls adv).map (scQ s u)).take (k + 1)).flatMap ptC = (((startPts Ls adv).map (scQ s u)).take k).flatMap ptC ++ [.int .i64 sx, .int .i64 sy] := by rw [hst.out, List.flatMap_append]; rfl
          have e2 : (List.replicate (k + 1) false).flatMap boolC = (List.replicate k false).flatMap boolC ++ [.bool false] := by rw [rep_step, List.flatMap_append]; rfl
          refine ⟨k + 1, b0, d0, b1, d1, b2, d2, b3, d3, by go_num, by omega, Go.Joins.block_setCell Hw7.out _, ?_, ?_, by simp; omega⟩
          · rw [e1, e2]; exact (hRw7.out.set (a := ⟨w2.heap.size, 4, none⟩) (Nat.lt_succ_self _) _).tail
          · have k3 := hbel.trans (hB3.out.mono (by omega))
            have k4 := ((k3.alloc (by omega) _).alloc (by simp; omega) _).trans (hBgw4.out.mono (by omega))
            have k5 := ((k4.setCell (p := ⟨w2.heap.size, 1, none⟩) (Nat.le_refl _) _).alloc (by simp; omega) _).trans (hBgw5.out.mono (by omega))
            have k6 := ((k5.setCell (p := ⟨w2.heap.size, 2, none⟩) (Nat.le_refl _) _).alloc (by simp; omega) _).trans (hBgw6.out.mono (by omega))
            have k7 := ((k6.setCell (p := ⟨w2.heap.size, 3, none⟩) (Nat.le_refl _) _).alloc (by simp; omega) _).trans (hBgw7.out.mono (by omega))
            exact k7.setCell (Nat.le_refl _) _
        case measure => simp [intOf]; omega
      · have hkN : k = N := by omega
        subst hkN
        obtain ⟨wk, hwk⟩ : ∃ v, v = wr := ⟨_, rfl⟩
        subst hwk
        clear hlt
        go_wp2_with fail
        go_loopw [16, 17] (fun av i wr => ∃ (q : Nat) (ae : Option Addr) (ce : Nat), av = .int .i64 (sumK Ls q : Int) ∧ i = .int .i64 q ∧ q ≤ n ∧ wr.heap[w2.heap.size]? = some (.cells #[.int .i64 s, .slice a0 k c0, .slice a1 k c1, .slice a2 k c2, .slice a3 k c3, .slice ae q ce, .slice none 0 0, .slice none 0 0, .bool false, .int .i64 0, .int .i64 1, .int .i64 32, .int .i64 64] 65 (0, 0)) ∧ Rows wr (w2.heap.size + 1) [⟨25, 2, .slice a0 k c0, k, (((startPts Ls adv).map (scQ s u)).take k).flatMap ptC⟩, ⟨25, 2, .slice a1 k c1, k, (((startPts Ls adv).map (scQ s u)).take k).flatMap ptC⟩, ⟨4, 1, .slice a2 k c2, k, (List.replicate k false).flatMap boolC⟩, ⟨4, 1, .slice a3 k c3, k, (List.replicate k false).flatMap boolC⟩, ⟨2, 1, .slice ae q ce, q, ((endsL Ls).take q).flatMap intC⟩, ⟨2, 1, .slice none 0 0, 0, []⟩, ⟨2, 1, .slice none 0 0, 0, []⟩] ∧ Below w2.heap.size w2 wr ∧ w2.heap.size + 1 ≤ wr.heap.size) (fun av i wr => n - (intOf i).toNat)
        case atStart => exact ⟨0, none, 0, rfl, rfl, Nat.zero_le _, HXr.out, hRr.out, hbel, hz⟩
        case round =>
          clear HXr hRr hbel hz
          obtain ⟨q, ae, ce, rfl, rfl, hq, HXr, hRr, hbel, hz⟩ := hrel
          replace HXr := Lib.hid HXr
          replace hRr := Lib.hid hRr
          have hBr := hB2.trans (hbel.mono hB2.size)
          have hXw : X0 < wr.heap.size := by omega
          have o0 : wr.cell? ⟨X0, 0, none⟩ = some (.slice A n c) := (hBr.cell (by simp; omega)).trans hcell
          by_cases hlt : q < n
          · obtain ⟨b, off, K, A2, n2, c2', rfl, hb0, hb, hja, q0, hm, hrk⟩ := out_at (hr.out.frame good_loop (Below.sameB hBr hhi)) hlt
            have hbw : b < wr.heap.size := by omega
            have hkl : q < Ls.length := by have := hll.out; omega
            have hst := Lib.hid (endsL_take hkl)
            have hs1 := sumK_step hja
            have hs0 := sumK_le hK.out q
            have hn2 : n2 = K.length := hrk.1.symm
            have hn60 : n2 ≤ 60 := by rw [hn2]; exact hK.out K (List.mem_of_getElem? hja)
            have q1 : IntKind.i64.wrap ((sumK Ls q : Int) + (n2 : Int)) = (sumK Ls (q + 1) : Int) := by
              rw [IntWalk.i64_in _ (by omega)]; omega
            obtain ⟨s1, hs1'⟩ : ∃ s1, s1 = sumK Ls (q + 1) := ⟨_, rfl⟩
            rw [← hs1'] at q1 hst
            replace hs1' := Lib.hid hs1'
            clear hs1 hs0 hja hrk hm hb0 hn2
            have cq5 : wr.cell? ⟨w2.heap.size, 5, none⟩ = some (.slice ae q ce) := (by rw [Go.Joins.cell_of_block HXr.out]; rfl)
            have cqf : ∀ o, wr.frozen? ⟨w2.heap.size, o, none⟩ = false := Go.Joins.unfrozen_of_block HXr.out
            have cql : w2.heap.size < wr.heap.size := (by omega)
            go_wp2_with (at_builtin; refine wpAppAt rfl (.tmp 88) (.tmp 90) elemInt64 rfl (v := .slice ae q ce) (n := q) (xs := ((endsL Ls).take q).flatMap intC) rfl ((hRr.out.alloc _).own 4 rfl) rfl (src_at (cs := [.int .i64 (s1 : Int)]) rfl (by simp [Value.oneCell']) (by simp)) (by omega) (by omega) (by first | omega | (simp <;> omega)) (q + 1) rfl ?_; intro ae' ce' w5 ho hg hv; have hz5 := hg.size; (try simp at hz5); have hR5 : Hid (Rows w5 (w2.heap.size + 1) [⟨25, 2, .slice a0 k c0, k, (((startPts Ls adv).map (scQ s u)).take k).flatMap ptC⟩, ⟨25, 2, .slice a1 k c1, k, (((startPts Ls adv).map (scQ s u)).take k).flatMap ptC⟩, ⟨4, 1, .slice a2 k c2, k, (List.replicate k false).flatMap boolC⟩, ⟨4, 1, .slice a3 k c3, k, (List.replicate k false).flatMap boolC⟩, ⟨2, 1, .slice ae' (q + 1) ce', q + 1, ((endsL Ls).take q).flatMap intC ++ [.int .i64 (s1 : Int)]⟩, ⟨2, 1, .slice none 0 0, 0, []⟩, ⟨2, 1, .slice none 0 0, 0, []⟩]) := (by have h2 := Rows.app (hRr.out.alloc _) 4 rfl ho hg hv; exact h2); have H5 : Hid (w5.heap[w2.heap.size]? = some (.cells #[.int .i64 s, .slice a0 k c0, .slice a1 k c1, .slice a2 k c2, .slice a3 k c3, .slice ae q ce, .slice none 0 0, .slice none 0 0, .bool false, .int .i64 0, .int .i64 1, .int .i64 32, .int .i64 64] 65 (0, 0))) := (hg.block w2.heap.size (by first | omega | (simp <;> omega)) (fun e => by have := ((hRr.out.own 4 rfl).lt _ e.symm).1; omega)).trans ((Below.heap_alloc _ _ _ (by omega)).trans HXr.out); have hBg5 : Hid (Below (w2.heap.size + 1) _ w5) := below_app ((hRr.out.alloc _).own 4 rfl) hg (by first | omega | (simp <;> omega)); clear ho hg hv; have dq5 : w5.cell? ⟨w2.heap.size, 5, none⟩ = some (.slice ae q ce) := (by rw [Go.Joins.cell_of_block H5.out]; rfl); have dqf : ∀ o, w5.frozen? ⟨w2.heap.size, o, none⟩ = false := Go.Joins.unfrozen_of_block H5.out; have dql : w2.heap.size < w5.heap.size := (by omega))
            go_roundw
            case rel =>
              refine ⟨q + 1, ae', ce', by rw [hs1'.out], by go_num, by omega, Go.Joins.block_setCell H5.out _, ?_, ((hbel.alloc (by omega) _).trans (hBg5.out.mono (by omega))).setCell (Nat.le_refl _) _, by simp; omega⟩
              rw [hst.out, List.flatMap_append]
              exact hR5.out.set (a := ⟨w2.heap.size, 5, none⟩) (Nat.lt_succ_self _) _
            case measure => simp [intOf]; omega
          · have hqn : n = q := by omega
            subst hqn
            obtain ⟨wl, hwl⟩ : ∃ v, v = wr := ⟨_, rfl⟩
            subst hwl
            have hRr' := hRr.out
            have het : (endsL Ls).take n = endsL Ls := List.take_of_length_le (by rw [endsL_len, hll.out]; exact Nat.le_refl _)
            rw [het] at hRr'
            replace hRr' := Lib.hid hRr'
            clear hlt hBr het
            go_wp2_with fail
            go_loopw [18] (fun i wr => ∃ (q : Nat) (ag : Option Addr) (cg : Nat), i = .int .i64 q ∧ q ≤ nv ∧ wr.heap[w2.heap.size]? = some (.cells #[.int .i64 s, .slice a0 k c0, .slice a1 k c1, .slice a2 k c2, .slice a3 k c3, .slice ae n ce, .slice ag q cg, .slice none 0 0, .bool false, .int .i64 0, .int .i64 1, .int .i64 32, .int .i64 64] 65 (0, 0)) ∧ Rows wr (w2.heap.size + 1) [⟨25, 2, .slice a0 k c0, k, (((startPts Ls adv).map (scQ s u)).take k).flatMap ptC⟩, ⟨25, 2, .slice a1 k c1, k, (((startPts Ls adv).map (scQ s u)).take k).flatMap ptC⟩, ⟨4, 1, .slice a2 k c2, k, (List.replicate k false).flatMap boolC⟩, ⟨4, 1, .slice a3 k c3, k, (List.replicate k false).flatMap boolC⟩, ⟨2, 1, .slice ae n ce, n, (endsL Ls).flatMap intC⟩, ⟨2, 1, .slice ag q cg, q, ((V.map fun v => rnd (v * s * 64) u).take q).flatMap intC⟩, ⟨2, 1, .slice none 0 0, 0, []⟩] ∧ Below w2.heap.size w2 wr ∧ w2.heap.size + 1 ≤ wr.heap.size) (fun i wr => nv - (intOf i).toNat)
            case atStart => exact ⟨0, none, 0, rfl, Nat.zero_le _, HXr.out, hRr'.out, hbel, hz⟩
            case round =>
              clear HXr hRr hRr' hbel hz
              obtain ⟨q, ag, cg, rfl, hq, HXr, hRr, hbel, hz⟩ := hrel
              replace HXr := Lib.hid HXr
              replace hRr := Lib.hid hRr
              have hBr := hB2.trans (hbel.mono hB2.size)
              by_cases hlt : q < nv
              · obtain ⟨b, off, v, rfl, hb1, hb2, hv, hcs⟩ := (hrv.out.frame (good_flat _) (Below.sameB hBr hhiv)).at hlt
                have q0 := hcs 0 _ rfl
                simp only [Nat.add_zero, Nat.mul_one] at q0
                have hbw : b < wr.heap.size := by omega
                have hca := Lib.hid (fun W => l18Scale_any v s u W (hV.out v (List.mem_of_getElem? hv)))
                have hst := Lib.hid (take_map_step (f := fun v => rnd (v * s * 64) u) hv)
                have hsv : Hid ((fun v => rnd (v * s * 64) u) v = rnd (v * s * 64) u) := rfl
                obtain ⟨sv, hsv'⟩ : ∃ sv, sv = rnd (v * s * 64) u := ⟨_, rfl⟩
                rw [← hsv'] at hca hsv
                replace hsv' := Lib.hid hsv'
                replace hv := Lib.hid hv
                clear hcs hb1 hb2
                have cq6 : wr.cell? ⟨w2.heap.size, 6, none⟩ = some (.slice ag q cg) := by rw [Go.Joins.cell_of_block HXr.out]; rfl
                have cql : w2.heap.size < wr.heap.size := by omega
                have HXd : Hid (wr.drew.heap[w2.heap.size]? = some (.cells #[.int .i64 s, .slice a0 k c0, .slice a1 k c1, .slice a2 k c2, .slice a3 k c3, .slice ae n ce, .slice ag q cg, .slice none 0 0, .bool false, .int .i64 0, .int .i64 1, .int .i64 32, .int .i64 64] 65 (0, 0))) := HXr.out
                have hRd := Lib.hid hRr.out.drew
                have hB4 : Below w2.heap.size w2 wr.drew := hbel.drew
                have hzd : w2.heap.size + 1 ≤ wr.drew.heap.size := hz
                have cqd : w2.heap.size < wr.drew.heap.size := hz
                go_wp2_with fail
                go_region_law (first | (refine stepAppR rfl (.tmp 100) (.tmp 108) elemInt64 rfl (v := .slice ag q cg) (n := q) (xs := ((V.map fun v => rnd (v * s * 64) u).take q).flatMap intC) rfl ((hRd.out.alloc _).own 5 rfl) rfl (src_at (cs := [.int .i64 sv]) rfl (by simp [Value.oneCell']) (by simp)) (by omega) (by omega) (by first | omega | (simp <;> omega)) (q + 1) rfl ?_; intro ae' ce' w5 ho hg hv; have hz5 := hg.size; (try simp at hz5); have hR5 : Hid (Rows w5 (w2.heap.size + 1) [⟨25, 2, .slice a0 k c0, k, (((startPts Ls adv).map (scQ s u)).take k).flatMap ptC⟩, ⟨25, 2, .slice a1 k c1, k, (((startPts Ls adv).map (scQ s u)).take k).flatMap ptC⟩, ⟨4, 1, .slice a2 k c2, k, (List.replicate k false).flatMap boolC⟩, ⟨4, 1, .slice a3 k c3, k, (List.replicate k false).flatMap boolC⟩, ⟨2, 1, .slice ae n ce, n, (endsL Ls).flatMap intC⟩, ⟨2, 1, .slice ae' (q + 1) ce', q + 1, ((V.map fun v => rnd (v * s * 64) u).take q).flatMap intC ++ [.int .i64 sv]⟩, ⟨2, 1, .slice none 0 0, 0, []⟩]) := (by have h2 := Rows.app (hRd.out.alloc _) 5 rfl ho hg hv; exact h2); have H5 : Hid (w5.heap[w2.heap.size]? = some (.cells #[.int .i64 s, .slice a0 k c0, .slice a1 k c1, .slice a2 k c2, .slice a3 k c3, .slice ae n ce, .slice ag q cg, .slice none 0 0, .bool false, .int .i64 0, .int .i64 1, .int .i64 32, .int .i64 64] 65 (0, 0))) := (hg.block w2.heap.size (by first | omega | (simp <;> omega)) (fun e => by have := ((hRd.out.own 5 rfl).lt _ e.symm).1; omega)).trans ((Below.heap_alloc _ _ _ (by omega)).trans HXd.out); have hBg5 : Hid (Below (w2.heap.size + 1) _ w5) := below_app ((hRd.out.alloc _).own 5 rfl) hg (by first | omega | (simp <;> omega)); clear ho hg hv; have dq6 : w5.cell? ⟨w2.heap.size, 6, none⟩ = some (.slice ag q cg) := (by rw [Go.Joins.cell_of_block H5.out]; rfl); have dqf : ∀ o, w5.frozen? ⟨w2.heap.size, o, none⟩ = false := Go.Joins.unfrozen_of_block H5.out; have dql : w2.heap.size < w5.heap.size := (by omega)) | (go_simp; go_at_call 161; refine (hca.out _).mono ?_; rintro e w' ⟨rfl, rfl⟩; dsimp only))
                all_goals
                  go_wp2_with fail
                  go_roundw
                  case rel =>
                    refine ⟨q + 1, ae', ce', by go_num, by omega, Go.Joins.block_setCell H5.out _, ?_, ((hB4.alloc (by omega) _).trans (hBg5.out.mono (by omega))).setCell (Nat.le_refl _) _, by simp; omega⟩
                    rw [hst.out, List.flatMap_append, hsv.out]
                    exact hR5.out.set (a := ⟨w2.heap.size, 6, none⟩) (Nat.lt_succ_self _) _
                  case measure => simp [intOf]; omega
              · have hqn : nv = q := by omega
                subst hqn
                have hvl := hrv.out.1
                have hfin := hRr.out
                have ht1 : ((startPts Ls adv).map (scQ s u)).take k = (startPts Ls adv).map (scQ s u) := List.take_of_length_le (by rw [List.length_map]; omega)
                have ht2 : List.replicate k false = List.replicate (startPts Ls adv).length false := by rw [hPl, hNk]
                have ht3 : (V.map fun v => rnd (v * s * 64) u).take nv = V.map fun v => rnd (v * s * 64) u := List.take_of_length_le (by rw [List.length_map]; omega)
                rw [ht1, ht2, ht3] at hfin
                have hfin' : Rows wr (w2.heap.size + 1) (hinRows (startD Ls adv V s u) ⟨⟨a0, k, c0⟩, ⟨a1, k, c1⟩, ⟨a2, k, c2⟩, ⟨a3, k, c3⟩, ⟨ae, n, ce⟩, ⟨ag, nv, cg⟩, ⟨none, 0, 0⟩⟩) := hfin
                replace hfin := Lib.hid hfin'
                clear ht1 ht2 ht3 hfin'
                have HRr := Lib.hid ((hbel.block w.heap.size (by omega)).trans HR2.out)
                have cx0 : wr.cell? ⟨w2.heap.size, 0, none⟩ = some (.int .i64 s) := by rw [Go.Joins.cell_of_block HXr.out]; rfl
                have cx1 : wr.cell? ⟨w2.heap.size, 1, none⟩ = some (.slice a0 k c0) := by rw [Go.Joins.cell_of_block HXr.out]; rfl
                have cx2 : wr.cell? ⟨w2.heap.size, 2, none⟩ = some (.slice a1 k c1) := by rw [Go.Joins.cell_of_block HXr.out]; rfl
                have cx3 : wr.cell? ⟨w2.heap.size, 3, none⟩ = some (.slice a2 k c2) := by rw [Go.Joins.cell_of_block HXr.out]; rfl
                have cx4 : wr.cell? ⟨w2.heap.size, 4, none⟩ = some (.slice a3 k c3) := by rw [Go.Joins.cell_of_block HXr.out]; rfl
                have cx5 : wr.cell? ⟨w2.heap.size, 5, none⟩ = some (.slice ae n ce) := by rw [Go.Joins.cell_of_block HXr.out]; rfl
                have cx6 : wr.cell? ⟨w2.heap.size, 6, none⟩ = some (.slice ag nv cg) := by rw [Go.Joins.cell_of_block HXr.out]; rfl
                have cx7 : wr.cell? ⟨w2.heap.size, 7, none⟩ = some (.slice none 0 0) := by rw [Go.Joins.cell_of_block HXr.out]; rfl
                have cx8 : wr.cell? ⟨w2.heap.size, 8, none⟩ = some (.bool false) := by rw [Go.Joins.cell_of_block HXr.out]; rfl
                have cx9 : wr.cell? ⟨w2.heap.size, 9, none⟩ = some (.int .i64 0) := by rw [Go.Joins.cell_of_block HXr.out]; rfl
                have cx10 : wr.cell? ⟨w2.heap.size, 10, none⟩ = some (.int .i64 1) := by rw [Go.Joins.cell_of_block HXr.out]; rfl
                have cx11 : wr.cell? ⟨w2.heap.size, 11, none⟩ = some (.int .i64 32) := by rw [Go.Joins.cell_of_block HXr.out]; rfl
                have cx12 : wr.cell? ⟨w2.heap.size, 12, none⟩ = some (.int .i64 64) := by rw [Go.Joins.cell_of_block HXr.out]; rfl
                have cxf : ∀ o, wr.frozen? ⟨w2.heap.size, o, none⟩ = false := Go.Joins.unfrozen_of_block HXr.out
                have cxl : w2.heap.size < wr.heap.size := by omega
                have cr0 : wr.cell? ⟨w.heap.size, 0, none⟩ = some (.int .i64 0) := by rw [Go.Joins.cell_of_block HRr.out]; rfl
                have cr1 : wr.cell? ⟨w.heap.size, 1, none⟩ = some (.slice none 0 0) := by rw [Go.Joins.cell_of_block HRr.out]; rfl
                have cr2 : wr.cell? ⟨w.heap.size, 2, none⟩ = some (.slice none 0 0) := by rw [Go.Joins.cell_of_block HRr.out]; rfl
                have cr3 : wr.cell? ⟨w.heap.size, 3, none⟩ = some (.slice none 0 0) := by rw [Go.Joins.cell_of_block HRr.out]; rfl
                have cr4 : wr.cell? ⟨w.heap.size, 4, none⟩ = some (.slice none 0 0) := by rw [Go.Joins.cell_of_block HRr.out]; rfl
                have cr5 : wr.cell? ⟨w.heap.size, 5, none⟩ = some (.slice none 0 0) := by rw [Go.Joins.cell_of_block HRr.out]; rfl
                have cr6 : wr.cell? ⟨w.heap.size, 6, none⟩ = some (.slice none 0 0) := by rw [Go.Joins.cell_of_block HRr.out]; rfl
                have cr7 : wr.cell? ⟨w.heap.size, 7, none⟩ = some (.slice none 0 0) := by rw [Go.Joins.cell_of_block HRr.out]; rfl
                have cr8 : wr.cell? ⟨w.heap.size, 8, none⟩ = some (.bool false) := by rw [Go.Joins.cell_of_block HRr.out]; rfl
                have cr9 : wr.cell? ⟨w.heap.size, 9, none⟩ = some (.int .i64 0) := by rw [Go.Joins.cell_of_block HRr.out]; rfl
                have cr10 : wr.cell? ⟨w.heap.size, 10, none⟩ = some (.int .i64 0) := by rw [Go.Joins.cell_of_block HRr.out]; rfl
                have cr11 : wr.cell? ⟨w.heap.size, 11, none⟩ = some (.int .i64 0) := by rw [Go.Joins.cell_of_block HRr.out]; rfl
                have cr12 : wr.cell? ⟨w.heap.size, 12, none⟩ = some (.int .i64 0) := by rw [Go.Joins.cell_of_block HRr.out]; rfl
                have crf : ∀ o, wr.frozen? ⟨w.heap.size, o, none⟩ = false := Go.Joins.unfrozen_of_block HRr.out
                have crl : w.heap.size < wr.heap.size := by omega
                go_wp2_with fail
                refine bodyPost_ret (v := .tuple #[hinV (startD Ls adv V s u) ⟨⟨a0, k, c0⟩, ⟨a1, k, c1⟩, ⟨a2, k, c2⟩, ⟨a3, k, c3⟩, ⟨ae, n, ce⟩, ⟨ag, nv, cg⟩, ⟨none, 0, 0⟩⟩, .int .i64 0]) (by simp [results, Try.results89, go_sem, cr0, cr1, cr2, cr3, cr4, cr5, cr6, cr7, cr8, cr9, cr10, cr11, cr12, startD]) rfl ⟨_, rfl, ⟨Rows.lower (lo := w2.heap.size + 1) ?_ (by omega), ⟨by simp [startD]; omega, by simp [startD]; omega, by simp [startD]; omega, by simp [startD]; omega, by simp [startD, endsL_len]; exact hll.out, by simp [startD]; omega, rfl⟩⟩, ?_⟩
                · exact rows13 hfin.out (by omega) _ _ _ _ _ _ _ _ _ _ _ _ _
                · exact below13 hBr (Nat.le_refl _) _ _ _ _ _ _ _ _ _ _ _ _ _
end Go.Proofs.Ytgngcllodofimaa
