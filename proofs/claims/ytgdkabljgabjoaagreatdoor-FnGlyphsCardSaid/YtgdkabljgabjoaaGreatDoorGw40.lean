/- A drawn glyph. Conditions: as each states. -/
import Derived.Deep.DeepCutAuto
import Derived.Test.YtgdkabljgabjoaaGreatDoorGw39
namespace Go.Proofs.YtgdkabljgabjoaaGreatDoor
open Go.RowKit
set_option linter.unusedVariables false
set_option maxRecDepth 100000

theorem run_char (W : World) (B : Nat) (y : UInt8) (h : W.cell? ⟨B, 0, none⟩ = some (.int .u8 y.toNat)) : (convert 41 9 (.slice (some ⟨B, 0, none⟩) 1 1)).run Tryz.prog W = .ok (.string ⟨#[y]⟩) W :=
  run_bytes_str (P := Tryz.prog) (src := 41) (dst := 9) (w := W) (c := 1) (ds := [y]) Tryz.underlying41 Tryz.underlying5 Tryz.underlying9 ⟨rfl, byteV_one _, fun _ => ⟨_, rfl, fun j u hj => by
    match j, hj with
    | 0, hj => simp [byteV] at hj; subst hj; simpa [Addr.add] using h⟩⟩ (by intro h; cases h)

theorem set_all7 {w : World} {Y : Nat} {t : TypeId} {a0 a1 a2 a3 a4 a5 a6 : Value} (h : w.heap[Y]? = some (.cells #[a0, a1, a2, a3, a4, a5, a6] t (0, 0))) (v0 v1 v2 v3 v4 v5 v6 : Value) :
    (((((((w.setCell ⟨Y, 0, none⟩ v0).setCell ⟨Y, 1, none⟩ v1).setCell ⟨Y, 2, none⟩ v2).setCell ⟨Y, 3, none⟩ v3).setCell ⟨Y, 4, none⟩ v4).setCell ⟨Y, 5, none⟩ v5).setCell ⟨Y, 6, none⟩ v6).heap[Y]? = some (.cells #[v0, v1, v2, v3, v4, v5, v6] t (0, 0)) := by
  have h0 : (w.setCell ⟨Y, 0, none⟩ v0).heap[Y]? = some (.cells #[v0, a1, a2, a3, a4, a5, a6] t (0, 0)) := Go.Joins.block_setCell h v0
  generalize w.setCell ⟨Y, 0, none⟩ v0 = w0 at *
  have h1 : (w0.setCell ⟨Y, 1, none⟩ v1).heap[Y]? = some (.cells #[v0, v1, a2, a3, a4, a5, a6] t (0, 0)) := Go.Joins.block_setCell h0 v1
  generalize w0.setCell ⟨Y, 1, none⟩ v1 = w1 at *
  have h2 : (w1.setCell ⟨Y, 2, none⟩ v2).heap[Y]? = some (.cells #[v0, v1, v2, a3, a4, a5, a6] t (0, 0)) := Go.Joins.block_setCell h1 v2
  generalize w1.setCell ⟨Y, 2, none⟩ v2 = w2 at *
  have h3 : (w2.setCell ⟨Y, 3, none⟩ v3).heap[Y]? = some (.cells #[v0, v1, v2, v3, a4, a5, a6] t (0, 0)) := Go.Joins.block_setCell h2 v3
  generalize w2.setCell ⟨Y, 3, none⟩ v3 = w3 at *
  have h4 : (w3.setCell ⟨Y, 4, none⟩ v4).heap[Y]? = some (.cells #[v0, v1, v2, v3, v4, a5, a6] t (0, 0)) := Go.Joins.block_setCell h3 v4
  generalize w3.setCell ⟨Y, 4, none⟩ v4 = w4 at *
  have h5 : (w4.setCell ⟨Y, 5, none⟩ v5).heap[Y]? = some (.cells #[v0, v1, v2, v3, v4, v5, a6] t (0, 0)) := Go.Joins.block_setCell h4 v5
  generalize w4.setCell ⟨Y, 5, none⟩ v5 = w5 at *
  exact Go.Joins.block_setCell h5 v6

set_option maxHeartbeats 16000000 in
theorem l17DrawGlyph_any (b k q : Nat) (w : World) (hs : Src0 w b k) (hk : k ≤ 999900000) (hq : q ≤ 25) :
    Calls Tryz.prog 98 #[.pointer (some ⟨b, 0, none⟩), .int .i64 q] w fun e w' => ∃ (d : Gl) (h : GlH) (k' : Nat), e = .returned (glV d h) ∧ GlX w' w.heap.size w'.heap.size d h ∧ DrOk d ∧ Src0 w' b k' ∧ k' ≤ k + 1000 ∧ w.grownBy w' (some b) := by
  have hbl := hs.lt
  have hb0 : Below w.heap.size w (w.alloc (.cells #[.string ⟨#[]⟩, .int .i64 0, .int .i64 0, .slice none 0 0, .slice none 0 0, .slice none 0 0, .string ⟨#[]⟩] 28 (0, 0))) := Go.Joins.below_alloc1 _ _
  have hs0 := hs.kept hb0 hbl
  have HR0 := Lib.hid (heap_alloc_new w (.cells #[.string ⟨#[]⟩, .int .i64 0, .int .i64 0, .slice none 0 0, .slice none 0 0, .slice none 0 0, .string ⟨#[]⟩] 28 (0, 0)))
  have hz0 : (w.alloc (.cells #[.string ⟨#[]⟩, .int .i64 0, .int .i64 0, .slice none 0 0, .slice none 0 0, .slice none 0 0, .string ⟨#[]⟩] 28 (0, 0))).heap.size = w.heap.size + 1 := by simp
  clear hs
  obtain ⟨y, hy⟩ : ∃ y : UInt8, (y.toNat : Int) = 97 + (q : Int) := ⟨UInt8.ofNat (97 + q), by rw [UInt8.toNat_ofNat']; omega⟩
  have hw97 : IntKind.i64.wrap (97 + (q : Int)) = 97 + (q : Int) := IntWalk.i64_in _ (by omega)
  have hrem : (q : Int).tmod 26 = (q : Int) := by rw [Int.tmod_eq_emod_of_nonneg (by omega)]; omega
  have hwy : IntKind.u8.wrap (97 + (q : Int)) = (y.toNat : Int) := by rw [IntKind.wrap_u8, hy]; omega
  have hchar := Lib.hid (fun W B h => run_char W B y h)
  replace hy := Lib.hid hy
  go_enter Tryz.func98, Tryz.ntmps98
  go_upto_region 2 with fail
  go_cut [5] (fun s5 wx => ∃ (Y k1 : Nat) (d : Gl), s5 = .pointer (some ⟨Y, 0, none⟩) ∧ DrG w Y b wx d nilH k1 ∧ k1 ≤ k + 2 ∧ d.out = [] ∧ d.parts = [] ∧ d.anchors = [])
  case first =>
    generalize w.alloc (.cells #[.string ⟨#[]⟩, .int .i64 0, .int .i64 0, .slice none 0 0, .slice none 0 0, .slice none 0 0, .string ⟨#[]⟩] 28 (0, 0)) = w0 at *
    have hz0l : w0.heap.size ≤ w.heap.size + 1 := by omega
    have hz0g : w.heap.size + 1 ≤ w0.heap.size := by omega
    clear hz0
    have hA1 : ∀ W : World, (convert 41 9 (.slice (some ⟨W.heap.size, 0, none⟩) 1 1)).run Tryz.prog (W.alloc (.cells #[.int .u8 y.toNat] 5 (0, 0))) = .ok (.string ⟨#[y]⟩) (W.alloc (.cells #[.int .u8 y.toNat] 5 (0, 0))) := fun W => hchar.out _ _ (by rw [Go.Joins.cell_of_block (heap_alloc_new W _)]; rfl)
    have hA2 : ∀ W : World, (convert 41 9 (.slice (some ⟨W.heap.size, 0, none⟩) 1 1)).run Tryz.prog (W.alloc (.cells #[.int .u8 y.toNat] 5 (0, 0))).drew = .ok (.string ⟨#[y]⟩) (W.alloc (.cells #[.int .u8 y.toNat] 5 (0, 0))).drew := fun W => hchar.out _ _ (by show (W.alloc _).cell? _ = _; rw [Go.Joins.cell_of_block (heap_alloc_new W _)]; rfl)
    have hA3 : ∀ (W : World) (o : Obj), (convert 41 9 (.slice (some ⟨W.heap.size, 0, none⟩) 1 1)).run Tryz.prog ((W.alloc (.cells #[.int .u8 y.toNat] 5 (0, 0))).alloc o) = .ok (.string ⟨#[y]⟩) ((W.alloc (.cells #[.int .u8 y.toNat] 5 (0, 0))).alloc o) := fun W o => hchar.out _ _ (Lib.cell?_alloc_some _ (by rw [Go.Joins.cell_of_block (heap_alloc_new W _)]; rfl))
    have hA4 : ∀ (W : World) (o : Obj), (convert 41 9 (.slice (some ⟨W.heap.size, 0, none⟩) 1 1)).run Tryz.prog ((W.alloc (.cells #[.int .u8 y.toNat] 5 (0, 0))).alloc o).drew = .ok (.string ⟨#[y]⟩) ((W.alloc (.cells #[.int .u8 y.toNat] 5 (0, 0))).alloc o).drew := fun W o => hchar.out _ _ (by show ((W.alloc _).alloc o).cell? _ = _; exact Lib.cell?_alloc_some _ (by rw [Go.Joins.cell_of_block (heap_alloc_new W _)]; rfl))
    have hA5 : ∀ (W : World) (o : Obj), (convert 41 9 (.slice (some ⟨W.heap.size + 1, 0, none⟩) 1 1)).run Tryz.prog ((W.alloc o).alloc (.cells #[.int .u8 y.toNat] 5 (0, 0))) = .ok (.string ⟨#[y]⟩) ((W.alloc o).alloc (.cells #[.int .u8 y.toNat] 5 (0, 0))) := fun W o => hchar.out _ _ (by rw [Go.Joins.cell_of_block (heap_new2 W _ _).2]; rfl)
    have hA6 : ∀ (W : World) (o : Obj), (convert 41 9 (.slice (some ⟨W.heap.size + 1, 0, none⟩) 1 1)).run Tryz.prog ((W.alloc o).alloc (.cells #[.int .u8 y.toNat] 5 (0, 0))).drew = .ok (.string ⟨#[y]⟩) ((W.alloc o).alloc (.cells #[.int .u8 y.toNat] 5 (0, 0))).drew := fun W o => hchar.out _ _ (by show ((W.alloc o).alloc _).cell? _ = _; rw [Go.Joins.cell_of_block (heap_new2 W _ _).2]; rfl)
    have hcP := Lib.hid (fun (W : World) (h : Src0 W b k) => pick_any b k 10 W h (by omega))
    have hbw0 : b < w0.heap.size := by omega
    go_region_law (go_simp; go_at_call 97; refine (hcP.out _ (by refine Src0.keepL hs0 (fun g hg => ?_); first | rfl | exact Below.heap_alloc _ _ _ (by omega) | exact (Below.heap_alloc _ _ _ (by simp; omega)).trans (Below.heap_alloc _ _ _ (by omega)))).mono ?_; rintro e w4 ⟨r4, k4, rfl, hr40, hr41, _, hs4, hk4, hg4⟩; (first | (refine have_then (w4.heap[w0.heap.size]? = some (.cells #[.string ⟨#[]⟩, .int .i64 0, .int .i64 0, .slice none 0 0, .slice none 0 0, .slice none 0 0, .string ⟨#[]⟩] 28 (0, 0))) ?_ ?_; (refine (hg4.block (w0.heap.size) (by first | (simp; done) | (simp; omega)) (by intro e; injection e with e; omega)).trans ?_; (first | exact heap_alloc_new w0 _ | exact (Below.heap_alloc _ _ _ (by first | (simp; done) | (simp; omega))).trans (heap_alloc_new w0 _) | exact (heap_new2 w0 _ _).2)); intro A; have A0 : w4.cell? ⟨w0.heap.size, 0, none⟩ = some (.string ⟨#[]⟩) := (by rw [Go.Joins.cell_of_block A]; rfl); have A1 : w4.cell? ⟨w0.heap.size, 1, none⟩ = some (.int .i64 0) := (by rw [Go.Joins.cell_of_block A]; rfl); have A2 : w4.cell? ⟨w0.heap.size, 2, none⟩ = some (.int .i64 0) := (by rw [Go.Joins.cell_of_block A]; rfl); have A3 : w4.cell? ⟨w0.heap.size, 3, none⟩ = some (.slice none 0 0) := (by rw [Go.Joins.cell_of_block A]; rfl); have A4 : w4.cell? ⟨w0.heap.size, 4, none⟩ = some (.slice none 0 0) := (by rw [Go.Joins.cell_of_block A]; rfl); have A5 : w4.cell? ⟨w0.heap.size, 5, none⟩ = some (.slice none 0 0) := (by rw [Go.Joins.cell_of_block A]; rfl); have A6 : w4.cell? ⟨w0.heap.size, 6, none⟩ = some (.string ⟨#[]⟩) := (by rw [Go.Joins.cell_of_block A]; rfl); have Af : ∀ o, w4.frozen? ⟨w0.heap.size, o, none⟩ = false := Go.Joins.unfrozen_of_block A; have Al : w0.heap.size < w4.heap.size := (by have := hg4.size; simp at this; omega)) | skip); (first | (refine have_then (w4.heap[w0.heap.size + 1]? = some (.cells #[.string ⟨#[]⟩, .int .i64 0, .int .i64 0, .slice none 0 0, .slice none 0 0, .slice none 0 0, .string ⟨#[]⟩] 28 (0, 0))) ?_ ?_; (refine (hg4.block (w0.heap.size + 1) (by first | (simp; done) | (simp; omega)) (by intro e; injection e with e; omega)).trans ?_; (first | exact heap_alloc_new w0 _ | exact (Below.heap_alloc _ _ _ (by first | (simp; done) | (simp; omega))).trans (heap_alloc_new w0 _) | exact (heap_new2 w0 _ _).2)); intro B; have B0 : w4.cell? ⟨w0.heap.size + 1, 0, none⟩ = some (.string ⟨#[]⟩) := (by rw [Go.Joins.cell_of_block B]; rfl); have B1 : w4.cell? ⟨w0.heap.size + 1, 1, none⟩ = some (.int .i64 0) := (by rw [Go.Joins.cell_of_block B]; rfl); have B2 : w4.cell? ⟨w0.heap.size + 1, 2, none⟩ = some (.int .i64 0) := (by rw [Go.Joins.cell_of_block B]; rfl); have B3 : w4.cell? ⟨w0.heap.size + 1, 3, none⟩ = some (.slice none 0 0) := (by rw [Go.Joins.cell_of_block B]; rfl); have B4 : w4.cell? ⟨w0.heap.size + 1, 4, none⟩ = some (.slice none 0 0) := (by rw [Go.Joins.cell_of_block B]; rfl); have B5 : w4.cell? ⟨w0.heap.size + 1, 5, none⟩ = some (.slice none 0 0) := (by rw [Go.Joins.cell_of_block B]; rfl); have B6 : w4.cell? ⟨w0.heap.size + 1, 6, none⟩ = some (.string ⟨#[]⟩) := (by rw [Go.Joins.cell_of_block B]; rfl); have Bf : ∀ o, w4.frozen? ⟨w0.heap.size + 1, o, none⟩ = false := Go.Joins.unfrozen_of_block B; have Bl : w0.heap.size + 1 < w4.heap.size := (by have := hg4.size; simp at this; omega)) | skip); (first | (refine have_then (w4.heap[w0.heap.size]? = some (.cells #[.int .u8 y.toNat] 5 (0, 0))) ?_ ?_; (refine (hg4.block (w0.heap.size) (by first | (simp; done) | (simp; omega)) (by intro e; injection e with e; omega)).trans ?_; (first | exact heap_alloc_new w0 _ | exact (Below.heap_alloc _ _ _ (by first | (simp; done) | (simp; omega))).trans (heap_alloc_new w0 _) | exact (heap_new2 w0 _ _).2)); intro C; have Ck := hchar.out w4 (w0.heap.size) (by rw [Go.Joins.cell_of_block C]; rfl); have Co := (fun o => hchar.out (w4.alloc o) (w0.heap.size) (Lib.cell?_alloc_some _ (by rw [Go.Joins.cell_of_block C]; rfl)))) | skip); (first | (refine have_then (w4.heap[w0.heap.size + 1]? = some (.cells #[.int .u8 y.toNat] 5 (0, 0))) ?_ ?_; (refine (hg4.block (w0.heap.size + 1) (by first | (simp; done) | (simp; omega)) (by intro e; injection e with e; omega)).trans ?_; (first | exact heap_alloc_new w0 _ | exact (Below.heap_alloc _ _ _ (by first | (simp; done) | (simp; omega))).trans (heap_alloc_new w0 _) | exact (heap_new2 w0 _ _).2)); intro D; have Dk := hchar.out w4 (w0.heap.size + 1) (by rw [Go.Joins.cell_of_block D]; rfl); have Do := (fun o => hchar.out (w4.alloc o) (w0.heap.size + 1) (Lib.cell?_alloc_some _ (by rw [Go.Joins.cell_of_block D]; rfl)))) | skip); have hw04 : w0.grownBy w4 (some b) := ⟨hg4.os, hg4.tape, hg4.output, (by have := hg4.size; simp at this; omega), fun i hi hn => (hg4.block i (by first | exact hi | (simp; omega)) hn).trans (by first | rfl | exact Below.heap_alloc _ _ _ (by omega) | exact (Below.heap_alloc _ _ _ (by simp; omega)).trans (Below.heap_alloc _ _ _ (by omega)))⟩; have hz4 := hw04.size; have hG4 := Lib.hid (grown_tr (grown_of hb0 (some b)) hw04); have HR4 := Lib.hid ((hw04.block w.heap.size (by omega) (by intro e; injection e with e; omega)).trans HR0.out); clear hw04 hg4; replace hs4 := Lib.hid hs4; dsimp only)
    all_goals
      go_wp2_with fail
      go_meet
      refine ⟨_, k4, ⟨⟨#[y]⟩, 97 + q, IntKind.i64.wrap (100 * r4), [], [], [], ⟨#[]⟩⟩, rfl, ⟨?_, ?_, hbl, ?_, ?_, ?_, ?_, ⟨[], World.ownsRow_nil _ _ _ _, fun j K hj => absurd hj (Nat.not_lt_zero j), fun i j u v _ hu => by simp at hu⟩, rfl, World.ownsRow_nil _ _ _ _, rfl, World.ownsRow_nil _ _ _ _, rfl, ⟨by show 1 ≤ 12; omega, by simp, by simp, by simp, by simp, by simp, by show 0 ≤ 8; omega, fun q hq => absurd hq (List.not_mem_nil), fun q hq => absurd hq (List.not_mem_nil)⟩⟩, by omega, rfl, rfl, rfl⟩
      · repeat (first | (with_reducible exact hG4.out) | (with_reducible refine grown_allocA ?_ _) | (with_reducible refine grown_setO ?_ (by omega) _ _))
      · refine hs4.out.keepL (fun i hi => ?_)
        repeat (first | ((with_reducible refine (Below.heap_setCell _ _ _ _ ?_).trans ?_); (simp only; omega)) | ((with_reducible refine (Below.heap_alloc _ _ _ ?_).trans ?_); (first | omega | (simp; omega))))
        try (with_reducible rfl)
      · omega
      · first | omega | (simp; done) | (simp; omega)
      · show _ = some (Obj.cells #[.string ⟨#[y]⟩, .int .i64 (97 + q), .int .i64 (IntKind.i64.wrap (100 * r4)), .slice none 0 0, .slice none 0 0, .slice none 0 0, .string ⟨#[]⟩] 28 (0, 0))
        first
          | (with_reducible exact heap_alloc_new w4 _)
          | (with_reducible exact (heap_new2 w4 _ _).2)
          | (with_reducible exact (heap_new2 w4 _ _).1)
          | (with_reducible exact set_all7 A _ _ _ _ _ _ _)
          | (with_reducible exact set_all7 B _ _ _ _ _ _ _)
          | ((with_reducible refine (Below.heap_alloc _ _ _ ?_).trans (set_all7 A _ _ _ _ _ _ _)); (simp; omega))
          | ((with_reducible refine (Below.heap_alloc _ _ _ ?_).trans (set_all7 B _ _ _ _ _ _ _)); (simp; omega))
      · repeat (first | ((with_reducible refine (Below.heap_setCell _ _ _ _ ?_).trans ?_); (simp only; omega)) | ((with_reducible refine (Below.heap_alloc _ _ _ ?_).trans ?_); (first | omega | (simp; omega))))
        exact HR4.out
  case rest =>
    obtain ⟨w1, hw1⟩ : ∃ v, v = wc := ⟨_, rfl⟩
    subst hw1
    obtain ⟨Y, k1, d, rfl, hD, hk1, e1, e2, e3⟩ := hcut
    clear hs0 HR0 hb0 hz0 hchar hwy hrem hw97 hy
    have hqi : ¬ (26 : Int) ≤ (q : Int) := by omega
    have hc1 := Lib.hid (one_any b k1 5 w1 hD.s (by omega))
    replace hD := Lib.hid hD
    go_wp2_with fail
    refine hc1.out.mono ?_
    rintro e w2 ⟨r, k2, rfl, hs2, hk2, hg2⟩
    replace hD := Lib.hid (hD.out.grown hg2 hs2)
    clear hc1 hs2 hg2
    go_upto_if 30 with fail
    go_cut [5] (fun s5 wx => ∃ (k3 : Nat) (d : Gl), s5 = .pointer (some ⟨Y, 0, none⟩) ∧ DrG w Y b wx d nilH k3 ∧ k3 ≤ k + 4 ∧ d.out = [] ∧ d.parts = [] ∧ d.anchors = [])
    case first =>
      cases r
      · go_wp2_with fail
        go_meet
        exact ⟨k2, d, rfl, hD.out, by omega, e1, e2, e3⟩
      · have gc1 := hD.out.cells (i := 1) rfl
        have gf := Go.Joins.unfrozen_of_block hD.out.box
        go_wp2_with fail
        go_meet
        exact ⟨k2, ⟨d.name, -1, d.adv, d.out, d.parts, d.anchors, d.hints⟩, rfl, hD.out.cell rfl rfl rfl rfl ⟨hD.out.ok.nm, hD.out.ok.ol, hD.out.ok.ok, hD.out.ok.pl, hD.out.ok.al, hD.out.ok.as', hD.out.ok.hl, hD.out.ok.pm, hD.out.ok.am⟩, by omega, e1, e2, e3⟩
    case rest =>
      obtain ⟨w3, hw3⟩ : ∃ v, v = wc := ⟨_, rfl⟩
      subst hw3
      clear hD e1 e2 e3 hk2
      obtain ⟨k3, d, rfl, hD, hk3, e1, e2, e3⟩ := hcut
      replace hD := Lib.hid hD
      go_upto_region 6 with fail
      go_cut [5, 37] (fun s5 s37 wx => ∃ (k4 : Nat) (r : Bool), s5 = .pointer (some ⟨Y, 0, none⟩) ∧ s37 = .bool r ∧ DrG w Y b wx d nilH k4 ∧ k4 ≤ k + 6 ∧ (r = true → 0 < q))
      case first =>
        rcases Nat.eq_zero_or_pos q with h0 | h0
        · have hqz : ¬ (0 : Int) < (q : Int) := by omega
          have hqb : decide ((0 : Int) < (q : Int)) = false := by simpa using hqz
          replace h0 := Lib.hid h0
          go_wp2_with fail
          go_meet
          exact ⟨k3, false, rfl, by first | rfl | rw [hqb], hD.out, by omega, by simp⟩
        · have hqz : (0 : Int) < (q : Int) := by omega
          have hqb : decide ((0 : Int) < (q : Int)) = true := by simpa using hqz
          have hc1 := Lib.hid (one_any b k3 3 w3 hD.out.s (by omega))
          go_wp2_with fail
          refine hc1.out.mono ?_
          rintro e w4 ⟨r, k4, rfl, hs4, hk4, hg4⟩
          have hD4 := Lib.hid (hD.out.grown hg4 hs4)
          clear hs4 hg4
          go_wp2_with fail
          go_meet
          exact ⟨k4, r, rfl, rfl, hD4.out, by omega, fun _ => h0⟩
      case rest =>
        obtain ⟨w4, hw4⟩ : ∃ v, v = wc := ⟨_, rfl⟩
        subst hw4
        clear hD
        obtain ⟨k4, r, rfl, rfl, hD, hk4, hrq⟩ := hcut
        replace hD := Lib.hid hD
        go_upto_if 37 with fail
        go_cut [5] (fun s5 wx => ∃ (k5 : Nat) (d : Gl) (h : GlH), s5 = .pointer (some ⟨Y, 0, none⟩) ∧ DrG w Y b wx d h k5 ∧ k5 ≤ k + 700 ∧ d.anchors = [])
        case first =>
          cases r
          · have hc2 := Lib.hid (pick_any b k4 3 w4 hD.out.s (by omega))
            go_wp2_with fail
            refine hc2.out.mono ?_
            rintro e w5 ⟨t0, k5, rfl, ht0, ht1, _, hs5, hk5, hg5⟩
            have ht3 := ht1 (by omega)
            have hD5 := Lib.hid (hD.out.grown hg5 hs5)
            obtain ⟨N, hN⟩ : ∃ N : Nat, (N : Int) = t0 := ⟨t0.toNat, by omega⟩
            clear hc2 hs5 hg5 ht1 hD
            go_wp2_with fail
            go_loopw [8] (fun i wr => ∃ (t k6 : Nat) (d' : Gl) (h : GlH), i = .int .i64 t ∧ DrG w Y b wr d' h k6 ∧ d'.out.length + t = N ∧ k6 + 200 * t ≤ k + 10 + 200 * N ∧ d'.anchors = []) (fun i wr => (intOf i).toNat)
            case atStart => exact ⟨N, k5, d, nilH, by rw [hN], hD5.out, by rw [e1]; simp, by omega, e3⟩
            case round =>
              clear hD5
              obtain ⟨t, k6, d', h, rfl, hE, hl, hk6, ea⟩ := hrel
              by_cases ht : 0 < t
              · have hti : (0 : Int) < (t : Int) := by omega
                obtain ⟨ys, hys⟩ := hE.o
                have hYb := hE.lo
                have hYl := hE.hi
                have hn3 := hE.on
                have c3 := hE.cells (i := 3) rfl
                have f3 := Go.Joins.unfrozen_of_block hE.box
                have hcD := Lib.hid (l10DrawLoop_any b k6 500 wr.drew hE.s (by omega) (by omega) (by omega))
                have hbY : b < Y + 1 := by omega
                replace hys := Lib.hid hys
                replace hE := Lib.hid hE
                go_wp2_with fail
                go_region_law (first
                  | (refine stepAppAt rfl (.tmp 66) (.tmp 69) elemLoop rfl (v := .slice h.out.A h.out.n h.out.c) (n := h.out.n) (xs := ys) rfl ((own_grown hys.out.1 hg6.out hbY).alloc _) rfl (src_at (cs := [.slice A2 K.length c2]) rfl (by simp [Value.oneCell']) (by simp)) (by omega) (by omega) (by simp; omega) (h.out.n + 1) rfl ?_; intro A7 c7 w7 ho7 hg7; have hk7 : w7.heap[Y]? = wr.heap[Y]? := ((hg7.block Y (by simp; omega) (fun e => by have := (hys.out.1.lt _ e.symm).1; omega)).trans (Below.heap_alloc _ _ _ (by omega))).trans (hg6.out.block Y hYl (by intro e; injection e with e; omega)); have q7 : w7.cell? ⟨Y, 3, none⟩ = some (.slice h.out.A h.out.n h.out.c) := (World.cell?_of_block hk7).trans c3; have f7 : ∀ o, w7.frozen? ⟨Y, o, none⟩ = false := (fun o => (World.frozen?_of_block hk7).trans (f3 o)); replace ho7 := Lib.hid ho7; replace hg7 := Lib.hid hg7; clear hk7)
                  | (go_simp; go_at_call 133; refine hcD.out.mono ?_; rintro e w6 ⟨A2, n2, c2, k7, K, rfl, hKl, hK1, hK9, hrow6, hs6, hk7b, hg6x⟩; subst hKl; have hg6 : Hid (wr.grownBy w6 (some b)) := (show wr.grownBy w6 (some b) from ⟨hg6x.os, hg6x.tape, hg6x.output, hg6x.size, hg6x.block⟩); have hz6 := hg6.out.size; have q6 : w6.cell? ⟨Y, 3, none⟩ = some (.slice h.out.A h.out.n h.out.c) := (World.cell?_of_block (hg6.out.block Y hYl (by intro e; injection e with e; omega))).trans c3; have q6l : Y < w6.heap.size := (by omega); replace hrow6 := Lib.hid hrow6; replace hs6 := Lib.hid hs6; clear hg6x; dsimp only))
                all_goals
                  go_wp2_with fail
                  go_roundw
                  case rel =>
                    exact ⟨t - 1, k7, ⟨d'.name, d'.code, d'.adv, d'.out ++ [K], d'.parts, d'.anchors, d'.hints⟩, ⟨⟨A7, h.out.n + 1, c7⟩, h.parts, h.anchors⟩, by go_num, hE.out.loop (k' := k7) (B := wr.heap.size) hys.out (grown_allocA hg6.out _) (hs6.out.kept (Go.Joins.below_alloc1 _ _) hs6.out.lt) (hrow6.out.alloc _) (Nat.le_refl _) hg7.out ho7.out (by omega) hK9, by simp; omega, by omega, ea⟩
                  case measure => simp [intOf]; omega
              · have ht0' : t = 0 := by omega
                have hti : ¬ (0 : Int) < (t : Int) := by omega
                replace ht0' := Lib.hid ht0'
                replace hl := Lib.hid hl
                go_wp2_with fail
                go_meet
                exact ⟨k6, d', h, rfl, hE, by omega, ea⟩
          · have h0q := hrq rfl
            have hc2 := Lib.hid (pick_any b k4 3 w4 hD.out.s (by omega))
            go_wp2_with fail
            refine hc2.out.mono ?_
            rintro e w5 ⟨t0, k5, rfl, ht0, ht1, _, hs5, hk5, hg5⟩
            have ht3 := ht1 (by omega)
            have hD5 := Lib.hid (hD.out.grown hg5 hs5)
            obtain ⟨N, hN⟩ : ∃ N : Nat, (N : Int) = 1 + t0 := ⟨(1 + t0).toNat, by omega⟩
            clear hc2 hs5 hg5 ht1 hD
            go_wp2_with fail
            go_loopw [6] (fun i wr => ∃ (t k6 : Nat) (d' : Gl) (h : GlH), i = .int .i64 t ∧ DrG w Y b wr d' h k6 ∧ d'.parts.length + t = N ∧ k6 + 20 * t ≤ k + 10 + 20 * N ∧ d'.anchors = []) (fun i wr => (intOf i).toNat)
            case atStart => exact ⟨N, k5, d, nilH, by rw [hN], hD5.out, by rw [e2]; simp, by omega, e3⟩
            case round =>
              clear hD5
              obtain ⟨t, k6, d', h, rfl, hE, hl, hk6, ea⟩ := hrel
              by_cases ht : 0 < t
              · have hti : (0 : Int) < (t : Int) := by omega
                have hcP := Lib.hid (pick_any b k6 q wr hE.s (by omega))
                replace hE := Lib.hid hE
                go_wp2_with fail
                refine hcP.out.mono ?_
                rintro e w6 ⟨p0, k7, rfl, hp0, _, _, hs7, hk7, hg7⟩
                have hE6 := Lib.hid (hE.out.grown hg7 hs7)
                have hYl := hE6.out.hi
                have hYb := hE6.out.lo
                have hbl6 := hs7.lt
                have HP := Lib.hid (heap_alloc_new w6 (.cells #[.int .i64 p0, .int .i64 0, .int .i64 0] 106 (0, 0)))
                have hba := Go.Joins.below_alloc1 w6 (.cells #[.int .i64 p0, .int .i64 0, .int .i64 0] 106 (0, 0))
                have hzz : (w6.alloc (.cells #[.int .i64 p0, .int .i64 0, .int .i64 0] 106 (0, 0))).heap.size = w6.heap.size + 1 := by simp
                have hsa := Lib.hid (hs7.kept hba hbl6)
                clear hcP hs7 hg7 hE
                go_wp2_with fail
                generalize w6.alloc (.cells #[.int .i64 p0, .int .i64 0, .int .i64 0] 106 (0, 0)) = w7 at *
                refine (l03Draw_any b k7 500 w7 hsa.out (by omega) (by omega) (by omega)).mono ?_
                rintro e w8 ⟨x, y, k8, rfl, hxy, hs8, hk8, hg8⟩
                replace hxy := Lib.hid (hxy.mono (show (500 : Int) ≤ 600 by omega))
                have hz8 := hg8.size
                have HP8 := Lib.hid ((hg8.block w6.heap.size (by omega) (by intro e; injection e with e; omega)).trans HP.out)
                have hg68 : w6.grownBy ((w8.setCell ⟨w6.heap.size, 1, none⟩ (.int .i64 x)).setCell ⟨w6.heap.size, 2, none⟩ (.int .i64 y)) (some b) := grown_setO (grown_setO (grown_tr (grown_of hba (some b)) hg8) (Nat.le_refl _) _ _) (Nat.le_refl _) _ _
                have hE9 := Lib.hid (hE6.out.grown hg68 ((hs8.set hbl6).set hbl6))
                have u0 : w8.cell? ⟨w6.heap.size, 0, none⟩ = some (.int .i64 p0) := by rw [Go.Joins.cell_of_block HP8.out]; rfl
                have u1 : w8.cell? ⟨w6.heap.size, 1, none⟩ = some (.int .i64 0) := by rw [Go.Joins.cell_of_block HP8.out]; rfl
                have u2 : w8.cell? ⟨w6.heap.size, 2, none⟩ = some (.int .i64 0) := by rw [Go.Joins.cell_of_block HP8.out]; rfl
                have uf : ∀ o, w8.frozen? ⟨w6.heap.size, o, none⟩ = false := Go.Joins.unfrozen_of_block HP8.out
                have ul : w6.heap.size < w8.heap.size := by omega
                have hY8 : Hid (w8.heap[Y]? = w6.heap[Y]?) := (hg8.block Y (by omega) (by intro e; injection e with e; omega)).trans (hba.block Y hYl)
                have v4 : w8.cell? ⟨Y, 4, none⟩ = some (.slice h.parts.A h.parts.n h.parts.c) := (World.cell?_of_block hY8.out).trans (hE6.out.cells (i := 4) rfl)
                have vf : ∀ o, w8.frozen? ⟨Y, o, none⟩ = false := fun o => (World.frozen?_of_block hY8.out).trans (Go.Joins.unfrozen_of_block hE6.out.box o)
                have vl : Y < w8.heap.size := by omega
                have n1 : ¬ Y = w6.heap.size := by omega
                have n2 : ¬ w6.heap.size = Y := by omega
                have hpn := hE9.out.pn
                have hzs : ((w8.setCell ⟨w6.heap.size, 1, none⟩ (.int .i64 x)).setCell ⟨w6.heap.size, 2, none⟩ (.int .i64 y)).heap.size = w8.heap.size := by simp
                have hE10 : Hid (∀ o : Obj, DrG w Y b (((w8.setCell ⟨w6.heap.size, 1, none⟩ (.int .i64 x)).setCell ⟨w6.heap.size, 2, none⟩ (.int .i64 y)).alloc o) d' h k8) := fun o => hE9.out.below (Go.Joins.below_alloc1 _ _)
                replace hzs := Lib.hid hzs
                replace hba := Lib.hid hba
                clear HP HP8 hg68 hs8 hg8 hsa hzz
                go_wp2_with (at_builtin; refine wpAppAt rfl (.tmp 53) (.tmp 55) elemPart rfl (v := .slice h.parts.A h.parts.n h.parts.c) (n := h.parts.n) (xs := d'.parts.flatMap partC) rfl (hE10.out _).p rfl (src_at (cs := [.int .i64 p0, .int .i64 x, .int .i64 y]) rfl (by simp [Value.oneCell']) (by simp)) (by omega) (by omega) (by simp; omega) (h.parts.n + 1) rfl ?_; intro A11 c11 w11 ho11 hg11 _; have hk11 : w11.heap[Y]? = w8.heap[Y]? := (hg11.block Y (by simp; omega) (fun e => by have := (hE9.out.p.lt _ e.symm).1; omega)).trans ((Below.heap_alloc _ _ _ (by simp; omega)).trans ((Below.heap_setCell _ _ _ _ (by simp only; omega)).trans (Below.heap_setCell _ _ _ _ (by simp only; omega)))); have y4 : w11.cell? ⟨Y, 4, none⟩ = some (.slice h.parts.A h.parts.n h.parts.c) := (World.cell?_of_block hk11).trans v4; have yf : ∀ o, w11.frozen? ⟨Y, o, none⟩ = false := (fun o => (World.frozen?_of_block hk11).trans (vf o)); replace ho11 := Lib.hid ho11; replace hg11 := Lib.hid hg11; clear hk11)
                go_roundw
                case rel =>
                  exact ⟨t - 1, k8, ⟨d'.name, d'.code, d'.adv, d'.out, d'.parts ++ [(p0, x, y)], d'.anchors, d'.hints⟩, ⟨h.out, ⟨A11, h.parts.n + 1, c11⟩, h.anchors⟩, by go_num, (hE10.out _).part (p := (p0, x, y)) hg11.out ho11.out (by omega) hxy.out, by simp; omega, by omega, ea⟩
                case measure => simp [intOf]; omega
              · have ht0' : t = 0 := by omega
                have hti : ¬ (0 : Int) < (t : Int) := by omega
                replace ht0' := Lib.hid ht0'
                replace hl := Lib.hid hl
                go_wp2_with fail
                go_meet
                exact ⟨k6, d', h, rfl, hE, by omega, ea⟩
        case rest =>
          obtain ⟨w5, hw5⟩ : ∃ v, v = wc := ⟨_, rfl⟩
          subst hw5
          clear hD e1 e2 e3
          obtain ⟨k5, d, h, rfl, hD, hk5, ea⟩ := hcut
          have hS := Lib.hid (heap_alloc_new w5 (.cells #[.string ⟨#[116, 111, 112]⟩, .string ⟨#[98, 111, 116, 116, 111, 109]⟩, .string ⟨#[109, 97, 114, 107, 46, 116, 111, 112]⟩] 9 (0, 0)))
          have hD6 := Lib.hid (hD.below (Go.Joins.below_alloc1 w5 (.cells #[.string ⟨#[116, 111, 112]⟩, .string ⟨#[98, 111, 116, 116, 111, 109]⟩, .string ⟨#[109, 97, 114, 107, 46, 116, 111, 112]⟩] 9 (0, 0))))
          have hYb := hD.lo
          have hY5 := hD.hi
          replace hD := Lib.hid hD
          go_wp2_with fail
          generalize w5.alloc (.cells #[.string ⟨#[116, 111, 112]⟩, .string ⟨#[98, 111, 116, 116, 111, 109]⟩, .string ⟨#[109, 97, 114, 107, 46, 116, 111, 112]⟩] 9 (0, 0)) = w6 at *
          go_loopw [10] (fun i wr => ∃ (t k6 : Nat) (d' : Gl) (h' : GlH), i = .int .i64 t ∧ t ≤ 3 ∧ DrG w Y b wr d' h' k6 ∧ d'.anchors.length ≤ t ∧ k6 ≤ k + 700 + 20 * t ∧ wr.heap[w5.heap.size]? = some (.cells #[.string ⟨#[116, 111, 112]⟩, .string ⟨#[98, 111, 116, 116, 111, 109]⟩, .string ⟨#[109, 97, 114, 107, 46, 116, 111, 112]⟩] 9 (0, 0))) (fun i wr => 3 - (intOf i).toNat)
          case atStart => exact ⟨0, k5, d, h, rfl, by omega, hD6.out, by rw [ea]; simp, by omega, hS.out⟩
          case round =>
            clear hS hD6
            obtain ⟨t, k6, d', h', rfl, ht, hE, hal, hk6, hS⟩ := hrel
            by_cases ht3 : t < 3
            · obtain ⟨nmv, hn, hnz⟩ : ∃ nmv : ByteArray, wr.cell? ⟨w5.heap.size, t, none⟩ = some (.string nmv) ∧ nmv.size ≤ 12 := by
                rw [Go.Joins.cell_of_block hS]
                match t, ht3 with
                | 0, _ => exact ⟨_, rfl, by decide⟩
                | 1, _ => exact ⟨_, rfl, by decide⟩
                | 2, _ => exact ⟨_, rfl, by decide⟩
              have hSl := (Array.getElem?_eq_some_iff.1 hS).1
              have hti : (t : Int) < 3 := by omega
              have ht0i : (0 : Int) ≤ (t : Int) := by omega
              have hc1 := Lib.hid (one_any b k6 3 wr hE.s (by omega))
              replace hE := Lib.hid hE
              go_wp2_with fail
              refine hc1.out.mono ?_
              rintro e w7 ⟨r7, k7, rfl, hs7, hk7, hg7⟩
              have hE7 := hE.out.grown hg7 hs7
              have hz7 := hg7.size
              have hS7 := (hg7.block w5.heap.size hSl (by intro e; injection e with e; omega)).trans hS
              have hn7 : w7.cell? ⟨w5.heap.size, t, none⟩ = some (.string nmv) := (World.cell?_of_block (hg7.block w5.heap.size hSl (by intro e; injection e with e; omega))).trans hn
              clear hc1 hg7 hE hs7 hn hS
              cases r7
              · replace hE7 := Lib.hid hE7
                replace hS7 := Lib.hid hS7
                go_wp2_with fail
                go_roundw
                case rel => exact ⟨t + 1, k7, d', h', by go_num, by omega, hE7.out, by omega, by omega, hS7.out⟩
                case measure => simp [intOf]; omega
              · have c5 := hE7.cells (i := 5) rfl
                have f5 := Go.Joins.unfrozen_of_block hE7.box
                have hY7 := hE7.hi
                have hS7l : w5.heap.size < w7.heap.size := by omega
                have han := hE7.an
                have hcD := Lib.hid (l03Draw_any b k7 600 w7.drew hE7.s (by omega) (by omega) (by omega))
                have hbY : b < Y + 1 := by omega
                replace hE7 := Lib.hid hE7
                replace hS7 := Lib.hid hS7
                go_wp2_with fail
                go_region_law (first
                  | (refine stepAppAt rfl (.tmp 81) (.tmp 89) elemAnchor rfl (v := .slice h'.anchors.A h'.anchors.n h'.anchors.c) (n := h'.anchors.n) (xs := d'.anchors.flatMap anchC) rfl (hE8.out.a.alloc _) rfl (src_at (cs := [.string nmv, .int .i64 x, .int .i64 y]) rfl (by simp [Value.oneCell']) (by simp)) (by omega) (by omega) (by simp; omega) (h'.anchors.n + 1) rfl ?_; intro A9 c9 w9 ho9 hg9; have hk9 : w9.heap[Y]? = w8.heap[Y]? := ((hg9.block Y (by simp; omega) (fun e => by have := (hE8.out.a.lt _ e.symm).1; omega)).trans (Below.heap_alloc _ _ _ (by omega))); have q9 : w9.cell? ⟨Y, 5, none⟩ = some (.slice h'.anchors.A h'.anchors.n h'.anchors.c) := (World.cell?_of_block hk9).trans q8; have f9 : ∀ o, w9.frozen? ⟨Y, o, none⟩ = false := (fun o => (World.frozen?_of_block hk9).trans (Go.Joins.unfrozen_of_block hE8.out.box o)); replace ho9 := Lib.hid ho9; replace hg9 := Lib.hid hg9; clear hk9)
                  | (go_simp; go_at_call 132; refine hcD.out.mono ?_; rintro e w8 ⟨x, y, k8, rfl, hxy, hs8, hk8, hg8x⟩; replace hxy := Lib.hid hxy; have hg8 : w7.grownBy w8 (some b) := (show w7.grownBy w8 (some b) from ⟨hg8x.os, hg8x.tape, hg8x.output, hg8x.size, hg8x.block⟩); have hE8 := Lib.hid (hE7.out.grown hg8 hs8); have hz8 := hg8.size; have hS8 : w8.heap[w5.heap.size]? = w7.heap[w5.heap.size]? := hg8.block w5.heap.size hS7l (by intro e; injection e with e; omega); have n8 : w8.cell? ⟨w5.heap.size, t, none⟩ = some (.string nmv) := (World.cell?_of_block hS8).trans hn7; have q8 : w8.cell? ⟨Y, 5, none⟩ = some (.slice h'.anchors.A h'.anchors.n h'.anchors.c) := (World.cell?_of_block (hg8.block Y hY7 (by intro e; injection e with e; omega))).trans c5; have q8l : Y < w8.heap.size := (by omega); have n8l : w5.heap.size < w8.heap.size := (by omega); replace hS8 := Lib.hid hS8; clear hg8x hg8 hs8; dsimp only))
                all_goals
                  go_wp2_with fail
                  go_roundw
                  case rel =>
                    refine ⟨t + 1, k8, ⟨d'.name, d'.code, d'.adv, d'.out, d'.parts, d'.anchors ++ [(nmv, x, y)], d'.hints⟩, ⟨h'.out, h'.parts, ⟨A9, h'.anchors.n + 1, c9⟩⟩, by go_num, by omega, DrG.anch (p := (nmv, x, y)) (hE8.out.below (Go.Joins.below_alloc1 _ _)) hg9.out ho9.out (by omega) hnz hxy.out, by simp; omega, by omega, ?_⟩
                    exact (Below.heap_setCell _ _ _ _ (by simp only; omega)).trans ((hg9.out.block w5.heap.size (by simp; omega) (fun e => by obtain ⟨_, hk'⟩ := own_kind hE8.out.a e.symm; rw [hS8.out, hS7.out] at hk'; injection hk' with hk'; injection hk' with _ hk' _; exact absurd hk' (by decide))).trans ((Below.heap_alloc _ _ _ (by omega)).trans (hS8.out.trans hS7.out)))
                  case measure => simp [intOf]; omega
            · have hti : ¬ (t : Int) < 3 := by omega
              have hc1 := Lib.hid (one_any b k6 4 wr hE.s (by omega))
              replace hE := Lib.hid hE
              clear hS
              go_wp2_with fail
              refine hc1.out.mono ?_
              rintro e w7 ⟨r7, k7, rfl, hs7, hk7, hg7⟩
              have hE7 := hE.out.grown hg7 hs7
              have kx : w.heap.size < Y + 1 := by omega
              clear hc1 hg7 hE
              cases r7
              · clear hs7
                have r0 : w7.cell? ⟨w.heap.size, 0, none⟩ = some (.string ⟨#[]⟩) := by rw [Go.Joins.cell_of_block hE7.res]; rfl
                have r1 : w7.cell? ⟨w.heap.size, 1, none⟩ = some (.int .i64 0) := by rw [Go.Joins.cell_of_block hE7.res]; rfl
                have r2 : w7.cell? ⟨w.heap.size, 2, none⟩ = some (.int .i64 0) := by rw [Go.Joins.cell_of_block hE7.res]; rfl
                have r3 : w7.cell? ⟨w.heap.size, 3, none⟩ = some (.slice none 0 0) := by rw [Go.Joins.cell_of_block hE7.res]; rfl
                have r4' : w7.cell? ⟨w.heap.size, 4, none⟩ = some (.slice none 0 0) := by rw [Go.Joins.cell_of_block hE7.res]; rfl
                have r5 : w7.cell? ⟨w.heap.size, 5, none⟩ = some (.slice none 0 0) := by rw [Go.Joins.cell_of_block hE7.res]; rfl
                have r6 : w7.cell? ⟨w.heap.size, 6, none⟩ = some (.string ⟨#[]⟩) := by rw [Go.Joins.cell_of_block hE7.res]; rfl
                have rf : ∀ o, w7.frozen? ⟨w.heap.size, o, none⟩ = false := Go.Joins.unfrozen_of_block hE7.res
                have y0 : w7.cell? ⟨Y, 0, none⟩ = some (.string d'.name) := hE7.cells (i := 0) rfl
                have y1 : w7.cell? ⟨Y, 1, none⟩ = some (.int .i64 d'.code) := hE7.cells (i := 1) rfl
                have y2 : w7.cell? ⟨Y, 2, none⟩ = some (.int .i64 d'.adv) := hE7.cells (i := 2) rfl
                have y3 : w7.cell? ⟨Y, 3, none⟩ = some (.slice h'.out.A h'.out.n h'.out.c) := hE7.cells (i := 3) rfl
                have y4 : w7.cell? ⟨Y, 4, none⟩ = some (.slice h'.parts.A h'.parts.n h'.parts.c) := hE7.cells (i := 4) rfl
                have y5 : w7.cell? ⟨Y, 5, none⟩ = some (.slice h'.anchors.A h'.anchors.n h'.anchors.c) := hE7.cells (i := 5) rfl
                have y6 : w7.cell? ⟨Y, 6, none⟩ = some (.string d'.hints) := hE7.cells (i := 6) rfl
                have yf : ∀ o, w7.frozen? ⟨Y, o, none⟩ = false := Go.Joins.unfrozen_of_block hE7.box
                have yl : Y < w7.heap.size := hE7.hi
                have rl : w.heap.size < w7.heap.size := by omega
                replace hE7 := Lib.hid hE7
                go_wp2_with fail
                refine bodyPost_ret (v := glV d' h') (by simp [results, Tryz.results98, go_sem, r0, r1, r2, r3, r4', r5, r6]) rfl ⟨d', h', k7, rfl, ?_, hE7.out.ok, ?_, by omega, ?_⟩
                · have hx := hE7.out.glx
                  exact (hx.same ((((((((SameB.refl _ _ _).setCell (.inl kx) _).setCell (.inl kx) _).setCell (.inl kx) _).setCell (.inl kx) _).setCell (.inl kx) _).setCell (.inl kx) _).setCell (.inl kx) _)).wide (by omega) (by simp)
                · exact ((((((hE7.out.s.set hbl).set hbl).set hbl).set hbl).set hbl).set hbl).set hbl
                · exact grown_setO (grown_setO (grown_setO (grown_setO (grown_setO (grown_setO (grown_setO hE7.out.g (Nat.le_refl _) _ _) (Nat.le_refl _) _ _) (Nat.le_refl _) _ _) (Nat.le_refl _) _ _) (Nat.le_refl _) _ _) (Nat.le_refl _) _ _) (Nat.le_refl _) _ _
              · have hcW := Lib.hid (word_any b k7 8 w7 hs7 (by omega) (by omega) (by omega))
                replace hE7 := Lib.hid hE7
                clear hs7
                go_wp2_with fail
                refine hcW.out.mono ?_
                rintro e w8 ⟨sw, k8, rfl, hsz, hs8, hk8, hg8⟩
                have hE8 := hE7.out.grown hg8 hs8
                clear hcW hE7 hg8 hs8
                have r0 : w8.cell? ⟨w.heap.size, 0, none⟩ = some (.string ⟨#[]⟩) := by rw [Go.Joins.cell_of_block hE8.res]; rfl
                have r1 : w8.cell? ⟨w.heap.size, 1, none⟩ = some (.int .i64 0) := by rw [Go.Joins.cell_of_block hE8.res]; rfl
                have r2 : w8.cell? ⟨w.heap.size, 2, none⟩ = some (.int .i64 0) := by rw [Go.Joins.cell_of_block hE8.res]; rfl
                have r3 : w8.cell? ⟨w.heap.size, 3, none⟩ = some (.slice none 0 0) := by rw [Go.Joins.cell_of_block hE8.res]; rfl
                have r4' : w8.cell? ⟨w.heap.size, 4, none⟩ = some (.slice none 0 0) := by rw [Go.Joins.cell_of_block hE8.res]; rfl
                have r5 : w8.cell? ⟨w.heap.size, 5, none⟩ = some (.slice none 0 0) := by rw [Go.Joins.cell_of_block hE8.res]; rfl
                have r6 : w8.cell? ⟨w.heap.size, 6, none⟩ = some (.string ⟨#[]⟩) := by rw [Go.Joins.cell_of_block hE8.res]; rfl
                have rf : ∀ o, w8.frozen? ⟨w.heap.size, o, none⟩ = false := Go.Joins.unfrozen_of_block hE8.res
                have y0 : w8.cell? ⟨Y, 0, none⟩ = some (.string d'.name) := hE8.cells (i := 0) rfl
                have y1 : w8.cell? ⟨Y, 1, none⟩ = some (.int .i64 d'.code) := hE8.cells (i := 1) rfl
                have y2 : w8.cell? ⟨Y, 2, none⟩ = some (.int .i64 d'.adv) := hE8.cells (i := 2) rfl
                have y3 : w8.cell? ⟨Y, 3, none⟩ = some (.slice h'.out.A h'.out.n h'.out.c) := hE8.cells (i := 3) rfl
                have y4 : w8.cell? ⟨Y, 4, none⟩ = some (.slice h'.parts.A h'.parts.n h'.parts.c) := hE8.cells (i := 4) rfl
                have y5 : w8.cell? ⟨Y, 5, none⟩ = some (.slice h'.anchors.A h'.anchors.n h'.anchors.c) := hE8.cells (i := 5) rfl
                have y6 : w8.cell? ⟨Y, 6, none⟩ = some (.string d'.hints) := hE8.cells (i := 6) rfl
                have yf : ∀ o, w8.frozen? ⟨Y, o, none⟩ = false := Go.Joins.unfrozen_of_block hE8.box
                have yl : Y < w8.heap.size := hE8.hi
                have rl : w.heap.size < w8.heap.size := by omega
                have hE9 := hE8.cell (i := 6) (d' := ⟨d'.name, d'.code, d'.adv, d'.out, d'.parts, d'.anchors, sw⟩) (u := .string sw) rfl rfl rfl rfl ⟨hE8.ok.nm, hE8.ok.ol, hE8.ok.ok, hE8.ok.pl, hE8.ok.al, hE8.ok.as', by show sw.size ≤ 8; omega, hE8.ok.pm, hE8.ok.am⟩
                replace hE8 := Lib.hid hE8
                replace hE9 := Lib.hid hE9
                have n1 : ¬ Y = w.heap.size := by omega
                have n2 : ¬ w.heap.size = Y := by omega
                go_wp2_with fail
                refine bodyPost_ret (v := glV (⟨d'.name, d'.code, d'.adv, d'.out, d'.parts, d'.anchors, sw⟩ : Gl) h') (by simp [results, Tryz.results98, go_sem, r0, r1, r2, r3, r4', r5, r6]) rfl ⟨(⟨d'.name, d'.code, d'.adv, d'.out, d'.parts, d'.anchors, sw⟩ : Gl), h', k8, rfl, ?_, hE9.out.ok, ?_, by omega, ?_⟩
                · have hx := hE9.out.glx
                  exact (hx.same ((((((((SameB.refl _ _ _).setCell (.inl kx) _).setCell (.inl kx) _).setCell (.inl kx) _).setCell (.inl kx) _).setCell (.inl kx) _).setCell (.inl kx) _).setCell (.inl kx) _)).wide (by omega) (by simp)
                · exact ((((((hE9.out.s.set hbl).set hbl).set hbl).set hbl).set hbl).set hbl).set hbl
                · exact grown_setO (grown_setO (grown_setO (grown_setO (grown_setO (grown_setO (grown_setO hE9.out.g (Nat.le_refl _) _ _) (Nat.le_refl _) _ _) (Nat.le_refl _) _ _) (Nat.le_refl _) _ _) (Nat.le_refl _) _ _) (Nat.le_refl _) _ _) (Nat.le_refl _) _ _
end Go.Proofs.YtgdkabljgabjoaaGreatDoor

