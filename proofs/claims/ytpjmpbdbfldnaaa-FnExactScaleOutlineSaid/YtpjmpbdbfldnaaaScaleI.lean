/- impl.ScaleOutline. Conditions: as it states. -/
import Derived.Test.YtpjmpbdbfldnaaaMapO2
import Derived.Test.YtpjmpbdbfldnaaaMoveI
namespace Go.Proofs.Ytpjmpbdbfldnaaa
open Go.RowKit
set_option linter.unusedVariables false
set_option maxRecDepth 100000

def scP (s u : Int) (p : Int × Int) : Int × Int := (rnd (p.1 * s * 64) u, rnd (p.2 * s * 64) u)
def scaled (s u : Int) (Ls : List (List Knot)) : List (List Knot) := Ls.map (List.map (mapK (scP s u)))
def scaleOf (s u : Int) (Ls : List (List Knot)) : List (List Knot) × Int :=
  if outOk Ls then (if scalesB s u then (if outOk (scaled s u Ls) then (scaled s u Ls, 0) else ([], 2)) else ([], 2)) else ([], 1)
theorem ask_pt {s u v : Int} (h : scalesB s u = true) (h1 : -262144 ≤ v) (h2 : v ≤ 262144) : askB v s u = true := by
  simp only [scalesB, Bool.and_eq_true] at h
  exact askB_of (inB_iff.2 ⟨h1, h2⟩) h.1 h.2

theorem scale1_any (b1 b2 : Nat) (x y s u : Int) (w : World) (hc0 : w.cell? ⟨b1, 0, none⟩ = some (.int .i64 s)) (hc1 : w.cell? ⟨b2, 0, none⟩ = some (.int .i64 u)) (h1 : b1 < w.heap.size) (h2 : b2 < w.heap.size) (hx : askB x s u = true) (hy : askB y s u = true) :
    Calls Try.prog 120 #[.agg #[.int .i64 x, .int .i64 y], .pointer (some ⟨b1, 0, none⟩), .pointer (some ⟨b2, 0, none⟩)] w fun e w' => e = .returned (.agg #[.int .i64 (rnd (x * s * 64) u), .int .i64 (rnd (y * s * 64) u)]) ∧ Below w.heap.size w w' := by
  have ha := Lib.hid (fun W => implScaleTo_yes x s u W hx)
  have hb := Lib.hid (fun W => implScaleTo_yes y s u W hy)
  clear hx hy
  generalize rnd (x * s * 64) u = p at *
  generalize rnd (y * s * 64) u = q at *
  go_enter Try.func120, Try.ntmps120
  go_wp2_with fail
  refine (ha.out _).mono ?_
  rintro e w' ⟨rfl, rfl⟩
  go_wp2_with fail
  refine (hb.out _).mono ?_
  rintro e w' ⟨rfl, rfl⟩
  go_wp2_with fail
  refine bodyPost_ret (v := .agg #[.int .i64 p, .int .i64 q]) (by simp [results, Try.results120, go_sem]) rfl ⟨rfl, ?_⟩
  repeat (first | exact Below.refl _ _ | refine Below.setCell ?_ (by simp <;> omega) _ | refine Below.alloc ?_ (by simp <;> omega) _)

theorem heap_new4 (w : World) (a b c d : Obj) : ((((w.alloc a).alloc b).alloc c).alloc d).heap[w.heap.size]? = some a ∧ ((((w.alloc a).alloc b).alloc c).alloc d).heap[w.heap.size + 1]? = some b ∧ ((((w.alloc a).alloc b).alloc c).alloc d).heap[w.heap.size + 2]? = some c ∧ ((((w.alloc a).alloc b).alloc c).alloc d).heap[w.heap.size + 3]? = some d := by
  have h := heap_new0 w a b c
  have h4 := heap_alloc_new (((w.alloc a).alloc b).alloc c) d
  have s3 : (((w.alloc a).alloc b).alloc c).heap.size = w.heap.size + 3 := by simp
  rw [s3] at h4
  exact ⟨(Below.heap_alloc _ d _ (by simp <;> omega)).trans h.1, (Below.heap_alloc _ d _ (by simp <;> omega)).trans h.2.1, (Below.heap_alloc _ d _ (by simp <;> omega)).trans h.2.2, h4⟩

set_option maxHeartbeats 2000000 in
theorem implScale_any (A : Option Addr) (n c lo hi : Nat) (Ls : List (List Knot)) (x y : Int) (w : World) (hr : OutRd w lo hi A n Ls) (hhi : hi ≤ w.heap.size) (hn : n ≤ 1048576) (hK : ∀ K ∈ Ls, K.length ≤ 1048576) :
    Calls Try.prog 47 #[.agg #[.slice A n c], .int .i64 x, .int .i64 y] w fun e w' => ∃ A' n' c', e = .returned (.tuple #[.agg #[.slice A' n' c'], .int .i64 (scaleOf x y Ls).2]) ∧ OutOwn w' w.heap.size A' n' c' (scaleOf x y Ls).1 ∧ Below w.heap.size w w' := by
  obtain ⟨v, hv⟩ : ∃ v, v = outOk Ls := ⟨_, rfl⟩
  have hval := Lib.hid (fun W (hS : SameB lo hi w W) (h : hi ≤ W.heap.size) => validOutline_any A n c lo hi Ls v hv W (hr.frame good_loop hS) h (by omega) (fun K h => by have := hK K h; omega))
  have hnew := heap_new4 w (.cells #[.slice A n c] 41 (0, 0)) (.cells #[.int .i64 x] 2 (0, 0)) (.cells #[.int .i64 y] 2 (0, 0)) (.cells #[.slice none 0 0] 41 (0, 0))
  have hS0 : SameB lo hi w ((((w.alloc (.cells #[.slice A n c] 41 (0, 0))).alloc (.cells #[.int .i64 x] 2 (0, 0))).alloc (.cells #[.int .i64 y] 2 (0, 0))).alloc (.cells #[.slice none 0 0] 41 (0, 0))) := (((((SameB.refl lo hi w).alloc hhi _).alloc (by simp; omega) _).alloc (by simp; omega) _).alloc (by simp; omega) _)
  have hB0 : Below w.heap.size w ((((w.alloc (.cells #[.slice A n c] 41 (0, 0))).alloc (.cells #[.int .i64 x] 2 (0, 0))).alloc (.cells #[.int .i64 y] 2 (0, 0))).alloc (.cells #[.slice none 0 0] 41 (0, 0))) := (((((Below.refl _ _).alloc (Nat.le_refl _) _).alloc (by simp) _).alloc (by simp <;> omega) _).alloc (by simp <;> omega) _)
  have hz0 : w.heap.size + 4 ≤ ((((w.alloc (.cells #[.slice A n c] 41 (0, 0))).alloc (.cells #[.int .i64 x] 2 (0, 0))).alloc (.cells #[.int .i64 y] 2 (0, 0))).alloc (.cells #[.slice none 0 0] 41 (0, 0))).heap.size := by simp
  replace hnew := Lib.hid hnew
  cases v with
  | false =>
    have hm : scaleOf x y Ls = ([], 1) := by rw [scaleOf, ← hv]; rfl
    rw [hm]
    clear hr hK hv hm
    go_enter Try.func47, Try.ntmps47
    go_wp2_with fail
    generalize ((((w.alloc (.cells #[.slice A n c] 41 (0, 0))).alloc (.cells #[.int .i64 x] 2 (0, 0))).alloc (.cells #[.int .i64 y] 2 (0, 0))).alloc (.cells #[.slice none 0 0] 41 (0, 0))) = w0 at *
    refine (hval.out _ hS0 (by omega)).mono ?_
    rintro e w1 ⟨rfl, hb1⟩
    have hz1 := hb1.size
    have hR := (hb1.block (w.heap.size + 3) (by omega)).trans hnew.out.2.2.2
    have r0 : w1.cell? ⟨w.heap.size + 3, 0, none⟩ = some (.slice none 0 0) := by rw [Go.Joins.cell_of_block hR]; rfl
    have fr : ∀ o, w1.frozen? ⟨w.heap.size + 3, o, none⟩ = false := Go.Joins.unfrozen_of_block hR
    have hB1 : Below w.heap.size w w1 := hB0.trans (hb1.mono hB0.size)
    clear hnew hR hb1 hval
    go_wp2_with fail
    refine bodyPost_ret (v := .tuple #[.agg #[.slice none 0 0], .int .i64 1]) (by simp [results, Try.results47, go_sem, r0]) rfl ⟨none, 0, 0, rfl, OutOwn.empty _ _, hB1.setCell (by simp; omega) _⟩
  | true =>
    obtain ⟨b, hb⟩ : ∃ b, b = scalesB x y := ⟨_, rfl⟩
    have hsc := Lib.hid (fun W => hb ▸ scales_any x y W)
    cases b with
    | false =>
      have hm : scaleOf x y Ls = ([], 2) := by rw [scaleOf, ← hv, ← hb]; rfl
      rw [hm]
      clear hr hK hv hm hb
      go_enter Try.func47, Try.ntmps47
      go_wp2_with fail
      generalize ((((w.alloc (.cells #[.slice A n c] 41 (0, 0))).alloc (.cells #[.int .i64 x] 2 (0, 0))).alloc (.cells #[.int .i64 y] 2 (0, 0))).alloc (.cells #[.slice none 0 0] 41 (0, 0))) = w0 at *
      refine (hval.out _ hS0 (by omega)).mono ?_
      rintro e w1 ⟨rfl, hb1⟩
      have hz1 := hb1.size
      have hR := (hb1.block (w.heap.size + 3) (by omega)).trans hnew.out.2.2.2
      have hP := (hb1.block (w.heap.size + 1) (by omega)).trans hnew.out.2.1
      have hU := (hb1.block (w.heap.size + 2) (by omega)).trans hnew.out.2.2.1
      have r0 : w1.cell? ⟨w.heap.size + 3, 0, none⟩ = some (.slice none 0 0) := by rw [Go.Joins.cell_of_block hR]; rfl
      have p0 : w1.cell? ⟨w.heap.size + 1, 0, none⟩ = some (.int .i64 x) := by rw [Go.Joins.cell_of_block hP]; rfl
      have p1 : w1.cell? ⟨w.heap.size + 2, 0, none⟩ = some (.int .i64 y) := by rw [Go.Joins.cell_of_block hU]; rfl
      have fr : ∀ o, w1.frozen? ⟨w.heap.size + 3, o, none⟩ = false := Go.Joins.unfrozen_of_block hR
      have hB1 : Below w.heap.size w w1 := hB0.trans (hb1.mono hB0.size)
      clear hnew hR hb1 hval hP hU
      go_wp2_with (go_at_call 116; refine (hsc.out _).mono ?_; rintro e w' ⟨rfl, rfl⟩)
      refine bodyPost_ret (v := .tuple #[.agg #[.slice none 0 0], .int .i64 2]) (by simp [results, Try.results47, go_sem, r0]) rfl ⟨none, 0, 0, rfl, OutOwn.empty _ _, hB1.setCell (by simp; omega) _⟩
    | true =>
      have hLs : ∀ (K : List Knot) (p : Knot), K ∈ Ls → p ∈ K → (-262144 ≤ p.1 ∧ p.1 ≤ 262144) ∧ (-262144 ≤ p.2.1 ∧ p.2.1 ≤ 262144) := fun K p h1 h2 => by
        have h := hv.symm
        simp only [outOk, Bool.and_eq_true, List.all_eq_true] at h
        have h3 := h.1 K h1
        simp only [loopOk, Bool.and_eq_true, List.all_eq_true] at h3
        exact ptOk_iff.1 (h3.2 p h2)
      have hfn : ∀ args w, Sem.run Try.prog (callFunc 120 args) w = .ok (.enter 120 args) w := by
        intro args w
        go_simp
      have hmap := Lib.hid (fun (W : World) (hS : SameB 0 w.heap.size w W) (hl : w.heap.size + 4 ≤ W.heap.size) (c0 : W.cell? ⟨w.heap.size + 1, 0, none⟩ = some (.int .i64 x)) (c1 : W.cell? ⟨w.heap.size + 2, 0, none⟩ = some (.int .i64 y)) => mapOutline2_any 120 (.pointer (some ⟨w.heap.size + 1, 0, none⟩)) (.pointer (some ⟨w.heap.size + 2, 0, none⟩)) (scP x y) A n c lo hi Ls W (hr.frame good_loop (hS.mono (Nat.zero_le _) hhi)) (by omega) hn hK hfn (fun K p V h1 h2 hV hl2 => by
        have hp := hLs K p h1 h2
        exact scale1_any (w.heap.size + 1) (w.heap.size + 2) p.1 p.2.1 x y V ((hV.cell (Nat.zero_le _) (by simp; omega)).trans c0) ((hV.cell (Nat.zero_le _) (by simp; omega)).trans c1) (by omega) (by omega) (ask_pt hb.symm hp.1.1 hp.1.2) (ask_pt hb.symm hp.2.1 hp.2.2)))
      clear hLs hfn hr
      replace hv := Lib.hid hv
      replace hb := Lib.hid hb
      replace hK := Lib.hid hK
      go_enter Try.func47, Try.ntmps47
      go_wp2_with fail
      generalize ((((w.alloc (.cells #[.slice A n c] 41 (0, 0))).alloc (.cells #[.int .i64 x] 2 (0, 0))).alloc (.cells #[.int .i64 y] 2 (0, 0))).alloc (.cells #[.slice none 0 0] 41 (0, 0))) = w0 at *
      refine (hval.out _ hS0 (by omega)).mono ?_
      rintro e w2 ⟨rfl, hb1⟩
      have hz1 := hb1.size
      have hO := (hb1.block w.heap.size (by omega)).trans hnew.out.1
      have hP := (hb1.block (w.heap.size + 1) (by omega)).trans hnew.out.2.1
      have hU := (hb1.block (w.heap.size + 2) (by omega)).trans hnew.out.2.2.1
      have hR2 := (hb1.block (w.heap.size + 3) (by omega)).trans hnew.out.2.2.2
      have o0 : w2.cell? ⟨w.heap.size, 0, none⟩ = some (.slice A n c) := by rw [Go.Joins.cell_of_block hO]; rfl
      have p0 : w2.cell? ⟨w.heap.size + 1, 0, none⟩ = some (.int .i64 x) := by rw [Go.Joins.cell_of_block hP]; rfl
      have p1 : w2.cell? ⟨w.heap.size + 2, 0, none⟩ = some (.int .i64 y) := by rw [Go.Joins.cell_of_block hU]; rfl
      have hB2 : Below w.heap.size w w2 := hB0.trans (hb1.mono hB0.size)
      replace hR2 := Lib.hid hR2
      clear hnew hb1 hO hP hU
      go_wp2_with (go_at_call 116; refine (hsc.out _).mono ?_; rintro e w' ⟨rfl, rfl⟩)
      refine (hmap.out w2 (Below.sameB hB2 (Nat.le_refl _)) (by omega) p0 p1).mono ?_
      rintro e w3 ⟨A3, c3, rfl, ho3, hb3⟩
      replace ho3 : OutOwn w3 w2.heap.size A3 n c3 (scaled x y Ls) := ho3
      have hz3 := hb3.size
      have hR3 := (hb3.block (w.heap.size + 3) (by omega)).trans hR2.out
      have hB3 := hB2.trans (hb3.mono hB2.size)
      clear hR2 hb3 o0 p0 p1 hmap hval hsc
      have hmK : ∀ K ∈ scaled x y Ls, K.length ≤ 1048576 := fun K h => by
        obtain ⟨K0, h0, rfl⟩ := List.mem_map.1 h
        rw [List.length_map]
        exact hK.out K0 h0
      obtain ⟨v3, hv3⟩ : ∃ v3, v3 = outOk (scaled x y Ls) := ⟨_, rfl⟩
      have hval3 := Lib.hid (fun W (hW : Below w3.heap.size w3 W) => validOutline_any A3 n c3 w2.heap.size w3.heap.size (scaled x y Ls) v3 hv3 W ((ho3.rd (fun K h => by have := hmK K h; unfold maxLen; omega)).frame good_loop (Below.sameB hW (Nat.le_refl _))) hW.size (by omega) (fun K h => by have := hmK K h; omega))
      replace ho3 := Lib.hid ho3
      replace hR3 := Lib.hid hR3
      clear hmK
      go_wp2_with fail
      refine (hval3.out _ ((Below.refl _ _).alloc (Nat.le_refl _) _)).mono ?_
      rintro e w4 ⟨rfl, hb4⟩
      have hz4 := hb4.size
      simp at hz4
      have hR4 := (hb4.block (w.heap.size + 3) (by simp; omega)).trans ((Below.heap_alloc _ _ _ (by omega)).trans hR3.out)
      have r0 : w4.cell? ⟨w.heap.size + 3, 0, none⟩ = some (.slice none 0 0) := by rw [Go.Joins.cell_of_block hR4]; rfl
      have fr : ∀ o, w4.frozen? ⟨w.heap.size + 3, o, none⟩ = false := Go.Joins.unfrozen_of_block hR4
      have hB34 : Below w3.heap.size w3 w4 := ((Below.refl _ _).alloc (Nat.le_refl _) _).trans (hb4.mono (by simp))
      have hm4 : w4.cell? ⟨w3.heap.size, 0, none⟩ = some (.slice A3 n c3) := by rw [hb4.cell (by simp)]; go_simp
      have hB4 := hB3.trans (hB34.mono hB3.size)
      have ho4 := Lib.hid (ho3.out.kept hB34)
      replace hv3 := Lib.hid hv3
      clear hb4 hR4 hval3 hR3
      replace hB34 := Lib.hid hB34
      cases v3 with
      | false =>
        have hm : scaleOf x y Ls = ([], 2) := by rw [scaleOf, ← hv.out, ← hb.out, ← hv3.out]; rfl
        replace hm := Lib.hid hm
        go_wp2_with fail
        refine bodyPost_ret (v := .tuple #[.agg #[.slice none 0 0], .int .i64 2]) (by simp [results, Try.results47, go_sem, r0]) rfl ⟨none, 0, 0, by rw [hm.out], by rw [hm.out]; exact OutOwn.empty _ _, hB4.setCell (by simp; omega) _⟩
      | true =>
        have hm : scaleOf x y Ls = (scaled x y Ls, 0) := by rw [scaleOf, ← hv.out, ← hb.out, ← hv3.out]; rfl
        replace hm := Lib.hid hm
        go_wp2_with fail
        refine bodyPost_ret (v := .tuple #[.agg #[.slice A3 n c3], .int .i64 0]) (by simp [results, Try.results47, go_sem, r0]) rfl ⟨A3, n, c3, by rw [hm.out], by rw [hm.out]; exact (OutOwn.stored_below (a := ⟨w.heap.size + 1 + 1 + 1, 0, none⟩) ho4.out (by show w.heap.size + 1 + 1 + 1 < w2.heap.size; omega) _).base (by omega), hB4.setCell (by simp; omega) _⟩
end Go.Proofs.Ytpjmpbdbfldnaaa
