/- impl.MoveOutline. Conditions: as it states. -/
import Derived.Test.YtpjmpbdbfldnaaaOpenO
import Derived.Test.YtpjmpbdbfldnaaaOutK
namespace Go.Proofs.Ytpjmpbdbfldnaaa
open Go.RowKit
set_option linter.unusedVariables false
set_option maxRecDepth 100000

def moved (x y : Int) (Ls : List (List Knot)) : List (List Knot) := Ls.map (List.map (mapK fun p => (p.1 + x, p.2 + y)))
def moveOf (x y : Int) (Ls : List (List Knot)) : List (List Knot) × Int :=
  if outOk Ls && ptOk x y then (if outOk (moved x y Ls) then (moved x y Ls, 0) else ([], 2)) else ([], 1)
theorem OutOwn.empty (w : World) (lo : Nat) : OutOwn w lo none 0 0 [] := ⟨[], rfl, World.ownsRow_nil _ _ _ _, fun j K h => by simp at h, fun i j u v _ h => by simp at h⟩

set_option maxHeartbeats 2000000 in
theorem implMove_any (A : Option Addr) (n c lo hi : Nat) (Ls : List (List Knot)) (x y : Int) (w : World) (hr : OutRd w lo hi A n Ls) (hhi : hi ≤ w.heap.size) (hn : n ≤ 1048576) (hK : ∀ K ∈ Ls, K.length ≤ 1048576) :
    Calls Try.prog 31 #[.agg #[.slice A n c], .agg #[.int .i64 x, .int .i64 y]] w fun e w' => ∃ A' n' c', e = .returned (.tuple #[.agg #[.slice A' n' c'], .int .i64 (moveOf x y Ls).2]) ∧ OutOwn w' w.heap.size A' n' c' (moveOf x y Ls).1 ∧ Below w.heap.size w w' := by
  obtain ⟨v, hv⟩ : ∃ v, v = outOk Ls := ⟨_, rfl⟩
  have hval := Lib.hid (fun W (hS : SameB lo hi w W) (h : hi ≤ W.heap.size) => validOutline_any A n c lo hi Ls v hv W (hr.frame good_loop hS) h (by omega) (fun K h => by have := hK K h; omega))
  cases v with
  | false =>
    have hm : moveOf x y Ls = ([], 1) := by rw [moveOf, ← hv]; rfl
    rw [hm]
    clear hr hK hv hm
    go_enter Try.func31, Try.ntmps31
    go_wp2_with fail
    refine (hval.out _ ((((SameB.refl lo hi w).alloc hhi _).alloc (by simp; omega) _).alloc (by simp; omega) _) (by simp; omega)).mono ?_
    rintro e w1 ⟨rfl, hb1⟩
    have hnew := heap_new0 w (.cells #[.slice A n c] 41 (0, 0)) (.cells #[.int .i64 x, .int .i64 y] 29 (0, 0)) (.cells #[.slice none 0 0] 41 (0, 0))
    have hR := (hb1.block _ (by simp <;> omega)).trans hnew.2.2
    have r0 : w1.cell? ⟨w.heap.size + 2, 0, none⟩ = some (.slice none 0 0) := by rw [Go.Joins.cell_of_block hR]; rfl
    have fr : ∀ o, w1.frozen? ⟨w.heap.size + 2, o, none⟩ = false := Go.Joins.unfrozen_of_block hR
    have hB1 : Below w.heap.size w w1 := ((((Below.refl _ _).alloc (Nat.le_refl _) _).alloc (by simp) _).alloc (by simp <;> omega) _).trans (hb1.mono (by simp <;> omega))
    clear hnew hR hb1 hval
    go_wp2_with fail
    refine bodyPost_ret (v := .tuple #[.agg #[.slice none 0 0], .int .i64 1]) (by simp [results, Try.results31, go_sem, r0]) rfl ⟨none, 0, 0, rfl, OutOwn.empty _ _, hB1.setCell (by simp; omega) _⟩
  | true =>
    obtain ⟨b, hb⟩ : ∃ b, b = ptOk x y := ⟨_, rfl⟩
    have hpt := Lib.hid (fun W => hb ▸ validPt_any x y W)
    cases b with
    | false =>
      have hm : moveOf x y Ls = ([], 1) := by rw [moveOf, ← hv, ← hb]; rfl
      rw [hm]
      clear hr hK hv hm hb
      go_enter Try.func31, Try.ntmps31
      go_wp2_with fail
      refine (hval.out _ ((((SameB.refl lo hi w).alloc hhi _).alloc (by simp; omega) _).alloc (by simp; omega) _) (by simp; omega)).mono ?_
      rintro e w1 ⟨rfl, hb1⟩
      have hnew := heap_new0 w (.cells #[.slice A n c] 41 (0, 0)) (.cells #[.int .i64 x, .int .i64 y] 29 (0, 0)) (.cells #[.slice none 0 0] 41 (0, 0))
      have hR := (hb1.block _ (by simp <;> omega)).trans hnew.2.2
      have hP := (hb1.block _ (by simp <;> omega)).trans hnew.2.1
      have p0 : w1.cell? ⟨w.heap.size + 1, 0, none⟩ = some (.int .i64 x) := by rw [Go.Joins.cell_of_block hP]; rfl
      have p1 : w1.cell? ⟨w.heap.size + 1, 1, none⟩ = some (.int .i64 y) := by rw [Go.Joins.cell_of_block hP]; rfl
      have hB1 : Below w.heap.size w w1 := ((((Below.refl _ _).alloc (Nat.le_refl _) _).alloc (by simp) _).alloc (by simp <;> omega) _).trans (hb1.mono (by simp <;> omega))
      have hz1 := hb1.size
      simp at hz1
      clear hnew hb1 hval hP
      go_wp2_with fail
      refine (hpt.out _).mono ?_
      rintro e w2 ⟨rfl, hb2⟩
      have hR2 := (hb2.block (w.heap.size + 2) (by omega)).trans hR
      have r0 : w2.cell? ⟨w.heap.size + 2, 0, none⟩ = some (.slice none 0 0) := by rw [Go.Joins.cell_of_block hR2]; rfl
      have fr : ∀ o, w2.frozen? ⟨w.heap.size + 2, o, none⟩ = false := Go.Joins.unfrozen_of_block hR2
      have hB2 := hB1.trans (hb2.mono hB1.size)
      clear hR hR2 hb2
      go_wp2_with fail
      refine bodyPost_ret (v := .tuple #[.agg #[.slice none 0 0], .int .i64 1]) (by simp [results, Try.results31, go_sem, r0]) rfl ⟨none, 0, 0, rfl, OutOwn.empty _ _, hB2.setCell (by simp; omega) _⟩
    | true =>
      have hpk := ptOk_iff.1 hb.symm
      have hLs : ∀ (K : List Knot) (p : Knot), K ∈ Ls → p ∈ K → (-262144 ≤ p.1 ∧ p.1 ≤ 262144) ∧ (-262144 ≤ p.2.1 ∧ p.2.1 ≤ 262144) := fun K p h1 h2 => by
        have h := hv.symm
        simp only [outOk, Bool.and_eq_true, List.all_eq_true] at h
        have h3 := h.1 K h1
        simp only [loopOk, Bool.and_eq_true, List.all_eq_true] at h3
        exact ptOk_iff.1 (h3.2 p h2)
      have hfn : ∀ args w, Sem.run Try.prog (callFunc 101 args) w = .ok (.enter 101 args) w := by
        intro args w
        go_simp
      have hmap := Lib.hid (fun (W : World) (hS : SameB 0 w.heap.size w W) (hl : w.heap.size + 3 ≤ W.heap.size) (c0 : W.cell? ⟨w.heap.size + 1, 0, none⟩ = some (.int .i64 x)) (c1 : W.cell? ⟨w.heap.size + 1, 1, none⟩ = some (.int .i64 y)) => mapOutline_any 101 (.pointer (some ⟨w.heap.size + 1, 0, none⟩)) (fun p => (p.1 + x, p.2 + y)) A n c lo hi Ls W (hr.frame good_loop (hS.mono (Nat.zero_le _) hhi)) (by omega) hn hK hfn (fun K p V h1 h2 hV hl2 => by
        have hp := hLs K p h1 h2
        exact move1_any (w.heap.size + 1) p.1 p.2.1 x y V ((hV.cell (Nat.zero_le _) (by simp; omega)).trans c0) ((hV.cell (Nat.zero_le _) (by simp; omega)).trans c1) (by omega) (by omega) (by omega) (by omega) (by omega)))
      clear hLs hfn hr
      replace hv := Lib.hid hv
      replace hb := Lib.hid hb
      replace hK := Lib.hid hK
      clear hpk
      go_enter Try.func31, Try.ntmps31
      go_wp2_with fail
      refine (hval.out _ ((((SameB.refl lo hi w).alloc hhi _).alloc (by simp; omega) _).alloc (by simp; omega) _) (by simp; omega)).mono ?_
      rintro e w1 ⟨rfl, hb1⟩
      have hnew := heap_new0 w (.cells #[.slice A n c] 41 (0, 0)) (.cells #[.int .i64 x, .int .i64 y] 29 (0, 0)) (.cells #[.slice none 0 0] 41 (0, 0))
      have hO := (hb1.block _ (by simp <;> omega)).trans hnew.1
      have hR := (hb1.block _ (by simp <;> omega)).trans hnew.2.2
      have hP := (hb1.block _ (by simp <;> omega)).trans hnew.2.1
      have p0 : w1.cell? ⟨w.heap.size + 1, 0, none⟩ = some (.int .i64 x) := by rw [Go.Joins.cell_of_block hP]; rfl
      have p1 : w1.cell? ⟨w.heap.size + 1, 1, none⟩ = some (.int .i64 y) := by rw [Go.Joins.cell_of_block hP]; rfl
      have hB1 : Below w.heap.size w w1 := ((((Below.refl _ _).alloc (Nat.le_refl _) _).alloc (by simp) _).alloc (by simp <;> omega) _).trans (hb1.mono (by simp <;> omega))
      have hz1 := hb1.size
      simp at hz1
      clear hnew hb1
      go_wp2_with fail
      refine (hpt.out _).mono ?_
      rintro e w2 ⟨rfl, hb2⟩
      have hz2 := hb2.size
      have hO2 := (hb2.block w.heap.size (by omega)).trans hO
      have hP2 := (hb2.block (w.heap.size + 1) (by omega)).trans hP
      have hR2 := (hb2.block (w.heap.size + 2) (by omega)).trans hR
      have o0 : w2.cell? ⟨w.heap.size, 0, none⟩ = some (.slice A n c) := by rw [Go.Joins.cell_of_block hO2]; rfl
      have q0 : w2.cell? ⟨w.heap.size + 1, 0, none⟩ = some (.int .i64 x) := by rw [Go.Joins.cell_of_block hP2]; rfl
      have q1 : w2.cell? ⟨w.heap.size + 1, 1, none⟩ = some (.int .i64 y) := by rw [Go.Joins.cell_of_block hP2]; rfl
      have hB2 := hB1.trans (hb2.mono hB1.size)
      clear hO hR hP hb2 p0 p1
      go_wp2_with fail
      refine (hmap.out w2 (Below.sameB hB2 (Nat.le_refl _)) (by omega) q0 q1).mono ?_
      rintro e w3 ⟨A3, c3, rfl, ho3, hb3⟩
      replace ho3 : OutOwn w3 w2.heap.size A3 n c3 (moved x y Ls) := ho3
      have hz3 := hb3.size
      have hR3 := (hb3.block (w.heap.size + 2) (by omega)).trans hR2
      have hB3 := hB2.trans (hb3.mono hB2.size)
      clear hO2 hP2 hR2 hb3 o0 q0 q1 hmap hval hpt
      have hmK : ∀ K ∈ moved x y Ls, K.length ≤ 1048576 := fun K h => by
        obtain ⟨K0, h0, rfl⟩ := List.mem_map.1 h
        rw [List.length_map]
        exact hK.out K0 h0
      obtain ⟨v3, hv3⟩ : ∃ v3, v3 = outOk (moved x y Ls) := ⟨_, rfl⟩
      have hval3 := Lib.hid (fun W (hW : Below w3.heap.size w3 W) => validOutline_any A3 n c3 w2.heap.size w3.heap.size (moved x y Ls) v3 hv3 W ((ho3.rd (fun K h => by have := hmK K h; unfold maxLen; omega)).frame good_loop (Below.sameB hW (Nat.le_refl _))) hW.size (by omega) (fun K h => by have := hmK K h; omega))
      replace ho3 := Lib.hid ho3
      replace hR3 := Lib.hid hR3
      clear hmK
      go_wp2_with fail
      refine (hval3.out _ ((Below.refl _ _).alloc (Nat.le_refl _) _)).mono ?_
      rintro e w4 ⟨rfl, hb4⟩
      have hz4 := hb4.size
      simp at hz4
      have hR4 := (hb4.block (w.heap.size + 2) (by simp; omega)).trans ((Below.heap_alloc _ _ _ (by omega)).trans hR3.out)
      have r0 : w4.cell? ⟨w.heap.size + 2, 0, none⟩ = some (.slice none 0 0) := by rw [Go.Joins.cell_of_block hR4]; rfl
      have fr : ∀ o, w4.frozen? ⟨w.heap.size + 2, o, none⟩ = false := Go.Joins.unfrozen_of_block hR4
      have hB34 : Below w3.heap.size w3 w4 := ((Below.refl _ _).alloc (Nat.le_refl _) _).trans (hb4.mono (by simp))
      have hm4 : w4.cell? ⟨w3.heap.size, 0, none⟩ = some (.slice A3 n c3) := by rw [hb4.cell (by simp)]; go_simp
      have hB4 := hB3.trans (hB34.mono hB3.size)
      have ho4 := Lib.hid (ho3.out.kept hB34)
      replace hv3 := Lib.hid hv3
      clear hb4 hR4 hval3 hR3
      replace hB34 := Lib.hid hB34
      cases v3 with
      | false =>
        have hm : moveOf x y Ls = ([], 2) := by rw [moveOf, ← hv.out, ← hb.out, ← hv3.out]; rfl
        replace hm := Lib.hid hm
        go_wp2_with fail
        refine bodyPost_ret (v := .tuple #[.agg #[.slice none 0 0], .int .i64 2]) (by simp [results, Try.results31, go_sem, r0]) rfl ⟨none, 0, 0, by rw [hm.out], by rw [hm.out]; exact OutOwn.empty _ _, hB4.setCell (by simp; omega) _⟩
      | true =>
        have hm : moveOf x y Ls = (moved x y Ls, 0) := by rw [moveOf, ← hv.out, ← hb.out, ← hv3.out]; rfl
        replace hm := Lib.hid hm
        go_wp2_with fail
        refine bodyPost_ret (v := .tuple #[.agg #[.slice A3 n c3], .int .i64 0]) (by simp [results, Try.results31, go_sem, r0]) rfl ⟨A3, n, c3, by rw [hm.out], by rw [hm.out]; exact (OutOwn.stored_below (a := ⟨w.heap.size + 1 + 1, 0, none⟩) ho4.out (by show w.heap.size + 1 + 1 < w2.heap.size; omega) _).base (by omega), hB4.setCell (by simp; omega) _⟩
end Go.Proofs.Ytpjmpbdbfldnaaa
