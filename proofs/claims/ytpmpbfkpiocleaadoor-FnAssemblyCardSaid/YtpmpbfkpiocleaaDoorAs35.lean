/- The program's and the reference's making of a program of instructions. Conditions: as each states. -/
import Derived.Test.YtpmpbfkpiocleaaDoorAs34
namespace Go.Proofs.YtpmpbfkpiocleaaDoor
open Go.RowKit
set_option linter.unusedVariables false
set_option maxRecDepth 100000

theorem op1_bd {c : Int} (h : opBytes c = 1) : -128 ≤ opLeast c ∧ opMost c ≤ 127 := by
  unfold opBytes at h
  split at h
  · rename_i hc
    rcases hc with rfl | rfl | rfl <;> simp [opLeast, opMost]
  · split at h <;> simp at h
theorem op2_bd {c : Int} (h : opBytes c = 2) : -32768 ≤ opLeast c ∧ opMost c ≤ 32767 := by
  unfold opBytes at h
  split at h
  · simp at h
  · split at h
    · rename_i hc
      rcases hc with rfl | rfl | rfl <;> simp [opLeast, opMost]
    · simp at h
set_option maxHeartbeats 8000000 in
theorem implProgramOf_any (A : Option Addr) (n c : Nat) (L : List (Int × Int)) (w : World) (hr : RdH w A n L) (hn : n ≤ 10000000) (x : List UInt8) (y : Int) (hxy : makeR L = (x, y)) :
    Calls Tryd.prog 5 #[.slice A n c] w fun e w' => e = .returned (.tuple #[.string ⟨x.toArray⟩, .int .i64 y]) ∧ Below w.heap.size w w' := by
  have hll := Lib.hid hr.1
  have ha := Lib.hid (containsFuncG_any A n c L w hr (by omega))
  have hnst : Hid (∀ w', Below w.heap.size w w' → Calls Tryd.prog 16 #[.slice A n c] w' _) :=
    fun w' hb => partnersOf_any A n c L (codesOf L) w' (hr.below hb) (by omega) rfl
  replace hr := Lib.hid hr
  replace hxy := Lib.hid hxy
  cases hav : allValid L
  · have h2 : makeR L = ([], 1) := by unfold makeR; rw [if_pos hav]
    obtain ⟨rfl, rfl⟩ : x = [] ∧ y = 1 := by rw [hxy.out] at h2; injection h2 with a b; exact ⟨a, b⟩
    clear h2
    go_enter Tryd.func5, Tryd.ntmps5
    go_wp2_with fail
    refine ha.out.mono ?_
    rintro e w1 ⟨rfl, hb1⟩
    go_wp2_with fail
    go_ret2
    exact ⟨rfl, hb1⟩
  go_enter Tryd.func5, Tryd.ntmps5
  go_wp2_with fail
  refine ha.out.mono ?_
  rintro e w1 ⟨rfl, hb1⟩
  go_wp2_with fail
  refine (hnst.out w1 hb1).mono ?_
  intro e w2 hpo
  obtain ⟨vp, rfl, hb2⟩ : ∃ vp, e = .returned (.tuple #[vp, .bool (nestB (codesOf L))]) ∧ Below w1.heap.size w1 w2 := by
    rcases hpo with ⟨hnn, rfl, hb2⟩ | ⟨ps, st, g, hnn, hpl, rfl, hps, hb2⟩
    · exact ⟨_, by rw [nestB_none hnn], hb2⟩
    · exact ⟨_, by rw [nestB_some hnn], hb2⟩
  clear hpo
  have hB2 := hb1.trans (hb2.mono hb1.size)
  have havH := Lib.hid hav
  clear hav hb1 hb2
  cases hnb : nestB (codesOf L)
  · have h2 : makeR L = ([], 6) := by unfold makeR; rw [if_neg (by rw [havH.out]; simp), if_pos hnb]
    obtain ⟨rfl, rfl⟩ : x = [] ∧ y = 6 := by rw [hxy.out] at h2; injection h2 with a b; exact ⟨a, b⟩
    clear h2
    go_wp2_with fail
    go_ret2
    exact ⟨rfl, hB2⟩
  have hnbH := Lib.hid hnb
  clear hnb
  have hbn := Lib.hid (bld_new w2)
  go_wp2_with fail
  go_loopw [23] (fun i wr => ∃ (k : Nat) (ds : List UInt8), i = .int .i64 k ∧ k ≤ n ∧ ds = progL (L.take k) ∧ Bld wr w2.heap.size w2.heap.size ds ∧ Below w2.heap.size w2 wr) (fun i wr => n - (intOf i).toNat)
  case atStart => exact ⟨0, [], rfl, Nat.zero_le _, rfl, hbn.out, Go.Joins.below_alloc1 _ _⟩
  case round =>
    obtain ⟨k, ds, rfl, hk, hds, hbld, hbel⟩ := hrel
    have hdl : ds.length ≤ 90000000 := by
      have := progL_len (L.take k)
      have := List.length_take_le k L
      rw [hds]; omega
    have hsz := hbel.size
    have hlt2 := hbld.lt
    have hwi := Lib.hid hbld.within
    replace hds := Lib.hid hds
    replace hbld := Lib.hid hbld
    have hBw : Below w.heap.size w wr := hB2.trans (hbel.mono hB2.size)
    by_cases hlt : k < n
    · obtain ⟨b, off, ⟨x0, y0⟩, rfl, hb, hja, q1, q2⟩ := rdH_at (hr.out.below hBw) hlt
      have hvx := valid_at havH.out hja
      have hst := Lib.hid (take_next hja)
      replace hja := Lib.hid hja
      simp only [validHint, Bool.and_eq_true] at hvx
      have hx44 := inB_iff.1 hvx.1
      have hy44 := inB_iff.1 hvx.2
      clear hvx
      have hwx : IntKind.u8.wrap x0 = ((b8 x0).toNat : Int) := wrap_u8 x0
      have hop1 : opBytes x0 = 1 → -128 ≤ y0 ∧ y0 ≤ 127 := fun h => by
        have := op1_bd h; omega
      have hop2 : opBytes x0 = 2 → -32768 ≤ y0 ∧ y0 ≤ 32767 := fun h => by
        have := op2_bd h; omega
      clear hy44
      replace hop1 := Lib.hid hop1
      replace hop2 := Lib.hid hop2
      go_wp2_with fail
      refine (writeByte_any w2.heap.size w2.heap.size ds (b8 x0) _ (hbld.out.kept (Go.Joins.below_alloc1 _ _)) (by omega) (by simp; omega)).mono ?_
      rintro e w3 ⟨rfl, hbd3, hb3, hf3⟩
      have hs3 := hf3 wr.heap.size (hwi.out.kept (Go.Joins.below_alloc1 _ _))
      have e0 : w3.cell? ⟨wr.heap.size, 0, none⟩ = some (.int .i64 x0) := (hs3.cell (p := ⟨wr.heap.size, 0, none⟩) (Nat.le_refl _) (by simp)).trans (by go_simp)
      have e1 : w3.cell? ⟨wr.heap.size, 1, none⟩ = some (.int .i64 y0) := (hs3.cell (p := ⟨wr.heap.size, 1, none⟩) (Nat.le_refl _) (by simp)).trans (by go_simp)
      have hbel3 : Below w2.heap.size w2 w3 := (hbel.alloc hsz _).trans hb3
      have hz3 : wr.heap.size < w3.heap.size := by have := hb3.size; simp at this; omega
      replace hbd3 := Lib.hid hbd3
      clear hf3 hs3 hb3
      rcases opBytes_cases x0 with hop | hop | hop
      · go_wp2_with (go_at_call 18; refine (operandOf_any _ _).mono ?_; rintro e w' ⟨rfl, rfl⟩)
        go_roundw
        case rel => exact ⟨k + 1, ds ++ [b8 x0], by go_num, by omega, by rw [hst.out, progL_snoc, ← hds.out]; simp [hintL, opL, hop], hbd3.out, hbel3⟩
        case measure => simp [intOf]; omega
      · obtain ⟨m1, m2⟩ := hop1.out hop
        go_wp2_with (go_at_call 18; refine (operandOf_any _ _).mono ?_; rintro e w' ⟨rfl, rfl⟩)
        refine (putWord1_any y0 _ (by omega) (by omega)).mono ?_
        rintro e w4 ⟨rfl, hb4⟩
        have hbd4 := Lib.hid (hbd3.out.kept hb4)
        have hbel4 := hbel3.trans (hb4.mono hbel3.size)
        have hz4 := hb4.size
        clear hb4 e0 e1
        go_wp2_with fail
        refine (writeString_any w2.heap.size w2.heap.size (ds ++ [b8 x0]) ⟨#[b8 y0]⟩ _ hbd4.out (by simp only [List.length_append, List.length_singleton]; show _ + 1 ≤ _; omega) hbel4.size).mono ?_
        rintro e w5 ⟨rfl, hbd5, hb5, _⟩
        replace hbd5 := Lib.hid hbd5
        go_wp2_with fail
        go_roundw
        case rel => exact ⟨k + 1, ds ++ [b8 x0] ++ [b8 y0], by go_num, by omega, by rw [hst.out, progL_snoc, ← hds.out]; simp [hintL, opL, hop], hbd5.out, hbel4.trans hb5⟩
        case measure => simp [intOf]; omega
      · obtain ⟨m1, m2⟩ := hop2.out hop
        go_wp2_with (go_at_call 18; refine (operandOf_any _ _).mono ?_; rintro e w' ⟨rfl, rfl⟩)
        refine (putWord2_any y0 _ (by omega) (by omega)).mono ?_
        rintro e w4 ⟨rfl, hb4⟩
        have hbd4 := Lib.hid (hbd3.out.kept hb4)
        have hbel4 := hbel3.trans (hb4.mono hbel3.size)
        have hz4 := hb4.size
        clear hb4 e0 e1
        go_wp2_with fail
        refine (writeString_any w2.heap.size w2.heap.size (ds ++ [b8 x0]) ⟨#[b8 (y0 / 256), b8 y0]⟩ _ hbd4.out (by simp only [List.length_append, List.length_singleton]; show _ + 2 ≤ _; omega) hbel4.size).mono ?_
        rintro e w5 ⟨rfl, hbd5, hb5, _⟩
        replace hbd5 := Lib.hid hbd5
        go_wp2_with fail
        go_roundw
        case rel => exact ⟨k + 1, ds ++ [b8 x0] ++ [b8 (y0 / 256), b8 y0], by go_num, by omega, by rw [hst.out, progL_snoc, ← hds.out]; simp [hintL, opL, hop], hbd5.out, hbel4.trans hb5⟩
        case measure => simp [intOf]; omega
    · have hkn : k = n := by omega
      have hfin : ds = progL L := by rw [hds.out, hkn, List.take_of_length_le (by rw [hll.out]; exact Nat.le_refl _)]
      replace hkn := Lib.hid hkn
      subst hfin
      go_wp2_with fail
      refine (Tryd.Builder_Len w2.heap.size w2.heap.size (byteV (progL L)) _ hbld.out).mono ?_
      rintro e w' ⟨rfl, hw'⟩
      subst hw'
      rw [byteV_length]
      by_cases h4 : (400 : Int) < (progL L).length
      · have h2 : makeR L = ([], 5) := by unfold makeR; rw [if_neg (by rw [havH.out]; simp), if_neg (by rw [hnbH.out]; simp), if_pos (by omega)]
        obtain ⟨rfl, rfl⟩ : x = [] ∧ y = 5 := by rw [hxy.out] at h2; injection h2 with a b; exact ⟨a, b⟩
        clear h2
        go_wp2_with fail
        go_ret2
        exact ⟨rfl, hBw⟩
      · have h2 : makeR L = (progL L, 0) := by unfold makeR; rw [if_neg (by rw [havH.out]; simp), if_neg (by rw [hnbH.out]; simp), if_neg (by omega)]
        obtain ⟨rfl, rfl⟩ : x = progL L ∧ y = 0 := by rw [hxy.out] at h2; injection h2 with a b; exact ⟨a, b⟩
        clear h2
        go_wp2_with fail
        refine (Tryd.Builder_String_any w2.heap.size w2.heap.size (progL L) _ hbld.out hsz).mono ?_
        rintro e w6 ⟨rfl, hb6⟩
        go_wp2_with fail
        go_ret2
        exact ⟨rfl, hBw.trans (hb6.mono hB2.size)⟩
end Go.Proofs.YtpmpbfkpiocleaaDoor

