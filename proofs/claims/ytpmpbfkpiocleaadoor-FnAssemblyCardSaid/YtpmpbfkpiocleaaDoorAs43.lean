/- The texts of programs: both sides of HintsText. Conditions: as each states. -/
import Derived.Lib.QuietBelow
import Derived.Deep.RegionHeld3
import Derived.Test.YtpmpbfkpiocleaaDoorAs33
import Derived.Test.YtpmpbfkpiocleaaDoorAs35
import Derived.Test.YtpmpbfkpiocleaaDoorAs24
import Derived.Test.YtpmpbfkpiocleaaDoorAs27
import Derived.Test.YtpmpbfkpiocleaaDoorAs42
namespace Go.Proofs.YtpmpbfkpiocleaaDoor
open Go.RowKit
set_option linter.unusedVariables false
set_option maxRecDepth 100000

def htLine (p : Int × Int) : List UInt8 := (htWord p.1).data.toList ++ ((if opBytes p.1 = 0 then [] else [32] ++ decL p.2) ++ [10])
def htText (L : List (Int × Int)) : List UInt8 := L.flatMap htLine
theorem htText_snoc (L : List (Int × Int)) (p : Int × Int) : htText (L ++ [p]) = htText L ++ htLine p := by simp [htText]
theorem op_bd (c : Int) : -32768 ≤ opLeast c ∧ opMost c ≤ 32767 := by
  unfold opLeast opMost
  repeat' split
  all_goals omega
theorem parseAt_valid (s : ByteArray) : ∀ (f i : Nat) (L : List (Int × Int)), parseAt s f i = some L → allValid L = true := by
  intro f
  induction f with
  | zero => intro i L h; simp [parseAt] at h
  | succ f ih =>
    intro i L h
    rw [parseAt] at h
    by_cases h1 : s.size ≤ i
    · rw [if_pos h1] at h; injection h with h; subst h; rfl
    · rw [if_neg h1] at h
      split at h
      · cases h
      · split at h
        · rename_i hv
          cases hp : parseAt s f (i + 1 + (opBytes (byteAt s i).toNat).toNat) with
          | none => rw [hp] at h; cases h
          | some L' =>
            rw [hp] at h
            injection h with h
            have := ih _ _ hp
            subst h
            unfold allValid at this ⊢
            rw [List.all_cons, this, Bool.and_true]
            exact hv
        · cases h
theorem hintList_valid {s : ByteArray} {L : List (Int × Int)} (h : hintList s = some L) : allValid L = true ∧ L.length ≤ 400 := by
  unfold hintList at h
  split at h
  · cases h
  · exact ⟨parseAt_valid s _ 0 L h, by have := parse_len h; omega⟩
theorem htWord_len (c : Int) : (htWord c).size ≤ 6 := by
  unfold htWord
  split
  · rename_i h
    have hall : ∀ k, k < 45 → (htNames.getD k ByteArray.empty).size ≤ 6 := by decide +kernel
    exact hall c.toNat (by omega)
  · decide
theorem htLine_len {p : Int × Int} (h : validHint p.1 p.2 = true) : (htLine p).length ≤ 28 := by
  have hv := h
  simp only [validHint, Bool.and_eq_true] at hv
  have h2 := inB_iff.1 hv.2
  have h1 := htWord_len p.1
  have ho := op_bd p.1
  have h3 : (decL p.2).length ≤ 20 := decL_len (by omega) (by omega)
  have hs : (htWord p.1).data.toList.length = (htWord p.1).size := by simp
  unfold htLine
  split <;> simp at hs ⊢ <;> omega
theorem htText_len {L : List (Int × Int)} (h : allValid L = true) : (htText L).length ≤ 28 * L.length := by
  induction L with
  | nil => simp [htText]
  | cons p L ih =>
    have hp : validHint p.1 p.2 = true := valid_at h (k := 0) rfl
    have hL : allValid L = true := by
      unfold allValid at h ⊢
      rw [List.all_cons, Bool.and_eq_true] at h
      exact h.2
    have := ih hL
    have := htLine_len hp
    unfold htText at *
    rw [List.flatMap_cons, List.length_append, List.length_cons]
    omega
theorem line0 {p : Int × Int} (h : opBytes p.1 = 0) : htWord p.1 ++ (⟨#[10]⟩ : ByteArray) = ⟨(htLine p).toArray⟩ := by
  unfold htLine
  rw [if_pos h]
  cases htWord p.1 with
  | mk d =>
    rw [ByteArray.mk_append_mk]
    simp
theorem line1 {p : Int × Int} (h : ¬ opBytes p.1 = 0) : ((htWord p.1 ++ (⟨#[32]⟩ : ByteArray)) ++ decS p.2) ++ (⟨#[10]⟩ : ByteArray) = ⟨(htLine p).toArray⟩ := by
  unfold htLine decS
  rw [if_neg h]
  cases htWord p.1 with
  | mk d =>
    rw [ByteArray.mk_append_mk, ByteArray.mk_append_mk, ByteArray.mk_append_mk]
    simp

theorem hintLine_any (c o : Int) (hv : validHint c o = true) (w : World) (hm : MaxI w) :
    Calls Tryd.prog 24 #[hintV c o] w fun e w' => e = .returned (.string ⟨(htLine (c, o)).toArray⟩) ∧ Below w.heap.size w w' := by
  have hml := hm.lt
  have hw6 := htWord_len c
  have hv' := hv
  simp only [validHint, Bool.and_eq_true] at hv'
  have h2 := inB_iff.1 hv'.2
  have ho := op_bd c
  have hd := decS_size (n := o) (by omega) (by omega)
  have hn := Lib.hid (fun w' (hb : Below w.heap.size w w') => implHintName_any c w' (hm.kept hb hml))
  obtain ⟨ho1, ho2⟩ : -32768 ≤ o ∧ o ≤ 32767 := by omega
  clear hv hv' h2 ho
  replace hm := Lib.hid hm
  rcases opBytes_cases c with hop | hop | hop
  · go_enter Tryd.func24, Tryd.ntmps24
    go_wp2_with (go_at_call 18; refine (operandOf_any _ _).mono ?_; rintro e w' ⟨rfl, rfl⟩)
    refine (hn.out _ (by first | exact Below.refl _ _ | exact Go.Joins.below_alloc1 _ _)).mono ?_
    rintro e w2 ⟨rfl, hb2⟩
    go_wp2_with fail
    go_ret
    exact ⟨ret_string (line0 (p := (c, o)) hop), by first | exact hb2 | exact (Go.Joins.below_alloc1 _ _).trans (hb2.mono (by simp))⟩
  all_goals
    have hne : ¬ opBytes c = 0 := by omega
    have hcN := Lib.hid (fun dr os => Calls.regrown_of (hn.out (Go.Sort.grow (redrawn (w.alloc (.cells #[.int .i64 c, .int .i64 o] 32 (0, 0))) dr) os) ((Go.Joins.below_alloc1 _ _).trans ((below_regrown _ dr os).mono (by simp)))))
    have hcD := Lib.hid (fun dr os => Calls.regrown_of (implDec_any o (Go.Sort.grow (redrawn (w.alloc (.cells #[.int .i64 c, .int .i64 o] 32 (0, 0))) dr) os) (by omega) (by omega)))
    have k0 : ∀ dr os, (Go.Sort.grow (redrawn (w.alloc (.cells #[.int .i64 c, .int .i64 o] 32 (0, 0))) dr) os).cell? ⟨w.heap.size, 0, none⟩ = some (.int .i64 c) := cell_regrown (by rw [Go.Joins.cell_of_block (heap_alloc_new w _)]; rfl)
    have k1 : ∀ dr os, (Go.Sort.grow (redrawn (w.alloc (.cells #[.int .i64 c, .int .i64 o] 32 (0, 0))) dr) os).cell? ⟨w.heap.size, 1, none⟩ = some (.int .i64 o) := cell_regrown (by rw [Go.Joins.cell_of_block (heap_alloc_new w _)]; rfl)
    have hb0 : Below w.heap.size w (w.alloc (.cells #[.int .i64 c, .int .i64 o] 32 (0, 0))) := Go.Joins.below_alloc1 _ _
    have hz0 : w.heap.size < (w.alloc (.cells #[.int .i64 c, .int .i64 o] 32 (0, 0))).heap.size := by simp
    clear hn hm
    go_enter Tryd.func24, Tryd.ntmps24
    go_wp2_with (go_at_call 18; refine (operandOf_any _ _).mono ?_; rintro e w' ⟨rfl, rfl⟩)
    generalize (w.alloc (.cells #[.int .i64 c, .int .i64 o] 32 (0, 0))) = W at *
    refine wp_region_quiet_below (by kernel_rfl) (by kernel_rfl) ?_
    repeat (go_big_quiet_step (first | exact hcN.out _ _ | exact hcD.out _ _))
    refine wpQuiet_nil ?_
    intro _ hw'
    obtain ⟨⟨dq, osq⟩, hw''⟩ := hw'
    subst hw''
    have hb3 := hb0.trans ((below_regrown W dq osq).mono hb0.size)
    generalize Go.Sort.grow (redrawn W dq) osq = w1 at hb3 ⊢
    go_wp2_with fail
    go_ret
    exact ⟨ret_string (line1 (p := (c, o)) hne), hb3⟩

/-- the text of a program, and its code -/
def textR (s : ByteArray) : List UInt8 × Int := match hintList s with
  | none => ([], 1)
  | some L => if nestB (codesOf L) then (htText L, 0) else ([], 1)

set_option maxHeartbeats 8000000 in
theorem implHintsText_any (s : ByteArray) (w : World) (hm : MaxI w) (hs : s.size ≤ 1048576) (x : List UInt8) (y : Int) (hxy : textR s = (x, y)) :
    Calls Tryd.prog 7 #[.string s] w fun e w' => e = .returned (.tuple #[.string ⟨x.toArray⟩, .int .i64 y]) ∧ Below w.heap.size w w' := by
  have hml := hm.lt
  replace hm := Lib.hid hm
  replace hxy := Lib.hid hxy
  go_enter Tryd.func7, Tryd.ntmps7
  go_wp2_with fail
  refine (readHints_any s _ hs).mono ?_
  rintro e w1 (⟨h1, rfl, hb1⟩ | ⟨L, A, c, vp, h1, rfl, hown, hps, hb1⟩)
  · have h3 : textR s = ([], 1) := by unfold textR; rw [h1]
    obtain ⟨rfl, rfl⟩ : x = [] ∧ y = 1 := by rw [hxy.out] at h3; injection h3 with a b; exact ⟨a, b⟩
    clear h1 h3
    go_wp2_with fail
    go_ret2
    exact ⟨rfl, hb1⟩
  clear hps
  obtain ⟨hv, hl400⟩ := hintList_valid h1
  have hr := Lib.hid (rdH_own hown rfl : RdH w1 A L.length L)
  clear hown
  replace hv := Lib.hid hv
  cases hnb : nestB (codesOf L)
  · have h3 : textR s = ([], 1) := by unfold textR; rw [h1]; simp only [hnb]; rfl
    obtain ⟨rfl, rfl⟩ : x = [] ∧ y = 1 := by rw [hxy.out] at h3; injection h3 with a b; exact ⟨a, b⟩
    clear h1 h3
    go_wp2_with fail
    go_ret2
    exact ⟨rfl, hb1⟩
  have h3 : textR s = (htText L, 0) := by unfold textR; rw [h1]; simp only [hnb]; rfl
  obtain ⟨rfl, rfl⟩ : x = htText L ∧ y = 0 := by rw [hxy.out] at h3; injection h3 with a b; exact ⟨a, b⟩
  clear h1 h3 hnb
  obtain ⟨n, hn⟩ : ∃ n, n = L.length := ⟨_, rfl⟩
  rw [← hn] at hr hl400 ⊢
  replace hn := Lib.hid hn
  have hbn := Lib.hid (bld_new w1)
  have hz1 := hb1.size
  have hm1 := Lib.hid (hm.out.kept hb1 hml)
  go_wp2_with fail
  go_loopw [20] (fun i wr => ∃ (k : Nat) (ds : List UInt8), i = .int .i64 k ∧ k ≤ n ∧ ds = htText (L.take k) ∧ ds.length ≤ 28 * k ∧ Bld wr w1.heap.size w1.heap.size ds ∧ Below w1.heap.size w1 wr) (fun i wr => n - (intOf i).toNat)
  case atStart => exact ⟨0, [], rfl, Nat.zero_le _, rfl, Nat.zero_le _, hbn.out, Go.Joins.below_alloc1 _ _⟩
  case round =>
    obtain ⟨k, ds, rfl, hk, hds, hdl, hbld, hbel⟩ := hrel
    have hsz := hbel.size
    have hlt2 := hbld.lt
    replace hds := Lib.hid hds
    replace hbld := Lib.hid hbld
    by_cases hlt : k < n
    · obtain ⟨b, off, ⟨x0, y0⟩, rfl, hb, hja, q1, q2⟩ := rdH_at (hr.out.below hbel) hlt
      have hvx := valid_at hv.out hja
      have hst := Lib.hid (take_next hja)
      replace hja := Lib.hid hja
      have hll28 := htLine_len hvx
      simp only at q1 q2
      have hml2 : 0 < w1.heap.size := hm1.out.lt
      have hcl := Lib.hid (hintLine_any x0 y0 hvx (wr.alloc (.cells #[.int .i64 x0, .int .i64 y0] 32 (0, 0))) (hm1.out.kept (hbel.alloc hsz _) hml2))
      clear hvx
      go_wp2_with fail
      refine hcl.out.mono ?_
      rintro e w3 ⟨rfl, hb3⟩
      have hbd3 := Lib.hid ((hbld.out.kept (Go.Joins.below_alloc1 _ _)).kept hb3)
      have hbel3 := (hbel.alloc hsz _).trans (hb3.mono (hbel.alloc hsz _).size)
      have hz3 := hbel3.size
      clear hb3 hcl
      have hlen : (⟨(htLine (x0, y0)).toArray⟩ : ByteArray).size = (htLine (x0, y0)).length := rfl
      generalize hg : (⟨(htLine (x0, y0)).toArray⟩ : ByteArray) = t at *
      replace hg := Lib.hid hg
      go_wp2_with fail
      refine (writeString_any w1.heap.size w1.heap.size ds t _ hbd3.out (by omega) hz3).mono ?_
      rintro e w5 ⟨rfl, hbd5, hb5, _⟩
      replace hbd5 := Lib.hid hbd5
      go_wp2_with fail
      go_roundw
      case rel => exact ⟨k + 1, ds ++ t.data.toList, by go_num, by omega, by rw [hst.out, htText_snoc, ← hds.out, ← hg.out], by rw [List.length_append, ← hg.out]; simp only; omega, hbd5.out, hbel3.trans hb5⟩
      case measure => simp [intOf]; omega
    · have hkn : k = n := by omega
      have hfin : ds = htText L := by rw [hds.out, hkn, List.take_of_length_le (by rw [hn.out]; exact Nat.le_refl _)]
      replace hkn := Lib.hid hkn
      subst hfin
      go_wp2_with fail
      refine (Tryd.Builder_String_any w1.heap.size w1.heap.size (htText L) _ hbld.out hsz).mono ?_
      rintro e w6 ⟨rfl, hb6⟩
      go_wp2_with fail
      go_ret2
      exact ⟨rfl, (hb1.trans (hbel.mono hz1)).trans (hb6.mono hz1)⟩

end Go.Proofs.YtpmpbfkpiocleaaDoor

