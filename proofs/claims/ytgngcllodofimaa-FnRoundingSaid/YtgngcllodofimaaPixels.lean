/- Contracts of the functions that give a number of parts as a text, and the law on them. Conditions: as each states. -/
import Derived.Test.YtgngcllodofimaaDec
import Derived.Test.YtgngcllodofimaaRound
namespace Go.Proofs.Ytgngcllodofimaa
open Go.RowKit
set_option linter.unusedVariables false
set_option maxRecDepth 100000

theorem decS_size {n : Int} (h1 : -9223372036854775808 ≤ n) (h2 : n ≤ 9223372036854775807) : (decS n).size ≤ 20 := by
  have := decL_len h1 h2
  simpa [decS, ByteArray.size] using this

def pixL (v : Int) : List UInt8 := (if v < 0 then [45] else []) ++ (decL (v.natAbs / 64 : Nat) ++ ([58] ++ (decL (v.natAbs % 64 / 10 : Nat) ++ decL (v.natAbs % 64 % 10 : Nat))))
def pixS (v : Int) : ByteArray := ⟨(pixL v).toArray⟩

theorem low_two : ∀ low : Nat, low < 64 → (if (decL (low : Int)).length < 2 then [48] ++ decL (low : Int) else decL (low : Int)) = decL (low / 10 : Nat) ++ decL (low % 10 : Nat) := by
  decide +kernel
theorem dec_len_two (low : Nat) (h : low < 64) : (decS (low : Int)).size = (decL (low : Int)).length := by simp [decS, ByteArray.size]

theorem pix_neg {u : Int} (h : 0 < u) : ((((⟨#[45]⟩ : ByteArray) ++ decS (u / 64)) ++ ⟨#[58]⟩) ++ decS (u % 64 / 10)) ++ decS (u % 64 % 10) = pixS (-u) := by
  have e1 : u / 64 = (((-u).natAbs / 64 : Nat) : Int) := by omega
  have e2 : u % 64 / 10 = (((-u).natAbs % 64 / 10 : Nat) : Int) := by omega
  have e3 : u % 64 % 10 = (((-u).natAbs % 64 % 10 : Nat) : Int) := by omega
  rw [e1, e2, e3]
  unfold pixS pixL decS
  rw [if_pos (by omega)]
  simp only [ByteArray.mk_append_mk, List.append_assoc]
theorem pix_pos {v : Int} (h : 0 ≤ v) : ((((⟨#[]⟩ : ByteArray) ++ decS (v / 64)) ++ ⟨#[58]⟩) ++ decS (v % 64 / 10)) ++ decS (v % 64 % 10) = pixS v := by
  have e1 : v / 64 = ((v.natAbs / 64 : Nat) : Int) := by omega
  have e2 : v % 64 / 10 = ((v.natAbs % 64 / 10 : Nat) : Int) := by omega
  have e3 : v % 64 % 10 = ((v.natAbs % 64 % 10 : Nat) : Int) := by omega
  rw [e1, e2, e3]
  unfold pixS pixL decS
  rw [if_neg (by omega)]
  simp only [ByteArray.mk_append_mk, List.append_assoc]

theorem implPix_out (v : Int) (w : World) (h : v < -1099511627776 ∨ 1099511627776 < v) :
    Calls Try.prog 18 #[.int .i64 v] w fun e w' => e = .returned (.string ⟨#[]⟩) ∧ w = w' := by
  rcases h with h | h
  all_goals
    go_enter Try.func18, Try.ntmps18
    go_wp2_with fail
    go_ret
    exact ⟨rfl, rfl⟩

theorem pix_rest {low : Nat} (h : low < 64) (hs : (decS (low : Int)).size < 2) : (⟨#[48]⟩ : ByteArray) ++ decS (low : Int) = ⟨(decL (low / 10 : Nat) ++ decL (low % 10 : Nat)).toArray⟩ := by
  rw [← low_two low h, if_pos (by rw [dec_len_two low h] at hs; exact hs)]
  unfold decS
  simp only [ByteArray.mk_append_mk]
theorem pix_rest2 {low : Nat} (h : low < 64) (hs : ¬ (decS (low : Int)).size < 2) : decS (low : Int) = ⟨(decL (low / 10 : Nat) ++ decL (low % 10 : Nat)).toArray⟩ := by
  rw [← low_two low h, if_neg (by rw [dec_len_two low h] at hs; exact hs)]
  rfl

theorem pixi_neg {u : Int} (h : 0 < u) {r : ByteArray} (hr : r = ⟨(decL (u.natAbs % 64 / 10 : Nat) ++ decL (u.natAbs % 64 % 10 : Nat)).toArray⟩) : (((⟨#[45]⟩ : ByteArray) ++ decS (u / 64)) ++ ⟨#[58]⟩) ++ r = pixS (-u) := by
  rw [← Int.natAbs_neg u] at hr
  have e1 : u / 64 = (((-u).natAbs / 64 : Nat) : Int) := by omega
  rw [e1, hr]
  unfold pixS pixL decS
  rw [if_pos (by omega)]
  simp only [ByteArray.mk_append_mk, List.append_assoc]
theorem pixi_pos {v : Int} (h : 0 ≤ v) {r : ByteArray} (hr : r = ⟨(decL (v.natAbs % 64 / 10 : Nat) ++ decL (v.natAbs % 64 % 10 : Nat)).toArray⟩) : (((⟨#[]⟩ : ByteArray) ++ decS (v / 64)) ++ ⟨#[58]⟩) ++ r = pixS v := by
  have e1 : v / 64 = ((v.natAbs / 64 : Nat) : Int) := by omega
  rw [e1, hr]
  unfold pixS pixL decS
  rw [if_neg (by omega)]
  simp only [ByteArray.mk_append_mk, List.append_assoc]

theorem implPix_in (v : Int) (w : World) (h1 : -1099511627776 ≤ v) (h2 : v ≤ 1099511627776) :
    Calls Try.prog 18 #[.int .i64 v] w fun e w' => e = .returned (.string (pixS v)) ∧ Below w.heap.size w w' := by
  by_cases hv : v < 0
  · obtain ⟨u, rfl⟩ : ∃ u, v = -u := ⟨-v, by omega⟩
    replace hv : 0 < u := by omega
    obtain ⟨low, hlow⟩ : ∃ low, low = u.natAbs % 64 := ⟨_, rfl⟩
    have hl64 : low < 64 := by omega
    have s1 := decS_size (n := u / 64) (by omega) (by omega)
    have e1 : u % 64 = (low : Int) := by omega
    have s2 := decS_size (n := u % 64) (by omega) (by omega)
    have r1 := Lib.hid (pix_rest (low := low) hl64)
    have r2 := Lib.hid (pix_rest2 (low := low) hl64)
    replace e1 := Lib.hid e1
    replace hlow := Lib.hid hlow
    by_cases hs : (decS (u % 64)).size < 2
    · go_enter Try.func18, Try.ntmps18
      go_wp2_with fail
      refine (implDec_any _ _ (by omega) (by omega)).mono ?_
      rintro e w1 ⟨rfl, hb1⟩
      go_wp2_with fail
      refine (implDec_any _ _ (by omega) (by omega)).mono ?_
      rintro e w2 ⟨rfl, hb2⟩
      go_wp2_with fail
      go_ret
      exact ⟨ret_string (pixi_neg hv (by rw [e1.out] at hs ⊢; rw [r1.out hs, hlow.out])), hb1.trans (hb2.mono hb1.size)⟩
    · go_enter Try.func18, Try.ntmps18
      go_wp2_with fail
      refine (implDec_any _ _ (by omega) (by omega)).mono ?_
      rintro e w1 ⟨rfl, hb1⟩
      go_wp2_with fail
      refine (implDec_any _ _ (by omega) (by omega)).mono ?_
      rintro e w2 ⟨rfl, hb2⟩
      go_wp2_with fail
      go_ret
      exact ⟨ret_string (pixi_neg hv (by rw [e1.out] at hs ⊢; rw [r2.out (by omega), hlow.out])), hb1.trans (hb2.mono hb1.size)⟩
  · obtain ⟨low, hlow⟩ : ∃ low, low = v.natAbs % 64 := ⟨_, rfl⟩
    have hl64 : low < 64 := by omega
    have s1 := decS_size (n := v / 64) (by omega) (by omega)
    have e1 : v % 64 = (low : Int) := by omega
    have s2 := decS_size (n := v % 64) (by omega) (by omega)
    have hv' : 0 ≤ v := by omega
    have r1 := Lib.hid (pix_rest (low := low) hl64)
    have r2 := Lib.hid (pix_rest2 (low := low) hl64)
    replace e1 := Lib.hid e1
    replace hlow := Lib.hid hlow
    by_cases hs : (decS (v % 64)).size < 2
    · go_enter Try.func18, Try.ntmps18
      go_wp2_with fail
      refine (implDec_any _ _ (by omega) (by omega)).mono ?_
      rintro e w1 ⟨rfl, hb1⟩
      go_wp2_with fail
      refine (implDec_any _ _ (by omega) (by omega)).mono ?_
      rintro e w2 ⟨rfl, hb2⟩
      go_wp2_with fail
      go_ret
      exact ⟨ret_string (pixi_pos hv' (by rw [e1.out] at hs ⊢; rw [r1.out hs, hlow.out])), hb1.trans (hb2.mono hb1.size)⟩
    · go_enter Try.func18, Try.ntmps18
      go_wp2_with fail
      refine (implDec_any _ _ (by omega) (by omega)).mono ?_
      rintro e w1 ⟨rfl, hb1⟩
      go_wp2_with fail
      refine (implDec_any _ _ (by omega) (by omega)).mono ?_
      rintro e w2 ⟨rfl, hb2⟩
      go_wp2_with fail
      go_ret
      exact ⟨ret_string (pixi_pos hv' (by rw [e1.out] at hs ⊢; rw [r2.out (by omega), hlow.out])), hb1.trans (hb2.mono hb1.size)⟩

end Go.Proofs.Ytgngcllodofimaa
