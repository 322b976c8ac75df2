/- Contracts of the functions that give a number of parts as a text, and the law on them. Conditions: as each states. -/
import Derived.Test.YtjmogpolipinlaaDoorDec
import Derived.Test.YtjmogpolipinlaaDoorRound
namespace Go.Proofs.YtjmogpolipinlaaDoor
open Go.RowKit
set_option linter.unusedVariables false
set_option maxRecDepth 100000

theorem decS_size {n : Int} (h1 : -9223372036854775808 ≤ n) (h2 : n ≤ 9223372036854775807) : (decS n).size ≤ 20 := by
  have := decL_len h1 h2
  simpa [decS, ByteArray.size] using this

def pixL (v : Int) : List UInt8 := (if v < 0 then [45] else []) ++ (decL (v.natAbs / 64 : Nat) ++ ([58] ++ (decL (v.natAbs % 64 / 10 : Nat) ++ decL (v.natAbs % 64 % 10 : Nat))))
def pixS (v : Int) : ByteArray := ⟨(pixL v).toArray⟩

theorem low_two : ∀ low : Nat, low < 64 → (if (decL (low : Int)).length < 2 then [48] ++ decL (low : Int) else decL (low : Int)) = decL (low / 10 : Nat) ++ decL (low % 10 : Nat) := by
  decide +kernel
theorem dec_len_two (low : Nat) (h : low < 64) : (decS (low : Int)).size = (decL (low : Int)).length := by simp [decS, ByteArray.size]

theorem pix_neg {u : Int} (h : 0 < u) : ((((⟨#[45]⟩ : ByteArray) ++ decS (u / 64)) ++ ⟨#[58]⟩) ++ decS (u % 64 / 10)) ++ decS (u % 64 % 10) = pixS (-u) := by
  have e1 : u / 64 = (((-u).natAbs / 64 : Nat) : Int) := by omega
  have e2 : u % 64 / 10 = (((-u).natAbs % 64 / 10 : Nat) : Int) := by omega
  have e3 : u % 64 % 10 = (((-u).natAbs % 64 % 10 : Nat) : Int) := by omega
  rw [e1, e2, e3]
  unfold pixS pixL decS
  rw [if_pos (by omega)]
  simp only [ByteArray.mk_append_mk, List.append_assoc]
theorem pix_pos {v : Int} (h : 0 ≤ v) : ((((⟨#[]⟩ : ByteArray) ++ decS (v / 64)) ++ ⟨#[58]⟩) ++ decS (v % 64 / 10)) ++ decS (v % 64 % 10) = pixS v := by
  have e1 : v / 64 = ((v.natAbs / 64 : Nat) : Int) := by omega
  have e2 : v % 64 / 10 = ((v.natAbs % 64 / 10 : Nat) : Int) := by omega
  have e3 : v % 64 % 10 = ((v.natAbs % 64 % 10 : Nat) : Int) := by omega
  rw [e1, e2, e3]
  unfold pixS pixL decS
  rw [if_neg (by omega)]
  simp only [ByteArray.mk_append_mk, List.append_assoc]

theorem pix_rest {low : Nat} (h : low < 64) (hs : (decS (low : Int)).size < 2) : (⟨#[48]⟩ : ByteArray) ++ decS (low : Int) = ⟨(decL (low / 10 : Nat) ++ decL (low % 10 : Nat)).toArray⟩ := by
  rw [← low_two low h, if_pos (by rw [dec_len_two low h] at hs; exact hs)]
  unfold decS
  simp only [ByteArray.mk_append_mk]
theorem pix_rest2 {low : Nat} (h : low < 64) (hs : ¬ (decS (low : Int)).size < 2) : decS (low : Int) = ⟨(decL (low / 10 : Nat) ++ decL (low % 10 : Nat)).toArray⟩ := by
  rw [← low_two low h, if_neg (by rw [dec_len_two low h] at hs; exact hs)]
  rfl

theorem pixi_neg {u : Int} (h : 0 < u) {r : ByteArray} (hr : r = ⟨(decL (u.natAbs % 64 / 10 : Nat) ++ decL (u.natAbs % 64 % 10 : Nat)).toArray⟩) : (((⟨#[45]⟩ : ByteArray) ++ decS (u / 64)) ++ ⟨#[58]⟩) ++ r = pixS (-u) := by
  rw [← Int.natAbs_neg u] at hr
  have e1 : u / 64 = (((-u).natAbs / 64 : Nat) : Int) := by omega
  rw [e1, hr]
  unfold pixS pixL decS
  rw [if_pos (by omega)]
  simp only [ByteArray.mk_append_mk, List.append_assoc]
theorem pixi_pos {v : Int} (h : 0 ≤ v) {r : ByteArray} (hr : r = ⟨(decL (v.natAbs % 64 / 10 : Nat) ++ decL (v.natAbs % 64 % 10 : Nat)).toArray⟩) : (((⟨#[]⟩ : ByteArray) ++ decS (v / 64)) ++ ⟨#[58]⟩) ++ r = pixS v := by
  have e1 : v / 64 = ((v.natAbs / 64 : Nat) : Int) := by omega
  rw [e1, hr]
  unfold pixS pixL decS
  rw [if_neg (by omega)]
  simp only [ByteArray.mk_append_mk, List.append_assoc]

end Go.Proofs.YtjmogpolipinlaaDoor
