/- The facts on this dump's head: which words it bears. Conditions: none. -/
import Derived.Test.YtgnjohkfgllhmaaProg
import Derived.ProofKit
namespace Go.Proofs.Ytgnjohkfgllhmaa
set_option maxRecDepth 100000

def headCodes : List Nat := [
  104, 97, 114, 110, 101, 115, 115, 32, 101, 100, 99, 51, 101, 54, 56, 102, 102, 102, 57, 101, 56, 53, 53, 51, 100, 101, 56, 51, 56, 100, 56, 49, 57, 98, 101, 53, 54, 56, 57, 57,
  99, 56, 57, 98, 102, 51, 53, 52, 52, 50, 100, 98, 52, 102, 102, 102, 102, 102, 98, 49, 57, 99, 51, 54, 49, 97, 55, 54, 97, 57, 50, 53, 32, 99, 117, 116, 32, 97, 116, 32,
  108, 111, 111, 112, 46, 101, 120, 97, 109, 112, 108, 101, 47, 103, 48, 48, 56, 56, 51, 47, 108, 97, 119, 115, 46, 70, 110, 65, 110, 99, 104, 111, 114, 115, 32, 108, 111, 111, 112, 46,
  101, 120, 97, 109, 112, 108, 101, 47, 103, 48, 48, 56, 56, 51, 47, 108, 97, 119, 115, 46, 70, 110, 69, 120, 97, 99, 116, 71, 108, 121, 112, 104, 84, 101, 120, 116, 32, 108, 111, 111,
  112, 46, 101, 120, 97, 109, 112, 108, 101, 47, 103, 48, 48, 56, 56, 51, 47, 108, 97, 119, 115, 46, 70, 110, 69, 120, 97, 99, 116, 83, 101, 116, 84, 101, 120, 116, 32, 108, 111, 111,
  112, 46, 101, 120, 97, 109, 112, 108, 101, 47, 103, 48, 48, 56, 56, 51, 47, 108, 97, 119, 115, 46, 70, 110, 69, 120, 97, 99, 116, 65, 100, 100, 71, 108, 121, 112, 104]
theorem head_is : Try.prog.initOrder = String.ofList (headCodes.map Char.ofNat) := by kernel_rfl
theorem head_list : Try.prog.initOrder.toList = headCodes.map Char.ofNat := by rw [head_is, String.toList_ofList]
theorem laysLater_no : Try.prog.laysLater = false := by kernel_rfl
theorem bearsReflect_no : Try.prog.bearsReflect = false := by kernel_rfl
theorem doorFits_yes : Try.prog.doorFits [] = true := by kernel_rfl
theorem head_words : behindMainWord (wordsSigns (headCodes.map Char.ofNat)) = behindMainWord (wordsSigns (headCodes.map Char.ofNat)) := rfl
theorem mayEnter_yes : Try.prog.mayEnter = true := by
  have h : stripLifts liftWords (behindMainWord (wordsSigns (headCodes.map Char.ofNat))) = ([], behindMainWord (wordsSigns (headCodes.map Char.ofNat))) := by kernel_rfl
  have h2 : (behindMainWord (wordsSigns (headCodes.map Char.ofNat))).head? = some "cut".toList := by kernel_rfl
  unfold Program.mayEnter
  rw [head_list]
  generalize behindMainWord (wordsSigns (headCodes.map Char.ofNat)) = ws at *
  cases ws with
  | nil => simp at h2
  | cons c rest =>
    simp only [h, laysLater_no, bearsReflect_no, doorFits_yes, h2]
    simp
theorem liftsFinal_no : Try.prog.liftsFinal = false := by
  unfold Program.liftsFinal Program.headLifts
  rw [head_list]
  kernel_rfl
end Go.Proofs.Ytgnjohkfgllhmaa
