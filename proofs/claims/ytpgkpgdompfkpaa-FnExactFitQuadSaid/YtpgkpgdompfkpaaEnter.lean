/- The facts on this dump's head: which words it bears. Conditions: none. -/
import Derived.Test.YtpgkpgdompfkpaaProg
import Derived.ProofKit
namespace Go.Proofs.Ytpgkpgdompfkpaa
set_option maxRecDepth 100000

def headCodes : List Nat := [
  104, 97, 114, 110, 101, 115, 115, 32, 56, 98, 49, 98, 52, 97, 102, 52, 98, 102, 56, 57, 99, 50, 56, 48, 48, 56, 51, 101, 102, 55, 97, 51, 56, 49, 55, 101, 99, 54, 55, 51,
  53, 54, 54, 52, 56, 99, 99, 53, 102, 97, 55, 97, 56, 57, 98, 57, 56, 100, 50, 99, 55, 56, 99, 101, 56, 57, 50, 50, 57, 57, 56, 55, 32, 99, 117, 116, 32, 97, 116, 32,
  108, 111, 111, 112, 46, 101, 120, 97, 109, 112, 108, 101, 47, 103, 48, 48, 56, 56, 51, 47, 108, 97, 119, 115, 46, 70, 110, 69, 120, 97, 99, 116, 70, 105, 116, 81, 117, 97, 100, 32,
  108, 111, 111, 112, 46, 101, 120, 97, 109, 112, 108, 101, 47, 103, 48, 48, 56, 56, 51, 47, 108, 97, 119, 115, 46, 70, 110, 69, 120, 97, 99, 116, 70, 105, 116, 82, 105, 110, 103]
theorem head_is : Try.prog.initOrder = String.ofList (headCodes.map Char.ofNat) := by kernel_rfl
theorem head_list : Try.prog.initOrder.toList = headCodes.map Char.ofNat := by rw [head_is, String.toList_ofList]
theorem laysLater_no : Try.prog.laysLater = false := by kernel_rfl
theorem bearsReflect_no : Try.prog.bearsReflect = false := by kernel_rfl
theorem doorFits_yes : Try.prog.doorFits [] = true := by kernel_rfl
theorem head_words : behindMainWord (wordsSigns (headCodes.map Char.ofNat)) = behindMainWord (wordsSigns (headCodes.map Char.ofNat)) := rfl
theorem mayEnter_yes : Try.prog.mayEnter = true := by
  have h : stripLifts liftWords (behindMainWord (wordsSigns (headCodes.map Char.ofNat))) = ([], behindMainWord (wordsSigns (headCodes.map Char.ofNat))) := by kernel_rfl
  have h2 : (behindMainWord (wordsSigns (headCodes.map Char.ofNat))).head? = some "cut".toList := by kernel_rfl
  unfold Program.mayEnter
  rw [head_list]
  generalize behindMainWord (wordsSigns (headCodes.map Char.ofNat)) = ws at *
  cases ws with
  | nil => simp at h2
  | cons c rest =>
    simp only [h, laysLater_no, bearsReflect_no, doorFits_yes, h2]
    simp
theorem liftsFinal_no : Try.prog.liftsFinal = false := by
  unfold Program.liftsFinal Program.headLifts
  rw [head_list]
  kernel_rfl
end Go.Proofs.Ytpgkpgdompfkpaa
