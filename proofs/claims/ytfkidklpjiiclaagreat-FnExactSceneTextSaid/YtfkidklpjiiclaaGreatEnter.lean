/- The facts on this dump's head: which words it bears. Conditions: none. -/
import Derived.Test.YtfkidklpjiiclaaGreatProg
import Derived.ProofKit
namespace Go.Proofs.YtfkidklpjiiclaaGreat
set_option maxRecDepth 100000

def headCodes : List Nat := [
  104, 97, 114, 110, 101, 115, 115, 32, 55, 99, 51, 99, 102, 49, 102, 102, 51, 97, 98, 51, 56, 51, 57, 55, 98, 99, 55, 98, 102, 55, 97, 100, 50, 54, 50, 53, 98, 55, 48, 100,
  50, 50, 56, 98, 51, 102, 51, 50, 48, 101, 55, 52, 100, 56, 48, 55, 51, 53, 51, 100, 57, 102, 100, 101, 53, 52, 55, 56, 98, 54, 102, 98, 32, 99, 117, 116, 32, 97, 116, 32,
  108, 111, 111, 112, 46, 101, 120, 97, 109, 112, 108, 101, 47, 103, 48, 48, 56, 56, 51, 47, 108, 97, 119, 115, 46, 70, 110, 69, 120, 97, 99, 116, 86, 97, 108, 105, 100, 83, 99, 101,
  110, 101, 32, 108, 111, 111, 112, 46, 101, 120, 97, 109, 112, 108, 101, 47, 103, 48, 48, 56, 56, 51, 47, 108, 97, 119, 115, 46, 70, 110, 69, 120, 97, 99, 116, 83, 99, 101, 110, 101,
  84, 101, 120, 116]
theorem head_is : Tryz.prog.initOrder = String.ofList (headCodes.map Char.ofNat) := by kernel_rfl
theorem head_list : Tryz.prog.initOrder.toList = headCodes.map Char.ofNat := by rw [head_is, String.toList_ofList]
theorem laysLater_no : Tryz.prog.laysLater = false := by kernel_rfl
theorem bearsReflect_no : Tryz.prog.bearsReflect = false := by kernel_rfl
theorem doorFits_yes : Tryz.prog.doorFits [] = true := by kernel_rfl
theorem head_words : behindMainWord (wordsSigns (headCodes.map Char.ofNat)) = behindMainWord (wordsSigns (headCodes.map Char.ofNat)) := rfl
theorem mayEnter_yes : Tryz.prog.mayEnter = true := by
  have h : stripLifts liftWords (behindMainWord (wordsSigns (headCodes.map Char.ofNat))) = ([], behindMainWord (wordsSigns (headCodes.map Char.ofNat))) := by kernel_rfl
  have h2 : (behindMainWord (wordsSigns (headCodes.map Char.ofNat))).head? = some "cut".toList := by kernel_rfl
  unfold Program.mayEnter
  rw [head_list]
  generalize behindMainWord (wordsSigns (headCodes.map Char.ofNat)) = ws at *
  cases ws with
  | nil => simp at h2
  | cons c rest =>
    simp only [h, laysLater_no, bearsReflect_no, doorFits_yes, h2]
    simp
theorem liftsFinal_no : Tryz.prog.liftsFinal = false := by
  unfold Program.liftsFinal Program.headLifts
  rw [head_list]
  kernel_rfl
end Go.Proofs.YtfkidklpjiiclaaGreat
