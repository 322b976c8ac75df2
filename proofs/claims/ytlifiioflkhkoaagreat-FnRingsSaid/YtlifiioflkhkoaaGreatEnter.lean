/- The facts on this dump's head: which words it bears. Conditions: none. -/
import Derived.Test.YtlifiioflkhkoaaGreatProg
import Derived.ProofKit
namespace Go.Proofs.YtlifiioflkhkoaaGreat
set_option maxRecDepth 100000

def headCodes : List Nat := [
  104, 97, 114, 110, 101, 115, 115, 32, 48, 51, 99, 102, 57, 100, 55, 50, 102, 97, 49, 97, 101, 54, 101, 102, 54, 52, 55, 57, 97, 49, 52, 101, 50, 55, 53, 53, 48, 57, 98, 53,
  101, 99, 57, 98, 99, 52, 49, 97, 56, 49, 52, 53, 53, 54, 50, 98, 101, 49, 54, 55, 50, 98, 101, 56, 101, 99, 55, 53, 99, 49, 57, 57, 32, 99, 117, 116, 32, 97, 116, 32,
  108, 111, 111, 112, 46, 101, 120, 97, 109, 112, 108, 101, 47, 103, 48, 48, 56, 56, 51, 47, 108, 97, 119, 115, 46, 70, 110, 82, 105, 110, 103, 115]
theorem head_is : Tryz.prog.initOrder = String.ofList (headCodes.map Char.ofNat) := by kernel_rfl
theorem head_list : Tryz.prog.initOrder.toList = headCodes.map Char.ofNat := by rw [head_is, String.toList_ofList]
theorem laysLater_no : Tryz.prog.laysLater = false := by kernel_rfl
theorem bearsReflect_no : Tryz.prog.bearsReflect = false := by kernel_rfl
theorem doorFits_yes : Tryz.prog.doorFits [] = true := by kernel_rfl
theorem head_words : behindMainWord (wordsSigns (headCodes.map Char.ofNat)) = behindMainWord (wordsSigns (headCodes.map Char.ofNat)) := rfl
theorem mayEnter_yes : Tryz.prog.mayEnter = true := by
  have h : stripLifts liftWords (behindMainWord (wordsSigns (headCodes.map Char.ofNat))) = ([], behindMainWord (wordsSigns (headCodes.map Char.ofNat))) := by kernel_rfl
  have h2 : (behindMainWord (wordsSigns (headCodes.map Char.ofNat))).head? = some "cut".toList := by kernel_rfl
  unfold Program.mayEnter
  rw [head_list]
  generalize behindMainWord (wordsSigns (headCodes.map Char.ofNat)) = ws at *
  cases ws with
  | nil => simp at h2
  | cons c rest =>
    simp only [h, laysLater_no, bearsReflect_no, doorFits_yes, h2]
    simp
theorem liftsFinal_no : Tryz.prog.liftsFinal = false := by
  unfold Program.liftsFinal Program.headLifts
  rw [head_list]
  kernel_rfl
end Go.Proofs.YtlifiioflkhkoaaGreat
