/- The facts on this dump's head: which words it bears. Conditions: none. -/
import Derived.Test.YtgelkdcggnffeaaGreatProg
import Derived.ProofKit
namespace Go.Proofs.YtgelkdcggnffeaaGreat
set_option maxRecDepth 100000

def headCodes : List Nat := [
  104, 97, 114, 110, 101, 115, 115, 32, 100, 98, 51, 50, 97, 99, 48, 100, 54, 101, 48, 51, 100, 48, 56, 56, 99, 54, 48, 101, 50, 98, 54, 101, 52, 55, 102, 55, 100, 99, 97, 51,
  49, 99, 49, 51, 97, 100, 52, 97, 55, 101, 53, 53, 50, 51, 54, 52, 48, 53, 54, 97, 100, 50, 101, 99, 53, 57, 102, 49, 101, 101, 57, 102, 32, 99, 117, 116, 32, 97, 116, 32,
  108, 111, 111, 112, 46, 101, 120, 97, 109, 112, 108, 101, 47, 103, 48, 48, 56, 56, 51, 47, 108, 97, 119, 115, 46, 70, 110, 70, 105, 116, 116, 105, 110, 103]
theorem head_is : Tryz.prog.initOrder = String.ofList (headCodes.map Char.ofNat) := by kernel_rfl
theorem head_list : Tryz.prog.initOrder.toList = headCodes.map Char.ofNat := by rw [head_is, String.toList_ofList]
theorem laysLater_no : Tryz.prog.laysLater = false := by kernel_rfl
theorem bearsReflect_no : Tryz.prog.bearsReflect = false := by kernel_rfl
theorem doorFits_yes : Tryz.prog.doorFits [] = true := by kernel_rfl
theorem head_words : behindMainWord (wordsSigns (headCodes.map Char.ofNat)) = behindMainWord (wordsSigns (headCodes.map Char.ofNat)) := rfl
theorem mayEnter_yes : Tryz.prog.mayEnter = true := by
  have h : stripLifts liftWords (behindMainWord (wordsSigns (headCodes.map Char.ofNat))) = ([], behindMainWord (wordsSigns (headCodes.map Char.ofNat))) := by kernel_rfl
  have h2 : (behindMainWord (wordsSigns (headCodes.map Char.ofNat))).head? = some "cut".toList := by kernel_rfl
  unfold Program.mayEnter
  rw [head_list]
  generalize behindMainWord (wordsSigns (headCodes.map Char.ofNat)) = ws at *
  cases ws with
  | nil => simp at h2
  | cons c rest =>
    simp only [h, laysLater_no, bearsReflect_no, doorFits_yes, h2]
    simp
theorem liftsFinal_no : Tryz.prog.liftsFinal = false := by
  unfold Program.liftsFinal Program.headLifts
  rw [head_list]
  kernel_rfl
end Go.Proofs.YtgelkdcggnffeaaGreat
