import Derived.Test.YtjaakhjfpigdfaaRows
import Derived.Test.YtjaakhjfpigdfaaChecked
import Derived.ProofKit
import Derived.KernelRfl
/-! The program's head word, read once: the closed facts that hang on it. -/
namespace Go.Proofs.Ytjaakhjfpigdfaa
open Go.ChangeShapes Go.WideShapes Go.ChangeAt Go.RowKit
def headSigns : List Nat := [104, 97, 114, 110, 101, 115, 115, 32, 51, 98, 100, 54, 98, 99, 48, 50, 49, 49, 101, 48, 56, 54, 101, 57, 52, 102, 50, 100, 56, 97, 56, 55, 56, 98, 52, 57, 100, 51, 97, 53, 56, 54, 54, 51, 51, 51, 98, 99, 53, 56, 53, 54, 50, 102, 53, 102, 98, 50, 48, 56, 51, 102, 55, 53, 102, 100, 57, 97, 53, 53, 53, 49, 32, 99, 117, 116, 32, 97, 116, 32, 115, 97, 108, 116, 101, 114, 110, 47, 115, 97, 108, 116, 101, 114, 110, 108, 97, 119, 48, 51, 46, 83, 104, 97, 83, 117, 109, 115, 32, 115, 97, 108, 116, 101, 114, 110, 47, 115, 97, 108, 116, 101, 114, 110, 108, 97, 119, 48, 51, 46, 83, 104, 97, 83, 116, 101, 112, 115, 32, 115, 97, 108, 116, 101, 114, 110, 47, 115, 97, 108, 116, 101, 114, 110, 108, 97, 119, 48, 51, 46, 83, 104, 97, 67, 117, 116, 115, 32, 115, 97, 108, 116, 101, 114, 110, 47, 115, 97, 108, 116, 101, 114, 110, 108, 97, 119, 48, 51, 46, 83, 104, 97, 66, 108, 111, 99, 107, 115, 32, 115, 97, 108, 116, 101, 114, 110, 47, 115, 97, 108, 116, 101, 114, 110, 108, 97, 119, 48, 51, 46, 83, 104, 97, 84, 101, 120, 116, 115, 32, 115, 97, 108, 116, 101, 114, 110, 47, 115, 97, 108, 116, 101, 114, 110, 108, 97, 119, 48, 51, 46, 83, 104, 97, 80, 105, 101, 99, 101, 115, 32, 115, 97, 108, 116, 101, 114, 110, 47, 115, 97, 108, 116, 101, 114, 110, 108, 97, 119, 48, 51, 46, 83, 104, 97, 78, 111, 98, 111, 100, 121, 32, 115, 97, 108, 116, 101, 114, 110, 47, 115, 97, 108, 116, 101, 114, 110, 108, 97, 119, 48, 52, 46, 77, 97, 99, 75, 101, 121, 115, 32, 115, 97, 108, 116, 101, 114, 110, 47, 115, 97, 108, 116, 101, 114, 110, 108, 97, 119, 48, 52, 46, 77, 97, 99, 83, 117, 109, 115, 32, 115, 97, 108, 116, 101, 114, 110, 47, 115, 97, 108, 116, 101, 114, 110, 108, 97, 119, 48, 52, 46, 77, 97, 99, 83, 97, 109, 101, 32, 115, 97, 108, 116, 101, 114, 110, 47, 115, 97, 108, 116, 101, 114, 110, 108, 97, 119, 48, 52, 46, 77, 97, 99, 83, 101, 97, 108, 115, 32, 115, 97, 108, 116, 101, 114, 110, 47, 115, 97, 108, 116, 101, 114, 110, 108, 97, 119, 48, 52, 46, 77, 97, 99, 66, 97, 99, 107, 32, 115, 97, 108, 116, 101, 114, 110, 47, 115, 97, 108, 116, 101, 114, 110, 108, 97, 119, 48, 52, 46, 77, 97, 99, 78, 111, 98, 111, 100, 121, 32, 115, 97, 108, 116, 101, 114, 110, 47, 115, 97, 108, 116, 101, 114, 110, 108, 97, 119, 48, 52, 46, 77, 97, 99, 87, 114, 105, 116, 101, 115, 32, 115, 97, 108, 116, 101, 114, 110, 47, 115, 97, 108, 116, 101, 114, 110, 108, 97, 119, 48, 52, 46, 77, 97, 99, 80, 105, 101, 99, 101, 115, 32, 115, 97, 108, 116, 101, 114, 110, 47, 115, 97, 108, 116, 101, 114, 110, 108, 97, 119, 49, 56, 46, 70, 114, 97, 109, 101, 87, 114, 105, 116, 101, 115, 32, 115, 97, 108, 116, 101, 114, 110, 47, 115, 97, 108, 116, 101, 114, 110, 108, 97, 119, 49, 56, 46, 70, 114, 97, 109, 101, 82, 101, 97, 100, 115, 32, 115, 97, 108, 116, 101, 114, 110, 47, 115, 97, 108, 116, 101, 114, 110, 108, 97, 119, 49, 56, 46, 70, 114, 97, 109, 101, 83, 101, 97, 108, 101, 100, 32, 115, 97, 108, 116, 101, 114, 110, 47, 115, 97, 108, 116, 101, 114, 110, 108, 97, 119, 49, 56, 46, 70, 114, 97, 109, 101, 77, 101, 101, 116, 115, 32, 115, 97, 108, 116, 101, 114, 110, 47, 115, 97, 108, 116, 101, 114, 110, 108, 97, 119, 49, 56, 46, 70, 114, 97, 109, 101, 66, 97, 99, 107, 32, 115, 97, 108, 116, 101, 114, 110, 47, 115, 97, 108, 116, 101, 114, 110, 108, 97, 119, 49, 56, 46, 70, 114, 97, 109, 101, 70, 111, 114, 103, 101, 100]
theorem head_is : Try.prog.initOrder = String.ofList (headSigns.map Char.ofNat) := by kernel_rfl
theorem head_signs : Try.prog.initOrder.toList = headSigns.map Char.ofNat := by rw [head_is, String.toList_ofList]
theorem head_word : (behindMainWord (wordsSigns Try.prog.initOrder.toList)).head? = some "cut".toList := by rw [head_signs]; kernel_rfl
theorem head_lifts : (stripLifts liftWords (behindMainWord (wordsSigns Try.prog.initOrder.toList))).1 = [] := by rw [head_signs]; kernel_rfl
theorem head_left : (stripLifts liftWords (behindMainWord (wordsSigns Try.prog.initOrder.toList))).2.head? = some "cut".toList := by rw [head_signs]; kernel_rfl
theorem make_cut {P : Program} (h : (behindMainWord (wordsSigns P.initOrder.toList)).head? = some "cut".toList) : P.make = some .cut := by
  unfold Program.make
  cases hw : behindMainWord (wordsSigns P.initOrder.toList) with
  | nil => rw [hw] at h; cases h
  | cons c rest =>
    rw [hw] at h
    have e : c = "cut".toList := by simpa using h
    subst e
    rfl
theorem enter_cut {P : Program} (h : (behindMainWord (wordsSigns P.initOrder.toList)).head? = some "cut".toList) (h1 : (stripLifts liftWords (behindMainWord (wordsSigns P.initOrder.toList))).1 = []) (h2 : (stripLifts liftWords (behindMainWord (wordsSigns P.initOrder.toList))).2.head? = some "cut".toList)
    (hl : P.laysLater = false) (hr : P.bearsReflect = false) (hd : P.doorFits [] = true) : P.mayEnter = true := by
  unfold Program.mayEnter
  cases hw : behindMainWord (wordsSigns P.initOrder.toList) with
  | nil => rw [hw] at h; cases h
  | cons c rest =>
    rw [hw] at h h1 h2
    have e : c = "cut".toList := by simpa using h
    subst e
    simp only [h1, h2, hl, hr, hd]
    rfl
theorem lays_later : Try.prog.laysLater = false := by kernel_rfl
theorem bears_reflect : Try.prog.bearsReflect = false := by kernel_rfl
theorem door_fits : Try.prog.doorFits [] = true := by kernel_rfl
theorem may_enter : Try.prog.mayEnter = true := enter_cut head_word head_lifts head_left lays_later bears_reflect door_fits
theorem make_is : Try.prog.make = some .cut := make_cut head_word
theorem lifts_final : Try.prog.liftsFinal = false := by unfold Program.liftsFinal Program.headLifts; rw [head_signs]; kernel_rfl
theorem heard : Try.prog.stopsHeard = true := by kernel_rfl
end Go.Proofs.Ytjaakhjfpigdfaa
