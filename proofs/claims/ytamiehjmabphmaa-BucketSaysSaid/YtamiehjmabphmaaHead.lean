/- The first word of the program's order of beginnings, and what follows of it: that a law may be entered. And the closed facts that every row shares. -/
import Derived.Test.YtamiehjmabphmaaChecked
import Derived.Test.YtamiehjmabphmaaRows
import Derived.Test.YtamiehjmabphmaaVmZ2ToVmH1
set_option linter.unusedVariables false
set_option linter.unusedSimpArgs false
set_option linter.unusedSectionVars false
namespace Go.Proofs.Ytamiehjmabphmaa.head
open Go.Vm
/-- The order of beginnings, sign by sign. -/
def codes : List Nat := [
  104, 97, 114, 110, 101, 115, 115, 32, 102, 51, 50, 54, 57, 50, 52, 97, 53, 49, 50, 49, 48, 51, 98, 99, 55, 56, 54, 98, 53, 98, 57, 51, 55, 102, 48, 54, 57, 102, 54, 51, 51, 53, 99, 101, 99, 100, 57,
  52, 53, 54, 48, 100, 100, 53, 51, 50, 51, 102, 52, 51, 52, 52, 55, 56, 100, 101, 101, 102, 99, 100, 102, 52, 32, 99, 117, 116, 32, 97, 116, 32, 115, 111, 117, 116, 101, 114, 114, 97, 105, 110, 47,
  115, 111, 117, 116, 101, 114, 114, 97, 105, 110, 108, 97, 119, 46, 66, 117, 99, 107, 101, 116, 83, 97, 121, 115, 32, 115, 111, 117, 116, 101, 114, 114, 97, 105, 110, 47, 115, 111, 117, 116, 101, 114,
  114, 97, 105, 110, 108, 97, 119, 46, 80, 97, 116, 104, 115, 83, 97, 121, 115]
theorem io : Try.prog.initOrder = String.ofList (codes.map Char.ofNat) := by kernel_rfl
theorem chars : Try.prog.initOrder.toList = codes.map Char.ofNat := by rw [io, String.toList_ofList]
def words : List (List Char) := behindMainWord (wordsSigns (codes.map Char.ofNat))
theorem shape : words = "cut".toList :: words.tail := by kernel_rfl
theorem cut : behindMainWord (wordsSigns Try.prog.initOrder.toList) = "cut".toList :: words.tail := by rw [chars]; exact shape
theorem later : Try.prog.laysLater = false := by kernel_rfl
theorem bears : Try.prog.bearsReflect = false := by kernel_rfl
theorem fits : Try.prog.doorFits [] = true := by kernel_rfl
theorem mayEnter : Try.prog.mayEnter = true := enter_of_cut cut later bears fits
theorem make : Try.prog.make = some .cut := make_of_cut cut
theorem lifts : Try.prog.liftsFinal = false := lifts_of_cut cut
theorem laidOut : laidOutB Try.prog = true := by kernel_rfl
theorem rowed : mapsRowed Try.prog = true := by kernel_rfl
theorem stops : (Try.prog.stops == []) = true := by kernel_rfl
theorem knobs : (Try.prog.stopKnobs == []) = true := by kernel_rfl
theorem plain : Try.prog.plainKeys = true := by kernel_rfl
theorem heard : Try.prog.stopsHeard = true := by kernel_rfl
theorem own : ownKnob Try.prog.godebug = none := by kernel_rfl
theorem mixed : Try.prog.follows .mixedOrders = true := by kernel_rfl
end Go.Proofs.Ytamiehjmabphmaa.head
