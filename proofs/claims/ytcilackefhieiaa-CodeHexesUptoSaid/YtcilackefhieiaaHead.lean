/- The first word of the program's order of beginnings, and what follows of it: that a law may be entered. And the closed facts that every row shares. -/
import Derived.Test.YtcilackefhieiaaVmH1
import Derived.Test.YtcilackefhieiaaChecked
import Derived.Test.YtcilackefhieiaaRows
set_option linter.unusedVariables false
set_option linter.unusedSimpArgs false
set_option linter.unusedSectionVars false
namespace Go.Proofs.Ytcilackefhieiaa.head
open Go.Vm
/-- The order of beginnings, sign by sign. -/
def codes : List Nat := [
  104, 97, 114, 110, 101, 115, 115, 32, 57, 57, 52, 57, 51, 48, 100, 52, 100, 51, 53, 100, 50, 54, 102, 56, 99, 102, 54, 99, 51, 97, 53, 102, 102, 57, 53, 97, 50, 52, 100, 54, 56, 102, 98, 53, 54, 51,
  101, 50, 49, 101, 102, 57, 100, 48, 50, 50, 55, 55, 54, 54, 97, 100, 48, 100, 56, 51, 98, 100, 54, 101, 99, 52, 32, 99, 117, 116, 32, 97, 116, 32, 115, 111, 117, 116, 101, 114, 114, 97, 105, 110, 47,
  115, 111, 117, 116, 101, 114, 114, 97, 105, 110, 108, 97, 119, 46, 78, 97, 109, 101, 115, 32, 115, 111, 117, 116, 101, 114, 114, 97, 105, 110, 47, 115, 111, 117, 116, 101, 114, 114, 97, 105, 110, 108,
  97, 119, 46, 83, 116, 97, 109, 112, 82, 101, 97, 100, 115, 32, 115, 111, 117, 116, 101, 114, 114, 97, 105, 110, 47, 115, 111, 117, 116, 101, 114, 114, 97, 105, 110, 108, 97, 119, 46, 87, 105, 110,
  100, 111, 119, 83, 97, 121, 115, 32, 115, 111, 117, 116, 101, 114, 114, 97, 105, 110, 47, 115, 111, 117, 116, 101, 114, 114, 97, 105, 110, 108, 97, 119, 46, 67, 111, 100, 101, 72, 101, 120, 101, 115,
  32, 115, 111, 117, 116, 101, 114, 114, 97, 105, 110, 47, 115, 111, 117, 116, 101, 114, 114, 97, 105, 110, 108, 97, 119, 46, 71, 97, 108, 111, 105, 115, 83, 117, 98, 115, 32, 115, 111, 117, 116, 101,
  114, 114, 97, 105, 110, 47, 115, 111, 117, 116, 101, 114, 114, 97, 105, 110, 108, 97, 119, 46, 66, 117, 99, 107, 101, 116, 83, 97, 121, 115, 32, 115, 111, 117, 116, 101, 114, 114, 97, 105, 110, 47,
  115, 111, 117, 116, 101, 114, 114, 97, 105, 110, 108, 97, 119, 46, 71, 104, 97, 115, 104, 77, 117, 108, 115, 32, 115, 111, 117, 116, 101, 114, 114, 97, 105, 110, 47, 115, 111, 117, 116, 101, 114, 114,
  97, 105, 110, 108, 97, 119, 46, 84, 105, 109, 101, 114, 83, 97, 121, 115, 32, 115, 111, 117, 116, 101, 114, 114, 97, 105, 110, 47, 115, 111, 117, 116, 101, 114, 114, 97, 105, 110, 108, 97, 119, 46,
  83, 116, 97, 109, 112, 87, 114, 105, 116, 101, 115, 32, 115, 111, 117, 116, 101, 114, 114, 97, 105, 110, 47, 115, 111, 117, 116, 101, 114, 114, 97, 105, 110, 108, 97, 119, 46, 67, 104, 97, 99, 104,
  97, 83, 117, 98, 115, 32, 115, 111, 117, 116, 101, 114, 114, 97, 105, 110, 47, 115, 111, 117, 116, 101, 114, 114, 97, 105, 110, 108, 97, 119, 46, 67, 104, 97, 99, 104, 97, 66, 108, 111, 99, 107, 115,
  32, 115, 111, 117, 116, 101, 114, 114, 97, 105, 110, 47, 115, 111, 117, 116, 101, 114, 114, 97, 105, 110, 108, 97, 119, 46, 67, 104, 97, 99, 104, 97, 88, 111, 114, 115]
theorem io : Try.prog.initOrder = String.ofList (codes.map Char.ofNat) := by kernel_rfl
theorem chars : Try.prog.initOrder.toList = codes.map Char.ofNat := by rw [io, String.toList_ofList]
def words : List (List Char) := behindMainWord (wordsSigns (codes.map Char.ofNat))
theorem shape : words = "cut".toList :: words.tail := by kernel_rfl
theorem cut : behindMainWord (wordsSigns Try.prog.initOrder.toList) = "cut".toList :: words.tail := by rw [chars]; exact shape
theorem later : Try.prog.laysLater = false := by kernel_rfl
theorem bears : Try.prog.bearsReflect = false := by kernel_rfl
theorem fits : Try.prog.doorFits [] = true := by kernel_rfl
theorem mayEnter : Try.prog.mayEnter = true := enter_of_cut cut later bears fits
theorem make : Try.prog.make = some .cut := make_of_cut cut
theorem lifts : Try.prog.liftsFinal = false := lifts_of_cut cut
theorem laidOut : laidOutB Try.prog = true := by kernel_rfl
theorem rowed : mapsRowed Try.prog = true := by kernel_rfl
theorem stops : (Try.prog.stops == []) = true := by kernel_rfl
theorem knobs : (Try.prog.stopKnobs == []) = true := by kernel_rfl
theorem plain : Try.prog.plainKeys = true := by kernel_rfl
theorem heard : Try.prog.stopsHeard = true := by kernel_rfl
theorem own : ownKnob Try.prog.godebug = none := by kernel_rfl
theorem mixed : Try.prog.follows .mixedOrders = true := by kernel_rfl
end Go.Proofs.Ytcilackefhieiaa.head
