/- The first word of the program's order of beginnings, and what follows of it: that a law may be entered. And the closed facts that every row shares. -/
import Derived.Test.YtdghkibbiahbmaaChecked
import Derived.Test.YtdghkibbiahbmaaRows
import Derived.Test.YtdghkibbiahbmaaGhSToVmH1
set_option linter.unusedVariables false
set_option linter.unusedSimpArgs false
set_option linter.unusedSectionVars false
namespace Go.Proofs.Ytdghkibbiahbmaa.head
open Go.Vm
/-- The order of beginnings, sign by sign. -/
def codes : List Nat := [
  104, 97, 114, 110, 101, 115, 115, 32, 55, 98, 53, 52, 99, 52, 100, 53, 97, 54, 101, 50, 50, 99, 99, 101, 48, 98, 50, 54, 56, 101, 97, 50, 100, 54, 51, 53, 53, 51, 99, 102, 48, 57, 48, 57, 101, 99, 97,
  51, 99, 53, 97, 98, 48, 101, 56, 54, 101, 49, 98, 102, 49, 54, 49, 50, 57, 102, 101, 48, 48, 55, 55, 101, 32, 99, 117, 116, 32, 97, 116, 32, 115, 111, 117, 116, 101, 114, 114, 97, 105, 110, 47, 115,
  111, 117, 116, 101, 114, 114, 97, 105, 110, 108, 97, 119, 46, 80, 111, 108, 121, 84, 97, 103, 115, 32, 115, 111, 117, 116, 101, 114, 114, 97, 105, 110, 47, 115, 111, 117, 116, 101, 114, 114, 97, 105,
  110, 108, 97, 119, 46, 71, 104, 97, 115, 104, 83, 117, 109, 115, 32, 115, 111, 117, 116, 101, 114, 114, 97, 105, 110, 47, 115, 111, 117, 116, 101, 114, 114, 97, 105, 110, 108, 97, 119, 46, 65, 101,
  115, 69, 120, 112, 97, 110, 100, 115, 32, 115, 111, 117, 116, 101, 114, 114, 97, 105, 110, 47, 115, 111, 117, 116, 101, 114, 114, 97, 105, 110, 108, 97, 119, 46, 65, 101, 115, 69, 110, 99, 114, 121,
  112, 116, 115, 32, 115, 111, 117, 116, 101, 114, 114, 97, 105, 110, 47, 115, 111, 117, 116, 101, 114, 114, 97, 105, 110, 108, 97, 119, 46, 65, 101, 115, 68, 101, 99, 114, 121, 112, 116, 115, 32, 115,
  111, 117, 116, 101, 114, 114, 97, 105, 110, 47, 115, 111, 117, 116, 101, 114, 114, 97, 105, 110, 108, 97, 119, 46, 83, 101, 97, 108, 83, 101, 97, 108, 115, 32, 115, 111, 117, 116, 101, 114, 114, 97,
  105, 110, 47, 115, 111, 117, 116, 101, 114, 114, 97, 105, 110, 108, 97, 119, 46, 83, 101, 97, 108, 79, 112, 101, 110, 115, 32, 115, 111, 117, 116, 101, 114, 114, 97, 105, 110, 47, 115, 111, 117, 116,
  101, 114, 114, 97, 105, 110, 108, 97, 119, 46, 83, 101, 97, 108, 76, 111, 110, 103, 115, 32, 115, 111, 117, 116, 101, 114, 114, 97, 105, 110, 47, 115, 111, 117, 116, 101, 114, 114, 97, 105, 110, 108,
  97, 119, 46, 71, 99, 109, 83, 101, 97, 108, 115, 32, 115, 111, 117, 116, 101, 114, 114, 97, 105, 110, 47, 115, 111, 117, 116, 101, 114, 114, 97, 105, 110, 108, 97, 119, 46, 71, 99, 109, 79, 112, 101,
  110, 115]
theorem io : Try.prog.initOrder = String.ofList (codes.map Char.ofNat) := by kernel_rfl
theorem chars : Try.prog.initOrder.toList = codes.map Char.ofNat := by rw [io, String.toList_ofList]
def words : List (List Char) := behindMainWord (wordsSigns (codes.map Char.ofNat))
theorem shape : words = "cut".toList :: words.tail := by kernel_rfl
theorem cut : behindMainWord (wordsSigns Try.prog.initOrder.toList) = "cut".toList :: words.tail := by rw [chars]; exact shape
theorem later : Try.prog.laysLater = false := by kernel_rfl
theorem bears : Try.prog.bearsReflect = false := by kernel_rfl
theorem fits : Try.prog.doorFits [] = true := by kernel_rfl
theorem mayEnter : Try.prog.mayEnter = true := enter_of_cut cut later bears fits
theorem make : Try.prog.make = some .cut := make_of_cut cut
theorem lifts : Try.prog.liftsFinal = false := lifts_of_cut cut
theorem laidOut : laidOutB Try.prog = true := by kernel_rfl
theorem rowed : mapsRowed Try.prog = true := by kernel_rfl
theorem stops : (Try.prog.stops == []) = true := by kernel_rfl
theorem knobs : (Try.prog.stopKnobs == []) = true := by kernel_rfl
theorem plain : Try.prog.plainKeys = true := by kernel_rfl
theorem heard : Try.prog.stopsHeard = true := by kernel_rfl
theorem own : ownKnob Try.prog.godebug = none := by kernel_rfl
theorem mixed : Try.prog.follows .mixedOrders = true := by kernel_rfl
end Go.Proofs.Ytdghkibbiahbmaa.head
