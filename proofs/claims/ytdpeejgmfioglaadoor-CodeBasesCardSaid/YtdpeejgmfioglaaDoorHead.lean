/- The first word of the program's order of beginnings, and what follows of it: that a law may be entered. And the closed facts that every row shares. -/
import Derived.Test.YtdpeejgmfioglaaDoorChecked
import Derived.Test.YtdpeejgmfioglaaDoorRows
import Derived.Test.YtdpeejgmfioglaaDoorShelfIdxToVmH1
set_option linter.unusedVariables false
set_option linter.unusedSimpArgs false
set_option linter.unusedSectionVars false
namespace Go.Proofs.YtdpeejgmfioglaaDoor.head
open Go.Vm
/-- The order of beginnings, sign by sign. -/
def codes : List Nat := [
  104, 97, 114, 110, 101, 115, 115, 32, 101, 48, 49, 54, 98, 55, 52, 57, 57, 48, 50, 102, 55, 99, 98, 100, 98, 56, 101, 53, 55, 48, 57, 50, 56, 101, 54, 99, 101, 53, 97, 50, 97, 52, 49, 53, 51, 51, 56,
  48, 56, 102, 55, 99, 52, 54, 100, 51, 100, 55, 98, 48, 49, 48, 49, 50, 55, 52, 102, 53, 50, 101, 102, 50, 32, 99, 117, 116, 32, 97, 116, 32, 115, 111, 117, 116, 101, 114, 114, 97, 105, 110, 47, 115,
  111, 117, 116, 101, 114, 114, 97, 105, 110, 108, 97, 119, 46, 67, 111, 100, 101, 66, 97, 115, 101, 115, 32, 115, 111, 117, 116, 101, 114, 114, 97, 105, 110, 47, 115, 111, 117, 116, 101, 114, 114, 97,
  105, 110, 108, 97, 119, 46, 67, 117, 114, 118, 101, 83, 104, 97, 114, 101, 115]
theorem io : Tryd.prog.initOrder = String.ofList (codes.map Char.ofNat) := by kernel_rfl
theorem chars : Tryd.prog.initOrder.toList = codes.map Char.ofNat := by rw [io, String.toList_ofList]
def words : List (List Char) := behindMainWord (wordsSigns (codes.map Char.ofNat))
theorem shape : words = "cut".toList :: words.tail := by kernel_rfl
theorem cut : behindMainWord (wordsSigns Tryd.prog.initOrder.toList) = "cut".toList :: words.tail := by rw [chars]; exact shape
theorem later : Tryd.prog.laysLater = false := by kernel_rfl
theorem bears : Tryd.prog.bearsReflect = false := by kernel_rfl
theorem fits : Tryd.prog.doorFits [] = true := by kernel_rfl
theorem mayEnter : Tryd.prog.mayEnter = true := enter_of_cut cut later bears fits
theorem make : Tryd.prog.make = some .cut := make_of_cut cut
theorem lifts : Tryd.prog.liftsFinal = false := lifts_of_cut cut
theorem laidOut : laidOutB Tryd.prog = true := by kernel_rfl
theorem rowed : mapsRowed Tryd.prog = true := by kernel_rfl
theorem stops : (Tryd.prog.stops == []) = true := by kernel_rfl
theorem knobs : (Tryd.prog.stopKnobs == []) = true := by kernel_rfl
theorem plain : Tryd.prog.plainKeys = true := by kernel_rfl
theorem heard : Tryd.prog.stopsHeard = true := by kernel_rfl
theorem own : ownKnob Tryd.prog.godebug = none := by kernel_rfl
theorem mixed : Tryd.prog.follows .mixedOrders = true := by kernel_rfl
end Go.Proofs.YtdpeejgmfioglaaDoor.head
