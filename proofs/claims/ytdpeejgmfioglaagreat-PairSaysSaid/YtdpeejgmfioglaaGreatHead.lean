/- The first word of the program's order of beginnings, and what follows of it: that a law may be entered. And the closed facts that every row shares. -/
import Derived.Test.YtdpeejgmfioglaaGreatChecked
import Derived.Test.YtdpeejgmfioglaaGreatRows
import Derived.Test.YtdpeejgmfioglaaGreatVmH1
set_option linter.unusedVariables false
set_option linter.unusedSimpArgs false
set_option linter.unusedSectionVars false
namespace Go.Proofs.YtdpeejgmfioglaaGreat.head
open Go.Vm
/-- The order of beginnings, sign by sign. -/
def codes : List Nat := [
  104, 97, 114, 110, 101, 115, 115, 32, 48, 54, 54, 51, 48, 49, 100, 57, 56, 100, 57, 101, 53, 48, 98, 101, 55, 98, 100, 98, 53, 55, 99, 56, 51, 55, 52, 100, 55, 99, 101, 56, 48, 55, 48, 55, 56, 51, 56,
  50, 99, 55, 53, 100, 102, 53, 52, 101, 102, 48, 48, 97, 55, 57, 48, 53, 98, 56, 52, 52, 101, 57, 50, 51, 32, 99, 117, 116, 32, 97, 116, 32, 115, 111, 117, 116, 101, 114, 114, 97, 105, 110, 47, 115,
  111, 117, 116, 101, 114, 114, 97, 105, 110, 108, 97, 119, 46, 80, 97, 105, 114, 83, 97, 121, 115]
theorem io : Tryz.prog.initOrder = String.ofList (codes.map Char.ofNat) := by kernel_rfl
theorem chars : Tryz.prog.initOrder.toList = codes.map Char.ofNat := by rw [io, String.toList_ofList]
def words : List (List Char) := behindMainWord (wordsSigns (codes.map Char.ofNat))
theorem shape : words = "cut".toList :: words.tail := by kernel_rfl
theorem cut : behindMainWord (wordsSigns Tryz.prog.initOrder.toList) = "cut".toList :: words.tail := by rw [chars]; exact shape
theorem later : Tryz.prog.laysLater = false := by kernel_rfl
theorem bears : Tryz.prog.bearsReflect = false := by kernel_rfl
theorem fits : Tryz.prog.doorFits [] = true := by kernel_rfl
theorem mayEnter : Tryz.prog.mayEnter = true := enter_of_cut cut later bears fits
theorem make : Tryz.prog.make = some .cut := make_of_cut cut
theorem lifts : Tryz.prog.liftsFinal = false := lifts_of_cut cut
theorem laidOut : laidOutB Tryz.prog = true := by kernel_rfl
theorem rowed : mapsRowed Tryz.prog = true := by kernel_rfl
theorem stops : (Tryz.prog.stops == []) = true := by kernel_rfl
theorem knobs : (Tryz.prog.stopKnobs == []) = true := by kernel_rfl
theorem plain : Tryz.prog.plainKeys = true := by kernel_rfl
theorem heard : Tryz.prog.stopsHeard = true := by kernel_rfl
theorem own : ownKnob Tryz.prog.godebug = none := by kernel_rfl
theorem mixed : Tryz.prog.follows .mixedOrders = true := by kernel_rfl
end Go.Proofs.YtdpeejgmfioglaaGreat.head
