/- A part of the proof: laws of a small machine of values, or what one function answers, proved against the model; no conditions beyond those in each theorem. -/
import Derived.Test.YtdpeejgmfioglaaDoorProg
import Derived.Test.YtdpeejgmfioglaaDoorVmTToVmW
import Derived.Test.YtdpeejgmfioglaaDoorVmZToVmP3
set_option linter.unusedVariables false
set_option linter.unusedSimpArgs false
set_option linter.unusedSectionVars false
section
namespace Go.Vm.Ty
open Go.Proofs
set_option maxRecDepth 100000
theorem sz1 : szOf Tryd.prog 1 = some 1 := by kernel_rfl
theorem by1 : byOf Tryd.prog 1 = some 8 := by kernel_rfl
theorem zero1 : zeroOf Tryd.prog 1 = some [.nilFn] := by kernel_rfl
theorem row1 : isRowT Tryd.prog 1 = some false := by kernel_rfl
theorem sz2 : szOf Tryd.prog 2 = some 1 := by kernel_rfl
theorem by2 : byOf Tryd.prog 2 = some 8 := by kernel_rfl
theorem zero2 : zeroOf Tryd.prog 2 = some [.i64 0] := by kernel_rfl
theorem row2 : isRowT Tryd.prog 2 = some false := by kernel_rfl
theorem sz3 : szOf Tryd.prog 3 = some 1 := by kernel_rfl
theorem by3 : byOf Tryd.prog 3 = some 8 := by kernel_rfl
theorem zero3 : zeroOf Tryd.prog 3 = some [.i64 0] := by kernel_rfl
theorem row3 : isRowT Tryd.prog 3 = some false := by kernel_rfl
theorem sz4 : szOf Tryd.prog 4 = some 1 := by kernel_rfl
theorem by4 : byOf Tryd.prog 4 = some 1 := by kernel_rfl
theorem zero4 : zeroOf Tryd.prog 4 = some [.bool false] := by kernel_rfl
theorem row4 : isRowT Tryd.prog 4 = some false := by kernel_rfl
theorem sz5 : szOf Tryd.prog 5 = some 1 := by kernel_rfl
theorem by5 : byOf Tryd.prog 5 = some 1 := by kernel_rfl
theorem zero5 : zeroOf Tryd.prog 5 = some [.u8 0#8] := by kernel_rfl
theorem row5 : isRowT Tryd.prog 5 = some false := by kernel_rfl
theorem sz6 : szOf Tryd.prog 6 = some 1 := by kernel_rfl
theorem by6 : byOf Tryd.prog 6 = some 1 := by kernel_rfl
theorem zero6 : zeroOf Tryd.prog 6 = some [.u8 0#8] := by kernel_rfl
theorem row6 : isRowT Tryd.prog 6 = some false := by kernel_rfl
theorem sz7 : szOf Tryd.prog 7 = some 4 := by kernel_rfl
theorem by7 : byOf Tryd.prog 7 = some 24 := by kernel_rfl
theorem zero7 : zeroOf Tryd.prog 7 = some [.i64 0, .i64 0, .bool false, .u8 0#8] := by kernel_rfl
theorem row7 : isRowT Tryd.prog 7 = some true := by kernel_rfl
theorem fld7_0 : fldOf Tryd.prog 7 0 = some (0, 2) := by kernel_rfl
theorem fld7_1 : fldOf Tryd.prog 7 1 = some (1, 3) := by kernel_rfl
theorem fld7_2 : fldOf Tryd.prog 7 2 = some (2, 4) := by kernel_rfl
theorem fld7_3 : fldOf Tryd.prog 7 3 = some (3, 6) := by kernel_rfl
theorem bld7 : buildT Tryd.prog 7 = some ([.i64 0, .i64 0, .bool false, .u8 0#8], .inl [(0, 1), (1, 1), (2, 1), (3, 1)]) := by kernel_rfl
theorem sz8 : szOf Tryd.prog 8 = some 4 := by kernel_rfl
theorem by8 : byOf Tryd.prog 8 = some 24 := by kernel_rfl
theorem zero8 : zeroOf Tryd.prog 8 = some [.i64 0, .i64 0, .bool false, .u8 0#8] := by kernel_rfl
theorem row8 : isRowT Tryd.prog 8 = some true := by kernel_rfl
theorem fld8_0 : fldOf Tryd.prog 8 0 = some (0, 2) := by kernel_rfl
theorem fld8_1 : fldOf Tryd.prog 8 1 = some (1, 3) := by kernel_rfl
theorem fld8_2 : fldOf Tryd.prog 8 2 = some (2, 4) := by kernel_rfl
theorem fld8_3 : fldOf Tryd.prog 8 3 = some (3, 6) := by kernel_rfl
theorem bld8 : buildT Tryd.prog 8 = some ([.i64 0, .i64 0, .bool false, .u8 0#8], .inl [(0, 1), (1, 1), (2, 1), (3, 1)]) := by kernel_rfl
theorem sz9 : szOf Tryd.prog 9 = some 1 := by kernel_rfl
theorem by9 : byOf Tryd.prog 9 = some 16 := by kernel_rfl
theorem zero9 : zeroOf Tryd.prog 9 = some [.str []] := by kernel_rfl
theorem row9 : isRowT Tryd.prog 9 = some false := by kernel_rfl
theorem sz10 : szOf Tryd.prog 10 = some 1 := by kernel_rfl
theorem by10 : byOf Tryd.prog 10 = some 16 := by kernel_rfl
theorem zero10 : zeroOf Tryd.prog 10 = some [.str []] := by kernel_rfl
theorem row10 : isRowT Tryd.prog 10 = some false := by kernel_rfl
theorem sz11 : szOf Tryd.prog 11 = some 1 := by kernel_rfl
theorem by11 : byOf Tryd.prog 11 = some 16 := by kernel_rfl
theorem zero11 : zeroOf Tryd.prog 11 = some [.str []] := by kernel_rfl
theorem row11 : isRowT Tryd.prog 11 = some false := by kernel_rfl
theorem sz12 : szOf Tryd.prog 12 = some 1 := by kernel_rfl
theorem by12 : byOf Tryd.prog 12 = some 8 := by kernel_rfl
theorem zero12 : zeroOf Tryd.prog 12 = some [.u64 0#64] := by kernel_rfl
theorem row12 : isRowT Tryd.prog 12 = some false := by kernel_rfl
theorem sz13 : szOf Tryd.prog 13 = some 2 := by kernel_rfl
theorem by13 : byOf Tryd.prog 13 = some 24 := by kernel_rfl
theorem zero13 : zeroOf Tryd.prog 13 = some [.str [], .u64 0#64] := by kernel_rfl
theorem row13 : isRowT Tryd.prog 13 = some true := by kernel_rfl
theorem fld13_0 : fldOf Tryd.prog 13 0 = some (0, 9) := by kernel_rfl
theorem fld13_1 : fldOf Tryd.prog 13 1 = some (1, 12) := by kernel_rfl
theorem bld13 : buildT Tryd.prog 13 = some ([.str [], .u64 0#64], .inl [(0, 1), (1, 1)]) := by kernel_rfl
theorem sz14 : szOf Tryd.prog 14 = some 2 := by kernel_rfl
theorem by14 : byOf Tryd.prog 14 = some 24 := by kernel_rfl
theorem zero14 : zeroOf Tryd.prog 14 = some [.str [], .u64 0#64] := by kernel_rfl
theorem row14 : isRowT Tryd.prog 14 = some true := by kernel_rfl
theorem fld14_0 : fldOf Tryd.prog 14 0 = some (0, 9) := by kernel_rfl
theorem fld14_1 : fldOf Tryd.prog 14 1 = some (1, 12) := by kernel_rfl
theorem bld14 : buildT Tryd.prog 14 = some ([.str [], .u64 0#64], .inl [(0, 1), (1, 1)]) := by kernel_rfl
theorem sz15 : szOf Tryd.prog 15 = some 1 := by kernel_rfl
theorem by15 : byOf Tryd.prog 15 = some 8 := by kernel_rfl
theorem zero15 : zeroOf Tryd.prog 15 = some [.nilPtr] := by kernel_rfl
theorem row15 : isRowT Tryd.prog 15 = some false := by kernel_rfl
theorem sz16 : szOf Tryd.prog 16 = some 1 := by kernel_rfl
theorem by16 : byOf Tryd.prog 16 = some 8 := by kernel_rfl
theorem zero16 : zeroOf Tryd.prog 16 = some [.nilPtr] := by kernel_rfl
theorem row16 : isRowT Tryd.prog 16 = some false := by kernel_rfl
theorem sz17 : szOf Tryd.prog 17 = some 1 := by kernel_rfl
theorem by17 : byOf Tryd.prog 17 = some 8 := by kernel_rfl
theorem zero17 : zeroOf Tryd.prog 17 = some [.nilPtr] := by kernel_rfl
theorem row17 : isRowT Tryd.prog 17 = some false := by kernel_rfl
theorem sz18 : szOf Tryd.prog 18 = some 1 := by kernel_rfl
theorem by18 : byOf Tryd.prog 18 = some 8 := by kernel_rfl
theorem zero18 : zeroOf Tryd.prog 18 = some [.nilPtr] := by kernel_rfl
theorem row18 : isRowT Tryd.prog 18 = some true := by kernel_rfl
theorem fld18_0 : fldOf Tryd.prog 18 0 = some (0, 17) := by kernel_rfl
theorem bld18 : buildT Tryd.prog 18 = some ([.nilPtr], .inl [(0, 1)]) := by kernel_rfl
theorem sz19 : szOf Tryd.prog 19 = some 1 := by kernel_rfl
theorem by19 : byOf Tryd.prog 19 = some 8 := by kernel_rfl
theorem zero19 : zeroOf Tryd.prog 19 = some [.nilPtr] := by kernel_rfl
theorem row19 : isRowT Tryd.prog 19 = some true := by kernel_rfl
theorem fld19_0 : fldOf Tryd.prog 19 0 = some (0, 17) := by kernel_rfl
theorem bld19 : buildT Tryd.prog 19 = some ([.nilPtr], .inl [(0, 1)]) := by kernel_rfl
theorem sz20 : szOf Tryd.prog 20 = some 1 := by kernel_rfl
theorem by20 : byOf Tryd.prog 20 = some 16 := by kernel_rfl
theorem zero20 : zeroOf Tryd.prog 20 = some [.nilIface] := by kernel_rfl
theorem row20 : isRowT Tryd.prog 20 = some false := by kernel_rfl
theorem sz21 : szOf Tryd.prog 21 = some 1 := by kernel_rfl
theorem by21 : byOf Tryd.prog 21 = some 4 := by kernel_rfl
theorem zero21 : zeroOf Tryd.prog 21 = some [.i32 0] := by kernel_rfl
theorem row21 : isRowT Tryd.prog 21 = some false := by kernel_rfl
theorem sz22 : szOf Tryd.prog 22 = some 1 := by kernel_rfl
theorem by22 : byOf Tryd.prog 22 = some 8 := by kernel_rfl
theorem zero22 : zeroOf Tryd.prog 22 = some [.i64 0] := by kernel_rfl
theorem row22 : isRowT Tryd.prog 22 = some false := by kernel_rfl
theorem sz24 : szOf Tryd.prog 24 = some 1 := by kernel_rfl
theorem by24 : byOf Tryd.prog 24 = some 8 := by kernel_rfl
theorem zero24 : zeroOf Tryd.prog 24 = some [.nilFn] := by kernel_rfl
theorem row24 : isRowT Tryd.prog 24 = some false := by kernel_rfl
theorem sz25 : szOf Tryd.prog 25 = some 1 := by kernel_rfl
theorem by25 : byOf Tryd.prog 25 = some 8 := by kernel_rfl
theorem zero25 : zeroOf Tryd.prog 25 = some [.nilFn] := by kernel_rfl
theorem row25 : isRowT Tryd.prog 25 = some false := by kernel_rfl
theorem sz26 : szOf Tryd.prog 26 = some 1 := by kernel_rfl
theorem by26 : byOf Tryd.prog 26 = some 8 := by kernel_rfl
theorem zero26 : zeroOf Tryd.prog 26 = some [.nilFn] := by kernel_rfl
theorem row26 : isRowT Tryd.prog 26 = some false := by kernel_rfl
theorem sz27 : szOf Tryd.prog 27 = some 1 := by kernel_rfl
theorem by27 : byOf Tryd.prog 27 = some 8 := by kernel_rfl
theorem zero27 : zeroOf Tryd.prog 27 = some [.nilFn] := by kernel_rfl
theorem row27 : isRowT Tryd.prog 27 = some false := by kernel_rfl
theorem sz28 : szOf Tryd.prog 28 = some 1 := by kernel_rfl
theorem by28 : byOf Tryd.prog 28 = some 24 := by kernel_rfl
theorem zero28 : zeroOf Tryd.prog 28 = some [.nilSlice] := by kernel_rfl
theorem row28 : isRowT Tryd.prog 28 = some false := by kernel_rfl
theorem slc28 : sliceT Tryd.prog 28 = some 5 := by kernel_rfl
theorem sz29 : szOf Tryd.prog 29 = some 1 := by kernel_rfl
theorem by29 : byOf Tryd.prog 29 = some 4 := by kernel_rfl
theorem zero29 : zeroOf Tryd.prog 29 = some [.u32 0#32] := by kernel_rfl
theorem row29 : isRowT Tryd.prog 29 = some false := by kernel_rfl
theorem sz30 : szOf Tryd.prog 30 = some 1 := by kernel_rfl
theorem by30 : byOf Tryd.prog 30 = some 8 := by kernel_rfl
theorem zero30 : zeroOf Tryd.prog 30 = some [.nilFn] := by kernel_rfl
theorem row30 : isRowT Tryd.prog 30 = some false := by kernel_rfl
theorem sz31 : szOf Tryd.prog 31 = some 1 := by kernel_rfl
theorem by31 : byOf Tryd.prog 31 = some 8 := by kernel_rfl
theorem zero31 : zeroOf Tryd.prog 31 = some [.nilFn] := by kernel_rfl
theorem row31 : isRowT Tryd.prog 31 = some false := by kernel_rfl
theorem sz32 : szOf Tryd.prog 32 = some 1 := by kernel_rfl
theorem by32 : byOf Tryd.prog 32 = some 8 := by kernel_rfl
theorem zero32 : zeroOf Tryd.prog 32 = some [.u64 0#64] := by kernel_rfl
theorem row32 : isRowT Tryd.prog 32 = some false := by kernel_rfl
theorem sz33 : szOf Tryd.prog 33 = some 1 := by kernel_rfl
theorem by33 : byOf Tryd.prog 33 = some 8 := by kernel_rfl
theorem zero33 : zeroOf Tryd.prog 33 = some [.nilFn] := by kernel_rfl
theorem row33 : isRowT Tryd.prog 33 = some false := by kernel_rfl
theorem sz34 : szOf Tryd.prog 34 = some 1 := by kernel_rfl
theorem by34 : byOf Tryd.prog 34 = some 8 := by kernel_rfl
theorem zero34 : zeroOf Tryd.prog 34 = some [.nilFn] := by kernel_rfl
theorem row34 : isRowT Tryd.prog 34 = some false := by kernel_rfl
theorem sz35 : szOf Tryd.prog 35 = some 1 := by kernel_rfl
theorem by35 : byOf Tryd.prog 35 = some 8 := by kernel_rfl
theorem zero35 : zeroOf Tryd.prog 35 = some [.nilFn] := by kernel_rfl
theorem row35 : isRowT Tryd.prog 35 = some false := by kernel_rfl
theorem sz36 : szOf Tryd.prog 36 = some 256 := by kernel_rfl
theorem by36 : byOf Tryd.prog 36 = some 256 := by kernel_rfl
theorem zero36 : zeroOf Tryd.prog 36 = some (List.replicate 256 (.bool false)) := by kernel_rfl
theorem row36 : isRowT Tryd.prog 36 = some true := by kernel_rfl
theorem arr36 : arrT Tryd.prog 36 = some (256, 4) := by kernel_rfl
theorem bld36 : buildT Tryd.prog 36 = some ((List.replicate 256 (.bool false)), .inr 1) := by kernel_rfl
theorem sz37 : szOf Tryd.prog 37 = some 256 := by kernel_rfl
theorem by37 : byOf Tryd.prog 37 = some 256 := by kernel_rfl
theorem zero37 : zeroOf Tryd.prog 37 = some (List.replicate 256 (.bool false)) := by kernel_rfl
theorem row37 : isRowT Tryd.prog 37 = some true := by kernel_rfl
theorem arr37 : arrT Tryd.prog 37 = some (256, 4) := by kernel_rfl
theorem bld37 : buildT Tryd.prog 37 = some ((List.replicate 256 (.bool false)), .inr 1) := by kernel_rfl
theorem sz39 : szOf Tryd.prog 39 = some 1 := by kernel_rfl
theorem by39 : byOf Tryd.prog 39 = some 8 := by kernel_rfl
theorem zero39 : zeroOf Tryd.prog 39 = some [.nilFn] := by kernel_rfl
theorem row39 : isRowT Tryd.prog 39 = some false := by kernel_rfl
theorem sz40 : szOf Tryd.prog 40 = some 1 := by kernel_rfl
theorem by40 : byOf Tryd.prog 40 = some 8 := by kernel_rfl
theorem zero40 : zeroOf Tryd.prog 40 = some [.nilFn] := by kernel_rfl
theorem row40 : isRowT Tryd.prog 40 = some false := by kernel_rfl
theorem sz41 : szOf Tryd.prog 41 = some 1 := by kernel_rfl
theorem by41 : byOf Tryd.prog 41 = some 8 := by kernel_rfl
theorem zero41 : zeroOf Tryd.prog 41 = some [.nilPtr] := by kernel_rfl
theorem row41 : isRowT Tryd.prog 41 = some false := by kernel_rfl
theorem sz43 : szOf Tryd.prog 43 = some 1 := by kernel_rfl
theorem by43 : byOf Tryd.prog 43 = some 8 := by kernel_rfl
theorem zero43 : zeroOf Tryd.prog 43 = some [.nilFn] := by kernel_rfl
theorem row43 : isRowT Tryd.prog 43 = some false := by kernel_rfl
theorem sz44 : szOf Tryd.prog 44 = some 1 := by kernel_rfl
theorem by44 : byOf Tryd.prog 44 = some 8 := by kernel_rfl
theorem zero44 : zeroOf Tryd.prog 44 = some [.nilPtr] := by kernel_rfl
theorem row44 : isRowT Tryd.prog 44 = some false := by kernel_rfl
theorem sz45 : szOf Tryd.prog 45 = some 2 := by kernel_rfl
theorem by45 : byOf Tryd.prog 45 = some 32 := by kernel_rfl
theorem zero45 : zeroOf Tryd.prog 45 = some [.nilPtr, .nilSlice] := by kernel_rfl
theorem row45 : isRowT Tryd.prog 45 = some true := by kernel_rfl
theorem fld45_0 : fldOf Tryd.prog 45 0 = some (0, 44) := by kernel_rfl
theorem fld45_1 : fldOf Tryd.prog 45 1 = some (1, 28) := by kernel_rfl
theorem bld45 : buildT Tryd.prog 45 = some ([.nilPtr, .nilSlice], .inl [(0, 1), (1, 1)]) := by kernel_rfl
theorem sz46 : szOf Tryd.prog 46 = some 2 := by kernel_rfl
theorem by46 : byOf Tryd.prog 46 = some 32 := by kernel_rfl
theorem zero46 : zeroOf Tryd.prog 46 = some [.nilPtr, .nilSlice] := by kernel_rfl
theorem row46 : isRowT Tryd.prog 46 = some true := by kernel_rfl
theorem fld46_0 : fldOf Tryd.prog 46 0 = some (0, 44) := by kernel_rfl
theorem fld46_1 : fldOf Tryd.prog 46 1 = some (1, 28) := by kernel_rfl
theorem bld46 : buildT Tryd.prog 46 = some ([.nilPtr, .nilSlice], .inl [(0, 1), (1, 1)]) := by kernel_rfl
theorem sz47 : szOf Tryd.prog 47 = some 1 := by kernel_rfl
theorem by47 : byOf Tryd.prog 47 = some 8 := by kernel_rfl
theorem zero47 : zeroOf Tryd.prog 47 = some [.nilFn] := by kernel_rfl
theorem row47 : isRowT Tryd.prog 47 = some false := by kernel_rfl
theorem sz48 : szOf Tryd.prog 48 = some 1 := by kernel_rfl
theorem by48 : byOf Tryd.prog 48 = some 16 := by kernel_rfl
theorem zero48 : zeroOf Tryd.prog 48 = some [.nilIface] := by kernel_rfl
theorem row48 : isRowT Tryd.prog 48 = some false := by kernel_rfl
theorem sz49 : szOf Tryd.prog 49 = some 1 := by kernel_rfl
theorem by49 : byOf Tryd.prog 49 = some 16 := by kernel_rfl
theorem zero49 : zeroOf Tryd.prog 49 = some [.nilIface] := by kernel_rfl
theorem row49 : isRowT Tryd.prog 49 = some false := by kernel_rfl
theorem sz51 : szOf Tryd.prog 51 = some 1 := by kernel_rfl
theorem by51 : byOf Tryd.prog 51 = some 8 := by kernel_rfl
theorem zero51 : zeroOf Tryd.prog 51 = some [.nilFn] := by kernel_rfl
theorem row51 : isRowT Tryd.prog 51 = some false := by kernel_rfl
theorem sz52 : szOf Tryd.prog 52 = some 1 := by kernel_rfl
theorem by52 : byOf Tryd.prog 52 = some 8 := by kernel_rfl
theorem zero52 : zeroOf Tryd.prog 52 = some [.nilFn] := by kernel_rfl
theorem row52 : isRowT Tryd.prog 52 = some false := by kernel_rfl
theorem sz53 : szOf Tryd.prog 53 = some 1 := by kernel_rfl
theorem by53 : byOf Tryd.prog 53 = some 8 := by kernel_rfl
theorem zero53 : zeroOf Tryd.prog 53 = some [.nilFn] := by kernel_rfl
theorem row53 : isRowT Tryd.prog 53 = some false := by kernel_rfl
theorem sz54 : szOf Tryd.prog 54 = some 16 := by kernel_rfl
theorem by54 : byOf Tryd.prog 54 = some 128 := by kernel_rfl
theorem zero54 : zeroOf Tryd.prog 54 = some [.i64 0, .i64 0, .i64 0, .i64 0, .i64 0, .i64 0, .i64 0, .i64 0, .i64 0, .i64 0, .i64 0, .i64 0, .i64 0, .i64 0, .i64 0, .i64 0] := by kernel_rfl
theorem row54 : isRowT Tryd.prog 54 = some true := by kernel_rfl
theorem arr54 : arrT Tryd.prog 54 = some (16, 2) := by kernel_rfl
theorem bld54 : buildT Tryd.prog 54 = some ([.i64 0, .i64 0, .i64 0, .i64 0, .i64 0, .i64 0, .i64 0, .i64 0, .i64 0, .i64 0, .i64 0, .i64 0, .i64 0, .i64 0, .i64 0, .i64 0], .inr 1) := by kernel_rfl
theorem sz55 : szOf Tryd.prog 55 = some 16 := by kernel_rfl
theorem by55 : byOf Tryd.prog 55 = some 128 := by kernel_rfl
theorem zero55 : zeroOf Tryd.prog 55 = some [.i64 0, .i64 0, .i64 0, .i64 0, .i64 0, .i64 0, .i64 0, .i64 0, .i64 0, .i64 0, .i64 0, .i64 0, .i64 0, .i64 0, .i64 0, .i64 0] := by kernel_rfl
theorem row55 : isRowT Tryd.prog 55 = some true := by kernel_rfl
theorem arr55 : arrT Tryd.prog 55 = some (16, 2) := by kernel_rfl
theorem bld55 : buildT Tryd.prog 55 = some ([.i64 0, .i64 0, .i64 0, .i64 0, .i64 0, .i64 0, .i64 0, .i64 0, .i64 0, .i64 0, .i64 0, .i64 0, .i64 0, .i64 0, .i64 0, .i64 0], .inr 1) := by kernel_rfl
theorem sz56 : szOf Tryd.prog 56 = some 32 := by kernel_rfl
theorem by56 : byOf Tryd.prog 56 = some 256 := by kernel_rfl
theorem zero56 : zeroOf Tryd.prog 56 = some [.i64 0, .i64 0, .i64 0, .i64 0, .i64 0, .i64 0, .i64 0, .i64 0, .i64 0, .i64 0, .i64 0, .i64 0, .i64 0, .i64 0, .i64 0, .i64 0, .i64 0, .i64 0, .i64 0, .i64 0, .i64 0, .i64 0, .i64 0, .i64 0, .i64 0, .i64 0, .i64 0, .i64 0, .i64 0, .i64 0, .i64 0, .i64 0] := by kernel_rfl
theorem row56 : isRowT Tryd.prog 56 = some true := by kernel_rfl
theorem fld56_0 : fldOf Tryd.prog 56 0 = some (0, 55) := by kernel_rfl
theorem fld56_1 : fldOf Tryd.prog 56 1 = some (16, 55) := by kernel_rfl
theorem bld56 : buildT Tryd.prog 56 = some ([.i64 0, .i64 0, .i64 0, .i64 0, .i64 0, .i64 0, .i64 0, .i64 0, .i64 0, .i64 0, .i64 0, .i64 0, .i64 0, .i64 0, .i64 0, .i64 0, .i64 0, .i64 0, .i64 0, .i64 0, .i64 0, .i64 0, .i64 0, .i64 0, .i64 0, .i64 0, .i64 0, .i64 0, .i64 0, .i64 0, .i64 0, .i64 0], .inl [(0, 16), (16, 16)]) := by kernel_rfl
theorem sz57 : szOf Tryd.prog 57 = some 32 := by kernel_rfl
theorem by57 : byOf Tryd.prog 57 = some 256 := by kernel_rfl
theorem zero57 : zeroOf Tryd.prog 57 = some [.i64 0, .i64 0, .i64 0, .i64 0, .i64 0, .i64 0, .i64 0, .i64 0, .i64 0, .i64 0, .i64 0, .i64 0, .i64 0, .i64 0, .i64 0, .i64 0, .i64 0, .i64 0, .i64 0, .i64 0, .i64 0, .i64 0, .i64 0, .i64 0, .i64 0, .i64 0, .i64 0, .i64 0, .i64 0, .i64 0, .i64 0, .i64 0] := by kernel_rfl
theorem row57 : isRowT Tryd.prog 57 = some true := by kernel_rfl
theorem fld57_0 : fldOf Tryd.prog 57 0 = some (0, 55) := by kernel_rfl
theorem fld57_1 : fldOf Tryd.prog 57 1 = some (16, 55) := by kernel_rfl
theorem bld57 : buildT Tryd.prog 57 = some ([.i64 0, .i64 0, .i64 0, .i64 0, .i64 0, .i64 0, .i64 0, .i64 0, .i64 0, .i64 0, .i64 0, .i64 0, .i64 0, .i64 0, .i64 0, .i64 0, .i64 0, .i64 0, .i64 0, .i64 0, .i64 0, .i64 0, .i64 0, .i64 0, .i64 0, .i64 0, .i64 0, .i64 0, .i64 0, .i64 0, .i64 0, .i64 0], .inl [(0, 16), (16, 16)]) := by kernel_rfl
theorem sz59 : szOf Tryd.prog 59 = some 1 := by kernel_rfl
theorem by59 : byOf Tryd.prog 59 = some 8 := by kernel_rfl
theorem zero59 : zeroOf Tryd.prog 59 = some [.nilFn] := by kernel_rfl
theorem row59 : isRowT Tryd.prog 59 = some false := by kernel_rfl
theorem sz60 : szOf Tryd.prog 60 = some 1 := by kernel_rfl
theorem by60 : byOf Tryd.prog 60 = some 8 := by kernel_rfl
theorem zero60 : zeroOf Tryd.prog 60 = some [.nilFn] := by kernel_rfl
theorem row60 : isRowT Tryd.prog 60 = some false := by kernel_rfl
theorem sz61 : szOf Tryd.prog 61 = some 1 := by kernel_rfl
theorem by61 : byOf Tryd.prog 61 = some 8 := by kernel_rfl
theorem zero61 : zeroOf Tryd.prog 61 = some [.nilFn] := by kernel_rfl
theorem row61 : isRowT Tryd.prog 61 = some false := by kernel_rfl
theorem sz62 : szOf Tryd.prog 62 = some 1 := by kernel_rfl
theorem by62 : byOf Tryd.prog 62 = some 8 := by kernel_rfl
theorem zero62 : zeroOf Tryd.prog 62 = some [.nilFn] := by kernel_rfl
theorem row62 : isRowT Tryd.prog 62 = some false := by kernel_rfl
theorem sz63 : szOf Tryd.prog 63 = some 1 := by kernel_rfl
theorem by63 : byOf Tryd.prog 63 = some 8 := by kernel_rfl
theorem zero63 : zeroOf Tryd.prog 63 = some [.nilFn] := by kernel_rfl
theorem row63 : isRowT Tryd.prog 63 = some false := by kernel_rfl
theorem sz65 : szOf Tryd.prog 65 = some 1 := by kernel_rfl
theorem by65 : byOf Tryd.prog 65 = some 8 := by kernel_rfl
theorem zero65 : zeroOf Tryd.prog 65 = some [.nilFn] := by kernel_rfl
theorem row65 : isRowT Tryd.prog 65 = some false := by kernel_rfl
theorem sz66 : szOf Tryd.prog 66 = some 1 := by kernel_rfl
theorem by66 : byOf Tryd.prog 66 = some 8 := by kernel_rfl
theorem zero66 : zeroOf Tryd.prog 66 = some [.nilFn] := by kernel_rfl
theorem row66 : isRowT Tryd.prog 66 = some false := by kernel_rfl
theorem sz67 : szOf Tryd.prog 67 = some 1 := by kernel_rfl
theorem by67 : byOf Tryd.prog 67 = some 8 := by kernel_rfl
theorem zero67 : zeroOf Tryd.prog 67 = some [.u64 0#64] := by kernel_rfl
theorem row67 : isRowT Tryd.prog 67 = some false := by kernel_rfl
theorem sz68 : szOf Tryd.prog 68 = some 5 := by kernel_rfl
theorem by68 : byOf Tryd.prog 68 = some 40 := by kernel_rfl
theorem zero68 : zeroOf Tryd.prog 68 = some [.u64 0#64, .u64 0#64, .u64 0#64, .u64 0#64, .u64 0#64] := by kernel_rfl
theorem row68 : isRowT Tryd.prog 68 = some true := by kernel_rfl
theorem arr68 : arrT Tryd.prog 68 = some (5, 67) := by kernel_rfl
theorem bld68 : buildT Tryd.prog 68 = some ([.u64 0#64, .u64 0#64, .u64 0#64, .u64 0#64, .u64 0#64], .inr 1) := by kernel_rfl
theorem sz69 : szOf Tryd.prog 69 = some 5 := by kernel_rfl
theorem by69 : byOf Tryd.prog 69 = some 40 := by kernel_rfl
theorem zero69 : zeroOf Tryd.prog 69 = some [.u64 0#64, .u64 0#64, .u64 0#64, .u64 0#64, .u64 0#64] := by kernel_rfl
theorem row69 : isRowT Tryd.prog 69 = some true := by kernel_rfl
theorem arr69 : arrT Tryd.prog 69 = some (5, 67) := by kernel_rfl
theorem bld69 : buildT Tryd.prog 69 = some ([.u64 0#64, .u64 0#64, .u64 0#64, .u64 0#64, .u64 0#64], .inr 1) := by kernel_rfl
theorem sz71 : szOf Tryd.prog 71 = some 1 := by kernel_rfl
theorem by71 : byOf Tryd.prog 71 = some 8 := by kernel_rfl
theorem zero71 : zeroOf Tryd.prog 71 = some [.nilFn] := by kernel_rfl
theorem row71 : isRowT Tryd.prog 71 = some false := by kernel_rfl
theorem sz72 : szOf Tryd.prog 72 = some 1 := by kernel_rfl
theorem by72 : byOf Tryd.prog 72 = some 8 := by kernel_rfl
theorem zero72 : zeroOf Tryd.prog 72 = some [.nilFn] := by kernel_rfl
theorem row72 : isRowT Tryd.prog 72 = some false := by kernel_rfl
theorem sz73 : szOf Tryd.prog 73 = some 1 := by kernel_rfl
theorem by73 : byOf Tryd.prog 73 = some 8 := by kernel_rfl
theorem zero73 : zeroOf Tryd.prog 73 = some [.nilFn] := by kernel_rfl
theorem row73 : isRowT Tryd.prog 73 = some false := by kernel_rfl
theorem sz74 : szOf Tryd.prog 74 = some 1 := by kernel_rfl
theorem by74 : byOf Tryd.prog 74 = some 8 := by kernel_rfl
theorem zero74 : zeroOf Tryd.prog 74 = some [.nilFn] := by kernel_rfl
theorem row74 : isRowT Tryd.prog 74 = some false := by kernel_rfl
theorem sz76 : szOf Tryd.prog 76 = some 1 := by kernel_rfl
theorem by76 : byOf Tryd.prog 76 = some 8 := by kernel_rfl
theorem zero76 : zeroOf Tryd.prog 76 = some [.nilFn] := by kernel_rfl
theorem row76 : isRowT Tryd.prog 76 = some false := by kernel_rfl
theorem sz78 : szOf Tryd.prog 78 = some 1 := by kernel_rfl
theorem by78 : byOf Tryd.prog 78 = some 8 := by kernel_rfl
theorem zero78 : zeroOf Tryd.prog 78 = some [.nilFn] := by kernel_rfl
theorem row78 : isRowT Tryd.prog 78 = some false := by kernel_rfl
theorem sz79 : szOf Tryd.prog 79 = some 1 := by kernel_rfl
theorem by79 : byOf Tryd.prog 79 = some 8 := by kernel_rfl
theorem zero79 : zeroOf Tryd.prog 79 = some [.nilPtr] := by kernel_rfl
theorem row79 : isRowT Tryd.prog 79 = some false := by kernel_rfl
theorem sz80 : szOf Tryd.prog 80 = some 1 := by kernel_rfl
theorem by80 : byOf Tryd.prog 80 = some 8 := by kernel_rfl
theorem zero80 : zeroOf Tryd.prog 80 = some [.nilFn] := by kernel_rfl
theorem row80 : isRowT Tryd.prog 80 = some false := by kernel_rfl
theorem sz81 : szOf Tryd.prog 81 = some 1 := by kernel_rfl
theorem by81 : byOf Tryd.prog 81 = some 8 := by kernel_rfl
theorem zero81 : zeroOf Tryd.prog 81 = some [.nilFn] := by kernel_rfl
theorem row81 : isRowT Tryd.prog 81 = some false := by kernel_rfl
theorem sz82 : szOf Tryd.prog 82 = some 32 := by kernel_rfl
theorem by82 : byOf Tryd.prog 82 = some 256 := by kernel_rfl
theorem zero82 : zeroOf Tryd.prog 82 = some [.i64 0, .i64 0, .i64 0, .i64 0, .i64 0, .i64 0, .i64 0, .i64 0, .i64 0, .i64 0, .i64 0, .i64 0, .i64 0, .i64 0, .i64 0, .i64 0, .i64 0, .i64 0, .i64 0, .i64 0, .i64 0, .i64 0, .i64 0, .i64 0, .i64 0, .i64 0, .i64 0, .i64 0, .i64 0, .i64 0, .i64 0, .i64 0] := by kernel_rfl
theorem row82 : isRowT Tryd.prog 82 = some true := by kernel_rfl
theorem arr82 : arrT Tryd.prog 82 = some (32, 2) := by kernel_rfl
theorem bld82 : buildT Tryd.prog 82 = some ([.i64 0, .i64 0, .i64 0, .i64 0, .i64 0, .i64 0, .i64 0, .i64 0, .i64 0, .i64 0, .i64 0, .i64 0, .i64 0, .i64 0, .i64 0, .i64 0, .i64 0, .i64 0, .i64 0, .i64 0, .i64 0, .i64 0, .i64 0, .i64 0, .i64 0, .i64 0, .i64 0, .i64 0, .i64 0, .i64 0, .i64 0, .i64 0], .inr 1) := by kernel_rfl
theorem sz83 : szOf Tryd.prog 83 = some 1 := by kernel_rfl
theorem by83 : byOf Tryd.prog 83 = some 8 := by kernel_rfl
theorem zero83 : zeroOf Tryd.prog 83 = some [.nilFn] := by kernel_rfl
theorem row83 : isRowT Tryd.prog 83 = some false := by kernel_rfl
theorem sz84 : szOf Tryd.prog 84 = some 1 := by kernel_rfl
theorem by84 : byOf Tryd.prog 84 = some 8 := by kernel_rfl
theorem zero84 : zeroOf Tryd.prog 84 = some [.nilFn] := by kernel_rfl
theorem row84 : isRowT Tryd.prog 84 = some false := by kernel_rfl
theorem sz85 : szOf Tryd.prog 85 = some 4 := by kernel_rfl
theorem by85 : byOf Tryd.prog 85 = some 32 := by kernel_rfl
theorem zero85 : zeroOf Tryd.prog 85 = some [.u64 0#64, .u64 0#64, .u64 0#64, .u64 0#64] := by kernel_rfl
theorem row85 : isRowT Tryd.prog 85 = some true := by kernel_rfl
theorem arr85 : arrT Tryd.prog 85 = some (4, 67) := by kernel_rfl
theorem bld85 : buildT Tryd.prog 85 = some ([.u64 0#64, .u64 0#64, .u64 0#64, .u64 0#64], .inr 1) := by kernel_rfl
theorem sz86 : szOf Tryd.prog 86 = some 1 := by kernel_rfl
theorem by86 : byOf Tryd.prog 86 = some 8 := by kernel_rfl
theorem zero86 : zeroOf Tryd.prog 86 = some [.nilFn] := by kernel_rfl
theorem row86 : isRowT Tryd.prog 86 = some false := by kernel_rfl
theorem sz87 : szOf Tryd.prog 87 = some 2 := by kernel_rfl
theorem by87 : byOf Tryd.prog 87 = some 16 := by kernel_rfl
theorem zero87 : zeroOf Tryd.prog 87 = some [.u64 0#64, .u64 0#64] := by kernel_rfl
theorem row87 : isRowT Tryd.prog 87 = some true := by kernel_rfl
theorem fld87_0 : fldOf Tryd.prog 87 0 = some (0, 67) := by kernel_rfl
theorem fld87_1 : fldOf Tryd.prog 87 1 = some (1, 67) := by kernel_rfl
theorem bld87 : buildT Tryd.prog 87 = some ([.u64 0#64, .u64 0#64], .inl [(0, 1), (1, 1)]) := by kernel_rfl
theorem sz88 : szOf Tryd.prog 88 = some 2 := by kernel_rfl
theorem by88 : byOf Tryd.prog 88 = some 16 := by kernel_rfl
theorem zero88 : zeroOf Tryd.prog 88 = some [.u64 0#64, .u64 0#64] := by kernel_rfl
theorem row88 : isRowT Tryd.prog 88 = some true := by kernel_rfl
theorem fld88_0 : fldOf Tryd.prog 88 0 = some (0, 67) := by kernel_rfl
theorem fld88_1 : fldOf Tryd.prog 88 1 = some (1, 67) := by kernel_rfl
theorem bld88 : buildT Tryd.prog 88 = some ([.u64 0#64, .u64 0#64], .inl [(0, 1), (1, 1)]) := by kernel_rfl
theorem sz89 : szOf Tryd.prog 89 = some 10 := by kernel_rfl
theorem by89 : byOf Tryd.prog 89 = some 80 := by kernel_rfl
theorem zero89 : zeroOf Tryd.prog 89 = some [.u64 0#64, .u64 0#64, .u64 0#64, .u64 0#64, .u64 0#64, .u64 0#64, .u64 0#64, .u64 0#64, .u64 0#64, .u64 0#64] := by kernel_rfl
theorem row89 : isRowT Tryd.prog 89 = some true := by kernel_rfl
theorem arr89 : arrT Tryd.prog 89 = some (5, 88) := by kernel_rfl
theorem bld89 : buildT Tryd.prog 89 = some ([.u64 0#64, .u64 0#64, .u64 0#64, .u64 0#64, .u64 0#64, .u64 0#64, .u64 0#64, .u64 0#64, .u64 0#64, .u64 0#64], .inr 2) := by kernel_rfl
theorem sz90 : szOf Tryd.prog 90 = some 1 := by kernel_rfl
theorem by90 : byOf Tryd.prog 90 = some 8 := by kernel_rfl
theorem zero90 : zeroOf Tryd.prog 90 = some [.nilFn] := by kernel_rfl
theorem row90 : isRowT Tryd.prog 90 = some false := by kernel_rfl
theorem sz91 : szOf Tryd.prog 91 = some 1 := by kernel_rfl
theorem by91 : byOf Tryd.prog 91 = some 8 := by kernel_rfl
theorem zero91 : zeroOf Tryd.prog 91 = some [.nilFn] := by kernel_rfl
theorem row91 : isRowT Tryd.prog 91 = some false := by kernel_rfl
theorem sz92 : szOf Tryd.prog 92 = some 1 := by kernel_rfl
theorem by92 : byOf Tryd.prog 92 = some 24 := by kernel_rfl
theorem zero92 : zeroOf Tryd.prog 92 = some [.nilSlice] := by kernel_rfl
theorem row92 : isRowT Tryd.prog 92 = some false := by kernel_rfl
theorem slc92 : sliceT Tryd.prog 92 = some 67 := by kernel_rfl
theorem sz93 : szOf Tryd.prog 93 = some 1 := by kernel_rfl
theorem by93 : byOf Tryd.prog 93 = some 8 := by kernel_rfl
theorem zero93 : zeroOf Tryd.prog 93 = some [.nilFn] := by kernel_rfl
theorem row93 : isRowT Tryd.prog 93 = some false := by kernel_rfl
theorem sz94 : szOf Tryd.prog 94 = some 1 := by kernel_rfl
theorem by94 : byOf Tryd.prog 94 = some 8 := by kernel_rfl
theorem zero94 : zeroOf Tryd.prog 94 = some [.nilPtr] := by kernel_rfl
theorem row94 : isRowT Tryd.prog 94 = some false := by kernel_rfl
theorem sz95 : szOf Tryd.prog 95 = some 1 := by kernel_rfl
theorem by95 : byOf Tryd.prog 95 = some 8 := by kernel_rfl
theorem zero95 : zeroOf Tryd.prog 95 = some [.nilFn] := by kernel_rfl
theorem row95 : isRowT Tryd.prog 95 = some false := by kernel_rfl
theorem sz96 : szOf Tryd.prog 96 = some 1 := by kernel_rfl
theorem by96 : byOf Tryd.prog 96 = some 8 := by kernel_rfl
theorem zero96 : zeroOf Tryd.prog 96 = some [.nilFn] := by kernel_rfl
theorem row96 : isRowT Tryd.prog 96 = some false := by kernel_rfl
theorem sz97 : szOf Tryd.prog 97 = some 1 := by kernel_rfl
theorem by97 : byOf Tryd.prog 97 = some 8 := by kernel_rfl
theorem zero97 : zeroOf Tryd.prog 97 = some [.nilFn] := by kernel_rfl
theorem row97 : isRowT Tryd.prog 97 = some false := by kernel_rfl
theorem sz98 : szOf Tryd.prog 98 = some 1 := by kernel_rfl
theorem by98 : byOf Tryd.prog 98 = some 8 := by kernel_rfl
theorem zero98 : zeroOf Tryd.prog 98 = some [.nilFn] := by kernel_rfl
theorem row98 : isRowT Tryd.prog 98 = some false := by kernel_rfl
theorem sz99 : szOf Tryd.prog 99 = some 1 := by kernel_rfl
theorem by99 : byOf Tryd.prog 99 = some 8 := by kernel_rfl
theorem zero99 : zeroOf Tryd.prog 99 = some [.nilFn] := by kernel_rfl
theorem row99 : isRowT Tryd.prog 99 = some false := by kernel_rfl
theorem sz100 : szOf Tryd.prog 100 = some 1 := by kernel_rfl
theorem by100 : byOf Tryd.prog 100 = some 8 := by kernel_rfl
theorem zero100 : zeroOf Tryd.prog 100 = some [.nilFn] := by kernel_rfl
theorem row100 : isRowT Tryd.prog 100 = some false := by kernel_rfl
theorem sz101 : szOf Tryd.prog 101 = some 256 := by kernel_rfl
theorem by101 : byOf Tryd.prog 101 = some 256 := by kernel_rfl
theorem zero101 : zeroOf Tryd.prog 101 = some (List.replicate 256 (.u8 0#8)) := by kernel_rfl
theorem row101 : isRowT Tryd.prog 101 = some true := by kernel_rfl
theorem arr101 : arrT Tryd.prog 101 = some (256, 5) := by kernel_rfl
theorem bld101 : buildT Tryd.prog 101 = some ((List.replicate 256 (.u8 0#8)), .inr 1) := by kernel_rfl
theorem sz102 : szOf Tryd.prog 102 = some 2 := by kernel_rfl
theorem by102 : byOf Tryd.prog 102 = some 2 := by kernel_rfl
theorem zero102 : zeroOf Tryd.prog 102 = some [.u8 0#8, .u8 0#8] := by kernel_rfl
theorem row102 : isRowT Tryd.prog 102 = some true := by kernel_rfl
theorem fld102_0 : fldOf Tryd.prog 102 0 = some (0, 5) := by kernel_rfl
theorem fld102_1 : fldOf Tryd.prog 102 1 = some (1, 5) := by kernel_rfl
theorem bld102 : buildT Tryd.prog 102 = some ([.u8 0#8, .u8 0#8], .inl [(0, 1), (1, 1)]) := by kernel_rfl
theorem sz103 : szOf Tryd.prog 103 = some 2 := by kernel_rfl
theorem by103 : byOf Tryd.prog 103 = some 2 := by kernel_rfl
theorem zero103 : zeroOf Tryd.prog 103 = some [.u8 0#8, .u8 0#8] := by kernel_rfl
theorem row103 : isRowT Tryd.prog 103 = some true := by kernel_rfl
theorem fld103_0 : fldOf Tryd.prog 103 0 = some (0, 5) := by kernel_rfl
theorem fld103_1 : fldOf Tryd.prog 103 1 = some (1, 5) := by kernel_rfl
theorem bld103 : buildT Tryd.prog 103 = some ([.u8 0#8, .u8 0#8], .inl [(0, 1), (1, 1)]) := by kernel_rfl
theorem sz104 : szOf Tryd.prog 104 = some 32 := by kernel_rfl
theorem by104 : byOf Tryd.prog 104 = some 32 := by kernel_rfl
theorem zero104 : zeroOf Tryd.prog 104 = some [.u8 0#8, .u8 0#8, .u8 0#8, .u8 0#8, .u8 0#8, .u8 0#8, .u8 0#8, .u8 0#8, .u8 0#8, .u8 0#8, .u8 0#8, .u8 0#8, .u8 0#8, .u8 0#8, .u8 0#8, .u8 0#8, .u8 0#8, .u8 0#8, .u8 0#8, .u8 0#8, .u8 0#8, .u8 0#8, .u8 0#8, .u8 0#8, .u8 0#8, .u8 0#8, .u8 0#8, .u8 0#8, .u8 0#8, .u8 0#8, .u8 0#8, .u8 0#8] := by kernel_rfl
theorem row104 : isRowT Tryd.prog 104 = some true := by kernel_rfl
theorem arr104 : arrT Tryd.prog 104 = some (16, 103) := by kernel_rfl
theorem bld104 : buildT Tryd.prog 104 = some ([.u8 0#8, .u8 0#8, .u8 0#8, .u8 0#8, .u8 0#8, .u8 0#8, .u8 0#8, .u8 0#8, .u8 0#8, .u8 0#8, .u8 0#8, .u8 0#8, .u8 0#8, .u8 0#8, .u8 0#8, .u8 0#8, .u8 0#8, .u8 0#8, .u8 0#8, .u8 0#8, .u8 0#8, .u8 0#8, .u8 0#8, .u8 0#8, .u8 0#8, .u8 0#8, .u8 0#8, .u8 0#8, .u8 0#8, .u8 0#8, .u8 0#8, .u8 0#8], .inr 2) := by kernel_rfl
theorem sz105 : szOf Tryd.prog 105 = some 4 := by kernel_rfl
theorem by105 : byOf Tryd.prog 105 = some 40 := by kernel_rfl
theorem zero105 : zeroOf Tryd.prog 105 = some [.nilPtr, .nilPtr, .nilPtr, .str []] := by kernel_rfl
theorem row105 : isRowT Tryd.prog 105 = some true := by kernel_rfl
theorem fld105_0 : fldOf Tryd.prog 105 0 = some (0, 17) := by kernel_rfl
theorem fld105_1 : fldOf Tryd.prog 105 1 = some (1, 17) := by kernel_rfl
theorem fld105_2 : fldOf Tryd.prog 105 2 = some (2, 17) := by kernel_rfl
theorem fld105_3 : fldOf Tryd.prog 105 3 = some (3, 9) := by kernel_rfl
theorem bld105 : buildT Tryd.prog 105 = some ([.nilPtr, .nilPtr, .nilPtr, .str []], .inl [(0, 1), (1, 1), (2, 1), (3, 1)]) := by kernel_rfl
theorem sz106 : szOf Tryd.prog 106 = some 4 := by kernel_rfl
theorem by106 : byOf Tryd.prog 106 = some 40 := by kernel_rfl
theorem zero106 : zeroOf Tryd.prog 106 = some [.nilPtr, .nilPtr, .nilPtr, .str []] := by kernel_rfl
theorem row106 : isRowT Tryd.prog 106 = some true := by kernel_rfl
theorem fld106_0 : fldOf Tryd.prog 106 0 = some (0, 17) := by kernel_rfl
theorem fld106_1 : fldOf Tryd.prog 106 1 = some (1, 17) := by kernel_rfl
theorem fld106_2 : fldOf Tryd.prog 106 2 = some (2, 17) := by kernel_rfl
theorem fld106_3 : fldOf Tryd.prog 106 3 = some (3, 9) := by kernel_rfl
theorem bld106 : buildT Tryd.prog 106 = some ([.nilPtr, .nilPtr, .nilPtr, .str []], .inl [(0, 1), (1, 1), (2, 1), (3, 1)]) := by kernel_rfl
theorem sz107 : szOf Tryd.prog 107 = some 0 := by kernel_rfl
theorem by107 : byOf Tryd.prog 107 = some 0 := by kernel_rfl
theorem zero107 : zeroOf Tryd.prog 107 = some [] := by kernel_rfl
theorem row107 : isRowT Tryd.prog 107 = some true := by kernel_rfl
theorem arr107 : arrT Tryd.prog 107 = some (0, 16) := by kernel_rfl
theorem bld107 : buildT Tryd.prog 107 = some ([], .inr 1) := by kernel_rfl
theorem sz108 : szOf Tryd.prog 108 = some 0 := by kernel_rfl
theorem by108 : byOf Tryd.prog 108 = some 0 := by kernel_rfl
theorem zero108 : zeroOf Tryd.prog 108 = some [] := by kernel_rfl
theorem row108 : isRowT Tryd.prog 108 = some true := by kernel_rfl
theorem fld108_0 : fldOf Tryd.prog 108 0 = some (0, 107) := by kernel_rfl
theorem bld108 : buildT Tryd.prog 108 = some ([], .inl [(0, 0)]) := by kernel_rfl
theorem sz109 : szOf Tryd.prog 109 = some 0 := by kernel_rfl
theorem by109 : byOf Tryd.prog 109 = some 0 := by kernel_rfl
theorem zero109 : zeroOf Tryd.prog 109 = some [] := by kernel_rfl
theorem row109 : isRowT Tryd.prog 109 = some true := by kernel_rfl
theorem fld109_0 : fldOf Tryd.prog 109 0 = some (0, 107) := by kernel_rfl
theorem bld109 : buildT Tryd.prog 109 = some ([], .inl [(0, 0)]) := by kernel_rfl
theorem sz110 : szOf Tryd.prog 110 = some 1 := by kernel_rfl
theorem by110 : byOf Tryd.prog 110 = some 1 := by kernel_rfl
theorem zero110 : zeroOf Tryd.prog 110 = some [.u8 0#8] := by kernel_rfl
theorem row110 : isRowT Tryd.prog 110 = some false := by kernel_rfl
theorem sz111 : szOf Tryd.prog 111 = some 1 := by kernel_rfl
theorem by111 : byOf Tryd.prog 111 = some 1 := by kernel_rfl
theorem zero111 : zeroOf Tryd.prog 111 = some [.u8 0#8] := by kernel_rfl
theorem row111 : isRowT Tryd.prog 111 = some false := by kernel_rfl
theorem sz112 : szOf Tryd.prog 112 = some 1 := by kernel_rfl
theorem by112 : byOf Tryd.prog 112 = some 8 := by kernel_rfl
theorem zero112 : zeroOf Tryd.prog 112 = some [.nilFn] := by kernel_rfl
theorem row112 : isRowT Tryd.prog 112 = some false := by kernel_rfl
theorem sz113 : szOf Tryd.prog 113 = some 1 := by kernel_rfl
theorem by113 : byOf Tryd.prog 113 = some 4 := by kernel_rfl
theorem zero113 : zeroOf Tryd.prog 113 = some [.i32 0] := by kernel_rfl
theorem row113 : isRowT Tryd.prog 113 = some false := by kernel_rfl
theorem sz114 : szOf Tryd.prog 114 = some 1 := by kernel_rfl
theorem by114 : byOf Tryd.prog 114 = some 4 := by kernel_rfl
theorem zero114 : zeroOf Tryd.prog 114 = some [.i32 0] := by kernel_rfl
theorem row114 : isRowT Tryd.prog 114 = some false := by kernel_rfl
theorem sz115 : szOf Tryd.prog 115 = some 11 := by kernel_rfl
theorem by115 : byOf Tryd.prog 115 = some 48 := by kernel_rfl
theorem zero115 : zeroOf Tryd.prog 115 = some [.u64 0#64, .u64 0#64, .u32 0#32, .u8 0#8, .u8 0#8, .u8 0#8, .u8 0#8, .nilFn, .nilPtr, .i32 0, .i32 0] := by kernel_rfl
theorem row115 : isRowT Tryd.prog 115 = some true := by kernel_rfl
theorem fld115_0 : fldOf Tryd.prog 115 0 = some (0, 12) := by kernel_rfl
theorem fld115_1 : fldOf Tryd.prog 115 1 = some (1, 12) := by kernel_rfl
theorem fld115_2 : fldOf Tryd.prog 115 2 = some (2, 29) := by kernel_rfl
theorem fld115_3 : fldOf Tryd.prog 115 3 = some (3, 110) := by kernel_rfl
theorem fld115_4 : fldOf Tryd.prog 115 4 = some (4, 5) := by kernel_rfl
theorem fld115_5 : fldOf Tryd.prog 115 5 = some (5, 5) := by kernel_rfl
theorem fld115_6 : fldOf Tryd.prog 115 6 = some (6, 111) := by kernel_rfl
theorem fld115_7 : fldOf Tryd.prog 115 7 = some (7, 112) := by kernel_rfl
theorem fld115_8 : fldOf Tryd.prog 115 8 = some (8, 79) := by kernel_rfl
theorem fld115_9 : fldOf Tryd.prog 115 9 = some (9, 113) := by kernel_rfl
theorem fld115_10 : fldOf Tryd.prog 115 10 = some (10, 114) := by kernel_rfl
theorem bld115 : buildT Tryd.prog 115 = some ([.u64 0#64, .u64 0#64, .u32 0#32, .u8 0#8, .u8 0#8, .u8 0#8, .u8 0#8, .nilFn, .nilPtr, .i32 0, .i32 0], .inl [(0, 1), (1, 1), (2, 1), (3, 1), (4, 1), (5, 1), (6, 1), (7, 1), (8, 1), (9, 1), (10, 1)]) := by kernel_rfl
theorem sz116 : szOf Tryd.prog 116 = some 11 := by kernel_rfl
theorem by116 : byOf Tryd.prog 116 = some 48 := by kernel_rfl
theorem zero116 : zeroOf Tryd.prog 116 = some [.u64 0#64, .u64 0#64, .u32 0#32, .u8 0#8, .u8 0#8, .u8 0#8, .u8 0#8, .nilFn, .nilPtr, .i32 0, .i32 0] := by kernel_rfl
theorem row116 : isRowT Tryd.prog 116 = some true := by kernel_rfl
theorem fld116_0 : fldOf Tryd.prog 116 0 = some (0, 12) := by kernel_rfl
theorem fld116_1 : fldOf Tryd.prog 116 1 = some (1, 12) := by kernel_rfl
theorem fld116_2 : fldOf Tryd.prog 116 2 = some (2, 29) := by kernel_rfl
theorem fld116_3 : fldOf Tryd.prog 116 3 = some (3, 110) := by kernel_rfl
theorem fld116_4 : fldOf Tryd.prog 116 4 = some (4, 5) := by kernel_rfl
theorem fld116_5 : fldOf Tryd.prog 116 5 = some (5, 5) := by kernel_rfl
theorem fld116_6 : fldOf Tryd.prog 116 6 = some (6, 111) := by kernel_rfl
theorem fld116_7 : fldOf Tryd.prog 116 7 = some (7, 112) := by kernel_rfl
theorem fld116_8 : fldOf Tryd.prog 116 8 = some (8, 79) := by kernel_rfl
theorem fld116_9 : fldOf Tryd.prog 116 9 = some (9, 113) := by kernel_rfl
theorem fld116_10 : fldOf Tryd.prog 116 10 = some (10, 114) := by kernel_rfl
theorem bld116 : buildT Tryd.prog 116 = some ([.u64 0#64, .u64 0#64, .u32 0#32, .u8 0#8, .u8 0#8, .u8 0#8, .u8 0#8, .nilFn, .nilPtr, .i32 0, .i32 0], .inl [(0, 1), (1, 1), (2, 1), (3, 1), (4, 1), (5, 1), (6, 1), (7, 1), (8, 1), (9, 1), (10, 1)]) := by kernel_rfl
theorem agt54 : aggTypes Tryd.prog 54 = some [2, 2, 2, 2, 2, 2, 2, 2, 2, 2, 2, 2, 2, 2, 2, 2] := by kernel_rfl
theorem agt55 : aggTypes Tryd.prog 55 = some [2, 2, 2, 2, 2, 2, 2, 2, 2, 2, 2, 2, 2, 2, 2, 2] := by kernel_rfl
theorem agt68 : aggTypes Tryd.prog 68 = some [67, 67, 67, 67, 67] := by kernel_rfl
theorem agt69 : aggTypes Tryd.prog 69 = some [67, 67, 67, 67, 67] := by kernel_rfl
theorem agt82 : aggTypes Tryd.prog 82 = some [2, 2, 2, 2, 2, 2, 2, 2, 2, 2, 2, 2, 2, 2, 2, 2, 2, 2, 2, 2, 2, 2, 2, 2, 2, 2, 2, 2, 2, 2, 2, 2] := by kernel_rfl
theorem agt85 : aggTypes Tryd.prog 85 = some [67, 67, 67, 67] := by kernel_rfl
theorem agt87 : aggTypes Tryd.prog 87 = some [67, 67] := by kernel_rfl
theorem agt88 : aggTypes Tryd.prog 88 = some [67, 67] := by kernel_rfl
theorem agt102 : aggTypes Tryd.prog 102 = some [5, 5] := by kernel_rfl
theorem agt103 : aggTypes Tryd.prog 103 = some [5, 5] := by kernel_rfl
attribute [go_sem] sz1 by1 zero1 row1 sz2 by2 zero2 row2 sz3 by3 zero3 row3
attribute [go_sem] sz4 by4 zero4 row4 sz5 by5 zero5 row5 sz6 by6 zero6 row6
attribute [go_sem] sz7 by7 zero7 row7 fld7_0 fld7_1 fld7_2 fld7_3 bld7 sz8 by8 zero8
attribute [go_sem] row8 fld8_0 fld8_1 fld8_2 fld8_3 bld8 sz9 by9 zero9 row9 sz10 by10
attribute [go_sem] zero10 row10 sz11 by11 zero11 row11 sz12 by12 zero12 row12 sz13 by13
attribute [go_sem] zero13 row13 fld13_0 fld13_1 bld13 sz14 by14 zero14 row14 fld14_0 fld14_1 bld14
attribute [go_sem] sz15 by15 zero15 row15 sz16 by16 zero16 row16 sz17 by17 zero17 row17
attribute [go_sem] sz18 by18 zero18 row18 fld18_0 bld18 sz19 by19 zero19 row19 fld19_0 bld19
attribute [go_sem] sz20 by20 zero20 row20 sz21 by21 zero21 row21 sz22 by22 zero22 row22
attribute [go_sem] sz24 by24 zero24 row24 sz25 by25 zero25 row25 sz26 by26 zero26 row26
attribute [go_sem] sz27 by27 zero27 row27 sz28 by28 zero28 row28 slc28 sz29 by29 zero29
attribute [go_sem] row29 sz30 by30 zero30 row30 sz31 by31 zero31 row31 sz32 by32 zero32
attribute [go_sem] row32 sz33 by33 zero33 row33 sz34 by34 zero34 row34 sz35 by35 zero35
attribute [go_sem] row35 sz36 by36 zero36 row36 arr36 bld36 sz37 by37 zero37 row37 arr37
attribute [go_sem] bld37 sz39 by39 zero39 row39 sz40 by40 zero40 row40 sz41 by41 zero41
attribute [go_sem] row41 sz43 by43 zero43 row43 sz44 by44 zero44 row44 sz45 by45 zero45
attribute [go_sem] row45 fld45_0 fld45_1 bld45 sz46 by46 zero46 row46 fld46_0 fld46_1 bld46 sz47
attribute [go_sem] by47 zero47 row47 sz48 by48 zero48 row48 sz49 by49 zero49 row49 sz51
attribute [go_sem] by51 zero51 row51 sz52 by52 zero52 row52 sz53 by53 zero53 row53 sz54
attribute [go_sem] by54 zero54 row54 arr54 bld54 sz55 by55 zero55 row55 arr55 bld55 sz56
attribute [go_sem] by56 zero56 row56 fld56_0 fld56_1 bld56 sz57 by57 zero57 row57 fld57_0 fld57_1
attribute [go_sem] bld57 sz59 by59 zero59 row59 sz60 by60 zero60 row60 sz61 by61 zero61
attribute [go_sem] row61 sz62 by62 zero62 row62 sz63 by63 zero63 row63 sz65 by65 zero65
attribute [go_sem] row65 sz66 by66 zero66 row66 sz67 by67 zero67 row67 sz68 by68 zero68
attribute [go_sem] row68 arr68 bld68 sz69 by69 zero69 row69 arr69 bld69 sz71 by71 zero71
attribute [go_sem] row71 sz72 by72 zero72 row72 sz73 by73 zero73 row73 sz74 by74 zero74
attribute [go_sem] row74 sz76 by76 zero76 row76 sz78 by78 zero78 row78 sz79 by79 zero79
attribute [go_sem] row79 sz80 by80 zero80 row80 sz81 by81 zero81 row81 sz82 by82 zero82
attribute [go_sem] row82 arr82 bld82 sz83 by83 zero83 row83 sz84 by84 zero84 row84 sz85
attribute [go_sem] by85 zero85 row85 arr85 bld85 sz86 by86 zero86 row86 sz87 by87 zero87
attribute [go_sem] row87 fld87_0 fld87_1 bld87 sz88 by88 zero88 row88 fld88_0 fld88_1 bld88 sz89
attribute [go_sem] by89 zero89 row89 arr89 bld89 sz90 by90 zero90 row90 sz91 by91 zero91
attribute [go_sem] row91 sz92 by92 zero92 row92 slc92 sz93 by93 zero93 row93 sz94 by94
attribute [go_sem] zero94 row94 sz95 by95 zero95 row95 sz96 by96 zero96 row96 sz97 by97
attribute [go_sem] zero97 row97 sz98 by98 zero98 row98 sz99 by99 zero99 row99 sz100 by100
attribute [go_sem] zero100 row100 sz101 by101 zero101 row101 arr101 bld101 sz102 by102 zero102 row102
attribute [go_sem] fld102_0 fld102_1 bld102 sz103 by103 zero103 row103 fld103_0 fld103_1 bld103 sz104 by104
attribute [go_sem] zero104 row104 arr104 bld104 sz105 by105 zero105 row105 fld105_0 fld105_1 fld105_2 fld105_3
attribute [go_sem] bld105 sz106 by106 zero106 row106 fld106_0 fld106_1 fld106_2 fld106_3 bld106 sz107 by107
attribute [go_sem] zero107 row107 arr107 bld107 sz108 by108 zero108 row108 fld108_0 bld108 sz109 by109
attribute [go_sem] zero109 row109 fld109_0 bld109 sz110 by110 zero110 row110 sz111 by111 zero111 row111
attribute [go_sem] sz112 by112 zero112 row112 sz113 by113 zero113 row113 sz114 by114 zero114 row114
attribute [go_sem] sz115 by115 zero115 row115 fld115_0 fld115_1 fld115_2 fld115_3 fld115_4 fld115_5 fld115_6 fld115_7
attribute [go_sem] fld115_8 fld115_9 fld115_10 bld115 sz116 by116 zero116 row116 fld116_0 fld116_1 fld116_2 fld116_3
attribute [go_sem] fld116_4 fld116_5 fld116_6 fld116_7 fld116_8 fld116_9 fld116_10 bld116 agt54 agt55 agt68 agt69
attribute [go_sem] agt82 agt85 agt87 agt88 agt102 agt103
attribute [go_sem] Tryd.underlying0 Tryd.underlying1 Tryd.underlying2 Tryd.underlying3 Tryd.underlying4 Tryd.underlying5 Tryd.underlying6 Tryd.underlying7 Tryd.underlying8 Tryd.underlying9
attribute [go_sem] Tryd.underlying10 Tryd.underlying11 Tryd.underlying12 Tryd.underlying13 Tryd.underlying14 Tryd.underlying15 Tryd.underlying16 Tryd.underlying17 Tryd.underlying18 Tryd.underlying19
attribute [go_sem] Tryd.underlying20 Tryd.underlying21 Tryd.underlying22 Tryd.underlying23 Tryd.underlying24 Tryd.underlying25 Tryd.underlying26 Tryd.underlying27 Tryd.underlying28 Tryd.underlying29
attribute [go_sem] Tryd.underlying30 Tryd.underlying31 Tryd.underlying32 Tryd.underlying33 Tryd.underlying34 Tryd.underlying35 Tryd.underlying36 Tryd.underlying37 Tryd.underlying38 Tryd.underlying39
attribute [go_sem] Tryd.underlying40 Tryd.underlying41 Tryd.underlying42 Tryd.underlying43 Tryd.underlying44 Tryd.underlying45 Tryd.underlying46 Tryd.underlying47 Tryd.underlying48 Tryd.underlying49
attribute [go_sem] Tryd.underlying50 Tryd.underlying51 Tryd.underlying52 Tryd.underlying53 Tryd.underlying54 Tryd.underlying55 Tryd.underlying56 Tryd.underlying57 Tryd.underlying58 Tryd.underlying59
attribute [go_sem] Tryd.underlying60 Tryd.underlying61 Tryd.underlying62 Tryd.underlying63 Tryd.underlying64 Tryd.underlying65 Tryd.underlying66 Tryd.underlying67 Tryd.underlying68 Tryd.underlying69
attribute [go_sem] Tryd.underlying70 Tryd.underlying71 Tryd.underlying72 Tryd.underlying73 Tryd.underlying74 Tryd.underlying75 Tryd.underlying76 Tryd.underlying77 Tryd.underlying78 Tryd.underlying79
attribute [go_sem] Tryd.underlying80 Tryd.underlying81 Tryd.underlying82 Tryd.underlying83 Tryd.underlying84 Tryd.underlying85 Tryd.underlying86 Tryd.underlying87 Tryd.underlying88 Tryd.underlying89
attribute [go_sem] Tryd.underlying90 Tryd.underlying91 Tryd.underlying92 Tryd.underlying93 Tryd.underlying94 Tryd.underlying95 Tryd.underlying96 Tryd.underlying97 Tryd.underlying98 Tryd.underlying99
attribute [go_sem] Tryd.underlying100 Tryd.underlying101 Tryd.underlying102 Tryd.underlying103 Tryd.underlying104 Tryd.underlying105 Tryd.underlying106 Tryd.underlying107 Tryd.underlying108 Tryd.underlying109
attribute [go_sem] Tryd.underlying110 Tryd.underlying111 Tryd.underlying112 Tryd.underlying113 Tryd.underlying114 Tryd.underlying115 Tryd.underlying116
attribute [go_sem] Tryd.results3 Tryd.ntmps3 Tryd.results4 Tryd.ntmps4 Tryd.results5 Tryd.ntmps5 Tryd.results6 Tryd.ntmps6 Tryd.results7 Tryd.ntmps7 Tryd.results8 Tryd.ntmps8 Tryd.results9 Tryd.ntmps9 Tryd.results10 Tryd.ntmps10 Tryd.results11 Tryd.ntmps11 Tryd.results12 Tryd.ntmps12
attribute [go_sem] Tryd.results13 Tryd.ntmps13 Tryd.results14 Tryd.ntmps14 Tryd.results15 Tryd.ntmps15 Tryd.results16 Tryd.ntmps16 Tryd.results17 Tryd.ntmps17 Tryd.results18 Tryd.ntmps18 Tryd.results19 Tryd.ntmps19 Tryd.results20 Tryd.ntmps20 Tryd.results21 Tryd.ntmps21 Tryd.results22 Tryd.ntmps22
attribute [go_sem] Tryd.results23 Tryd.ntmps23 Tryd.results24 Tryd.ntmps24 Tryd.results25 Tryd.ntmps25 Tryd.results26 Tryd.ntmps26 Tryd.results27 Tryd.ntmps27 Tryd.results28 Tryd.ntmps28 Tryd.results29 Tryd.ntmps29 Tryd.results30 Tryd.ntmps30 Tryd.results31 Tryd.ntmps31 Tryd.results32 Tryd.ntmps32
attribute [go_sem] Tryd.results33 Tryd.ntmps33 Tryd.results34 Tryd.ntmps34 Tryd.results35 Tryd.ntmps35 Tryd.results36 Tryd.ntmps36 Tryd.results37 Tryd.ntmps37 Tryd.results38 Tryd.ntmps38 Tryd.results39 Tryd.ntmps39 Tryd.results40 Tryd.ntmps40 Tryd.results41 Tryd.ntmps41 Tryd.results42 Tryd.ntmps42
attribute [go_sem] Tryd.results43 Tryd.ntmps43 Tryd.results44 Tryd.ntmps44 Tryd.results45 Tryd.ntmps45 Tryd.results46 Tryd.ntmps46 Tryd.results47 Tryd.ntmps47 Tryd.results48 Tryd.ntmps48 Tryd.results49 Tryd.ntmps49 Tryd.results50 Tryd.ntmps50 Tryd.results51 Tryd.ntmps51 Tryd.results52 Tryd.ntmps52
attribute [go_sem] Tryd.results53 Tryd.ntmps53 Tryd.results54 Tryd.ntmps54 Tryd.results55 Tryd.ntmps55 Tryd.results56 Tryd.ntmps56 Tryd.results57 Tryd.ntmps57 Tryd.results58 Tryd.ntmps58 Tryd.results59 Tryd.ntmps59 Tryd.results60 Tryd.ntmps60 Tryd.results61 Tryd.ntmps61 Tryd.results62 Tryd.ntmps62
attribute [go_sem] Tryd.results63 Tryd.ntmps63 Tryd.results64 Tryd.ntmps64 Tryd.results65 Tryd.ntmps65 Tryd.results66 Tryd.ntmps66 Tryd.results67 Tryd.ntmps67 Tryd.results68 Tryd.ntmps68 Tryd.results69 Tryd.ntmps69 Tryd.results70 Tryd.ntmps70 Tryd.results71 Tryd.ntmps71 Tryd.results72 Tryd.ntmps72
attribute [go_sem] Tryd.results73 Tryd.ntmps73 Tryd.results74 Tryd.ntmps74 Tryd.results75 Tryd.ntmps75 Tryd.results76 Tryd.ntmps76 Tryd.results77 Tryd.ntmps77 Tryd.results78 Tryd.ntmps78 Tryd.results79 Tryd.ntmps79 Tryd.results80 Tryd.ntmps80 Tryd.results81 Tryd.ntmps81 Tryd.results82 Tryd.ntmps82
attribute [go_sem] Tryd.results83 Tryd.ntmps83 Tryd.results84 Tryd.ntmps84 Tryd.results85 Tryd.ntmps85 Tryd.results86 Tryd.ntmps86 Tryd.results87 Tryd.ntmps87 Tryd.results88 Tryd.ntmps88 Tryd.results89 Tryd.ntmps89 Tryd.results90 Tryd.ntmps90 Tryd.results91 Tryd.ntmps91 Tryd.results92 Tryd.ntmps92
attribute [go_sem] Tryd.results93 Tryd.ntmps93 Tryd.results94 Tryd.ntmps94 Tryd.results95 Tryd.ntmps95 Tryd.results96 Tryd.ntmps96 Tryd.results97 Tryd.ntmps97 Tryd.results98 Tryd.ntmps98 Tryd.results99 Tryd.ntmps99 Tryd.results100 Tryd.ntmps100 Tryd.results101 Tryd.ntmps101 Tryd.results102 Tryd.ntmps102
attribute [go_sem] Tryd.results103 Tryd.ntmps103
end Go.Vm.Ty
end
section
namespace Go.Vm
open Go.Proofs
set_option maxRecDepth 20000
theorem chr_spec (n : Int) : PureFn Tryd.prog 16 [.i64 n] (.str [BitVec.ofInt 8 n]) := by
  refine pure_of_vc (by kernel_rfl) (fn := Tryd.f16) (by kernel_rfl) Tryd.func16 rfl (by show 1 ≤ 7; decide) (by simp [lows, V.low]) (by simp [lows, V.low, lows_ite, low_ite]) (go_start ?_)
  simp only [go_sem, ↓reduceIte, Nat.reduceEqDiff, Nat.reduceLT, Nat.reduceLeDiff, Nat.reduceAdd, Nat.reduceSub, Nat.reduceMul, Nat.reduceMod, Nat.reduceDiv, Int.reduceLE, Int.reduceLT, Int.reduceToNat, Int.reduceAdd, Int.reduceSub, Int.reduceMul, Int.reduceEq, Int.reduceNeg, BitVec.reduceOfInt, BitVec.reduceToNat, BitVec.reduceEq, BitVec.reduceNe, BitVec.reduceLT, reduceCtorEq, List.forall_mem_nil, Tryd.ntmps16, Tryd.results16]
theorem byte_rem (n : BitVec 64) : BitVec.ofInt 8 (w64 ((n % 256#64).toNat : Int)) = n.setWidth 8 := by
  have h : (n % 256#64).toNat = n.toNat % 256 := by rw [BitVec.toNat_umod]; rfl
  rw [h, w64_of (by omega) (by omega), BitVec.ofInt_natCast]
  apply BitVec.eq_of_toNat_eq
  rw [BitVec.toNat_ofNat, BitVec.toNat_setWidth]
  omega
theorem byte_quo (n : BitVec 64) : BitVec.ofNat 64 (n.toNat / 256) = n / 256#64 := by
  apply BitVec.eq_of_toNat_eq
  have := n.isLt
  rw [BitVec.toNat_ofNat, BitVec.toNat_udiv]
  show (n.toNat / 256) % 2 ^ 64 = n.toNat / 256
  omega
theorem byte_mod (n : BitVec 64) : BitVec.ofNat 8 n.toNat = n.setWidth 8 := by
  apply BitVec.eq_of_toNat_eq
  rw [BitVec.toNat_ofNat, BitVec.toNat_setWidth]
end Go.Vm
end
section
namespace Go.Vm
open Go.Proofs
set_option maxRecDepth 20000
theorem le_snoc (s : List (BitVec 8)) (b : BitVec 8) : le (s ++ [b]) = le s + 256 ^ s.length * b.toNat := by
  induction s with
  | nil => simp [le]
  | cons a s ih => rw [List.cons_append, le, ih, le, List.length_cons, pow256, Nat.mul_add, Nat.mul_assoc]; omega
/-- A byte above a number. -/
theorem or_shl {n i : Nat} (h : n < 256 ^ i) (hi : i < 8) (b : BitVec 8) : BitVec.ofNat 64 n ||| b.setWidth 64 <<< (8 * i) = BitVec.ofNat 64 (n + 256 ^ i * b.toNat) := by
  have hp : (256 : Nat) ^ i = 2 ^ (8 * i) := by rw [Nat.pow_mul]
  have h8 : (256 : Nat) ^ i * 256 ≤ 256 ^ 8 := by
    have : (256 : Nat) ^ (i + 1) ≤ 256 ^ 8 := Nat.pow_le_pow_right (by omega) (by omega)
    rwa [Nat.pow_succ] at this
  have hb := b.isLt
  have hm : 256 ^ i * b.toNat ≤ 256 ^ i * 255 := Nat.mul_le_mul_left _ (by omega)
  have hpos : 0 < (256 : Nat) ^ i := Nat.pow_pos (by omega)
  have e8 : (256 : Nat) ^ 8 = 18446744073709551616 := by decide
  have e64 : (2 : Nat) ^ 64 = 18446744073709551616 := by decide
  apply BitVec.eq_of_toNat_eq
  rw [BitVec.toNat_or, BitVec.toNat_shiftLeft, BitVec.toNat_ofNat, BitVec.toNat_setWidth, BitVec.toNat_ofNat, Nat.shiftLeft_eq, ← hp]
  rw [Nat.mod_eq_of_lt (by omega : n < 2 ^ 64), Nat.mod_eq_of_lt (by omega : b.toNat < 2 ^ 64), Nat.mul_comm b.toNat, Nat.mod_eq_of_lt (by omega : 256 ^ i * b.toNat < 2 ^ 64), Nat.mod_eq_of_lt (by omega : n + 256 ^ i * b.toNat < 2 ^ 64)]
  rw [Nat.or_comm, hp, ← Nat.two_pow_add_eq_or_of_lt (by rw [← hp]; exact h), Nat.add_comm]
theorem Little_spec (s : List (BitVec 8)) (hs : s.length ≤ 4611686018427387904) : PureFn Tryd.prog 70 [.str s] (.u64 (BitVec.ofNat 64 (le (s.take 8)))) := by
  obtain ⟨N, hN, hN8, hNs, hif⟩ : ∃ N : Nat, (N = if 8 < s.length then 8 else s.length) ∧ N ≤ 8 ∧ N ≤ s.length ∧ (if (8 : Int) < (s.length : Int) then (8 : Int) else (s.length : Int)) = (N : Int) := by
    by_cases h : 8 < s.length
    · exact ⟨8, by rw [if_pos h], by omega, by omega, by rw [if_pos (by omega)]; rfl⟩
    · exact ⟨s.length, by rw [if_neg h], by omega, by omega, by rw [if_neg (by omega)]⟩
  have ht : s.take 8 = s.take N := by
    by_cases h : 8 < s.length
    · rw [if_pos h] at hN; rw [hN]
    · rw [if_neg h] at hN; rw [hN, List.take_of_length_le (by omega), List.take_of_length_le (by omega)]
  rw [ht]
  refine pure_of_vc (by kernel_rfl) (fn := Tryd.f70) (by kernel_rfl) Tryd.func70 rfl (by show 1 ≤ 22; decide) (by simp [lows, V.low]) (by simp [lows, V.low, lows_ite, low_ite]) (go_start ?_)
  simp only [go_sem, ↓reduceIte, Nat.reduceEqDiff, Nat.reduceLT, Nat.reduceLeDiff, Nat.reduceAdd, Nat.reduceSub, Nat.reduceMul, Nat.reduceMod, Nat.reduceDiv, Int.reduceLE, Int.reduceLT, Int.reduceToNat, Int.reduceAdd, Int.reduceSub, Int.reduceMul, Int.reduceEq, Int.reduceNeg, BitVec.reduceOfInt, BitVec.reduceToNat, BitVec.reduceEq, BitVec.reduceNe, BitVec.reduceLT, reduceCtorEq, List.forall_mem_nil, Tryd.ntmps70, Tryd.results70, hif]
  refine go_loop (fun j st => ∃ i : Nat, i + j = N ∧ st = ⟨[(0, .str s), (3, .u64 (BitVec.ofNat 64 (le (s.take i)))), (7, .i64 N), (8, .i64 i)], []⟩) ?_ ?_
  · exact start_mk (N) ⟨[(0, .str s), (3, .u64 (BitVec.ofNat 64 (le (s.take (0 : Nat))))), (7, .i64 N), (8, .i64 (0 : Nat))], []⟩ (by simp [St.get, lookS, le]) rfl (fun _ _ h => h) ⟨0, by omega, rfl⟩
  rintro j st ⟨i, hi, rfl⟩ _
  simp only [go_sem, ↓reduceIte, Nat.reduceEqDiff, Nat.reduceLT, Nat.reduceLeDiff, Nat.reduceAdd, Nat.reduceSub, Nat.reduceMul, Nat.reduceMod, Nat.reduceDiv, Int.reduceLE, Int.reduceLT, Int.reduceToNat, Int.reduceAdd, Int.reduceSub, Int.reduceMul, Int.reduceEq, Int.reduceNeg, BitVec.reduceOfInt, BitVec.reduceToNat, BitVec.reduceEq, BitVec.reduceNe, BitVec.reduceLT, reduceCtorEq, List.forall_mem_nil]
  by_cases h0 : i < N
  · have h0' : (i : Int) < (N : Int) := by omega
    have h1' : (i : Int) < (s.length : Int) := by omega
    have hi8 : i < s.length := by omega
    have hw8 : w64 (8 * (i : Int)) = ((8 * i : Nat) : Int) := by rw [w64_of (by omega) (by omega)]; omega
    have hl := le_lt (s.take i)
    have htl : (s.take i).length = i := by simp; omega
    rw [htl] at hl
    simp only [go_sem, ↓reduceIte, Nat.reduceEqDiff, Nat.reduceLT, Nat.reduceLeDiff, Nat.reduceAdd, Nat.reduceSub, Nat.reduceMul, Nat.reduceMod, Nat.reduceDiv, Int.reduceLE, Int.reduceLT, Int.reduceToNat, Int.reduceAdd, Int.reduceSub, Int.reduceMul, Int.reduceEq, Int.reduceNeg, BitVec.reduceOfInt, BitVec.reduceToNat, BitVec.reduceEq, BitVec.reduceNe, BitVec.reduceLT, reduceCtorEq, List.forall_mem_nil, h0', h1', hw8]
    refine ⟨by omega, by omega, ?_⟩
    refine again_mk (j - 1) ⟨[(0, .str s), (3, .u64 (BitVec.ofNat 64 (le (s.take (i + 1 : Nat))))), (7, .i64 N), (8, .i64 (i + 1 : Nat))], []⟩ (by omega) ?_ rfl (fun _ _ h => h) ⟨i + 1, by omega, rfl⟩
    have hw1 : w64 ((i : Int) + 1) = ((i + 1 : Nat) : Int) := by rw [w64_of (by omega) (by omega)]; omega
    simp [St.get, lookS, hw1, take_snoc hi8, le_snoc, htl]
    have := or_shl hl (by omega) (s.getD i 0)
    rw [List.getD_eq_getElem?_getD] at this
    exact this.symm
  · have h0' : ¬ (i : Int) < (N : Int) := by omega
    simp only [go_sem, ↓reduceIte, Nat.reduceEqDiff, Nat.reduceLT, Nat.reduceLeDiff, Nat.reduceAdd, Nat.reduceSub, Nat.reduceMul, Nat.reduceMod, Nat.reduceDiv, Int.reduceLE, Int.reduceLT, Int.reduceToNat, Int.reduceAdd, Int.reduceSub, Int.reduceMul, Int.reduceEq, Int.reduceNeg, BitVec.reduceOfInt, BitVec.reduceToNat, BitVec.reduceEq, BitVec.reduceNe, BitVec.reduceLT, reduceCtorEq, List.forall_mem_nil, h0']
    rw [show i = N by omega]
theorem byteAt (n : BitVec 64) (k : Nat) : (n >>> k).setWidth 8 = BitVec.ofNat 8 (n.toNat / 2 ^ k) := by
  apply BitVec.eq_of_toNat_eq
  rw [BitVec.toNat_setWidth, BitVec.toNat_ushiftRight, BitVec.toNat_ofNat, Nat.shiftRight_eq_div_pow]
theorem beB8 (n : BitVec 64) : beB n.toNat 8 = [(n >>> 56).setWidth 8, (n >>> 48).setWidth 8, (n >>> 40).setWidth 8, (n >>> 32).setWidth 8, (n >>> 24).setWidth 8, (n >>> 16).setWidth 8, (n >>> 8).setWidth 8, (n >>> 0).setWidth 8] := by
  simp only [byteAt, beB, Nat.div_div_eq_div_mul, List.nil_append, List.cons_append, Nat.reduceMul, Nat.reducePow, Nat.div_one]
theorem beB4 (n : BitVec 64) : beB n.toNat 4 = [(n >>> 24).setWidth 8, (n >>> 16).setWidth 8, (n >>> 8).setWidth 8, (n >>> 0).setWidth 8] := by
  simp only [byteAt, beB, Nat.div_div_eq_div_mul, List.nil_append, List.cons_append, Nat.reduceMul, Nat.reducePow, Nat.div_one]
theorem leB8 (n : BitVec 64) : leB n.toNat 8 = [(n >>> 0).setWidth 8, (n >>> 8).setWidth 8, (n >>> 16).setWidth 8, (n >>> 24).setWidth 8, (n >>> 32).setWidth 8, (n >>> 40).setWidth 8, (n >>> 48).setWidth 8, (n >>> 56).setWidth 8] := by
  simp only [byteAt, leB, Nat.div_div_eq_div_mul, Nat.reduceMul, Nat.reducePow, Nat.div_one]
theorem leB4 (n : BitVec 64) : leB n.toNat 4 = [(n >>> 0).setWidth 8, (n >>> 8).setWidth 8, (n >>> 16).setWidth 8, (n >>> 24).setWidth 8] := by
  simp only [byteAt, leB, Nat.div_div_eq_div_mul, Nat.reduceMul, Nat.reducePow, Nat.div_one]
theorem AppLittle4_nil (n : BitVec 64) : Spec0 Tryd.prog 74 [.nilSlice, .u64 n, .i64 4] [] (.slice 0 0 4 1) [some ⟨false, (leB n.toNat 4).map .u8⟩] := by
  rw [leB4]
  refine spec0_of_vc (by kernel_rfl) (fn := Tryd.f74) Tryd.func74 rfl (by show 3 ≤ 22; decide) (go_start ?_)
  simp only [go_sem, ↓reduceIte, Nat.reduceEqDiff, Nat.reduceLT, Nat.reduceLeDiff, Nat.reduceAdd, Nat.reduceSub, Nat.reduceMul, Nat.reduceMod, Nat.reduceDiv, Int.reduceLE, Int.reduceLT, Int.reduceToNat, Int.reduceAdd, Int.reduceSub, Int.reduceMul, Int.reduceEq, Int.reduceNeg, BitVec.reduceOfInt, BitVec.reduceToNat, BitVec.reduceEq, BitVec.reduceNe, BitVec.reduceLT, reduceCtorEq, List.forall_mem_nil, Tryd.ntmps74, Tryd.results74]
  refine go_unroll 5 ?_
  simp only [go_sem, ↓reduceIte, Nat.reduceEqDiff, Nat.reduceLT, Nat.reduceLeDiff, Nat.reduceAdd, Nat.reduceSub, Nat.reduceMul, Nat.reduceMod, Nat.reduceDiv, Int.reduceLE, Int.reduceLT, Int.reduceToNat, Int.reduceAdd, Int.reduceSub, Int.reduceMul, Int.reduceEq, Int.reduceNeg, BitVec.reduceOfInt, BitVec.reduceToNat, BitVec.reduceEq, BitVec.reduceNe, BitVec.reduceLT, reduceCtorEq, List.forall_mem_nil]
  exact Fin.ren [7] (by simp) (by simp) (by rfl) (by decide) (by simp [-List.map_map, -List.map_set]) (by simp [-List.map_map, -List.map_set])
theorem AppLittle4_some (bs : List (BitVec 8)) (n : BitVec 64) (hb : bs.length ≤ 140737488351232) : Spec0 Tryd.prog 74 [.slice 0 0 bs.length 1, .u64 n, .i64 4] [some ⟨false, bs.map .u8⟩] (.slice 1 0 (bs.length + 4) 1) [none, some ⟨false, (bs ++ leB n.toNat 4).map .u8⟩] := by
  rw [leB4]
  refine spec0_of_vc (by kernel_rfl) (fn := Tryd.f74) Tryd.func74 rfl (by show 3 ≤ 22; decide) (go_start ?_)
  simp only [go_sem, ↓reduceIte, Nat.reduceEqDiff, Nat.reduceLT, Nat.reduceLeDiff, Nat.reduceAdd, Nat.reduceSub, Nat.reduceMul, Nat.reduceMod, Nat.reduceDiv, Int.reduceLE, Int.reduceLT, Int.reduceToNat, Int.reduceAdd, Int.reduceSub, Int.reduceMul, Int.reduceEq, Int.reduceNeg, BitVec.reduceOfInt, BitVec.reduceToNat, BitVec.reduceEq, BitVec.reduceNe, BitVec.reduceLT, reduceCtorEq, List.forall_mem_nil, Tryd.ntmps74, Tryd.results74]
  refine go_unroll 5 ?_
  simp only [go_sem, ↓reduceIte, Nat.reduceEqDiff, Nat.reduceLT, Nat.reduceLeDiff, Nat.reduceAdd, Nat.reduceSub, Nat.reduceMul, Nat.reduceMod, Nat.reduceDiv, Int.reduceLE, Int.reduceLT, Int.reduceToNat, Int.reduceAdd, Int.reduceSub, Int.reduceMul, Int.reduceEq, Int.reduceNeg, BitVec.reduceOfInt, BitVec.reduceToNat, BitVec.reduceEq, BitVec.reduceNe, BitVec.reduceLT, reduceCtorEq, List.forall_mem_nil, List.take_of_length_le]
  refine ⟨by omega, by omega, by omega, by omega, ?_⟩
  exact Fin.ren [0, 8] (by simp) (by simp) (by rfl) (by decide) (by simp [-List.map_map, -List.map_set]) (by simp [-List.map_map, -List.map_set])
theorem AppLittle8_nil (n : BitVec 64) : Spec0 Tryd.prog 74 [.nilSlice, .u64 n, .i64 8] [] (.slice 0 0 8 1) [some ⟨false, (leB n.toNat 8).map .u8⟩] := by
  rw [leB8]
  refine spec0_of_vc (by kernel_rfl) (fn := Tryd.f74) Tryd.func74 rfl (by show 3 ≤ 22; decide) (go_start ?_)
  simp only [go_sem, ↓reduceIte, Nat.reduceEqDiff, Nat.reduceLT, Nat.reduceLeDiff, Nat.reduceAdd, Nat.reduceSub, Nat.reduceMul, Nat.reduceMod, Nat.reduceDiv, Int.reduceLE, Int.reduceLT, Int.reduceToNat, Int.reduceAdd, Int.reduceSub, Int.reduceMul, Int.reduceEq, Int.reduceNeg, BitVec.reduceOfInt, BitVec.reduceToNat, BitVec.reduceEq, BitVec.reduceNe, BitVec.reduceLT, reduceCtorEq, List.forall_mem_nil, Tryd.ntmps74, Tryd.results74]
  refine go_unroll 9 ?_
  simp only [go_sem, ↓reduceIte, Nat.reduceEqDiff, Nat.reduceLT, Nat.reduceLeDiff, Nat.reduceAdd, Nat.reduceSub, Nat.reduceMul, Nat.reduceMod, Nat.reduceDiv, Int.reduceLE, Int.reduceLT, Int.reduceToNat, Int.reduceAdd, Int.reduceSub, Int.reduceMul, Int.reduceEq, Int.reduceNeg, BitVec.reduceOfInt, BitVec.reduceToNat, BitVec.reduceEq, BitVec.reduceNe, BitVec.reduceLT, reduceCtorEq, List.forall_mem_nil]
  exact Fin.ren [15] (by simp) (by simp) (by rfl) (by decide) (by simp [-List.map_map, -List.map_set]) (by simp [-List.map_map, -List.map_set])
theorem AppLittle8_some (bs : List (BitVec 8)) (n : BitVec 64) (hb : bs.length ≤ 140737488351232) : Spec0 Tryd.prog 74 [.slice 0 0 bs.length 1, .u64 n, .i64 8] [some ⟨false, bs.map .u8⟩] (.slice 1 0 (bs.length + 8) 1) [none, some ⟨false, (bs ++ leB n.toNat 8).map .u8⟩] := by
  rw [leB8]
  refine spec0_of_vc (by kernel_rfl) (fn := Tryd.f74) Tryd.func74 rfl (by show 3 ≤ 22; decide) (go_start ?_)
  simp only [go_sem, ↓reduceIte, Nat.reduceEqDiff, Nat.reduceLT, Nat.reduceLeDiff, Nat.reduceAdd, Nat.reduceSub, Nat.reduceMul, Nat.reduceMod, Nat.reduceDiv, Int.reduceLE, Int.reduceLT, Int.reduceToNat, Int.reduceAdd, Int.reduceSub, Int.reduceMul, Int.reduceEq, Int.reduceNeg, BitVec.reduceOfInt, BitVec.reduceToNat, BitVec.reduceEq, BitVec.reduceNe, BitVec.reduceLT, reduceCtorEq, List.forall_mem_nil, Tryd.ntmps74, Tryd.results74]
  refine go_unroll 9 ?_
  simp only [go_sem, ↓reduceIte, Nat.reduceEqDiff, Nat.reduceLT, Nat.reduceLeDiff, Nat.reduceAdd, Nat.reduceSub, Nat.reduceMul, Nat.reduceMod, Nat.reduceDiv, Int.reduceLE, Int.reduceLT, Int.reduceToNat, Int.reduceAdd, Int.reduceSub, Int.reduceMul, Int.reduceEq, Int.reduceNeg, BitVec.reduceOfInt, BitVec.reduceToNat, BitVec.reduceEq, BitVec.reduceNe, BitVec.reduceLT, reduceCtorEq, List.forall_mem_nil, List.take_of_length_le]
  refine ⟨by omega, by omega, by omega, by omega, by omega, by omega, by omega, by omega, ?_⟩
  exact Fin.ren [0, 16] (by simp) (by simp) (by rfl) (by decide) (by simp [-List.map_map, -List.map_set]) (by simp [-List.map_map, -List.map_set])
end Go.Vm
end
section
namespace Go.Vm
open Go.Proofs
set_option maxRecDepth 20000
def trimL (c : BitVec 8) (s : List (BitVec 8)) : List (BitVec 8) := s.dropWhile (· == c)
def trimR (c : BitVec 8) (s : List (BitVec 8)) : List (BitVec 8) := (s.reverse.dropWhile (· == c)).reverse
theorem trimR_snoc (c y : BitVec 8) (r : List (BitVec 8)) : trimR c (r ++ [y]) = if y = c then trimR c r else r ++ [y] := by
  unfold trimR
  rw [List.reverse_append, List.reverse_singleton, List.singleton_append, List.dropWhile_cons]
  by_cases h : y = c
  · rw [if_pos h, if_pos (by simp [h])]
  · rw [if_neg h, if_neg (by simp [h]), List.reverse_cons, List.reverse_reverse]
theorem trimR_length (c : BitVec 8) (s : List (BitVec 8)) : (trimR c s).length ≤ s.length := by
  unfold trimR
  rw [List.length_reverse]
  have := (List.dropWhile_sublist (l := s.reverse) (· == c)).length_le
  rw [List.length_reverse] at this; exact this
theorem trimL_spec (s : List (BitVec 8)) (c : BitVec 8) : PureFn Tryd.prog 42 [.str s, .u8 c] (.str (trimL c s)) := by
  refine pure_of_vc (by kernel_rfl) (fn := Tryd.f42) (by kernel_rfl) Tryd.func42 rfl (by show 2 ≤ 17; decide) (by simp [lows, V.low]) (by simp [lows, V.low, lows_ite, low_ite]) (go_start ?_)
  simp only [go_sem, ↓reduceIte, Nat.reduceEqDiff, Nat.reduceLT, Nat.reduceLeDiff, Nat.reduceAdd, Nat.reduceSub, Nat.reduceMul, Nat.reduceMod, Nat.reduceDiv, Int.reduceLE, Int.reduceLT, Int.reduceToNat, Int.reduceAdd, Int.reduceSub, Int.reduceMul, Int.reduceEq, Int.reduceNeg, BitVec.reduceOfInt, BitVec.reduceToNat, BitVec.reduceEq, BitVec.reduceNe, BitVec.reduceLT, reduceCtorEq, List.forall_mem_nil, Tryd.ntmps42, Tryd.results42]
  refine go_loop (fun j st => ∃ x : List (BitVec 8), x.length = j ∧ trimL c x = trimL c s ∧ st = ⟨[(0, .str x), (1, .u8 c)], []⟩) ?_ ?_
  · exact start_mk s.length ⟨[(0, .str s), (1, .u8 c)], []⟩ (by simp [St.get, lookS]) rfl (fun _ _ h => h) ⟨s, rfl, rfl, rfl⟩
  rintro j st ⟨x, hx, he, rfl⟩ _
  cases x with
  | nil =>
    rw [← he, show trimL c [] = [] from rfl]
    simp only [go_sem, ↓reduceIte, Nat.reduceEqDiff, Nat.reduceLT, Nat.reduceLeDiff, Nat.reduceAdd, Nat.reduceSub, Nat.reduceMul, Nat.reduceMod, Nat.reduceDiv, Int.reduceLE, Int.reduceLT, Int.reduceToNat, Int.reduceAdd, Int.reduceSub, Int.reduceMul, Int.reduceEq, Int.reduceNeg, BitVec.reduceOfInt, BitVec.reduceToNat, BitVec.reduceEq, BitVec.reduceNe, BitVec.reduceLT, reduceCtorEq, List.forall_mem_nil]
  | cons y r =>
    have h0 : ((0 : Int) < ((r.length + 1 : Nat) : Int)) = True := eq_true (by omega)
    have h1 : (1 : Int) ≤ ((r.length + 1 : Nat) : Int) := by omega
    by_cases hy : y = c
    · have hc : trimL c (y :: r) = trimL c r := by unfold trimL; rw [List.dropWhile_cons, if_pos (by simp [hy])]
      have hy' : (y = c) = True := eq_true hy
      simp only [go_sem, ↓reduceIte, Nat.reduceEqDiff, Nat.reduceLT, Nat.reduceLeDiff, Nat.reduceAdd, Nat.reduceSub, Nat.reduceMul, Nat.reduceMod, Nat.reduceDiv, Int.reduceLE, Int.reduceLT, Int.reduceToNat, Int.reduceAdd, Int.reduceSub, Int.reduceMul, Int.reduceEq, Int.reduceNeg, BitVec.reduceOfInt, BitVec.reduceToNat, BitVec.reduceEq, BitVec.reduceNe, BitVec.reduceLT, reduceCtorEq, List.forall_mem_nil, h0, hy', h1]
      rw [List.length_cons] at hx
      exact again_mk (j - 1) ⟨[(0, .str r), (1, .u8 c)], []⟩ (by omega) (by simp [St.get, lookS]) rfl (fun _ _ h => h) ⟨r, by omega, hc ▸ he, rfl⟩
    · have hc : trimL c (y :: r) = y :: r := by unfold trimL; rw [List.dropWhile_cons, if_neg (by simp [hy])]
      rw [← he, hc]
      have hy' : (y = c) = False := eq_false hy
      simp only [go_sem, ↓reduceIte, Nat.reduceEqDiff, Nat.reduceLT, Nat.reduceLeDiff, Nat.reduceAdd, Nat.reduceSub, Nat.reduceMul, Nat.reduceMod, Nat.reduceDiv, Int.reduceLE, Int.reduceLT, Int.reduceToNat, Int.reduceAdd, Int.reduceSub, Int.reduceMul, Int.reduceEq, Int.reduceNeg, BitVec.reduceOfInt, BitVec.reduceToNat, BitVec.reduceEq, BitVec.reduceNe, BitVec.reduceLT, reduceCtorEq, List.forall_mem_nil, h0, hy', h1]
theorem trimR_spec (s : List (BitVec 8)) (c : BitVec 8) (hs : s.length ≤ 140737488355328) : PureFn Tryd.prog 22 [.str s, .u8 c] (.str (trimR c s)) := by
  refine pure_of_vc (by kernel_rfl) (fn := Tryd.f22) (by kernel_rfl) Tryd.func22 rfl (by show 2 ≤ 23; decide) (by simp [lows, V.low]) (by simp [lows, V.low, lows_ite, low_ite]) (go_start ?_)
  simp only [go_sem, ↓reduceIte, Nat.reduceEqDiff, Nat.reduceLT, Nat.reduceLeDiff, Nat.reduceAdd, Nat.reduceSub, Nat.reduceMul, Nat.reduceMod, Nat.reduceDiv, Int.reduceLE, Int.reduceLT, Int.reduceToNat, Int.reduceAdd, Int.reduceSub, Int.reduceMul, Int.reduceEq, Int.reduceNeg, BitVec.reduceOfInt, BitVec.reduceToNat, BitVec.reduceEq, BitVec.reduceNe, BitVec.reduceLT, reduceCtorEq, List.forall_mem_nil, Tryd.ntmps22, Tryd.results22]
  refine go_loop (fun j st => ∃ x : List (BitVec 8), x.length = j ∧ x.length ≤ s.length ∧ trimR c x = trimR c s ∧ st = ⟨[(0, .str x), (1, .u8 c)], []⟩) ?_ ?_
  · exact start_mk s.length ⟨[(0, .str s), (1, .u8 c)], []⟩ (by simp [St.get, lookS]) rfl (fun _ _ h => h) ⟨s, rfl, Nat.le_refl _, rfl, rfl⟩
  rintro j st ⟨x, hx, hxs, he, rfl⟩ _
  rcases List.eq_nil_or_concat x with rfl | ⟨r, y, rfl⟩
  · rw [← he, show trimR c [] = [] from rfl]
    simp only [go_sem, ↓reduceIte, Nat.reduceEqDiff, Nat.reduceLT, Nat.reduceLeDiff, Nat.reduceAdd, Nat.reduceSub, Nat.reduceMul, Nat.reduceMod, Nat.reduceDiv, Int.reduceLE, Int.reduceLT, Int.reduceToNat, Int.reduceAdd, Int.reduceSub, Int.reduceMul, Int.reduceEq, Int.reduceNeg, BitVec.reduceOfInt, BitVec.reduceToNat, BitVec.reduceEq, BitVec.reduceNe, BitVec.reduceLT, reduceCtorEq, List.forall_mem_nil]
  · rw [List.concat_eq_append] at *
    have hl : (r ++ [y]).length = r.length + 1 := by simp
    have h0 : ((0 : Int) < ((r.length + 1 : Nat) : Int)) = True := eq_true (by omega)
    have hw : w64 (((r.length + 1 : Nat) : Int) - 1) = (r.length : Int) := by rw [w64_of (by omega) (by omega)]; omega
    have hz : (0 : Int) ≤ (r.length : Int) := by omega
    have hlt : (r.length : Int) < ((r.length + 1 : Nat) : Int) := by omega
    have hle : (r.length : Int) ≤ ((r.length + 1 : Nat) : Int) := by omega
    have hg : (r ++ [y]).getD r.length 0 = y := by
      rw [List.getD_eq_getElem?_getD, List.getElem?_append_right (Nat.le_refl _), Nat.sub_self]; rfl
    have htk : (r ++ [y]).take r.length = r := List.take_left
    rw [trimR_snoc] at he
    by_cases hy : y = c
    · rw [if_pos hy] at he
      have hy' : (y = c) = True := eq_true hy
      generalize hx' : r ++ [y] = x at *
      simp only [go_sem, ↓reduceIte, Nat.reduceEqDiff, Nat.reduceLT, Nat.reduceLeDiff, Nat.reduceAdd, Nat.reduceSub, Nat.reduceMul, Nat.reduceMod, Nat.reduceDiv, Int.reduceLE, Int.reduceLT, Int.reduceToNat, Int.reduceAdd, Int.reduceSub, Int.reduceMul, Int.reduceEq, Int.reduceNeg, BitVec.reduceOfInt, BitVec.reduceToNat, BitVec.reduceEq, BitVec.reduceNe, BitVec.reduceLT, reduceCtorEq, List.forall_mem_nil, h0, hy', hl, hw, hz, hlt, hle, hg, htk]
      exact again_mk (j - 1) ⟨[(0, .str r), (1, .u8 c)], []⟩ (by omega) (by simp [St.get, lookS]) rfl (fun _ _ h => h) ⟨r, by omega, by omega, he, rfl⟩
    · rw [if_neg hy] at he
      rw [← he]
      have hy' : (y = c) = False := eq_false hy
      generalize hx' : r ++ [y] = x at *
      simp only [go_sem, ↓reduceIte, Nat.reduceEqDiff, Nat.reduceLT, Nat.reduceLeDiff, Nat.reduceAdd, Nat.reduceSub, Nat.reduceMul, Nat.reduceMod, Nat.reduceDiv, Int.reduceLE, Int.reduceLT, Int.reduceToNat, Int.reduceAdd, Int.reduceSub, Int.reduceMul, Int.reduceEq, Int.reduceNeg, BitVec.reduceOfInt, BitVec.reduceToNat, BitVec.reduceEq, BitVec.reduceNe, BitVec.reduceLT, reduceCtorEq, List.forall_mem_nil, h0, hy', hl, hw, hz, hlt, hle, hg, htk]
theorem Trim_spec (s : List (BitVec 8)) (hs : s.length ≤ 140737488355328) : PureFn Tryd.prog 21 [.str s, .str [0#8]] (.str (trimL 0#8 (trimR 0#8 s))) := by
  by_cases h : s = []
  · subst h
    rw [show trimL 0#8 (trimR 0#8 []) = [] from rfl]
    refine pure_of_vc (by kernel_rfl) (fn := Tryd.f21) (by kernel_rfl) Tryd.func21 rfl (by show 2 ≤ 43; decide) (by simp [lows, V.low]) (by simp [lows, V.low, lows_ite, low_ite]) (go_start ?_)
    simp only [go_sem, ↓reduceIte, Nat.reduceEqDiff, Nat.reduceLT, Nat.reduceLeDiff, Nat.reduceAdd, Nat.reduceSub, Nat.reduceMul, Nat.reduceMod, Nat.reduceDiv, Int.reduceLE, Int.reduceLT, Int.reduceToNat, Int.reduceAdd, Int.reduceSub, Int.reduceMul, Int.reduceEq, Int.reduceNeg, BitVec.reduceOfInt, BitVec.reduceToNat, BitVec.reduceEq, BitVec.reduceNe, BitVec.reduceLT, reduceCtorEq, List.forall_mem_nil, Tryd.ntmps21, Tryd.results21]
  · have h' := eq_false h
    refine pure_of_vc (by kernel_rfl) (fn := Tryd.f21) (by kernel_rfl) Tryd.func21 rfl (by show 2 ≤ 43; decide) (by simp [lows, V.low]) (by simp [lows, V.low, lows_ite, low_ite]) (go_start ?_)
    simp only [go_sem, ↓reduceIte, Nat.reduceEqDiff, Nat.reduceLT, Nat.reduceLeDiff, Nat.reduceAdd, Nat.reduceSub, Nat.reduceMul, Nat.reduceMod, Nat.reduceDiv, Int.reduceLE, Int.reduceLT, Int.reduceToNat, Int.reduceAdd, Int.reduceSub, Int.reduceMul, Int.reduceEq, Int.reduceNeg, BitVec.reduceOfInt, BitVec.reduceToNat, BitVec.reduceEq, BitVec.reduceNe, BitVec.reduceLT, reduceCtorEq, List.forall_mem_nil, Tryd.ntmps21, Tryd.results21, h']
    refine goCallD_pure0 (trimR_spec s 0#8 hs) ?_
    simp only [go_sem, ↓reduceIte, Nat.reduceEqDiff, Nat.reduceLT, Nat.reduceLeDiff, Nat.reduceAdd, Nat.reduceSub, Nat.reduceMul, Nat.reduceMod, Nat.reduceDiv, Int.reduceLE, Int.reduceLT, Int.reduceToNat, Int.reduceAdd, Int.reduceSub, Int.reduceMul, Int.reduceEq, Int.reduceNeg, BitVec.reduceOfInt, BitVec.reduceToNat, BitVec.reduceEq, BitVec.reduceNe, BitVec.reduceLT, reduceCtorEq, List.forall_mem_nil]
    refine goCallD_pure0 (trimL_spec (trimR 0#8 s) 0#8) ?_
    simp only [go_sem, ↓reduceIte, Nat.reduceEqDiff, Nat.reduceLT, Nat.reduceLeDiff, Nat.reduceAdd, Nat.reduceSub, Nat.reduceMul, Nat.reduceMod, Nat.reduceDiv, Int.reduceLE, Int.reduceLT, Int.reduceToNat, Int.reduceAdd, Int.reduceSub, Int.reduceMul, Int.reduceEq, Int.reduceNeg, BitVec.reduceOfInt, BitVec.reduceToNat, BitVec.reduceEq, BitVec.reduceNe, BitVec.reduceLT, reduceCtorEq, List.forall_mem_nil]
    kernel_rfl
theorem drop_nil_iff (c : BitVec 8) (s : List (BitVec 8)) : s.dropWhile (· == c) = [] ↔ ∀ x ∈ s, x = c := by
  induction s with
  | nil => simp
  | cons y r ih =>
    rw [List.dropWhile_cons]
    by_cases h : y = c
    · rw [if_pos (by simp [h]), ih]
      simp [h]
    · rw [if_neg (by simp [h])]
      simp [h]
theorem allB_drop (c : BitVec 8) (s : List (BitVec 8)) : (∀ x ∈ s.dropWhile (· == c), x = c) ↔ ∀ x ∈ s, x = c := by
  induction s with
  | nil => simp
  | cons y r ih =>
    rw [List.dropWhile_cons]
    by_cases h : y = c
    · rw [if_pos (by simp [h]), ih]
      simp [h]
    · rw [if_neg (by simp [h])]
theorem trim_nil (c : BitVec 8) (s : List (BitVec 8)) : trimL c (trimR c s) = [] ↔ s = List.replicate s.length c := by
  unfold trimL
  rw [drop_nil_iff]
  have h1 : (∀ x ∈ trimR c s, x = c) ↔ ∀ x ∈ s, x = c := by
    unfold trimR
    simp only [List.mem_reverse]
    rw [allB_drop]
    simp only [List.mem_reverse]
  rw [h1, List.eq_replicate_iff]
  simp
end Go.Vm
end
