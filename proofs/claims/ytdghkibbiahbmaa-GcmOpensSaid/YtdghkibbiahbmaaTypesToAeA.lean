/- A part of the proof: laws of a small machine of values, or what one function answers, proved against the model; no conditions beyond those in each theorem. -/
import Derived.Test.YtdghkibbiahbmaaProg
import Derived.Test.YtdghkibbiahbmaaVmTToVmW
import Derived.Test.YtdghkibbiahbmaaVmZToVmP3
set_option linter.unusedVariables false
set_option linter.unusedSimpArgs false
set_option linter.unusedSectionVars false
section
namespace Go.Vm.Ty
open Go.Proofs
set_option maxRecDepth 100000
theorem sz1 : szOf Try.prog 1 = some 1 := by kernel_rfl
theorem by1 : byOf Try.prog 1 = some 8 := by kernel_rfl
theorem zero1 : zeroOf Try.prog 1 = some [.nilFn] := by kernel_rfl
theorem row1 : isRowT Try.prog 1 = some false := by kernel_rfl
theorem sz2 : szOf Try.prog 2 = some 1 := by kernel_rfl
theorem by2 : byOf Try.prog 2 = some 8 := by kernel_rfl
theorem zero2 : zeroOf Try.prog 2 = some [.i64 0] := by kernel_rfl
theorem row2 : isRowT Try.prog 2 = some false := by kernel_rfl
theorem sz3 : szOf Try.prog 3 = some 1 := by kernel_rfl
theorem by3 : byOf Try.prog 3 = some 8 := by kernel_rfl
theorem zero3 : zeroOf Try.prog 3 = some [.i64 0] := by kernel_rfl
theorem row3 : isRowT Try.prog 3 = some false := by kernel_rfl
theorem sz4 : szOf Try.prog 4 = some 1 := by kernel_rfl
theorem by4 : byOf Try.prog 4 = some 1 := by kernel_rfl
theorem zero4 : zeroOf Try.prog 4 = some [.bool false] := by kernel_rfl
theorem row4 : isRowT Try.prog 4 = some false := by kernel_rfl
theorem sz5 : szOf Try.prog 5 = some 1 := by kernel_rfl
theorem by5 : byOf Try.prog 5 = some 1 := by kernel_rfl
theorem zero5 : zeroOf Try.prog 5 = some [.u8 0#8] := by kernel_rfl
theorem row5 : isRowT Try.prog 5 = some false := by kernel_rfl
theorem sz6 : szOf Try.prog 6 = some 1 := by kernel_rfl
theorem by6 : byOf Try.prog 6 = some 1 := by kernel_rfl
theorem zero6 : zeroOf Try.prog 6 = some [.u8 0#8] := by kernel_rfl
theorem row6 : isRowT Try.prog 6 = some false := by kernel_rfl
theorem sz7 : szOf Try.prog 7 = some 4 := by kernel_rfl
theorem by7 : byOf Try.prog 7 = some 24 := by kernel_rfl
theorem zero7 : zeroOf Try.prog 7 = some [.i64 0, .i64 0, .bool false, .u8 0#8] := by kernel_rfl
theorem row7 : isRowT Try.prog 7 = some true := by kernel_rfl
theorem fld7_0 : fldOf Try.prog 7 0 = some (0, 2) := by kernel_rfl
theorem fld7_1 : fldOf Try.prog 7 1 = some (1, 3) := by kernel_rfl
theorem fld7_2 : fldOf Try.prog 7 2 = some (2, 4) := by kernel_rfl
theorem fld7_3 : fldOf Try.prog 7 3 = some (3, 6) := by kernel_rfl
theorem bld7 : buildT Try.prog 7 = some ([.i64 0, .i64 0, .bool false, .u8 0#8], .inl [(0, 1), (1, 1), (2, 1), (3, 1)]) := by kernel_rfl
theorem sz8 : szOf Try.prog 8 = some 4 := by kernel_rfl
theorem by8 : byOf Try.prog 8 = some 24 := by kernel_rfl
theorem zero8 : zeroOf Try.prog 8 = some [.i64 0, .i64 0, .bool false, .u8 0#8] := by kernel_rfl
theorem row8 : isRowT Try.prog 8 = some true := by kernel_rfl
theorem fld8_0 : fldOf Try.prog 8 0 = some (0, 2) := by kernel_rfl
theorem fld8_1 : fldOf Try.prog 8 1 = some (1, 3) := by kernel_rfl
theorem fld8_2 : fldOf Try.prog 8 2 = some (2, 4) := by kernel_rfl
theorem fld8_3 : fldOf Try.prog 8 3 = some (3, 6) := by kernel_rfl
theorem bld8 : buildT Try.prog 8 = some ([.i64 0, .i64 0, .bool false, .u8 0#8], .inl [(0, 1), (1, 1), (2, 1), (3, 1)]) := by kernel_rfl
theorem sz9 : szOf Try.prog 9 = some 1 := by kernel_rfl
theorem by9 : byOf Try.prog 9 = some 16 := by kernel_rfl
theorem zero9 : zeroOf Try.prog 9 = some [.str []] := by kernel_rfl
theorem row9 : isRowT Try.prog 9 = some false := by kernel_rfl
theorem sz10 : szOf Try.prog 10 = some 1 := by kernel_rfl
theorem by10 : byOf Try.prog 10 = some 16 := by kernel_rfl
theorem zero10 : zeroOf Try.prog 10 = some [.str []] := by kernel_rfl
theorem row10 : isRowT Try.prog 10 = some false := by kernel_rfl
theorem sz11 : szOf Try.prog 11 = some 1 := by kernel_rfl
theorem by11 : byOf Try.prog 11 = some 16 := by kernel_rfl
theorem zero11 : zeroOf Try.prog 11 = some [.str []] := by kernel_rfl
theorem row11 : isRowT Try.prog 11 = some false := by kernel_rfl
theorem sz12 : szOf Try.prog 12 = some 1 := by kernel_rfl
theorem by12 : byOf Try.prog 12 = some 8 := by kernel_rfl
theorem zero12 : zeroOf Try.prog 12 = some [.u64 0#64] := by kernel_rfl
theorem row12 : isRowT Try.prog 12 = some false := by kernel_rfl
theorem sz13 : szOf Try.prog 13 = some 2 := by kernel_rfl
theorem by13 : byOf Try.prog 13 = some 24 := by kernel_rfl
theorem zero13 : zeroOf Try.prog 13 = some [.str [], .u64 0#64] := by kernel_rfl
theorem row13 : isRowT Try.prog 13 = some true := by kernel_rfl
theorem fld13_0 : fldOf Try.prog 13 0 = some (0, 9) := by kernel_rfl
theorem fld13_1 : fldOf Try.prog 13 1 = some (1, 12) := by kernel_rfl
theorem bld13 : buildT Try.prog 13 = some ([.str [], .u64 0#64], .inl [(0, 1), (1, 1)]) := by kernel_rfl
theorem sz14 : szOf Try.prog 14 = some 2 := by kernel_rfl
theorem by14 : byOf Try.prog 14 = some 24 := by kernel_rfl
theorem zero14 : zeroOf Try.prog 14 = some [.str [], .u64 0#64] := by kernel_rfl
theorem row14 : isRowT Try.prog 14 = some true := by kernel_rfl
theorem fld14_0 : fldOf Try.prog 14 0 = some (0, 9) := by kernel_rfl
theorem fld14_1 : fldOf Try.prog 14 1 = some (1, 12) := by kernel_rfl
theorem bld14 : buildT Try.prog 14 = some ([.str [], .u64 0#64], .inl [(0, 1), (1, 1)]) := by kernel_rfl
theorem sz15 : szOf Try.prog 15 = some 1 := by kernel_rfl
theorem by15 : byOf Try.prog 15 = some 8 := by kernel_rfl
theorem zero15 : zeroOf Try.prog 15 = some [.nilPtr] := by kernel_rfl
theorem row15 : isRowT Try.prog 15 = some false := by kernel_rfl
theorem sz16 : szOf Try.prog 16 = some 1 := by kernel_rfl
theorem by16 : byOf Try.prog 16 = some 8 := by kernel_rfl
theorem zero16 : zeroOf Try.prog 16 = some [.nilPtr] := by kernel_rfl
theorem row16 : isRowT Try.prog 16 = some false := by kernel_rfl
theorem sz17 : szOf Try.prog 17 = some 1 := by kernel_rfl
theorem by17 : byOf Try.prog 17 = some 8 := by kernel_rfl
theorem zero17 : zeroOf Try.prog 17 = some [.nilPtr] := by kernel_rfl
theorem row17 : isRowT Try.prog 17 = some false := by kernel_rfl
theorem sz18 : szOf Try.prog 18 = some 1 := by kernel_rfl
theorem by18 : byOf Try.prog 18 = some 8 := by kernel_rfl
theorem zero18 : zeroOf Try.prog 18 = some [.nilPtr] := by kernel_rfl
theorem row18 : isRowT Try.prog 18 = some true := by kernel_rfl
theorem fld18_0 : fldOf Try.prog 18 0 = some (0, 17) := by kernel_rfl
theorem bld18 : buildT Try.prog 18 = some ([.nilPtr], .inl [(0, 1)]) := by kernel_rfl
theorem sz19 : szOf Try.prog 19 = some 1 := by kernel_rfl
theorem by19 : byOf Try.prog 19 = some 8 := by kernel_rfl
theorem zero19 : zeroOf Try.prog 19 = some [.nilPtr] := by kernel_rfl
theorem row19 : isRowT Try.prog 19 = some true := by kernel_rfl
theorem fld19_0 : fldOf Try.prog 19 0 = some (0, 17) := by kernel_rfl
theorem bld19 : buildT Try.prog 19 = some ([.nilPtr], .inl [(0, 1)]) := by kernel_rfl
theorem sz20 : szOf Try.prog 20 = some 1 := by kernel_rfl
theorem by20 : byOf Try.prog 20 = some 16 := by kernel_rfl
theorem zero20 : zeroOf Try.prog 20 = some [.nilIface] := by kernel_rfl
theorem row20 : isRowT Try.prog 20 = some false := by kernel_rfl
theorem sz21 : szOf Try.prog 21 = some 1 := by kernel_rfl
theorem by21 : byOf Try.prog 21 = some 4 := by kernel_rfl
theorem zero21 : zeroOf Try.prog 21 = some [.i32 0] := by kernel_rfl
theorem row21 : isRowT Try.prog 21 = some false := by kernel_rfl
theorem sz22 : szOf Try.prog 22 = some 1 := by kernel_rfl
theorem by22 : byOf Try.prog 22 = some 8 := by kernel_rfl
theorem zero22 : zeroOf Try.prog 22 = some [.i64 0] := by kernel_rfl
theorem row22 : isRowT Try.prog 22 = some false := by kernel_rfl
theorem sz24 : szOf Try.prog 24 = some 1 := by kernel_rfl
theorem by24 : byOf Try.prog 24 = some 8 := by kernel_rfl
theorem zero24 : zeroOf Try.prog 24 = some [.nilFn] := by kernel_rfl
theorem row24 : isRowT Try.prog 24 = some false := by kernel_rfl
theorem sz25 : szOf Try.prog 25 = some 1 := by kernel_rfl
theorem by25 : byOf Try.prog 25 = some 8 := by kernel_rfl
theorem zero25 : zeroOf Try.prog 25 = some [.nilFn] := by kernel_rfl
theorem row25 : isRowT Try.prog 25 = some false := by kernel_rfl
theorem sz26 : szOf Try.prog 26 = some 1 := by kernel_rfl
theorem by26 : byOf Try.prog 26 = some 8 := by kernel_rfl
theorem zero26 : zeroOf Try.prog 26 = some [.nilFn] := by kernel_rfl
theorem row26 : isRowT Try.prog 26 = some false := by kernel_rfl
theorem sz27 : szOf Try.prog 27 = some 1 := by kernel_rfl
theorem by27 : byOf Try.prog 27 = some 8 := by kernel_rfl
theorem zero27 : zeroOf Try.prog 27 = some [.nilFn] := by kernel_rfl
theorem row27 : isRowT Try.prog 27 = some false := by kernel_rfl
theorem sz28 : szOf Try.prog 28 = some 1 := by kernel_rfl
theorem by28 : byOf Try.prog 28 = some 8 := by kernel_rfl
theorem zero28 : zeroOf Try.prog 28 = some [.nilFn] := by kernel_rfl
theorem row28 : isRowT Try.prog 28 = some false := by kernel_rfl
theorem sz29 : szOf Try.prog 29 = some 1 := by kernel_rfl
theorem by29 : byOf Try.prog 29 = some 8 := by kernel_rfl
theorem zero29 : zeroOf Try.prog 29 = some [.nilFn] := by kernel_rfl
theorem row29 : isRowT Try.prog 29 = some false := by kernel_rfl
theorem sz30 : szOf Try.prog 30 = some 1 := by kernel_rfl
theorem by30 : byOf Try.prog 30 = some 8 := by kernel_rfl
theorem zero30 : zeroOf Try.prog 30 = some [.nilFn] := by kernel_rfl
theorem row30 : isRowT Try.prog 30 = some false := by kernel_rfl
theorem sz31 : szOf Try.prog 31 = some 1 := by kernel_rfl
theorem by31 : byOf Try.prog 31 = some 8 := by kernel_rfl
theorem zero31 : zeroOf Try.prog 31 = some [.nilFn] := by kernel_rfl
theorem row31 : isRowT Try.prog 31 = some false := by kernel_rfl
theorem sz32 : szOf Try.prog 32 = some 1 := by kernel_rfl
theorem by32 : byOf Try.prog 32 = some 8 := by kernel_rfl
theorem zero32 : zeroOf Try.prog 32 = some [.nilFn] := by kernel_rfl
theorem row32 : isRowT Try.prog 32 = some false := by kernel_rfl
theorem sz33 : szOf Try.prog 33 = some 1 := by kernel_rfl
theorem by33 : byOf Try.prog 33 = some 8 := by kernel_rfl
theorem zero33 : zeroOf Try.prog 33 = some [.nilFn] := by kernel_rfl
theorem row33 : isRowT Try.prog 33 = some false := by kernel_rfl
theorem sz34 : szOf Try.prog 34 = some 1 := by kernel_rfl
theorem by34 : byOf Try.prog 34 = some 8 := by kernel_rfl
theorem zero34 : zeroOf Try.prog 34 = some [.nilFn] := by kernel_rfl
theorem row34 : isRowT Try.prog 34 = some false := by kernel_rfl
theorem sz35 : szOf Try.prog 35 = some 1 := by kernel_rfl
theorem by35 : byOf Try.prog 35 = some 8 := by kernel_rfl
theorem zero35 : zeroOf Try.prog 35 = some [.u64 0#64] := by kernel_rfl
theorem row35 : isRowT Try.prog 35 = some false := by kernel_rfl
theorem sz36 : szOf Try.prog 36 = some 1 := by kernel_rfl
theorem by36 : byOf Try.prog 36 = some 8 := by kernel_rfl
theorem zero36 : zeroOf Try.prog 36 = some [.nilFn] := by kernel_rfl
theorem row36 : isRowT Try.prog 36 = some false := by kernel_rfl
theorem sz37 : szOf Try.prog 37 = some 2 := by kernel_rfl
theorem by37 : byOf Try.prog 37 = some 16 := by kernel_rfl
theorem zero37 : zeroOf Try.prog 37 = some [.u64 0#64, .u64 0#64] := by kernel_rfl
theorem row37 : isRowT Try.prog 37 = some true := by kernel_rfl
theorem arr37 : arrT Try.prog 37 = some (2, 35) := by kernel_rfl
theorem bld37 : buildT Try.prog 37 = some ([.u64 0#64, .u64 0#64], .inr 1) := by kernel_rfl
theorem sz38 : szOf Try.prog 38 = some 3 := by kernel_rfl
theorem by38 : byOf Try.prog 38 = some 24 := by kernel_rfl
theorem zero38 : zeroOf Try.prog 38 = some [.u64 0#64, .u64 0#64, .u64 0#64] := by kernel_rfl
theorem row38 : isRowT Try.prog 38 = some true := by kernel_rfl
theorem arr38 : arrT Try.prog 38 = some (3, 35) := by kernel_rfl
theorem bld38 : buildT Try.prog 38 = some ([.u64 0#64, .u64 0#64, .u64 0#64], .inr 1) := by kernel_rfl
theorem sz39 : szOf Try.prog 39 = some 3 := by kernel_rfl
theorem by39 : byOf Try.prog 39 = some 24 := by kernel_rfl
theorem zero39 : zeroOf Try.prog 39 = some [.u64 0#64, .u64 0#64, .u64 0#64] := by kernel_rfl
theorem row39 : isRowT Try.prog 39 = some true := by kernel_rfl
theorem arr39 : arrT Try.prog 39 = some (3, 35) := by kernel_rfl
theorem bld39 : buildT Try.prog 39 = some ([.u64 0#64, .u64 0#64, .u64 0#64], .inr 1) := by kernel_rfl
theorem sz40 : szOf Try.prog 40 = some 1 := by kernel_rfl
theorem by40 : byOf Try.prog 40 = some 8 := by kernel_rfl
theorem zero40 : zeroOf Try.prog 40 = some [.nilFn] := by kernel_rfl
theorem row40 : isRowT Try.prog 40 = some false := by kernel_rfl
theorem sz41 : szOf Try.prog 41 = some 1 := by kernel_rfl
theorem by41 : byOf Try.prog 41 = some 8 := by kernel_rfl
theorem zero41 : zeroOf Try.prog 41 = some [.nilFn] := by kernel_rfl
theorem row41 : isRowT Try.prog 41 = some false := by kernel_rfl
theorem sz42 : szOf Try.prog 42 = some 1 := by kernel_rfl
theorem by42 : byOf Try.prog 42 = some 8 := by kernel_rfl
theorem zero42 : zeroOf Try.prog 42 = some [.nilFn] := by kernel_rfl
theorem row42 : isRowT Try.prog 42 = some false := by kernel_rfl
theorem sz43 : szOf Try.prog 43 = some 1 := by kernel_rfl
theorem by43 : byOf Try.prog 43 = some 24 := by kernel_rfl
theorem zero43 : zeroOf Try.prog 43 = some [.nilSlice] := by kernel_rfl
theorem row43 : isRowT Try.prog 43 = some false := by kernel_rfl
theorem slc43 : sliceT Try.prog 43 = some 5 := by kernel_rfl
theorem sz44 : szOf Try.prog 44 = some 1 := by kernel_rfl
theorem by44 : byOf Try.prog 44 = some 8 := by kernel_rfl
theorem zero44 : zeroOf Try.prog 44 = some [.nilFn] := by kernel_rfl
theorem row44 : isRowT Try.prog 44 = some false := by kernel_rfl
theorem sz45 : szOf Try.prog 45 = some 1 := by kernel_rfl
theorem by45 : byOf Try.prog 45 = some 8 := by kernel_rfl
theorem zero45 : zeroOf Try.prog 45 = some [.nilFn] := by kernel_rfl
theorem row45 : isRowT Try.prog 45 = some false := by kernel_rfl
theorem sz46 : szOf Try.prog 46 = some 10 := by kernel_rfl
theorem by46 : byOf Try.prog 46 = some 80 := by kernel_rfl
theorem zero46 : zeroOf Try.prog 46 = some [.u64 0#64, .u64 0#64, .u64 0#64, .u64 0#64, .u64 0#64, .u64 0#64, .u64 0#64, .u64 0#64, .u64 0#64, .u64 0#64] := by kernel_rfl
theorem row46 : isRowT Try.prog 46 = some true := by kernel_rfl
theorem arr46 : arrT Try.prog 46 = some (10, 35) := by kernel_rfl
theorem bld46 : buildT Try.prog 46 = some ([.u64 0#64, .u64 0#64, .u64 0#64, .u64 0#64, .u64 0#64, .u64 0#64, .u64 0#64, .u64 0#64, .u64 0#64, .u64 0#64], .inr 1) := by kernel_rfl
theorem sz47 : szOf Try.prog 47 = some 10 := by kernel_rfl
theorem by47 : byOf Try.prog 47 = some 80 := by kernel_rfl
theorem zero47 : zeroOf Try.prog 47 = some [.u64 0#64, .u64 0#64, .u64 0#64, .u64 0#64, .u64 0#64, .u64 0#64, .u64 0#64, .u64 0#64, .u64 0#64, .u64 0#64] := by kernel_rfl
theorem row47 : isRowT Try.prog 47 = some true := by kernel_rfl
theorem arr47 : arrT Try.prog 47 = some (10, 35) := by kernel_rfl
theorem bld47 : buildT Try.prog 47 = some ([.u64 0#64, .u64 0#64, .u64 0#64, .u64 0#64, .u64 0#64, .u64 0#64, .u64 0#64, .u64 0#64, .u64 0#64, .u64 0#64], .inr 1) := by kernel_rfl
theorem sz48 : szOf Try.prog 48 = some 1 := by kernel_rfl
theorem by48 : byOf Try.prog 48 = some 8 := by kernel_rfl
theorem zero48 : zeroOf Try.prog 48 = some [.nilFn] := by kernel_rfl
theorem row48 : isRowT Try.prog 48 = some false := by kernel_rfl
theorem sz49 : szOf Try.prog 49 = some 1 := by kernel_rfl
theorem by49 : byOf Try.prog 49 = some 8 := by kernel_rfl
theorem zero49 : zeroOf Try.prog 49 = some [.nilFn] := by kernel_rfl
theorem row49 : isRowT Try.prog 49 = some false := by kernel_rfl
theorem sz50 : szOf Try.prog 50 = some 2 := by kernel_rfl
theorem by50 : byOf Try.prog 50 = some 16 := by kernel_rfl
theorem zero50 : zeroOf Try.prog 50 = some [.u64 0#64, .u64 0#64] := by kernel_rfl
theorem row50 : isRowT Try.prog 50 = some true := by kernel_rfl
theorem fld50_0 : fldOf Try.prog 50 0 = some (0, 35) := by kernel_rfl
theorem fld50_1 : fldOf Try.prog 50 1 = some (1, 35) := by kernel_rfl
theorem bld50 : buildT Try.prog 50 = some ([.u64 0#64, .u64 0#64], .inl [(0, 1), (1, 1)]) := by kernel_rfl
theorem sz51 : szOf Try.prog 51 = some 2 := by kernel_rfl
theorem by51 : byOf Try.prog 51 = some 16 := by kernel_rfl
theorem zero51 : zeroOf Try.prog 51 = some [.u64 0#64, .u64 0#64] := by kernel_rfl
theorem row51 : isRowT Try.prog 51 = some true := by kernel_rfl
theorem fld51_0 : fldOf Try.prog 51 0 = some (0, 35) := by kernel_rfl
theorem fld51_1 : fldOf Try.prog 51 1 = some (1, 35) := by kernel_rfl
theorem bld51 : buildT Try.prog 51 = some ([.u64 0#64, .u64 0#64], .inl [(0, 1), (1, 1)]) := by kernel_rfl
theorem sz52 : szOf Try.prog 52 = some 16 := by kernel_rfl
theorem by52 : byOf Try.prog 52 = some 16 := by kernel_rfl
theorem zero52 : zeroOf Try.prog 52 = some [.u8 0#8, .u8 0#8, .u8 0#8, .u8 0#8, .u8 0#8, .u8 0#8, .u8 0#8, .u8 0#8, .u8 0#8, .u8 0#8, .u8 0#8, .u8 0#8, .u8 0#8, .u8 0#8, .u8 0#8, .u8 0#8] := by kernel_rfl
theorem row52 : isRowT Try.prog 52 = some true := by kernel_rfl
theorem arr52 : arrT Try.prog 52 = some (16, 5) := by kernel_rfl
theorem bld52 : buildT Try.prog 52 = some ([.u8 0#8, .u8 0#8, .u8 0#8, .u8 0#8, .u8 0#8, .u8 0#8, .u8 0#8, .u8 0#8, .u8 0#8, .u8 0#8, .u8 0#8, .u8 0#8, .u8 0#8, .u8 0#8, .u8 0#8, .u8 0#8], .inr 1) := by kernel_rfl
theorem sz53 : szOf Try.prog 53 = some 1 := by kernel_rfl
theorem by53 : byOf Try.prog 53 = some 8 := by kernel_rfl
theorem zero53 : zeroOf Try.prog 53 = some [.nilFn] := by kernel_rfl
theorem row53 : isRowT Try.prog 53 = some false := by kernel_rfl
theorem sz54 : szOf Try.prog 54 = some 1 := by kernel_rfl
theorem by54 : byOf Try.prog 54 = some 8 := by kernel_rfl
theorem zero54 : zeroOf Try.prog 54 = some [.nilFn] := by kernel_rfl
theorem row54 : isRowT Try.prog 54 = some false := by kernel_rfl
theorem sz55 : szOf Try.prog 55 = some 1 := by kernel_rfl
theorem by55 : byOf Try.prog 55 = some 8 := by kernel_rfl
theorem zero55 : zeroOf Try.prog 55 = some [.nilFn] := by kernel_rfl
theorem row55 : isRowT Try.prog 55 = some false := by kernel_rfl
theorem sz56 : szOf Try.prog 56 = some 1 := by kernel_rfl
theorem by56 : byOf Try.prog 56 = some 8 := by kernel_rfl
theorem zero56 : zeroOf Try.prog 56 = some [.nilFn] := by kernel_rfl
theorem row56 : isRowT Try.prog 56 = some false := by kernel_rfl
theorem sz57 : szOf Try.prog 57 = some 1 := by kernel_rfl
theorem by57 : byOf Try.prog 57 = some 8 := by kernel_rfl
theorem zero57 : zeroOf Try.prog 57 = some [.nilFn] := by kernel_rfl
theorem row57 : isRowT Try.prog 57 = some false := by kernel_rfl
theorem sz58 : szOf Try.prog 58 = some 1 := by kernel_rfl
theorem by58 : byOf Try.prog 58 = some 8 := by kernel_rfl
theorem zero58 : zeroOf Try.prog 58 = some [.nilFn] := by kernel_rfl
theorem row58 : isRowT Try.prog 58 = some false := by kernel_rfl
theorem sz59 : szOf Try.prog 59 = some 1 := by kernel_rfl
theorem by59 : byOf Try.prog 59 = some 8 := by kernel_rfl
theorem zero59 : zeroOf Try.prog 59 = some [.nilFn] := by kernel_rfl
theorem row59 : isRowT Try.prog 59 = some false := by kernel_rfl
theorem sz60 : szOf Try.prog 60 = some 1 := by kernel_rfl
theorem by60 : byOf Try.prog 60 = some 8 := by kernel_rfl
theorem zero60 : zeroOf Try.prog 60 = some [.nilPtr] := by kernel_rfl
theorem row60 : isRowT Try.prog 60 = some false := by kernel_rfl
theorem sz61 : szOf Try.prog 61 = some 1 := by kernel_rfl
theorem by61 : byOf Try.prog 61 = some 8 := by kernel_rfl
theorem zero61 : zeroOf Try.prog 61 = some [.nilFn] := by kernel_rfl
theorem row61 : isRowT Try.prog 61 = some false := by kernel_rfl
theorem sz62 : szOf Try.prog 62 = some 1 := by kernel_rfl
theorem by62 : byOf Try.prog 62 = some 24 := by kernel_rfl
theorem zero62 : zeroOf Try.prog 62 = some [.nilSlice] := by kernel_rfl
theorem row62 : isRowT Try.prog 62 = some false := by kernel_rfl
theorem slc62 : sliceT Try.prog 62 = some 9 := by kernel_rfl
theorem sz63 : szOf Try.prog 63 = some 2 := by kernel_rfl
theorem by63 : byOf Try.prog 63 = some 48 := by kernel_rfl
theorem zero63 : zeroOf Try.prog 63 = some [.nilSlice, .nilSlice] := by kernel_rfl
theorem row63 : isRowT Try.prog 63 = some true := by kernel_rfl
theorem fld63_0 : fldOf Try.prog 63 0 = some (0, 43) := by kernel_rfl
theorem fld63_1 : fldOf Try.prog 63 1 = some (1, 62) := by kernel_rfl
theorem bld63 : buildT Try.prog 63 = some ([.nilSlice, .nilSlice], .inl [(0, 1), (1, 1)]) := by kernel_rfl
theorem sz64 : szOf Try.prog 64 = some 2 := by kernel_rfl
theorem by64 : byOf Try.prog 64 = some 48 := by kernel_rfl
theorem zero64 : zeroOf Try.prog 64 = some [.nilSlice, .nilSlice] := by kernel_rfl
theorem row64 : isRowT Try.prog 64 = some true := by kernel_rfl
theorem fld64_0 : fldOf Try.prog 64 0 = some (0, 43) := by kernel_rfl
theorem fld64_1 : fldOf Try.prog 64 1 = some (1, 62) := by kernel_rfl
theorem bld64 : buildT Try.prog 64 = some ([.nilSlice, .nilSlice], .inl [(0, 1), (1, 1)]) := by kernel_rfl
theorem sz66 : szOf Try.prog 66 = some 1 := by kernel_rfl
theorem by66 : byOf Try.prog 66 = some 8 := by kernel_rfl
theorem zero66 : zeroOf Try.prog 66 = some [.nilFn] := by kernel_rfl
theorem row66 : isRowT Try.prog 66 = some false := by kernel_rfl
theorem sz67 : szOf Try.prog 67 = some 1 := by kernel_rfl
theorem by67 : byOf Try.prog 67 = some 8 := by kernel_rfl
theorem zero67 : zeroOf Try.prog 67 = some [.nilFn] := by kernel_rfl
theorem row67 : isRowT Try.prog 67 = some false := by kernel_rfl
theorem sz68 : szOf Try.prog 68 = some 1 := by kernel_rfl
theorem by68 : byOf Try.prog 68 = some 8 := by kernel_rfl
theorem zero68 : zeroOf Try.prog 68 = some [.nilFn] := by kernel_rfl
theorem row68 : isRowT Try.prog 68 = some false := by kernel_rfl
theorem sz69 : szOf Try.prog 69 = some 1 := by kernel_rfl
theorem by69 : byOf Try.prog 69 = some 8 := by kernel_rfl
theorem zero69 : zeroOf Try.prog 69 = some [.nilFn] := by kernel_rfl
theorem row69 : isRowT Try.prog 69 = some false := by kernel_rfl
theorem sz70 : szOf Try.prog 70 = some 1 := by kernel_rfl
theorem by70 : byOf Try.prog 70 = some 8 := by kernel_rfl
theorem zero70 : zeroOf Try.prog 70 = some [.nilPtr] := by kernel_rfl
theorem row70 : isRowT Try.prog 70 = some false := by kernel_rfl
theorem sz71 : szOf Try.prog 71 = some 1 := by kernel_rfl
theorem by71 : byOf Try.prog 71 = some 8 := by kernel_rfl
theorem zero71 : zeroOf Try.prog 71 = some [.nilFn] := by kernel_rfl
theorem row71 : isRowT Try.prog 71 = some false := by kernel_rfl
theorem sz72 : szOf Try.prog 72 = some 1 := by kernel_rfl
theorem by72 : byOf Try.prog 72 = some 8 := by kernel_rfl
theorem zero72 : zeroOf Try.prog 72 = some [.nilFn] := by kernel_rfl
theorem row72 : isRowT Try.prog 72 = some false := by kernel_rfl
theorem sz73 : szOf Try.prog 73 = some 1 := by kernel_rfl
theorem by73 : byOf Try.prog 73 = some 4 := by kernel_rfl
theorem zero73 : zeroOf Try.prog 73 = some [.u32 0#32] := by kernel_rfl
theorem row73 : isRowT Try.prog 73 = some false := by kernel_rfl
theorem sz74 : szOf Try.prog 74 = some 1 := by kernel_rfl
theorem by74 : byOf Try.prog 74 = some 8 := by kernel_rfl
theorem zero74 : zeroOf Try.prog 74 = some [.nilFn] := by kernel_rfl
theorem row74 : isRowT Try.prog 74 = some false := by kernel_rfl
theorem sz75 : szOf Try.prog 75 = some 1 := by kernel_rfl
theorem by75 : byOf Try.prog 75 = some 8 := by kernel_rfl
theorem zero75 : zeroOf Try.prog 75 = some [.nilFn] := by kernel_rfl
theorem row75 : isRowT Try.prog 75 = some false := by kernel_rfl
theorem sz76 : szOf Try.prog 76 = some 1 := by kernel_rfl
theorem by76 : byOf Try.prog 76 = some 8 := by kernel_rfl
theorem zero76 : zeroOf Try.prog 76 = some [.nilFn] := by kernel_rfl
theorem row76 : isRowT Try.prog 76 = some false := by kernel_rfl
theorem sz77 : szOf Try.prog 77 = some 2 := by kernel_rfl
theorem by77 : byOf Try.prog 77 = some 24 := by kernel_rfl
theorem zero77 : zeroOf Try.prog 77 = some [.nilPtr, .str []] := by kernel_rfl
theorem row77 : isRowT Try.prog 77 = some true := by kernel_rfl
theorem fld77_0 : fldOf Try.prog 77 0 = some (0, 70) := by kernel_rfl
theorem fld77_1 : fldOf Try.prog 77 1 = some (1, 9) := by kernel_rfl
theorem bld77 : buildT Try.prog 77 = some ([.nilPtr, .str []], .inl [(0, 1), (1, 1)]) := by kernel_rfl
theorem sz78 : szOf Try.prog 78 = some 2 := by kernel_rfl
theorem by78 : byOf Try.prog 78 = some 24 := by kernel_rfl
theorem zero78 : zeroOf Try.prog 78 = some [.nilPtr, .str []] := by kernel_rfl
theorem row78 : isRowT Try.prog 78 = some true := by kernel_rfl
theorem fld78_0 : fldOf Try.prog 78 0 = some (0, 70) := by kernel_rfl
theorem fld78_1 : fldOf Try.prog 78 1 = some (1, 9) := by kernel_rfl
theorem bld78 : buildT Try.prog 78 = some ([.nilPtr, .str []], .inl [(0, 1), (1, 1)]) := by kernel_rfl
theorem sz80 : szOf Try.prog 80 = some 1 := by kernel_rfl
theorem by80 : byOf Try.prog 80 = some 8 := by kernel_rfl
theorem zero80 : zeroOf Try.prog 80 = some [.nilFn] := by kernel_rfl
theorem row80 : isRowT Try.prog 80 = some false := by kernel_rfl
theorem sz82 : szOf Try.prog 82 = some 1 := by kernel_rfl
theorem by82 : byOf Try.prog 82 = some 8 := by kernel_rfl
theorem zero82 : zeroOf Try.prog 82 = some [.nilFn] := by kernel_rfl
theorem row82 : isRowT Try.prog 82 = some false := by kernel_rfl
theorem sz83 : szOf Try.prog 83 = some 5 := by kernel_rfl
theorem by83 : byOf Try.prog 83 = some 40 := by kernel_rfl
theorem zero83 : zeroOf Try.prog 83 = some [.u64 0#64, .u64 0#64, .u64 0#64, .u64 0#64, .u64 0#64] := by kernel_rfl
theorem row83 : isRowT Try.prog 83 = some true := by kernel_rfl
theorem arr83 : arrT Try.prog 83 = some (5, 35) := by kernel_rfl
theorem bld83 : buildT Try.prog 83 = some ([.u64 0#64, .u64 0#64, .u64 0#64, .u64 0#64, .u64 0#64], .inr 1) := by kernel_rfl
theorem sz84 : szOf Try.prog 84 = some 1 := by kernel_rfl
theorem by84 : byOf Try.prog 84 = some 8 := by kernel_rfl
theorem zero84 : zeroOf Try.prog 84 = some [.nilFn] := by kernel_rfl
theorem row84 : isRowT Try.prog 84 = some false := by kernel_rfl
theorem sz85 : szOf Try.prog 85 = some 1 := by kernel_rfl
theorem by85 : byOf Try.prog 85 = some 8 := by kernel_rfl
theorem zero85 : zeroOf Try.prog 85 = some [.u64 0#64] := by kernel_rfl
theorem row85 : isRowT Try.prog 85 = some false := by kernel_rfl
theorem sz86 : szOf Try.prog 86 = some 1 := by kernel_rfl
theorem by86 : byOf Try.prog 86 = some 8 := by kernel_rfl
theorem zero86 : zeroOf Try.prog 86 = some [.nilFn] := by kernel_rfl
theorem row86 : isRowT Try.prog 86 = some false := by kernel_rfl
theorem sz87 : szOf Try.prog 87 = some 1 := by kernel_rfl
theorem by87 : byOf Try.prog 87 = some 8 := by kernel_rfl
theorem zero87 : zeroOf Try.prog 87 = some [.nilFn] := by kernel_rfl
theorem row87 : isRowT Try.prog 87 = some false := by kernel_rfl
theorem sz88 : szOf Try.prog 88 = some 1 := by kernel_rfl
theorem by88 : byOf Try.prog 88 = some 8 := by kernel_rfl
theorem zero88 : zeroOf Try.prog 88 = some [.nilFn] := by kernel_rfl
theorem row88 : isRowT Try.prog 88 = some false := by kernel_rfl
theorem sz89 : szOf Try.prog 89 = some 256 := by kernel_rfl
theorem by89 : byOf Try.prog 89 = some 2048 := by kernel_rfl
theorem zero89 : zeroOf Try.prog 89 = some (List.replicate 256 (.i64 0)) := by kernel_rfl
theorem row89 : isRowT Try.prog 89 = some true := by kernel_rfl
theorem arr89 : arrT Try.prog 89 = some (256, 3) := by kernel_rfl
theorem bld89 : buildT Try.prog 89 = some ((List.replicate 256 (.i64 0)), .inr 1) := by kernel_rfl
theorem sz90 : szOf Try.prog 90 = some 1 := by kernel_rfl
theorem by90 : byOf Try.prog 90 = some 24 := by kernel_rfl
theorem zero90 : zeroOf Try.prog 90 = some [.nilSlice] := by kernel_rfl
theorem row90 : isRowT Try.prog 90 = some false := by kernel_rfl
theorem slc90 : sliceT Try.prog 90 = some 3 := by kernel_rfl
theorem sz91 : szOf Try.prog 91 = some 1 := by kernel_rfl
theorem by91 : byOf Try.prog 91 = some 8 := by kernel_rfl
theorem zero91 : zeroOf Try.prog 91 = some [.nilFn] := by kernel_rfl
theorem row91 : isRowT Try.prog 91 = some false := by kernel_rfl
theorem sz92 : szOf Try.prog 92 = some 256 := by kernel_rfl
theorem by92 : byOf Try.prog 92 = some 256 := by kernel_rfl
theorem zero92 : zeroOf Try.prog 92 = some (List.replicate 256 (.u8 0#8)) := by kernel_rfl
theorem row92 : isRowT Try.prog 92 = some true := by kernel_rfl
theorem arr92 : arrT Try.prog 92 = some (256, 5) := by kernel_rfl
theorem bld92 : buildT Try.prog 92 = some ((List.replicate 256 (.u8 0#8)), .inr 1) := by kernel_rfl
theorem sz93 : szOf Try.prog 93 = some 512 := by kernel_rfl
theorem by93 : byOf Try.prog 93 = some 512 := by kernel_rfl
theorem zero93 : zeroOf Try.prog 93 = some (List.replicate 512 (.u8 0#8)) := by kernel_rfl
theorem row93 : isRowT Try.prog 93 = some true := by kernel_rfl
theorem fld93_0 : fldOf Try.prog 93 0 = some (0, 92) := by kernel_rfl
theorem fld93_1 : fldOf Try.prog 93 1 = some (256, 92) := by kernel_rfl
theorem bld93 : buildT Try.prog 93 = some ((List.replicate 512 (.u8 0#8)), .inl [(0, 256), (256, 256)]) := by kernel_rfl
theorem sz94 : szOf Try.prog 94 = some 512 := by kernel_rfl
theorem by94 : byOf Try.prog 94 = some 512 := by kernel_rfl
theorem zero94 : zeroOf Try.prog 94 = some (List.replicate 512 (.u8 0#8)) := by kernel_rfl
theorem row94 : isRowT Try.prog 94 = some true := by kernel_rfl
theorem fld94_0 : fldOf Try.prog 94 0 = some (0, 92) := by kernel_rfl
theorem fld94_1 : fldOf Try.prog 94 1 = some (256, 92) := by kernel_rfl
theorem bld94 : buildT Try.prog 94 = some ((List.replicate 512 (.u8 0#8)), .inl [(0, 256), (256, 256)]) := by kernel_rfl
theorem sz95 : szOf Try.prog 95 = some 1 := by kernel_rfl
theorem by95 : byOf Try.prog 95 = some 8 := by kernel_rfl
theorem zero95 : zeroOf Try.prog 95 = some [.nilFn] := by kernel_rfl
theorem row95 : isRowT Try.prog 95 = some false := by kernel_rfl
theorem sz96 : szOf Try.prog 96 = some 4 := by kernel_rfl
theorem by96 : byOf Try.prog 96 = some 4 := by kernel_rfl
theorem zero96 : zeroOf Try.prog 96 = some [.u8 0#8, .u8 0#8, .u8 0#8, .u8 0#8] := by kernel_rfl
theorem row96 : isRowT Try.prog 96 = some true := by kernel_rfl
theorem arr96 : arrT Try.prog 96 = some (4, 5) := by kernel_rfl
theorem bld96 : buildT Try.prog 96 = some ([.u8 0#8, .u8 0#8, .u8 0#8, .u8 0#8], .inr 1) := by kernel_rfl
theorem sz97 : szOf Try.prog 97 = some 1 := by kernel_rfl
theorem by97 : byOf Try.prog 97 = some 8 := by kernel_rfl
theorem zero97 : zeroOf Try.prog 97 = some [.nilFn] := by kernel_rfl
theorem row97 : isRowT Try.prog 97 = some false := by kernel_rfl
theorem sz98 : szOf Try.prog 98 = some 1 := by kernel_rfl
theorem by98 : byOf Try.prog 98 = some 8 := by kernel_rfl
theorem zero98 : zeroOf Try.prog 98 = some [.nilFn] := by kernel_rfl
theorem row98 : isRowT Try.prog 98 = some false := by kernel_rfl
theorem sz99 : szOf Try.prog 99 = some 1 := by kernel_rfl
theorem by99 : byOf Try.prog 99 = some 8 := by kernel_rfl
theorem zero99 : zeroOf Try.prog 99 = some [.nilPtr] := by kernel_rfl
theorem row99 : isRowT Try.prog 99 = some false := by kernel_rfl
theorem sz100 : szOf Try.prog 100 = some 2 := by kernel_rfl
theorem by100 : byOf Try.prog 100 = some 32 := by kernel_rfl
theorem zero100 : zeroOf Try.prog 100 = some [.nilPtr, .nilSlice] := by kernel_rfl
theorem row100 : isRowT Try.prog 100 = some true := by kernel_rfl
theorem fld100_0 : fldOf Try.prog 100 0 = some (0, 99) := by kernel_rfl
theorem fld100_1 : fldOf Try.prog 100 1 = some (1, 43) := by kernel_rfl
theorem bld100 : buildT Try.prog 100 = some ([.nilPtr, .nilSlice], .inl [(0, 1), (1, 1)]) := by kernel_rfl
theorem sz101 : szOf Try.prog 101 = some 2 := by kernel_rfl
theorem by101 : byOf Try.prog 101 = some 32 := by kernel_rfl
theorem zero101 : zeroOf Try.prog 101 = some [.nilPtr, .nilSlice] := by kernel_rfl
theorem row101 : isRowT Try.prog 101 = some true := by kernel_rfl
theorem fld101_0 : fldOf Try.prog 101 0 = some (0, 99) := by kernel_rfl
theorem fld101_1 : fldOf Try.prog 101 1 = some (1, 43) := by kernel_rfl
theorem bld101 : buildT Try.prog 101 = some ([.nilPtr, .nilSlice], .inl [(0, 1), (1, 1)]) := by kernel_rfl
theorem sz102 : szOf Try.prog 102 = some 1 := by kernel_rfl
theorem by102 : byOf Try.prog 102 = some 8 := by kernel_rfl
theorem zero102 : zeroOf Try.prog 102 = some [.nilFn] := by kernel_rfl
theorem row102 : isRowT Try.prog 102 = some false := by kernel_rfl
theorem sz103 : szOf Try.prog 103 = some 1 := by kernel_rfl
theorem by103 : byOf Try.prog 103 = some 16 := by kernel_rfl
theorem zero103 : zeroOf Try.prog 103 = some [.nilIface] := by kernel_rfl
theorem row103 : isRowT Try.prog 103 = some false := by kernel_rfl
theorem sz104 : szOf Try.prog 104 = some 1 := by kernel_rfl
theorem by104 : byOf Try.prog 104 = some 16 := by kernel_rfl
theorem zero104 : zeroOf Try.prog 104 = some [.nilIface] := by kernel_rfl
theorem row104 : isRowT Try.prog 104 = some false := by kernel_rfl
theorem sz106 : szOf Try.prog 106 = some 1 := by kernel_rfl
theorem by106 : byOf Try.prog 106 = some 8 := by kernel_rfl
theorem zero106 : zeroOf Try.prog 106 = some [.nilFn] := by kernel_rfl
theorem row106 : isRowT Try.prog 106 = some false := by kernel_rfl
theorem sz107 : szOf Try.prog 107 = some 2 := by kernel_rfl
theorem by107 : byOf Try.prog 107 = some 24 := by kernel_rfl
theorem zero107 : zeroOf Try.prog 107 = some [.nilPtr, .str []] := by kernel_rfl
theorem row107 : isRowT Try.prog 107 = some true := by kernel_rfl
theorem fld107_0 : fldOf Try.prog 107 0 = some (0, 60) := by kernel_rfl
theorem fld107_1 : fldOf Try.prog 107 1 = some (1, 9) := by kernel_rfl
theorem bld107 : buildT Try.prog 107 = some ([.nilPtr, .str []], .inl [(0, 1), (1, 1)]) := by kernel_rfl
theorem sz108 : szOf Try.prog 108 = some 2 := by kernel_rfl
theorem by108 : byOf Try.prog 108 = some 24 := by kernel_rfl
theorem zero108 : zeroOf Try.prog 108 = some [.nilPtr, .str []] := by kernel_rfl
theorem row108 : isRowT Try.prog 108 = some true := by kernel_rfl
theorem fld108_0 : fldOf Try.prog 108 0 = some (0, 60) := by kernel_rfl
theorem fld108_1 : fldOf Try.prog 108 1 = some (1, 9) := by kernel_rfl
theorem bld108 : buildT Try.prog 108 = some ([.nilPtr, .str []], .inl [(0, 1), (1, 1)]) := by kernel_rfl
theorem sz109 : szOf Try.prog 109 = some 16 := by kernel_rfl
theorem by109 : byOf Try.prog 109 = some 16 := by kernel_rfl
theorem zero109 : zeroOf Try.prog 109 = some [.u8 0#8, .u8 0#8, .u8 0#8, .u8 0#8, .u8 0#8, .u8 0#8, .u8 0#8, .u8 0#8, .u8 0#8, .u8 0#8, .u8 0#8, .u8 0#8, .u8 0#8, .u8 0#8, .u8 0#8, .u8 0#8] := by kernel_rfl
theorem row109 : isRowT Try.prog 109 = some true := by kernel_rfl
theorem arr109 : arrT Try.prog 109 = some (16, 5) := by kernel_rfl
theorem bld109 : buildT Try.prog 109 = some ([.u8 0#8, .u8 0#8, .u8 0#8, .u8 0#8, .u8 0#8, .u8 0#8, .u8 0#8, .u8 0#8, .u8 0#8, .u8 0#8, .u8 0#8, .u8 0#8, .u8 0#8, .u8 0#8, .u8 0#8, .u8 0#8], .inr 1) := by kernel_rfl
theorem sz110 : szOf Try.prog 110 = some 1 := by kernel_rfl
theorem by110 : byOf Try.prog 110 = some 8 := by kernel_rfl
theorem zero110 : zeroOf Try.prog 110 = some [.nilFn] := by kernel_rfl
theorem row110 : isRowT Try.prog 110 = some false := by kernel_rfl
theorem sz111 : szOf Try.prog 111 = some 1 := by kernel_rfl
theorem by111 : byOf Try.prog 111 = some 8 := by kernel_rfl
theorem zero111 : zeroOf Try.prog 111 = some [.nilPtr] := by kernel_rfl
theorem row111 : isRowT Try.prog 111 = some false := by kernel_rfl
theorem sz112 : szOf Try.prog 112 = some 1 := by kernel_rfl
theorem by112 : byOf Try.prog 112 = some 8 := by kernel_rfl
theorem zero112 : zeroOf Try.prog 112 = some [.nilFn] := by kernel_rfl
theorem row112 : isRowT Try.prog 112 = some false := by kernel_rfl
theorem sz113 : szOf Try.prog 113 = some 1 := by kernel_rfl
theorem by113 : byOf Try.prog 113 = some 8 := by kernel_rfl
theorem zero113 : zeroOf Try.prog 113 = some [.nilFn] := by kernel_rfl
theorem row113 : isRowT Try.prog 113 = some false := by kernel_rfl
theorem sz114 : szOf Try.prog 114 = some 1 := by kernel_rfl
theorem by114 : byOf Try.prog 114 = some 8 := by kernel_rfl
theorem zero114 : zeroOf Try.prog 114 = some [.nilFn] := by kernel_rfl
theorem row114 : isRowT Try.prog 114 = some false := by kernel_rfl
theorem sz116 : szOf Try.prog 116 = some 1 := by kernel_rfl
theorem by116 : byOf Try.prog 116 = some 8 := by kernel_rfl
theorem zero116 : zeroOf Try.prog 116 = some [.nilFn] := by kernel_rfl
theorem row116 : isRowT Try.prog 116 = some false := by kernel_rfl
theorem sz118 : szOf Try.prog 118 = some 1 := by kernel_rfl
theorem by118 : byOf Try.prog 118 = some 8 := by kernel_rfl
theorem zero118 : zeroOf Try.prog 118 = some [.nilFn] := by kernel_rfl
theorem row118 : isRowT Try.prog 118 = some false := by kernel_rfl
theorem sz119 : szOf Try.prog 119 = some 1 := by kernel_rfl
theorem by119 : byOf Try.prog 119 = some 8 := by kernel_rfl
theorem zero119 : zeroOf Try.prog 119 = some [.nilFn] := by kernel_rfl
theorem row119 : isRowT Try.prog 119 = some false := by kernel_rfl
theorem sz120 : szOf Try.prog 120 = some 1 := by kernel_rfl
theorem by120 : byOf Try.prog 120 = some 8 := by kernel_rfl
theorem zero120 : zeroOf Try.prog 120 = some [.nilFn] := by kernel_rfl
theorem row120 : isRowT Try.prog 120 = some false := by kernel_rfl
theorem sz121 : szOf Try.prog 121 = some 1 := by kernel_rfl
theorem by121 : byOf Try.prog 121 = some 8 := by kernel_rfl
theorem zero121 : zeroOf Try.prog 121 = some [.nilPtr] := by kernel_rfl
theorem row121 : isRowT Try.prog 121 = some false := by kernel_rfl
theorem sz122 : szOf Try.prog 122 = some 1 := by kernel_rfl
theorem by122 : byOf Try.prog 122 = some 8 := by kernel_rfl
theorem zero122 : zeroOf Try.prog 122 = some [.nilPtr] := by kernel_rfl
theorem row122 : isRowT Try.prog 122 = some false := by kernel_rfl
theorem sz123 : szOf Try.prog 123 = some 16 := by kernel_rfl
theorem by123 : byOf Try.prog 123 = some 64 := by kernel_rfl
theorem zero123 : zeroOf Try.prog 123 = some [.u32 0#32, .u32 0#32, .u32 0#32, .u32 0#32, .u32 0#32, .u32 0#32, .u32 0#32, .u32 0#32, .u32 0#32, .u32 0#32, .u32 0#32, .u32 0#32, .u32 0#32, .u32 0#32, .u32 0#32, .u32 0#32] := by kernel_rfl
theorem row123 : isRowT Try.prog 123 = some true := by kernel_rfl
theorem arr123 : arrT Try.prog 123 = some (16, 73) := by kernel_rfl
theorem bld123 : buildT Try.prog 123 = some ([.u32 0#32, .u32 0#32, .u32 0#32, .u32 0#32, .u32 0#32, .u32 0#32, .u32 0#32, .u32 0#32, .u32 0#32, .u32 0#32, .u32 0#32, .u32 0#32, .u32 0#32, .u32 0#32, .u32 0#32, .u32 0#32], .inr 1) := by kernel_rfl
theorem sz124 : szOf Try.prog 124 = some 16 := by kernel_rfl
theorem by124 : byOf Try.prog 124 = some 64 := by kernel_rfl
theorem zero124 : zeroOf Try.prog 124 = some [.u32 0#32, .u32 0#32, .u32 0#32, .u32 0#32, .u32 0#32, .u32 0#32, .u32 0#32, .u32 0#32, .u32 0#32, .u32 0#32, .u32 0#32, .u32 0#32, .u32 0#32, .u32 0#32, .u32 0#32, .u32 0#32] := by kernel_rfl
theorem row124 : isRowT Try.prog 124 = some true := by kernel_rfl
theorem arr124 : arrT Try.prog 124 = some (16, 73) := by kernel_rfl
theorem bld124 : buildT Try.prog 124 = some ([.u32 0#32, .u32 0#32, .u32 0#32, .u32 0#32, .u32 0#32, .u32 0#32, .u32 0#32, .u32 0#32, .u32 0#32, .u32 0#32, .u32 0#32, .u32 0#32, .u32 0#32, .u32 0#32, .u32 0#32, .u32 0#32], .inr 1) := by kernel_rfl
theorem sz125 : szOf Try.prog 125 = some 1 := by kernel_rfl
theorem by125 : byOf Try.prog 125 = some 8 := by kernel_rfl
theorem zero125 : zeroOf Try.prog 125 = some [.nilFn] := by kernel_rfl
theorem row125 : isRowT Try.prog 125 = some false := by kernel_rfl
theorem sz126 : szOf Try.prog 126 = some 1 := by kernel_rfl
theorem by126 : byOf Try.prog 126 = some 8 := by kernel_rfl
theorem zero126 : zeroOf Try.prog 126 = some [.nilFn] := by kernel_rfl
theorem row126 : isRowT Try.prog 126 = some false := by kernel_rfl
theorem sz127 : szOf Try.prog 127 = some 1 := by kernel_rfl
theorem by127 : byOf Try.prog 127 = some 8 := by kernel_rfl
theorem zero127 : zeroOf Try.prog 127 = some [.nilFn] := by kernel_rfl
theorem row127 : isRowT Try.prog 127 = some false := by kernel_rfl
theorem sz128 : szOf Try.prog 128 = some 1 := by kernel_rfl
theorem by128 : byOf Try.prog 128 = some 24 := by kernel_rfl
theorem zero128 : zeroOf Try.prog 128 = some [.nilSlice] := by kernel_rfl
theorem row128 : isRowT Try.prog 128 = some false := by kernel_rfl
theorem slc128 : sliceT Try.prog 128 = some 73 := by kernel_rfl
theorem sz129 : szOf Try.prog 129 = some 4 := by kernel_rfl
theorem by129 : byOf Try.prog 129 = some 32 := by kernel_rfl
theorem zero129 : zeroOf Try.prog 129 = some [.i64 0, .i64 0, .i64 0, .i64 0] := by kernel_rfl
theorem row129 : isRowT Try.prog 129 = some true := by kernel_rfl
theorem arr129 : arrT Try.prog 129 = some (4, 3) := by kernel_rfl
theorem bld129 : buildT Try.prog 129 = some ([.i64 0, .i64 0, .i64 0, .i64 0], .inr 1) := by kernel_rfl
theorem sz130 : szOf Try.prog 130 = some 4 := by kernel_rfl
theorem by130 : byOf Try.prog 130 = some 16 := by kernel_rfl
theorem zero130 : zeroOf Try.prog 130 = some [.u32 0#32, .u32 0#32, .u32 0#32, .u32 0#32] := by kernel_rfl
theorem row130 : isRowT Try.prog 130 = some true := by kernel_rfl
theorem arr130 : arrT Try.prog 130 = some (4, 73) := by kernel_rfl
theorem bld130 : buildT Try.prog 130 = some ([.u32 0#32, .u32 0#32, .u32 0#32, .u32 0#32], .inr 1) := by kernel_rfl
theorem sz131 : szOf Try.prog 131 = some 1 := by kernel_rfl
theorem by131 : byOf Try.prog 131 = some 8 := by kernel_rfl
theorem zero131 : zeroOf Try.prog 131 = some [.nilFn] := by kernel_rfl
theorem row131 : isRowT Try.prog 131 = some false := by kernel_rfl
theorem sz133 : szOf Try.prog 133 = some 1 := by kernel_rfl
theorem by133 : byOf Try.prog 133 = some 8 := by kernel_rfl
theorem zero133 : zeroOf Try.prog 133 = some [.nilFn] := by kernel_rfl
theorem row133 : isRowT Try.prog 133 = some false := by kernel_rfl
theorem sz134 : szOf Try.prog 134 = some 1 := by kernel_rfl
theorem by134 : byOf Try.prog 134 = some 8 := by kernel_rfl
theorem zero134 : zeroOf Try.prog 134 = some [.nilPtr] := by kernel_rfl
theorem row134 : isRowT Try.prog 134 = some false := by kernel_rfl
theorem sz135 : szOf Try.prog 135 = some 1 := by kernel_rfl
theorem by135 : byOf Try.prog 135 = some 8 := by kernel_rfl
theorem zero135 : zeroOf Try.prog 135 = some [.nilFn] := by kernel_rfl
theorem row135 : isRowT Try.prog 135 = some false := by kernel_rfl
theorem sz136 : szOf Try.prog 136 = some 1 := by kernel_rfl
theorem by136 : byOf Try.prog 136 = some 8 := by kernel_rfl
theorem zero136 : zeroOf Try.prog 136 = some [.nilFn] := by kernel_rfl
theorem row136 : isRowT Try.prog 136 = some false := by kernel_rfl
theorem sz138 : szOf Try.prog 138 = some 1 := by kernel_rfl
theorem by138 : byOf Try.prog 138 = some 8 := by kernel_rfl
theorem zero138 : zeroOf Try.prog 138 = some [.nilFn] := by kernel_rfl
theorem row138 : isRowT Try.prog 138 = some false := by kernel_rfl
theorem sz139 : szOf Try.prog 139 = some 1 := by kernel_rfl
theorem by139 : byOf Try.prog 139 = some 8 := by kernel_rfl
theorem zero139 : zeroOf Try.prog 139 = some [.nilFn] := by kernel_rfl
theorem row139 : isRowT Try.prog 139 = some false := by kernel_rfl
theorem sz140 : szOf Try.prog 140 = some 1 := by kernel_rfl
theorem by140 : byOf Try.prog 140 = some 8 := by kernel_rfl
theorem zero140 : zeroOf Try.prog 140 = some [.nilFn] := by kernel_rfl
theorem row140 : isRowT Try.prog 140 = some false := by kernel_rfl
theorem sz141 : szOf Try.prog 141 = some 2 := by kernel_rfl
theorem by141 : byOf Try.prog 141 = some 16 := by kernel_rfl
theorem zero141 : zeroOf Try.prog 141 = some [.i64 0, .i64 0] := by kernel_rfl
theorem row141 : isRowT Try.prog 141 = some true := by kernel_rfl
theorem arr141 : arrT Try.prog 141 = some (2, 3) := by kernel_rfl
theorem bld141 : buildT Try.prog 141 = some ([.i64 0, .i64 0], .inr 1) := by kernel_rfl
theorem sz142 : szOf Try.prog 142 = some 4 := by kernel_rfl
theorem by142 : byOf Try.prog 142 = some 32 := by kernel_rfl
theorem zero142 : zeroOf Try.prog 142 = some [.i64 0, .i64 0, .i64 0, .i64 0] := by kernel_rfl
theorem row142 : isRowT Try.prog 142 = some true := by kernel_rfl
theorem arr142 : arrT Try.prog 142 = some (2, 141) := by kernel_rfl
theorem bld142 : buildT Try.prog 142 = some ([.i64 0, .i64 0, .i64 0, .i64 0], .inr 2) := by kernel_rfl
theorem sz143 : szOf Try.prog 143 = some 4 := by kernel_rfl
theorem by143 : byOf Try.prog 143 = some 40 := by kernel_rfl
theorem zero143 : zeroOf Try.prog 143 = some [.nilPtr, .nilPtr, .nilPtr, .str []] := by kernel_rfl
theorem row143 : isRowT Try.prog 143 = some true := by kernel_rfl
theorem fld143_0 : fldOf Try.prog 143 0 = some (0, 17) := by kernel_rfl
theorem fld143_1 : fldOf Try.prog 143 1 = some (1, 17) := by kernel_rfl
theorem fld143_2 : fldOf Try.prog 143 2 = some (2, 17) := by kernel_rfl
theorem fld143_3 : fldOf Try.prog 143 3 = some (3, 9) := by kernel_rfl
theorem bld143 : buildT Try.prog 143 = some ([.nilPtr, .nilPtr, .nilPtr, .str []], .inl [(0, 1), (1, 1), (2, 1), (3, 1)]) := by kernel_rfl
theorem sz144 : szOf Try.prog 144 = some 4 := by kernel_rfl
theorem by144 : byOf Try.prog 144 = some 40 := by kernel_rfl
theorem zero144 : zeroOf Try.prog 144 = some [.nilPtr, .nilPtr, .nilPtr, .str []] := by kernel_rfl
theorem row144 : isRowT Try.prog 144 = some true := by kernel_rfl
theorem fld144_0 : fldOf Try.prog 144 0 = some (0, 17) := by kernel_rfl
theorem fld144_1 : fldOf Try.prog 144 1 = some (1, 17) := by kernel_rfl
theorem fld144_2 : fldOf Try.prog 144 2 = some (2, 17) := by kernel_rfl
theorem fld144_3 : fldOf Try.prog 144 3 = some (3, 9) := by kernel_rfl
theorem bld144 : buildT Try.prog 144 = some ([.nilPtr, .nilPtr, .nilPtr, .str []], .inl [(0, 1), (1, 1), (2, 1), (3, 1)]) := by kernel_rfl
theorem sz145 : szOf Try.prog 145 = some 0 := by kernel_rfl
theorem by145 : byOf Try.prog 145 = some 0 := by kernel_rfl
theorem zero145 : zeroOf Try.prog 145 = some [] := by kernel_rfl
theorem row145 : isRowT Try.prog 145 = some true := by kernel_rfl
theorem arr145 : arrT Try.prog 145 = some (0, 16) := by kernel_rfl
theorem bld145 : buildT Try.prog 145 = some ([], .inr 1) := by kernel_rfl
theorem sz146 : szOf Try.prog 146 = some 0 := by kernel_rfl
theorem by146 : byOf Try.prog 146 = some 0 := by kernel_rfl
theorem zero146 : zeroOf Try.prog 146 = some [] := by kernel_rfl
theorem row146 : isRowT Try.prog 146 = some true := by kernel_rfl
theorem fld146_0 : fldOf Try.prog 146 0 = some (0, 145) := by kernel_rfl
theorem bld146 : buildT Try.prog 146 = some ([], .inl [(0, 0)]) := by kernel_rfl
theorem sz147 : szOf Try.prog 147 = some 0 := by kernel_rfl
theorem by147 : byOf Try.prog 147 = some 0 := by kernel_rfl
theorem zero147 : zeroOf Try.prog 147 = some [] := by kernel_rfl
theorem row147 : isRowT Try.prog 147 = some true := by kernel_rfl
theorem fld147_0 : fldOf Try.prog 147 0 = some (0, 145) := by kernel_rfl
theorem bld147 : buildT Try.prog 147 = some ([], .inl [(0, 0)]) := by kernel_rfl
theorem sz148 : szOf Try.prog 148 = some 1 := by kernel_rfl
theorem by148 : byOf Try.prog 148 = some 1 := by kernel_rfl
theorem zero148 : zeroOf Try.prog 148 = some [.u8 0#8] := by kernel_rfl
theorem row148 : isRowT Try.prog 148 = some false := by kernel_rfl
theorem sz149 : szOf Try.prog 149 = some 1 := by kernel_rfl
theorem by149 : byOf Try.prog 149 = some 1 := by kernel_rfl
theorem zero149 : zeroOf Try.prog 149 = some [.u8 0#8] := by kernel_rfl
theorem row149 : isRowT Try.prog 149 = some false := by kernel_rfl
theorem sz150 : szOf Try.prog 150 = some 1 := by kernel_rfl
theorem by150 : byOf Try.prog 150 = some 8 := by kernel_rfl
theorem zero150 : zeroOf Try.prog 150 = some [.nilFn] := by kernel_rfl
theorem row150 : isRowT Try.prog 150 = some false := by kernel_rfl
theorem sz151 : szOf Try.prog 151 = some 1 := by kernel_rfl
theorem by151 : byOf Try.prog 151 = some 4 := by kernel_rfl
theorem zero151 : zeroOf Try.prog 151 = some [.i32 0] := by kernel_rfl
theorem row151 : isRowT Try.prog 151 = some false := by kernel_rfl
theorem sz152 : szOf Try.prog 152 = some 1 := by kernel_rfl
theorem by152 : byOf Try.prog 152 = some 4 := by kernel_rfl
theorem zero152 : zeroOf Try.prog 152 = some [.i32 0] := by kernel_rfl
theorem row152 : isRowT Try.prog 152 = some false := by kernel_rfl
theorem sz153 : szOf Try.prog 153 = some 11 := by kernel_rfl
theorem by153 : byOf Try.prog 153 = some 48 := by kernel_rfl
theorem zero153 : zeroOf Try.prog 153 = some [.u64 0#64, .u64 0#64, .u32 0#32, .u8 0#8, .u8 0#8, .u8 0#8, .u8 0#8, .nilFn, .nilPtr, .i32 0, .i32 0] := by kernel_rfl
theorem row153 : isRowT Try.prog 153 = some true := by kernel_rfl
theorem fld153_0 : fldOf Try.prog 153 0 = some (0, 12) := by kernel_rfl
theorem fld153_1 : fldOf Try.prog 153 1 = some (1, 12) := by kernel_rfl
theorem fld153_2 : fldOf Try.prog 153 2 = some (2, 73) := by kernel_rfl
theorem fld153_3 : fldOf Try.prog 153 3 = some (3, 148) := by kernel_rfl
theorem fld153_4 : fldOf Try.prog 153 4 = some (4, 5) := by kernel_rfl
theorem fld153_5 : fldOf Try.prog 153 5 = some (5, 5) := by kernel_rfl
theorem fld153_6 : fldOf Try.prog 153 6 = some (6, 149) := by kernel_rfl
theorem fld153_7 : fldOf Try.prog 153 7 = some (7, 150) := by kernel_rfl
theorem fld153_8 : fldOf Try.prog 153 8 = some (8, 121) := by kernel_rfl
theorem fld153_9 : fldOf Try.prog 153 9 = some (9, 151) := by kernel_rfl
theorem fld153_10 : fldOf Try.prog 153 10 = some (10, 152) := by kernel_rfl
theorem bld153 : buildT Try.prog 153 = some ([.u64 0#64, .u64 0#64, .u32 0#32, .u8 0#8, .u8 0#8, .u8 0#8, .u8 0#8, .nilFn, .nilPtr, .i32 0, .i32 0], .inl [(0, 1), (1, 1), (2, 1), (3, 1), (4, 1), (5, 1), (6, 1), (7, 1), (8, 1), (9, 1), (10, 1)]) := by kernel_rfl
theorem sz154 : szOf Try.prog 154 = some 11 := by kernel_rfl
theorem by154 : byOf Try.prog 154 = some 48 := by kernel_rfl
theorem zero154 : zeroOf Try.prog 154 = some [.u64 0#64, .u64 0#64, .u32 0#32, .u8 0#8, .u8 0#8, .u8 0#8, .u8 0#8, .nilFn, .nilPtr, .i32 0, .i32 0] := by kernel_rfl
theorem row154 : isRowT Try.prog 154 = some true := by kernel_rfl
theorem fld154_0 : fldOf Try.prog 154 0 = some (0, 12) := by kernel_rfl
theorem fld154_1 : fldOf Try.prog 154 1 = some (1, 12) := by kernel_rfl
theorem fld154_2 : fldOf Try.prog 154 2 = some (2, 73) := by kernel_rfl
theorem fld154_3 : fldOf Try.prog 154 3 = some (3, 148) := by kernel_rfl
theorem fld154_4 : fldOf Try.prog 154 4 = some (4, 5) := by kernel_rfl
theorem fld154_5 : fldOf Try.prog 154 5 = some (5, 5) := by kernel_rfl
theorem fld154_6 : fldOf Try.prog 154 6 = some (6, 149) := by kernel_rfl
theorem fld154_7 : fldOf Try.prog 154 7 = some (7, 150) := by kernel_rfl
theorem fld154_8 : fldOf Try.prog 154 8 = some (8, 121) := by kernel_rfl
theorem fld154_9 : fldOf Try.prog 154 9 = some (9, 151) := by kernel_rfl
theorem fld154_10 : fldOf Try.prog 154 10 = some (10, 152) := by kernel_rfl
theorem bld154 : buildT Try.prog 154 = some ([.u64 0#64, .u64 0#64, .u32 0#32, .u8 0#8, .u8 0#8, .u8 0#8, .u8 0#8, .nilFn, .nilPtr, .i32 0, .i32 0], .inl [(0, 1), (1, 1), (2, 1), (3, 1), (4, 1), (5, 1), (6, 1), (7, 1), (8, 1), (9, 1), (10, 1)]) := by kernel_rfl
theorem agt37 : aggTypes Try.prog 37 = some [35, 35] := by kernel_rfl
theorem agt38 : aggTypes Try.prog 38 = some [35, 35, 35] := by kernel_rfl
theorem agt39 : aggTypes Try.prog 39 = some [35, 35, 35] := by kernel_rfl
theorem agt46 : aggTypes Try.prog 46 = some [35, 35, 35, 35, 35, 35, 35, 35, 35, 35] := by kernel_rfl
theorem agt47 : aggTypes Try.prog 47 = some [35, 35, 35, 35, 35, 35, 35, 35, 35, 35] := by kernel_rfl
theorem agt50 : aggTypes Try.prog 50 = some [35, 35] := by kernel_rfl
theorem agt51 : aggTypes Try.prog 51 = some [35, 35] := by kernel_rfl
theorem agt52 : aggTypes Try.prog 52 = some [5, 5, 5, 5, 5, 5, 5, 5, 5, 5, 5, 5, 5, 5, 5, 5] := by kernel_rfl
theorem agt83 : aggTypes Try.prog 83 = some [35, 35, 35, 35, 35] := by kernel_rfl
theorem agt96 : aggTypes Try.prog 96 = some [5, 5, 5, 5] := by kernel_rfl
theorem agt109 : aggTypes Try.prog 109 = some [5, 5, 5, 5, 5, 5, 5, 5, 5, 5, 5, 5, 5, 5, 5, 5] := by kernel_rfl
theorem agt123 : aggTypes Try.prog 123 = some [73, 73, 73, 73, 73, 73, 73, 73, 73, 73, 73, 73, 73, 73, 73, 73] := by kernel_rfl
theorem agt124 : aggTypes Try.prog 124 = some [73, 73, 73, 73, 73, 73, 73, 73, 73, 73, 73, 73, 73, 73, 73, 73] := by kernel_rfl
theorem agt129 : aggTypes Try.prog 129 = some [3, 3, 3, 3] := by kernel_rfl
theorem agt130 : aggTypes Try.prog 130 = some [73, 73, 73, 73] := by kernel_rfl
theorem agt141 : aggTypes Try.prog 141 = some [3, 3] := by kernel_rfl
attribute [go_sem] sz1 by1 zero1 row1 sz2 by2 zero2 row2 sz3 by3 zero3 row3
attribute [go_sem] sz4 by4 zero4 row4 sz5 by5 zero5 row5 sz6 by6 zero6 row6
attribute [go_sem] sz7 by7 zero7 row7 fld7_0 fld7_1 fld7_2 fld7_3 bld7 sz8 by8 zero8
attribute [go_sem] row8 fld8_0 fld8_1 fld8_2 fld8_3 bld8 sz9 by9 zero9 row9 sz10 by10
attribute [go_sem] zero10 row10 sz11 by11 zero11 row11 sz12 by12 zero12 row12 sz13 by13
attribute [go_sem] zero13 row13 fld13_0 fld13_1 bld13 sz14 by14 zero14 row14 fld14_0 fld14_1 bld14
attribute [go_sem] sz15 by15 zero15 row15 sz16 by16 zero16 row16 sz17 by17 zero17 row17
attribute [go_sem] sz18 by18 zero18 row18 fld18_0 bld18 sz19 by19 zero19 row19 fld19_0 bld19
attribute [go_sem] sz20 by20 zero20 row20 sz21 by21 zero21 row21 sz22 by22 zero22 row22
attribute [go_sem] sz24 by24 zero24 row24 sz25 by25 zero25 row25 sz26 by26 zero26 row26
attribute [go_sem] sz27 by27 zero27 row27 sz28 by28 zero28 row28 sz29 by29 zero29 row29
attribute [go_sem] sz30 by30 zero30 row30 sz31 by31 zero31 row31 sz32 by32 zero32 row32
attribute [go_sem] sz33 by33 zero33 row33 sz34 by34 zero34 row34 sz35 by35 zero35 row35
attribute [go_sem] sz36 by36 zero36 row36 sz37 by37 zero37 row37 arr37 bld37 sz38 by38
attribute [go_sem] zero38 row38 arr38 bld38 sz39 by39 zero39 row39 arr39 bld39 sz40 by40
attribute [go_sem] zero40 row40 sz41 by41 zero41 row41 sz42 by42 zero42 row42 sz43 by43
attribute [go_sem] zero43 row43 slc43 sz44 by44 zero44 row44 sz45 by45 zero45 row45 sz46
attribute [go_sem] by46 zero46 row46 arr46 bld46 sz47 by47 zero47 row47 arr47 bld47 sz48
attribute [go_sem] by48 zero48 row48 sz49 by49 zero49 row49 sz50 by50 zero50 row50 fld50_0
attribute [go_sem] fld50_1 bld50 sz51 by51 zero51 row51 fld51_0 fld51_1 bld51 sz52 by52 zero52
attribute [go_sem] row52 arr52 bld52 sz53 by53 zero53 row53 sz54 by54 zero54 row54 sz55
attribute [go_sem] by55 zero55 row55 sz56 by56 zero56 row56 sz57 by57 zero57 row57 sz58
attribute [go_sem] by58 zero58 row58 sz59 by59 zero59 row59 sz60 by60 zero60 row60 sz61
attribute [go_sem] by61 zero61 row61 sz62 by62 zero62 row62 slc62 sz63 by63 zero63 row63
attribute [go_sem] fld63_0 fld63_1 bld63 sz64 by64 zero64 row64 fld64_0 fld64_1 bld64 sz66 by66
attribute [go_sem] zero66 row66 sz67 by67 zero67 row67 sz68 by68 zero68 row68 sz69 by69
attribute [go_sem] zero69 row69 sz70 by70 zero70 row70 sz71 by71 zero71 row71 sz72 by72
attribute [go_sem] zero72 row72 sz73 by73 zero73 row73 sz74 by74 zero74 row74 sz75 by75
attribute [go_sem] zero75 row75 sz76 by76 zero76 row76 sz77 by77 zero77 row77 fld77_0 fld77_1
attribute [go_sem] bld77 sz78 by78 zero78 row78 fld78_0 fld78_1 bld78 sz80 by80 zero80 row80
attribute [go_sem] sz82 by82 zero82 row82 sz83 by83 zero83 row83 arr83 bld83 sz84 by84
attribute [go_sem] zero84 row84 sz85 by85 zero85 row85 sz86 by86 zero86 row86 sz87 by87
attribute [go_sem] zero87 row87 sz88 by88 zero88 row88 sz89 by89 zero89 row89 arr89 bld89
attribute [go_sem] sz90 by90 zero90 row90 slc90 sz91 by91 zero91 row91 sz92 by92 zero92
attribute [go_sem] row92 arr92 bld92 sz93 by93 zero93 row93 fld93_0 fld93_1 bld93 sz94 by94
attribute [go_sem] zero94 row94 fld94_0 fld94_1 bld94 sz95 by95 zero95 row95 sz96 by96 zero96
attribute [go_sem] row96 arr96 bld96 sz97 by97 zero97 row97 sz98 by98 zero98 row98 sz99
attribute [go_sem] by99 zero99 row99 sz100 by100 zero100 row100 fld100_0 fld100_1 bld100 sz101 by101
attribute [go_sem] zero101 row101 fld101_0 fld101_1 bld101 sz102 by102 zero102 row102 sz103 by103 zero103
attribute [go_sem] row103 sz104 by104 zero104 row104 sz106 by106 zero106 row106 sz107 by107 zero107
attribute [go_sem] row107 fld107_0 fld107_1 bld107 sz108 by108 zero108 row108 fld108_0 fld108_1 bld108 sz109
attribute [go_sem] by109 zero109 row109 arr109 bld109 sz110 by110 zero110 row110 sz111 by111 zero111
attribute [go_sem] row111 sz112 by112 zero112 row112 sz113 by113 zero113 row113 sz114 by114 zero114
attribute [go_sem] row114 sz116 by116 zero116 row116 sz118 by118 zero118 row118 sz119 by119 zero119
attribute [go_sem] row119 sz120 by120 zero120 row120 sz121 by121 zero121 row121 sz122 by122 zero122
attribute [go_sem] row122 sz123 by123 zero123 row123 arr123 bld123 sz124 by124 zero124 row124 arr124
attribute [go_sem] bld124 sz125 by125 zero125 row125 sz126 by126 zero126 row126 sz127 by127 zero127
attribute [go_sem] row127 sz128 by128 zero128 row128 slc128 sz129 by129 zero129 row129 arr129 bld129
attribute [go_sem] sz130 by130 zero130 row130 arr130 bld130 sz131 by131 zero131 row131 sz133 by133
attribute [go_sem] zero133 row133 sz134 by134 zero134 row134 sz135 by135 zero135 row135 sz136 by136
attribute [go_sem] zero136 row136 sz138 by138 zero138 row138 sz139 by139 zero139 row139 sz140 by140
attribute [go_sem] zero140 row140 sz141 by141 zero141 row141 arr141 bld141 sz142 by142 zero142 row142
attribute [go_sem] arr142 bld142 sz143 by143 zero143 row143 fld143_0 fld143_1 fld143_2 fld143_3 bld143 sz144
attribute [go_sem] by144 zero144 row144 fld144_0 fld144_1 fld144_2 fld144_3 bld144 sz145 by145 zero145 row145
attribute [go_sem] arr145 bld145 sz146 by146 zero146 row146 fld146_0 bld146 sz147 by147 zero147 row147
attribute [go_sem] fld147_0 bld147 sz148 by148 zero148 row148 sz149 by149 zero149 row149 sz150 by150
attribute [go_sem] zero150 row150 sz151 by151 zero151 row151 sz152 by152 zero152 row152 sz153 by153
attribute [go_sem] zero153 row153 fld153_0 fld153_1 fld153_2 fld153_3 fld153_4 fld153_5 fld153_6 fld153_7 fld153_8 fld153_9
attribute [go_sem] fld153_10 bld153 sz154 by154 zero154 row154 fld154_0 fld154_1 fld154_2 fld154_3 fld154_4 fld154_5
attribute [go_sem] fld154_6 fld154_7 fld154_8 fld154_9 fld154_10 bld154 agt37 agt38 agt39 agt46 agt47 agt50
attribute [go_sem] agt51 agt52 agt83 agt96 agt109 agt123 agt124 agt129 agt130 agt141
attribute [go_sem] Try.underlying0 Try.underlying1 Try.underlying2 Try.underlying3 Try.underlying4 Try.underlying5 Try.underlying6 Try.underlying7 Try.underlying8 Try.underlying9
attribute [go_sem] Try.underlying10 Try.underlying11 Try.underlying12 Try.underlying13 Try.underlying14 Try.underlying15 Try.underlying16 Try.underlying17 Try.underlying18 Try.underlying19
attribute [go_sem] Try.underlying20 Try.underlying21 Try.underlying22 Try.underlying23 Try.underlying24 Try.underlying25 Try.underlying26 Try.underlying27 Try.underlying28 Try.underlying29
attribute [go_sem] Try.underlying30 Try.underlying31 Try.underlying32 Try.underlying33 Try.underlying34 Try.underlying35 Try.underlying36 Try.underlying37 Try.underlying38 Try.underlying39
attribute [go_sem] Try.underlying40 Try.underlying41 Try.underlying42 Try.underlying43 Try.underlying44 Try.underlying45 Try.underlying46 Try.underlying47 Try.underlying48 Try.underlying49
attribute [go_sem] Try.underlying50 Try.underlying51 Try.underlying52 Try.underlying53 Try.underlying54 Try.underlying55 Try.underlying56 Try.underlying57 Try.underlying58 Try.underlying59
attribute [go_sem] Try.underlying60 Try.underlying61 Try.underlying62 Try.underlying63 Try.underlying64 Try.underlying65 Try.underlying66 Try.underlying67 Try.underlying68 Try.underlying69
attribute [go_sem] Try.underlying70 Try.underlying71 Try.underlying72 Try.underlying73 Try.underlying74 Try.underlying75 Try.underlying76 Try.underlying77 Try.underlying78 Try.underlying79
attribute [go_sem] Try.underlying80 Try.underlying81 Try.underlying82 Try.underlying83 Try.underlying84 Try.underlying85 Try.underlying86 Try.underlying87 Try.underlying88 Try.underlying89
attribute [go_sem] Try.underlying90 Try.underlying91 Try.underlying92 Try.underlying93 Try.underlying94 Try.underlying95 Try.underlying96 Try.underlying97 Try.underlying98 Try.underlying99
attribute [go_sem] Try.underlying100 Try.underlying101 Try.underlying102 Try.underlying103 Try.underlying104 Try.underlying105 Try.underlying106 Try.underlying107 Try.underlying108 Try.underlying109
attribute [go_sem] Try.underlying110 Try.underlying111 Try.underlying112 Try.underlying113 Try.underlying114 Try.underlying115 Try.underlying116 Try.underlying117 Try.underlying118 Try.underlying119
attribute [go_sem] Try.underlying120 Try.underlying121 Try.underlying122 Try.underlying123 Try.underlying124 Try.underlying125 Try.underlying126 Try.underlying127 Try.underlying128 Try.underlying129
attribute [go_sem] Try.underlying130 Try.underlying131 Try.underlying132 Try.underlying133 Try.underlying134 Try.underlying135 Try.underlying136 Try.underlying137 Try.underlying138 Try.underlying139
attribute [go_sem] Try.underlying140 Try.underlying141 Try.underlying142 Try.underlying143 Try.underlying144 Try.underlying145 Try.underlying146 Try.underlying147 Try.underlying148 Try.underlying149
attribute [go_sem] Try.underlying150 Try.underlying151 Try.underlying152 Try.underlying153 Try.underlying154
attribute [go_sem] Try.results3 Try.ntmps3 Try.results4 Try.ntmps4 Try.results5 Try.ntmps5 Try.results6 Try.ntmps6 Try.results7 Try.ntmps7 Try.results8 Try.ntmps8 Try.results9 Try.ntmps9 Try.results10 Try.ntmps10 Try.results11 Try.ntmps11 Try.results12 Try.ntmps12
attribute [go_sem] Try.results13 Try.ntmps13 Try.results14 Try.ntmps14 Try.results15 Try.ntmps15 Try.results16 Try.ntmps16 Try.results17 Try.ntmps17 Try.results18 Try.ntmps18 Try.results19 Try.ntmps19 Try.results20 Try.ntmps20 Try.results21 Try.ntmps21 Try.results22 Try.ntmps22
attribute [go_sem] Try.results23 Try.ntmps23 Try.results24 Try.ntmps24 Try.results25 Try.ntmps25 Try.results26 Try.ntmps26 Try.results27 Try.ntmps27 Try.results28 Try.ntmps28 Try.results29 Try.ntmps29 Try.results30 Try.ntmps30 Try.results31 Try.ntmps31 Try.results32 Try.ntmps32
attribute [go_sem] Try.results33 Try.ntmps33 Try.results34 Try.ntmps34 Try.results35 Try.ntmps35 Try.results36 Try.ntmps36 Try.results37 Try.ntmps37 Try.results38 Try.ntmps38 Try.results39 Try.ntmps39 Try.results40 Try.ntmps40 Try.results41 Try.ntmps41 Try.results42 Try.ntmps42
attribute [go_sem] Try.results43 Try.ntmps43 Try.results44 Try.ntmps44 Try.results45 Try.ntmps45 Try.results46 Try.ntmps46 Try.results47 Try.ntmps47 Try.results48 Try.ntmps48 Try.results49 Try.ntmps49 Try.results50 Try.ntmps50 Try.results51 Try.ntmps51 Try.results52 Try.ntmps52
attribute [go_sem] Try.results53 Try.ntmps53 Try.results54 Try.ntmps54 Try.results55 Try.ntmps55 Try.results56 Try.ntmps56 Try.results57 Try.ntmps57 Try.results58 Try.ntmps58 Try.results59 Try.ntmps59 Try.results60 Try.ntmps60 Try.results61 Try.ntmps61 Try.results62 Try.ntmps62
attribute [go_sem] Try.results63 Try.ntmps63 Try.results64 Try.ntmps64 Try.results65 Try.ntmps65 Try.results66 Try.ntmps66 Try.results67 Try.ntmps67 Try.results68 Try.ntmps68 Try.results69 Try.ntmps69 Try.results70 Try.ntmps70 Try.results71 Try.ntmps71 Try.results72 Try.ntmps72
attribute [go_sem] Try.results73 Try.ntmps73 Try.results74 Try.ntmps74 Try.results75 Try.ntmps75 Try.results76 Try.ntmps76 Try.results77 Try.ntmps77 Try.results78 Try.ntmps78 Try.results79 Try.ntmps79 Try.results80 Try.ntmps80 Try.results81 Try.ntmps81 Try.results82 Try.ntmps82
attribute [go_sem] Try.results83 Try.ntmps83 Try.results84 Try.ntmps84 Try.results85 Try.ntmps85 Try.results86 Try.ntmps86 Try.results87 Try.ntmps87 Try.results88 Try.ntmps88 Try.results89 Try.ntmps89 Try.results90 Try.ntmps90 Try.results91 Try.ntmps91 Try.results92 Try.ntmps92
attribute [go_sem] Try.results93 Try.ntmps93 Try.results94 Try.ntmps94 Try.results95 Try.ntmps95 Try.results96 Try.ntmps96 Try.results97 Try.ntmps97 Try.results98 Try.ntmps98 Try.results99 Try.ntmps99 Try.results100 Try.ntmps100 Try.results101 Try.ntmps101 Try.results102 Try.ntmps102
attribute [go_sem] Try.results103 Try.ntmps103 Try.results104 Try.ntmps104 Try.results105 Try.ntmps105 Try.results106 Try.ntmps106 Try.results107 Try.ntmps107 Try.results108 Try.ntmps108 Try.results109 Try.ntmps109 Try.results110 Try.ntmps110 Try.results111 Try.ntmps111 Try.results112 Try.ntmps112
attribute [go_sem] Try.results113 Try.ntmps113 Try.results114 Try.ntmps114 Try.results115 Try.ntmps115 Try.results116 Try.ntmps116 Try.results117 Try.ntmps117 Try.results118 Try.ntmps118 Try.results119 Try.ntmps119 Try.results120 Try.ntmps120 Try.results121 Try.ntmps121 Try.results122 Try.ntmps122
attribute [go_sem] Try.results123 Try.ntmps123 Try.results124 Try.ntmps124 Try.results125 Try.ntmps125 Try.results126 Try.ntmps126 Try.results127 Try.ntmps127 Try.results128 Try.ntmps128 Try.results129 Try.ntmps129 Try.results130 Try.ntmps130 Try.results131 Try.ntmps131 Try.results132 Try.ntmps132
attribute [go_sem] Try.results133 Try.ntmps133 Try.results134 Try.ntmps134 Try.results135 Try.ntmps135 Try.results136 Try.ntmps136 Try.results137 Try.ntmps137 Try.results138 Try.ntmps138 Try.results139 Try.ntmps139 Try.results140 Try.ntmps140 Try.results141 Try.ntmps141 Try.results142 Try.ntmps142
attribute [go_sem] Try.results143 Try.ntmps143 Try.results144 Try.ntmps144 Try.results145 Try.ntmps145 Try.results146 Try.ntmps146
end Go.Vm.Ty
end
section
namespace Go.Vm
open Go.Proofs
set_option maxRecDepth 20000
def gmulL : Nat → BitVec 8 → BitVec 8 → BitVec 8 → BitVec 8
  | 0, _, _, n => n
  | k + 1, a, b, n => if 0#8 < b then gmulL k (a <<< 1 ^^^ a >>> 7 * 27) (b >>> 1) (n ^^^ a * (b &&& 1)) else n
def gmul (a b : BitVec 8) : BitVec 8 := gmulL 8 a b 0
theorem Mul_spec (a b : BitVec 8) : PureFn Try.prog 85 [.u8 a, .u8 b] (.u8 (gmul a b)) := by
  refine pure_of_vc (by kernel_rfl) (fn := Try.f85) (by kernel_rfl) Try.func85 rfl (by show 2 ≤ 23; decide) (by simp [lows, V.low]) (by simp [lows, V.low, lows_ite, low_ite]) (go_start ?_)
  simp only [go_sem, ↓reduceIte, Nat.reduceEqDiff, Nat.reduceLT, Nat.reduceLeDiff, Nat.reduceAdd, Nat.reduceSub, Nat.reduceMul, Nat.reduceMod, Nat.reduceDiv, Int.reduceLE, Int.reduceLT, Int.reduceToNat, Int.reduceAdd, Int.reduceSub, Int.reduceMul, Int.reduceEq, Int.reduceNeg, BitVec.reduceOfInt, BitVec.reduceToNat, BitVec.reduceEq, BitVec.reduceNe, BitVec.reduceLT, reduceCtorEq, List.forall_mem_nil, Try.ntmps85, Try.results85]
  refine go_loop (fun j s => ∃ a' b' n', s = ⟨[(0, .u8 a'), (1, .u8 b'), (5, .u8 n')], []⟩ ∧ b'.toNat < 2 ^ j ∧ gmul a b = gmulL j a' b' n') ?_ ?_
  · exact start_mk 8 ⟨[(0, .u8 a), (1, .u8 b), (5, .u8 0)], []⟩ (by simp [St.get, lookS]) rfl (fun _ _ h => h) ⟨a, b, 0, rfl, b.isLt, rfl⟩
  · rintro j s ⟨a', b', n', rfl, hb, he⟩ _
    simp only [go_sem, ↓reduceIte, Nat.reduceEqDiff, Nat.reduceLT, Nat.reduceLeDiff, Nat.reduceAdd, Nat.reduceSub, Nat.reduceMul, Nat.reduceMod, Nat.reduceDiv, Int.reduceLE, Int.reduceLT, Int.reduceToNat, Int.reduceAdd, Int.reduceSub, Int.reduceMul, Int.reduceEq, Int.reduceNeg, BitVec.reduceOfInt, BitVec.reduceToNat, BitVec.reduceEq, BitVec.reduceNe, BitVec.reduceLT, reduceCtorEq, List.forall_mem_nil]
    split
    · rename_i h0
      cases j with
      | zero => exact absurd h0 (by rw [BitVec.lt_def]; simp; omega)
      | succ j =>
        refine again_mk j ⟨[(0, .u8 (a' <<< 1 ^^^ a' >>> 7 * 27)), (1, .u8 (b' >>> 1)), (5, .u8 (n' ^^^ a' * (b' &&& 1)))], []⟩ (by omega) (by simp [St.get, lookS]) rfl (fun _ _ h => h) ⟨_, _, _, rfl, ?_, ?_⟩
        · simp [Nat.shiftRight_eq_div_pow]; omega
        · rw [he, gmulL, if_pos h0]
    · rename_i h0
      rw [he]
      cases j with
      | zero => rfl
      | succ j => rw [gmulL, if_neg h0]
def rmA (a b : BitVec 8) : Nat → Int
  | 0 => 0
  | i + 1 => xor64 (rmA a b i) (w64 (shl64 a.toNat i * (shr64 b.toNat i).tmod 2))
def rmR (c : Int) : Nat → Int
  | 0 => c
  | i + 1 => xor64 (rmR c i) (w64 (shl64 283 (6 - i) * (shr64 (rmR c i) (14 - i)).tmod 2))
def rmul (a b : BitVec 8) : BitVec 8 := BitVec.ofInt 8 (rmR (rmA a b 8) 7)
theorem RMul_spec (a b : BitVec 8) : PureFn Try.prog 87 [.u8 a, .u8 b] (.u8 (rmul a b)) := by
  refine pure_of_vc (by kernel_rfl) (fn := Try.f87) (by kernel_rfl) Try.func87 rfl (by show 2 ≤ 40; decide) (by simp [lows, V.low]) (by simp [lows, V.low, lows_ite, low_ite]) (go_start ?_)
  simp only [go_sem, ↓reduceIte, Nat.reduceEqDiff, Nat.reduceLT, Nat.reduceLeDiff, Nat.reduceAdd, Nat.reduceSub, Nat.reduceMul, Nat.reduceMod, Nat.reduceDiv, Int.reduceLE, Int.reduceLT, Int.reduceToNat, Int.reduceAdd, Int.reduceSub, Int.reduceMul, Int.reduceEq, Int.reduceNeg, BitVec.reduceOfInt, BitVec.reduceToNat, BitVec.reduceEq, BitVec.reduceNe, BitVec.reduceLT, reduceCtorEq, List.forall_mem_nil, Try.ntmps87, Try.results87]
  refine go_loop (fun j s => ∃ i, i + j = 8 ∧ s = ⟨[(0, .u8 a), (1, .u8 b), (5, .i64 (rmA a b i)), (8, .i64 i)], []⟩) ?_ ?_
  · exact start_mk 8 ⟨[(0, .u8 a), (1, .u8 b), (5, .i64 0), (8, .i64 0)], []⟩ (by simp [St.get, lookS]) rfl (fun _ _ h => h) ⟨0, by omega, rfl⟩
  · rintro j s ⟨i, hi, rfl⟩ _
    simp only [go_sem, ↓reduceIte, Nat.reduceEqDiff, Nat.reduceLT, Nat.reduceLeDiff, Nat.reduceAdd, Nat.reduceSub, Nat.reduceMul, Nat.reduceMod, Nat.reduceDiv, Int.reduceLE, Int.reduceLT, Int.reduceToNat, Int.reduceAdd, Int.reduceSub, Int.reduceMul, Int.reduceEq, Int.reduceNeg, BitVec.reduceOfInt, BitVec.reduceToNat, BitVec.reduceEq, BitVec.reduceNe, BitVec.reduceLT, reduceCtorEq, List.forall_mem_nil]
    split
    · rename_i h0
      refine ⟨by omega, by omega, by kernel_rfl, ?_⟩
      refine again_mk (j - 1) ⟨[(0, .u8 a), (1, .u8 b), (5, .i64 (rmA a b (i + 1))), (8, .i64 (i + 1 : Nat))], []⟩ (by omega) ?_ rfl (fun _ _ h => h) ⟨i + 1, by omega, rfl⟩
      have : w64 ((i : Int) + 1) = ((i + 1 : Nat) : Int) := by rw [w64_of (by omega) (by omega)]; omega
      simp [St.get, lookS, rmA, this]
    · obtain rfl : i = 8 := by omega
      refine go_loop (fun j s => ∃ i, i + j = 7 ∧ s = ⟨[(0, .u8 a), (1, .u8 b), (5, .i64 (rmR (rmA a b 8) i)), (7, .i64 (14 - i))], []⟩) ?_ ?_
      · exact start_mk 7 ⟨[(0, .u8 a), (1, .u8 b), (5, .i64 (rmA a b 8)), (7, .i64 14)], []⟩ (by simp [St.get, lookS]) rfl (fun _ _ h => h) ⟨0, by omega, rfl⟩
      · rintro j s ⟨i, hi, rfl⟩ _
        simp only [go_sem, ↓reduceIte, Nat.reduceEqDiff, Nat.reduceLT, Nat.reduceLeDiff, Nat.reduceAdd, Nat.reduceSub, Nat.reduceMul, Nat.reduceMod, Nat.reduceDiv, Int.reduceLE, Int.reduceLT, Int.reduceToNat, Int.reduceAdd, Int.reduceSub, Int.reduceMul, Int.reduceEq, Int.reduceNeg, BitVec.reduceOfInt, BitVec.reduceToNat, BitVec.reduceEq, BitVec.reduceNe, BitVec.reduceLT, reduceCtorEq, List.forall_mem_nil]
        split
        · rename_i h1
          have e1 : w64 (14 - (i : Int) - 8) = 6 - i := by rw [w64_of (by omega) (by omega)]; omega
          have e2 : w64 (14 - (i : Int) - 1) = 14 - (i + 1 : Nat) := by rw [w64_of (by omega) (by omega)]; omega
          simp only [e1, e2]
          refine ⟨by omega, by omega, by kernel_rfl, ?_⟩
          refine again_mk (j - 1) ⟨[(0, .u8 a), (1, .u8 b), (5, .i64 (rmR (rmA a b 8) (i + 1))), (7, .i64 (14 - (i + 1 : Nat)))], []⟩ (by omega) ?_ rfl (fun _ _ h => h) ⟨i + 1, by omega, rfl⟩
          have e3 : (6 - (i : Int)).toNat = 6 - i := by omega
          have e4 : (14 - (i : Int)).toNat = 14 - i := by omega
          simp [St.get, lookS, rmR, e3, e4]
        · obtain rfl : i = 7 := by omega
          rfl
def nx (a : Nat) : Nat := (a * 2 % 256) ^^^ (a / 128 * 27)
def ngm : Nat → Nat → Nat → Nat → Nat := fun k => Nat.rec (fun _ _ n => n) (fun _ ih a b n => ih (nx a) (b / 2) (n ^^^ a * (b % 2))) k
def nrA (a b : Nat) : Nat → Nat := fun i => Nat.rec 0 (fun i ih => ih ^^^ ((a <<< i) * ((b >>> i) % 2))) i
def nrR (c : Nat) : Nat → Nat := fun i => Nat.rec c (fun i ih => ih ^^^ ((283 <<< (6 - i)) * ((ih >>> (14 - i)) % 2))) i
theorem chk : nall (fun a => nall (fun b => Nat.beq (ngm 8 a b 0) (nrR (nrA a b 8) 7 % 256)) 256) 256 = true := by decide +kernel
theorem nrA_lt (a b : Nat) (ha : a < 256) : ∀ i, i ≤ 8 → nrA a b i < 32768
  | 0, _ => by show 0 < _; omega
  | i + 1, h => by
    have := nrA_lt a b ha i (by omega)
    refine Nat.xor_lt_two_pow (n := 15) this ?_
    have h2 : (b >>> i) % 2 ≤ 1 := by omega
    have h3 : a <<< i < 32768 := by
      rw [Nat.shiftLeft_eq]
      have : 2 ^ i ≤ 2 ^ 7 := Nat.pow_le_pow_right (by omega) (by omega)
      have : a * 2 ^ i ≤ 255 * 2 ^ 7 := Nat.mul_le_mul (by omega) this
      omega
    have : (a <<< i) * ((b >>> i) % 2) ≤ (a <<< i) * 1 := Nat.mul_le_mul_left _ h2
    show _ < 32768
    omega
theorem rmA_eq (a b : BitVec 8) : ∀ i, i ≤ 8 → rmA a b i = (nrA a.toNat b.toNat i : Nat)
  | 0, _ => rfl
  | i + 1, h => by
    have hl := nrA_lt a.toNat b.toNat a.isLt i (by omega)
    have hl2 := nrA_lt a.toNat b.toNat a.isLt (i + 1) h
    have h3 : a.toNat <<< i < 32768 := by
      rw [Nat.shiftLeft_eq]
      have : 2 ^ i ≤ 2 ^ 7 := Nat.pow_le_pow_right (by omega) (by omega)
      have : a.toNat * 2 ^ i ≤ 255 * 2 ^ 7 := Nat.mul_le_mul (by omega) this
      omega
    have h4 : (a.toNat <<< i) * ((b.toNat >>> i) % 2) ≤ (a.toNat <<< i) * 1 := Nat.mul_le_mul_left _ (by omega)
    rw [rmA, rmA_eq a b i (by omega), shl64_nat (by omega) (by omega), shr64_nat (by omega), show (2 : Int) = ((2 : Nat) : Int) from rfl, tmod_nat, mul64_nat (by omega), xor64_nat (by omega) (by omega)]
    rfl
theorem nrR_lt (c : Nat) (hc : c < 32768) : ∀ i, i ≤ 7 → nrR c i < 32768
  | 0, _ => hc
  | i + 1, h => by
    have := nrR_lt c hc i (by omega)
    refine Nat.xor_lt_two_pow (n := 15) this ?_
    have h3 : 283 <<< (6 - i) < 32768 := by
      rw [Nat.shiftLeft_eq]
      have : 2 ^ (6 - i) ≤ 2 ^ 6 := Nat.pow_le_pow_right (by omega) (by omega)
      omega
    have : (283 <<< (6 - i)) * ((nrR c i >>> (14 - i)) % 2) ≤ (283 <<< (6 - i)) * 1 := Nat.mul_le_mul_left _ (by omega)
    show _ < 32768
    have e : (Nat.rec c (fun i ih => ih ^^^ ((283 <<< (6 - i)) * ((ih >>> (14 - i)) % 2))) i : Nat) = nrR c i := rfl
    rw [e]
    omega
theorem rmR_eq (c : Nat) (hc : c < 32768) : ∀ i, i ≤ 7 → rmR c i = (nrR c i : Nat)
  | 0, _ => rfl
  | i + 1, h => by
    have hl := nrR_lt c hc i (by omega)
    have h3 : 283 <<< (6 - i) < 32768 := by
      rw [Nat.shiftLeft_eq]
      have : 2 ^ (6 - i) ≤ 2 ^ 6 := Nat.pow_le_pow_right (by omega) (by omega)
      omega
    have h4 : (283 <<< (6 - i)) * ((nrR c i >>> (14 - i)) % 2) ≤ (283 <<< (6 - i)) * 1 := Nat.mul_le_mul_left _ (by omega)
    rw [rmR, rmR_eq c hc i (by omega), show (283 : Int) = ((283 : Nat) : Int) from rfl, shl64_nat (by omega) (by omega), shr64_nat (by omega), show (2 : Int) = ((2 : Nat) : Int) from rfl, tmod_nat, mul64_nat (by omega), xor64_nat (by omega) (by omega)]
    rfl
theorem rmul_eq (a b : BitVec 8) : rmul a b = BitVec.ofNat 8 (nrR (nrA a.toNat b.toNat 8) 7) := by
  unfold rmul
  rw [rmA_eq a b 8 (by omega), rmR_eq _ (nrA_lt _ _ a.isLt 8 (by omega)) 7 (by omega), BitVec.ofInt_natCast]
theorem nx_eq (a : BitVec 8) : (a <<< 1 ^^^ a >>> 7 * 27).toNat = nx a.toNat := by
  have h : ∀ x : Nat, nall (fun x => Nat.beq (((BitVec.ofNat 8 x) <<< 1 ^^^ (BitVec.ofNat 8 x) >>> 7 * 27).toNat) (nx x)) 256 = true := fun _ => by decide +kernel
  have := nall_get (h 0) a.toNat a.isLt
  have e : BitVec.ofNat 8 a.toNat = a := by simp
  simp only [e] at this
  exact Nat.eq_of_beq_eq_true this
theorem gmulL_eq : ∀ (k : Nat) (a b n : BitVec 8), (gmulL k a b n).toNat = ngm k a.toNat b.toNat n.toNat
  | 0, _, _, _ => rfl
  | k + 1, a, b, n => by
    rw [gmulL]
    have hs : ngm (k + 1) a.toNat b.toNat n.toNat = ngm k (nx a.toNat) (b.toNat / 2) (n.toNat ^^^ a.toNat * (b.toNat % 2)) := rfl
    split
    · rw [gmulL_eq k, hs, nx_eq]
      congr 1
      · have : b &&& 1 = BitVec.ofNat 8 (b.toNat % 2) := by
          apply BitVec.eq_of_toNat_eq
          simp only [BitVec.toNat_and, BitVec.toNat_ofNat]
          rw [show BitVec.toNat (1 : BitVec 8) = 2 ^ 1 - 1 from rfl, Nat.and_two_pow_sub_one_eq_mod]; omega
        rw [this]
        have h2 : b.toNat % 2 = 0 ∨ b.toNat % 2 = 1 := by omega
        rcases h2 with h2 | h2 <;> simp [h2]
    · rename_i h
      have : b = 0#8 := by
        apply BitVec.eq_of_toNat_eq
        rw [BitVec.lt_def] at h; simp at h ⊢; omega
      subst this
      have z : ∀ k a n, ngm k a 0 n = n := by
        intro k
        induction k with
        | zero => intro _ _; rfl
        | succ k ih => intro a n; show ngm k (nx a) (0 / 2) (n ^^^ a * (0 % 2)) = n; simp [ih]
      exact (z _ _ _).symm
theorem gmul_rmul (a b : BitVec 8) : gmul a b = rmul a b := by
  apply BitVec.eq_of_toNat_eq
  rw [rmul_eq]
  have := Nat.eq_of_beq_eq_true (nall_get (nall_get chk a.toNat a.isLt) b.toNat b.isLt)
  show (gmulL 8 a b 0).toNat = _
  rw [gmulL_eq, BitVec.toNat_ofNat]
  exact this
end Go.Vm
end
section
namespace Go.Vm
open Go.Proofs
set_option maxRecDepth 20000
def ginvL : Nat → BitVec 8 → BitVec 8 → BitVec 8
  | 0, n, _ => n
  | k + 1, n, s => ginvL k (gmul n (gmul s s)) (gmul s s)
def ginv (a : BitVec 8) : BitVec 8 := ginvL 7 1 a
theorem Inv_spec (a : BitVec 8) : PureFn Try.prog 112 [.u8 a] (.u8 (ginv a)) := by
  refine pure_of_vc (by kernel_rfl) (fn := Try.f112) (by kernel_rfl) Try.func112 rfl (by show 1 ≤ 16; decide) (by simp [lows, V.low]) (by simp [lows, V.low, lows_ite, low_ite]) (go_start ?_)
  simp only [go_sem, ↓reduceIte, Nat.reduceEqDiff, Nat.reduceLT, Nat.reduceLeDiff, Nat.reduceAdd, Nat.reduceSub, Nat.reduceMul, Nat.reduceMod, Nat.reduceDiv, Int.reduceLE, Int.reduceLT, Int.reduceToNat, Int.reduceAdd, Int.reduceSub, Int.reduceMul, Int.reduceEq, Int.reduceNeg, BitVec.reduceOfInt, BitVec.reduceToNat, BitVec.reduceEq, BitVec.reduceNe, BitVec.reduceLT, reduceCtorEq, List.forall_mem_nil, Try.ntmps112, Try.results112]
  refine go_loop (fun j s => ∃ (i : Nat) (n q : BitVec 8), i + j = 7 ∧ s = ⟨[(3, .u8 n), (4, .u8 q), (6, .i64 i)], []⟩ ∧ ginv a = ginvL j n q) ?_ ?_
  · exact start_mk 7 ⟨[(3, .u8 1), (4, .u8 a), (6, .i64 (0 : Nat))], []⟩ (by simp [St.get, lookS]) rfl (fun _ _ h => h) ⟨0, 1, a, by omega, rfl, rfl⟩
  · rintro j s ⟨i, n, q, hi, rfl, he⟩ _
    simp only [go_sem, ↓reduceIte, Nat.reduceEqDiff, Nat.reduceLT, Nat.reduceLeDiff, Nat.reduceAdd, Nat.reduceSub, Nat.reduceMul, Nat.reduceMod, Nat.reduceDiv, Int.reduceLE, Int.reduceLT, Int.reduceToNat, Int.reduceAdd, Int.reduceSub, Int.reduceMul, Int.reduceEq, Int.reduceNeg, BitVec.reduceOfInt, BitVec.reduceToNat, BitVec.reduceEq, BitVec.reduceNe, BitVec.reduceLT, reduceCtorEq, List.forall_mem_nil]
    split
    · refine goCall_pure0 (Mul_spec _ _) ?_
      simp only [go_sem, ↓reduceIte, Nat.reduceEqDiff, Nat.reduceLT, Nat.reduceLeDiff, Nat.reduceAdd, Nat.reduceSub, Nat.reduceMul, Nat.reduceMod, Nat.reduceDiv, Int.reduceLE, Int.reduceLT, Int.reduceToNat, Int.reduceAdd, Int.reduceSub, Int.reduceMul, Int.reduceEq, Int.reduceNeg, BitVec.reduceOfInt, BitVec.reduceToNat, BitVec.reduceEq, BitVec.reduceNe, BitVec.reduceLT, reduceCtorEq, List.forall_mem_nil]
      refine goCall_pure0 (Mul_spec _ _) ?_
      simp only [go_sem, ↓reduceIte, Nat.reduceEqDiff, Nat.reduceLT, Nat.reduceLeDiff, Nat.reduceAdd, Nat.reduceSub, Nat.reduceMul, Nat.reduceMod, Nat.reduceDiv, Int.reduceLE, Int.reduceLT, Int.reduceToNat, Int.reduceAdd, Int.reduceSub, Int.reduceMul, Int.reduceEq, Int.reduceNeg, BitVec.reduceOfInt, BitVec.reduceToNat, BitVec.reduceEq, BitVec.reduceNe, BitVec.reduceLT, reduceCtorEq, List.forall_mem_nil]
      obtain ⟨j, rfl⟩ : ∃ k, j = k + 1 := ⟨j - 1, by omega⟩
      refine again_mk j ⟨[(3, .u8 (gmul n (gmul q q))), (4, .u8 (gmul q q)), (6, .i64 (i + 1 : Nat))], []⟩ (by omega) ?_ rfl (fun _ _ h => h) ⟨i + 1, _, _, by omega, rfl, he⟩
      have : w64 ((i : Int) + 1) = ((i + 1 : Nat) : Int) := by rw [w64_of (by omega) (by omega)]; omega
      simp [St.get, lookS, this]
    · obtain rfl : j = 0 := by omega
      rw [he]; rfl
/-- In numbers. -/
def ninv (a : Nat) : Nat := (Nat.rec (fun n _ => n) (fun _ ih n s => ih (ngm 8 n (ngm 8 s s 0) 0) (ngm 8 s s 0)) 7 : Nat → Nat → Nat) 1 a
theorem chk2 : nall (fun a => nall (fun b => Nat.beq (ngm 8 a b 0) 1 == and (Nat.blt 0 a) (Nat.beq b (ninv a))) 256) 256 = true := by decide +kernel
theorem gmul_ngm (a b : BitVec 8) : (gmul a b).toNat = ngm 8 a.toNat b.toNat 0 := gmulL_eq 8 a b 0
theorem ginvL_eq : ∀ (k : Nat) (n s : BitVec 8), (ginvL k n s).toNat = (Nat.rec (fun n _ => n) (fun _ ih n s => ih (ngm 8 n (ngm 8 s s 0) 0) (ngm 8 s s 0)) k : Nat → Nat → Nat) n.toNat s.toNat
  | 0, _, _ => rfl
  | k + 1, n, s => by
    rw [ginvL, ginvL_eq k, gmul_ngm, gmul_ngm]
theorem ginv_ninv (a : BitVec 8) : (ginv a).toNat = ninv a.toNat := ginvL_eq 7 1 a
theorem gmul_one (a b : BitVec 8) : gmul a b = 1 ↔ a ≠ 0 ∧ b = ginv a := by
  have h := nall_get (nall_get chk2 a.toNat a.isLt) b.toNat b.isLt
  have h1 : Nat.beq (ngm 8 a.toNat b.toNat 0) 1 = and (Nat.blt 0 a.toNat) (Nat.beq b.toNat (ninv a.toNat)) := by simpa using h
  rw [← gmul_ngm, ← ginv_ninv] at h1
  have e1 : gmul a b = 1 ↔ Nat.beq (gmul a b).toNat 1 = true := ⟨fun e => by rw [e]; rfl, fun e => BitVec.eq_of_toNat_eq (Nat.eq_of_beq_eq_true e)⟩
  rw [e1, h1, Bool.and_eq_true]
  refine and_congr ?_ ?_
  · rw [show Nat.blt 0 a.toNat = Nat.ble 1 a.toNat from rfl, Nat.ble_eq]
    constructor
    · intro h e; subst e; simp at h
    · intro h
      have : a.toNat ≠ 0 := fun e => h (BitVec.eq_of_toNat_eq (by simpa using e))
      omega
  · exact ⟨fun e => BitVec.eq_of_toNat_eq (Nat.eq_of_beq_eq_true e), fun e => by rw [e]; exact Nat.beq_refl _⟩
theorem ninv_zero : Nat.beq (ninv 0) 0 = true := by decide +kernel
theorem ginv_zero : ginv 0 = 0 := by
  have h := ginv_ninv 0
  have e : (0 : BitVec 8).toNat = 0 := rfl
  rw [e, Nat.eq_of_beq_eq_true ninv_zero] at h
  exact BitVec.eq_of_toNat_eq (h.trans e.symm)
theorem ofInt8_nat (i : Nat) : BitVec.ofInt 8 (i : Int) = BitVec.ofNat 8 i := BitVec.ofInt_natCast 8 i
end Go.Vm
end
section
namespace Go.Vm
open Go.Proofs
set_option maxRecDepth 20000
def rot8 (x : BitVec 8) (k : Nat) : BitVec 8 := x <<< k ||| x >>> (8 - k)
theorem rot8_cnt (n : Int) : (BitVec.ofInt 64 n &&& 7#64).toNat = (n % 8).toNat := by
  rw [BitVec.toNat_and, BitVec.toNat_ofInt, show (7#64).toNat = 2 ^ 3 - 1 from rfl, Nat.and_two_pow_sub_one_eq_mod]
  omega
theorem Rot8_spec (x : BitVec 8) (n : Int) : PureFn Try.prog 113 [.u8 x, .i64 n] (.u8 (rot8 x (n % 8).toNat)) := by
  have e := rot8_cnt n
  have e2 : (8#64 - (BitVec.ofInt 64 n &&& 7#64)).toNat = 8 - (n % 8).toNat := by
    rw [BitVec.toNat_sub, e]
    have : (8#64).toNat = 8 := rfl
    rw [this]; omega
  refine pure_of_vc (by kernel_rfl) (fn := Try.f113) (by kernel_rfl) Try.func113 rfl (by show 2 ≤ 17; decide) (by simp [lows, V.low]) (by simp [lows, V.low, lows_ite, low_ite]) (go_start ?_)
  simp only [go_sem, ↓reduceIte, Nat.reduceEqDiff, Nat.reduceLT, Nat.reduceLeDiff, Nat.reduceAdd, Nat.reduceSub, Nat.reduceMul, Nat.reduceMod, Nat.reduceDiv, Int.reduceLE, Int.reduceLT, Int.reduceToNat, Int.reduceAdd, Int.reduceSub, Int.reduceMul, Int.reduceEq, Int.reduceNeg, BitVec.reduceOfInt, BitVec.reduceToNat, BitVec.reduceEq, BitVec.reduceNe, BitVec.reduceLT, reduceCtorEq, List.forall_mem_nil, Try.ntmps113, Try.results113, e, e2]
  rfl
def subL (b : BitVec 8) : Nat → BitVec 8
  | 0 => b ^^^ 99#8
  | i + 1 => subL b i ^^^ rot8 b (((i + 1 : Nat) : Int) % 8).toNat
def subC (a : BitVec 8) : BitVec 8 := subL (ginv a) 4
def backG (a : BitVec 8) : BitVec 8 := ginv (rot8 (a ^^^ 99#8) 1 ^^^ rot8 (a ^^^ 99#8) 3 ^^^ rot8 (a ^^^ 99#8) 6)
theorem Sub_spec (a : BitVec 8) : PureFn Try.prog 84 [.u8 a] (.u8 (subC a)) := by
  refine pure_of_vc (by kernel_rfl) (fn := Try.f84) (by kernel_rfl) Try.func84 rfl (by show 1 ≤ 21; decide) (by simp [lows, V.low]) (by simp [lows, V.low, lows_ite, low_ite]) (go_start ?_)
  simp only [go_sem, ↓reduceIte, Nat.reduceEqDiff, Nat.reduceLT, Nat.reduceLeDiff, Nat.reduceAdd, Nat.reduceSub, Nat.reduceMul, Nat.reduceMod, Nat.reduceDiv, Int.reduceLE, Int.reduceLT, Int.reduceToNat, Int.reduceAdd, Int.reduceSub, Int.reduceMul, Int.reduceEq, Int.reduceNeg, BitVec.reduceOfInt, BitVec.reduceToNat, BitVec.reduceEq, BitVec.reduceNe, BitVec.reduceLT, reduceCtorEq, List.forall_mem_nil, Try.ntmps84, Try.results84]
  refine goCall_pure0 (Inv_spec _) ?_
  simp only [go_sem, ↓reduceIte, Nat.reduceEqDiff, Nat.reduceLT, Nat.reduceLeDiff, Nat.reduceAdd, Nat.reduceSub, Nat.reduceMul, Nat.reduceMod, Nat.reduceDiv, Int.reduceLE, Int.reduceLT, Int.reduceToNat, Int.reduceAdd, Int.reduceSub, Int.reduceMul, Int.reduceEq, Int.reduceNeg, BitVec.reduceOfInt, BitVec.reduceToNat, BitVec.reduceEq, BitVec.reduceNe, BitVec.reduceLT, reduceCtorEq, List.forall_mem_nil]
  refine go_loop (fun j st => ∃ i : Nat, i + j = 4 ∧ st = ⟨[(3, .u8 (ginv a)), (4, .u8 (subL (ginv a) i)), (10, .i64 i)], []⟩) ?_ ?_
  · exact start_mk (4) ⟨[(3, .u8 (ginv a)), (4, .u8 (subL (ginv a) (0 : Nat))), (10, .i64 (0 : Nat))], []⟩ (by simp [St.get, lookS, subL]) rfl (fun _ _ h => h) ⟨0, by omega, rfl⟩
  rintro j st ⟨i, hi, rfl⟩ _
  simp only [go_sem, ↓reduceIte, Nat.reduceEqDiff, Nat.reduceLT, Nat.reduceLeDiff, Nat.reduceAdd, Nat.reduceSub, Nat.reduceMul, Nat.reduceMod, Nat.reduceDiv, Int.reduceLE, Int.reduceLT, Int.reduceToNat, Int.reduceAdd, Int.reduceSub, Int.reduceMul, Int.reduceEq, Int.reduceNeg, BitVec.reduceOfInt, BitVec.reduceToNat, BitVec.reduceEq, BitVec.reduceNe, BitVec.reduceLT, reduceCtorEq, List.forall_mem_nil]
  by_cases h0 : i < 4
  · have h0' : (i : Int) < 4 := by omega
    have hw : w64 ((i : Int) + 1) = ((i + 1 : Nat) : Int) := by rw [w64_of (by omega) (by omega)]; omega
    simp only [go_sem, ↓reduceIte, Nat.reduceEqDiff, Nat.reduceLT, Nat.reduceLeDiff, Nat.reduceAdd, Nat.reduceSub, Nat.reduceMul, Nat.reduceMod, Nat.reduceDiv, Int.reduceLE, Int.reduceLT, Int.reduceToNat, Int.reduceAdd, Int.reduceSub, Int.reduceMul, Int.reduceEq, Int.reduceNeg, BitVec.reduceOfInt, BitVec.reduceToNat, BitVec.reduceEq, BitVec.reduceNe, BitVec.reduceLT, reduceCtorEq, List.forall_mem_nil, h0', hw]
    refine goCall_pure0 (Rot8_spec _ _) ?_
    simp only [go_sem, ↓reduceIte, Nat.reduceEqDiff, Nat.reduceLT, Nat.reduceLeDiff, Nat.reduceAdd, Nat.reduceSub, Nat.reduceMul, Nat.reduceMod, Nat.reduceDiv, Int.reduceLE, Int.reduceLT, Int.reduceToNat, Int.reduceAdd, Int.reduceSub, Int.reduceMul, Int.reduceEq, Int.reduceNeg, BitVec.reduceOfInt, BitVec.reduceToNat, BitVec.reduceEq, BitVec.reduceNe, BitVec.reduceLT, reduceCtorEq, List.forall_mem_nil]
    refine again_mk (j - 1) ⟨[(3, .u8 (ginv a)), (4, .u8 (subL (ginv a) (i + 1 : Nat))), (10, .i64 (i + 1 : Nat))], []⟩ (by omega) ?_ rfl (fun _ _ h => h) ⟨i + 1, by omega, rfl⟩
    have hw1 : w64 ((i : Int) + 1) = ((i + 1 : Nat) : Int) := by rw [w64_of (by omega) (by omega)]; omega
    simp [St.get, lookS, hw1, subL]
  · have h0' : ¬ (i : Int) < 4 := by omega
    simp only [go_sem, ↓reduceIte, Nat.reduceEqDiff, Nat.reduceLT, Nat.reduceLeDiff, Nat.reduceAdd, Nat.reduceSub, Nat.reduceMul, Nat.reduceMod, Nat.reduceDiv, Int.reduceLE, Int.reduceLT, Int.reduceToNat, Int.reduceAdd, Int.reduceSub, Int.reduceMul, Int.reduceEq, Int.reduceNeg, BitVec.reduceOfInt, BitVec.reduceToNat, BitVec.reduceEq, BitVec.reduceNe, BitVec.reduceLT, reduceCtorEq, List.forall_mem_nil, h0']
    obtain rfl : i = 4 := by omega
    rfl
def affBit (b : BitVec 8) (i : Nat) : Int :=
  [0, 4, 5, 6, 7].foldl (fun n k => w64 (n + shr64 b.toNat ((w64 ((i : Int) + k)).tmod 8).toNat)) (shr64 99 i)
def affN (b : BitVec 8) : Nat → Int
  | 0 => 0
  | i + 1 => w64 (affN b i + shl64 ((affBit b i).tmod 2) i)
def aff (b : BitVec 8) : BitVec 8 := BitVec.ofInt 8 (affN b 8)
set_option maxRecDepth 20000 in
theorem affine_spec (b : BitVec 8) : PureFn Try.prog 114 [.u8 b] (.u8 (aff b)) := by
  refine pure_of_vc (by kernel_rfl) (fn := Try.f114) (by kernel_rfl) Try.func114 rfl (by show 1 ≤ 38; decide) (by simp [aff, lows, V.low]) (by simp [aff, lows, V.low, lows_ite, low_ite]) (go_start ?_)
  simp only [go_sem, ↓reduceIte, Nat.reduceEqDiff, Nat.reduceLT, Nat.reduceLeDiff, Nat.reduceAdd, Nat.reduceSub, Nat.reduceMul, Nat.reduceMod, Nat.reduceDiv, Int.reduceLE, Int.reduceLT, Int.reduceToNat, Int.reduceAdd, Int.reduceSub, Int.reduceMul, Int.reduceEq, Int.reduceNeg, BitVec.reduceOfInt, BitVec.reduceToNat, BitVec.reduceEq, BitVec.reduceNe, BitVec.reduceLT, reduceCtorEq, List.forall_mem_nil, Try.ntmps114, Try.results114]
  refine go_loop (fun j st => ∃ i : Nat, i + j = 8 ∧ st = ⟨[(0, .u8 b), (3, .i64 (affN b i)), (8, .i64 i)], []⟩) ?_ ?_
  · exact start_mk (8) ⟨[(0, .u8 b), (3, .i64 (affN b (0 : Nat))), (8, .i64 (0 : Nat))], []⟩ (by simp [St.get, lookS, affN]) rfl (fun _ _ h => h) ⟨0, by omega, rfl⟩
  rintro j st ⟨i, hi, rfl⟩ _
  simp only [go_sem, ↓reduceIte, Nat.reduceEqDiff, Nat.reduceLT, Nat.reduceLeDiff, Nat.reduceAdd, Nat.reduceSub, Nat.reduceMul, Nat.reduceMod, Nat.reduceDiv, Int.reduceLE, Int.reduceLT, Int.reduceToNat, Int.reduceAdd, Int.reduceSub, Int.reduceMul, Int.reduceEq, Int.reduceNeg, BitVec.reduceOfInt, BitVec.reduceToNat, BitVec.reduceEq, BitVec.reduceNe, BitVec.reduceLT, reduceCtorEq, List.forall_mem_nil]
  by_cases h0 : i < 8
  · have h0' : (i : Int) < 8 := by omega
    have h1' : (0 : Int) ≤ (i : Int) := by omega
    simp only [go_sem, ↓reduceIte, Nat.reduceEqDiff, Nat.reduceLT, Nat.reduceLeDiff, Nat.reduceAdd, Nat.reduceSub, Nat.reduceMul, Nat.reduceMod, Nat.reduceDiv, Int.reduceLE, Int.reduceLT, Int.reduceToNat, Int.reduceAdd, Int.reduceSub, Int.reduceMul, Int.reduceEq, Int.reduceNeg, BitVec.reduceOfInt, BitVec.reduceToNat, BitVec.reduceEq, BitVec.reduceNe, BitVec.reduceLT, reduceCtorEq, List.forall_mem_nil, h0', h1']
    refine go_unroll 6 ?_
    simp only [go_sem, ↓reduceIte, Nat.reduceEqDiff, Nat.reduceLT, Nat.reduceLeDiff, Nat.reduceAdd, Nat.reduceSub, Nat.reduceMul, Nat.reduceMod, Nat.reduceDiv, Int.reduceLE, Int.reduceLT, Int.reduceToNat, Int.reduceAdd, Int.reduceSub, Int.reduceMul, Int.reduceEq, Int.reduceNeg, BitVec.reduceOfInt, BitVec.reduceToNat, BitVec.reduceEq, BitVec.reduceNe, BitVec.reduceLT, reduceCtorEq, List.forall_mem_nil, h0', h1']
    have nn : ∀ k : Int, 0 ≤ k → k ≤ 7 → 0 ≤ (w64 ((i : Int) + k)).tmod 8 := fun k h1 h2 => by
      rw [w64_of (by omega) (by omega)]; exact Int.tmod_nonneg _ (by omega)
    refine ⟨nn 0 (by decide) (by decide), nn 4 (by decide) (by decide), nn 5 (by decide) (by decide), nn 6 (by decide) (by decide), nn 7 (by decide) (by decide), ?_⟩
    refine again_ren (j - 1) ⟨[(0, .u8 b), (3, .i64 (affN b (i + 1))), (8, .i64 (i + 1 : Nat))], []⟩ [] (by omega) rfl (by decide) rfl (by decide) ?_ trivial ⟨i + 1, by omega, rfl⟩
    have hw1 : w64 ((i : Int) + 1) = ((i + 1 : Nat) : Int) := by rw [w64_of (by omega) (by omega)]; omega
    simp [slotsOk, V.ren, V.low, St.get, lookS, hw1, affN, affBit]
  · have h0' : ¬ (i : Int) < 8 := by omega
    simp only [go_sem, ↓reduceIte, Nat.reduceEqDiff, Nat.reduceLT, Nat.reduceLeDiff, Nat.reduceAdd, Nat.reduceSub, Nat.reduceMul, Nat.reduceMod, Nat.reduceDiv, Int.reduceLE, Int.reduceLT, Int.reduceToNat, Int.reduceAdd, Int.reduceSub, Int.reduceMul, Int.reduceEq, Int.reduceNeg, BitVec.reduceOfInt, BitVec.reduceToNat, BitVec.reduceEq, BitVec.reduceNe, BitVec.reduceLT, reduceCtorEq, List.forall_mem_nil, h0']
    obtain rfl : i = 8 := by omega
    rfl
theorem aff_sub : ∀ x : Nat, nall (fun x => Nat.beq (aff (BitVec.ofNat 8 x)).toNat (subL (BitVec.ofNat 8 x) 4).toNat) 256 = true := fun _ => by decide +kernel
theorem aff_eq (b : BitVec 8) : aff b = subL b 4 := by
  have := nall_get (aff_sub 0) b.toNat b.isLt
  have e : BitVec.ofNat 8 b.toNat = b := by simp
  simp only [e] at this
  exact BitVec.eq_of_toNat_eq (Nat.eq_of_beq_eq_true this)
/-- In numbers: what a byte stands for, and back. -/
def nrot (x k : Nat) : Nat := (x <<< k ||| x >>> (8 - k)) % 256
def nsub (b : Nat) : Nat := (((b ^^^ 99) ^^^ nrot b 1) ^^^ nrot b 2) ^^^ nrot b 3 ^^^ nrot b 4
theorem nsub_chk : ∀ x : Nat, nall (fun x => Nat.beq (subL (BitVec.ofNat 8 x) 4).toNat (nsub x)) 256 = true := fun _ => by decide +kernel
def nback (a : Nat) : Nat := ninv (nrot (a ^^^ 99) 1 ^^^ nrot (a ^^^ 99) 3 ^^^ nrot (a ^^^ 99) 6)
theorem back_chk1 : ∀ x : Nat, nall (fun a => and (Nat.beq (nsub (ninv (nback a))) a) (Nat.beq (nback (nsub (ninv a))) a)) 256 = true := fun _ => by decide +kernel
theorem sub_n (a : BitVec 8) : (subC a).toNat = nsub (ninv a.toNat) := by
  have := nall_get (nsub_chk 0) (ginv a).toNat (ginv a).isLt
  have e : BitVec.ofNat 8 (ginv a).toNat = ginv a := by simp
  simp only [e] at this
  rw [← ginv_ninv]
  exact Nat.eq_of_beq_eq_true this
theorem rot8_n (x : BitVec 8) (k : Nat) : (rot8 x k).toNat = nrot x.toNat k := by
  unfold rot8 nrot
  have hx := x.isLt
  have h2 : x.toNat >>> (8 - k) < 256 := by rw [Nat.shiftRight_eq_div_pow]; exact Nat.lt_of_le_of_lt (Nat.div_le_self _ _) hx
  rw [BitVec.toNat_or, BitVec.toNat_shiftLeft, BitVec.toNat_ushiftRight]
  show (x.toNat <<< k) % 2 ^ 8 ||| _ = (_ ||| _) % 2 ^ 8
  rw [Nat.or_mod_two_pow, Nat.mod_eq_of_lt h2]
theorem back_n (a : BitVec 8) : (backG a).toNat = nback a.toNat := by
  unfold backG nback
  rw [ginv_ninv, BitVec.toNat_xor, BitVec.toNat_xor, rot8_n, rot8_n, rot8_n, BitVec.toNat_xor]; rfl
theorem sub_back (a : BitVec 8) : subC (backG a) = a := by
  have := nall_get (back_chk1 0) a.toNat a.isLt
  rw [Bool.and_eq_true] at this
  apply BitVec.eq_of_toNat_eq
  rw [sub_n, back_n]
  exact Nat.eq_of_beq_eq_true this.1
theorem back_sub (a : BitVec 8) : backG (subC a) = a := by
  have := nall_get (back_chk1 0) a.toNat a.isLt
  rw [Bool.and_eq_true] at this
  apply BitVec.eq_of_toNat_eq
  rw [back_n, sub_n]
  exact Nat.eq_of_beq_eq_true this.2
theorem RSub_sub (a : BitVec 8) : aff (ginv a) = subC a := aff_eq _
end Go.Vm
end
section
namespace Go.Vm
theorem snoc_ind {α : Type} {p : List α → Prop} (h0 : p []) (h1 : ∀ l a, p l → p (l ++ [a])) (l : List α) : p l := by
  have : ∀ l : List α, p l.reverse := by
    intro l
    induction l with
    | nil => exact h0
    | cons a l ih => rw [List.reverse_cons]; exact h1 _ _ ih
  have h := this l.reverse
  rwa [List.reverse_reverse] at h
theorem pow256 (k : Nat) : 256 ^ (k + 1) = 256 * 256 ^ k := by rw [Nat.pow_succ, Nat.mul_comm]
/-- The number of bytes, the highest first. -/
def be (s : List (BitVec 8)) : Nat := s.foldl (fun n b => 256 * n + b.toNat) 0
/-- The number of bytes, the lowest first. -/
def le : List (BitVec 8) → Nat
  | [] => 0
  | b :: l => b.toNat + 256 * le l
def beB (n : Nat) : Nat → List (BitVec 8)
  | 0 => []
  | k + 1 => beB (n / 256) k ++ [BitVec.ofNat 8 n]
def leB (n : Nat) : Nat → List (BitVec 8)
  | 0 => []
  | k + 1 => BitVec.ofNat 8 n :: leB (n / 256) k
theorem be_snoc (s : List (BitVec 8)) (b : BitVec 8) : be (s ++ [b]) = 256 * be s + b.toNat := by unfold be; rw [List.foldl_append]; rfl
theorem be_nil : be [] = 0 := rfl
theorem be_lt (s : List (BitVec 8)) : be s < 256 ^ s.length := by
  induction s using snoc_ind with
  | h0 => exact Nat.one_pos
  | h1 s b ih =>
    rw [be_snoc, List.length_append, List.length_singleton, pow256]
    have := b.isLt
    omega
theorem le_lt (s : List (BitVec 8)) : le s < 256 ^ s.length := by
  induction s with
  | nil => exact Nat.one_pos
  | cons b s ih =>
    rw [le, List.length_cons, pow256]
    have := b.isLt
    omega
theorem le_reverse (s : List (BitVec 8)) : le s.reverse = be s := by
  induction s using snoc_ind with
  | h0 => rfl
  | h1 s b ih => rw [List.reverse_append, List.reverse_singleton, List.singleton_append, le, be_snoc, ih]; omega
theorem beB_length (n k : Nat) : (beB n k).length = k := by
  induction k generalizing n with
  | zero => rfl
  | succ k ih => rw [beB, List.length_append, ih]; rfl
theorem leB_length (n k : Nat) : (leB n k).length = k := by
  induction k generalizing n with
  | zero => rfl
  | succ k ih => rw [leB, List.length_cons, ih]
theorem be_beB (n k : Nat) : be (beB n k) = n % 256 ^ k := by
  induction k generalizing n with
  | zero => simp [beB, be_nil, Nat.mod_one]
  | succ k ih =>
    rw [beB, be_snoc, ih, BitVec.toNat_ofNat, pow256, Nat.mod_mul]
    show 256 * _ + n % 256 = _
    omega
theorem le_leB (n k : Nat) : le (leB n k) = n % 256 ^ k := by
  induction k generalizing n with
  | zero => simp [leB, le, Nat.mod_one]
  | succ k ih =>
    rw [leB, le, ih, BitVec.toNat_ofNat, pow256, Nat.mod_mul]
theorem ofNat_snoc (m : Nat) (b : BitVec 8) : BitVec.ofNat 8 (256 * m + b.toNat) = b := by
  apply BitVec.eq_of_toNat_eq
  have := b.isLt
  rw [BitVec.toNat_ofNat]
  show (256 * m + b.toNat) % 256 = _
  omega
theorem beB_be (s : List (BitVec 8)) : beB (be s) s.length = s := by
  induction s using snoc_ind with
  | h0 => rfl
  | h1 s b ih =>
    have hb := b.isLt
    rw [List.length_append, List.length_singleton, beB, be_snoc, ofNat_snoc, show (256 * be s + b.toNat) / 256 = be s by omega, ih]
theorem leB_le (s : List (BitVec 8)) : leB (le s) s.length = s := by
  induction s with
  | nil => rfl
  | cons b s ih =>
    have hb := b.isLt
    rw [List.length_cons, leB, le, show (b.toNat + 256 * le s) / 256 = le s by omega, ih, show b.toNat + 256 * le s = 256 * le s + b.toNat by omega, ofNat_snoc]
theorem beB_mod (n k : Nat) : beB (n % 256 ^ k) k = beB n k := by
  have h := beB_be (beB n k)
  rw [be_beB, beB_length] at h; exact h
theorem leB_mod (n k : Nat) : leB (n % 256 ^ k) k = leB n k := by
  have h := leB_le (leB n k)
  rw [le_leB, leB_length] at h; exact h
theorem be_inj {s t : List (BitVec 8)} (hl : s.length = t.length) (h : be s = be t) : s = t := by
  rw [← beB_be s, ← beB_be t, hl, h]
theorem getD_take {s : List (BitVec 8)} {k i : Nat} (h : i < k) : (s.take k).getD i 0 = s.getD i 0 := by
  rw [List.getD_eq_getElem?_getD, List.getD_eq_getElem?_getD, List.getElem?_take_of_lt h]
theorem take_snoc {s : List (BitVec 8)} {i : Nat} (h : i < s.length) : s.take (i + 1) = s.take i ++ [s.getD i 0] := by
  rw [List.take_succ_eq_append_getElem h, List.getD_eq_getElem?_getD, List.getElem?_eq_getElem h]; rfl
theorem drop_cons' {s : List (BitVec 8)} {i : Nat} (h : i < s.length) : s.drop i = s.getD i 0 :: s.drop (i + 1) := by
  rw [List.drop_eq_getElem_cons h, List.getD_eq_getElem?_getD, List.getElem?_eq_getElem h]; rfl
theorem slice1 {s : List (BitVec 8)} {i : Nat} (h : i < s.length) : (s.take (i + 1)).drop i = [s.getD i 0] := by
  rw [take_snoc h, List.drop_left' (by simp; omega)]
/-- A byte behind a number. -/
theorem shl8_or {n : Nat} (h : n < 72057594037927936) (b : BitVec 8) : BitVec.ofNat 64 n <<< 8 ||| b.setWidth 64 = BitVec.ofNat 64 (256 * n + b.toNat) := by
  apply BitVec.eq_of_toNat_eq
  have hb := b.isLt
  rw [BitVec.toNat_or, BitVec.toNat_shiftLeft, BitVec.toNat_ofNat, BitVec.toNat_setWidth, BitVec.toNat_ofNat, Nat.mod_eq_of_lt (by omega : n < 2 ^ 64), Nat.mod_eq_of_lt (by omega : b.toNat < 2 ^ 64), Nat.mod_eq_of_lt (by omega : 256 * n + b.toNat < 2 ^ 64),
    Nat.mod_eq_of_lt (by rw [Nat.shiftLeft_eq]; omega), ← Nat.shiftLeft_add_eq_or_of_lt (by omega : b.toNat < 2 ^ 8), Nat.shiftLeft_eq]
  omega
end Go.Vm
end
section
namespace Go.Vm
open Go.Proofs
set_option maxRecDepth 20000
theorem vtuple_zero : vtuple [] = .tup [] := rfl
theorem chr_spec (n : Int) : PureFn Try.prog 38 [.i64 n] (.str [BitVec.ofInt 8 n]) := by
  refine pure_of_vc (by kernel_rfl) (fn := Try.f38) (by kernel_rfl) Try.func38 rfl (by show 1 ≤ 7; decide) (by simp [lows, V.low]) (by simp [lows, V.low, lows_ite, low_ite]) (go_start ?_)
  simp only [go_sem, ↓reduceIte, Nat.reduceEqDiff, Nat.reduceLT, Nat.reduceLeDiff, Nat.reduceAdd, Nat.reduceSub, Nat.reduceMul, Nat.reduceMod, Nat.reduceDiv, Int.reduceLE, Int.reduceLT, Int.reduceToNat, Int.reduceAdd, Int.reduceSub, Int.reduceMul, Int.reduceEq, Int.reduceNeg, BitVec.reduceOfInt, BitVec.reduceToNat, BitVec.reduceEq, BitVec.reduceNe, BitVec.reduceLT, reduceCtorEq, List.forall_mem_nil, Try.ntmps38, Try.results38]
theorem Big_spec (s : List (BitVec 8)) (h8 : s.length ≤ 8) : PureFn Try.prog 80 [.str s] (.u64 (BitVec.ofNat 64 (be s))) := by
  have h8' : ¬ (8 : Int) < (s.length : Int) := by omega
  refine pure_of_vc (by kernel_rfl) (fn := Try.f80) (by kernel_rfl) Try.func80 rfl (by show 1 ≤ 20; decide) (by simp [lows, V.low]) (by simp [lows, V.low, lows_ite, low_ite]) (go_start ?_)
  simp only [go_sem, ↓reduceIte, Nat.reduceEqDiff, Nat.reduceLT, Nat.reduceLeDiff, Nat.reduceAdd, Nat.reduceSub, Nat.reduceMul, Nat.reduceMod, Nat.reduceDiv, Int.reduceLE, Int.reduceLT, Int.reduceToNat, Int.reduceAdd, Int.reduceSub, Int.reduceMul, Int.reduceEq, Int.reduceNeg, BitVec.reduceOfInt, BitVec.reduceToNat, BitVec.reduceEq, BitVec.reduceNe, BitVec.reduceLT, reduceCtorEq, List.forall_mem_nil, Try.ntmps80, Try.results80, h8']
  refine go_loop (fun j st => ∃ i : Nat, i + j = s.length ∧ st = ⟨[(0, .str s), (3, .u64 (BitVec.ofNat 64 (be (s.take i)))), (7, .i64 s.length), (8, .i64 i)], []⟩) ?_ ?_
  · exact start_mk (s.length) ⟨[(0, .str s), (3, .u64 (BitVec.ofNat 64 (be (s.take (0 : Nat))))), (7, .i64 s.length), (8, .i64 (0 : Nat))], []⟩ (by simp [St.get, lookS, be_nil]) rfl (fun _ _ h => h) ⟨0, by omega, rfl⟩
  rintro j st ⟨i, hi, rfl⟩ _
  simp only [go_sem, ↓reduceIte, Nat.reduceEqDiff, Nat.reduceLT, Nat.reduceLeDiff, Nat.reduceAdd, Nat.reduceSub, Nat.reduceMul, Nat.reduceMod, Nat.reduceDiv, Int.reduceLE, Int.reduceLT, Int.reduceToNat, Int.reduceAdd, Int.reduceSub, Int.reduceMul, Int.reduceEq, Int.reduceNeg, BitVec.reduceOfInt, BitVec.reduceToNat, BitVec.reduceEq, BitVec.reduceNe, BitVec.reduceLT, reduceCtorEq, List.forall_mem_nil]
  by_cases h0 : i < s.length
  · have h0' : (i : Int) < (s.length : Int) := by omega
    have hl := be_lt (s.take i)
    have hp : 256 ^ (s.take i).length ≤ 256 ^ 7 := Nat.pow_le_pow_right (by omega) (by simp; omega)
    simp only [go_sem, ↓reduceIte, Nat.reduceEqDiff, Nat.reduceLT, Nat.reduceLeDiff, Nat.reduceAdd, Nat.reduceSub, Nat.reduceMul, Nat.reduceMod, Nat.reduceDiv, Int.reduceLE, Int.reduceLT, Int.reduceToNat, Int.reduceAdd, Int.reduceSub, Int.reduceMul, Int.reduceEq, Int.reduceNeg, BitVec.reduceOfInt, BitVec.reduceToNat, BitVec.reduceEq, BitVec.reduceNe, BitVec.reduceLT, reduceCtorEq, List.forall_mem_nil, h0']
    refine ⟨by omega, ?_⟩
    refine again_mk (j - 1) ⟨[(0, .str s), (3, .u64 (BitVec.ofNat 64 (be (s.take (i + 1 : Nat))))), (7, .i64 s.length), (8, .i64 (i + 1 : Nat))], []⟩ (by omega) ?_ rfl (fun _ _ h => h) ⟨i + 1, by omega, rfl⟩
    have hw1 : w64 ((i : Int) + 1) = ((i + 1 : Nat) : Int) := by rw [w64_of (by omega) (by omega)]; omega
    simp [St.get, lookS, hw1, take_snoc h0, be_snoc]
    exact (shl8_or (Nat.lt_of_lt_of_le hl hp) _).symm
  · have h0' : ¬ (i : Int) < (s.length : Int) := by omega
    simp only [go_sem, ↓reduceIte, Nat.reduceEqDiff, Nat.reduceLT, Nat.reduceLeDiff, Nat.reduceAdd, Nat.reduceSub, Nat.reduceMul, Nat.reduceMod, Nat.reduceDiv, Int.reduceLE, Int.reduceLT, Int.reduceToNat, Int.reduceAdd, Int.reduceSub, Int.reduceMul, Int.reduceEq, Int.reduceNeg, BitVec.reduceOfInt, BitVec.reduceToNat, BitVec.reduceEq, BitVec.reduceNe, BitVec.reduceLT, reduceCtorEq, List.forall_mem_nil, h0']
    rw [List.take_of_length_le (by omega)]
theorem of_spec (s : List (BitVec 8)) (hs : s.length ≤ 4611686018427387904) : PureFn Try.prog 120 [.str s] (.u64 (BitVec.ofNat 64 (le s))) := by
  refine pure_of_vc (by kernel_rfl) (fn := Try.f120) (by kernel_rfl) Try.func120 rfl (by show 1 ≤ 20; decide) (by simp [lows, V.low]) (by simp [lows, V.low, lows_ite, low_ite]) (go_start ?_)
  simp only [go_sem, ↓reduceIte, Nat.reduceEqDiff, Nat.reduceLT, Nat.reduceLeDiff, Nat.reduceAdd, Nat.reduceSub, Nat.reduceMul, Nat.reduceMod, Nat.reduceDiv, Int.reduceLE, Int.reduceLT, Int.reduceToNat, Int.reduceAdd, Int.reduceSub, Int.reduceMul, Int.reduceEq, Int.reduceNeg, BitVec.reduceOfInt, BitVec.reduceToNat, BitVec.reduceEq, BitVec.reduceNe, BitVec.reduceLT, reduceCtorEq, List.forall_mem_nil, Try.ntmps120, Try.results120]
  refine go_loop (fun j st => j ≤ s.length ∧ st = ⟨[(0, .str s), (3, .u64 (BitVec.ofNat 64 (le (s.drop j)))), (4, .i64 ((j : Int) - 1))], []⟩) ?_ ?_
  · exact start_mk s.length ⟨[(0, .str s), (3, .u64 (BitVec.ofNat 64 (le (s.drop s.length)))), (4, .i64 ((s.length : Int) - 1))], []⟩ (by
      have : w64 ((s.length : Int) - 1) = (s.length : Int) - 1 := w64_of (by omega) (by omega)
      simp [St.get, lookS, le, this]) rfl (fun _ _ h => h) ⟨Nat.le_refl _, rfl⟩
  rintro j st ⟨hj, rfl⟩ _
  simp only [go_sem, ↓reduceIte, Nat.reduceEqDiff, Nat.reduceLT, Nat.reduceLeDiff, Nat.reduceAdd, Nat.reduceSub, Nat.reduceMul, Nat.reduceMod, Nat.reduceDiv, Int.reduceLE, Int.reduceLT, Int.reduceToNat, Int.reduceAdd, Int.reduceSub, Int.reduceMul, Int.reduceEq, Int.reduceNeg, BitVec.reduceOfInt, BitVec.reduceToNat, BitVec.reduceEq, BitVec.reduceNe, BitVec.reduceLT, reduceCtorEq, List.forall_mem_nil]
  by_cases h0 : 0 ≤ (j : Int) - 1
  · obtain ⟨k, rfl⟩ : ∃ k, j = k + 1 := ⟨j - 1, by omega⟩
    have e1 : ((k + 1 : Nat) : Int) - 1 = k := by omega
    have hk : (k : Int) < (s.length : Int) := by omega
    rw [e1] at h0
    simp only [go_sem, ↓reduceIte, Nat.reduceEqDiff, Nat.reduceLT, Nat.reduceLeDiff, Nat.reduceAdd, Nat.reduceSub, Nat.reduceMul, Nat.reduceMod, Nat.reduceDiv, Int.reduceLE, Int.reduceLT, Int.reduceToNat, Int.reduceAdd, Int.reduceSub, Int.reduceMul, Int.reduceEq, Int.reduceNeg, BitVec.reduceOfInt, BitVec.reduceToNat, BitVec.reduceEq, BitVec.reduceNe, BitVec.reduceLT, reduceCtorEq, List.forall_mem_nil, e1, h0, hk]
    refine again_mk k ⟨[(0, .str s), (3, .u64 (BitVec.ofNat 64 (le (s.drop k)))), (4, .i64 ((k : Int) - 1))], []⟩ (by omega) ?_ rfl (fun _ _ h => h) ⟨by omega, rfl⟩
    have hw : w64 ((k : Int) - 1) = (k : Int) - 1 := w64_of (by omega) (by omega)
    simp [St.get, lookS, hw, drop_cons' (show k < s.length by omega), le]
    apply BitVec.eq_of_toNat_eq
    simp [BitVec.toNat_ofNat]
    omega
  · simp only [go_sem, ↓reduceIte, Nat.reduceEqDiff, Nat.reduceLT, Nat.reduceLeDiff, Nat.reduceAdd, Nat.reduceSub, Nat.reduceMul, Nat.reduceMod, Nat.reduceDiv, Int.reduceLE, Int.reduceLT, Int.reduceToNat, Int.reduceAdd, Int.reduceSub, Int.reduceMul, Int.reduceEq, Int.reduceNeg, BitVec.reduceOfInt, BitVec.reduceToNat, BitVec.reduceEq, BitVec.reduceNe, BitVec.reduceLT, reduceCtorEq, List.forall_mem_nil, h0]
    obtain rfl : j = 0 := by omega
    rfl
theorem byte_rem (n : BitVec 64) : BitVec.ofInt 8 (w64 ((n % 256#64).toNat : Int)) = n.setWidth 8 := by
  have h : (n % 256#64).toNat = n.toNat % 256 := by rw [BitVec.toNat_umod]; rfl
  rw [h, w64_of (by omega) (by omega), BitVec.ofInt_natCast]
  apply BitVec.eq_of_toNat_eq
  rw [BitVec.toNat_ofNat, BitVec.toNat_setWidth]
  omega
theorem byte_quo (n : BitVec 64) : BitVec.ofNat 64 (n.toNat / 256) = n / 256#64 := by
  apply BitVec.eq_of_toNat_eq
  have := n.isLt
  rw [BitVec.toNat_ofNat, BitVec.toNat_udiv]
  show (n.toNat / 256) % 2 ^ 64 = n.toNat / 256
  omega
theorem byte_mod (n : BitVec 64) : BitVec.ofNat 8 n.toNat = n.setWidth 8 := by
  apply BitVec.eq_of_toNat_eq
  rw [BitVec.toNat_ofNat, BitVec.toNat_setWidth]
theorem high_spec (k : Nat) (hk : k ≤ 1000) : ∀ n : BitVec 64, PureFn Try.prog 50 [.u64 n, .i64 k] (.str (beB n.toNat k)) := by
  induction k with
  | zero =>
    intro n
    refine pure_of_vc (by kernel_rfl) (fn := Try.f50) (by kernel_rfl) Try.func50 rfl (by show 2 ≤ 17; decide) (by simp [lows, V.low]) (by simp [lows, V.low, lows_ite, low_ite]) (go_start ?_)
    simp only [go_sem, ↓reduceIte, Nat.reduceEqDiff, Nat.reduceLT, Nat.reduceLeDiff, Nat.reduceAdd, Nat.reduceSub, Nat.reduceMul, Nat.reduceMod, Nat.reduceDiv, Int.reduceLE, Int.reduceLT, Int.reduceToNat, Int.reduceAdd, Int.reduceSub, Int.reduceMul, Int.reduceEq, Int.reduceNeg, BitVec.reduceOfInt, BitVec.reduceToNat, BitVec.reduceEq, BitVec.reduceNe, BitVec.reduceLT, reduceCtorEq, List.forall_mem_nil, Try.ntmps50, Try.results50]
    rfl
  | succ k ih =>
    intro n
    have h0 : ¬ ((k + 1 : Nat) : Int) = 0 := by omega
    have hw : w64 (((k + 1 : Nat) : Int) - 1) = (k : Int) := by rw [w64_of (by omega) (by omega)]; omega
    refine pure_of_vc (by kernel_rfl) (fn := Try.f50) (by kernel_rfl) Try.func50 rfl (by show 2 ≤ 17; decide) (by simp [lows, V.low]) (by simp [lows, V.low, lows_ite, low_ite]) (go_start ?_)
    simp only [go_sem, ↓reduceIte, Nat.reduceEqDiff, Nat.reduceLT, Nat.reduceLeDiff, Nat.reduceAdd, Nat.reduceSub, Nat.reduceMul, Nat.reduceMod, Nat.reduceDiv, Int.reduceLE, Int.reduceLT, Int.reduceToNat, Int.reduceAdd, Int.reduceSub, Int.reduceMul, Int.reduceEq, Int.reduceNeg, BitVec.reduceOfInt, BitVec.reduceToNat, BitVec.reduceEq, BitVec.reduceNe, BitVec.reduceLT, reduceCtorEq, List.forall_mem_nil, Try.ntmps50, Try.results50, h0, hw]
    refine goCall_pure0 (ih (by omega) _) ?_
    simp only [go_sem, ↓reduceIte, Nat.reduceEqDiff, Nat.reduceLT, Nat.reduceLeDiff, Nat.reduceAdd, Nat.reduceSub, Nat.reduceMul, Nat.reduceMod, Nat.reduceDiv, Int.reduceLE, Int.reduceLT, Int.reduceToNat, Int.reduceAdd, Int.reduceSub, Int.reduceMul, Int.reduceEq, Int.reduceNeg, BitVec.reduceOfInt, BitVec.reduceToNat, BitVec.reduceEq, BitVec.reduceNe, BitVec.reduceLT, reduceCtorEq, List.forall_mem_nil]
    refine goCall_pure0 (chr_spec _) ?_
    simp only [go_sem, ↓reduceIte, Nat.reduceEqDiff, Nat.reduceLT, Nat.reduceLeDiff, Nat.reduceAdd, Nat.reduceSub, Nat.reduceMul, Nat.reduceMod, Nat.reduceDiv, Int.reduceLE, Int.reduceLT, Int.reduceToNat, Int.reduceAdd, Int.reduceSub, Int.reduceMul, Int.reduceEq, Int.reduceNeg, BitVec.reduceOfInt, BitVec.reduceToNat, BitVec.reduceEq, BitVec.reduceNe, BitVec.reduceLT, reduceCtorEq, List.forall_mem_nil, byte_rem, beB_length]
    refine ⟨by omega, ?_⟩
    rw [beB, byte_mod]
    have hq : (n / 256#64).toNat = n.toNat / 256 := by rw [BitVec.toNat_udiv]; rfl
    rw [hq]
theorem low_spec (k : Nat) (hk : k ≤ 1000) : ∀ n : BitVec 64, PureFn Try.prog 102 [.u64 n, .i64 k] (.str (leB n.toNat k)) := by
  induction k with
  | zero =>
    intro n
    refine pure_of_vc (by kernel_rfl) (fn := Try.f102) (by kernel_rfl) Try.func102 rfl (by show 2 ≤ 17; decide) (by simp [lows, V.low]) (by simp [lows, V.low, lows_ite, low_ite]) (go_start ?_)
    simp only [go_sem, ↓reduceIte, Nat.reduceEqDiff, Nat.reduceLT, Nat.reduceLeDiff, Nat.reduceAdd, Nat.reduceSub, Nat.reduceMul, Nat.reduceMod, Nat.reduceDiv, Int.reduceLE, Int.reduceLT, Int.reduceToNat, Int.reduceAdd, Int.reduceSub, Int.reduceMul, Int.reduceEq, Int.reduceNeg, BitVec.reduceOfInt, BitVec.reduceToNat, BitVec.reduceEq, BitVec.reduceNe, BitVec.reduceLT, reduceCtorEq, List.forall_mem_nil, Try.ntmps102, Try.results102]
    rfl
  | succ k ih =>
    intro n
    have h0 : ¬ ((k + 1 : Nat) : Int) = 0 := by omega
    have hw : w64 (((k + 1 : Nat) : Int) - 1) = (k : Int) := by rw [w64_of (by omega) (by omega)]; omega
    refine pure_of_vc (by kernel_rfl) (fn := Try.f102) (by kernel_rfl) Try.func102 rfl (by show 2 ≤ 17; decide) (by simp [lows, V.low]) (by simp [lows, V.low, lows_ite, low_ite]) (go_start ?_)
    simp only [go_sem, ↓reduceIte, Nat.reduceEqDiff, Nat.reduceLT, Nat.reduceLeDiff, Nat.reduceAdd, Nat.reduceSub, Nat.reduceMul, Nat.reduceMod, Nat.reduceDiv, Int.reduceLE, Int.reduceLT, Int.reduceToNat, Int.reduceAdd, Int.reduceSub, Int.reduceMul, Int.reduceEq, Int.reduceNeg, BitVec.reduceOfInt, BitVec.reduceToNat, BitVec.reduceEq, BitVec.reduceNe, BitVec.reduceLT, reduceCtorEq, List.forall_mem_nil, Try.ntmps102, Try.results102, h0, hw]
    refine goCall_pure0 (chr_spec _) ?_
    simp only [go_sem, ↓reduceIte, Nat.reduceEqDiff, Nat.reduceLT, Nat.reduceLeDiff, Nat.reduceAdd, Nat.reduceSub, Nat.reduceMul, Nat.reduceMod, Nat.reduceDiv, Int.reduceLE, Int.reduceLT, Int.reduceToNat, Int.reduceAdd, Int.reduceSub, Int.reduceMul, Int.reduceEq, Int.reduceNeg, BitVec.reduceOfInt, BitVec.reduceToNat, BitVec.reduceEq, BitVec.reduceNe, BitVec.reduceLT, reduceCtorEq, List.forall_mem_nil, hw]
    refine goCall_pure0 (ih (by omega) _) ?_
    simp only [go_sem, ↓reduceIte, Nat.reduceEqDiff, Nat.reduceLT, Nat.reduceLeDiff, Nat.reduceAdd, Nat.reduceSub, Nat.reduceMul, Nat.reduceMod, Nat.reduceDiv, Int.reduceLE, Int.reduceLT, Int.reduceToNat, Int.reduceAdd, Int.reduceSub, Int.reduceMul, Int.reduceEq, Int.reduceNeg, BitVec.reduceOfInt, BitVec.reduceToNat, BitVec.reduceEq, BitVec.reduceNe, BitVec.reduceLT, reduceCtorEq, List.forall_mem_nil, byte_rem, leB_length]
    refine ⟨by omega, ?_⟩
    rw [leB, byte_mod]
    have hq : (n / 256#64).toNat = n.toNat / 256 := by rw [BitVec.toNat_udiv]; rfl
    rw [hq]
end Go.Vm
end
section
/-! A call that only reads: it turns none of the blocks that are there. -/
namespace Go.Vm
open Go
def Res.read (r : Res) : Res := { r with old := [] }
theorem lookOld_same {get : Nat → Option Blk} {b : Nat} : ∀ {old : List (Nat × Option Blk)} (_ : ∀ x ∈ old, get x.1 = x.2), lookOld old b (get b) = get b := fun {old} h => by
  induction old with
  | nil => rfl
  | cons x l ih =>
    obtain ⟨i, o⟩ := x
    have h1 := h (i, o) List.mem_cons_self
    have h2 := ih fun y hy => h y (List.mem_cons_of_mem _ hy)
    unfold lookOld
    split
    · rename_i e
      first
        | (rw [← h1]; simp_all)
        | simp_all
    · exact h2
theorem upd_same {get : Nat → Option Blk} {old : List (Nat × Option Blk)} {nid : Nat} {news : List (Option Blk)} (h : ∀ x ∈ old, get x.1 = x.2) : upd get old nid news = upd get [] nid news := by
  funext b
  unfold upd
  rw [lookOld_same h]
  rfl
section
variable {P : Program} {m n : Nat} {R : Exit → St → Prop} {k : List Fr} {s : St} {l : List Oper} {ops : Array Oper} {dst : Option Tmp}
variable {f : FuncId} {fs cs args args0 : List V} {v : V} {h h' : List (Option Blk)}
theorem Spec.read {get0 : Nat → Option Blk} {nid : Nat} {r : Res} (hs : Spec P f args get0 nid r) (ho : ∀ x ∈ r.old, x.1 ∈ r.fp ∧ get0 x.1 = x.2) : Spec P f args get0 nid r.read := by
  intro ρ dom get w rargs hm hr hfp hdom
  refine (hs ρ dom get w rargs hm hr hfp hdom).mono ?_
  have hsame : upd get r.old nid r.news = upd get [] nid r.news := upd_same fun x hx => by rw [hfp _ (ho x hx).1]; exact (ho x hx).2
  rintro e w' ⟨r', ρ', h1, h2, h3, h4, h5⟩
  rw [hsame] at h3 h5
  exact ⟨r', ρ', h1, h2, h3, h4, h5⟩
theorem VCall.read {fv : V} {get0 : Nat → Option Blk} {nid : Nat} {r : Res} (hs : VCall P fv args get0 nid r) (ho : ∀ x ∈ r.old, x.1 ∈ r.fp ∧ get0 x.1 = x.2) : VCall P fv args get0 nid r.read := by
  rcases hs with ⟨f, fs, cs, h1, h2, h3, h4⟩ | ⟨f, fs, cs, h1, _, h3, h4⟩
  · exact .inl ⟨f, fs, cs, h1, h2, h3, h4.read ho⟩
  · exact .inr ⟨f, fs, cs, h1, rfl, h3, h4⟩
theorem goCallD_read {tr : Tr} (sg : List Nat) (hs : Spec0 P f args0 h v h') (hc : callable P f = true) (ha : rens (sgOf sg) args0 = fs ++ args ++ cs) (hlen : sg.length = h.length) (hlow : lows h.length args0) (hnd : sg.Nodup)
    (hsg : ∀ b ∈ sg, b < s.H.length) (hall : allSome h) (hblk : blksOk (sgOf sg) h.length s h 0) (hro : allRw (h'.drop h.length)) (hle : h.length ≤ h'.length)
    (ho : ∀ x ∈ (memRes sg s.H.length v h').old, x.1 ∈ sg ∧ getH s.H x.1 = x.2)
    (hk : goOpsD P m n R l (tr ++ [foot s (memRes sg s.H.length v h').read]) ops k (s.after dst (memRes sg s.H.length v h').read)) : goCallD P m n R (.fn f fs cs) args dst l tr ops k s :=
  ⟨_, (call_mem sg hs hc ha hlen hlow hnd hsg hall hblk hro hle).read ho, fun x hx => by simp [Res.read] at hx, hk⟩
end
attribute [go_sem] Res.read
end Go.Vm
end
section
namespace Go.Vm
open Go.Proofs
set_option maxRecDepth 20000
/-- The table of the code, i bytes set in. -/
def mkT : Nat → List (BitVec 8)
  | 0 => List.replicate 512 0#8
  | i + 1 => ((mkT i).set i (subC (BitVec.ofNat 8 i))).set (256 + (subC (BitVec.ofNat 8 i)).toNat) (BitVec.ofNat 8 i)
theorem mkT_length (i : Nat) : (mkT i).length = 512 := by
  induction i with
  | zero => rw [mkT, List.length_replicate]
  | succ i ih => rw [mkT, List.length_set, List.length_set, ih]
theorem getD_set_ne8 {l : List (BitVec 8)} {i j : Nat} {x : BitVec 8} (h : i ≠ j) : (l.set i x).getD j 0 = l.getD j 0 := by
  rw [List.getD_eq_getElem?_getD, List.getElem?_set_ne h, ← List.getD_eq_getElem?_getD]
theorem getD_set_eq8 {l : List (BitVec 8)} {i : Nat} {x : BitVec 8} (h : i < l.length) : (l.set i x).getD i 0 = x := by
  rw [List.getD_eq_getElem?_getD, List.getElem?_set_self h]; rfl
theorem mkT_sub (i : Nat) (hi : i ≤ 256) : ∀ b : BitVec 8, b.toNat < i → (mkT i).getD b.toNat 0 = subC b := by
  induction i with
  | zero => intro b h; omega
  | succ i ih =>
    intro b h
    have hl := mkT_length i
    rw [mkT, getD_set_ne8 (by have := b.isLt; omega)]
    by_cases e : b.toNat = i
    · have hb : BitVec.ofNat 8 i = b := by rw [← e]; simp
      rw [e, getD_set_eq8 (by omega), hb]
    · rw [getD_set_ne8 (by omega), ih (by omega) b (by omega)]
theorem mkT_back (i : Nat) (hi : i ≤ 256) : ∀ b : BitVec 8, b.toNat < i → (mkT i).getD (256 + (subC b).toNat) 0 = b := by
  induction i with
  | zero => intro b h; omega
  | succ i ih =>
    intro b h
    have hl := mkT_length i
    have hlt := (subC (BitVec.ofNat 8 i)).isLt
    rw [mkT]
    by_cases e : b.toNat = i
    · have hb : BitVec.ofNat 8 i = b := by rw [← e]; simp
      rw [hb, getD_set_eq8 (by rw [List.length_set, hl]; rw [hb] at hlt; omega)]
    · have hne : subC (BitVec.ofNat 8 i) ≠ subC b := fun he => e (by
        have h1 := congrArg backG he
        rw [back_sub, back_sub] at h1
        rw [← h1, BitVec.toNat_ofNat]; omega)
      have hne2 : (subC (BitVec.ofNat 8 i)).toNat ≠ (subC b).toNat := fun he => hne (BitVec.eq_of_toNat_eq he)
      rw [getD_set_ne8 (by omega), getD_set_ne8 (by omega), ih (by omega) b (by omega)]
abbrev T512 : List (BitVec 8) := mkT 256
theorem T_sub (b : BitVec 8) : (mkT 256).getD b.toNat 0 = subC b := mkT_sub 256 (Nat.le_refl _) b b.isLt
theorem T_back (b : BitVec 8) : (mkT 256).getD (256 + b.toNat) 0 = backG b := by
  have h := mkT_back 256 (Nat.le_refl _) (backG b) (backG b).isLt
  rwa [sub_back] at h
theorem made_spec : Spec0 Try.prog 54 [] [] (.ptr 0 0) [some ⟨false, (mkT 256).map .u8⟩] := by
  refine spec0_of_vc (by kernel_rfl) (fn := Try.f54) Try.func54 rfl (by show 0 ≤ 27; decide) (go_start ?_)
  simp only [go_sem, ↓reduceIte, Nat.reduceEqDiff, Nat.reduceLT, Nat.reduceLeDiff, Nat.reduceAdd, Nat.reduceSub, Nat.reduceMul, Nat.reduceMod, Nat.reduceDiv, Int.reduceLE, Int.reduceLT, Int.reduceToNat, Int.reduceAdd, Int.reduceSub, Int.reduceMul, Int.reduceEq, Int.reduceNeg, BitVec.reduceOfInt, BitVec.reduceToNat, BitVec.reduceEq, BitVec.reduceNe, BitVec.reduceLT, reduceCtorEq, List.forall_mem_nil, Try.ntmps54, Try.results54]
  refine go_loop (fun ji st => ∃ i : Nat, i + ji = 256 ∧ st = ⟨[(1, .ptr 0 0), (6, .i64 i)], [some ⟨false, (mkT i).map .u8⟩]⟩) ?_ ?_
  · exact start_mk (256) ⟨[(1, .ptr 0 0), (6, .i64 (0 : Nat))], [some ⟨false, (mkT (0 : Nat)).map .u8⟩]⟩ (by simp [St.get, lookS, -List.map_set, -List.map_map, mkT]) rfl (fun _ _ h => h) ⟨0, by omega, rfl⟩
  rintro ji st ⟨i, hi, rfl⟩ _
  simp only [go_sem, ↓reduceIte, Nat.reduceEqDiff, Nat.reduceLT, Nat.reduceLeDiff, Nat.reduceAdd, Nat.reduceSub, Nat.reduceMul, Nat.reduceMod, Nat.reduceDiv, Int.reduceLE, Int.reduceLT, Int.reduceToNat, Int.reduceAdd, Int.reduceSub, Int.reduceMul, Int.reduceEq, Int.reduceNeg, BitVec.reduceOfInt, BitVec.reduceToNat, BitVec.reduceEq, BitVec.reduceNe, BitVec.reduceLT, reduceCtorEq, List.forall_mem_nil]
  have hl := mkT_length i
  by_cases h0 : i < 256
  · have h0' : (i : Int) < 256 := by omega
    have hlt := (subC (BitVec.ofNat 8 i)).isLt
    have hlt' : ((subC (BitVec.ofNat 8 i)).toNat : Int) < 256 := by omega
    have hz : (0 : Int) ≤ ((subC (BitVec.ofNat 8 i)).toNat : Int) := by omega
    have hst : ((mkT i).set i (subC (BitVec.ofNat 8 i))).set (256 + (subC (BitVec.ofNat 8 i)).toNat) (BitVec.ofNat 8 i) = mkT (i + 1) := rfl
    have g1 : i < 512 := by omega
    have g2 : 256 + (subC (BitVec.ofNat 8 i)).toNat < 512 := by omega
    have hls : ∀ x, ((mkT i).set i x).length = 512 := fun x => by rw [List.length_set, hl]
    simp only [go_sem, ↓reduceIte, Nat.reduceEqDiff, Nat.reduceLT, Nat.reduceLeDiff, Nat.reduceAdd, Nat.reduceSub, Nat.reduceMul, Nat.reduceMod, Nat.reduceDiv, Int.reduceLE, Int.reduceLT, Int.reduceToNat, Int.reduceAdd, Int.reduceSub, Int.reduceMul, Int.reduceEq, Int.reduceNeg, BitVec.reduceOfInt, BitVec.reduceToNat, BitVec.reduceEq, BitVec.reduceNe, BitVec.reduceLT, reduceCtorEq, List.forall_mem_nil, h0', h0, ofInt8_nat]
    refine goCall_pure0 (Sub_spec _) ?_
    simp only [go_sem, ↓reduceIte, Nat.reduceEqDiff, Nat.reduceLT, Nat.reduceLeDiff, Nat.reduceAdd, Nat.reduceSub, Nat.reduceMul, Nat.reduceMod, Nat.reduceDiv, Int.reduceLE, Int.reduceLT, Int.reduceToNat, Int.reduceAdd, Int.reduceSub, Int.reduceMul, Int.reduceEq, Int.reduceNeg, BitVec.reduceOfInt, BitVec.reduceToNat, BitVec.reduceEq, BitVec.reduceNe, BitVec.reduceLT, reduceCtorEq, List.forall_mem_nil, ofInt8_nat, h0', h0, hlt, hlt', hz, hl, hls, g1, g2, hst]
    refine ⟨by omega, by omega, by omega, by kernel_rfl, ?_⟩
    refine again_mk (ji - 1) ⟨[(1, .ptr 0 0), (6, .i64 (i + 1 : Nat))], [some ⟨false, (mkT (i + 1 : Nat)).map .u8⟩]⟩ (by omega) ?_ rfl (fun _ _ h => h) ⟨i + 1, by omega, rfl⟩
    have hw1 : w64 ((i : Int) + 1) = ((i + 1 : Nat) : Int) := by rw [w64_of (by omega) (by omega)]; omega
    simp [St.get, lookS, hw1, -List.map_set, -List.map_map, List.length_nil]
  · obtain rfl : i = 256 := by omega
    have h0' : ¬ ((256 : Nat) : Int) < 256 := by omega
    simp only [go_sem, ↓reduceIte, Nat.reduceEqDiff, Nat.reduceLT, Nat.reduceLeDiff, Nat.reduceAdd, Nat.reduceSub, Nat.reduceMul, Nat.reduceMod, Nat.reduceDiv, Int.reduceLE, Int.reduceLT, Int.reduceToNat, Int.reduceAdd, Int.reduceSub, Int.reduceMul, Int.reduceEq, Int.reduceNeg, BitVec.reduceOfInt, BitVec.reduceToNat, BitVec.reduceEq, BitVec.reduceNe, BitVec.reduceLT, reduceCtorEq, List.forall_mem_nil, h0']
    exact Fin.ren [0] (by simp) (by simp) (by rfl) (by decide) (by simp [-List.map_map, -List.map_set, vtuple_zero, rens_append, lows_append, sgOf_zero, sgOf_succ, rens, V.ren, lows, V.low, rens_u8, rens_u32, rens_u64, rens_i64, rens_str, lows_u8, lows_u32, lows_u64, lows_i64, lows_str, allSome, allRw, blksOk_nil, blksOk_none, blksOk_some, getH_zero, getH_succ, getH_nil]) (by simp [-List.map_map, -List.map_set, vtuple_zero, rens_append, lows_append, sgOf_zero, sgOf_succ, rens, V.ren, lows, V.low, rens_u8, rens_u32, rens_u64, rens_i64, rens_str, lows_u8, lows_u32, lows_u64, lows_i64, lows_str, allSome, allRw, blksOk_nil, blksOk_none, blksOk_some, getH_zero, getH_succ, getH_nil])
/-! The powers of 3. -/
def pwL : List Nat := [1, 3, 5, 15, 17, 51, 85, 255, 26, 46, 114, 150, 161, 248, 19, 53, 95, 225, 56, 72, 216, 115, 149, 164, 247, 2, 6, 10, 30, 34, 102, 170, 229, 52, 92, 228, 55, 89, 235, 38, 106, 190, 217, 112, 144, 171, 230, 49, 83, 245, 4, 12, 20, 60, 68, 204, 79, 209, 104, 184, 211, 110, 178, 205, 76, 212, 103, 169, 224, 59, 77, 215, 98, 166, 241, 8, 24, 40, 120, 136, 131, 158, 185, 208, 107, 189, 220, 127, 129, 152, 179, 206, 73, 219, 118, 154, 181, 196, 87, 249, 16, 48, 80, 240, 11, 29, 39, 105, 187, 214, 97, 163, 254, 25, 43, 125, 135, 146, 173, 236, 47, 113, 147, 174, 233, 32, 96, 160, 251, 22, 58, 78, 210, 109, 183, 194, 93, 231, 50, 86, 250, 21, 63, 65, 195, 94, 226, 61, 71, 201, 64, 192, 91, 237, 44, 116, 156, 191, 218, 117, 159, 186, 213, 100, 172, 239, 42, 126, 130, 157, 188, 223, 122, 142, 137, 128, 155, 182, 193, 88, 232, 35, 101, 175, 234, 37, 111, 177, 200, 67, 197, 84, 252, 31, 33, 99, 165, 244, 7, 9, 27, 45, 119, 153, 176, 203, 70, 202, 69, 207, 74, 222, 121, 139, 134, 145, 168, 227, 62, 66, 198, 81, 243, 14, 18, 54, 90, 238, 41, 123, 141, 140, 143, 138, 133, 148, 167, 242, 13, 23, 57, 75, 221, 124, 132, 151, 162, 253, 28, 36, 108, 180, 199, 82, 246]
def ixL : List Nat := [0, 0, 25, 1, 50, 2, 26, 198, 75, 199, 27, 104, 51, 238, 223, 3, 100, 4, 224, 14, 52, 141, 129, 239, 76, 113, 8, 200, 248, 105, 28, 193, 125, 194, 29, 181, 249, 185, 39, 106, 77, 228, 166, 114, 154, 201, 9, 120, 101, 47, 138, 5, 33, 15, 225, 36, 18, 240, 130, 69, 53, 147, 218, 142, 150, 143, 219, 189, 54, 208, 206, 148, 19, 92, 210, 241, 64, 70, 131, 56, 102, 221, 253, 48, 191, 6, 139, 98, 179, 37, 226, 152, 34, 136, 145, 16, 126, 110, 72, 195, 163, 182, 30, 66, 58, 107, 40, 84, 250, 133, 61, 186, 43, 121, 10, 21, 155, 159, 94, 202, 78, 212, 172, 229, 243, 115, 167, 87, 175, 88, 168, 80, 244, 234, 214, 116, 79, 174, 233, 213, 231, 230, 173, 232, 44, 215, 117, 122, 235, 22, 11, 245, 89, 203, 95, 176, 156, 169, 81, 160, 127, 12, 246, 111, 23, 196, 73, 236, 216, 67, 31, 45, 164, 118, 123, 183, 204, 187, 62, 90, 251, 96, 177, 134, 59, 82, 161, 108, 170, 85, 41, 157, 151, 178, 135, 144, 97, 190, 220, 252, 188, 149, 207, 205, 55, 63, 91, 209, 83, 57, 132, 60, 65, 162, 109, 71, 20, 42, 158, 93, 86, 242, 211, 171, 68, 17, 146, 217, 35, 32, 46, 137, 180, 124, 184, 38, 119, 153, 227, 165, 103, 74, 237, 222, 197, 49, 254, 24, 13, 99, 140, 128, 192, 247, 112, 7]
theorem pwL_chk : and (nall (fun i => or (Nat.beq i 254) (Nat.beq (ngm 8 (pwL.getD i 0) 3 0) (pwL.getD (i + 1) 0))) 255) (and (nall (fun i => Nat.beq (ninv (pwL.getD i 0)) (pwL.getD ((255 - i) % 255) 0)) 255) (nall (fun b => or (Nat.beq b 0) (and (Nat.blt (ixL.getD b 0) 255) (Nat.beq (pwL.getD (ixL.getD b 0) 0) b))) 256)) = true := by decide +kernel
def pow3 (i : Nat) : BitVec 8 := BitVec.ofNat 8 (pwL.getD i 0)
theorem pwL_lt : nall (fun i => Nat.blt (pwL.getD i 0) 256) 255 = true := by decide +kernel
theorem pwL_pos : nall (fun i => Nat.blt 0 (pwL.getD i 0)) 255 = true := by decide +kernel
theorem pow3_nat (i : Nat) (h : i < 255) : (pow3 i).toNat = pwL.getD i 0 := by
  have := nall_get pwL_lt i h
  have h2 : pwL.getD i 0 < 256 := by
    rw [show Nat.blt (pwL.getD i 0) 256 = Nat.ble (pwL.getD i 0 + 1) 256 from rfl, Nat.ble_eq] at this; omega
  unfold pow3
  rw [BitVec.toNat_ofNat]; omega
theorem pow3_next (i : Nat) (h : i < 254) : rmul (pow3 i) 3#8 = pow3 (i + 1) := by
  have hc := pwL_chk
  rw [Bool.and_eq_true] at hc
  have h1 := nall_get hc.1 i (by omega)
  rw [Bool.or_eq_true] at h1
  rcases h1 with h1 | h1
  · have := Nat.eq_of_beq_eq_true h1; omega
  · rw [← gmul_rmul]
    apply BitVec.eq_of_toNat_eq
    rw [gmul_ngm, pow3_nat i (by omega), pow3_nat (i + 1) (by omega)]
    exact Nat.eq_of_beq_eq_true h1
theorem pow3_inv (i : Nat) (h : i < 255) : ginv (pow3 i) = pow3 ((255 - i) % 255) := by
  have hc := pwL_chk
  rw [Bool.and_eq_true, Bool.and_eq_true] at hc
  have h1 := nall_get hc.2.1 i h
  apply BitVec.eq_of_toNat_eq
  rw [ginv_ninv, pow3_nat i h, pow3_nat _ (Nat.mod_lt _ (by omega))]
  exact Nat.eq_of_beq_eq_true h1
theorem pow3_all (b : BitVec 8) (h : b ≠ 0#8) : ∃ i, i < 255 ∧ pow3 i = b := by
  have hc := pwL_chk
  rw [Bool.and_eq_true, Bool.and_eq_true] at hc
  have h1 := nall_get hc.2.2 b.toNat b.isLt
  rw [Bool.or_eq_true, Bool.and_eq_true] at h1
  rcases h1 with h1 | ⟨h1, h2⟩
  · exact absurd (BitVec.eq_of_toNat_eq (Nat.eq_of_beq_eq_true h1)) h
  · rw [show Nat.blt (ixL.getD b.toNat 0) 255 = Nat.ble (ixL.getD b.toNat 0 + 1) 255 from rfl, Nat.ble_eq] at h1
    refine ⟨ixL.getD b.toNat 0, by omega, ?_⟩
    unfold pow3
    rw [Nat.eq_of_beq_eq_true h2]; simp
/-- The reference's table, i powers set in. -/
def outS : Nat → List (BitVec 8)
  | 0 => (List.replicate 256 0#8).set 0 (aff 0)
  | i + 1 => (outS i).set (pow3 i).toNat (aff (pow3 ((255 - i) % 255)))
theorem outS_length (i : Nat) : (outS i).length = 256 := by
  induction i with
  | zero => rw [outS, List.length_set, List.length_replicate]
  | succ i ih => rw [outS, List.length_set, ih]
theorem outS_zero (i : Nat) : i ≤ 255 → (outS i).getD 0 0 = subC 0 := by
  induction i with
  | zero =>
    intro _
    rw [outS, getD_set_eq8 (by rw [List.length_replicate]; omega), aff_eq]
    unfold subC; rw [ginv_zero]
  | succ i ih =>
    intro h
    have hne : (pow3 i).toNat ≠ 0 := by
      have := nall_get pwL_pos i (by omega)
      rw [pow3_nat i (by omega)]
      rw [show Nat.blt 0 (pwL.getD i 0) = Nat.ble (0 + 1) (pwL.getD i 0) from rfl, Nat.ble_eq] at this; omega
    rw [outS, getD_set_ne8 hne, ih (by omega)]
theorem outS_at (n : Nat) (hn : n ≤ 255) : ∀ i, i < n → (outS n).getD (pow3 i).toNat 0 = subC (pow3 i) := by
  induction n with
  | zero => intro i h; omega
  | succ n ih =>
    intro i h
    have hl := outS_length n
    rw [outS]
    by_cases e : pow3 n = pow3 i
    · rw [e, getD_set_eq8 (by rw [hl]; exact (pow3 i).isLt), ← pow3_inv n (by omega), aff_eq, e]; rfl
    · have hne : (pow3 n).toNat ≠ (pow3 i).toNat := fun he => e (BitVec.eq_of_toNat_eq he)
      rw [getD_set_ne8 hne]
      by_cases e2 : i = n
      · exact absurd (by rw [e2]) e
      · exact ih (by omega) i (by omega)
theorem S_sub (b : BitVec 8) : (outS 255).getD b.toNat 0 = subC b := by
  by_cases h : b = 0#8
  · subst h; exact outS_zero 255 (Nat.le_refl _)
  · obtain ⟨i, h1, h2⟩ := pow3_all b h
    rw [← h2]; exact outS_at 255 (Nat.le_refl _) i h1
end Go.Vm
end
