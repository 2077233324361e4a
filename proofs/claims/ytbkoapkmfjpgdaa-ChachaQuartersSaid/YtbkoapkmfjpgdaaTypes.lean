/- What the program's types are: their sizes, fields, elements and zero values; no conditions. -/
import Derived.Test.YtbkoapkmfjpgdaaVmS
import Derived.Test.YtbkoapkmfjpgdaaProg
set_option linter.unusedVariables false
set_option linter.unusedSimpArgs false
set_option linter.unusedSectionVars false
namespace Go.Vm.Ty
open Go.Proofs
set_option maxRecDepth 100000
theorem sz1 : szOf Try.prog 1 = some 1 := by kernel_rfl
theorem by1 : byOf Try.prog 1 = some 8 := by kernel_rfl
theorem zero1 : zeroOf Try.prog 1 = some [.nilFn] := by kernel_rfl
theorem row1 : isRowT Try.prog 1 = some false := by kernel_rfl
theorem sz2 : szOf Try.prog 2 = some 1 := by kernel_rfl
theorem by2 : byOf Try.prog 2 = some 8 := by kernel_rfl
theorem zero2 : zeroOf Try.prog 2 = some [.i64 0] := by kernel_rfl
theorem row2 : isRowT Try.prog 2 = some false := by kernel_rfl
theorem sz3 : szOf Try.prog 3 = some 1 := by kernel_rfl
theorem by3 : byOf Try.prog 3 = some 8 := by kernel_rfl
theorem zero3 : zeroOf Try.prog 3 = some [.i64 0] := by kernel_rfl
theorem row3 : isRowT Try.prog 3 = some false := by kernel_rfl
theorem sz4 : szOf Try.prog 4 = some 1 := by kernel_rfl
theorem by4 : byOf Try.prog 4 = some 1 := by kernel_rfl
theorem zero4 : zeroOf Try.prog 4 = some [.bool false] := by kernel_rfl
theorem row4 : isRowT Try.prog 4 = some false := by kernel_rfl
theorem sz5 : szOf Try.prog 5 = some 1 := by kernel_rfl
theorem by5 : byOf Try.prog 5 = some 1 := by kernel_rfl
theorem zero5 : zeroOf Try.prog 5 = some [.u8 0#8] := by kernel_rfl
theorem row5 : isRowT Try.prog 5 = some false := by kernel_rfl
theorem sz6 : szOf Try.prog 6 = some 1 := by kernel_rfl
theorem by6 : byOf Try.prog 6 = some 1 := by kernel_rfl
theorem zero6 : zeroOf Try.prog 6 = some [.u8 0#8] := by kernel_rfl
theorem row6 : isRowT Try.prog 6 = some false := by kernel_rfl
theorem sz7 : szOf Try.prog 7 = some 4 := by kernel_rfl
theorem by7 : byOf Try.prog 7 = some 24 := by kernel_rfl
theorem zero7 : zeroOf Try.prog 7 = some [.i64 0, .i64 0, .bool false, .u8 0#8] := by kernel_rfl
theorem row7 : isRowT Try.prog 7 = some true := by kernel_rfl
theorem fld7_0 : fldOf Try.prog 7 0 = some (0, 2) := by kernel_rfl
theorem fld7_1 : fldOf Try.prog 7 1 = some (1, 3) := by kernel_rfl
theorem fld7_2 : fldOf Try.prog 7 2 = some (2, 4) := by kernel_rfl
theorem fld7_3 : fldOf Try.prog 7 3 = some (3, 6) := by kernel_rfl
theorem bld7 : buildT Try.prog 7 = some ([.i64 0, .i64 0, .bool false, .u8 0#8], .inl [(0, 1), (1, 1), (2, 1), (3, 1)]) := by kernel_rfl
theorem sz8 : szOf Try.prog 8 = some 4 := by kernel_rfl
theorem by8 : byOf Try.prog 8 = some 24 := by kernel_rfl
theorem zero8 : zeroOf Try.prog 8 = some [.i64 0, .i64 0, .bool false, .u8 0#8] := by kernel_rfl
theorem row8 : isRowT Try.prog 8 = some true := by kernel_rfl
theorem fld8_0 : fldOf Try.prog 8 0 = some (0, 2) := by kernel_rfl
theorem fld8_1 : fldOf Try.prog 8 1 = some (1, 3) := by kernel_rfl
theorem fld8_2 : fldOf Try.prog 8 2 = some (2, 4) := by kernel_rfl
theorem fld8_3 : fldOf Try.prog 8 3 = some (3, 6) := by kernel_rfl
theorem bld8 : buildT Try.prog 8 = some ([.i64 0, .i64 0, .bool false, .u8 0#8], .inl [(0, 1), (1, 1), (2, 1), (3, 1)]) := by kernel_rfl
theorem sz9 : szOf Try.prog 9 = some 1 := by kernel_rfl
theorem by9 : byOf Try.prog 9 = some 16 := by kernel_rfl
theorem zero9 : zeroOf Try.prog 9 = some [.str []] := by kernel_rfl
theorem row9 : isRowT Try.prog 9 = some false := by kernel_rfl
theorem sz10 : szOf Try.prog 10 = some 1 := by kernel_rfl
theorem by10 : byOf Try.prog 10 = some 16 := by kernel_rfl
theorem zero10 : zeroOf Try.prog 10 = some [.str []] := by kernel_rfl
theorem row10 : isRowT Try.prog 10 = some false := by kernel_rfl
theorem sz11 : szOf Try.prog 11 = some 1 := by kernel_rfl
theorem by11 : byOf Try.prog 11 = some 16 := by kernel_rfl
theorem zero11 : zeroOf Try.prog 11 = some [.str []] := by kernel_rfl
theorem row11 : isRowT Try.prog 11 = some false := by kernel_rfl
theorem sz12 : szOf Try.prog 12 = some 1 := by kernel_rfl
theorem by12 : byOf Try.prog 12 = some 8 := by kernel_rfl
theorem zero12 : zeroOf Try.prog 12 = some [.u64 0#64] := by kernel_rfl
theorem row12 : isRowT Try.prog 12 = some false := by kernel_rfl
theorem sz13 : szOf Try.prog 13 = some 2 := by kernel_rfl
theorem by13 : byOf Try.prog 13 = some 24 := by kernel_rfl
theorem zero13 : zeroOf Try.prog 13 = some [.str [], .u64 0#64] := by kernel_rfl
theorem row13 : isRowT Try.prog 13 = some true := by kernel_rfl
theorem fld13_0 : fldOf Try.prog 13 0 = some (0, 9) := by kernel_rfl
theorem fld13_1 : fldOf Try.prog 13 1 = some (1, 12) := by kernel_rfl
theorem bld13 : buildT Try.prog 13 = some ([.str [], .u64 0#64], .inl [(0, 1), (1, 1)]) := by kernel_rfl
theorem sz14 : szOf Try.prog 14 = some 2 := by kernel_rfl
theorem by14 : byOf Try.prog 14 = some 24 := by kernel_rfl
theorem zero14 : zeroOf Try.prog 14 = some [.str [], .u64 0#64] := by kernel_rfl
theorem row14 : isRowT Try.prog 14 = some true := by kernel_rfl
theorem fld14_0 : fldOf Try.prog 14 0 = some (0, 9) := by kernel_rfl
theorem fld14_1 : fldOf Try.prog 14 1 = some (1, 12) := by kernel_rfl
theorem bld14 : buildT Try.prog 14 = some ([.str [], .u64 0#64], .inl [(0, 1), (1, 1)]) := by kernel_rfl
theorem sz15 : szOf Try.prog 15 = some 1 := by kernel_rfl
theorem by15 : byOf Try.prog 15 = some 8 := by kernel_rfl
theorem zero15 : zeroOf Try.prog 15 = some [.nilPtr] := by kernel_rfl
theorem row15 : isRowT Try.prog 15 = some false := by kernel_rfl
theorem sz16 : szOf Try.prog 16 = some 1 := by kernel_rfl
theorem by16 : byOf Try.prog 16 = some 8 := by kernel_rfl
theorem zero16 : zeroOf Try.prog 16 = some [.nilPtr] := by kernel_rfl
theorem row16 : isRowT Try.prog 16 = some false := by kernel_rfl
theorem sz17 : szOf Try.prog 17 = some 1 := by kernel_rfl
theorem by17 : byOf Try.prog 17 = some 8 := by kernel_rfl
theorem zero17 : zeroOf Try.prog 17 = some [.nilPtr] := by kernel_rfl
theorem row17 : isRowT Try.prog 17 = some false := by kernel_rfl
theorem sz18 : szOf Try.prog 18 = some 1 := by kernel_rfl
theorem by18 : byOf Try.prog 18 = some 8 := by kernel_rfl
theorem zero18 : zeroOf Try.prog 18 = some [.nilPtr] := by kernel_rfl
theorem row18 : isRowT Try.prog 18 = some true := by kernel_rfl
theorem fld18_0 : fldOf Try.prog 18 0 = some (0, 17) := by kernel_rfl
theorem bld18 : buildT Try.prog 18 = some ([.nilPtr], .inl [(0, 1)]) := by kernel_rfl
theorem sz19 : szOf Try.prog 19 = some 1 := by kernel_rfl
theorem by19 : byOf Try.prog 19 = some 8 := by kernel_rfl
theorem zero19 : zeroOf Try.prog 19 = some [.nilPtr] := by kernel_rfl
theorem row19 : isRowT Try.prog 19 = some true := by kernel_rfl
theorem fld19_0 : fldOf Try.prog 19 0 = some (0, 17) := by kernel_rfl
theorem bld19 : buildT Try.prog 19 = some ([.nilPtr], .inl [(0, 1)]) := by kernel_rfl
theorem sz20 : szOf Try.prog 20 = some 1 := by kernel_rfl
theorem by20 : byOf Try.prog 20 = some 16 := by kernel_rfl
theorem zero20 : zeroOf Try.prog 20 = some [.nilIface] := by kernel_rfl
theorem row20 : isRowT Try.prog 20 = some false := by kernel_rfl
theorem sz21 : szOf Try.prog 21 = some 1 := by kernel_rfl
theorem by21 : byOf Try.prog 21 = some 4 := by kernel_rfl
theorem zero21 : zeroOf Try.prog 21 = some [.i32 0] := by kernel_rfl
theorem row21 : isRowT Try.prog 21 = some false := by kernel_rfl
theorem sz22 : szOf Try.prog 22 = some 1 := by kernel_rfl
theorem by22 : byOf Try.prog 22 = some 8 := by kernel_rfl
theorem zero22 : zeroOf Try.prog 22 = some [.nilFn] := by kernel_rfl
theorem row22 : isRowT Try.prog 22 = some false := by kernel_rfl
theorem sz23 : szOf Try.prog 23 = some 1 := by kernel_rfl
theorem by23 : byOf Try.prog 23 = some 8 := by kernel_rfl
theorem zero23 : zeroOf Try.prog 23 = some [.nilFn] := by kernel_rfl
theorem row23 : isRowT Try.prog 23 = some false := by kernel_rfl
theorem sz24 : szOf Try.prog 24 = some 1 := by kernel_rfl
theorem by24 : byOf Try.prog 24 = some 8 := by kernel_rfl
theorem zero24 : zeroOf Try.prog 24 = some [.i64 0] := by kernel_rfl
theorem row24 : isRowT Try.prog 24 = some false := by kernel_rfl
theorem sz26 : szOf Try.prog 26 = some 1 := by kernel_rfl
theorem by26 : byOf Try.prog 26 = some 8 := by kernel_rfl
theorem zero26 : zeroOf Try.prog 26 = some [.nilFn] := by kernel_rfl
theorem row26 : isRowT Try.prog 26 = some false := by kernel_rfl
theorem sz27 : szOf Try.prog 27 = some 1 := by kernel_rfl
theorem by27 : byOf Try.prog 27 = some 8 := by kernel_rfl
theorem zero27 : zeroOf Try.prog 27 = some [.nilFn] := by kernel_rfl
theorem row27 : isRowT Try.prog 27 = some false := by kernel_rfl
theorem sz28 : szOf Try.prog 28 = some 1 := by kernel_rfl
theorem by28 : byOf Try.prog 28 = some 8 := by kernel_rfl
theorem zero28 : zeroOf Try.prog 28 = some [.nilFn] := by kernel_rfl
theorem row28 : isRowT Try.prog 28 = some false := by kernel_rfl
theorem sz29 : szOf Try.prog 29 = some 1 := by kernel_rfl
theorem by29 : byOf Try.prog 29 = some 8 := by kernel_rfl
theorem zero29 : zeroOf Try.prog 29 = some [.nilFn] := by kernel_rfl
theorem row29 : isRowT Try.prog 29 = some false := by kernel_rfl
theorem sz30 : szOf Try.prog 30 = some 2 := by kernel_rfl
theorem by30 : byOf Try.prog 30 = some 16 := by kernel_rfl
theorem zero30 : zeroOf Try.prog 30 = some [.i64 0, .i64 0] := by kernel_rfl
theorem row30 : isRowT Try.prog 30 = some true := by kernel_rfl
theorem fld30_0 : fldOf Try.prog 30 0 = some (0, 3) := by kernel_rfl
theorem fld30_1 : fldOf Try.prog 30 1 = some (1, 3) := by kernel_rfl
theorem bld30 : buildT Try.prog 30 = some ([.i64 0, .i64 0], .inl [(0, 1), (1, 1)]) := by kernel_rfl
theorem sz31 : szOf Try.prog 31 = some 2 := by kernel_rfl
theorem by31 : byOf Try.prog 31 = some 16 := by kernel_rfl
theorem zero31 : zeroOf Try.prog 31 = some [.i64 0, .i64 0] := by kernel_rfl
theorem row31 : isRowT Try.prog 31 = some true := by kernel_rfl
theorem fld31_0 : fldOf Try.prog 31 0 = some (0, 3) := by kernel_rfl
theorem fld31_1 : fldOf Try.prog 31 1 = some (1, 3) := by kernel_rfl
theorem bld31 : buildT Try.prog 31 = some ([.i64 0, .i64 0], .inl [(0, 1), (1, 1)]) := by kernel_rfl
theorem sz33 : szOf Try.prog 33 = some 1 := by kernel_rfl
theorem by33 : byOf Try.prog 33 = some 8 := by kernel_rfl
theorem zero33 : zeroOf Try.prog 33 = some [.nilFn] := by kernel_rfl
theorem row33 : isRowT Try.prog 33 = some false := by kernel_rfl
theorem sz34 : szOf Try.prog 34 = some 1 := by kernel_rfl
theorem by34 : byOf Try.prog 34 = some 4 := by kernel_rfl
theorem zero34 : zeroOf Try.prog 34 = some [.u32 0#32] := by kernel_rfl
theorem row34 : isRowT Try.prog 34 = some false := by kernel_rfl
theorem sz36 : szOf Try.prog 36 = some 1 := by kernel_rfl
theorem by36 : byOf Try.prog 36 = some 8 := by kernel_rfl
theorem zero36 : zeroOf Try.prog 36 = some [.nilFn] := by kernel_rfl
theorem row36 : isRowT Try.prog 36 = some false := by kernel_rfl
theorem sz37 : szOf Try.prog 37 = some 4 := by kernel_rfl
theorem by37 : byOf Try.prog 37 = some 16 := by kernel_rfl
theorem zero37 : zeroOf Try.prog 37 = some [.u32 0#32, .u32 0#32, .u32 0#32, .u32 0#32] := by kernel_rfl
theorem row37 : isRowT Try.prog 37 = some true := by kernel_rfl
theorem arr37 : arrT Try.prog 37 = some (4, 34) := by kernel_rfl
theorem bld37 : buildT Try.prog 37 = some ([.u32 0#32, .u32 0#32, .u32 0#32, .u32 0#32], .inr 1) := by kernel_rfl
theorem sz38 : szOf Try.prog 38 = some 1 := by kernel_rfl
theorem by38 : byOf Try.prog 38 = some 8 := by kernel_rfl
theorem zero38 : zeroOf Try.prog 38 = some [.nilFn] := by kernel_rfl
theorem row38 : isRowT Try.prog 38 = some false := by kernel_rfl
theorem sz39 : szOf Try.prog 39 = some 1 := by kernel_rfl
theorem by39 : byOf Try.prog 39 = some 8 := by kernel_rfl
theorem zero39 : zeroOf Try.prog 39 = some [.nilFn] := by kernel_rfl
theorem row39 : isRowT Try.prog 39 = some false := by kernel_rfl
theorem sz40 : szOf Try.prog 40 = some 1 := by kernel_rfl
theorem by40 : byOf Try.prog 40 = some 24 := by kernel_rfl
theorem zero40 : zeroOf Try.prog 40 = some [.nilSlice] := by kernel_rfl
theorem row40 : isRowT Try.prog 40 = some false := by kernel_rfl
theorem slc40 : sliceT Try.prog 40 = some 3 := by kernel_rfl
theorem sz41 : szOf Try.prog 41 = some 1 := by kernel_rfl
theorem by41 : byOf Try.prog 41 = some 8 := by kernel_rfl
theorem zero41 : zeroOf Try.prog 41 = some [.nilPtr] := by kernel_rfl
theorem row41 : isRowT Try.prog 41 = some false := by kernel_rfl
theorem sz42 : szOf Try.prog 42 = some 1 := by kernel_rfl
theorem by42 : byOf Try.prog 42 = some 8 := by kernel_rfl
theorem zero42 : zeroOf Try.prog 42 = some [.nilFn] := by kernel_rfl
theorem row42 : isRowT Try.prog 42 = some false := by kernel_rfl
theorem sz43 : szOf Try.prog 43 = some 1 := by kernel_rfl
theorem by43 : byOf Try.prog 43 = some 8 := by kernel_rfl
theorem zero43 : zeroOf Try.prog 43 = some [.nilPtr] := by kernel_rfl
theorem row43 : isRowT Try.prog 43 = some false := by kernel_rfl
theorem sz44 : szOf Try.prog 44 = some 1 := by kernel_rfl
theorem by44 : byOf Try.prog 44 = some 24 := by kernel_rfl
theorem zero44 : zeroOf Try.prog 44 = some [.nilSlice] := by kernel_rfl
theorem row44 : isRowT Try.prog 44 = some true := by kernel_rfl
theorem fld44_0 : fldOf Try.prog 44 0 = some (0, 40) := by kernel_rfl
theorem bld44 : buildT Try.prog 44 = some ([.nilSlice], .inl [(0, 1)]) := by kernel_rfl
theorem sz45 : szOf Try.prog 45 = some 1 := by kernel_rfl
theorem by45 : byOf Try.prog 45 = some 24 := by kernel_rfl
theorem zero45 : zeroOf Try.prog 45 = some [.nilSlice] := by kernel_rfl
theorem row45 : isRowT Try.prog 45 = some true := by kernel_rfl
theorem fld45_0 : fldOf Try.prog 45 0 = some (0, 40) := by kernel_rfl
theorem bld45 : buildT Try.prog 45 = some ([.nilSlice], .inl [(0, 1)]) := by kernel_rfl
theorem sz46 : szOf Try.prog 46 = some 1 := by kernel_rfl
theorem by46 : byOf Try.prog 46 = some 8 := by kernel_rfl
theorem zero46 : zeroOf Try.prog 46 = some [.nilFn] := by kernel_rfl
theorem row46 : isRowT Try.prog 46 = some false := by kernel_rfl
theorem sz47 : szOf Try.prog 47 = some 1 := by kernel_rfl
theorem by47 : byOf Try.prog 47 = some 8 := by kernel_rfl
theorem zero47 : zeroOf Try.prog 47 = some [.nilFn] := by kernel_rfl
theorem row47 : isRowT Try.prog 47 = some false := by kernel_rfl
theorem sz48 : szOf Try.prog 48 = some 1 := by kernel_rfl
theorem by48 : byOf Try.prog 48 = some 8 := by kernel_rfl
theorem zero48 : zeroOf Try.prog 48 = some [.nilFn] := by kernel_rfl
theorem row48 : isRowT Try.prog 48 = some false := by kernel_rfl
theorem sz49 : szOf Try.prog 49 = some 1 := by kernel_rfl
theorem by49 : byOf Try.prog 49 = some 8 := by kernel_rfl
theorem zero49 : zeroOf Try.prog 49 = some [.nilFn] := by kernel_rfl
theorem row49 : isRowT Try.prog 49 = some false := by kernel_rfl
theorem sz50 : szOf Try.prog 50 = some 1 := by kernel_rfl
theorem by50 : byOf Try.prog 50 = some 8 := by kernel_rfl
theorem zero50 : zeroOf Try.prog 50 = some [.nilFn] := by kernel_rfl
theorem row50 : isRowT Try.prog 50 = some false := by kernel_rfl
theorem sz51 : szOf Try.prog 51 = some 1 := by kernel_rfl
theorem by51 : byOf Try.prog 51 = some 24 := by kernel_rfl
theorem zero51 : zeroOf Try.prog 51 = some [.nilSlice] := by kernel_rfl
theorem row51 : isRowT Try.prog 51 = some false := by kernel_rfl
theorem slc51 : sliceT Try.prog 51 = some 61 := by kernel_rfl
theorem sz52 : szOf Try.prog 52 = some 1 := by kernel_rfl
theorem by52 : byOf Try.prog 52 = some 8 := by kernel_rfl
theorem zero52 : zeroOf Try.prog 52 = some [.nilPtr] := by kernel_rfl
theorem row52 : isRowT Try.prog 52 = some false := by kernel_rfl
theorem sz53 : szOf Try.prog 53 = some 1 := by kernel_rfl
theorem by53 : byOf Try.prog 53 = some 8 := by kernel_rfl
theorem zero53 : zeroOf Try.prog 53 = some [.nilFn] := by kernel_rfl
theorem row53 : isRowT Try.prog 53 = some false := by kernel_rfl
theorem sz54 : szOf Try.prog 54 = some 1 := by kernel_rfl
theorem by54 : byOf Try.prog 54 = some 8 := by kernel_rfl
theorem zero54 : zeroOf Try.prog 54 = some [.nilPtr] := by kernel_rfl
theorem row54 : isRowT Try.prog 54 = some false := by kernel_rfl
theorem sz55 : szOf Try.prog 55 = some 1 := by kernel_rfl
theorem by55 : byOf Try.prog 55 = some 24 := by kernel_rfl
theorem zero55 : zeroOf Try.prog 55 = some [.nilSlice] := by kernel_rfl
theorem row55 : isRowT Try.prog 55 = some false := by kernel_rfl
theorem slc55 : sliceT Try.prog 55 = some 34 := by kernel_rfl
theorem sz56 : szOf Try.prog 56 = some 3 := by kernel_rfl
theorem by56 : byOf Try.prog 56 = some 56 := by kernel_rfl
theorem zero56 : zeroOf Try.prog 56 = some [.i64 0, .nilSlice, .nilSlice] := by kernel_rfl
theorem row56 : isRowT Try.prog 56 = some true := by kernel_rfl
theorem fld56_0 : fldOf Try.prog 56 0 = some (0, 3) := by kernel_rfl
theorem fld56_1 : fldOf Try.prog 56 1 = some (1, 55) := by kernel_rfl
theorem fld56_2 : fldOf Try.prog 56 2 = some (2, 40) := by kernel_rfl
theorem bld56 : buildT Try.prog 56 = some ([.i64 0, .nilSlice, .nilSlice], .inl [(0, 1), (1, 1), (2, 1)]) := by kernel_rfl
theorem sz57 : szOf Try.prog 57 = some 3 := by kernel_rfl
theorem by57 : byOf Try.prog 57 = some 56 := by kernel_rfl
theorem zero57 : zeroOf Try.prog 57 = some [.i64 0, .nilSlice, .nilSlice] := by kernel_rfl
theorem row57 : isRowT Try.prog 57 = some true := by kernel_rfl
theorem fld57_0 : fldOf Try.prog 57 0 = some (0, 3) := by kernel_rfl
theorem fld57_1 : fldOf Try.prog 57 1 = some (1, 55) := by kernel_rfl
theorem fld57_2 : fldOf Try.prog 57 2 = some (2, 40) := by kernel_rfl
theorem bld57 : buildT Try.prog 57 = some ([.i64 0, .nilSlice, .nilSlice], .inl [(0, 1), (1, 1), (2, 1)]) := by kernel_rfl
theorem sz58 : szOf Try.prog 58 = some 2 := by kernel_rfl
theorem by58 : byOf Try.prog 58 = some 16 := by kernel_rfl
theorem zero58 : zeroOf Try.prog 58 = some [.u32 0#32, .i64 0] := by kernel_rfl
theorem row58 : isRowT Try.prog 58 = some true := by kernel_rfl
theorem fld58_0 : fldOf Try.prog 58 0 = some (0, 34) := by kernel_rfl
theorem fld58_1 : fldOf Try.prog 58 1 = some (1, 3) := by kernel_rfl
theorem bld58 : buildT Try.prog 58 = some ([.u32 0#32, .i64 0], .inl [(0, 1), (1, 1)]) := by kernel_rfl
theorem sz59 : szOf Try.prog 59 = some 2 := by kernel_rfl
theorem by59 : byOf Try.prog 59 = some 16 := by kernel_rfl
theorem zero59 : zeroOf Try.prog 59 = some [.u32 0#32, .i64 0] := by kernel_rfl
theorem row59 : isRowT Try.prog 59 = some true := by kernel_rfl
theorem fld59_0 : fldOf Try.prog 59 0 = some (0, 34) := by kernel_rfl
theorem fld59_1 : fldOf Try.prog 59 1 = some (1, 3) := by kernel_rfl
theorem bld59 : buildT Try.prog 59 = some ([.u32 0#32, .i64 0], .inl [(0, 1), (1, 1)]) := by kernel_rfl
theorem sz60 : szOf Try.prog 60 = some 8 := by kernel_rfl
theorem by60 : byOf Try.prog 60 = some 64 := by kernel_rfl
theorem zero60 : zeroOf Try.prog 60 = some [.i64 0, .i64 0, .i64 0, .u32 0#32, .u32 0#32, .str [], .u32 0#32, .i64 0] := by kernel_rfl
theorem row60 : isRowT Try.prog 60 = some true := by kernel_rfl
theorem fld60_0 : fldOf Try.prog 60 0 = some (0, 3) := by kernel_rfl
theorem fld60_1 : fldOf Try.prog 60 1 = some (1, 3) := by kernel_rfl
theorem fld60_2 : fldOf Try.prog 60 2 = some (2, 3) := by kernel_rfl
theorem fld60_3 : fldOf Try.prog 60 3 = some (3, 34) := by kernel_rfl
theorem fld60_4 : fldOf Try.prog 60 4 = some (4, 34) := by kernel_rfl
theorem fld60_5 : fldOf Try.prog 60 5 = some (5, 9) := by kernel_rfl
theorem fld60_6 : fldOf Try.prog 60 6 = some (6, 59) := by kernel_rfl
theorem bld60 : buildT Try.prog 60 = some ([.i64 0, .i64 0, .i64 0, .u32 0#32, .u32 0#32, .str [], .u32 0#32, .i64 0], .inl [(0, 1), (1, 1), (2, 1), (3, 1), (4, 1), (5, 1), (6, 2)]) := by kernel_rfl
theorem sz61 : szOf Try.prog 61 = some 8 := by kernel_rfl
theorem by61 : byOf Try.prog 61 = some 64 := by kernel_rfl
theorem zero61 : zeroOf Try.prog 61 = some [.i64 0, .i64 0, .i64 0, .u32 0#32, .u32 0#32, .str [], .u32 0#32, .i64 0] := by kernel_rfl
theorem row61 : isRowT Try.prog 61 = some true := by kernel_rfl
theorem fld61_0 : fldOf Try.prog 61 0 = some (0, 3) := by kernel_rfl
theorem fld61_1 : fldOf Try.prog 61 1 = some (1, 3) := by kernel_rfl
theorem fld61_2 : fldOf Try.prog 61 2 = some (2, 3) := by kernel_rfl
theorem fld61_3 : fldOf Try.prog 61 3 = some (3, 34) := by kernel_rfl
theorem fld61_4 : fldOf Try.prog 61 4 = some (4, 34) := by kernel_rfl
theorem fld61_5 : fldOf Try.prog 61 5 = some (5, 9) := by kernel_rfl
theorem fld61_6 : fldOf Try.prog 61 6 = some (6, 59) := by kernel_rfl
theorem bld61 : buildT Try.prog 61 = some ([.i64 0, .i64 0, .i64 0, .u32 0#32, .u32 0#32, .str [], .u32 0#32, .i64 0], .inl [(0, 1), (1, 1), (2, 1), (3, 1), (4, 1), (5, 1), (6, 2)]) := by kernel_rfl
theorem sz62 : szOf Try.prog 62 = some 1 := by kernel_rfl
theorem by62 : byOf Try.prog 62 = some 8 := by kernel_rfl
theorem zero62 : zeroOf Try.prog 62 = some [.nilFn] := by kernel_rfl
theorem row62 : isRowT Try.prog 62 = some false := by kernel_rfl
theorem sz63 : szOf Try.prog 63 = some 1 := by kernel_rfl
theorem by63 : byOf Try.prog 63 = some 8 := by kernel_rfl
theorem zero63 : zeroOf Try.prog 63 = some [.nilFn] := by kernel_rfl
theorem row63 : isRowT Try.prog 63 = some false := by kernel_rfl
theorem sz64 : szOf Try.prog 64 = some 1 := by kernel_rfl
theorem by64 : byOf Try.prog 64 = some 8 := by kernel_rfl
theorem zero64 : zeroOf Try.prog 64 = some [.nilFn] := by kernel_rfl
theorem row64 : isRowT Try.prog 64 = some false := by kernel_rfl
theorem sz65 : szOf Try.prog 65 = some 1 := by kernel_rfl
theorem by65 : byOf Try.prog 65 = some 8 := by kernel_rfl
theorem zero65 : zeroOf Try.prog 65 = some [.nilFn] := by kernel_rfl
theorem row65 : isRowT Try.prog 65 = some false := by kernel_rfl
theorem sz66 : szOf Try.prog 66 = some 1 := by kernel_rfl
theorem by66 : byOf Try.prog 66 = some 8 := by kernel_rfl
theorem zero66 : zeroOf Try.prog 66 = some [.nilPtr] := by kernel_rfl
theorem row66 : isRowT Try.prog 66 = some false := by kernel_rfl
theorem sz67 : szOf Try.prog 67 = some 1 := by kernel_rfl
theorem by67 : byOf Try.prog 67 = some 8 := by kernel_rfl
theorem zero67 : zeroOf Try.prog 67 = some [.nilFn] := by kernel_rfl
theorem row67 : isRowT Try.prog 67 = some false := by kernel_rfl
theorem sz68 : szOf Try.prog 68 = some 1 := by kernel_rfl
theorem by68 : byOf Try.prog 68 = some 8 := by kernel_rfl
theorem zero68 : zeroOf Try.prog 68 = some [.nilPtr] := by kernel_rfl
theorem row68 : isRowT Try.prog 68 = some false := by kernel_rfl
theorem sz69 : szOf Try.prog 69 = some 2 := by kernel_rfl
theorem by69 : byOf Try.prog 69 = some 48 := by kernel_rfl
theorem zero69 : zeroOf Try.prog 69 = some [.nilSlice, .nilSlice] := by kernel_rfl
theorem row69 : isRowT Try.prog 69 = some true := by kernel_rfl
theorem fld69_0 : fldOf Try.prog 69 0 = some (0, 40) := by kernel_rfl
theorem fld69_1 : fldOf Try.prog 69 1 = some (1, 40) := by kernel_rfl
theorem bld69 : buildT Try.prog 69 = some ([.nilSlice, .nilSlice], .inl [(0, 1), (1, 1)]) := by kernel_rfl
theorem sz70 : szOf Try.prog 70 = some 2 := by kernel_rfl
theorem by70 : byOf Try.prog 70 = some 48 := by kernel_rfl
theorem zero70 : zeroOf Try.prog 70 = some [.nilSlice, .nilSlice] := by kernel_rfl
theorem row70 : isRowT Try.prog 70 = some true := by kernel_rfl
theorem fld70_0 : fldOf Try.prog 70 0 = some (0, 40) := by kernel_rfl
theorem fld70_1 : fldOf Try.prog 70 1 = some (1, 40) := by kernel_rfl
theorem bld70 : buildT Try.prog 70 = some ([.nilSlice, .nilSlice], .inl [(0, 1), (1, 1)]) := by kernel_rfl
theorem sz71 : szOf Try.prog 71 = some 1 := by kernel_rfl
theorem by71 : byOf Try.prog 71 = some 8 := by kernel_rfl
theorem zero71 : zeroOf Try.prog 71 = some [.nilFn] := by kernel_rfl
theorem row71 : isRowT Try.prog 71 = some false := by kernel_rfl
theorem sz72 : szOf Try.prog 72 = some 1 := by kernel_rfl
theorem by72 : byOf Try.prog 72 = some 8 := by kernel_rfl
theorem zero72 : zeroOf Try.prog 72 = some [.nilFn] := by kernel_rfl
theorem row72 : isRowT Try.prog 72 = some false := by kernel_rfl
theorem sz73 : szOf Try.prog 73 = some 1 := by kernel_rfl
theorem by73 : byOf Try.prog 73 = some 8 := by kernel_rfl
theorem zero73 : zeroOf Try.prog 73 = some [.nilFn] := by kernel_rfl
theorem row73 : isRowT Try.prog 73 = some false := by kernel_rfl
theorem sz74 : szOf Try.prog 74 = some 1 := by kernel_rfl
theorem by74 : byOf Try.prog 74 = some 8 := by kernel_rfl
theorem zero74 : zeroOf Try.prog 74 = some [.nilFn] := by kernel_rfl
theorem row74 : isRowT Try.prog 74 = some false := by kernel_rfl
theorem sz75 : szOf Try.prog 75 = some 1 := by kernel_rfl
theorem by75 : byOf Try.prog 75 = some 8 := by kernel_rfl
theorem zero75 : zeroOf Try.prog 75 = some [.nilFn] := by kernel_rfl
theorem row75 : isRowT Try.prog 75 = some false := by kernel_rfl
theorem sz76 : szOf Try.prog 76 = some 1 := by kernel_rfl
theorem by76 : byOf Try.prog 76 = some 8 := by kernel_rfl
theorem zero76 : zeroOf Try.prog 76 = some [.nilFn] := by kernel_rfl
theorem row76 : isRowT Try.prog 76 = some false := by kernel_rfl
theorem sz77 : szOf Try.prog 77 = some 1 := by kernel_rfl
theorem by77 : byOf Try.prog 77 = some 8 := by kernel_rfl
theorem zero77 : zeroOf Try.prog 77 = some [.nilPtr] := by kernel_rfl
theorem row77 : isRowT Try.prog 77 = some false := by kernel_rfl
theorem sz78 : szOf Try.prog 78 = some 1 := by kernel_rfl
theorem by78 : byOf Try.prog 78 = some 8 := by kernel_rfl
theorem zero78 : zeroOf Try.prog 78 = some [.nilFn] := by kernel_rfl
theorem row78 : isRowT Try.prog 78 = some false := by kernel_rfl
theorem sz79 : szOf Try.prog 79 = some 1 := by kernel_rfl
theorem by79 : byOf Try.prog 79 = some 8 := by kernel_rfl
theorem zero79 : zeroOf Try.prog 79 = some [.nilPtr] := by kernel_rfl
theorem row79 : isRowT Try.prog 79 = some false := by kernel_rfl
theorem sz80 : szOf Try.prog 80 = some 1 := by kernel_rfl
theorem by80 : byOf Try.prog 80 = some 24 := by kernel_rfl
theorem zero80 : zeroOf Try.prog 80 = some [.nilSlice] := by kernel_rfl
theorem row80 : isRowT Try.prog 80 = some false := by kernel_rfl
theorem slc80 : sliceT Try.prog 80 = some 88 := by kernel_rfl
theorem sz81 : szOf Try.prog 81 = some 1 := by kernel_rfl
theorem by81 : byOf Try.prog 81 = some 24 := by kernel_rfl
theorem zero81 : zeroOf Try.prog 81 = some [.nilSlice] := by kernel_rfl
theorem row81 : isRowT Try.prog 81 = some true := by kernel_rfl
theorem fld81_0 : fldOf Try.prog 81 0 = some (0, 80) := by kernel_rfl
theorem bld81 : buildT Try.prog 81 = some ([.nilSlice], .inl [(0, 1)]) := by kernel_rfl
theorem sz82 : szOf Try.prog 82 = some 1 := by kernel_rfl
theorem by82 : byOf Try.prog 82 = some 24 := by kernel_rfl
theorem zero82 : zeroOf Try.prog 82 = some [.nilSlice] := by kernel_rfl
theorem row82 : isRowT Try.prog 82 = some true := by kernel_rfl
theorem fld82_0 : fldOf Try.prog 82 0 = some (0, 80) := by kernel_rfl
theorem bld82 : buildT Try.prog 82 = some ([.nilSlice], .inl [(0, 1)]) := by kernel_rfl
theorem sz83 : szOf Try.prog 83 = some 1 := by kernel_rfl
theorem by83 : byOf Try.prog 83 = some 8 := by kernel_rfl
theorem zero83 : zeroOf Try.prog 83 = some [.nilFn] := by kernel_rfl
theorem row83 : isRowT Try.prog 83 = some false := by kernel_rfl
theorem sz85 : szOf Try.prog 85 = some 1 := by kernel_rfl
theorem by85 : byOf Try.prog 85 = some 8 := by kernel_rfl
theorem zero85 : zeroOf Try.prog 85 = some [.nilFn] := by kernel_rfl
theorem row85 : isRowT Try.prog 85 = some false := by kernel_rfl
theorem sz86 : szOf Try.prog 86 = some 1 := by kernel_rfl
theorem by86 : byOf Try.prog 86 = some 8 := by kernel_rfl
theorem zero86 : zeroOf Try.prog 86 = some [.nilFn] := by kernel_rfl
theorem row86 : isRowT Try.prog 86 = some false := by kernel_rfl
theorem sz87 : szOf Try.prog 87 = some 3 := by kernel_rfl
theorem by87 : byOf Try.prog 87 = some 24 := by kernel_rfl
theorem zero87 : zeroOf Try.prog 87 = some [.u32 0#32, .i64 0, .i64 0] := by kernel_rfl
theorem row87 : isRowT Try.prog 87 = some true := by kernel_rfl
theorem fld87_0 : fldOf Try.prog 87 0 = some (0, 59) := by kernel_rfl
theorem fld87_1 : fldOf Try.prog 87 1 = some (2, 3) := by kernel_rfl
theorem bld87 : buildT Try.prog 87 = some ([.u32 0#32, .i64 0, .i64 0], .inl [(0, 2), (2, 1)]) := by kernel_rfl
theorem sz88 : szOf Try.prog 88 = some 3 := by kernel_rfl
theorem by88 : byOf Try.prog 88 = some 24 := by kernel_rfl
theorem zero88 : zeroOf Try.prog 88 = some [.u32 0#32, .i64 0, .i64 0] := by kernel_rfl
theorem row88 : isRowT Try.prog 88 = some true := by kernel_rfl
theorem fld88_0 : fldOf Try.prog 88 0 = some (0, 59) := by kernel_rfl
theorem fld88_1 : fldOf Try.prog 88 1 = some (2, 3) := by kernel_rfl
theorem bld88 : buildT Try.prog 88 = some ([.u32 0#32, .i64 0, .i64 0], .inl [(0, 2), (2, 1)]) := by kernel_rfl
theorem sz89 : szOf Try.prog 89 = some 1 := by kernel_rfl
theorem by89 : byOf Try.prog 89 = some 8 := by kernel_rfl
theorem zero89 : zeroOf Try.prog 89 = some [.nilFn] := by kernel_rfl
theorem row89 : isRowT Try.prog 89 = some false := by kernel_rfl
theorem sz90 : szOf Try.prog 90 = some 1 := by kernel_rfl
theorem by90 : byOf Try.prog 90 = some 8 := by kernel_rfl
theorem zero90 : zeroOf Try.prog 90 = some [.nilFn] := by kernel_rfl
theorem row90 : isRowT Try.prog 90 = some false := by kernel_rfl
theorem sz91 : szOf Try.prog 91 = some 1 := by kernel_rfl
theorem by91 : byOf Try.prog 91 = some 8 := by kernel_rfl
theorem zero91 : zeroOf Try.prog 91 = some [.nilFn] := by kernel_rfl
theorem row91 : isRowT Try.prog 91 = some false := by kernel_rfl
theorem sz92 : szOf Try.prog 92 = some 1 := by kernel_rfl
theorem by92 : byOf Try.prog 92 = some 8 := by kernel_rfl
theorem zero92 : zeroOf Try.prog 92 = some [.nilFn] := by kernel_rfl
theorem row92 : isRowT Try.prog 92 = some false := by kernel_rfl
theorem sz93 : szOf Try.prog 93 = some 1 := by kernel_rfl
theorem by93 : byOf Try.prog 93 = some 8 := by kernel_rfl
theorem zero93 : zeroOf Try.prog 93 = some [.u64 0#64] := by kernel_rfl
theorem row93 : isRowT Try.prog 93 = some false := by kernel_rfl
theorem sz94 : szOf Try.prog 94 = some 1 := by kernel_rfl
theorem by94 : byOf Try.prog 94 = some 8 := by kernel_rfl
theorem zero94 : zeroOf Try.prog 94 = some [.nilFn] := by kernel_rfl
theorem row94 : isRowT Try.prog 94 = some false := by kernel_rfl
theorem sz95 : szOf Try.prog 95 = some 1 := by kernel_rfl
theorem by95 : byOf Try.prog 95 = some 8 := by kernel_rfl
theorem zero95 : zeroOf Try.prog 95 = some [.nilFn] := by kernel_rfl
theorem row95 : isRowT Try.prog 95 = some false := by kernel_rfl
theorem sz96 : szOf Try.prog 96 = some 1 := by kernel_rfl
theorem by96 : byOf Try.prog 96 = some 8 := by kernel_rfl
theorem zero96 : zeroOf Try.prog 96 = some [.nilFn] := by kernel_rfl
theorem row96 : isRowT Try.prog 96 = some false := by kernel_rfl
theorem sz97 : szOf Try.prog 97 = some 1 := by kernel_rfl
theorem by97 : byOf Try.prog 97 = some 8 := by kernel_rfl
theorem zero97 : zeroOf Try.prog 97 = some [.nilFn] := by kernel_rfl
theorem row97 : isRowT Try.prog 97 = some false := by kernel_rfl
theorem sz98 : szOf Try.prog 98 = some 1 := by kernel_rfl
theorem by98 : byOf Try.prog 98 = some 8 := by kernel_rfl
theorem zero98 : zeroOf Try.prog 98 = some [.nilFn] := by kernel_rfl
theorem row98 : isRowT Try.prog 98 = some false := by kernel_rfl
theorem sz99 : szOf Try.prog 99 = some 1 := by kernel_rfl
theorem by99 : byOf Try.prog 99 = some 8 := by kernel_rfl
theorem zero99 : zeroOf Try.prog 99 = some [.nilFn] := by kernel_rfl
theorem row99 : isRowT Try.prog 99 = some false := by kernel_rfl
theorem sz100 : szOf Try.prog 100 = some 1 := by kernel_rfl
theorem by100 : byOf Try.prog 100 = some 8 := by kernel_rfl
theorem zero100 : zeroOf Try.prog 100 = some [.nilFn] := by kernel_rfl
theorem row100 : isRowT Try.prog 100 = some false := by kernel_rfl
theorem sz101 : szOf Try.prog 101 = some 1 := by kernel_rfl
theorem by101 : byOf Try.prog 101 = some 8 := by kernel_rfl
theorem zero101 : zeroOf Try.prog 101 = some [.nilFn] := by kernel_rfl
theorem row101 : isRowT Try.prog 101 = some false := by kernel_rfl
theorem sz102 : szOf Try.prog 102 = some 1 := by kernel_rfl
theorem by102 : byOf Try.prog 102 = some 8 := by kernel_rfl
theorem zero102 : zeroOf Try.prog 102 = some [.nilFn] := by kernel_rfl
theorem row102 : isRowT Try.prog 102 = some false := by kernel_rfl
theorem sz103 : szOf Try.prog 103 = some 1 := by kernel_rfl
theorem by103 : byOf Try.prog 103 = some 8 := by kernel_rfl
theorem zero103 : zeroOf Try.prog 103 = some [.nilFn] := by kernel_rfl
theorem row103 : isRowT Try.prog 103 = some false := by kernel_rfl
theorem sz104 : szOf Try.prog 104 = some 1 := by kernel_rfl
theorem by104 : byOf Try.prog 104 = some 8 := by kernel_rfl
theorem zero104 : zeroOf Try.prog 104 = some [.u64 0#64] := by kernel_rfl
theorem row104 : isRowT Try.prog 104 = some false := by kernel_rfl
theorem sz105 : szOf Try.prog 105 = some 1 := by kernel_rfl
theorem by105 : byOf Try.prog 105 = some 24 := by kernel_rfl
theorem zero105 : zeroOf Try.prog 105 = some [.nilSlice] := by kernel_rfl
theorem row105 : isRowT Try.prog 105 = some false := by kernel_rfl
theorem slc105 : sliceT Try.prog 105 = some 5 := by kernel_rfl
theorem sz106 : szOf Try.prog 106 = some 1 := by kernel_rfl
theorem by106 : byOf Try.prog 106 = some 8 := by kernel_rfl
theorem zero106 : zeroOf Try.prog 106 = some [.nilFn] := by kernel_rfl
theorem row106 : isRowT Try.prog 106 = some false := by kernel_rfl
theorem sz107 : szOf Try.prog 107 = some 1 := by kernel_rfl
theorem by107 : byOf Try.prog 107 = some 8 := by kernel_rfl
theorem zero107 : zeroOf Try.prog 107 = some [.nilFn] := by kernel_rfl
theorem row107 : isRowT Try.prog 107 = some false := by kernel_rfl
theorem sz108 : szOf Try.prog 108 = some 1 := by kernel_rfl
theorem by108 : byOf Try.prog 108 = some 8 := by kernel_rfl
theorem zero108 : zeroOf Try.prog 108 = some [.nilFn] := by kernel_rfl
theorem row108 : isRowT Try.prog 108 = some false := by kernel_rfl
theorem sz109 : szOf Try.prog 109 = some 2 := by kernel_rfl
theorem by109 : byOf Try.prog 109 = some 16 := by kernel_rfl
theorem zero109 : zeroOf Try.prog 109 = some [.i64 0, .i64 0] := by kernel_rfl
theorem row109 : isRowT Try.prog 109 = some true := by kernel_rfl
theorem arr109 : arrT Try.prog 109 = some (2, 3) := by kernel_rfl
theorem bld109 : buildT Try.prog 109 = some ([.i64 0, .i64 0], .inr 1) := by kernel_rfl
theorem sz110 : szOf Try.prog 110 = some 4 := by kernel_rfl
theorem by110 : byOf Try.prog 110 = some 32 := by kernel_rfl
theorem zero110 : zeroOf Try.prog 110 = some [.i64 0, .i64 0, .i64 0, .i64 0] := by kernel_rfl
theorem row110 : isRowT Try.prog 110 = some true := by kernel_rfl
theorem arr110 : arrT Try.prog 110 = some (2, 109) := by kernel_rfl
theorem bld110 : buildT Try.prog 110 = some ([.i64 0, .i64 0, .i64 0, .i64 0], .inr 2) := by kernel_rfl
theorem sz111 : szOf Try.prog 111 = some 1 := by kernel_rfl
theorem by111 : byOf Try.prog 111 = some 8 := by kernel_rfl
theorem zero111 : zeroOf Try.prog 111 = some [.nilFn] := by kernel_rfl
theorem row111 : isRowT Try.prog 111 = some false := by kernel_rfl
theorem sz112 : szOf Try.prog 112 = some 1 := by kernel_rfl
theorem by112 : byOf Try.prog 112 = some 8 := by kernel_rfl
theorem zero112 : zeroOf Try.prog 112 = some [.nilFn] := by kernel_rfl
theorem row112 : isRowT Try.prog 112 = some false := by kernel_rfl
theorem sz113 : szOf Try.prog 113 = some 2 := by kernel_rfl
theorem by113 : byOf Try.prog 113 = some 16 := by kernel_rfl
theorem zero113 : zeroOf Try.prog 113 = some [.i64 0, .u64 0#64] := by kernel_rfl
theorem row113 : isRowT Try.prog 113 = some true := by kernel_rfl
theorem fld113_0 : fldOf Try.prog 113 0 = some (0, 3) := by kernel_rfl
theorem fld113_1 : fldOf Try.prog 113 1 = some (1, 93) := by kernel_rfl
theorem bld113 : buildT Try.prog 113 = some ([.i64 0, .u64 0#64], .inl [(0, 1), (1, 1)]) := by kernel_rfl
theorem sz114 : szOf Try.prog 114 = some 2 := by kernel_rfl
theorem by114 : byOf Try.prog 114 = some 16 := by kernel_rfl
theorem zero114 : zeroOf Try.prog 114 = some [.i64 0, .u64 0#64] := by kernel_rfl
theorem row114 : isRowT Try.prog 114 = some true := by kernel_rfl
theorem fld114_0 : fldOf Try.prog 114 0 = some (0, 3) := by kernel_rfl
theorem fld114_1 : fldOf Try.prog 114 1 = some (1, 93) := by kernel_rfl
theorem bld114 : buildT Try.prog 114 = some ([.i64 0, .u64 0#64], .inl [(0, 1), (1, 1)]) := by kernel_rfl
theorem sz115 : szOf Try.prog 115 = some 1 := by kernel_rfl
theorem by115 : byOf Try.prog 115 = some 8 := by kernel_rfl
theorem zero115 : zeroOf Try.prog 115 = some [.nilFn] := by kernel_rfl
theorem row115 : isRowT Try.prog 115 = some false := by kernel_rfl
theorem sz116 : szOf Try.prog 116 = some 1 := by kernel_rfl
theorem by116 : byOf Try.prog 116 = some 8 := by kernel_rfl
theorem zero116 : zeroOf Try.prog 116 = some [.nilFn] := by kernel_rfl
theorem row116 : isRowT Try.prog 116 = some false := by kernel_rfl
theorem sz117 : szOf Try.prog 117 = some 1 := by kernel_rfl
theorem by117 : byOf Try.prog 117 = some 8 := by kernel_rfl
theorem zero117 : zeroOf Try.prog 117 = some [.nilFn] := by kernel_rfl
theorem row117 : isRowT Try.prog 117 = some false := by kernel_rfl
theorem sz118 : szOf Try.prog 118 = some 1 := by kernel_rfl
theorem by118 : byOf Try.prog 118 = some 8 := by kernel_rfl
theorem zero118 : zeroOf Try.prog 118 = some [.nilFn] := by kernel_rfl
theorem row118 : isRowT Try.prog 118 = some false := by kernel_rfl
theorem sz120 : szOf Try.prog 120 = some 2 := by kernel_rfl
theorem by120 : byOf Try.prog 120 = some 16 := by kernel_rfl
theorem zero120 : zeroOf Try.prog 120 = some [.i64 0, .junk] := by kernel_rfl
theorem row120 : isRowT Try.prog 120 = some true := by kernel_rfl
theorem fld120_0 : fldOf Try.prog 120 0 = some (0, 3) := by kernel_rfl
theorem fld120_1 : fldOf Try.prog 120 1 = some (1, 119) := by kernel_rfl
theorem bld120 : buildT Try.prog 120 = some ([.i64 0, .junk], .inl [(0, 1), (1, 1)]) := by kernel_rfl
theorem sz121 : szOf Try.prog 121 = some 2 := by kernel_rfl
theorem by121 : byOf Try.prog 121 = some 16 := by kernel_rfl
theorem zero121 : zeroOf Try.prog 121 = some [.i64 0, .junk] := by kernel_rfl
theorem row121 : isRowT Try.prog 121 = some true := by kernel_rfl
theorem fld121_0 : fldOf Try.prog 121 0 = some (0, 3) := by kernel_rfl
theorem fld121_1 : fldOf Try.prog 121 1 = some (1, 119) := by kernel_rfl
theorem bld121 : buildT Try.prog 121 = some ([.i64 0, .junk], .inl [(0, 1), (1, 1)]) := by kernel_rfl
theorem sz122 : szOf Try.prog 122 = some 1 := by kernel_rfl
theorem by122 : byOf Try.prog 122 = some 8 := by kernel_rfl
theorem zero122 : zeroOf Try.prog 122 = some [.nilFn] := by kernel_rfl
theorem row122 : isRowT Try.prog 122 = some false := by kernel_rfl
theorem sz123 : szOf Try.prog 123 = some 1 := by kernel_rfl
theorem by123 : byOf Try.prog 123 = some 8 := by kernel_rfl
theorem zero123 : zeroOf Try.prog 123 = some [.nilFn] := by kernel_rfl
theorem row123 : isRowT Try.prog 123 = some false := by kernel_rfl
theorem sz124 : szOf Try.prog 124 = some 2 := by kernel_rfl
theorem by124 : byOf Try.prog 124 = some 16 := by kernel_rfl
theorem zero124 : zeroOf Try.prog 124 = some [.u64 0#64, .u64 0#64] := by kernel_rfl
theorem row124 : isRowT Try.prog 124 = some true := by kernel_rfl
theorem fld124_0 : fldOf Try.prog 124 0 = some (0, 93) := by kernel_rfl
theorem fld124_1 : fldOf Try.prog 124 1 = some (1, 93) := by kernel_rfl
theorem bld124 : buildT Try.prog 124 = some ([.u64 0#64, .u64 0#64], .inl [(0, 1), (1, 1)]) := by kernel_rfl
theorem sz125 : szOf Try.prog 125 = some 2 := by kernel_rfl
theorem by125 : byOf Try.prog 125 = some 16 := by kernel_rfl
theorem zero125 : zeroOf Try.prog 125 = some [.u64 0#64, .u64 0#64] := by kernel_rfl
theorem row125 : isRowT Try.prog 125 = some true := by kernel_rfl
theorem fld125_0 : fldOf Try.prog 125 0 = some (0, 93) := by kernel_rfl
theorem fld125_1 : fldOf Try.prog 125 1 = some (1, 93) := by kernel_rfl
theorem bld125 : buildT Try.prog 125 = some ([.u64 0#64, .u64 0#64], .inl [(0, 1), (1, 1)]) := by kernel_rfl
theorem sz126 : szOf Try.prog 126 = some 1 := by kernel_rfl
theorem by126 : byOf Try.prog 126 = some 8 := by kernel_rfl
theorem zero126 : zeroOf Try.prog 126 = some [.nilFn] := by kernel_rfl
theorem row126 : isRowT Try.prog 126 = some false := by kernel_rfl
theorem sz127 : szOf Try.prog 127 = some 1 := by kernel_rfl
theorem by127 : byOf Try.prog 127 = some 8 := by kernel_rfl
theorem zero127 : zeroOf Try.prog 127 = some [.nilFn] := by kernel_rfl
theorem row127 : isRowT Try.prog 127 = some false := by kernel_rfl
theorem sz128 : szOf Try.prog 128 = some 1 := by kernel_rfl
theorem by128 : byOf Try.prog 128 = some 8 := by kernel_rfl
theorem zero128 : zeroOf Try.prog 128 = some [.nilFn] := by kernel_rfl
theorem row128 : isRowT Try.prog 128 = some false := by kernel_rfl
theorem sz129 : szOf Try.prog 129 = some 256 := by kernel_rfl
theorem by129 : byOf Try.prog 129 = some 2048 := by kernel_rfl
theorem zero129 : zeroOf Try.prog 129 = some (List.replicate 256 (.i64 0)) := by kernel_rfl
theorem row129 : isRowT Try.prog 129 = some true := by kernel_rfl
theorem arr129 : arrT Try.prog 129 = some (256, 3) := by kernel_rfl
theorem bld129 : buildT Try.prog 129 = some ((List.replicate 256 (.i64 0)), .inr 1) := by kernel_rfl
theorem sz130 : szOf Try.prog 130 = some 1 := by kernel_rfl
theorem by130 : byOf Try.prog 130 = some 8 := by kernel_rfl
theorem zero130 : zeroOf Try.prog 130 = some [.nilFn] := by kernel_rfl
theorem row130 : isRowT Try.prog 130 = some false := by kernel_rfl
theorem sz131 : szOf Try.prog 131 = some 5 := by kernel_rfl
theorem by131 : byOf Try.prog 131 = some 40 := by kernel_rfl
theorem zero131 : zeroOf Try.prog 131 = some [.bool false, .i64 0, .i64 0, .bool false, .i64 0] := by kernel_rfl
theorem row131 : isRowT Try.prog 131 = some true := by kernel_rfl
theorem fld131_0 : fldOf Try.prog 131 0 = some (0, 4) := by kernel_rfl
theorem fld131_1 : fldOf Try.prog 131 1 = some (1, 3) := by kernel_rfl
theorem fld131_2 : fldOf Try.prog 131 2 = some (2, 3) := by kernel_rfl
theorem fld131_3 : fldOf Try.prog 131 3 = some (3, 4) := by kernel_rfl
theorem fld131_4 : fldOf Try.prog 131 4 = some (4, 3) := by kernel_rfl
theorem bld131 : buildT Try.prog 131 = some ([.bool false, .i64 0, .i64 0, .bool false, .i64 0], .inl [(0, 1), (1, 1), (2, 1), (3, 1), (4, 1)]) := by kernel_rfl
theorem sz132 : szOf Try.prog 132 = some 5 := by kernel_rfl
theorem by132 : byOf Try.prog 132 = some 40 := by kernel_rfl
theorem zero132 : zeroOf Try.prog 132 = some [.bool false, .i64 0, .i64 0, .bool false, .i64 0] := by kernel_rfl
theorem row132 : isRowT Try.prog 132 = some true := by kernel_rfl
theorem fld132_0 : fldOf Try.prog 132 0 = some (0, 4) := by kernel_rfl
theorem fld132_1 : fldOf Try.prog 132 1 = some (1, 3) := by kernel_rfl
theorem fld132_2 : fldOf Try.prog 132 2 = some (2, 3) := by kernel_rfl
theorem fld132_3 : fldOf Try.prog 132 3 = some (3, 4) := by kernel_rfl
theorem fld132_4 : fldOf Try.prog 132 4 = some (4, 3) := by kernel_rfl
theorem bld132 : buildT Try.prog 132 = some ([.bool false, .i64 0, .i64 0, .bool false, .i64 0], .inl [(0, 1), (1, 1), (2, 1), (3, 1), (4, 1)]) := by kernel_rfl
theorem sz134 : szOf Try.prog 134 = some 1 := by kernel_rfl
theorem by134 : byOf Try.prog 134 = some 8 := by kernel_rfl
theorem zero134 : zeroOf Try.prog 134 = some [.nilFn] := by kernel_rfl
theorem row134 : isRowT Try.prog 134 = some false := by kernel_rfl
theorem sz135 : szOf Try.prog 135 = some 1 := by kernel_rfl
theorem by135 : byOf Try.prog 135 = some 8 := by kernel_rfl
theorem zero135 : zeroOf Try.prog 135 = some [.nilFn] := by kernel_rfl
theorem row135 : isRowT Try.prog 135 = some false := by kernel_rfl
theorem sz136 : szOf Try.prog 136 = some 1 := by kernel_rfl
theorem by136 : byOf Try.prog 136 = some 8 := by kernel_rfl
theorem zero136 : zeroOf Try.prog 136 = some [.nilFn] := by kernel_rfl
theorem row136 : isRowT Try.prog 136 = some false := by kernel_rfl
theorem sz137 : szOf Try.prog 137 = some 1 := by kernel_rfl
theorem by137 : byOf Try.prog 137 = some 8 := by kernel_rfl
theorem zero137 : zeroOf Try.prog 137 = some [.nilFn] := by kernel_rfl
theorem row137 : isRowT Try.prog 137 = some false := by kernel_rfl
theorem sz138 : szOf Try.prog 138 = some 1 := by kernel_rfl
theorem by138 : byOf Try.prog 138 = some 8 := by kernel_rfl
theorem zero138 : zeroOf Try.prog 138 = some [.nilFn] := by kernel_rfl
theorem row138 : isRowT Try.prog 138 = some false := by kernel_rfl
theorem sz139 : szOf Try.prog 139 = some 1 := by kernel_rfl
theorem by139 : byOf Try.prog 139 = some 8 := by kernel_rfl
theorem zero139 : zeroOf Try.prog 139 = some [.nilFn] := by kernel_rfl
theorem row139 : isRowT Try.prog 139 = some false := by kernel_rfl
theorem sz140 : szOf Try.prog 140 = some 1 := by kernel_rfl
theorem by140 : byOf Try.prog 140 = some 8 := by kernel_rfl
theorem zero140 : zeroOf Try.prog 140 = some [.nilFn] := by kernel_rfl
theorem row140 : isRowT Try.prog 140 = some false := by kernel_rfl
theorem sz141 : szOf Try.prog 141 = some 16 := by kernel_rfl
theorem by141 : byOf Try.prog 141 = some 64 := by kernel_rfl
theorem zero141 : zeroOf Try.prog 141 = some [.u32 0#32, .u32 0#32, .u32 0#32, .u32 0#32, .u32 0#32, .u32 0#32, .u32 0#32, .u32 0#32, .u32 0#32, .u32 0#32, .u32 0#32, .u32 0#32, .u32 0#32, .u32 0#32, .u32 0#32, .u32 0#32] := by kernel_rfl
theorem row141 : isRowT Try.prog 141 = some true := by kernel_rfl
theorem arr141 : arrT Try.prog 141 = some (16, 34) := by kernel_rfl
theorem bld141 : buildT Try.prog 141 = some ([.u32 0#32, .u32 0#32, .u32 0#32, .u32 0#32, .u32 0#32, .u32 0#32, .u32 0#32, .u32 0#32, .u32 0#32, .u32 0#32, .u32 0#32, .u32 0#32, .u32 0#32, .u32 0#32, .u32 0#32, .u32 0#32], .inr 1) := by kernel_rfl
theorem sz142 : szOf Try.prog 142 = some 16 := by kernel_rfl
theorem by142 : byOf Try.prog 142 = some 64 := by kernel_rfl
theorem zero142 : zeroOf Try.prog 142 = some [.u32 0#32, .u32 0#32, .u32 0#32, .u32 0#32, .u32 0#32, .u32 0#32, .u32 0#32, .u32 0#32, .u32 0#32, .u32 0#32, .u32 0#32, .u32 0#32, .u32 0#32, .u32 0#32, .u32 0#32, .u32 0#32] := by kernel_rfl
theorem row142 : isRowT Try.prog 142 = some true := by kernel_rfl
theorem arr142 : arrT Try.prog 142 = some (16, 34) := by kernel_rfl
theorem bld142 : buildT Try.prog 142 = some ([.u32 0#32, .u32 0#32, .u32 0#32, .u32 0#32, .u32 0#32, .u32 0#32, .u32 0#32, .u32 0#32, .u32 0#32, .u32 0#32, .u32 0#32, .u32 0#32, .u32 0#32, .u32 0#32, .u32 0#32, .u32 0#32], .inr 1) := by kernel_rfl
theorem sz143 : szOf Try.prog 143 = some 1 := by kernel_rfl
theorem by143 : byOf Try.prog 143 = some 8 := by kernel_rfl
theorem zero143 : zeroOf Try.prog 143 = some [.nilFn] := by kernel_rfl
theorem row143 : isRowT Try.prog 143 = some false := by kernel_rfl
theorem sz144 : szOf Try.prog 144 = some 1 := by kernel_rfl
theorem by144 : byOf Try.prog 144 = some 8 := by kernel_rfl
theorem zero144 : zeroOf Try.prog 144 = some [.nilFn] := by kernel_rfl
theorem row144 : isRowT Try.prog 144 = some false := by kernel_rfl
theorem sz145 : szOf Try.prog 145 = some 1 := by kernel_rfl
theorem by145 : byOf Try.prog 145 = some 8 := by kernel_rfl
theorem zero145 : zeroOf Try.prog 145 = some [.nilFn] := by kernel_rfl
theorem row145 : isRowT Try.prog 145 = some false := by kernel_rfl
theorem sz147 : szOf Try.prog 147 = some 1 := by kernel_rfl
theorem by147 : byOf Try.prog 147 = some 8 := by kernel_rfl
theorem zero147 : zeroOf Try.prog 147 = some [.nilFn] := by kernel_rfl
theorem row147 : isRowT Try.prog 147 = some false := by kernel_rfl
theorem sz148 : szOf Try.prog 148 = some 1 := by kernel_rfl
theorem by148 : byOf Try.prog 148 = some 8 := by kernel_rfl
theorem zero148 : zeroOf Try.prog 148 = some [.nilPtr] := by kernel_rfl
theorem row148 : isRowT Try.prog 148 = some false := by kernel_rfl
theorem sz149 : szOf Try.prog 149 = some 2 := by kernel_rfl
theorem by149 : byOf Try.prog 149 = some 16 := by kernel_rfl
theorem zero149 : zeroOf Try.prog 149 = some [.nilPtr, .nilPtr] := by kernel_rfl
theorem row149 : isRowT Try.prog 149 = some true := by kernel_rfl
theorem arr149 : arrT Try.prog 149 = some (2, 148) := by kernel_rfl
theorem bld149 : buildT Try.prog 149 = some ([.nilPtr, .nilPtr], .inr 1) := by kernel_rfl
theorem sz150 : szOf Try.prog 150 = some 4 := by kernel_rfl
theorem by150 : byOf Try.prog 150 = some 32 := by kernel_rfl
theorem zero150 : zeroOf Try.prog 150 = some [.nilPtr, .nilPtr, .bool false, .i64 0] := by kernel_rfl
theorem row150 : isRowT Try.prog 150 = some true := by kernel_rfl
theorem fld150_0 : fldOf Try.prog 150 0 = some (0, 149) := by kernel_rfl
theorem fld150_1 : fldOf Try.prog 150 1 = some (2, 4) := by kernel_rfl
theorem fld150_2 : fldOf Try.prog 150 2 = some (3, 3) := by kernel_rfl
theorem bld150 : buildT Try.prog 150 = some ([.nilPtr, .nilPtr, .bool false, .i64 0], .inl [(0, 2), (2, 1), (3, 1)]) := by kernel_rfl
theorem sz151 : szOf Try.prog 151 = some 4 := by kernel_rfl
theorem by151 : byOf Try.prog 151 = some 32 := by kernel_rfl
theorem zero151 : zeroOf Try.prog 151 = some [.nilPtr, .nilPtr, .bool false, .i64 0] := by kernel_rfl
theorem row151 : isRowT Try.prog 151 = some true := by kernel_rfl
theorem fld151_0 : fldOf Try.prog 151 0 = some (0, 149) := by kernel_rfl
theorem fld151_1 : fldOf Try.prog 151 1 = some (2, 4) := by kernel_rfl
theorem fld151_2 : fldOf Try.prog 151 2 = some (3, 3) := by kernel_rfl
theorem bld151 : buildT Try.prog 151 = some ([.nilPtr, .nilPtr, .bool false, .i64 0], .inl [(0, 2), (2, 1), (3, 1)]) := by kernel_rfl
theorem sz152 : szOf Try.prog 152 = some 5 := by kernel_rfl
theorem by152 : byOf Try.prog 152 = some 40 := by kernel_rfl
theorem zero152 : zeroOf Try.prog 152 = some [.nilPtr, .nilPtr, .bool false, .i64 0, .i64 0] := by kernel_rfl
theorem row152 : isRowT Try.prog 152 = some true := by kernel_rfl
theorem fld152_0 : fldOf Try.prog 152 0 = some (0, 151) := by kernel_rfl
theorem fld152_1 : fldOf Try.prog 152 1 = some (4, 3) := by kernel_rfl
theorem bld152 : buildT Try.prog 152 = some ([.nilPtr, .nilPtr, .bool false, .i64 0, .i64 0], .inl [(0, 4), (4, 1)]) := by kernel_rfl
theorem sz153 : szOf Try.prog 153 = some 5 := by kernel_rfl
theorem by153 : byOf Try.prog 153 = some 40 := by kernel_rfl
theorem zero153 : zeroOf Try.prog 153 = some [.nilPtr, .nilPtr, .bool false, .i64 0, .i64 0] := by kernel_rfl
theorem row153 : isRowT Try.prog 153 = some true := by kernel_rfl
theorem fld153_0 : fldOf Try.prog 153 0 = some (0, 151) := by kernel_rfl
theorem fld153_1 : fldOf Try.prog 153 1 = some (4, 3) := by kernel_rfl
theorem bld153 : buildT Try.prog 153 = some ([.nilPtr, .nilPtr, .bool false, .i64 0, .i64 0], .inl [(0, 4), (4, 1)]) := by kernel_rfl
theorem sz154 : szOf Try.prog 154 = some 1 := by kernel_rfl
theorem by154 : byOf Try.prog 154 = some 8 := by kernel_rfl
theorem zero154 : zeroOf Try.prog 154 = some [.nilFn] := by kernel_rfl
theorem row154 : isRowT Try.prog 154 = some false := by kernel_rfl
theorem sz155 : szOf Try.prog 155 = some 1 := by kernel_rfl
theorem by155 : byOf Try.prog 155 = some 8 := by kernel_rfl
theorem zero155 : zeroOf Try.prog 155 = some [.nilFn] := by kernel_rfl
theorem row155 : isRowT Try.prog 155 = some false := by kernel_rfl
theorem sz156 : szOf Try.prog 156 = some 1 := by kernel_rfl
theorem by156 : byOf Try.prog 156 = some 8 := by kernel_rfl
theorem zero156 : zeroOf Try.prog 156 = some [.nilFn] := by kernel_rfl
theorem row156 : isRowT Try.prog 156 = some false := by kernel_rfl
theorem sz157 : szOf Try.prog 157 = some 1 := by kernel_rfl
theorem by157 : byOf Try.prog 157 = some 8 := by kernel_rfl
theorem zero157 : zeroOf Try.prog 157 = some [.nilFn] := by kernel_rfl
theorem row157 : isRowT Try.prog 157 = some false := by kernel_rfl
theorem sz158 : szOf Try.prog 158 = some 1 := by kernel_rfl
theorem by158 : byOf Try.prog 158 = some 8 := by kernel_rfl
theorem zero158 : zeroOf Try.prog 158 = some [.nilFn] := by kernel_rfl
theorem row158 : isRowT Try.prog 158 = some false := by kernel_rfl
theorem sz159 : szOf Try.prog 159 = some 1 := by kernel_rfl
theorem by159 : byOf Try.prog 159 = some 8 := by kernel_rfl
theorem zero159 : zeroOf Try.prog 159 = some [.nilFn] := by kernel_rfl
theorem row159 : isRowT Try.prog 159 = some false := by kernel_rfl
theorem sz160 : szOf Try.prog 160 = some 2 := by kernel_rfl
theorem by160 : byOf Try.prog 160 = some 16 := by kernel_rfl
theorem zero160 : zeroOf Try.prog 160 = some [.u64 0#64, .u64 0#64] := by kernel_rfl
theorem row160 : isRowT Try.prog 160 = some true := by kernel_rfl
theorem arr160 : arrT Try.prog 160 = some (2, 93) := by kernel_rfl
theorem bld160 : buildT Try.prog 160 = some ([.u64 0#64, .u64 0#64], .inr 1) := by kernel_rfl
theorem sz161 : szOf Try.prog 161 = some 3 := by kernel_rfl
theorem by161 : byOf Try.prog 161 = some 24 := by kernel_rfl
theorem zero161 : zeroOf Try.prog 161 = some [.u64 0#64, .u64 0#64, .u64 0#64] := by kernel_rfl
theorem row161 : isRowT Try.prog 161 = some true := by kernel_rfl
theorem arr161 : arrT Try.prog 161 = some (3, 93) := by kernel_rfl
theorem bld161 : buildT Try.prog 161 = some ([.u64 0#64, .u64 0#64, .u64 0#64], .inr 1) := by kernel_rfl
theorem sz162 : szOf Try.prog 162 = some 3 := by kernel_rfl
theorem by162 : byOf Try.prog 162 = some 24 := by kernel_rfl
theorem zero162 : zeroOf Try.prog 162 = some [.u64 0#64, .u64 0#64, .u64 0#64] := by kernel_rfl
theorem row162 : isRowT Try.prog 162 = some true := by kernel_rfl
theorem arr162 : arrT Try.prog 162 = some (3, 93) := by kernel_rfl
theorem bld162 : buildT Try.prog 162 = some ([.u64 0#64, .u64 0#64, .u64 0#64], .inr 1) := by kernel_rfl
theorem sz163 : szOf Try.prog 163 = some 1 := by kernel_rfl
theorem by163 : byOf Try.prog 163 = some 8 := by kernel_rfl
theorem zero163 : zeroOf Try.prog 163 = some [.nilFn] := by kernel_rfl
theorem row163 : isRowT Try.prog 163 = some false := by kernel_rfl
theorem sz164 : szOf Try.prog 164 = some 1 := by kernel_rfl
theorem by164 : byOf Try.prog 164 = some 8 := by kernel_rfl
theorem zero164 : zeroOf Try.prog 164 = some [.nilFn] := by kernel_rfl
theorem row164 : isRowT Try.prog 164 = some false := by kernel_rfl
theorem sz165 : szOf Try.prog 165 = some 1 := by kernel_rfl
theorem by165 : byOf Try.prog 165 = some 8 := by kernel_rfl
theorem zero165 : zeroOf Try.prog 165 = some [.nilFn] := by kernel_rfl
theorem row165 : isRowT Try.prog 165 = some false := by kernel_rfl
theorem sz166 : szOf Try.prog 166 = some 10 := by kernel_rfl
theorem by166 : byOf Try.prog 166 = some 80 := by kernel_rfl
theorem zero166 : zeroOf Try.prog 166 = some [.u64 0#64, .u64 0#64, .u64 0#64, .u64 0#64, .u64 0#64, .u64 0#64, .u64 0#64, .u64 0#64, .u64 0#64, .u64 0#64] := by kernel_rfl
theorem row166 : isRowT Try.prog 166 = some true := by kernel_rfl
theorem arr166 : arrT Try.prog 166 = some (10, 93) := by kernel_rfl
theorem bld166 : buildT Try.prog 166 = some ([.u64 0#64, .u64 0#64, .u64 0#64, .u64 0#64, .u64 0#64, .u64 0#64, .u64 0#64, .u64 0#64, .u64 0#64, .u64 0#64], .inr 1) := by kernel_rfl
theorem sz167 : szOf Try.prog 167 = some 10 := by kernel_rfl
theorem by167 : byOf Try.prog 167 = some 80 := by kernel_rfl
theorem zero167 : zeroOf Try.prog 167 = some [.u64 0#64, .u64 0#64, .u64 0#64, .u64 0#64, .u64 0#64, .u64 0#64, .u64 0#64, .u64 0#64, .u64 0#64, .u64 0#64] := by kernel_rfl
theorem row167 : isRowT Try.prog 167 = some true := by kernel_rfl
theorem arr167 : arrT Try.prog 167 = some (10, 93) := by kernel_rfl
theorem bld167 : buildT Try.prog 167 = some ([.u64 0#64, .u64 0#64, .u64 0#64, .u64 0#64, .u64 0#64, .u64 0#64, .u64 0#64, .u64 0#64, .u64 0#64, .u64 0#64], .inr 1) := by kernel_rfl
theorem sz168 : szOf Try.prog 168 = some 1 := by kernel_rfl
theorem by168 : byOf Try.prog 168 = some 8 := by kernel_rfl
theorem zero168 : zeroOf Try.prog 168 = some [.nilFn] := by kernel_rfl
theorem row168 : isRowT Try.prog 168 = some false := by kernel_rfl
theorem sz169 : szOf Try.prog 169 = some 1 := by kernel_rfl
theorem by169 : byOf Try.prog 169 = some 8 := by kernel_rfl
theorem zero169 : zeroOf Try.prog 169 = some [.nilFn] := by kernel_rfl
theorem row169 : isRowT Try.prog 169 = some false := by kernel_rfl
theorem sz170 : szOf Try.prog 170 = some 1 := by kernel_rfl
theorem by170 : byOf Try.prog 170 = some 8 := by kernel_rfl
theorem zero170 : zeroOf Try.prog 170 = some [.nilFn] := by kernel_rfl
theorem row170 : isRowT Try.prog 170 = some false := by kernel_rfl
theorem sz171 : szOf Try.prog 171 = some 5 := by kernel_rfl
theorem by171 : byOf Try.prog 171 = some 40 := by kernel_rfl
theorem zero171 : zeroOf Try.prog 171 = some [.u64 0#64, .u64 0#64, .u64 0#64, .u64 0#64, .u64 0#64] := by kernel_rfl
theorem row171 : isRowT Try.prog 171 = some true := by kernel_rfl
theorem arr171 : arrT Try.prog 171 = some (5, 93) := by kernel_rfl
theorem bld171 : buildT Try.prog 171 = some ([.u64 0#64, .u64 0#64, .u64 0#64, .u64 0#64, .u64 0#64], .inr 1) := by kernel_rfl
theorem sz172 : szOf Try.prog 172 = some 5 := by kernel_rfl
theorem by172 : byOf Try.prog 172 = some 40 := by kernel_rfl
theorem zero172 : zeroOf Try.prog 172 = some [.u64 0#64, .u64 0#64, .u64 0#64, .u64 0#64, .u64 0#64] := by kernel_rfl
theorem row172 : isRowT Try.prog 172 = some true := by kernel_rfl
theorem arr172 : arrT Try.prog 172 = some (5, 93) := by kernel_rfl
theorem bld172 : buildT Try.prog 172 = some ([.u64 0#64, .u64 0#64, .u64 0#64, .u64 0#64, .u64 0#64], .inr 1) := by kernel_rfl
theorem sz173 : szOf Try.prog 173 = some 1 := by kernel_rfl
theorem by173 : byOf Try.prog 173 = some 8 := by kernel_rfl
theorem zero173 : zeroOf Try.prog 173 = some [.nilFn] := by kernel_rfl
theorem row173 : isRowT Try.prog 173 = some false := by kernel_rfl
theorem sz174 : szOf Try.prog 174 = some 1 := by kernel_rfl
theorem by174 : byOf Try.prog 174 = some 8 := by kernel_rfl
theorem zero174 : zeroOf Try.prog 174 = some [.nilFn] := by kernel_rfl
theorem row174 : isRowT Try.prog 174 = some false := by kernel_rfl
theorem sz175 : szOf Try.prog 175 = some 16 := by kernel_rfl
theorem by175 : byOf Try.prog 175 = some 128 := by kernel_rfl
theorem zero175 : zeroOf Try.prog 175 = some [.i64 0, .i64 0, .i64 0, .i64 0, .i64 0, .i64 0, .i64 0, .i64 0, .i64 0, .i64 0, .i64 0, .i64 0, .i64 0, .i64 0, .i64 0, .i64 0] := by kernel_rfl
theorem row175 : isRowT Try.prog 175 = some true := by kernel_rfl
theorem arr175 : arrT Try.prog 175 = some (16, 2) := by kernel_rfl
theorem bld175 : buildT Try.prog 175 = some ([.i64 0, .i64 0, .i64 0, .i64 0, .i64 0, .i64 0, .i64 0, .i64 0, .i64 0, .i64 0, .i64 0, .i64 0, .i64 0, .i64 0, .i64 0, .i64 0], .inr 1) := by kernel_rfl
theorem sz176 : szOf Try.prog 176 = some 16 := by kernel_rfl
theorem by176 : byOf Try.prog 176 = some 128 := by kernel_rfl
theorem zero176 : zeroOf Try.prog 176 = some [.i64 0, .i64 0, .i64 0, .i64 0, .i64 0, .i64 0, .i64 0, .i64 0, .i64 0, .i64 0, .i64 0, .i64 0, .i64 0, .i64 0, .i64 0, .i64 0] := by kernel_rfl
theorem row176 : isRowT Try.prog 176 = some true := by kernel_rfl
theorem arr176 : arrT Try.prog 176 = some (16, 2) := by kernel_rfl
theorem bld176 : buildT Try.prog 176 = some ([.i64 0, .i64 0, .i64 0, .i64 0, .i64 0, .i64 0, .i64 0, .i64 0, .i64 0, .i64 0, .i64 0, .i64 0, .i64 0, .i64 0, .i64 0, .i64 0], .inr 1) := by kernel_rfl
theorem sz177 : szOf Try.prog 177 = some 1 := by kernel_rfl
theorem by177 : byOf Try.prog 177 = some 8 := by kernel_rfl
theorem zero177 : zeroOf Try.prog 177 = some [.nilFn] := by kernel_rfl
theorem row177 : isRowT Try.prog 177 = some false := by kernel_rfl
theorem sz178 : szOf Try.prog 178 = some 16 := by kernel_rfl
theorem by178 : byOf Try.prog 178 = some 16 := by kernel_rfl
theorem zero178 : zeroOf Try.prog 178 = some [.u8 0#8, .u8 0#8, .u8 0#8, .u8 0#8, .u8 0#8, .u8 0#8, .u8 0#8, .u8 0#8, .u8 0#8, .u8 0#8, .u8 0#8, .u8 0#8, .u8 0#8, .u8 0#8, .u8 0#8, .u8 0#8] := by kernel_rfl
theorem row178 : isRowT Try.prog 178 = some true := by kernel_rfl
theorem arr178 : arrT Try.prog 178 = some (16, 5) := by kernel_rfl
theorem bld178 : buildT Try.prog 178 = some ([.u8 0#8, .u8 0#8, .u8 0#8, .u8 0#8, .u8 0#8, .u8 0#8, .u8 0#8, .u8 0#8, .u8 0#8, .u8 0#8, .u8 0#8, .u8 0#8, .u8 0#8, .u8 0#8, .u8 0#8, .u8 0#8], .inr 1) := by kernel_rfl
theorem sz179 : szOf Try.prog 179 = some 1 := by kernel_rfl
theorem by179 : byOf Try.prog 179 = some 8 := by kernel_rfl
theorem zero179 : zeroOf Try.prog 179 = some [.nilFn] := by kernel_rfl
theorem row179 : isRowT Try.prog 179 = some false := by kernel_rfl
theorem sz180 : szOf Try.prog 180 = some 1 := by kernel_rfl
theorem by180 : byOf Try.prog 180 = some 8 := by kernel_rfl
theorem zero180 : zeroOf Try.prog 180 = some [.nilFn] := by kernel_rfl
theorem row180 : isRowT Try.prog 180 = some false := by kernel_rfl
theorem sz181 : szOf Try.prog 181 = some 1 := by kernel_rfl
theorem by181 : byOf Try.prog 181 = some 8 := by kernel_rfl
theorem zero181 : zeroOf Try.prog 181 = some [.nilFn] := by kernel_rfl
theorem row181 : isRowT Try.prog 181 = some false := by kernel_rfl
theorem sz182 : szOf Try.prog 182 = some 1 := by kernel_rfl
theorem by182 : byOf Try.prog 182 = some 8 := by kernel_rfl
theorem zero182 : zeroOf Try.prog 182 = some [.nilFn] := by kernel_rfl
theorem row182 : isRowT Try.prog 182 = some false := by kernel_rfl
theorem sz183 : szOf Try.prog 183 = some 1 := by kernel_rfl
theorem by183 : byOf Try.prog 183 = some 8 := by kernel_rfl
theorem zero183 : zeroOf Try.prog 183 = some [.nilFn] := by kernel_rfl
theorem row183 : isRowT Try.prog 183 = some false := by kernel_rfl
theorem sz184 : szOf Try.prog 184 = some 1 := by kernel_rfl
theorem by184 : byOf Try.prog 184 = some 8 := by kernel_rfl
theorem zero184 : zeroOf Try.prog 184 = some [.nilPtr] := by kernel_rfl
theorem row184 : isRowT Try.prog 184 = some false := by kernel_rfl
theorem sz185 : szOf Try.prog 185 = some 1 := by kernel_rfl
theorem by185 : byOf Try.prog 185 = some 8 := by kernel_rfl
theorem zero185 : zeroOf Try.prog 185 = some [.nilFn] := by kernel_rfl
theorem row185 : isRowT Try.prog 185 = some false := by kernel_rfl
theorem sz186 : szOf Try.prog 186 = some 1 := by kernel_rfl
theorem by186 : byOf Try.prog 186 = some 24 := by kernel_rfl
theorem zero186 : zeroOf Try.prog 186 = some [.nilSlice] := by kernel_rfl
theorem row186 : isRowT Try.prog 186 = some false := by kernel_rfl
theorem slc186 : sliceT Try.prog 186 = some 9 := by kernel_rfl
theorem sz187 : szOf Try.prog 187 = some 2 := by kernel_rfl
theorem by187 : byOf Try.prog 187 = some 48 := by kernel_rfl
theorem zero187 : zeroOf Try.prog 187 = some [.nilSlice, .nilSlice] := by kernel_rfl
theorem row187 : isRowT Try.prog 187 = some true := by kernel_rfl
theorem fld187_0 : fldOf Try.prog 187 0 = some (0, 105) := by kernel_rfl
theorem fld187_1 : fldOf Try.prog 187 1 = some (1, 186) := by kernel_rfl
theorem bld187 : buildT Try.prog 187 = some ([.nilSlice, .nilSlice], .inl [(0, 1), (1, 1)]) := by kernel_rfl
theorem sz188 : szOf Try.prog 188 = some 2 := by kernel_rfl
theorem by188 : byOf Try.prog 188 = some 48 := by kernel_rfl
theorem zero188 : zeroOf Try.prog 188 = some [.nilSlice, .nilSlice] := by kernel_rfl
theorem row188 : isRowT Try.prog 188 = some true := by kernel_rfl
theorem fld188_0 : fldOf Try.prog 188 0 = some (0, 105) := by kernel_rfl
theorem fld188_1 : fldOf Try.prog 188 1 = some (1, 186) := by kernel_rfl
theorem bld188 : buildT Try.prog 188 = some ([.nilSlice, .nilSlice], .inl [(0, 1), (1, 1)]) := by kernel_rfl
theorem sz190 : szOf Try.prog 190 = some 1 := by kernel_rfl
theorem by190 : byOf Try.prog 190 = some 8 := by kernel_rfl
theorem zero190 : zeroOf Try.prog 190 = some [.nilFn] := by kernel_rfl
theorem row190 : isRowT Try.prog 190 = some false := by kernel_rfl
theorem sz191 : szOf Try.prog 191 = some 1 := by kernel_rfl
theorem by191 : byOf Try.prog 191 = some 8 := by kernel_rfl
theorem zero191 : zeroOf Try.prog 191 = some [.nilFn] := by kernel_rfl
theorem row191 : isRowT Try.prog 191 = some false := by kernel_rfl
theorem sz192 : szOf Try.prog 192 = some 1 := by kernel_rfl
theorem by192 : byOf Try.prog 192 = some 8 := by kernel_rfl
theorem zero192 : zeroOf Try.prog 192 = some [.nilFn] := by kernel_rfl
theorem row192 : isRowT Try.prog 192 = some false := by kernel_rfl
theorem sz193 : szOf Try.prog 193 = some 1 := by kernel_rfl
theorem by193 : byOf Try.prog 193 = some 8 := by kernel_rfl
theorem zero193 : zeroOf Try.prog 193 = some [.nilFn] := by kernel_rfl
theorem row193 : isRowT Try.prog 193 = some false := by kernel_rfl
theorem sz194 : szOf Try.prog 194 = some 1 := by kernel_rfl
theorem by194 : byOf Try.prog 194 = some 8 := by kernel_rfl
theorem zero194 : zeroOf Try.prog 194 = some [.nilPtr] := by kernel_rfl
theorem row194 : isRowT Try.prog 194 = some false := by kernel_rfl
theorem sz195 : szOf Try.prog 195 = some 32 := by kernel_rfl
theorem by195 : byOf Try.prog 195 = some 256 := by kernel_rfl
theorem zero195 : zeroOf Try.prog 195 = some [.i64 0, .i64 0, .i64 0, .i64 0, .i64 0, .i64 0, .i64 0, .i64 0, .i64 0, .i64 0, .i64 0, .i64 0, .i64 0, .i64 0, .i64 0, .i64 0, .i64 0, .i64 0, .i64 0, .i64 0, .i64 0, .i64 0, .i64 0, .i64 0, .i64 0, .i64 0, .i64 0, .i64 0, .i64 0, .i64 0, .i64 0, .i64 0] := by kernel_rfl
theorem row195 : isRowT Try.prog 195 = some true := by kernel_rfl
theorem fld195_0 : fldOf Try.prog 195 0 = some (0, 176) := by kernel_rfl
theorem fld195_1 : fldOf Try.prog 195 1 = some (16, 176) := by kernel_rfl
theorem bld195 : buildT Try.prog 195 = some ([.i64 0, .i64 0, .i64 0, .i64 0, .i64 0, .i64 0, .i64 0, .i64 0, .i64 0, .i64 0, .i64 0, .i64 0, .i64 0, .i64 0, .i64 0, .i64 0, .i64 0, .i64 0, .i64 0, .i64 0, .i64 0, .i64 0, .i64 0, .i64 0, .i64 0, .i64 0, .i64 0, .i64 0, .i64 0, .i64 0, .i64 0, .i64 0], .inl [(0, 16), (16, 16)]) := by kernel_rfl
theorem sz196 : szOf Try.prog 196 = some 32 := by kernel_rfl
theorem by196 : byOf Try.prog 196 = some 256 := by kernel_rfl
theorem zero196 : zeroOf Try.prog 196 = some [.i64 0, .i64 0, .i64 0, .i64 0, .i64 0, .i64 0, .i64 0, .i64 0, .i64 0, .i64 0, .i64 0, .i64 0, .i64 0, .i64 0, .i64 0, .i64 0, .i64 0, .i64 0, .i64 0, .i64 0, .i64 0, .i64 0, .i64 0, .i64 0, .i64 0, .i64 0, .i64 0, .i64 0, .i64 0, .i64 0, .i64 0, .i64 0] := by kernel_rfl
theorem row196 : isRowT Try.prog 196 = some true := by kernel_rfl
theorem fld196_0 : fldOf Try.prog 196 0 = some (0, 176) := by kernel_rfl
theorem fld196_1 : fldOf Try.prog 196 1 = some (16, 176) := by kernel_rfl
theorem bld196 : buildT Try.prog 196 = some ([.i64 0, .i64 0, .i64 0, .i64 0, .i64 0, .i64 0, .i64 0, .i64 0, .i64 0, .i64 0, .i64 0, .i64 0, .i64 0, .i64 0, .i64 0, .i64 0, .i64 0, .i64 0, .i64 0, .i64 0, .i64 0, .i64 0, .i64 0, .i64 0, .i64 0, .i64 0, .i64 0, .i64 0, .i64 0, .i64 0, .i64 0, .i64 0], .inl [(0, 16), (16, 16)]) := by kernel_rfl
theorem sz198 : szOf Try.prog 198 = some 1 := by kernel_rfl
theorem by198 : byOf Try.prog 198 = some 8 := by kernel_rfl
theorem zero198 : zeroOf Try.prog 198 = some [.nilFn] := by kernel_rfl
theorem row198 : isRowT Try.prog 198 = some false := by kernel_rfl
theorem sz199 : szOf Try.prog 199 = some 1 := by kernel_rfl
theorem by199 : byOf Try.prog 199 = some 8 := by kernel_rfl
theorem zero199 : zeroOf Try.prog 199 = some [.nilFn] := by kernel_rfl
theorem row199 : isRowT Try.prog 199 = some false := by kernel_rfl
theorem sz200 : szOf Try.prog 200 = some 1 := by kernel_rfl
theorem by200 : byOf Try.prog 200 = some 8 := by kernel_rfl
theorem zero200 : zeroOf Try.prog 200 = some [.nilFn] := by kernel_rfl
theorem row200 : isRowT Try.prog 200 = some false := by kernel_rfl
theorem sz201 : szOf Try.prog 201 = some 1 := by kernel_rfl
theorem by201 : byOf Try.prog 201 = some 8 := by kernel_rfl
theorem zero201 : zeroOf Try.prog 201 = some [.nilFn] := by kernel_rfl
theorem row201 : isRowT Try.prog 201 = some false := by kernel_rfl
theorem sz202 : szOf Try.prog 202 = some 1 := by kernel_rfl
theorem by202 : byOf Try.prog 202 = some 8 := by kernel_rfl
theorem zero202 : zeroOf Try.prog 202 = some [.nilFn] := by kernel_rfl
theorem row202 : isRowT Try.prog 202 = some false := by kernel_rfl
theorem sz203 : szOf Try.prog 203 = some 2 := by kernel_rfl
theorem by203 : byOf Try.prog 203 = some 24 := by kernel_rfl
theorem zero203 : zeroOf Try.prog 203 = some [.nilPtr, .str []] := by kernel_rfl
theorem row203 : isRowT Try.prog 203 = some true := by kernel_rfl
theorem fld203_0 : fldOf Try.prog 203 0 = some (0, 194) := by kernel_rfl
theorem fld203_1 : fldOf Try.prog 203 1 = some (1, 9) := by kernel_rfl
theorem bld203 : buildT Try.prog 203 = some ([.nilPtr, .str []], .inl [(0, 1), (1, 1)]) := by kernel_rfl
theorem sz204 : szOf Try.prog 204 = some 2 := by kernel_rfl
theorem by204 : byOf Try.prog 204 = some 24 := by kernel_rfl
theorem zero204 : zeroOf Try.prog 204 = some [.nilPtr, .str []] := by kernel_rfl
theorem row204 : isRowT Try.prog 204 = some true := by kernel_rfl
theorem fld204_0 : fldOf Try.prog 204 0 = some (0, 194) := by kernel_rfl
theorem fld204_1 : fldOf Try.prog 204 1 = some (1, 9) := by kernel_rfl
theorem bld204 : buildT Try.prog 204 = some ([.nilPtr, .str []], .inl [(0, 1), (1, 1)]) := by kernel_rfl
theorem sz206 : szOf Try.prog 206 = some 1 := by kernel_rfl
theorem by206 : byOf Try.prog 206 = some 8 := by kernel_rfl
theorem zero206 : zeroOf Try.prog 206 = some [.nilFn] := by kernel_rfl
theorem row206 : isRowT Try.prog 206 = some false := by kernel_rfl
theorem sz207 : szOf Try.prog 207 = some 1 := by kernel_rfl
theorem by207 : byOf Try.prog 207 = some 8 := by kernel_rfl
theorem zero207 : zeroOf Try.prog 207 = some [.nilFn] := by kernel_rfl
theorem row207 : isRowT Try.prog 207 = some false := by kernel_rfl
theorem sz208 : szOf Try.prog 208 = some 1 := by kernel_rfl
theorem by208 : byOf Try.prog 208 = some 8 := by kernel_rfl
theorem zero208 : zeroOf Try.prog 208 = some [.nilFn] := by kernel_rfl
theorem row208 : isRowT Try.prog 208 = some false := by kernel_rfl
theorem sz209 : szOf Try.prog 209 = some 4 := by kernel_rfl
theorem by209 : byOf Try.prog 209 = some 32 := by kernel_rfl
theorem zero209 : zeroOf Try.prog 209 = some [.i64 0, .i64 0, .i64 0, .i64 0] := by kernel_rfl
theorem row209 : isRowT Try.prog 209 = some true := by kernel_rfl
theorem arr209 : arrT Try.prog 209 = some (4, 3) := by kernel_rfl
theorem bld209 : buildT Try.prog 209 = some ([.i64 0, .i64 0, .i64 0, .i64 0], .inr 1) := by kernel_rfl
theorem sz210 : szOf Try.prog 210 = some 1 := by kernel_rfl
theorem by210 : byOf Try.prog 210 = some 8 := by kernel_rfl
theorem zero210 : zeroOf Try.prog 210 = some [.nilFn] := by kernel_rfl
theorem row210 : isRowT Try.prog 210 = some false := by kernel_rfl
theorem sz211 : szOf Try.prog 211 = some 1 := by kernel_rfl
theorem by211 : byOf Try.prog 211 = some 8 := by kernel_rfl
theorem zero211 : zeroOf Try.prog 211 = some [.nilFn] := by kernel_rfl
theorem row211 : isRowT Try.prog 211 = some false := by kernel_rfl
theorem sz213 : szOf Try.prog 213 = some 1 := by kernel_rfl
theorem by213 : byOf Try.prog 213 = some 8 := by kernel_rfl
theorem zero213 : zeroOf Try.prog 213 = some [.nilFn] := by kernel_rfl
theorem row213 : isRowT Try.prog 213 = some false := by kernel_rfl
theorem sz214 : szOf Try.prog 214 = some 1 := by kernel_rfl
theorem by214 : byOf Try.prog 214 = some 8 := by kernel_rfl
theorem zero214 : zeroOf Try.prog 214 = some [.nilFn] := by kernel_rfl
theorem row214 : isRowT Try.prog 214 = some false := by kernel_rfl
theorem sz215 : szOf Try.prog 215 = some 1 := by kernel_rfl
theorem by215 : byOf Try.prog 215 = some 8 := by kernel_rfl
theorem zero215 : zeroOf Try.prog 215 = some [.nilFn] := by kernel_rfl
theorem row215 : isRowT Try.prog 215 = some false := by kernel_rfl
theorem sz217 : szOf Try.prog 217 = some 1 := by kernel_rfl
theorem by217 : byOf Try.prog 217 = some 8 := by kernel_rfl
theorem zero217 : zeroOf Try.prog 217 = some [.nilFn] := by kernel_rfl
theorem row217 : isRowT Try.prog 217 = some false := by kernel_rfl
theorem sz218 : szOf Try.prog 218 = some 1 := by kernel_rfl
theorem by218 : byOf Try.prog 218 = some 24 := by kernel_rfl
theorem zero218 : zeroOf Try.prog 218 = some [.nilSlice] := by kernel_rfl
theorem row218 : isRowT Try.prog 218 = some false := by kernel_rfl
theorem slc218 : sliceT Try.prog 218 = some 93 := by kernel_rfl
theorem sz219 : szOf Try.prog 219 = some 1 := by kernel_rfl
theorem by219 : byOf Try.prog 219 = some 8 := by kernel_rfl
theorem zero219 : zeroOf Try.prog 219 = some [.nilFn] := by kernel_rfl
theorem row219 : isRowT Try.prog 219 = some false := by kernel_rfl
theorem sz220 : szOf Try.prog 220 = some 1 := by kernel_rfl
theorem by220 : byOf Try.prog 220 = some 8 := by kernel_rfl
theorem zero220 : zeroOf Try.prog 220 = some [.nilFn] := by kernel_rfl
theorem row220 : isRowT Try.prog 220 = some false := by kernel_rfl
theorem sz221 : szOf Try.prog 221 = some 32 := by kernel_rfl
theorem by221 : byOf Try.prog 221 = some 256 := by kernel_rfl
theorem zero221 : zeroOf Try.prog 221 = some [.i64 0, .i64 0, .i64 0, .i64 0, .i64 0, .i64 0, .i64 0, .i64 0, .i64 0, .i64 0, .i64 0, .i64 0, .i64 0, .i64 0, .i64 0, .i64 0, .i64 0, .i64 0, .i64 0, .i64 0, .i64 0, .i64 0, .i64 0, .i64 0, .i64 0, .i64 0, .i64 0, .i64 0, .i64 0, .i64 0, .i64 0, .i64 0] := by kernel_rfl
theorem row221 : isRowT Try.prog 221 = some true := by kernel_rfl
theorem arr221 : arrT Try.prog 221 = some (32, 2) := by kernel_rfl
theorem bld221 : buildT Try.prog 221 = some ([.i64 0, .i64 0, .i64 0, .i64 0, .i64 0, .i64 0, .i64 0, .i64 0, .i64 0, .i64 0, .i64 0, .i64 0, .i64 0, .i64 0, .i64 0, .i64 0, .i64 0, .i64 0, .i64 0, .i64 0, .i64 0, .i64 0, .i64 0, .i64 0, .i64 0, .i64 0, .i64 0, .i64 0, .i64 0, .i64 0, .i64 0, .i64 0], .inr 1) := by kernel_rfl
theorem sz222 : szOf Try.prog 222 = some 256 := by kernel_rfl
theorem by222 : byOf Try.prog 222 = some 256 := by kernel_rfl
theorem zero222 : zeroOf Try.prog 222 = some (List.replicate 256 (.u8 0#8)) := by kernel_rfl
theorem row222 : isRowT Try.prog 222 = some true := by kernel_rfl
theorem arr222 : arrT Try.prog 222 = some (256, 5) := by kernel_rfl
theorem bld222 : buildT Try.prog 222 = some ((List.replicate 256 (.u8 0#8)), .inr 1) := by kernel_rfl
theorem sz223 : szOf Try.prog 223 = some 512 := by kernel_rfl
theorem by223 : byOf Try.prog 223 = some 512 := by kernel_rfl
theorem zero223 : zeroOf Try.prog 223 = some (List.replicate 512 (.u8 0#8)) := by kernel_rfl
theorem row223 : isRowT Try.prog 223 = some true := by kernel_rfl
theorem fld223_0 : fldOf Try.prog 223 0 = some (0, 222) := by kernel_rfl
theorem fld223_1 : fldOf Try.prog 223 1 = some (256, 222) := by kernel_rfl
theorem bld223 : buildT Try.prog 223 = some ((List.replicate 512 (.u8 0#8)), .inl [(0, 256), (256, 256)]) := by kernel_rfl
theorem sz224 : szOf Try.prog 224 = some 512 := by kernel_rfl
theorem by224 : byOf Try.prog 224 = some 512 := by kernel_rfl
theorem zero224 : zeroOf Try.prog 224 = some (List.replicate 512 (.u8 0#8)) := by kernel_rfl
theorem row224 : isRowT Try.prog 224 = some true := by kernel_rfl
theorem fld224_0 : fldOf Try.prog 224 0 = some (0, 222) := by kernel_rfl
theorem fld224_1 : fldOf Try.prog 224 1 = some (256, 222) := by kernel_rfl
theorem bld224 : buildT Try.prog 224 = some ((List.replicate 512 (.u8 0#8)), .inl [(0, 256), (256, 256)]) := by kernel_rfl
theorem sz225 : szOf Try.prog 225 = some 4 := by kernel_rfl
theorem by225 : byOf Try.prog 225 = some 4 := by kernel_rfl
theorem zero225 : zeroOf Try.prog 225 = some [.u8 0#8, .u8 0#8, .u8 0#8, .u8 0#8] := by kernel_rfl
theorem row225 : isRowT Try.prog 225 = some true := by kernel_rfl
theorem arr225 : arrT Try.prog 225 = some (4, 5) := by kernel_rfl
theorem bld225 : buildT Try.prog 225 = some ([.u8 0#8, .u8 0#8, .u8 0#8, .u8 0#8], .inr 1) := by kernel_rfl
theorem sz226 : szOf Try.prog 226 = some 1 := by kernel_rfl
theorem by226 : byOf Try.prog 226 = some 8 := by kernel_rfl
theorem zero226 : zeroOf Try.prog 226 = some [.nilFn] := by kernel_rfl
theorem row226 : isRowT Try.prog 226 = some false := by kernel_rfl
theorem sz227 : szOf Try.prog 227 = some 1 := by kernel_rfl
theorem by227 : byOf Try.prog 227 = some 8 := by kernel_rfl
theorem zero227 : zeroOf Try.prog 227 = some [.nilPtr] := by kernel_rfl
theorem row227 : isRowT Try.prog 227 = some false := by kernel_rfl
theorem sz228 : szOf Try.prog 228 = some 2 := by kernel_rfl
theorem by228 : byOf Try.prog 228 = some 32 := by kernel_rfl
theorem zero228 : zeroOf Try.prog 228 = some [.nilPtr, .nilSlice] := by kernel_rfl
theorem row228 : isRowT Try.prog 228 = some true := by kernel_rfl
theorem fld228_0 : fldOf Try.prog 228 0 = some (0, 227) := by kernel_rfl
theorem fld228_1 : fldOf Try.prog 228 1 = some (1, 105) := by kernel_rfl
theorem bld228 : buildT Try.prog 228 = some ([.nilPtr, .nilSlice], .inl [(0, 1), (1, 1)]) := by kernel_rfl
theorem sz229 : szOf Try.prog 229 = some 2 := by kernel_rfl
theorem by229 : byOf Try.prog 229 = some 32 := by kernel_rfl
theorem zero229 : zeroOf Try.prog 229 = some [.nilPtr, .nilSlice] := by kernel_rfl
theorem row229 : isRowT Try.prog 229 = some true := by kernel_rfl
theorem fld229_0 : fldOf Try.prog 229 0 = some (0, 227) := by kernel_rfl
theorem fld229_1 : fldOf Try.prog 229 1 = some (1, 105) := by kernel_rfl
theorem bld229 : buildT Try.prog 229 = some ([.nilPtr, .nilSlice], .inl [(0, 1), (1, 1)]) := by kernel_rfl
theorem sz230 : szOf Try.prog 230 = some 1 := by kernel_rfl
theorem by230 : byOf Try.prog 230 = some 8 := by kernel_rfl
theorem zero230 : zeroOf Try.prog 230 = some [.nilFn] := by kernel_rfl
theorem row230 : isRowT Try.prog 230 = some false := by kernel_rfl
theorem sz231 : szOf Try.prog 231 = some 1 := by kernel_rfl
theorem by231 : byOf Try.prog 231 = some 16 := by kernel_rfl
theorem zero231 : zeroOf Try.prog 231 = some [.nilIface] := by kernel_rfl
theorem row231 : isRowT Try.prog 231 = some false := by kernel_rfl
theorem sz232 : szOf Try.prog 232 = some 1 := by kernel_rfl
theorem by232 : byOf Try.prog 232 = some 16 := by kernel_rfl
theorem zero232 : zeroOf Try.prog 232 = some [.nilIface] := by kernel_rfl
theorem row232 : isRowT Try.prog 232 = some false := by kernel_rfl
theorem sz234 : szOf Try.prog 234 = some 1 := by kernel_rfl
theorem by234 : byOf Try.prog 234 = some 8 := by kernel_rfl
theorem zero234 : zeroOf Try.prog 234 = some [.nilFn] := by kernel_rfl
theorem row234 : isRowT Try.prog 234 = some false := by kernel_rfl
theorem sz235 : szOf Try.prog 235 = some 2 := by kernel_rfl
theorem by235 : byOf Try.prog 235 = some 16 := by kernel_rfl
theorem zero235 : zeroOf Try.prog 235 = some [.u64 0#64, .u64 0#64] := by kernel_rfl
theorem row235 : isRowT Try.prog 235 = some true := by kernel_rfl
theorem fld235_0 : fldOf Try.prog 235 0 = some (0, 93) := by kernel_rfl
theorem fld235_1 : fldOf Try.prog 235 1 = some (1, 93) := by kernel_rfl
theorem bld235 : buildT Try.prog 235 = some ([.u64 0#64, .u64 0#64], .inl [(0, 1), (1, 1)]) := by kernel_rfl
theorem sz236 : szOf Try.prog 236 = some 2 := by kernel_rfl
theorem by236 : byOf Try.prog 236 = some 16 := by kernel_rfl
theorem zero236 : zeroOf Try.prog 236 = some [.u64 0#64, .u64 0#64] := by kernel_rfl
theorem row236 : isRowT Try.prog 236 = some true := by kernel_rfl
theorem fld236_0 : fldOf Try.prog 236 0 = some (0, 93) := by kernel_rfl
theorem fld236_1 : fldOf Try.prog 236 1 = some (1, 93) := by kernel_rfl
theorem bld236 : buildT Try.prog 236 = some ([.u64 0#64, .u64 0#64], .inl [(0, 1), (1, 1)]) := by kernel_rfl
theorem sz237 : szOf Try.prog 237 = some 10 := by kernel_rfl
theorem by237 : byOf Try.prog 237 = some 80 := by kernel_rfl
theorem zero237 : zeroOf Try.prog 237 = some [.u64 0#64, .u64 0#64, .u64 0#64, .u64 0#64, .u64 0#64, .u64 0#64, .u64 0#64, .u64 0#64, .u64 0#64, .u64 0#64] := by kernel_rfl
theorem row237 : isRowT Try.prog 237 = some true := by kernel_rfl
theorem arr237 : arrT Try.prog 237 = some (5, 236) := by kernel_rfl
theorem bld237 : buildT Try.prog 237 = some ([.u64 0#64, .u64 0#64, .u64 0#64, .u64 0#64, .u64 0#64, .u64 0#64, .u64 0#64, .u64 0#64, .u64 0#64, .u64 0#64], .inr 2) := by kernel_rfl
theorem sz238 : szOf Try.prog 238 = some 1 := by kernel_rfl
theorem by238 : byOf Try.prog 238 = some 8 := by kernel_rfl
theorem zero238 : zeroOf Try.prog 238 = some [.nilFn] := by kernel_rfl
theorem row238 : isRowT Try.prog 238 = some false := by kernel_rfl
theorem sz239 : szOf Try.prog 239 = some 2 := by kernel_rfl
theorem by239 : byOf Try.prog 239 = some 24 := by kernel_rfl
theorem zero239 : zeroOf Try.prog 239 = some [.nilPtr, .str []] := by kernel_rfl
theorem row239 : isRowT Try.prog 239 = some true := by kernel_rfl
theorem fld239_0 : fldOf Try.prog 239 0 = some (0, 184) := by kernel_rfl
theorem fld239_1 : fldOf Try.prog 239 1 = some (1, 9) := by kernel_rfl
theorem bld239 : buildT Try.prog 239 = some ([.nilPtr, .str []], .inl [(0, 1), (1, 1)]) := by kernel_rfl
theorem sz240 : szOf Try.prog 240 = some 2 := by kernel_rfl
theorem by240 : byOf Try.prog 240 = some 24 := by kernel_rfl
theorem zero240 : zeroOf Try.prog 240 = some [.nilPtr, .str []] := by kernel_rfl
theorem row240 : isRowT Try.prog 240 = some true := by kernel_rfl
theorem fld240_0 : fldOf Try.prog 240 0 = some (0, 184) := by kernel_rfl
theorem fld240_1 : fldOf Try.prog 240 1 = some (1, 9) := by kernel_rfl
theorem bld240 : buildT Try.prog 240 = some ([.nilPtr, .str []], .inl [(0, 1), (1, 1)]) := by kernel_rfl
theorem sz241 : szOf Try.prog 241 = some 16 := by kernel_rfl
theorem by241 : byOf Try.prog 241 = some 16 := by kernel_rfl
theorem zero241 : zeroOf Try.prog 241 = some [.u8 0#8, .u8 0#8, .u8 0#8, .u8 0#8, .u8 0#8, .u8 0#8, .u8 0#8, .u8 0#8, .u8 0#8, .u8 0#8, .u8 0#8, .u8 0#8, .u8 0#8, .u8 0#8, .u8 0#8, .u8 0#8] := by kernel_rfl
theorem row241 : isRowT Try.prog 241 = some true := by kernel_rfl
theorem arr241 : arrT Try.prog 241 = some (16, 5) := by kernel_rfl
theorem bld241 : buildT Try.prog 241 = some ([.u8 0#8, .u8 0#8, .u8 0#8, .u8 0#8, .u8 0#8, .u8 0#8, .u8 0#8, .u8 0#8, .u8 0#8, .u8 0#8, .u8 0#8, .u8 0#8, .u8 0#8, .u8 0#8, .u8 0#8, .u8 0#8], .inr 1) := by kernel_rfl
theorem sz242 : szOf Try.prog 242 = some 1 := by kernel_rfl
theorem by242 : byOf Try.prog 242 = some 8 := by kernel_rfl
theorem zero242 : zeroOf Try.prog 242 = some [.nilFn] := by kernel_rfl
theorem row242 : isRowT Try.prog 242 = some false := by kernel_rfl
theorem sz243 : szOf Try.prog 243 = some 1 := by kernel_rfl
theorem by243 : byOf Try.prog 243 = some 8 := by kernel_rfl
theorem zero243 : zeroOf Try.prog 243 = some [.nilPtr] := by kernel_rfl
theorem row243 : isRowT Try.prog 243 = some false := by kernel_rfl
theorem sz244 : szOf Try.prog 244 = some 1 := by kernel_rfl
theorem by244 : byOf Try.prog 244 = some 8 := by kernel_rfl
theorem zero244 : zeroOf Try.prog 244 = some [.nilFn] := by kernel_rfl
theorem row244 : isRowT Try.prog 244 = some false := by kernel_rfl
theorem sz245 : szOf Try.prog 245 = some 1 := by kernel_rfl
theorem by245 : byOf Try.prog 245 = some 8 := by kernel_rfl
theorem zero245 : zeroOf Try.prog 245 = some [.nilFn] := by kernel_rfl
theorem row245 : isRowT Try.prog 245 = some false := by kernel_rfl
theorem sz246 : szOf Try.prog 246 = some 1 := by kernel_rfl
theorem by246 : byOf Try.prog 246 = some 8 := by kernel_rfl
theorem zero246 : zeroOf Try.prog 246 = some [.nilFn] := by kernel_rfl
theorem row246 : isRowT Try.prog 246 = some false := by kernel_rfl
theorem sz247 : szOf Try.prog 247 = some 4 := by kernel_rfl
theorem by247 : byOf Try.prog 247 = some 32 := by kernel_rfl
theorem zero247 : zeroOf Try.prog 247 = some [.u64 0#64, .u64 0#64, .u64 0#64, .u64 0#64] := by kernel_rfl
theorem row247 : isRowT Try.prog 247 = some true := by kernel_rfl
theorem arr247 : arrT Try.prog 247 = some (4, 93) := by kernel_rfl
theorem bld247 : buildT Try.prog 247 = some ([.u64 0#64, .u64 0#64, .u64 0#64, .u64 0#64], .inr 1) := by kernel_rfl
theorem sz249 : szOf Try.prog 249 = some 1 := by kernel_rfl
theorem by249 : byOf Try.prog 249 = some 8 := by kernel_rfl
theorem zero249 : zeroOf Try.prog 249 = some [.nilFn] := by kernel_rfl
theorem row249 : isRowT Try.prog 249 = some false := by kernel_rfl
theorem sz250 : szOf Try.prog 250 = some 1 := by kernel_rfl
theorem by250 : byOf Try.prog 250 = some 8 := by kernel_rfl
theorem zero250 : zeroOf Try.prog 250 = some [.nilPtr] := by kernel_rfl
theorem row250 : isRowT Try.prog 250 = some false := by kernel_rfl
theorem sz251 : szOf Try.prog 251 = some 1 := by kernel_rfl
theorem by251 : byOf Try.prog 251 = some 8 := by kernel_rfl
theorem zero251 : zeroOf Try.prog 251 = some [.nilPtr] := by kernel_rfl
theorem row251 : isRowT Try.prog 251 = some false := by kernel_rfl
theorem sz253 : szOf Try.prog 253 = some 1 := by kernel_rfl
theorem by253 : byOf Try.prog 253 = some 8 := by kernel_rfl
theorem zero253 : zeroOf Try.prog 253 = some [.nilFn] := by kernel_rfl
theorem row253 : isRowT Try.prog 253 = some false := by kernel_rfl
theorem sz254 : szOf Try.prog 254 = some 1 := by kernel_rfl
theorem by254 : byOf Try.prog 254 = some 8 := by kernel_rfl
theorem zero254 : zeroOf Try.prog 254 = some [.nilPtr] := by kernel_rfl
theorem row254 : isRowT Try.prog 254 = some false := by kernel_rfl
theorem sz255 : szOf Try.prog 255 = some 1 := by kernel_rfl
theorem by255 : byOf Try.prog 255 = some 8 := by kernel_rfl
theorem zero255 : zeroOf Try.prog 255 = some [.nilFn] := by kernel_rfl
theorem row255 : isRowT Try.prog 255 = some false := by kernel_rfl
theorem sz256 : szOf Try.prog 256 = some 1 := by kernel_rfl
theorem by256 : byOf Try.prog 256 = some 8 := by kernel_rfl
theorem zero256 : zeroOf Try.prog 256 = some [.nilFn] := by kernel_rfl
theorem row256 : isRowT Try.prog 256 = some false := by kernel_rfl
theorem sz257 : szOf Try.prog 257 = some 4 := by kernel_rfl
theorem by257 : byOf Try.prog 257 = some 40 := by kernel_rfl
theorem zero257 : zeroOf Try.prog 257 = some [.nilPtr, .nilPtr, .nilPtr, .str []] := by kernel_rfl
theorem row257 : isRowT Try.prog 257 = some true := by kernel_rfl
theorem fld257_0 : fldOf Try.prog 257 0 = some (0, 17) := by kernel_rfl
theorem fld257_1 : fldOf Try.prog 257 1 = some (1, 17) := by kernel_rfl
theorem fld257_2 : fldOf Try.prog 257 2 = some (2, 17) := by kernel_rfl
theorem fld257_3 : fldOf Try.prog 257 3 = some (3, 9) := by kernel_rfl
theorem bld257 : buildT Try.prog 257 = some ([.nilPtr, .nilPtr, .nilPtr, .str []], .inl [(0, 1), (1, 1), (2, 1), (3, 1)]) := by kernel_rfl
theorem sz258 : szOf Try.prog 258 = some 4 := by kernel_rfl
theorem by258 : byOf Try.prog 258 = some 40 := by kernel_rfl
theorem zero258 : zeroOf Try.prog 258 = some [.nilPtr, .nilPtr, .nilPtr, .str []] := by kernel_rfl
theorem row258 : isRowT Try.prog 258 = some true := by kernel_rfl
theorem fld258_0 : fldOf Try.prog 258 0 = some (0, 17) := by kernel_rfl
theorem fld258_1 : fldOf Try.prog 258 1 = some (1, 17) := by kernel_rfl
theorem fld258_2 : fldOf Try.prog 258 2 = some (2, 17) := by kernel_rfl
theorem fld258_3 : fldOf Try.prog 258 3 = some (3, 9) := by kernel_rfl
theorem bld258 : buildT Try.prog 258 = some ([.nilPtr, .nilPtr, .nilPtr, .str []], .inl [(0, 1), (1, 1), (2, 1), (3, 1)]) := by kernel_rfl
theorem sz259 : szOf Try.prog 259 = some 0 := by kernel_rfl
theorem by259 : byOf Try.prog 259 = some 0 := by kernel_rfl
theorem zero259 : zeroOf Try.prog 259 = some [] := by kernel_rfl
theorem row259 : isRowT Try.prog 259 = some true := by kernel_rfl
theorem arr259 : arrT Try.prog 259 = some (0, 16) := by kernel_rfl
theorem bld259 : buildT Try.prog 259 = some ([], .inr 1) := by kernel_rfl
theorem sz260 : szOf Try.prog 260 = some 0 := by kernel_rfl
theorem by260 : byOf Try.prog 260 = some 0 := by kernel_rfl
theorem zero260 : zeroOf Try.prog 260 = some [] := by kernel_rfl
theorem row260 : isRowT Try.prog 260 = some true := by kernel_rfl
theorem fld260_0 : fldOf Try.prog 260 0 = some (0, 259) := by kernel_rfl
theorem bld260 : buildT Try.prog 260 = some ([], .inl [(0, 0)]) := by kernel_rfl
theorem sz261 : szOf Try.prog 261 = some 0 := by kernel_rfl
theorem by261 : byOf Try.prog 261 = some 0 := by kernel_rfl
theorem zero261 : zeroOf Try.prog 261 = some [] := by kernel_rfl
theorem row261 : isRowT Try.prog 261 = some true := by kernel_rfl
theorem fld261_0 : fldOf Try.prog 261 0 = some (0, 259) := by kernel_rfl
theorem bld261 : buildT Try.prog 261 = some ([], .inl [(0, 0)]) := by kernel_rfl
theorem sz262 : szOf Try.prog 262 = some 1 := by kernel_rfl
theorem by262 : byOf Try.prog 262 = some 1 := by kernel_rfl
theorem zero262 : zeroOf Try.prog 262 = some [.u8 0#8] := by kernel_rfl
theorem row262 : isRowT Try.prog 262 = some false := by kernel_rfl
theorem sz263 : szOf Try.prog 263 = some 1 := by kernel_rfl
theorem by263 : byOf Try.prog 263 = some 1 := by kernel_rfl
theorem zero263 : zeroOf Try.prog 263 = some [.u8 0#8] := by kernel_rfl
theorem row263 : isRowT Try.prog 263 = some false := by kernel_rfl
theorem sz264 : szOf Try.prog 264 = some 1 := by kernel_rfl
theorem by264 : byOf Try.prog 264 = some 8 := by kernel_rfl
theorem zero264 : zeroOf Try.prog 264 = some [.nilFn] := by kernel_rfl
theorem row264 : isRowT Try.prog 264 = some false := by kernel_rfl
theorem sz265 : szOf Try.prog 265 = some 1 := by kernel_rfl
theorem by265 : byOf Try.prog 265 = some 4 := by kernel_rfl
theorem zero265 : zeroOf Try.prog 265 = some [.i32 0] := by kernel_rfl
theorem row265 : isRowT Try.prog 265 = some false := by kernel_rfl
theorem sz266 : szOf Try.prog 266 = some 1 := by kernel_rfl
theorem by266 : byOf Try.prog 266 = some 4 := by kernel_rfl
theorem zero266 : zeroOf Try.prog 266 = some [.i32 0] := by kernel_rfl
theorem row266 : isRowT Try.prog 266 = some false := by kernel_rfl
theorem sz267 : szOf Try.prog 267 = some 11 := by kernel_rfl
theorem by267 : byOf Try.prog 267 = some 48 := by kernel_rfl
theorem zero267 : zeroOf Try.prog 267 = some [.u64 0#64, .u64 0#64, .u32 0#32, .u8 0#8, .u8 0#8, .u8 0#8, .u8 0#8, .nilFn, .nilPtr, .i32 0, .i32 0] := by kernel_rfl
theorem row267 : isRowT Try.prog 267 = some true := by kernel_rfl
theorem fld267_0 : fldOf Try.prog 267 0 = some (0, 12) := by kernel_rfl
theorem fld267_1 : fldOf Try.prog 267 1 = some (1, 12) := by kernel_rfl
theorem fld267_2 : fldOf Try.prog 267 2 = some (2, 34) := by kernel_rfl
theorem fld267_3 : fldOf Try.prog 267 3 = some (3, 262) := by kernel_rfl
theorem fld267_4 : fldOf Try.prog 267 4 = some (4, 5) := by kernel_rfl
theorem fld267_5 : fldOf Try.prog 267 5 = some (5, 5) := by kernel_rfl
theorem fld267_6 : fldOf Try.prog 267 6 = some (6, 263) := by kernel_rfl
theorem fld267_7 : fldOf Try.prog 267 7 = some (7, 264) := by kernel_rfl
theorem fld267_8 : fldOf Try.prog 267 8 = some (8, 250) := by kernel_rfl
theorem fld267_9 : fldOf Try.prog 267 9 = some (9, 265) := by kernel_rfl
theorem fld267_10 : fldOf Try.prog 267 10 = some (10, 266) := by kernel_rfl
theorem bld267 : buildT Try.prog 267 = some ([.u64 0#64, .u64 0#64, .u32 0#32, .u8 0#8, .u8 0#8, .u8 0#8, .u8 0#8, .nilFn, .nilPtr, .i32 0, .i32 0], .inl [(0, 1), (1, 1), (2, 1), (3, 1), (4, 1), (5, 1), (6, 1), (7, 1), (8, 1), (9, 1), (10, 1)]) := by kernel_rfl
theorem sz268 : szOf Try.prog 268 = some 11 := by kernel_rfl
theorem by268 : byOf Try.prog 268 = some 48 := by kernel_rfl
theorem zero268 : zeroOf Try.prog 268 = some [.u64 0#64, .u64 0#64, .u32 0#32, .u8 0#8, .u8 0#8, .u8 0#8, .u8 0#8, .nilFn, .nilPtr, .i32 0, .i32 0] := by kernel_rfl
theorem row268 : isRowT Try.prog 268 = some true := by kernel_rfl
theorem fld268_0 : fldOf Try.prog 268 0 = some (0, 12) := by kernel_rfl
theorem fld268_1 : fldOf Try.prog 268 1 = some (1, 12) := by kernel_rfl
theorem fld268_2 : fldOf Try.prog 268 2 = some (2, 34) := by kernel_rfl
theorem fld268_3 : fldOf Try.prog 268 3 = some (3, 262) := by kernel_rfl
theorem fld268_4 : fldOf Try.prog 268 4 = some (4, 5) := by kernel_rfl
theorem fld268_5 : fldOf Try.prog 268 5 = some (5, 5) := by kernel_rfl
theorem fld268_6 : fldOf Try.prog 268 6 = some (6, 263) := by kernel_rfl
theorem fld268_7 : fldOf Try.prog 268 7 = some (7, 264) := by kernel_rfl
theorem fld268_8 : fldOf Try.prog 268 8 = some (8, 250) := by kernel_rfl
theorem fld268_9 : fldOf Try.prog 268 9 = some (9, 265) := by kernel_rfl
theorem fld268_10 : fldOf Try.prog 268 10 = some (10, 266) := by kernel_rfl
theorem bld268 : buildT Try.prog 268 = some ([.u64 0#64, .u64 0#64, .u32 0#32, .u8 0#8, .u8 0#8, .u8 0#8, .u8 0#8, .nilFn, .nilPtr, .i32 0, .i32 0], .inl [(0, 1), (1, 1), (2, 1), (3, 1), (4, 1), (5, 1), (6, 1), (7, 1), (8, 1), (9, 1), (10, 1)]) := by kernel_rfl
theorem agt30 : aggTypes Try.prog 30 = some [3, 3] := by kernel_rfl
theorem agt31 : aggTypes Try.prog 31 = some [3, 3] := by kernel_rfl
theorem agt37 : aggTypes Try.prog 37 = some [34, 34, 34, 34] := by kernel_rfl
theorem agt58 : aggTypes Try.prog 58 = some [34, 3] := by kernel_rfl
theorem agt59 : aggTypes Try.prog 59 = some [34, 3] := by kernel_rfl
theorem agt109 : aggTypes Try.prog 109 = some [3, 3] := by kernel_rfl
theorem agt113 : aggTypes Try.prog 113 = some [3, 93] := by kernel_rfl
theorem agt114 : aggTypes Try.prog 114 = some [3, 93] := by kernel_rfl
theorem agt124 : aggTypes Try.prog 124 = some [93, 93] := by kernel_rfl
theorem agt125 : aggTypes Try.prog 125 = some [93, 93] := by kernel_rfl
theorem agt131 : aggTypes Try.prog 131 = some [4, 3, 3, 4, 3] := by kernel_rfl
theorem agt132 : aggTypes Try.prog 132 = some [4, 3, 3, 4, 3] := by kernel_rfl
theorem agt141 : aggTypes Try.prog 141 = some [34, 34, 34, 34, 34, 34, 34, 34, 34, 34, 34, 34, 34, 34, 34, 34] := by kernel_rfl
theorem agt142 : aggTypes Try.prog 142 = some [34, 34, 34, 34, 34, 34, 34, 34, 34, 34, 34, 34, 34, 34, 34, 34] := by kernel_rfl
theorem agt160 : aggTypes Try.prog 160 = some [93, 93] := by kernel_rfl
theorem agt161 : aggTypes Try.prog 161 = some [93, 93, 93] := by kernel_rfl
theorem agt162 : aggTypes Try.prog 162 = some [93, 93, 93] := by kernel_rfl
theorem agt166 : aggTypes Try.prog 166 = some [93, 93, 93, 93, 93, 93, 93, 93, 93, 93] := by kernel_rfl
theorem agt167 : aggTypes Try.prog 167 = some [93, 93, 93, 93, 93, 93, 93, 93, 93, 93] := by kernel_rfl
theorem agt171 : aggTypes Try.prog 171 = some [93, 93, 93, 93, 93] := by kernel_rfl
theorem agt172 : aggTypes Try.prog 172 = some [93, 93, 93, 93, 93] := by kernel_rfl
theorem agt175 : aggTypes Try.prog 175 = some [2, 2, 2, 2, 2, 2, 2, 2, 2, 2, 2, 2, 2, 2, 2, 2] := by kernel_rfl
theorem agt176 : aggTypes Try.prog 176 = some [2, 2, 2, 2, 2, 2, 2, 2, 2, 2, 2, 2, 2, 2, 2, 2] := by kernel_rfl
theorem agt178 : aggTypes Try.prog 178 = some [5, 5, 5, 5, 5, 5, 5, 5, 5, 5, 5, 5, 5, 5, 5, 5] := by kernel_rfl
theorem agt209 : aggTypes Try.prog 209 = some [3, 3, 3, 3] := by kernel_rfl
theorem agt221 : aggTypes Try.prog 221 = some [2, 2, 2, 2, 2, 2, 2, 2, 2, 2, 2, 2, 2, 2, 2, 2, 2, 2, 2, 2, 2, 2, 2, 2, 2, 2, 2, 2, 2, 2, 2, 2] := by kernel_rfl
theorem agt225 : aggTypes Try.prog 225 = some [5, 5, 5, 5] := by kernel_rfl
theorem agt235 : aggTypes Try.prog 235 = some [93, 93] := by kernel_rfl
theorem agt236 : aggTypes Try.prog 236 = some [93, 93] := by kernel_rfl
theorem agt241 : aggTypes Try.prog 241 = some [5, 5, 5, 5, 5, 5, 5, 5, 5, 5, 5, 5, 5, 5, 5, 5] := by kernel_rfl
theorem agt247 : aggTypes Try.prog 247 = some [93, 93, 93, 93] := by kernel_rfl
attribute [go_sem] sz1 by1 zero1 row1 sz2 by2 zero2 row2 sz3 by3 zero3 row3
attribute [go_sem] sz4 by4 zero4 row4 sz5 by5 zero5 row5 sz6 by6 zero6 row6
attribute [go_sem] sz7 by7 zero7 row7 fld7_0 fld7_1 fld7_2 fld7_3 bld7 sz8 by8 zero8
attribute [go_sem] row8 fld8_0 fld8_1 fld8_2 fld8_3 bld8 sz9 by9 zero9 row9 sz10 by10
attribute [go_sem] zero10 row10 sz11 by11 zero11 row11 sz12 by12 zero12 row12 sz13 by13
attribute [go_sem] zero13 row13 fld13_0 fld13_1 bld13 sz14 by14 zero14 row14 fld14_0 fld14_1 bld14
attribute [go_sem] sz15 by15 zero15 row15 sz16 by16 zero16 row16 sz17 by17 zero17 row17
attribute [go_sem] sz18 by18 zero18 row18 fld18_0 bld18 sz19 by19 zero19 row19 fld19_0 bld19
attribute [go_sem] sz20 by20 zero20 row20 sz21 by21 zero21 row21 sz22 by22 zero22 row22
attribute [go_sem] sz23 by23 zero23 row23 sz24 by24 zero24 row24 sz26 by26 zero26 row26
attribute [go_sem] sz27 by27 zero27 row27 sz28 by28 zero28 row28 sz29 by29 zero29 row29
attribute [go_sem] sz30 by30 zero30 row30 fld30_0 fld30_1 bld30 sz31 by31 zero31 row31 fld31_0
attribute [go_sem] fld31_1 bld31 sz33 by33 zero33 row33 sz34 by34 zero34 row34 sz36 by36
attribute [go_sem] zero36 row36 sz37 by37 zero37 row37 arr37 bld37 sz38 by38 zero38 row38
attribute [go_sem] sz39 by39 zero39 row39 sz40 by40 zero40 row40 slc40 sz41 by41 zero41
attribute [go_sem] row41 sz42 by42 zero42 row42 sz43 by43 zero43 row43 sz44 by44 zero44
attribute [go_sem] row44 fld44_0 bld44 sz45 by45 zero45 row45 fld45_0 bld45 sz46 by46 zero46
attribute [go_sem] row46 sz47 by47 zero47 row47 sz48 by48 zero48 row48 sz49 by49 zero49
attribute [go_sem] row49 sz50 by50 zero50 row50 sz51 by51 zero51 row51 slc51 sz52 by52
attribute [go_sem] zero52 row52 sz53 by53 zero53 row53 sz54 by54 zero54 row54 sz55 by55
attribute [go_sem] zero55 row55 slc55 sz56 by56 zero56 row56 fld56_0 fld56_1 fld56_2 bld56 sz57
attribute [go_sem] by57 zero57 row57 fld57_0 fld57_1 fld57_2 bld57 sz58 by58 zero58 row58 fld58_0
attribute [go_sem] fld58_1 bld58 sz59 by59 zero59 row59 fld59_0 fld59_1 bld59 sz60 by60 zero60
attribute [go_sem] row60 fld60_0 fld60_1 fld60_2 fld60_3 fld60_4 fld60_5 fld60_6 bld60 sz61 by61 zero61
attribute [go_sem] row61 fld61_0 fld61_1 fld61_2 fld61_3 fld61_4 fld61_5 fld61_6 bld61 sz62 by62 zero62
attribute [go_sem] row62 sz63 by63 zero63 row63 sz64 by64 zero64 row64 sz65 by65 zero65
attribute [go_sem] row65 sz66 by66 zero66 row66 sz67 by67 zero67 row67 sz68 by68 zero68
attribute [go_sem] row68 sz69 by69 zero69 row69 fld69_0 fld69_1 bld69 sz70 by70 zero70 row70
attribute [go_sem] fld70_0 fld70_1 bld70 sz71 by71 zero71 row71 sz72 by72 zero72 row72 sz73
attribute [go_sem] by73 zero73 row73 sz74 by74 zero74 row74 sz75 by75 zero75 row75 sz76
attribute [go_sem] by76 zero76 row76 sz77 by77 zero77 row77 sz78 by78 zero78 row78 sz79
attribute [go_sem] by79 zero79 row79 sz80 by80 zero80 row80 slc80 sz81 by81 zero81 row81
attribute [go_sem] fld81_0 bld81 sz82 by82 zero82 row82 fld82_0 bld82 sz83 by83 zero83 row83
attribute [go_sem] sz85 by85 zero85 row85 sz86 by86 zero86 row86 sz87 by87 zero87 row87
attribute [go_sem] fld87_0 fld87_1 bld87 sz88 by88 zero88 row88 fld88_0 fld88_1 bld88 sz89 by89
attribute [go_sem] zero89 row89 sz90 by90 zero90 row90 sz91 by91 zero91 row91 sz92 by92
attribute [go_sem] zero92 row92 sz93 by93 zero93 row93 sz94 by94 zero94 row94 sz95 by95
attribute [go_sem] zero95 row95 sz96 by96 zero96 row96 sz97 by97 zero97 row97 sz98 by98
attribute [go_sem] zero98 row98 sz99 by99 zero99 row99 sz100 by100 zero100 row100 sz101 by101
attribute [go_sem] zero101 row101 sz102 by102 zero102 row102 sz103 by103 zero103 row103 sz104 by104
attribute [go_sem] zero104 row104 sz105 by105 zero105 row105 slc105 sz106 by106 zero106 row106 sz107
attribute [go_sem] by107 zero107 row107 sz108 by108 zero108 row108 sz109 by109 zero109 row109 arr109
attribute [go_sem] bld109 sz110 by110 zero110 row110 arr110 bld110 sz111 by111 zero111 row111 sz112
attribute [go_sem] by112 zero112 row112 sz113 by113 zero113 row113 fld113_0 fld113_1 bld113 sz114 by114
attribute [go_sem] zero114 row114 fld114_0 fld114_1 bld114 sz115 by115 zero115 row115 sz116 by116 zero116
attribute [go_sem] row116 sz117 by117 zero117 row117 sz118 by118 zero118 row118 sz120 by120 zero120
attribute [go_sem] row120 fld120_0 fld120_1 bld120 sz121 by121 zero121 row121 fld121_0 fld121_1 bld121 sz122
attribute [go_sem] by122 zero122 row122 sz123 by123 zero123 row123 sz124 by124 zero124 row124 fld124_0
attribute [go_sem] fld124_1 bld124 sz125 by125 zero125 row125 fld125_0 fld125_1 bld125 sz126 by126 zero126
attribute [go_sem] row126 sz127 by127 zero127 row127 sz128 by128 zero128 row128 sz129 by129 zero129
attribute [go_sem] row129 arr129 bld129 sz130 by130 zero130 row130 sz131 by131 zero131 row131 fld131_0
attribute [go_sem] fld131_1 fld131_2 fld131_3 fld131_4 bld131 sz132 by132 zero132 row132 fld132_0 fld132_1 fld132_2
attribute [go_sem] fld132_3 fld132_4 bld132 sz134 by134 zero134 row134 sz135 by135 zero135 row135 sz136
attribute [go_sem] by136 zero136 row136 sz137 by137 zero137 row137 sz138 by138 zero138 row138 sz139
attribute [go_sem] by139 zero139 row139 sz140 by140 zero140 row140 sz141 by141 zero141 row141 arr141
attribute [go_sem] bld141 sz142 by142 zero142 row142 arr142 bld142 sz143 by143 zero143 row143 sz144
attribute [go_sem] by144 zero144 row144 sz145 by145 zero145 row145 sz147 by147 zero147 row147 sz148
attribute [go_sem] by148 zero148 row148 sz149 by149 zero149 row149 arr149 bld149 sz150 by150 zero150
attribute [go_sem] row150 fld150_0 fld150_1 fld150_2 bld150 sz151 by151 zero151 row151 fld151_0 fld151_1 fld151_2
attribute [go_sem] bld151 sz152 by152 zero152 row152 fld152_0 fld152_1 bld152 sz153 by153 zero153 row153
attribute [go_sem] fld153_0 fld153_1 bld153 sz154 by154 zero154 row154 sz155 by155 zero155 row155 sz156
attribute [go_sem] by156 zero156 row156 sz157 by157 zero157 row157 sz158 by158 zero158 row158 sz159
attribute [go_sem] by159 zero159 row159 sz160 by160 zero160 row160 arr160 bld160 sz161 by161 zero161
attribute [go_sem] row161 arr161 bld161 sz162 by162 zero162 row162 arr162 bld162 sz163 by163 zero163
attribute [go_sem] row163 sz164 by164 zero164 row164 sz165 by165 zero165 row165 sz166 by166 zero166
attribute [go_sem] row166 arr166 bld166 sz167 by167 zero167 row167 arr167 bld167 sz168 by168 zero168
attribute [go_sem] row168 sz169 by169 zero169 row169 sz170 by170 zero170 row170 sz171 by171 zero171
attribute [go_sem] row171 arr171 bld171 sz172 by172 zero172 row172 arr172 bld172 sz173 by173 zero173
attribute [go_sem] row173 sz174 by174 zero174 row174 sz175 by175 zero175 row175 arr175 bld175 sz176
attribute [go_sem] by176 zero176 row176 arr176 bld176 sz177 by177 zero177 row177 sz178 by178 zero178
attribute [go_sem] row178 arr178 bld178 sz179 by179 zero179 row179 sz180 by180 zero180 row180 sz181
attribute [go_sem] by181 zero181 row181 sz182 by182 zero182 row182 sz183 by183 zero183 row183 sz184
attribute [go_sem] by184 zero184 row184 sz185 by185 zero185 row185 sz186 by186 zero186 row186 slc186
attribute [go_sem] sz187 by187 zero187 row187 fld187_0 fld187_1 bld187 sz188 by188 zero188 row188 fld188_0
attribute [go_sem] fld188_1 bld188 sz190 by190 zero190 row190 sz191 by191 zero191 row191 sz192 by192
attribute [go_sem] zero192 row192 sz193 by193 zero193 row193 sz194 by194 zero194 row194 sz195 by195
attribute [go_sem] zero195 row195 fld195_0 fld195_1 bld195 sz196 by196 zero196 row196 fld196_0 fld196_1 bld196
attribute [go_sem] sz198 by198 zero198 row198 sz199 by199 zero199 row199 sz200 by200 zero200 row200
attribute [go_sem] sz201 by201 zero201 row201 sz202 by202 zero202 row202 sz203 by203 zero203 row203
attribute [go_sem] fld203_0 fld203_1 bld203 sz204 by204 zero204 row204 fld204_0 fld204_1 bld204 sz206 by206
attribute [go_sem] zero206 row206 sz207 by207 zero207 row207 sz208 by208 zero208 row208 sz209 by209
attribute [go_sem] zero209 row209 arr209 bld209 sz210 by210 zero210 row210 sz211 by211 zero211 row211
attribute [go_sem] sz213 by213 zero213 row213 sz214 by214 zero214 row214 sz215 by215 zero215 row215
attribute [go_sem] sz217 by217 zero217 row217 sz218 by218 zero218 row218 slc218 sz219 by219 zero219
attribute [go_sem] row219 sz220 by220 zero220 row220 sz221 by221 zero221 row221 arr221 bld221 sz222
attribute [go_sem] by222 zero222 row222 arr222 bld222 sz223 by223 zero223 row223 fld223_0 fld223_1 bld223
attribute [go_sem] sz224 by224 zero224 row224 fld224_0 fld224_1 bld224 sz225 by225 zero225 row225 arr225
attribute [go_sem] bld225 sz226 by226 zero226 row226 sz227 by227 zero227 row227 sz228 by228 zero228
attribute [go_sem] row228 fld228_0 fld228_1 bld228 sz229 by229 zero229 row229 fld229_0 fld229_1 bld229 sz230
attribute [go_sem] by230 zero230 row230 sz231 by231 zero231 row231 sz232 by232 zero232 row232 sz234
attribute [go_sem] by234 zero234 row234 sz235 by235 zero235 row235 fld235_0 fld235_1 bld235 sz236 by236
attribute [go_sem] zero236 row236 fld236_0 fld236_1 bld236 sz237 by237 zero237 row237 arr237 bld237 sz238
attribute [go_sem] by238 zero238 row238 sz239 by239 zero239 row239 fld239_0 fld239_1 bld239 sz240 by240
attribute [go_sem] zero240 row240 fld240_0 fld240_1 bld240 sz241 by241 zero241 row241 arr241 bld241 sz242
attribute [go_sem] by242 zero242 row242 sz243 by243 zero243 row243 sz244 by244 zero244 row244 sz245
attribute [go_sem] by245 zero245 row245 sz246 by246 zero246 row246 sz247 by247 zero247 row247 arr247
attribute [go_sem] bld247 sz249 by249 zero249 row249 sz250 by250 zero250 row250 sz251 by251 zero251
attribute [go_sem] row251 sz253 by253 zero253 row253 sz254 by254 zero254 row254 sz255 by255 zero255
attribute [go_sem] row255 sz256 by256 zero256 row256 sz257 by257 zero257 row257 fld257_0 fld257_1 fld257_2
attribute [go_sem] fld257_3 bld257 sz258 by258 zero258 row258 fld258_0 fld258_1 fld258_2 fld258_3 bld258 sz259
attribute [go_sem] by259 zero259 row259 arr259 bld259 sz260 by260 zero260 row260 fld260_0 bld260 sz261
attribute [go_sem] by261 zero261 row261 fld261_0 bld261 sz262 by262 zero262 row262 sz263 by263 zero263
attribute [go_sem] row263 sz264 by264 zero264 row264 sz265 by265 zero265 row265 sz266 by266 zero266
attribute [go_sem] row266 sz267 by267 zero267 row267 fld267_0 fld267_1 fld267_2 fld267_3 fld267_4 fld267_5 fld267_6
attribute [go_sem] fld267_7 fld267_8 fld267_9 fld267_10 bld267 sz268 by268 zero268 row268 fld268_0 fld268_1 fld268_2
attribute [go_sem] fld268_3 fld268_4 fld268_5 fld268_6 fld268_7 fld268_8 fld268_9 fld268_10 bld268 agt30 agt31 agt37
attribute [go_sem] agt58 agt59 agt109 agt113 agt114 agt124 agt125 agt131 agt132 agt141 agt142 agt160
attribute [go_sem] agt161 agt162 agt166 agt167 agt171 agt172 agt175 agt176 agt178 agt209 agt221 agt225
attribute [go_sem] agt235 agt236 agt241 agt247
attribute [go_sem] Try.underlying0 Try.underlying1 Try.underlying2 Try.underlying3 Try.underlying4 Try.underlying5 Try.underlying6 Try.underlying7 Try.underlying8 Try.underlying9
attribute [go_sem] Try.underlying10 Try.underlying11 Try.underlying12 Try.underlying13 Try.underlying14 Try.underlying15 Try.underlying16 Try.underlying17 Try.underlying18 Try.underlying19
attribute [go_sem] Try.underlying20 Try.underlying21 Try.underlying22 Try.underlying23 Try.underlying24 Try.underlying25 Try.underlying26 Try.underlying27 Try.underlying28 Try.underlying29
attribute [go_sem] Try.underlying30 Try.underlying31 Try.underlying32 Try.underlying33 Try.underlying34 Try.underlying35 Try.underlying36 Try.underlying37 Try.underlying38 Try.underlying39
attribute [go_sem] Try.underlying40 Try.underlying41 Try.underlying42 Try.underlying43 Try.underlying44 Try.underlying45 Try.underlying46 Try.underlying47 Try.underlying48 Try.underlying49
attribute [go_sem] Try.underlying50 Try.underlying51 Try.underlying52 Try.underlying53 Try.underlying54 Try.underlying55 Try.underlying56 Try.underlying57 Try.underlying58 Try.underlying59
attribute [go_sem] Try.underlying60 Try.underlying61 Try.underlying62 Try.underlying63 Try.underlying64 Try.underlying65 Try.underlying66 Try.underlying67 Try.underlying68 Try.underlying69
attribute [go_sem] Try.underlying70 Try.underlying71 Try.underlying72 Try.underlying73 Try.underlying74 Try.underlying75 Try.underlying76 Try.underlying77 Try.underlying78 Try.underlying79
attribute [go_sem] Try.underlying80 Try.underlying81 Try.underlying82 Try.underlying83 Try.underlying84 Try.underlying85 Try.underlying86 Try.underlying87 Try.underlying88 Try.underlying89
attribute [go_sem] Try.underlying90 Try.underlying91 Try.underlying92 Try.underlying93 Try.underlying94 Try.underlying95 Try.underlying96 Try.underlying97 Try.underlying98 Try.underlying99
attribute [go_sem] Try.underlying100 Try.underlying101 Try.underlying102 Try.underlying103 Try.underlying104 Try.underlying105 Try.underlying106 Try.underlying107 Try.underlying108 Try.underlying109
attribute [go_sem] Try.underlying110 Try.underlying111 Try.underlying112 Try.underlying113 Try.underlying114 Try.underlying115 Try.underlying116 Try.underlying117 Try.underlying118 Try.underlying119
attribute [go_sem] Try.underlying120 Try.underlying121 Try.underlying122 Try.underlying123 Try.underlying124 Try.underlying125 Try.underlying126 Try.underlying127 Try.underlying128 Try.underlying129
attribute [go_sem] Try.underlying130 Try.underlying131 Try.underlying132 Try.underlying133 Try.underlying134 Try.underlying135 Try.underlying136 Try.underlying137 Try.underlying138 Try.underlying139
attribute [go_sem] Try.underlying140 Try.underlying141 Try.underlying142 Try.underlying143 Try.underlying144 Try.underlying145 Try.underlying146 Try.underlying147 Try.underlying148 Try.underlying149
attribute [go_sem] Try.underlying150 Try.underlying151 Try.underlying152 Try.underlying153 Try.underlying154 Try.underlying155 Try.underlying156 Try.underlying157 Try.underlying158 Try.underlying159
attribute [go_sem] Try.underlying160 Try.underlying161 Try.underlying162 Try.underlying163 Try.underlying164 Try.underlying165 Try.underlying166 Try.underlying167 Try.underlying168 Try.underlying169
attribute [go_sem] Try.underlying170 Try.underlying171 Try.underlying172 Try.underlying173 Try.underlying174 Try.underlying175 Try.underlying176 Try.underlying177 Try.underlying178 Try.underlying179
attribute [go_sem] Try.underlying180 Try.underlying181 Try.underlying182 Try.underlying183 Try.underlying184 Try.underlying185 Try.underlying186 Try.underlying187 Try.underlying188 Try.underlying189
attribute [go_sem] Try.underlying190 Try.underlying191 Try.underlying192 Try.underlying193 Try.underlying194 Try.underlying195 Try.underlying196 Try.underlying197 Try.underlying198 Try.underlying199
attribute [go_sem] Try.underlying200 Try.underlying201 Try.underlying202 Try.underlying203 Try.underlying204 Try.underlying205 Try.underlying206 Try.underlying207 Try.underlying208 Try.underlying209
attribute [go_sem] Try.underlying210 Try.underlying211 Try.underlying212 Try.underlying213 Try.underlying214 Try.underlying215 Try.underlying216 Try.underlying217 Try.underlying218 Try.underlying219
attribute [go_sem] Try.underlying220 Try.underlying221 Try.underlying222 Try.underlying223 Try.underlying224 Try.underlying225 Try.underlying226 Try.underlying227 Try.underlying228 Try.underlying229
attribute [go_sem] Try.underlying230 Try.underlying231 Try.underlying232 Try.underlying233 Try.underlying234 Try.underlying235 Try.underlying236 Try.underlying237 Try.underlying238 Try.underlying239
attribute [go_sem] Try.underlying240 Try.underlying241 Try.underlying242 Try.underlying243 Try.underlying244 Try.underlying245 Try.underlying246 Try.underlying247 Try.underlying248 Try.underlying249
attribute [go_sem] Try.underlying250 Try.underlying251 Try.underlying252 Try.underlying253 Try.underlying254 Try.underlying255 Try.underlying256 Try.underlying257 Try.underlying258 Try.underlying259
attribute [go_sem] Try.underlying260 Try.underlying261 Try.underlying262 Try.underlying263 Try.underlying264 Try.underlying265 Try.underlying266 Try.underlying267 Try.underlying268
attribute [go_sem] Try.results3 Try.ntmps3 Try.results4 Try.ntmps4 Try.results5 Try.ntmps5 Try.results6 Try.ntmps6 Try.results7 Try.ntmps7 Try.results8 Try.ntmps8 Try.results9 Try.ntmps9 Try.results10 Try.ntmps10 Try.results11 Try.ntmps11 Try.results12 Try.ntmps12
attribute [go_sem] Try.results13 Try.ntmps13 Try.results14 Try.ntmps14 Try.results15 Try.ntmps15 Try.results16 Try.ntmps16 Try.results17 Try.ntmps17 Try.results18 Try.ntmps18 Try.results19 Try.ntmps19 Try.results20 Try.ntmps20 Try.results21 Try.ntmps21 Try.results22 Try.ntmps22
attribute [go_sem] Try.results23 Try.ntmps23 Try.results24 Try.ntmps24 Try.results25 Try.ntmps25 Try.results26 Try.ntmps26 Try.results27 Try.ntmps27 Try.results28 Try.ntmps28 Try.results29 Try.ntmps29 Try.results30 Try.ntmps30 Try.results31 Try.ntmps31 Try.results32 Try.ntmps32
attribute [go_sem] Try.results33 Try.ntmps33 Try.results34 Try.ntmps34 Try.results35 Try.ntmps35 Try.results36 Try.ntmps36 Try.results37 Try.ntmps37 Try.results38 Try.ntmps38 Try.results39 Try.ntmps39 Try.results40 Try.ntmps40 Try.results41 Try.ntmps41 Try.results42 Try.ntmps42
attribute [go_sem] Try.results43 Try.ntmps43 Try.results44 Try.ntmps44 Try.results45 Try.ntmps45 Try.results46 Try.ntmps46 Try.results47 Try.ntmps47 Try.results48 Try.ntmps48 Try.results49 Try.ntmps49 Try.results50 Try.ntmps50 Try.results51 Try.ntmps51 Try.results52 Try.ntmps52
attribute [go_sem] Try.results53 Try.ntmps53 Try.results54 Try.ntmps54 Try.results55 Try.ntmps55 Try.results56 Try.ntmps56 Try.results57 Try.ntmps57 Try.results58 Try.ntmps58 Try.results59 Try.ntmps59 Try.results60 Try.ntmps60 Try.results61 Try.ntmps61 Try.results62 Try.ntmps62
attribute [go_sem] Try.results63 Try.ntmps63 Try.results64 Try.ntmps64 Try.results65 Try.ntmps65 Try.results66 Try.ntmps66 Try.results67 Try.ntmps67 Try.results68 Try.ntmps68 Try.results69 Try.ntmps69 Try.results70 Try.ntmps70 Try.results71 Try.ntmps71 Try.results72 Try.ntmps72
attribute [go_sem] Try.results73 Try.ntmps73 Try.results74 Try.ntmps74 Try.results75 Try.ntmps75 Try.results76 Try.ntmps76 Try.results77 Try.ntmps77 Try.results78 Try.ntmps78 Try.results79 Try.ntmps79 Try.results80 Try.ntmps80 Try.results81 Try.ntmps81 Try.results82 Try.ntmps82
attribute [go_sem] Try.results83 Try.ntmps83 Try.results84 Try.ntmps84 Try.results85 Try.ntmps85 Try.results86 Try.ntmps86 Try.results87 Try.ntmps87 Try.results88 Try.ntmps88 Try.results89 Try.ntmps89 Try.results90 Try.ntmps90 Try.results91 Try.ntmps91 Try.results92 Try.ntmps92
attribute [go_sem] Try.results93 Try.ntmps93 Try.results94 Try.ntmps94 Try.results95 Try.ntmps95 Try.results96 Try.ntmps96 Try.results97 Try.ntmps97 Try.results98 Try.ntmps98 Try.results99 Try.ntmps99 Try.results100 Try.ntmps100 Try.results101 Try.ntmps101 Try.results102 Try.ntmps102
attribute [go_sem] Try.results103 Try.ntmps103 Try.results104 Try.ntmps104 Try.results105 Try.ntmps105 Try.results106 Try.ntmps106 Try.results107 Try.ntmps107 Try.results108 Try.ntmps108 Try.results109 Try.ntmps109 Try.results110 Try.ntmps110 Try.results111 Try.ntmps111 Try.results112 Try.ntmps112
attribute [go_sem] Try.results113 Try.ntmps113 Try.results114 Try.ntmps114 Try.results115 Try.ntmps115 Try.results116 Try.ntmps116 Try.results117 Try.ntmps117 Try.results118 Try.ntmps118 Try.results119 Try.ntmps119 Try.results120 Try.ntmps120 Try.results121 Try.ntmps121 Try.results122 Try.ntmps122
attribute [go_sem] Try.results123 Try.ntmps123 Try.results124 Try.ntmps124 Try.results125 Try.ntmps125 Try.results126 Try.ntmps126 Try.results127 Try.ntmps127 Try.results128 Try.ntmps128 Try.results129 Try.ntmps129 Try.results130 Try.ntmps130 Try.results131 Try.ntmps131 Try.results132 Try.ntmps132
attribute [go_sem] Try.results133 Try.ntmps133 Try.results134 Try.ntmps134 Try.results135 Try.ntmps135 Try.results136 Try.ntmps136 Try.results137 Try.ntmps137 Try.results138 Try.ntmps138 Try.results139 Try.ntmps139 Try.results140 Try.ntmps140 Try.results141 Try.ntmps141 Try.results142 Try.ntmps142
attribute [go_sem] Try.results143 Try.ntmps143 Try.results144 Try.ntmps144 Try.results145 Try.ntmps145 Try.results146 Try.ntmps146 Try.results147 Try.ntmps147 Try.results148 Try.ntmps148 Try.results149 Try.ntmps149 Try.results150 Try.ntmps150 Try.results151 Try.ntmps151 Try.results152 Try.ntmps152
attribute [go_sem] Try.results153 Try.ntmps153 Try.results154 Try.ntmps154 Try.results155 Try.ntmps155 Try.results156 Try.ntmps156 Try.results157 Try.ntmps157 Try.results158 Try.ntmps158 Try.results159 Try.ntmps159 Try.results160 Try.ntmps160 Try.results161 Try.ntmps161 Try.results162 Try.ntmps162
attribute [go_sem] Try.results163 Try.ntmps163 Try.results164 Try.ntmps164 Try.results165 Try.ntmps165 Try.results166 Try.ntmps166 Try.results167 Try.ntmps167 Try.results168 Try.ntmps168 Try.results169 Try.ntmps169 Try.results170 Try.ntmps170 Try.results171 Try.ntmps171 Try.results172 Try.ntmps172
attribute [go_sem] Try.results173 Try.ntmps173 Try.results174 Try.ntmps174 Try.results175 Try.ntmps175 Try.results176 Try.ntmps176 Try.results177 Try.ntmps177 Try.results178 Try.ntmps178 Try.results179 Try.ntmps179 Try.results180 Try.ntmps180 Try.results181 Try.ntmps181 Try.results182 Try.ntmps182
attribute [go_sem] Try.results183 Try.ntmps183 Try.results184 Try.ntmps184 Try.results185 Try.ntmps185 Try.results186 Try.ntmps186 Try.results187 Try.ntmps187 Try.results188 Try.ntmps188 Try.results189 Try.ntmps189 Try.results190 Try.ntmps190 Try.results191 Try.ntmps191 Try.results192 Try.ntmps192
attribute [go_sem] Try.results193 Try.ntmps193 Try.results194 Try.ntmps194 Try.results195 Try.ntmps195 Try.results196 Try.ntmps196 Try.results197 Try.ntmps197 Try.results198 Try.ntmps198 Try.results199 Try.ntmps199 Try.results200 Try.ntmps200 Try.results201 Try.ntmps201 Try.results202 Try.ntmps202
attribute [go_sem] Try.results203 Try.ntmps203 Try.results204 Try.ntmps204 Try.results205 Try.ntmps205 Try.results206 Try.ntmps206 Try.results207 Try.ntmps207 Try.results208 Try.ntmps208 Try.results209 Try.ntmps209 Try.results210 Try.ntmps210 Try.results211 Try.ntmps211 Try.results212 Try.ntmps212
attribute [go_sem] Try.results213 Try.ntmps213 Try.results214 Try.ntmps214 Try.results215 Try.ntmps215 Try.results216 Try.ntmps216 Try.results217 Try.ntmps217 Try.results218 Try.ntmps218 Try.results219 Try.ntmps219 Try.results220 Try.ntmps220 Try.results221 Try.ntmps221 Try.results222 Try.ntmps222
attribute [go_sem] Try.results223 Try.ntmps223 Try.results224 Try.ntmps224 Try.results225 Try.ntmps225 Try.results226 Try.ntmps226 Try.results227 Try.ntmps227 Try.results228 Try.ntmps228 Try.results229 Try.ntmps229 Try.results230 Try.ntmps230 Try.results231 Try.ntmps231 Try.results232 Try.ntmps232
attribute [go_sem] Try.results233 Try.ntmps233 Try.results234 Try.ntmps234 Try.results235 Try.ntmps235 Try.results236 Try.ntmps236 Try.results237 Try.ntmps237 Try.results238 Try.ntmps238 Try.results239 Try.ntmps239 Try.results240 Try.ntmps240 Try.results241 Try.ntmps241 Try.results242 Try.ntmps242
attribute [go_sem] Try.results243 Try.ntmps243 Try.results244 Try.ntmps244 Try.results245 Try.ntmps245 Try.results246 Try.ntmps246 Try.results247 Try.ntmps247 Try.results248 Try.ntmps248 Try.results249 Try.ntmps249 Try.results250 Try.ntmps250 Try.results251 Try.ntmps251 Try.results252 Try.ntmps252
attribute [go_sem] Try.results253 Try.ntmps253 Try.results254 Try.ntmps254
end Go.Vm.Ty
