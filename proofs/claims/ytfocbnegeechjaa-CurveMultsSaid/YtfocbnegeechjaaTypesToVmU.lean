/- A part of the proof: laws of a small machine of values, or what one function answers, proved against the model; no conditions beyond those in each theorem. -/
import Derived.Test.YtfocbnegeechjaaProg
import Derived.Test.YtfocbnegeechjaaVmT
import Derived.Test.YtfocbnegeechjaaVmZToVmP3
set_option linter.unusedVariables false
set_option linter.unusedSimpArgs false
set_option linter.unusedSectionVars false
section
namespace Go.Vm.Ty
open Go.Proofs
set_option maxRecDepth 100000
theorem sz1 : szOf Try.prog 1 = some 1 := by kernel_rfl
theorem by1 : byOf Try.prog 1 = some 8 := by kernel_rfl
theorem zero1 : zeroOf Try.prog 1 = some [.nilFn] := by kernel_rfl
theorem row1 : isRowT Try.prog 1 = some false := by kernel_rfl
theorem sz2 : szOf Try.prog 2 = some 1 := by kernel_rfl
theorem by2 : byOf Try.prog 2 = some 8 := by kernel_rfl
theorem zero2 : zeroOf Try.prog 2 = some [.i64 0] := by kernel_rfl
theorem row2 : isRowT Try.prog 2 = some false := by kernel_rfl
theorem sz3 : szOf Try.prog 3 = some 1 := by kernel_rfl
theorem by3 : byOf Try.prog 3 = some 8 := by kernel_rfl
theorem zero3 : zeroOf Try.prog 3 = some [.i64 0] := by kernel_rfl
theorem row3 : isRowT Try.prog 3 = some false := by kernel_rfl
theorem sz4 : szOf Try.prog 4 = some 1 := by kernel_rfl
theorem by4 : byOf Try.prog 4 = some 1 := by kernel_rfl
theorem zero4 : zeroOf Try.prog 4 = some [.bool false] := by kernel_rfl
theorem row4 : isRowT Try.prog 4 = some false := by kernel_rfl
theorem sz5 : szOf Try.prog 5 = some 1 := by kernel_rfl
theorem by5 : byOf Try.prog 5 = some 1 := by kernel_rfl
theorem zero5 : zeroOf Try.prog 5 = some [.u8 0#8] := by kernel_rfl
theorem row5 : isRowT Try.prog 5 = some false := by kernel_rfl
theorem sz6 : szOf Try.prog 6 = some 1 := by kernel_rfl
theorem by6 : byOf Try.prog 6 = some 1 := by kernel_rfl
theorem zero6 : zeroOf Try.prog 6 = some [.u8 0#8] := by kernel_rfl
theorem row6 : isRowT Try.prog 6 = some false := by kernel_rfl
theorem sz7 : szOf Try.prog 7 = some 4 := by kernel_rfl
theorem by7 : byOf Try.prog 7 = some 24 := by kernel_rfl
theorem zero7 : zeroOf Try.prog 7 = some [.i64 0, .i64 0, .bool false, .u8 0#8] := by kernel_rfl
theorem row7 : isRowT Try.prog 7 = some true := by kernel_rfl
theorem fld7_0 : fldOf Try.prog 7 0 = some (0, 2) := by kernel_rfl
theorem fld7_1 : fldOf Try.prog 7 1 = some (1, 3) := by kernel_rfl
theorem fld7_2 : fldOf Try.prog 7 2 = some (2, 4) := by kernel_rfl
theorem fld7_3 : fldOf Try.prog 7 3 = some (3, 6) := by kernel_rfl
theorem bld7 : buildT Try.prog 7 = some ([.i64 0, .i64 0, .bool false, .u8 0#8], .inl [(0, 1), (1, 1), (2, 1), (3, 1)]) := by kernel_rfl
theorem sz8 : szOf Try.prog 8 = some 4 := by kernel_rfl
theorem by8 : byOf Try.prog 8 = some 24 := by kernel_rfl
theorem zero8 : zeroOf Try.prog 8 = some [.i64 0, .i64 0, .bool false, .u8 0#8] := by kernel_rfl
theorem row8 : isRowT Try.prog 8 = some true := by kernel_rfl
theorem fld8_0 : fldOf Try.prog 8 0 = some (0, 2) := by kernel_rfl
theorem fld8_1 : fldOf Try.prog 8 1 = some (1, 3) := by kernel_rfl
theorem fld8_2 : fldOf Try.prog 8 2 = some (2, 4) := by kernel_rfl
theorem fld8_3 : fldOf Try.prog 8 3 = some (3, 6) := by kernel_rfl
theorem bld8 : buildT Try.prog 8 = some ([.i64 0, .i64 0, .bool false, .u8 0#8], .inl [(0, 1), (1, 1), (2, 1), (3, 1)]) := by kernel_rfl
theorem sz9 : szOf Try.prog 9 = some 1 := by kernel_rfl
theorem by9 : byOf Try.prog 9 = some 16 := by kernel_rfl
theorem zero9 : zeroOf Try.prog 9 = some [.str []] := by kernel_rfl
theorem row9 : isRowT Try.prog 9 = some false := by kernel_rfl
theorem sz10 : szOf Try.prog 10 = some 1 := by kernel_rfl
theorem by10 : byOf Try.prog 10 = some 16 := by kernel_rfl
theorem zero10 : zeroOf Try.prog 10 = some [.str []] := by kernel_rfl
theorem row10 : isRowT Try.prog 10 = some false := by kernel_rfl
theorem sz11 : szOf Try.prog 11 = some 1 := by kernel_rfl
theorem by11 : byOf Try.prog 11 = some 16 := by kernel_rfl
theorem zero11 : zeroOf Try.prog 11 = some [.str []] := by kernel_rfl
theorem row11 : isRowT Try.prog 11 = some false := by kernel_rfl
theorem sz12 : szOf Try.prog 12 = some 1 := by kernel_rfl
theorem by12 : byOf Try.prog 12 = some 8 := by kernel_rfl
theorem zero12 : zeroOf Try.prog 12 = some [.u64 0#64] := by kernel_rfl
theorem row12 : isRowT Try.prog 12 = some false := by kernel_rfl
theorem sz13 : szOf Try.prog 13 = some 2 := by kernel_rfl
theorem by13 : byOf Try.prog 13 = some 24 := by kernel_rfl
theorem zero13 : zeroOf Try.prog 13 = some [.str [], .u64 0#64] := by kernel_rfl
theorem row13 : isRowT Try.prog 13 = some true := by kernel_rfl
theorem fld13_0 : fldOf Try.prog 13 0 = some (0, 9) := by kernel_rfl
theorem fld13_1 : fldOf Try.prog 13 1 = some (1, 12) := by kernel_rfl
theorem bld13 : buildT Try.prog 13 = some ([.str [], .u64 0#64], .inl [(0, 1), (1, 1)]) := by kernel_rfl
theorem sz14 : szOf Try.prog 14 = some 2 := by kernel_rfl
theorem by14 : byOf Try.prog 14 = some 24 := by kernel_rfl
theorem zero14 : zeroOf Try.prog 14 = some [.str [], .u64 0#64] := by kernel_rfl
theorem row14 : isRowT Try.prog 14 = some true := by kernel_rfl
theorem fld14_0 : fldOf Try.prog 14 0 = some (0, 9) := by kernel_rfl
theorem fld14_1 : fldOf Try.prog 14 1 = some (1, 12) := by kernel_rfl
theorem bld14 : buildT Try.prog 14 = some ([.str [], .u64 0#64], .inl [(0, 1), (1, 1)]) := by kernel_rfl
theorem sz15 : szOf Try.prog 15 = some 1 := by kernel_rfl
theorem by15 : byOf Try.prog 15 = some 8 := by kernel_rfl
theorem zero15 : zeroOf Try.prog 15 = some [.nilPtr] := by kernel_rfl
theorem row15 : isRowT Try.prog 15 = some false := by kernel_rfl
theorem sz16 : szOf Try.prog 16 = some 1 := by kernel_rfl
theorem by16 : byOf Try.prog 16 = some 8 := by kernel_rfl
theorem zero16 : zeroOf Try.prog 16 = some [.nilPtr] := by kernel_rfl
theorem row16 : isRowT Try.prog 16 = some false := by kernel_rfl
theorem sz17 : szOf Try.prog 17 = some 1 := by kernel_rfl
theorem by17 : byOf Try.prog 17 = some 8 := by kernel_rfl
theorem zero17 : zeroOf Try.prog 17 = some [.nilPtr] := by kernel_rfl
theorem row17 : isRowT Try.prog 17 = some false := by kernel_rfl
theorem sz18 : szOf Try.prog 18 = some 1 := by kernel_rfl
theorem by18 : byOf Try.prog 18 = some 8 := by kernel_rfl
theorem zero18 : zeroOf Try.prog 18 = some [.nilPtr] := by kernel_rfl
theorem row18 : isRowT Try.prog 18 = some true := by kernel_rfl
theorem fld18_0 : fldOf Try.prog 18 0 = some (0, 17) := by kernel_rfl
theorem bld18 : buildT Try.prog 18 = some ([.nilPtr], .inl [(0, 1)]) := by kernel_rfl
theorem sz19 : szOf Try.prog 19 = some 1 := by kernel_rfl
theorem by19 : byOf Try.prog 19 = some 8 := by kernel_rfl
theorem zero19 : zeroOf Try.prog 19 = some [.nilPtr] := by kernel_rfl
theorem row19 : isRowT Try.prog 19 = some true := by kernel_rfl
theorem fld19_0 : fldOf Try.prog 19 0 = some (0, 17) := by kernel_rfl
theorem bld19 : buildT Try.prog 19 = some ([.nilPtr], .inl [(0, 1)]) := by kernel_rfl
theorem sz20 : szOf Try.prog 20 = some 1 := by kernel_rfl
theorem by20 : byOf Try.prog 20 = some 16 := by kernel_rfl
theorem zero20 : zeroOf Try.prog 20 = some [.nilIface] := by kernel_rfl
theorem row20 : isRowT Try.prog 20 = some false := by kernel_rfl
theorem sz21 : szOf Try.prog 21 = some 1 := by kernel_rfl
theorem by21 : byOf Try.prog 21 = some 4 := by kernel_rfl
theorem zero21 : zeroOf Try.prog 21 = some [.i32 0] := by kernel_rfl
theorem row21 : isRowT Try.prog 21 = some false := by kernel_rfl
theorem sz22 : szOf Try.prog 22 = some 1 := by kernel_rfl
theorem by22 : byOf Try.prog 22 = some 8 := by kernel_rfl
theorem zero22 : zeroOf Try.prog 22 = some [.i64 0] := by kernel_rfl
theorem row22 : isRowT Try.prog 22 = some false := by kernel_rfl
theorem sz24 : szOf Try.prog 24 = some 1 := by kernel_rfl
theorem by24 : byOf Try.prog 24 = some 8 := by kernel_rfl
theorem zero24 : zeroOf Try.prog 24 = some [.nilFn] := by kernel_rfl
theorem row24 : isRowT Try.prog 24 = some false := by kernel_rfl
theorem sz25 : szOf Try.prog 25 = some 1 := by kernel_rfl
theorem by25 : byOf Try.prog 25 = some 8 := by kernel_rfl
theorem zero25 : zeroOf Try.prog 25 = some [.nilFn] := by kernel_rfl
theorem row25 : isRowT Try.prog 25 = some false := by kernel_rfl
theorem sz26 : szOf Try.prog 26 = some 1 := by kernel_rfl
theorem by26 : byOf Try.prog 26 = some 8 := by kernel_rfl
theorem zero26 : zeroOf Try.prog 26 = some [.nilFn] := by kernel_rfl
theorem row26 : isRowT Try.prog 26 = some false := by kernel_rfl
theorem sz27 : szOf Try.prog 27 = some 1 := by kernel_rfl
theorem by27 : byOf Try.prog 27 = some 8 := by kernel_rfl
theorem zero27 : zeroOf Try.prog 27 = some [.nilFn] := by kernel_rfl
theorem row27 : isRowT Try.prog 27 = some false := by kernel_rfl
theorem sz28 : szOf Try.prog 28 = some 1 := by kernel_rfl
theorem by28 : byOf Try.prog 28 = some 8 := by kernel_rfl
theorem zero28 : zeroOf Try.prog 28 = some [.nilFn] := by kernel_rfl
theorem row28 : isRowT Try.prog 28 = some false := by kernel_rfl
theorem sz29 : szOf Try.prog 29 = some 1 := by kernel_rfl
theorem by29 : byOf Try.prog 29 = some 8 := by kernel_rfl
theorem zero29 : zeroOf Try.prog 29 = some [.u64 0#64] := by kernel_rfl
theorem row29 : isRowT Try.prog 29 = some false := by kernel_rfl
theorem sz30 : szOf Try.prog 30 = some 1 := by kernel_rfl
theorem by30 : byOf Try.prog 30 = some 8 := by kernel_rfl
theorem zero30 : zeroOf Try.prog 30 = some [.nilFn] := by kernel_rfl
theorem row30 : isRowT Try.prog 30 = some false := by kernel_rfl
theorem sz31 : szOf Try.prog 31 = some 1 := by kernel_rfl
theorem by31 : byOf Try.prog 31 = some 8 := by kernel_rfl
theorem zero31 : zeroOf Try.prog 31 = some [.nilFn] := by kernel_rfl
theorem row31 : isRowT Try.prog 31 = some false := by kernel_rfl
theorem sz32 : szOf Try.prog 32 = some 1 := by kernel_rfl
theorem by32 : byOf Try.prog 32 = some 24 := by kernel_rfl
theorem zero32 : zeroOf Try.prog 32 = some [.nilSlice] := by kernel_rfl
theorem row32 : isRowT Try.prog 32 = some false := by kernel_rfl
theorem slc32 : sliceT Try.prog 32 = some 44 := by kernel_rfl
theorem sz33 : szOf Try.prog 33 = some 1 := by kernel_rfl
theorem by33 : byOf Try.prog 33 = some 24 := by kernel_rfl
theorem zero33 : zeroOf Try.prog 33 = some [.nilSlice] := by kernel_rfl
theorem row33 : isRowT Try.prog 33 = some false := by kernel_rfl
theorem slc33 : sliceT Try.prog 33 = some 40 := by kernel_rfl
theorem sz34 : szOf Try.prog 34 = some 1 := by kernel_rfl
theorem by34 : byOf Try.prog 34 = some 8 := by kernel_rfl
theorem zero34 : zeroOf Try.prog 34 = some [.nilPtr] := by kernel_rfl
theorem row34 : isRowT Try.prog 34 = some false := by kernel_rfl
theorem sz35 : szOf Try.prog 35 = some 1 := by kernel_rfl
theorem by35 : byOf Try.prog 35 = some 8 := by kernel_rfl
theorem zero35 : zeroOf Try.prog 35 = some [.nilFn] := by kernel_rfl
theorem row35 : isRowT Try.prog 35 = some false := by kernel_rfl
theorem sz36 : szOf Try.prog 36 = some 1 := by kernel_rfl
theorem by36 : byOf Try.prog 36 = some 8 := by kernel_rfl
theorem zero36 : zeroOf Try.prog 36 = some [.nilPtr] := by kernel_rfl
theorem row36 : isRowT Try.prog 36 = some false := by kernel_rfl
theorem sz37 : szOf Try.prog 37 = some 1 := by kernel_rfl
theorem by37 : byOf Try.prog 37 = some 24 := by kernel_rfl
theorem zero37 : zeroOf Try.prog 37 = some [.nilSlice] := by kernel_rfl
theorem row37 : isRowT Try.prog 37 = some false := by kernel_rfl
theorem slc37 : sliceT Try.prog 37 = some 51 := by kernel_rfl
theorem sz38 : szOf Try.prog 38 = some 1 := by kernel_rfl
theorem by38 : byOf Try.prog 38 = some 24 := by kernel_rfl
theorem zero38 : zeroOf Try.prog 38 = some [.nilSlice] := by kernel_rfl
theorem row38 : isRowT Try.prog 38 = some true := by kernel_rfl
theorem fld38_0 : fldOf Try.prog 38 0 = some (0, 37) := by kernel_rfl
theorem bld38 : buildT Try.prog 38 = some ([.nilSlice], .inl [(0, 1)]) := by kernel_rfl
theorem sz39 : szOf Try.prog 39 = some 1 := by kernel_rfl
theorem by39 : byOf Try.prog 39 = some 24 := by kernel_rfl
theorem zero39 : zeroOf Try.prog 39 = some [.nilSlice] := by kernel_rfl
theorem row39 : isRowT Try.prog 39 = some true := by kernel_rfl
theorem fld39_0 : fldOf Try.prog 39 0 = some (0, 37) := by kernel_rfl
theorem bld39 : buildT Try.prog 39 = some ([.nilSlice], .inl [(0, 1)]) := by kernel_rfl
theorem sz40 : szOf Try.prog 40 = some 1 := by kernel_rfl
theorem by40 : byOf Try.prog 40 = some 4 := by kernel_rfl
theorem zero40 : zeroOf Try.prog 40 = some [.u32 0#32] := by kernel_rfl
theorem row40 : isRowT Try.prog 40 = some false := by kernel_rfl
theorem sz41 : szOf Try.prog 41 = some 2 := by kernel_rfl
theorem by41 : byOf Try.prog 41 = some 16 := by kernel_rfl
theorem zero41 : zeroOf Try.prog 41 = some [.u32 0#32, .i64 0] := by kernel_rfl
theorem row41 : isRowT Try.prog 41 = some true := by kernel_rfl
theorem fld41_0 : fldOf Try.prog 41 0 = some (0, 40) := by kernel_rfl
theorem fld41_1 : fldOf Try.prog 41 1 = some (1, 3) := by kernel_rfl
theorem bld41 : buildT Try.prog 41 = some ([.u32 0#32, .i64 0], .inl [(0, 1), (1, 1)]) := by kernel_rfl
theorem sz42 : szOf Try.prog 42 = some 2 := by kernel_rfl
theorem by42 : byOf Try.prog 42 = some 16 := by kernel_rfl
theorem zero42 : zeroOf Try.prog 42 = some [.u32 0#32, .i64 0] := by kernel_rfl
theorem row42 : isRowT Try.prog 42 = some true := by kernel_rfl
theorem fld42_0 : fldOf Try.prog 42 0 = some (0, 40) := by kernel_rfl
theorem fld42_1 : fldOf Try.prog 42 1 = some (1, 3) := by kernel_rfl
theorem bld42 : buildT Try.prog 42 = some ([.u32 0#32, .i64 0], .inl [(0, 1), (1, 1)]) := by kernel_rfl
theorem sz43 : szOf Try.prog 43 = some 8 := by kernel_rfl
theorem by43 : byOf Try.prog 43 = some 64 := by kernel_rfl
theorem zero43 : zeroOf Try.prog 43 = some [.i64 0, .i64 0, .i64 0, .u32 0#32, .u32 0#32, .str [], .u32 0#32, .i64 0] := by kernel_rfl
theorem row43 : isRowT Try.prog 43 = some true := by kernel_rfl
theorem fld43_0 : fldOf Try.prog 43 0 = some (0, 3) := by kernel_rfl
theorem fld43_1 : fldOf Try.prog 43 1 = some (1, 3) := by kernel_rfl
theorem fld43_2 : fldOf Try.prog 43 2 = some (2, 3) := by kernel_rfl
theorem fld43_3 : fldOf Try.prog 43 3 = some (3, 40) := by kernel_rfl
theorem fld43_4 : fldOf Try.prog 43 4 = some (4, 40) := by kernel_rfl
theorem fld43_5 : fldOf Try.prog 43 5 = some (5, 9) := by kernel_rfl
theorem fld43_6 : fldOf Try.prog 43 6 = some (6, 42) := by kernel_rfl
theorem bld43 : buildT Try.prog 43 = some ([.i64 0, .i64 0, .i64 0, .u32 0#32, .u32 0#32, .str [], .u32 0#32, .i64 0], .inl [(0, 1), (1, 1), (2, 1), (3, 1), (4, 1), (5, 1), (6, 2)]) := by kernel_rfl
theorem sz44 : szOf Try.prog 44 = some 8 := by kernel_rfl
theorem by44 : byOf Try.prog 44 = some 64 := by kernel_rfl
theorem zero44 : zeroOf Try.prog 44 = some [.i64 0, .i64 0, .i64 0, .u32 0#32, .u32 0#32, .str [], .u32 0#32, .i64 0] := by kernel_rfl
theorem row44 : isRowT Try.prog 44 = some true := by kernel_rfl
theorem fld44_0 : fldOf Try.prog 44 0 = some (0, 3) := by kernel_rfl
theorem fld44_1 : fldOf Try.prog 44 1 = some (1, 3) := by kernel_rfl
theorem fld44_2 : fldOf Try.prog 44 2 = some (2, 3) := by kernel_rfl
theorem fld44_3 : fldOf Try.prog 44 3 = some (3, 40) := by kernel_rfl
theorem fld44_4 : fldOf Try.prog 44 4 = some (4, 40) := by kernel_rfl
theorem fld44_5 : fldOf Try.prog 44 5 = some (5, 9) := by kernel_rfl
theorem fld44_6 : fldOf Try.prog 44 6 = some (6, 42) := by kernel_rfl
theorem bld44 : buildT Try.prog 44 = some ([.i64 0, .i64 0, .i64 0, .u32 0#32, .u32 0#32, .str [], .u32 0#32, .i64 0], .inl [(0, 1), (1, 1), (2, 1), (3, 1), (4, 1), (5, 1), (6, 2)]) := by kernel_rfl
theorem sz45 : szOf Try.prog 45 = some 1 := by kernel_rfl
theorem by45 : byOf Try.prog 45 = some 8 := by kernel_rfl
theorem zero45 : zeroOf Try.prog 45 = some [.nilFn] := by kernel_rfl
theorem row45 : isRowT Try.prog 45 = some false := by kernel_rfl
theorem sz46 : szOf Try.prog 46 = some 1 := by kernel_rfl
theorem by46 : byOf Try.prog 46 = some 8 := by kernel_rfl
theorem zero46 : zeroOf Try.prog 46 = some [.nilFn] := by kernel_rfl
theorem row46 : isRowT Try.prog 46 = some false := by kernel_rfl
theorem sz48 : szOf Try.prog 48 = some 1 := by kernel_rfl
theorem by48 : byOf Try.prog 48 = some 8 := by kernel_rfl
theorem zero48 : zeroOf Try.prog 48 = some [.nilFn] := by kernel_rfl
theorem row48 : isRowT Try.prog 48 = some false := by kernel_rfl
theorem sz49 : szOf Try.prog 49 = some 1 := by kernel_rfl
theorem by49 : byOf Try.prog 49 = some 8 := by kernel_rfl
theorem zero49 : zeroOf Try.prog 49 = some [.nilFn] := by kernel_rfl
theorem row49 : isRowT Try.prog 49 = some false := by kernel_rfl
theorem sz50 : szOf Try.prog 50 = some 3 := by kernel_rfl
theorem by50 : byOf Try.prog 50 = some 24 := by kernel_rfl
theorem zero50 : zeroOf Try.prog 50 = some [.u32 0#32, .i64 0, .i64 0] := by kernel_rfl
theorem row50 : isRowT Try.prog 50 = some true := by kernel_rfl
theorem fld50_0 : fldOf Try.prog 50 0 = some (0, 42) := by kernel_rfl
theorem fld50_1 : fldOf Try.prog 50 1 = some (2, 3) := by kernel_rfl
theorem bld50 : buildT Try.prog 50 = some ([.u32 0#32, .i64 0, .i64 0], .inl [(0, 2), (2, 1)]) := by kernel_rfl
theorem sz51 : szOf Try.prog 51 = some 3 := by kernel_rfl
theorem by51 : byOf Try.prog 51 = some 24 := by kernel_rfl
theorem zero51 : zeroOf Try.prog 51 = some [.u32 0#32, .i64 0, .i64 0] := by kernel_rfl
theorem row51 : isRowT Try.prog 51 = some true := by kernel_rfl
theorem fld51_0 : fldOf Try.prog 51 0 = some (0, 42) := by kernel_rfl
theorem fld51_1 : fldOf Try.prog 51 1 = some (2, 3) := by kernel_rfl
theorem bld51 : buildT Try.prog 51 = some ([.u32 0#32, .i64 0, .i64 0], .inl [(0, 2), (2, 1)]) := by kernel_rfl
theorem sz52 : szOf Try.prog 52 = some 1 := by kernel_rfl
theorem by52 : byOf Try.prog 52 = some 8 := by kernel_rfl
theorem zero52 : zeroOf Try.prog 52 = some [.nilFn] := by kernel_rfl
theorem row52 : isRowT Try.prog 52 = some false := by kernel_rfl
theorem sz53 : szOf Try.prog 53 = some 1 := by kernel_rfl
theorem by53 : byOf Try.prog 53 = some 8 := by kernel_rfl
theorem zero53 : zeroOf Try.prog 53 = some [.nilFn] := by kernel_rfl
theorem row53 : isRowT Try.prog 53 = some false := by kernel_rfl
theorem sz54 : szOf Try.prog 54 = some 1 := by kernel_rfl
theorem by54 : byOf Try.prog 54 = some 8 := by kernel_rfl
theorem zero54 : zeroOf Try.prog 54 = some [.nilPtr] := by kernel_rfl
theorem row54 : isRowT Try.prog 54 = some false := by kernel_rfl
theorem sz55 : szOf Try.prog 55 = some 1 := by kernel_rfl
theorem by55 : byOf Try.prog 55 = some 8 := by kernel_rfl
theorem zero55 : zeroOf Try.prog 55 = some [.nilFn] := by kernel_rfl
theorem row55 : isRowT Try.prog 55 = some false := by kernel_rfl
theorem sz56 : szOf Try.prog 56 = some 1 := by kernel_rfl
theorem by56 : byOf Try.prog 56 = some 8 := by kernel_rfl
theorem zero56 : zeroOf Try.prog 56 = some [.nilPtr] := by kernel_rfl
theorem row56 : isRowT Try.prog 56 = some false := by kernel_rfl
theorem sz57 : szOf Try.prog 57 = some 1 := by kernel_rfl
theorem by57 : byOf Try.prog 57 = some 24 := by kernel_rfl
theorem zero57 : zeroOf Try.prog 57 = some [.nilSlice] := by kernel_rfl
theorem row57 : isRowT Try.prog 57 = some false := by kernel_rfl
theorem slc57 : sliceT Try.prog 57 = some 3 := by kernel_rfl
theorem sz58 : szOf Try.prog 58 = some 3 := by kernel_rfl
theorem by58 : byOf Try.prog 58 = some 56 := by kernel_rfl
theorem zero58 : zeroOf Try.prog 58 = some [.i64 0, .nilSlice, .nilSlice] := by kernel_rfl
theorem row58 : isRowT Try.prog 58 = some true := by kernel_rfl
theorem fld58_0 : fldOf Try.prog 58 0 = some (0, 3) := by kernel_rfl
theorem fld58_1 : fldOf Try.prog 58 1 = some (1, 33) := by kernel_rfl
theorem fld58_2 : fldOf Try.prog 58 2 = some (2, 57) := by kernel_rfl
theorem bld58 : buildT Try.prog 58 = some ([.i64 0, .nilSlice, .nilSlice], .inl [(0, 1), (1, 1), (2, 1)]) := by kernel_rfl
theorem sz59 : szOf Try.prog 59 = some 3 := by kernel_rfl
theorem by59 : byOf Try.prog 59 = some 56 := by kernel_rfl
theorem zero59 : zeroOf Try.prog 59 = some [.i64 0, .nilSlice, .nilSlice] := by kernel_rfl
theorem row59 : isRowT Try.prog 59 = some true := by kernel_rfl
theorem fld59_0 : fldOf Try.prog 59 0 = some (0, 3) := by kernel_rfl
theorem fld59_1 : fldOf Try.prog 59 1 = some (1, 33) := by kernel_rfl
theorem fld59_2 : fldOf Try.prog 59 2 = some (2, 57) := by kernel_rfl
theorem bld59 : buildT Try.prog 59 = some ([.i64 0, .nilSlice, .nilSlice], .inl [(0, 1), (1, 1), (2, 1)]) := by kernel_rfl
theorem sz60 : szOf Try.prog 60 = some 1 := by kernel_rfl
theorem by60 : byOf Try.prog 60 = some 8 := by kernel_rfl
theorem zero60 : zeroOf Try.prog 60 = some [.nilFn] := by kernel_rfl
theorem row60 : isRowT Try.prog 60 = some false := by kernel_rfl
theorem sz61 : szOf Try.prog 61 = some 1 := by kernel_rfl
theorem by61 : byOf Try.prog 61 = some 8 := by kernel_rfl
theorem zero61 : zeroOf Try.prog 61 = some [.nilFn] := by kernel_rfl
theorem row61 : isRowT Try.prog 61 = some false := by kernel_rfl
theorem sz62 : szOf Try.prog 62 = some 1 := by kernel_rfl
theorem by62 : byOf Try.prog 62 = some 8 := by kernel_rfl
theorem zero62 : zeroOf Try.prog 62 = some [.nilFn] := by kernel_rfl
theorem row62 : isRowT Try.prog 62 = some false := by kernel_rfl
theorem sz63 : szOf Try.prog 63 = some 1 := by kernel_rfl
theorem by63 : byOf Try.prog 63 = some 8 := by kernel_rfl
theorem zero63 : zeroOf Try.prog 63 = some [.nilFn] := by kernel_rfl
theorem row63 : isRowT Try.prog 63 = some false := by kernel_rfl
theorem sz64 : szOf Try.prog 64 = some 5 := by kernel_rfl
theorem by64 : byOf Try.prog 64 = some 40 := by kernel_rfl
theorem zero64 : zeroOf Try.prog 64 = some [.u64 0#64, .u64 0#64, .u64 0#64, .u64 0#64, .u64 0#64] := by kernel_rfl
theorem row64 : isRowT Try.prog 64 = some true := by kernel_rfl
theorem arr64 : arrT Try.prog 64 = some (5, 29) := by kernel_rfl
theorem bld64 : buildT Try.prog 64 = some ([.u64 0#64, .u64 0#64, .u64 0#64, .u64 0#64, .u64 0#64], .inr 1) := by kernel_rfl
theorem sz65 : szOf Try.prog 65 = some 5 := by kernel_rfl
theorem by65 : byOf Try.prog 65 = some 40 := by kernel_rfl
theorem zero65 : zeroOf Try.prog 65 = some [.u64 0#64, .u64 0#64, .u64 0#64, .u64 0#64, .u64 0#64] := by kernel_rfl
theorem row65 : isRowT Try.prog 65 = some true := by kernel_rfl
theorem arr65 : arrT Try.prog 65 = some (5, 29) := by kernel_rfl
theorem bld65 : buildT Try.prog 65 = some ([.u64 0#64, .u64 0#64, .u64 0#64, .u64 0#64, .u64 0#64], .inr 1) := by kernel_rfl
theorem sz66 : szOf Try.prog 66 = some 1 := by kernel_rfl
theorem by66 : byOf Try.prog 66 = some 8 := by kernel_rfl
theorem zero66 : zeroOf Try.prog 66 = some [.nilFn] := by kernel_rfl
theorem row66 : isRowT Try.prog 66 = some false := by kernel_rfl
theorem sz67 : szOf Try.prog 67 = some 16 := by kernel_rfl
theorem by67 : byOf Try.prog 67 = some 128 := by kernel_rfl
theorem zero67 : zeroOf Try.prog 67 = some [.i64 0, .i64 0, .i64 0, .i64 0, .i64 0, .i64 0, .i64 0, .i64 0, .i64 0, .i64 0, .i64 0, .i64 0, .i64 0, .i64 0, .i64 0, .i64 0] := by kernel_rfl
theorem row67 : isRowT Try.prog 67 = some true := by kernel_rfl
theorem arr67 : arrT Try.prog 67 = some (16, 2) := by kernel_rfl
theorem bld67 : buildT Try.prog 67 = some ([.i64 0, .i64 0, .i64 0, .i64 0, .i64 0, .i64 0, .i64 0, .i64 0, .i64 0, .i64 0, .i64 0, .i64 0, .i64 0, .i64 0, .i64 0, .i64 0], .inr 1) := by kernel_rfl
theorem sz68 : szOf Try.prog 68 = some 16 := by kernel_rfl
theorem by68 : byOf Try.prog 68 = some 128 := by kernel_rfl
theorem zero68 : zeroOf Try.prog 68 = some [.i64 0, .i64 0, .i64 0, .i64 0, .i64 0, .i64 0, .i64 0, .i64 0, .i64 0, .i64 0, .i64 0, .i64 0, .i64 0, .i64 0, .i64 0, .i64 0] := by kernel_rfl
theorem row68 : isRowT Try.prog 68 = some true := by kernel_rfl
theorem arr68 : arrT Try.prog 68 = some (16, 2) := by kernel_rfl
theorem bld68 : buildT Try.prog 68 = some ([.i64 0, .i64 0, .i64 0, .i64 0, .i64 0, .i64 0, .i64 0, .i64 0, .i64 0, .i64 0, .i64 0, .i64 0, .i64 0, .i64 0, .i64 0, .i64 0], .inr 1) := by kernel_rfl
theorem sz69 : szOf Try.prog 69 = some 1 := by kernel_rfl
theorem by69 : byOf Try.prog 69 = some 8 := by kernel_rfl
theorem zero69 : zeroOf Try.prog 69 = some [.nilFn] := by kernel_rfl
theorem row69 : isRowT Try.prog 69 = some false := by kernel_rfl
theorem sz70 : szOf Try.prog 70 = some 1 := by kernel_rfl
theorem by70 : byOf Try.prog 70 = some 8 := by kernel_rfl
theorem zero70 : zeroOf Try.prog 70 = some [.nilFn] := by kernel_rfl
theorem row70 : isRowT Try.prog 70 = some false := by kernel_rfl
theorem sz71 : szOf Try.prog 71 = some 1 := by kernel_rfl
theorem by71 : byOf Try.prog 71 = some 8 := by kernel_rfl
theorem zero71 : zeroOf Try.prog 71 = some [.nilFn] := by kernel_rfl
theorem row71 : isRowT Try.prog 71 = some false := by kernel_rfl
theorem sz72 : szOf Try.prog 72 = some 1 := by kernel_rfl
theorem by72 : byOf Try.prog 72 = some 8 := by kernel_rfl
theorem zero72 : zeroOf Try.prog 72 = some [.nilFn] := by kernel_rfl
theorem row72 : isRowT Try.prog 72 = some false := by kernel_rfl
theorem sz73 : szOf Try.prog 73 = some 1 := by kernel_rfl
theorem by73 : byOf Try.prog 73 = some 8 := by kernel_rfl
theorem zero73 : zeroOf Try.prog 73 = some [.nilFn] := by kernel_rfl
theorem row73 : isRowT Try.prog 73 = some false := by kernel_rfl
theorem sz74 : szOf Try.prog 74 = some 1 := by kernel_rfl
theorem by74 : byOf Try.prog 74 = some 8 := by kernel_rfl
theorem zero74 : zeroOf Try.prog 74 = some [.nilFn] := by kernel_rfl
theorem row74 : isRowT Try.prog 74 = some false := by kernel_rfl
theorem sz75 : szOf Try.prog 75 = some 1 := by kernel_rfl
theorem by75 : byOf Try.prog 75 = some 8 := by kernel_rfl
theorem zero75 : zeroOf Try.prog 75 = some [.nilFn] := by kernel_rfl
theorem row75 : isRowT Try.prog 75 = some false := by kernel_rfl
theorem sz76 : szOf Try.prog 76 = some 1 := by kernel_rfl
theorem by76 : byOf Try.prog 76 = some 8 := by kernel_rfl
theorem zero76 : zeroOf Try.prog 76 = some [.nilFn] := by kernel_rfl
theorem row76 : isRowT Try.prog 76 = some false := by kernel_rfl
theorem sz77 : szOf Try.prog 77 = some 1 := by kernel_rfl
theorem by77 : byOf Try.prog 77 = some 8 := by kernel_rfl
theorem zero77 : zeroOf Try.prog 77 = some [.u64 0#64] := by kernel_rfl
theorem row77 : isRowT Try.prog 77 = some false := by kernel_rfl
theorem sz78 : szOf Try.prog 78 = some 1 := by kernel_rfl
theorem by78 : byOf Try.prog 78 = some 24 := by kernel_rfl
theorem zero78 : zeroOf Try.prog 78 = some [.nilSlice] := by kernel_rfl
theorem row78 : isRowT Try.prog 78 = some false := by kernel_rfl
theorem slc78 : sliceT Try.prog 78 = some 5 := by kernel_rfl
theorem sz79 : szOf Try.prog 79 = some 1 := by kernel_rfl
theorem by79 : byOf Try.prog 79 = some 8 := by kernel_rfl
theorem zero79 : zeroOf Try.prog 79 = some [.nilFn] := by kernel_rfl
theorem row79 : isRowT Try.prog 79 = some false := by kernel_rfl
theorem sz80 : szOf Try.prog 80 = some 32 := by kernel_rfl
theorem by80 : byOf Try.prog 80 = some 256 := by kernel_rfl
theorem zero80 : zeroOf Try.prog 80 = some [.i64 0, .i64 0, .i64 0, .i64 0, .i64 0, .i64 0, .i64 0, .i64 0, .i64 0, .i64 0, .i64 0, .i64 0, .i64 0, .i64 0, .i64 0, .i64 0, .i64 0, .i64 0, .i64 0, .i64 0, .i64 0, .i64 0, .i64 0, .i64 0, .i64 0, .i64 0, .i64 0, .i64 0, .i64 0, .i64 0, .i64 0, .i64 0] := by kernel_rfl
theorem row80 : isRowT Try.prog 80 = some true := by kernel_rfl
theorem fld80_0 : fldOf Try.prog 80 0 = some (0, 68) := by kernel_rfl
theorem fld80_1 : fldOf Try.prog 80 1 = some (16, 68) := by kernel_rfl
theorem bld80 : buildT Try.prog 80 = some ([.i64 0, .i64 0, .i64 0, .i64 0, .i64 0, .i64 0, .i64 0, .i64 0, .i64 0, .i64 0, .i64 0, .i64 0, .i64 0, .i64 0, .i64 0, .i64 0, .i64 0, .i64 0, .i64 0, .i64 0, .i64 0, .i64 0, .i64 0, .i64 0, .i64 0, .i64 0, .i64 0, .i64 0, .i64 0, .i64 0, .i64 0, .i64 0], .inl [(0, 16), (16, 16)]) := by kernel_rfl
theorem sz81 : szOf Try.prog 81 = some 32 := by kernel_rfl
theorem by81 : byOf Try.prog 81 = some 256 := by kernel_rfl
theorem zero81 : zeroOf Try.prog 81 = some [.i64 0, .i64 0, .i64 0, .i64 0, .i64 0, .i64 0, .i64 0, .i64 0, .i64 0, .i64 0, .i64 0, .i64 0, .i64 0, .i64 0, .i64 0, .i64 0, .i64 0, .i64 0, .i64 0, .i64 0, .i64 0, .i64 0, .i64 0, .i64 0, .i64 0, .i64 0, .i64 0, .i64 0, .i64 0, .i64 0, .i64 0, .i64 0] := by kernel_rfl
theorem row81 : isRowT Try.prog 81 = some true := by kernel_rfl
theorem fld81_0 : fldOf Try.prog 81 0 = some (0, 68) := by kernel_rfl
theorem fld81_1 : fldOf Try.prog 81 1 = some (16, 68) := by kernel_rfl
theorem bld81 : buildT Try.prog 81 = some ([.i64 0, .i64 0, .i64 0, .i64 0, .i64 0, .i64 0, .i64 0, .i64 0, .i64 0, .i64 0, .i64 0, .i64 0, .i64 0, .i64 0, .i64 0, .i64 0, .i64 0, .i64 0, .i64 0, .i64 0, .i64 0, .i64 0, .i64 0, .i64 0, .i64 0, .i64 0, .i64 0, .i64 0, .i64 0, .i64 0, .i64 0, .i64 0], .inl [(0, 16), (16, 16)]) := by kernel_rfl
theorem sz83 : szOf Try.prog 83 = some 1 := by kernel_rfl
theorem by83 : byOf Try.prog 83 = some 8 := by kernel_rfl
theorem zero83 : zeroOf Try.prog 83 = some [.nilFn] := by kernel_rfl
theorem row83 : isRowT Try.prog 83 = some false := by kernel_rfl
theorem sz84 : szOf Try.prog 84 = some 1 := by kernel_rfl
theorem by84 : byOf Try.prog 84 = some 8 := by kernel_rfl
theorem zero84 : zeroOf Try.prog 84 = some [.nilPtr] := by kernel_rfl
theorem row84 : isRowT Try.prog 84 = some false := by kernel_rfl
theorem sz85 : szOf Try.prog 85 = some 2 := by kernel_rfl
theorem by85 : byOf Try.prog 85 = some 16 := by kernel_rfl
theorem zero85 : zeroOf Try.prog 85 = some [.nilPtr, .nilPtr] := by kernel_rfl
theorem row85 : isRowT Try.prog 85 = some true := by kernel_rfl
theorem arr85 : arrT Try.prog 85 = some (2, 84) := by kernel_rfl
theorem bld85 : buildT Try.prog 85 = some ([.nilPtr, .nilPtr], .inr 1) := by kernel_rfl
theorem sz86 : szOf Try.prog 86 = some 4 := by kernel_rfl
theorem by86 : byOf Try.prog 86 = some 32 := by kernel_rfl
theorem zero86 : zeroOf Try.prog 86 = some [.nilPtr, .nilPtr, .bool false, .i64 0] := by kernel_rfl
theorem row86 : isRowT Try.prog 86 = some true := by kernel_rfl
theorem fld86_0 : fldOf Try.prog 86 0 = some (0, 85) := by kernel_rfl
theorem fld86_1 : fldOf Try.prog 86 1 = some (2, 4) := by kernel_rfl
theorem fld86_2 : fldOf Try.prog 86 2 = some (3, 3) := by kernel_rfl
theorem bld86 : buildT Try.prog 86 = some ([.nilPtr, .nilPtr, .bool false, .i64 0], .inl [(0, 2), (2, 1), (3, 1)]) := by kernel_rfl
theorem sz87 : szOf Try.prog 87 = some 4 := by kernel_rfl
theorem by87 : byOf Try.prog 87 = some 32 := by kernel_rfl
theorem zero87 : zeroOf Try.prog 87 = some [.nilPtr, .nilPtr, .bool false, .i64 0] := by kernel_rfl
theorem row87 : isRowT Try.prog 87 = some true := by kernel_rfl
theorem fld87_0 : fldOf Try.prog 87 0 = some (0, 85) := by kernel_rfl
theorem fld87_1 : fldOf Try.prog 87 1 = some (2, 4) := by kernel_rfl
theorem fld87_2 : fldOf Try.prog 87 2 = some (3, 3) := by kernel_rfl
theorem bld87 : buildT Try.prog 87 = some ([.nilPtr, .nilPtr, .bool false, .i64 0], .inl [(0, 2), (2, 1), (3, 1)]) := by kernel_rfl
theorem sz88 : szOf Try.prog 88 = some 5 := by kernel_rfl
theorem by88 : byOf Try.prog 88 = some 40 := by kernel_rfl
theorem zero88 : zeroOf Try.prog 88 = some [.nilPtr, .nilPtr, .bool false, .i64 0, .i64 0] := by kernel_rfl
theorem row88 : isRowT Try.prog 88 = some true := by kernel_rfl
theorem fld88_0 : fldOf Try.prog 88 0 = some (0, 87) := by kernel_rfl
theorem fld88_1 : fldOf Try.prog 88 1 = some (4, 3) := by kernel_rfl
theorem bld88 : buildT Try.prog 88 = some ([.nilPtr, .nilPtr, .bool false, .i64 0, .i64 0], .inl [(0, 4), (4, 1)]) := by kernel_rfl
theorem sz89 : szOf Try.prog 89 = some 5 := by kernel_rfl
theorem by89 : byOf Try.prog 89 = some 40 := by kernel_rfl
theorem zero89 : zeroOf Try.prog 89 = some [.nilPtr, .nilPtr, .bool false, .i64 0, .i64 0] := by kernel_rfl
theorem row89 : isRowT Try.prog 89 = some true := by kernel_rfl
theorem fld89_0 : fldOf Try.prog 89 0 = some (0, 87) := by kernel_rfl
theorem fld89_1 : fldOf Try.prog 89 1 = some (4, 3) := by kernel_rfl
theorem bld89 : buildT Try.prog 89 = some ([.nilPtr, .nilPtr, .bool false, .i64 0, .i64 0], .inl [(0, 4), (4, 1)]) := by kernel_rfl
theorem sz90 : szOf Try.prog 90 = some 1 := by kernel_rfl
theorem by90 : byOf Try.prog 90 = some 8 := by kernel_rfl
theorem zero90 : zeroOf Try.prog 90 = some [.nilFn] := by kernel_rfl
theorem row90 : isRowT Try.prog 90 = some false := by kernel_rfl
theorem sz91 : szOf Try.prog 91 = some 1 := by kernel_rfl
theorem by91 : byOf Try.prog 91 = some 8 := by kernel_rfl
theorem zero91 : zeroOf Try.prog 91 = some [.nilFn] := by kernel_rfl
theorem row91 : isRowT Try.prog 91 = some false := by kernel_rfl
theorem sz92 : szOf Try.prog 92 = some 1 := by kernel_rfl
theorem by92 : byOf Try.prog 92 = some 8 := by kernel_rfl
theorem zero92 : zeroOf Try.prog 92 = some [.nilFn] := by kernel_rfl
theorem row92 : isRowT Try.prog 92 = some false := by kernel_rfl
theorem sz93 : szOf Try.prog 93 = some 1 := by kernel_rfl
theorem by93 : byOf Try.prog 93 = some 8 := by kernel_rfl
theorem zero93 : zeroOf Try.prog 93 = some [.nilFn] := by kernel_rfl
theorem row93 : isRowT Try.prog 93 = some false := by kernel_rfl
theorem sz94 : szOf Try.prog 94 = some 1 := by kernel_rfl
theorem by94 : byOf Try.prog 94 = some 8 := by kernel_rfl
theorem zero94 : zeroOf Try.prog 94 = some [.nilFn] := by kernel_rfl
theorem row94 : isRowT Try.prog 94 = some false := by kernel_rfl
theorem sz95 : szOf Try.prog 95 = some 1 := by kernel_rfl
theorem by95 : byOf Try.prog 95 = some 8 := by kernel_rfl
theorem zero95 : zeroOf Try.prog 95 = some [.nilFn] := by kernel_rfl
theorem row95 : isRowT Try.prog 95 = some false := by kernel_rfl
theorem sz97 : szOf Try.prog 97 = some 2 := by kernel_rfl
theorem by97 : byOf Try.prog 97 = some 16 := by kernel_rfl
theorem zero97 : zeroOf Try.prog 97 = some [.i64 0, .junk] := by kernel_rfl
theorem row97 : isRowT Try.prog 97 = some true := by kernel_rfl
theorem fld97_0 : fldOf Try.prog 97 0 = some (0, 3) := by kernel_rfl
theorem fld97_1 : fldOf Try.prog 97 1 = some (1, 96) := by kernel_rfl
theorem bld97 : buildT Try.prog 97 = some ([.i64 0, .junk], .inl [(0, 1), (1, 1)]) := by kernel_rfl
theorem sz98 : szOf Try.prog 98 = some 2 := by kernel_rfl
theorem by98 : byOf Try.prog 98 = some 16 := by kernel_rfl
theorem zero98 : zeroOf Try.prog 98 = some [.i64 0, .junk] := by kernel_rfl
theorem row98 : isRowT Try.prog 98 = some true := by kernel_rfl
theorem fld98_0 : fldOf Try.prog 98 0 = some (0, 3) := by kernel_rfl
theorem fld98_1 : fldOf Try.prog 98 1 = some (1, 96) := by kernel_rfl
theorem bld98 : buildT Try.prog 98 = some ([.i64 0, .junk], .inl [(0, 1), (1, 1)]) := by kernel_rfl
theorem sz99 : szOf Try.prog 99 = some 1 := by kernel_rfl
theorem by99 : byOf Try.prog 99 = some 8 := by kernel_rfl
theorem zero99 : zeroOf Try.prog 99 = some [.nilFn] := by kernel_rfl
theorem row99 : isRowT Try.prog 99 = some false := by kernel_rfl
theorem sz100 : szOf Try.prog 100 = some 1 := by kernel_rfl
theorem by100 : byOf Try.prog 100 = some 8 := by kernel_rfl
theorem zero100 : zeroOf Try.prog 100 = some [.nilFn] := by kernel_rfl
theorem row100 : isRowT Try.prog 100 = some false := by kernel_rfl
theorem sz102 : szOf Try.prog 102 = some 1 := by kernel_rfl
theorem by102 : byOf Try.prog 102 = some 8 := by kernel_rfl
theorem zero102 : zeroOf Try.prog 102 = some [.nilFn] := by kernel_rfl
theorem row102 : isRowT Try.prog 102 = some false := by kernel_rfl
theorem sz103 : szOf Try.prog 103 = some 32 := by kernel_rfl
theorem by103 : byOf Try.prog 103 = some 256 := by kernel_rfl
theorem zero103 : zeroOf Try.prog 103 = some [.i64 0, .i64 0, .i64 0, .i64 0, .i64 0, .i64 0, .i64 0, .i64 0, .i64 0, .i64 0, .i64 0, .i64 0, .i64 0, .i64 0, .i64 0, .i64 0, .i64 0, .i64 0, .i64 0, .i64 0, .i64 0, .i64 0, .i64 0, .i64 0, .i64 0, .i64 0, .i64 0, .i64 0, .i64 0, .i64 0, .i64 0, .i64 0] := by kernel_rfl
theorem row103 : isRowT Try.prog 103 = some true := by kernel_rfl
theorem arr103 : arrT Try.prog 103 = some (32, 2) := by kernel_rfl
theorem bld103 : buildT Try.prog 103 = some ([.i64 0, .i64 0, .i64 0, .i64 0, .i64 0, .i64 0, .i64 0, .i64 0, .i64 0, .i64 0, .i64 0, .i64 0, .i64 0, .i64 0, .i64 0, .i64 0, .i64 0, .i64 0, .i64 0, .i64 0, .i64 0, .i64 0, .i64 0, .i64 0, .i64 0, .i64 0, .i64 0, .i64 0, .i64 0, .i64 0, .i64 0, .i64 0], .inr 1) := by kernel_rfl
theorem sz104 : szOf Try.prog 104 = some 1 := by kernel_rfl
theorem by104 : byOf Try.prog 104 = some 8 := by kernel_rfl
theorem zero104 : zeroOf Try.prog 104 = some [.nilFn] := by kernel_rfl
theorem row104 : isRowT Try.prog 104 = some false := by kernel_rfl
theorem sz105 : szOf Try.prog 105 = some 1 := by kernel_rfl
theorem by105 : byOf Try.prog 105 = some 8 := by kernel_rfl
theorem zero105 : zeroOf Try.prog 105 = some [.nilFn] := by kernel_rfl
theorem row105 : isRowT Try.prog 105 = some false := by kernel_rfl
theorem sz106 : szOf Try.prog 106 = some 2 := by kernel_rfl
theorem by106 : byOf Try.prog 106 = some 16 := by kernel_rfl
theorem zero106 : zeroOf Try.prog 106 = some [.u64 0#64, .u64 0#64] := by kernel_rfl
theorem row106 : isRowT Try.prog 106 = some true := by kernel_rfl
theorem fld106_0 : fldOf Try.prog 106 0 = some (0, 29) := by kernel_rfl
theorem fld106_1 : fldOf Try.prog 106 1 = some (1, 29) := by kernel_rfl
theorem bld106 : buildT Try.prog 106 = some ([.u64 0#64, .u64 0#64], .inl [(0, 1), (1, 1)]) := by kernel_rfl
theorem sz107 : szOf Try.prog 107 = some 2 := by kernel_rfl
theorem by107 : byOf Try.prog 107 = some 16 := by kernel_rfl
theorem zero107 : zeroOf Try.prog 107 = some [.u64 0#64, .u64 0#64] := by kernel_rfl
theorem row107 : isRowT Try.prog 107 = some true := by kernel_rfl
theorem fld107_0 : fldOf Try.prog 107 0 = some (0, 29) := by kernel_rfl
theorem fld107_1 : fldOf Try.prog 107 1 = some (1, 29) := by kernel_rfl
theorem bld107 : buildT Try.prog 107 = some ([.u64 0#64, .u64 0#64], .inl [(0, 1), (1, 1)]) := by kernel_rfl
theorem sz108 : szOf Try.prog 108 = some 10 := by kernel_rfl
theorem by108 : byOf Try.prog 108 = some 80 := by kernel_rfl
theorem zero108 : zeroOf Try.prog 108 = some [.u64 0#64, .u64 0#64, .u64 0#64, .u64 0#64, .u64 0#64, .u64 0#64, .u64 0#64, .u64 0#64, .u64 0#64, .u64 0#64] := by kernel_rfl
theorem row108 : isRowT Try.prog 108 = some true := by kernel_rfl
theorem arr108 : arrT Try.prog 108 = some (5, 107) := by kernel_rfl
theorem bld108 : buildT Try.prog 108 = some ([.u64 0#64, .u64 0#64, .u64 0#64, .u64 0#64, .u64 0#64, .u64 0#64, .u64 0#64, .u64 0#64, .u64 0#64, .u64 0#64], .inr 2) := by kernel_rfl
theorem sz109 : szOf Try.prog 109 = some 1 := by kernel_rfl
theorem by109 : byOf Try.prog 109 = some 8 := by kernel_rfl
theorem zero109 : zeroOf Try.prog 109 = some [.nilFn] := by kernel_rfl
theorem row109 : isRowT Try.prog 109 = some false := by kernel_rfl
theorem sz111 : szOf Try.prog 111 = some 1 := by kernel_rfl
theorem by111 : byOf Try.prog 111 = some 8 := by kernel_rfl
theorem zero111 : zeroOf Try.prog 111 = some [.nilFn] := by kernel_rfl
theorem row111 : isRowT Try.prog 111 = some false := by kernel_rfl
theorem sz112 : szOf Try.prog 112 = some 1 := by kernel_rfl
theorem by112 : byOf Try.prog 112 = some 24 := by kernel_rfl
theorem zero112 : zeroOf Try.prog 112 = some [.nilSlice] := by kernel_rfl
theorem row112 : isRowT Try.prog 112 = some false := by kernel_rfl
theorem slc112 : sliceT Try.prog 112 = some 29 := by kernel_rfl
theorem sz113 : szOf Try.prog 113 = some 1 := by kernel_rfl
theorem by113 : byOf Try.prog 113 = some 8 := by kernel_rfl
theorem zero113 : zeroOf Try.prog 113 = some [.nilFn] := by kernel_rfl
theorem row113 : isRowT Try.prog 113 = some false := by kernel_rfl
theorem sz114 : szOf Try.prog 114 = some 1 := by kernel_rfl
theorem by114 : byOf Try.prog 114 = some 8 := by kernel_rfl
theorem zero114 : zeroOf Try.prog 114 = some [.nilFn] := by kernel_rfl
theorem row114 : isRowT Try.prog 114 = some false := by kernel_rfl
theorem sz115 : szOf Try.prog 115 = some 1 := by kernel_rfl
theorem by115 : byOf Try.prog 115 = some 8 := by kernel_rfl
theorem zero115 : zeroOf Try.prog 115 = some [.nilFn] := by kernel_rfl
theorem row115 : isRowT Try.prog 115 = some false := by kernel_rfl
theorem sz116 : szOf Try.prog 116 = some 1 := by kernel_rfl
theorem by116 : byOf Try.prog 116 = some 8 := by kernel_rfl
theorem zero116 : zeroOf Try.prog 116 = some [.nilFn] := by kernel_rfl
theorem row116 : isRowT Try.prog 116 = some false := by kernel_rfl
theorem sz117 : szOf Try.prog 117 = some 4 := by kernel_rfl
theorem by117 : byOf Try.prog 117 = some 32 := by kernel_rfl
theorem zero117 : zeroOf Try.prog 117 = some [.u64 0#64, .u64 0#64, .u64 0#64, .u64 0#64] := by kernel_rfl
theorem row117 : isRowT Try.prog 117 = some true := by kernel_rfl
theorem arr117 : arrT Try.prog 117 = some (4, 29) := by kernel_rfl
theorem bld117 : buildT Try.prog 117 = some ([.u64 0#64, .u64 0#64, .u64 0#64, .u64 0#64], .inr 1) := by kernel_rfl
theorem sz118 : szOf Try.prog 118 = some 1 := by kernel_rfl
theorem by118 : byOf Try.prog 118 = some 8 := by kernel_rfl
theorem zero118 : zeroOf Try.prog 118 = some [.nilFn] := by kernel_rfl
theorem row118 : isRowT Try.prog 118 = some false := by kernel_rfl
theorem sz119 : szOf Try.prog 119 = some 1 := by kernel_rfl
theorem by119 : byOf Try.prog 119 = some 8 := by kernel_rfl
theorem zero119 : zeroOf Try.prog 119 = some [.nilFn] := by kernel_rfl
theorem row119 : isRowT Try.prog 119 = some false := by kernel_rfl
theorem sz121 : szOf Try.prog 121 = some 1 := by kernel_rfl
theorem by121 : byOf Try.prog 121 = some 8 := by kernel_rfl
theorem zero121 : zeroOf Try.prog 121 = some [.nilFn] := by kernel_rfl
theorem row121 : isRowT Try.prog 121 = some false := by kernel_rfl
theorem sz122 : szOf Try.prog 122 = some 1 := by kernel_rfl
theorem by122 : byOf Try.prog 122 = some 8 := by kernel_rfl
theorem zero122 : zeroOf Try.prog 122 = some [.nilPtr] := by kernel_rfl
theorem row122 : isRowT Try.prog 122 = some false := by kernel_rfl
theorem sz123 : szOf Try.prog 123 = some 2 := by kernel_rfl
theorem by123 : byOf Try.prog 123 = some 32 := by kernel_rfl
theorem zero123 : zeroOf Try.prog 123 = some [.nilPtr, .nilSlice] := by kernel_rfl
theorem row123 : isRowT Try.prog 123 = some true := by kernel_rfl
theorem fld123_0 : fldOf Try.prog 123 0 = some (0, 122) := by kernel_rfl
theorem fld123_1 : fldOf Try.prog 123 1 = some (1, 78) := by kernel_rfl
theorem bld123 : buildT Try.prog 123 = some ([.nilPtr, .nilSlice], .inl [(0, 1), (1, 1)]) := by kernel_rfl
theorem sz124 : szOf Try.prog 124 = some 2 := by kernel_rfl
theorem by124 : byOf Try.prog 124 = some 32 := by kernel_rfl
theorem zero124 : zeroOf Try.prog 124 = some [.nilPtr, .nilSlice] := by kernel_rfl
theorem row124 : isRowT Try.prog 124 = some true := by kernel_rfl
theorem fld124_0 : fldOf Try.prog 124 0 = some (0, 122) := by kernel_rfl
theorem fld124_1 : fldOf Try.prog 124 1 = some (1, 78) := by kernel_rfl
theorem bld124 : buildT Try.prog 124 = some ([.nilPtr, .nilSlice], .inl [(0, 1), (1, 1)]) := by kernel_rfl
theorem sz125 : szOf Try.prog 125 = some 1 := by kernel_rfl
theorem by125 : byOf Try.prog 125 = some 8 := by kernel_rfl
theorem zero125 : zeroOf Try.prog 125 = some [.nilFn] := by kernel_rfl
theorem row125 : isRowT Try.prog 125 = some false := by kernel_rfl
theorem sz126 : szOf Try.prog 126 = some 1 := by kernel_rfl
theorem by126 : byOf Try.prog 126 = some 16 := by kernel_rfl
theorem zero126 : zeroOf Try.prog 126 = some [.nilIface] := by kernel_rfl
theorem row126 : isRowT Try.prog 126 = some false := by kernel_rfl
theorem sz127 : szOf Try.prog 127 = some 1 := by kernel_rfl
theorem by127 : byOf Try.prog 127 = some 16 := by kernel_rfl
theorem zero127 : zeroOf Try.prog 127 = some [.nilIface] := by kernel_rfl
theorem row127 : isRowT Try.prog 127 = some false := by kernel_rfl
theorem sz129 : szOf Try.prog 129 = some 1 := by kernel_rfl
theorem by129 : byOf Try.prog 129 = some 8 := by kernel_rfl
theorem zero129 : zeroOf Try.prog 129 = some [.nilFn] := by kernel_rfl
theorem row129 : isRowT Try.prog 129 = some false := by kernel_rfl
theorem sz130 : szOf Try.prog 130 = some 1 := by kernel_rfl
theorem by130 : byOf Try.prog 130 = some 8 := by kernel_rfl
theorem zero130 : zeroOf Try.prog 130 = some [.nilFn] := by kernel_rfl
theorem row130 : isRowT Try.prog 130 = some false := by kernel_rfl
theorem sz131 : szOf Try.prog 131 = some 1 := by kernel_rfl
theorem by131 : byOf Try.prog 131 = some 8 := by kernel_rfl
theorem zero131 : zeroOf Try.prog 131 = some [.nilFn] := by kernel_rfl
theorem row131 : isRowT Try.prog 131 = some false := by kernel_rfl
theorem sz133 : szOf Try.prog 133 = some 1 := by kernel_rfl
theorem by133 : byOf Try.prog 133 = some 8 := by kernel_rfl
theorem zero133 : zeroOf Try.prog 133 = some [.nilFn] := by kernel_rfl
theorem row133 : isRowT Try.prog 133 = some false := by kernel_rfl
theorem sz134 : szOf Try.prog 134 = some 1 := by kernel_rfl
theorem by134 : byOf Try.prog 134 = some 8 := by kernel_rfl
theorem zero134 : zeroOf Try.prog 134 = some [.nilPtr] := by kernel_rfl
theorem row134 : isRowT Try.prog 134 = some false := by kernel_rfl
theorem sz135 : szOf Try.prog 135 = some 1 := by kernel_rfl
theorem by135 : byOf Try.prog 135 = some 8 := by kernel_rfl
theorem zero135 : zeroOf Try.prog 135 = some [.nilPtr] := by kernel_rfl
theorem row135 : isRowT Try.prog 135 = some false := by kernel_rfl
theorem sz136 : szOf Try.prog 136 = some 1 := by kernel_rfl
theorem by136 : byOf Try.prog 136 = some 8 := by kernel_rfl
theorem zero136 : zeroOf Try.prog 136 = some [.nilFn] := by kernel_rfl
theorem row136 : isRowT Try.prog 136 = some false := by kernel_rfl
theorem sz137 : szOf Try.prog 137 = some 1 := by kernel_rfl
theorem by137 : byOf Try.prog 137 = some 8 := by kernel_rfl
theorem zero137 : zeroOf Try.prog 137 = some [.nilFn] := by kernel_rfl
theorem row137 : isRowT Try.prog 137 = some false := by kernel_rfl
theorem sz138 : szOf Try.prog 138 = some 4 := by kernel_rfl
theorem by138 : byOf Try.prog 138 = some 40 := by kernel_rfl
theorem zero138 : zeroOf Try.prog 138 = some [.nilPtr, .nilPtr, .nilPtr, .str []] := by kernel_rfl
theorem row138 : isRowT Try.prog 138 = some true := by kernel_rfl
theorem fld138_0 : fldOf Try.prog 138 0 = some (0, 17) := by kernel_rfl
theorem fld138_1 : fldOf Try.prog 138 1 = some (1, 17) := by kernel_rfl
theorem fld138_2 : fldOf Try.prog 138 2 = some (2, 17) := by kernel_rfl
theorem fld138_3 : fldOf Try.prog 138 3 = some (3, 9) := by kernel_rfl
theorem bld138 : buildT Try.prog 138 = some ([.nilPtr, .nilPtr, .nilPtr, .str []], .inl [(0, 1), (1, 1), (2, 1), (3, 1)]) := by kernel_rfl
theorem sz139 : szOf Try.prog 139 = some 4 := by kernel_rfl
theorem by139 : byOf Try.prog 139 = some 40 := by kernel_rfl
theorem zero139 : zeroOf Try.prog 139 = some [.nilPtr, .nilPtr, .nilPtr, .str []] := by kernel_rfl
theorem row139 : isRowT Try.prog 139 = some true := by kernel_rfl
theorem fld139_0 : fldOf Try.prog 139 0 = some (0, 17) := by kernel_rfl
theorem fld139_1 : fldOf Try.prog 139 1 = some (1, 17) := by kernel_rfl
theorem fld139_2 : fldOf Try.prog 139 2 = some (2, 17) := by kernel_rfl
theorem fld139_3 : fldOf Try.prog 139 3 = some (3, 9) := by kernel_rfl
theorem bld139 : buildT Try.prog 139 = some ([.nilPtr, .nilPtr, .nilPtr, .str []], .inl [(0, 1), (1, 1), (2, 1), (3, 1)]) := by kernel_rfl
theorem sz140 : szOf Try.prog 140 = some 0 := by kernel_rfl
theorem by140 : byOf Try.prog 140 = some 0 := by kernel_rfl
theorem zero140 : zeroOf Try.prog 140 = some [] := by kernel_rfl
theorem row140 : isRowT Try.prog 140 = some true := by kernel_rfl
theorem arr140 : arrT Try.prog 140 = some (0, 16) := by kernel_rfl
theorem bld140 : buildT Try.prog 140 = some ([], .inr 1) := by kernel_rfl
theorem sz141 : szOf Try.prog 141 = some 0 := by kernel_rfl
theorem by141 : byOf Try.prog 141 = some 0 := by kernel_rfl
theorem zero141 : zeroOf Try.prog 141 = some [] := by kernel_rfl
theorem row141 : isRowT Try.prog 141 = some true := by kernel_rfl
theorem fld141_0 : fldOf Try.prog 141 0 = some (0, 140) := by kernel_rfl
theorem bld141 : buildT Try.prog 141 = some ([], .inl [(0, 0)]) := by kernel_rfl
theorem sz142 : szOf Try.prog 142 = some 0 := by kernel_rfl
theorem by142 : byOf Try.prog 142 = some 0 := by kernel_rfl
theorem zero142 : zeroOf Try.prog 142 = some [] := by kernel_rfl
theorem row142 : isRowT Try.prog 142 = some true := by kernel_rfl
theorem fld142_0 : fldOf Try.prog 142 0 = some (0, 140) := by kernel_rfl
theorem bld142 : buildT Try.prog 142 = some ([], .inl [(0, 0)]) := by kernel_rfl
theorem sz143 : szOf Try.prog 143 = some 1 := by kernel_rfl
theorem by143 : byOf Try.prog 143 = some 1 := by kernel_rfl
theorem zero143 : zeroOf Try.prog 143 = some [.u8 0#8] := by kernel_rfl
theorem row143 : isRowT Try.prog 143 = some false := by kernel_rfl
theorem sz144 : szOf Try.prog 144 = some 1 := by kernel_rfl
theorem by144 : byOf Try.prog 144 = some 1 := by kernel_rfl
theorem zero144 : zeroOf Try.prog 144 = some [.u8 0#8] := by kernel_rfl
theorem row144 : isRowT Try.prog 144 = some false := by kernel_rfl
theorem sz145 : szOf Try.prog 145 = some 1 := by kernel_rfl
theorem by145 : byOf Try.prog 145 = some 8 := by kernel_rfl
theorem zero145 : zeroOf Try.prog 145 = some [.nilFn] := by kernel_rfl
theorem row145 : isRowT Try.prog 145 = some false := by kernel_rfl
theorem sz146 : szOf Try.prog 146 = some 1 := by kernel_rfl
theorem by146 : byOf Try.prog 146 = some 4 := by kernel_rfl
theorem zero146 : zeroOf Try.prog 146 = some [.i32 0] := by kernel_rfl
theorem row146 : isRowT Try.prog 146 = some false := by kernel_rfl
theorem sz147 : szOf Try.prog 147 = some 1 := by kernel_rfl
theorem by147 : byOf Try.prog 147 = some 4 := by kernel_rfl
theorem zero147 : zeroOf Try.prog 147 = some [.i32 0] := by kernel_rfl
theorem row147 : isRowT Try.prog 147 = some false := by kernel_rfl
theorem sz148 : szOf Try.prog 148 = some 11 := by kernel_rfl
theorem by148 : byOf Try.prog 148 = some 48 := by kernel_rfl
theorem zero148 : zeroOf Try.prog 148 = some [.u64 0#64, .u64 0#64, .u32 0#32, .u8 0#8, .u8 0#8, .u8 0#8, .u8 0#8, .nilFn, .nilPtr, .i32 0, .i32 0] := by kernel_rfl
theorem row148 : isRowT Try.prog 148 = some true := by kernel_rfl
theorem fld148_0 : fldOf Try.prog 148 0 = some (0, 12) := by kernel_rfl
theorem fld148_1 : fldOf Try.prog 148 1 = some (1, 12) := by kernel_rfl
theorem fld148_2 : fldOf Try.prog 148 2 = some (2, 40) := by kernel_rfl
theorem fld148_3 : fldOf Try.prog 148 3 = some (3, 143) := by kernel_rfl
theorem fld148_4 : fldOf Try.prog 148 4 = some (4, 5) := by kernel_rfl
theorem fld148_5 : fldOf Try.prog 148 5 = some (5, 5) := by kernel_rfl
theorem fld148_6 : fldOf Try.prog 148 6 = some (6, 144) := by kernel_rfl
theorem fld148_7 : fldOf Try.prog 148 7 = some (7, 145) := by kernel_rfl
theorem fld148_8 : fldOf Try.prog 148 8 = some (8, 134) := by kernel_rfl
theorem fld148_9 : fldOf Try.prog 148 9 = some (9, 146) := by kernel_rfl
theorem fld148_10 : fldOf Try.prog 148 10 = some (10, 147) := by kernel_rfl
theorem bld148 : buildT Try.prog 148 = some ([.u64 0#64, .u64 0#64, .u32 0#32, .u8 0#8, .u8 0#8, .u8 0#8, .u8 0#8, .nilFn, .nilPtr, .i32 0, .i32 0], .inl [(0, 1), (1, 1), (2, 1), (3, 1), (4, 1), (5, 1), (6, 1), (7, 1), (8, 1), (9, 1), (10, 1)]) := by kernel_rfl
theorem sz149 : szOf Try.prog 149 = some 11 := by kernel_rfl
theorem by149 : byOf Try.prog 149 = some 48 := by kernel_rfl
theorem zero149 : zeroOf Try.prog 149 = some [.u64 0#64, .u64 0#64, .u32 0#32, .u8 0#8, .u8 0#8, .u8 0#8, .u8 0#8, .nilFn, .nilPtr, .i32 0, .i32 0] := by kernel_rfl
theorem row149 : isRowT Try.prog 149 = some true := by kernel_rfl
theorem fld149_0 : fldOf Try.prog 149 0 = some (0, 12) := by kernel_rfl
theorem fld149_1 : fldOf Try.prog 149 1 = some (1, 12) := by kernel_rfl
theorem fld149_2 : fldOf Try.prog 149 2 = some (2, 40) := by kernel_rfl
theorem fld149_3 : fldOf Try.prog 149 3 = some (3, 143) := by kernel_rfl
theorem fld149_4 : fldOf Try.prog 149 4 = some (4, 5) := by kernel_rfl
theorem fld149_5 : fldOf Try.prog 149 5 = some (5, 5) := by kernel_rfl
theorem fld149_6 : fldOf Try.prog 149 6 = some (6, 144) := by kernel_rfl
theorem fld149_7 : fldOf Try.prog 149 7 = some (7, 145) := by kernel_rfl
theorem fld149_8 : fldOf Try.prog 149 8 = some (8, 134) := by kernel_rfl
theorem fld149_9 : fldOf Try.prog 149 9 = some (9, 146) := by kernel_rfl
theorem fld149_10 : fldOf Try.prog 149 10 = some (10, 147) := by kernel_rfl
theorem bld149 : buildT Try.prog 149 = some ([.u64 0#64, .u64 0#64, .u32 0#32, .u8 0#8, .u8 0#8, .u8 0#8, .u8 0#8, .nilFn, .nilPtr, .i32 0, .i32 0], .inl [(0, 1), (1, 1), (2, 1), (3, 1), (4, 1), (5, 1), (6, 1), (7, 1), (8, 1), (9, 1), (10, 1)]) := by kernel_rfl
theorem agt41 : aggTypes Try.prog 41 = some [40, 3] := by kernel_rfl
theorem agt42 : aggTypes Try.prog 42 = some [40, 3] := by kernel_rfl
theorem agt64 : aggTypes Try.prog 64 = some [29, 29, 29, 29, 29] := by kernel_rfl
theorem agt65 : aggTypes Try.prog 65 = some [29, 29, 29, 29, 29] := by kernel_rfl
theorem agt67 : aggTypes Try.prog 67 = some [2, 2, 2, 2, 2, 2, 2, 2, 2, 2, 2, 2, 2, 2, 2, 2] := by kernel_rfl
theorem agt68 : aggTypes Try.prog 68 = some [2, 2, 2, 2, 2, 2, 2, 2, 2, 2, 2, 2, 2, 2, 2, 2] := by kernel_rfl
theorem agt103 : aggTypes Try.prog 103 = some [2, 2, 2, 2, 2, 2, 2, 2, 2, 2, 2, 2, 2, 2, 2, 2, 2, 2, 2, 2, 2, 2, 2, 2, 2, 2, 2, 2, 2, 2, 2, 2] := by kernel_rfl
theorem agt106 : aggTypes Try.prog 106 = some [29, 29] := by kernel_rfl
theorem agt107 : aggTypes Try.prog 107 = some [29, 29] := by kernel_rfl
theorem agt117 : aggTypes Try.prog 117 = some [29, 29, 29, 29] := by kernel_rfl
attribute [go_sem] sz1 by1 zero1 row1 sz2 by2 zero2 row2 sz3 by3 zero3 row3
attribute [go_sem] sz4 by4 zero4 row4 sz5 by5 zero5 row5 sz6 by6 zero6 row6
attribute [go_sem] sz7 by7 zero7 row7 fld7_0 fld7_1 fld7_2 fld7_3 bld7 sz8 by8 zero8
attribute [go_sem] row8 fld8_0 fld8_1 fld8_2 fld8_3 bld8 sz9 by9 zero9 row9 sz10 by10
attribute [go_sem] zero10 row10 sz11 by11 zero11 row11 sz12 by12 zero12 row12 sz13 by13
attribute [go_sem] zero13 row13 fld13_0 fld13_1 bld13 sz14 by14 zero14 row14 fld14_0 fld14_1 bld14
attribute [go_sem] sz15 by15 zero15 row15 sz16 by16 zero16 row16 sz17 by17 zero17 row17
attribute [go_sem] sz18 by18 zero18 row18 fld18_0 bld18 sz19 by19 zero19 row19 fld19_0 bld19
attribute [go_sem] sz20 by20 zero20 row20 sz21 by21 zero21 row21 sz22 by22 zero22 row22
attribute [go_sem] sz24 by24 zero24 row24 sz25 by25 zero25 row25 sz26 by26 zero26 row26
attribute [go_sem] sz27 by27 zero27 row27 sz28 by28 zero28 row28 sz29 by29 zero29 row29
attribute [go_sem] sz30 by30 zero30 row30 sz31 by31 zero31 row31 sz32 by32 zero32 row32
attribute [go_sem] slc32 sz33 by33 zero33 row33 slc33 sz34 by34 zero34 row34 sz35 by35
attribute [go_sem] zero35 row35 sz36 by36 zero36 row36 sz37 by37 zero37 row37 slc37 sz38
attribute [go_sem] by38 zero38 row38 fld38_0 bld38 sz39 by39 zero39 row39 fld39_0 bld39 sz40
attribute [go_sem] by40 zero40 row40 sz41 by41 zero41 row41 fld41_0 fld41_1 bld41 sz42 by42
attribute [go_sem] zero42 row42 fld42_0 fld42_1 bld42 sz43 by43 zero43 row43 fld43_0 fld43_1 fld43_2
attribute [go_sem] fld43_3 fld43_4 fld43_5 fld43_6 bld43 sz44 by44 zero44 row44 fld44_0 fld44_1 fld44_2
attribute [go_sem] fld44_3 fld44_4 fld44_5 fld44_6 bld44 sz45 by45 zero45 row45 sz46 by46 zero46
attribute [go_sem] row46 sz48 by48 zero48 row48 sz49 by49 zero49 row49 sz50 by50 zero50
attribute [go_sem] row50 fld50_0 fld50_1 bld50 sz51 by51 zero51 row51 fld51_0 fld51_1 bld51 sz52
attribute [go_sem] by52 zero52 row52 sz53 by53 zero53 row53 sz54 by54 zero54 row54 sz55
attribute [go_sem] by55 zero55 row55 sz56 by56 zero56 row56 sz57 by57 zero57 row57 slc57
attribute [go_sem] sz58 by58 zero58 row58 fld58_0 fld58_1 fld58_2 bld58 sz59 by59 zero59 row59
attribute [go_sem] fld59_0 fld59_1 fld59_2 bld59 sz60 by60 zero60 row60 sz61 by61 zero61 row61
attribute [go_sem] sz62 by62 zero62 row62 sz63 by63 zero63 row63 sz64 by64 zero64 row64
attribute [go_sem] arr64 bld64 sz65 by65 zero65 row65 arr65 bld65 sz66 by66 zero66 row66
attribute [go_sem] sz67 by67 zero67 row67 arr67 bld67 sz68 by68 zero68 row68 arr68 bld68
attribute [go_sem] sz69 by69 zero69 row69 sz70 by70 zero70 row70 sz71 by71 zero71 row71
attribute [go_sem] sz72 by72 zero72 row72 sz73 by73 zero73 row73 sz74 by74 zero74 row74
attribute [go_sem] sz75 by75 zero75 row75 sz76 by76 zero76 row76 sz77 by77 zero77 row77
attribute [go_sem] sz78 by78 zero78 row78 slc78 sz79 by79 zero79 row79 sz80 by80 zero80
attribute [go_sem] row80 fld80_0 fld80_1 bld80 sz81 by81 zero81 row81 fld81_0 fld81_1 bld81 sz83
attribute [go_sem] by83 zero83 row83 sz84 by84 zero84 row84 sz85 by85 zero85 row85 arr85
attribute [go_sem] bld85 sz86 by86 zero86 row86 fld86_0 fld86_1 fld86_2 bld86 sz87 by87 zero87
attribute [go_sem] row87 fld87_0 fld87_1 fld87_2 bld87 sz88 by88 zero88 row88 fld88_0 fld88_1 bld88
attribute [go_sem] sz89 by89 zero89 row89 fld89_0 fld89_1 bld89 sz90 by90 zero90 row90 sz91
attribute [go_sem] by91 zero91 row91 sz92 by92 zero92 row92 sz93 by93 zero93 row93 sz94
attribute [go_sem] by94 zero94 row94 sz95 by95 zero95 row95 sz97 by97 zero97 row97 fld97_0
attribute [go_sem] fld97_1 bld97 sz98 by98 zero98 row98 fld98_0 fld98_1 bld98 sz99 by99 zero99
attribute [go_sem] row99 sz100 by100 zero100 row100 sz102 by102 zero102 row102 sz103 by103 zero103
attribute [go_sem] row103 arr103 bld103 sz104 by104 zero104 row104 sz105 by105 zero105 row105 sz106
attribute [go_sem] by106 zero106 row106 fld106_0 fld106_1 bld106 sz107 by107 zero107 row107 fld107_0 fld107_1
attribute [go_sem] bld107 sz108 by108 zero108 row108 arr108 bld108 sz109 by109 zero109 row109 sz111
attribute [go_sem] by111 zero111 row111 sz112 by112 zero112 row112 slc112 sz113 by113 zero113 row113
attribute [go_sem] sz114 by114 zero114 row114 sz115 by115 zero115 row115 sz116 by116 zero116 row116
attribute [go_sem] sz117 by117 zero117 row117 arr117 bld117 sz118 by118 zero118 row118 sz119 by119
attribute [go_sem] zero119 row119 sz121 by121 zero121 row121 sz122 by122 zero122 row122 sz123 by123
attribute [go_sem] zero123 row123 fld123_0 fld123_1 bld123 sz124 by124 zero124 row124 fld124_0 fld124_1 bld124
attribute [go_sem] sz125 by125 zero125 row125 sz126 by126 zero126 row126 sz127 by127 zero127 row127
attribute [go_sem] sz129 by129 zero129 row129 sz130 by130 zero130 row130 sz131 by131 zero131 row131
attribute [go_sem] sz133 by133 zero133 row133 sz134 by134 zero134 row134 sz135 by135 zero135 row135
attribute [go_sem] sz136 by136 zero136 row136 sz137 by137 zero137 row137 sz138 by138 zero138 row138
attribute [go_sem] fld138_0 fld138_1 fld138_2 fld138_3 bld138 sz139 by139 zero139 row139 fld139_0 fld139_1 fld139_2
attribute [go_sem] fld139_3 bld139 sz140 by140 zero140 row140 arr140 bld140 sz141 by141 zero141 row141
attribute [go_sem] fld141_0 bld141 sz142 by142 zero142 row142 fld142_0 bld142 sz143 by143 zero143 row143
attribute [go_sem] sz144 by144 zero144 row144 sz145 by145 zero145 row145 sz146 by146 zero146 row146
attribute [go_sem] sz147 by147 zero147 row147 sz148 by148 zero148 row148 fld148_0 fld148_1 fld148_2 fld148_3
attribute [go_sem] fld148_4 fld148_5 fld148_6 fld148_7 fld148_8 fld148_9 fld148_10 bld148 sz149 by149 zero149 row149
attribute [go_sem] fld149_0 fld149_1 fld149_2 fld149_3 fld149_4 fld149_5 fld149_6 fld149_7 fld149_8 fld149_9 fld149_10 bld149
attribute [go_sem] agt41 agt42 agt64 agt65 agt67 agt68 agt103 agt106 agt107 agt117
attribute [go_sem] Try.underlying0 Try.underlying1 Try.underlying2 Try.underlying3 Try.underlying4 Try.underlying5 Try.underlying6 Try.underlying7 Try.underlying8 Try.underlying9
attribute [go_sem] Try.underlying10 Try.underlying11 Try.underlying12 Try.underlying13 Try.underlying14 Try.underlying15 Try.underlying16 Try.underlying17 Try.underlying18 Try.underlying19
attribute [go_sem] Try.underlying20 Try.underlying21 Try.underlying22 Try.underlying23 Try.underlying24 Try.underlying25 Try.underlying26 Try.underlying27 Try.underlying28 Try.underlying29
attribute [go_sem] Try.underlying30 Try.underlying31 Try.underlying32 Try.underlying33 Try.underlying34 Try.underlying35 Try.underlying36 Try.underlying37 Try.underlying38 Try.underlying39
attribute [go_sem] Try.underlying40 Try.underlying41 Try.underlying42 Try.underlying43 Try.underlying44 Try.underlying45 Try.underlying46 Try.underlying47 Try.underlying48 Try.underlying49
attribute [go_sem] Try.underlying50 Try.underlying51 Try.underlying52 Try.underlying53 Try.underlying54 Try.underlying55 Try.underlying56 Try.underlying57 Try.underlying58 Try.underlying59
attribute [go_sem] Try.underlying60 Try.underlying61 Try.underlying62 Try.underlying63 Try.underlying64 Try.underlying65 Try.underlying66 Try.underlying67 Try.underlying68 Try.underlying69
attribute [go_sem] Try.underlying70 Try.underlying71 Try.underlying72 Try.underlying73 Try.underlying74 Try.underlying75 Try.underlying76 Try.underlying77 Try.underlying78 Try.underlying79
attribute [go_sem] Try.underlying80 Try.underlying81 Try.underlying82 Try.underlying83 Try.underlying84 Try.underlying85 Try.underlying86 Try.underlying87 Try.underlying88 Try.underlying89
attribute [go_sem] Try.underlying90 Try.underlying91 Try.underlying92 Try.underlying93 Try.underlying94 Try.underlying95 Try.underlying96 Try.underlying97 Try.underlying98 Try.underlying99
attribute [go_sem] Try.underlying100 Try.underlying101 Try.underlying102 Try.underlying103 Try.underlying104 Try.underlying105 Try.underlying106 Try.underlying107 Try.underlying108 Try.underlying109
attribute [go_sem] Try.underlying110 Try.underlying111 Try.underlying112 Try.underlying113 Try.underlying114 Try.underlying115 Try.underlying116 Try.underlying117 Try.underlying118 Try.underlying119
attribute [go_sem] Try.underlying120 Try.underlying121 Try.underlying122 Try.underlying123 Try.underlying124 Try.underlying125 Try.underlying126 Try.underlying127 Try.underlying128 Try.underlying129
attribute [go_sem] Try.underlying130 Try.underlying131 Try.underlying132 Try.underlying133 Try.underlying134 Try.underlying135 Try.underlying136 Try.underlying137 Try.underlying138 Try.underlying139
attribute [go_sem] Try.underlying140 Try.underlying141 Try.underlying142 Try.underlying143 Try.underlying144 Try.underlying145 Try.underlying146 Try.underlying147 Try.underlying148 Try.underlying149
attribute [go_sem] Try.results3 Try.ntmps3 Try.results4 Try.ntmps4 Try.results5 Try.ntmps5 Try.results6 Try.ntmps6 Try.results7 Try.ntmps7 Try.results8 Try.ntmps8 Try.results9 Try.ntmps9 Try.results10 Try.ntmps10 Try.results11 Try.ntmps11 Try.results12 Try.ntmps12
attribute [go_sem] Try.results13 Try.ntmps13 Try.results14 Try.ntmps14 Try.results15 Try.ntmps15 Try.results16 Try.ntmps16 Try.results17 Try.ntmps17 Try.results18 Try.ntmps18 Try.results19 Try.ntmps19 Try.results20 Try.ntmps20 Try.results21 Try.ntmps21 Try.results22 Try.ntmps22
attribute [go_sem] Try.results23 Try.ntmps23 Try.results24 Try.ntmps24 Try.results25 Try.ntmps25 Try.results26 Try.ntmps26 Try.results27 Try.ntmps27 Try.results28 Try.ntmps28 Try.results29 Try.ntmps29 Try.results30 Try.ntmps30 Try.results31 Try.ntmps31 Try.results32 Try.ntmps32
attribute [go_sem] Try.results33 Try.ntmps33 Try.results34 Try.ntmps34 Try.results35 Try.ntmps35 Try.results36 Try.ntmps36 Try.results37 Try.ntmps37 Try.results38 Try.ntmps38 Try.results39 Try.ntmps39 Try.results40 Try.ntmps40 Try.results41 Try.ntmps41 Try.results42 Try.ntmps42
attribute [go_sem] Try.results43 Try.ntmps43 Try.results44 Try.ntmps44 Try.results45 Try.ntmps45 Try.results46 Try.ntmps46 Try.results47 Try.ntmps47 Try.results48 Try.ntmps48 Try.results49 Try.ntmps49 Try.results50 Try.ntmps50 Try.results51 Try.ntmps51 Try.results52 Try.ntmps52
attribute [go_sem] Try.results53 Try.ntmps53 Try.results54 Try.ntmps54 Try.results55 Try.ntmps55 Try.results56 Try.ntmps56 Try.results57 Try.ntmps57 Try.results58 Try.ntmps58 Try.results59 Try.ntmps59 Try.results60 Try.ntmps60 Try.results61 Try.ntmps61 Try.results62 Try.ntmps62
attribute [go_sem] Try.results63 Try.ntmps63 Try.results64 Try.ntmps64 Try.results65 Try.ntmps65 Try.results66 Try.ntmps66 Try.results67 Try.ntmps67 Try.results68 Try.ntmps68 Try.results69 Try.ntmps69 Try.results70 Try.ntmps70 Try.results71 Try.ntmps71 Try.results72 Try.ntmps72
attribute [go_sem] Try.results73 Try.ntmps73 Try.results74 Try.ntmps74 Try.results75 Try.ntmps75 Try.results76 Try.ntmps76 Try.results77 Try.ntmps77 Try.results78 Try.ntmps78 Try.results79 Try.ntmps79 Try.results80 Try.ntmps80 Try.results81 Try.ntmps81 Try.results82 Try.ntmps82
attribute [go_sem] Try.results83 Try.ntmps83 Try.results84 Try.ntmps84 Try.results85 Try.ntmps85 Try.results86 Try.ntmps86 Try.results87 Try.ntmps87 Try.results88 Try.ntmps88 Try.results89 Try.ntmps89 Try.results90 Try.ntmps90 Try.results91 Try.ntmps91 Try.results92 Try.ntmps92
attribute [go_sem] Try.results93 Try.ntmps93 Try.results94 Try.ntmps94 Try.results95 Try.ntmps95 Try.results96 Try.ntmps96 Try.results97 Try.ntmps97 Try.results98 Try.ntmps98 Try.results99 Try.ntmps99 Try.results100 Try.ntmps100 Try.results101 Try.ntmps101 Try.results102 Try.ntmps102
attribute [go_sem] Try.results103 Try.ntmps103 Try.results104 Try.ntmps104 Try.results105 Try.ntmps105 Try.results106 Try.ntmps106
end Go.Vm.Ty
end
section
namespace Go.Vm
open Go.Proofs
set_option maxRecDepth 20000
theorem vtuple_zero : vtuple [] = .tup [] := rfl
theorem chr_spec (n : Int) : PureFn Try.prog 49 [.i64 n] (.str [BitVec.ofInt 8 n]) := by
  refine pure_of_vc (by kernel_rfl) (fn := Try.f49) (by kernel_rfl) Try.func49 rfl (by show 1 ≤ 7; decide) (by simp [lows, V.low]) (by simp [lows, V.low, lows_ite, low_ite]) (go_start ?_)
  simp only [go_sem, ↓reduceIte, Nat.reduceEqDiff, Nat.reduceLT, Nat.reduceLeDiff, Nat.reduceAdd, Nat.reduceSub, Nat.reduceMul, Nat.reduceMod, Nat.reduceDiv, Int.reduceLE, Int.reduceLT, Int.reduceToNat, Int.reduceAdd, Int.reduceSub, Int.reduceMul, Int.reduceEq, Int.reduceNeg, BitVec.reduceOfInt, BitVec.reduceToNat, BitVec.reduceEq, BitVec.reduceNe, BitVec.reduceLT, reduceCtorEq, and_true, true_and, and_self, Nat.succ_ne_self, decide_true, decide_false, Bool.false_eq_true, Nat.one_ne_zero, Nat.zero_ne_one, Nat.not_lt_zero, Nat.zero_lt_succ, ge_iff_le, gt_iff_lt, decide_eq_true_eq, Option.some.injEq, List.getElem?_cons_zero, List.getElem?_cons_succ, List.length_cons, List.length_nil, Int.natCast_zero, List.map_cons, List.map_nil, List.append_nil, List.nil_append, List.cons_append, vconv, Option.map_some, Option.map_none, List.getD_cons_zero, List.getD_cons_succ, List.not_mem_nil, false_implies, implies_true, List.getElem?_toArray, Option.bind_some, List.set_cons_zero, List.set_cons_succ, List.take_succ_cons, List.take_zero, List.drop_succ_cons, List.drop_zero, List.drop_nil, List.take_nil, List.forall_mem_cons, List.forall_mem_nil, V.u8.injEq, exists_eq', Nat.zero_mul, Nat.one_mul, Nat.zero_add, Nat.mul_one, Nat.add_zero, Int.toNat_natCast, Int.cast_ofNat_Int, ne_eq, not_true_eq_false, not_false_eq_true, List.length_set, List.length_append, List.length_take, List.length_drop, List.length_replicate, Option.isSome_none, Option.isSome_some, w64_of, Bool.not_true, Bool.not_false, Bool.true_and, Bool.false_and, Bool.and_true, Bool.and_false, Bool.true_or, Bool.false_or, Bool.or_true, Bool.or_false, Bool.not_eq_true', decide_eq_false_iff_not, beq_self_eq_true, List.take_length, Nat.le_refl, Int.le_refl, Blk.mk.injEq, Try.ntmps49, Try.results49]
theorem outside_spec (n l h : Int) : PureFn Try.prog 59 [.i64 n, .i64 l, .i64 h] (.bool (decide (n < l ∨ h < n))) := by
  by_cases h1 : n < l
  · refine pure_of_vc (by kernel_rfl) (fn := Try.f59) (by kernel_rfl) Try.func59 rfl (by show 3 ≤ 15; decide) (by simp [lows, V.low]) (by simp [lows, V.low, lows_ite, low_ite]) (go_start ?_)
    simp only [go_sem, ↓reduceIte, Nat.reduceEqDiff, Nat.reduceLT, Nat.reduceLeDiff, Nat.reduceAdd, Nat.reduceSub, Nat.reduceMul, Nat.reduceMod, Nat.reduceDiv, Int.reduceLE, Int.reduceLT, Int.reduceToNat, Int.reduceAdd, Int.reduceSub, Int.reduceMul, Int.reduceEq, Int.reduceNeg, BitVec.reduceOfInt, BitVec.reduceToNat, BitVec.reduceEq, BitVec.reduceNe, BitVec.reduceLT, reduceCtorEq, and_true, true_and, and_self, Nat.succ_ne_self, decide_true, decide_false, Bool.false_eq_true, Nat.one_ne_zero, Nat.zero_ne_one, Nat.not_lt_zero, Nat.zero_lt_succ, ge_iff_le, gt_iff_lt, decide_eq_true_eq, Option.some.injEq, List.getElem?_cons_zero, List.getElem?_cons_succ, List.length_cons, List.length_nil, Int.natCast_zero, List.map_cons, List.map_nil, List.append_nil, List.nil_append, List.cons_append, vconv, Option.map_some, Option.map_none, List.getD_cons_zero, List.getD_cons_succ, List.not_mem_nil, false_implies, implies_true, List.getElem?_toArray, Option.bind_some, List.set_cons_zero, List.set_cons_succ, List.take_succ_cons, List.take_zero, List.drop_succ_cons, List.drop_zero, List.drop_nil, List.take_nil, List.forall_mem_cons, List.forall_mem_nil, V.u8.injEq, exists_eq', Nat.zero_mul, Nat.one_mul, Nat.zero_add, Nat.mul_one, Nat.add_zero, Int.toNat_natCast, Int.cast_ofNat_Int, ne_eq, not_true_eq_false, not_false_eq_true, List.length_set, List.length_append, List.length_take, List.length_drop, List.length_replicate, Option.isSome_none, Option.isSome_some, w64_of, Bool.not_true, Bool.not_false, Bool.true_and, Bool.false_and, Bool.and_true, Bool.and_false, Bool.true_or, Bool.false_or, Bool.or_true, Bool.or_false, Bool.not_eq_true', decide_eq_false_iff_not, beq_self_eq_true, List.take_length, Nat.le_refl, Int.le_refl, Blk.mk.injEq, Try.ntmps59, Try.results59, h1, true_or]
  · refine pure_of_vc (by kernel_rfl) (fn := Try.f59) (by kernel_rfl) Try.func59 rfl (by show 3 ≤ 15; decide) (by simp [lows, V.low]) (by simp [lows, V.low, lows_ite, low_ite]) (go_start ?_)
    simp only [go_sem, ↓reduceIte, Nat.reduceEqDiff, Nat.reduceLT, Nat.reduceLeDiff, Nat.reduceAdd, Nat.reduceSub, Nat.reduceMul, Nat.reduceMod, Nat.reduceDiv, Int.reduceLE, Int.reduceLT, Int.reduceToNat, Int.reduceAdd, Int.reduceSub, Int.reduceMul, Int.reduceEq, Int.reduceNeg, BitVec.reduceOfInt, BitVec.reduceToNat, BitVec.reduceEq, BitVec.reduceNe, BitVec.reduceLT, reduceCtorEq, and_true, true_and, and_self, Nat.succ_ne_self, decide_true, decide_false, Bool.false_eq_true, Nat.one_ne_zero, Nat.zero_ne_one, Nat.not_lt_zero, Nat.zero_lt_succ, ge_iff_le, gt_iff_lt, decide_eq_true_eq, Option.some.injEq, List.getElem?_cons_zero, List.getElem?_cons_succ, List.length_cons, List.length_nil, Int.natCast_zero, List.map_cons, List.map_nil, List.append_nil, List.nil_append, List.cons_append, vconv, Option.map_some, Option.map_none, List.getD_cons_zero, List.getD_cons_succ, List.not_mem_nil, false_implies, implies_true, List.getElem?_toArray, Option.bind_some, List.set_cons_zero, List.set_cons_succ, List.take_succ_cons, List.take_zero, List.drop_succ_cons, List.drop_zero, List.drop_nil, List.take_nil, List.forall_mem_cons, List.forall_mem_nil, V.u8.injEq, exists_eq', Nat.zero_mul, Nat.one_mul, Nat.zero_add, Nat.mul_one, Nat.add_zero, Int.toNat_natCast, Int.cast_ofNat_Int, ne_eq, not_true_eq_false, not_false_eq_true, List.length_set, List.length_append, List.length_take, List.length_drop, List.length_replicate, Option.isSome_none, Option.isSome_some, w64_of, Bool.not_true, Bool.not_false, Bool.true_and, Bool.false_and, Bool.and_true, Bool.and_false, Bool.true_or, Bool.false_or, Bool.or_true, Bool.or_false, Bool.not_eq_true', decide_eq_false_iff_not, beq_self_eq_true, List.take_length, Nat.le_refl, Int.le_refl, Blk.mk.injEq, Try.ntmps59, Try.results59, h1, false_or]
theorem byte_rem (n : BitVec 64) : BitVec.ofInt 8 (w64 ((n % 256#64).toNat : Int)) = n.setWidth 8 := by
  have h : (n % 256#64).toNat = n.toNat % 256 := by rw [BitVec.toNat_umod]; rfl
  rw [h, w64_of (by omega) (by omega), BitVec.ofInt_natCast]
  apply BitVec.eq_of_toNat_eq
  rw [BitVec.toNat_ofNat, BitVec.toNat_setWidth]
  omega
theorem byte_quo (n : BitVec 64) : BitVec.ofNat 64 (n.toNat / 256) = n / 256#64 := by
  apply BitVec.eq_of_toNat_eq
  have := n.isLt
  rw [BitVec.toNat_ofNat, BitVec.toNat_udiv]
  show (n.toNat / 256) % 2 ^ 64 = n.toNat / 256
  omega
theorem byte_mod (n : BitVec 64) : BitVec.ofNat 8 n.toNat = n.setWidth 8 := by
  apply BitVec.eq_of_toNat_eq
  rw [BitVec.toNat_ofNat, BitVec.toNat_setWidth]
end Go.Vm
end
section
namespace Go.Vm
open Go.Proofs
set_option maxRecDepth 20000
theorem le_snoc (s : List (BitVec 8)) (b : BitVec 8) : le (s ++ [b]) = le s + 256 ^ s.length * b.toNat := by
  induction s with
  | nil => simp [le]
  | cons a s ih => rw [List.cons_append, le, ih, le, List.length_cons, pow256, Nat.mul_add, Nat.mul_assoc]; omega
/-- A byte above a number. -/
theorem or_shl {n i : Nat} (h : n < 256 ^ i) (hi : i < 8) (b : BitVec 8) : BitVec.ofNat 64 n ||| b.setWidth 64 <<< (8 * i) = BitVec.ofNat 64 (n + 256 ^ i * b.toNat) := by
  have hp : (256 : Nat) ^ i = 2 ^ (8 * i) := by rw [Nat.pow_mul]
  have h8 : (256 : Nat) ^ i * 256 ≤ 256 ^ 8 := by
    have : (256 : Nat) ^ (i + 1) ≤ 256 ^ 8 := Nat.pow_le_pow_right (by omega) (by omega)
    rwa [Nat.pow_succ] at this
  have hb := b.isLt
  have hm : 256 ^ i * b.toNat ≤ 256 ^ i * 255 := Nat.mul_le_mul_left _ (by omega)
  have hpos : 0 < (256 : Nat) ^ i := Nat.pow_pos (by omega)
  have e8 : (256 : Nat) ^ 8 = 18446744073709551616 := by decide
  have e64 : (2 : Nat) ^ 64 = 18446744073709551616 := by decide
  apply BitVec.eq_of_toNat_eq
  rw [BitVec.toNat_or, BitVec.toNat_shiftLeft, BitVec.toNat_ofNat, BitVec.toNat_setWidth, BitVec.toNat_ofNat, Nat.shiftLeft_eq, ← hp]
  rw [Nat.mod_eq_of_lt (by omega : n < 2 ^ 64), Nat.mod_eq_of_lt (by omega : b.toNat < 2 ^ 64), Nat.mul_comm b.toNat, Nat.mod_eq_of_lt (by omega : 256 ^ i * b.toNat < 2 ^ 64), Nat.mod_eq_of_lt (by omega : n + 256 ^ i * b.toNat < 2 ^ 64)]
  rw [Nat.or_comm, hp, ← Nat.two_pow_add_eq_or_of_lt (by rw [← hp]; exact h), Nat.add_comm]
theorem Little_spec (s : List (BitVec 8)) (hs : s.length ≤ 4611686018427387904) : PureFn Try.prog 75 [.str s] (.u64 (BitVec.ofNat 64 (le (s.take 8)))) := by
  obtain ⟨N, hN, hN8, hNs, hif⟩ : ∃ N : Nat, (N = if 8 < s.length then 8 else s.length) ∧ N ≤ 8 ∧ N ≤ s.length ∧ (if (8 : Int) < (s.length : Int) then (8 : Int) else (s.length : Int)) = (N : Int) := by
    by_cases h : 8 < s.length
    · exact ⟨8, by rw [if_pos h], by omega, by omega, by rw [if_pos (by omega)]; rfl⟩
    · exact ⟨s.length, by rw [if_neg h], by omega, by omega, by rw [if_neg (by omega)]⟩
  have ht : s.take 8 = s.take N := by
    by_cases h : 8 < s.length
    · rw [if_pos h] at hN; rw [hN]
    · rw [if_neg h] at hN; rw [hN, List.take_of_length_le (by omega), List.take_of_length_le (by omega)]
  rw [ht]
  refine pure_of_vc (by kernel_rfl) (fn := Try.f75) (by kernel_rfl) Try.func75 rfl (by show 1 ≤ 22; decide) (by simp [lows, V.low]) (by simp [lows, V.low, lows_ite, low_ite]) (go_start ?_)
  simp only [go_sem, ↓reduceIte, Nat.reduceEqDiff, Nat.reduceLT, Nat.reduceLeDiff, Nat.reduceAdd, Nat.reduceSub, Nat.reduceMul, Nat.reduceMod, Nat.reduceDiv, Int.reduceLE, Int.reduceLT, Int.reduceToNat, Int.reduceAdd, Int.reduceSub, Int.reduceMul, Int.reduceEq, Int.reduceNeg, BitVec.reduceOfInt, BitVec.reduceToNat, BitVec.reduceEq, BitVec.reduceNe, BitVec.reduceLT, reduceCtorEq, and_true, true_and, and_self, Nat.succ_ne_self, decide_true, decide_false, Bool.false_eq_true, Nat.one_ne_zero, Nat.zero_ne_one, Nat.not_lt_zero, Nat.zero_lt_succ, ge_iff_le, gt_iff_lt, decide_eq_true_eq, Option.some.injEq, List.getElem?_cons_zero, List.getElem?_cons_succ, List.length_cons, List.length_nil, Int.natCast_zero, List.map_cons, List.map_nil, List.append_nil, List.nil_append, List.cons_append, vconv, Option.map_some, Option.map_none, List.getD_cons_zero, List.getD_cons_succ, List.not_mem_nil, false_implies, implies_true, List.getElem?_toArray, Option.bind_some, List.set_cons_zero, List.set_cons_succ, List.take_succ_cons, List.take_zero, List.drop_succ_cons, List.drop_zero, List.drop_nil, List.take_nil, List.forall_mem_cons, List.forall_mem_nil, V.u8.injEq, exists_eq', Nat.zero_mul, Nat.one_mul, Nat.zero_add, Nat.mul_one, Nat.add_zero, Int.toNat_natCast, Int.cast_ofNat_Int, ne_eq, not_true_eq_false, not_false_eq_true, List.length_set, List.length_append, List.length_take, List.length_drop, List.length_replicate, Option.isSome_none, Option.isSome_some, w64_of, Bool.not_true, Bool.not_false, Bool.true_and, Bool.false_and, Bool.and_true, Bool.and_false, Bool.true_or, Bool.false_or, Bool.or_true, Bool.or_false, Bool.not_eq_true', decide_eq_false_iff_not, beq_self_eq_true, List.take_length, Nat.le_refl, Int.le_refl, Blk.mk.injEq, Try.ntmps75, Try.results75, hif]
  refine go_loop (fun j st => ∃ i : Nat, i + j = N ∧ st = ⟨[(0, .str s), (3, .u64 (BitVec.ofNat 64 (le (s.take i)))), (7, .i64 N), (8, .i64 i)], []⟩) ?_ ?_
  · exact start_mk (N) ⟨[(0, .str s), (3, .u64 (BitVec.ofNat 64 (le (s.take (0 : Nat))))), (7, .i64 N), (8, .i64 (0 : Nat))], []⟩ (by simp [St.get, lookS, le]) rfl (fun _ _ h => h) ⟨0, by omega, rfl⟩
  rintro j st ⟨i, hi, rfl⟩ _
  simp only [go_sem, ↓reduceIte, Nat.reduceEqDiff, Nat.reduceLT, Nat.reduceLeDiff, Nat.reduceAdd, Nat.reduceSub, Nat.reduceMul, Nat.reduceMod, Nat.reduceDiv, Int.reduceLE, Int.reduceLT, Int.reduceToNat, Int.reduceAdd, Int.reduceSub, Int.reduceMul, Int.reduceEq, Int.reduceNeg, BitVec.reduceOfInt, BitVec.reduceToNat, BitVec.reduceEq, BitVec.reduceNe, BitVec.reduceLT, reduceCtorEq, and_true, true_and, and_self, Nat.succ_ne_self, decide_true, decide_false, Bool.false_eq_true, Nat.one_ne_zero, Nat.zero_ne_one, Nat.not_lt_zero, Nat.zero_lt_succ, ge_iff_le, gt_iff_lt, decide_eq_true_eq, Option.some.injEq, List.getElem?_cons_zero, List.getElem?_cons_succ, List.length_cons, List.length_nil, Int.natCast_zero, List.map_cons, List.map_nil, List.append_nil, List.nil_append, List.cons_append, vconv, Option.map_some, Option.map_none, List.getD_cons_zero, List.getD_cons_succ, List.not_mem_nil, false_implies, implies_true, List.getElem?_toArray, Option.bind_some, List.set_cons_zero, List.set_cons_succ, List.take_succ_cons, List.take_zero, List.drop_succ_cons, List.drop_zero, List.drop_nil, List.take_nil, List.forall_mem_cons, List.forall_mem_nil, V.u8.injEq, exists_eq', Nat.zero_mul, Nat.one_mul, Nat.zero_add, Nat.mul_one, Nat.add_zero, Int.toNat_natCast, Int.cast_ofNat_Int, ne_eq, not_true_eq_false, not_false_eq_true, List.length_set, List.length_append, List.length_take, List.length_drop, List.length_replicate, Option.isSome_none, Option.isSome_some, w64_of, Bool.not_true, Bool.not_false, Bool.true_and, Bool.false_and, Bool.and_true, Bool.and_false, Bool.true_or, Bool.false_or, Bool.or_true, Bool.or_false, Bool.not_eq_true', decide_eq_false_iff_not, beq_self_eq_true, List.take_length, Nat.le_refl, Int.le_refl, Blk.mk.injEq]
  by_cases h0 : i < N
  · have h0' : (i : Int) < (N : Int) := by omega
    have h1' : (i : Int) < (s.length : Int) := by omega
    have hi8 : i < s.length := by omega
    have hw8 : w64 (8 * (i : Int)) = ((8 * i : Nat) : Int) := by rw [w64_of (by omega) (by omega)]; omega
    have hl := le_lt (s.take i)
    have htl : (s.take i).length = i := by simp; omega
    rw [htl] at hl
    simp only [go_sem, ↓reduceIte, Nat.reduceEqDiff, Nat.reduceLT, Nat.reduceLeDiff, Nat.reduceAdd, Nat.reduceSub, Nat.reduceMul, Nat.reduceMod, Nat.reduceDiv, Int.reduceLE, Int.reduceLT, Int.reduceToNat, Int.reduceAdd, Int.reduceSub, Int.reduceMul, Int.reduceEq, Int.reduceNeg, BitVec.reduceOfInt, BitVec.reduceToNat, BitVec.reduceEq, BitVec.reduceNe, BitVec.reduceLT, reduceCtorEq, and_true, true_and, and_self, Nat.succ_ne_self, decide_true, decide_false, Bool.false_eq_true, Nat.one_ne_zero, Nat.zero_ne_one, Nat.not_lt_zero, Nat.zero_lt_succ, ge_iff_le, gt_iff_lt, decide_eq_true_eq, Option.some.injEq, List.getElem?_cons_zero, List.getElem?_cons_succ, List.length_cons, List.length_nil, Int.natCast_zero, List.map_cons, List.map_nil, List.append_nil, List.nil_append, List.cons_append, vconv, Option.map_some, Option.map_none, List.getD_cons_zero, List.getD_cons_succ, List.not_mem_nil, false_implies, implies_true, List.getElem?_toArray, Option.bind_some, List.set_cons_zero, List.set_cons_succ, List.take_succ_cons, List.take_zero, List.drop_succ_cons, List.drop_zero, List.drop_nil, List.take_nil, List.forall_mem_cons, List.forall_mem_nil, V.u8.injEq, exists_eq', Nat.zero_mul, Nat.one_mul, Nat.zero_add, Nat.mul_one, Nat.add_zero, Int.toNat_natCast, Int.cast_ofNat_Int, ne_eq, not_true_eq_false, not_false_eq_true, List.length_set, List.length_append, List.length_take, List.length_drop, List.length_replicate, Option.isSome_none, Option.isSome_some, w64_of, Bool.not_true, Bool.not_false, Bool.true_and, Bool.false_and, Bool.and_true, Bool.and_false, Bool.true_or, Bool.false_or, Bool.or_true, Bool.or_false, Bool.not_eq_true', decide_eq_false_iff_not, beq_self_eq_true, List.take_length, Nat.le_refl, Int.le_refl, Blk.mk.injEq, h0', h1', hw8]
    refine ⟨by omega, by omega, ?_⟩
    refine again_mk (j - 1) ⟨[(0, .str s), (3, .u64 (BitVec.ofNat 64 (le (s.take (i + 1 : Nat))))), (7, .i64 N), (8, .i64 (i + 1 : Nat))], []⟩ (by omega) ?_ rfl (fun _ _ h => h) ⟨i + 1, by omega, rfl⟩
    have hw1 : w64 ((i : Int) + 1) = ((i + 1 : Nat) : Int) := by rw [w64_of (by omega) (by omega)]; omega
    simp [St.get, lookS, hw1, take_snoc hi8, le_snoc, htl]
    have := or_shl hl (by omega) (s.getD i 0)
    rw [List.getD_eq_getElem?_getD] at this
    exact this.symm
  · have h0' : ¬ (i : Int) < (N : Int) := by omega
    simp only [go_sem, ↓reduceIte, Nat.reduceEqDiff, Nat.reduceLT, Nat.reduceLeDiff, Nat.reduceAdd, Nat.reduceSub, Nat.reduceMul, Nat.reduceMod, Nat.reduceDiv, Int.reduceLE, Int.reduceLT, Int.reduceToNat, Int.reduceAdd, Int.reduceSub, Int.reduceMul, Int.reduceEq, Int.reduceNeg, BitVec.reduceOfInt, BitVec.reduceToNat, BitVec.reduceEq, BitVec.reduceNe, BitVec.reduceLT, reduceCtorEq, and_true, true_and, and_self, Nat.succ_ne_self, decide_true, decide_false, Bool.false_eq_true, Nat.one_ne_zero, Nat.zero_ne_one, Nat.not_lt_zero, Nat.zero_lt_succ, ge_iff_le, gt_iff_lt, decide_eq_true_eq, Option.some.injEq, List.getElem?_cons_zero, List.getElem?_cons_succ, List.length_cons, List.length_nil, Int.natCast_zero, List.map_cons, List.map_nil, List.append_nil, List.nil_append, List.cons_append, vconv, Option.map_some, Option.map_none, List.getD_cons_zero, List.getD_cons_succ, List.not_mem_nil, false_implies, implies_true, List.getElem?_toArray, Option.bind_some, List.set_cons_zero, List.set_cons_succ, List.take_succ_cons, List.take_zero, List.drop_succ_cons, List.drop_zero, List.drop_nil, List.take_nil, List.forall_mem_cons, List.forall_mem_nil, V.u8.injEq, exists_eq', Nat.zero_mul, Nat.one_mul, Nat.zero_add, Nat.mul_one, Nat.add_zero, Int.toNat_natCast, Int.cast_ofNat_Int, ne_eq, not_true_eq_false, not_false_eq_true, List.length_set, List.length_append, List.length_take, List.length_drop, List.length_replicate, Option.isSome_none, Option.isSome_some, w64_of, Bool.not_true, Bool.not_false, Bool.true_and, Bool.false_and, Bool.and_true, Bool.and_false, Bool.true_or, Bool.false_or, Bool.or_true, Bool.or_false, Bool.not_eq_true', decide_eq_false_iff_not, beq_self_eq_true, List.take_length, Nat.le_refl, Int.le_refl, Blk.mk.injEq, h0']
    rw [show i = N by omega]
theorem byteAt (n : BitVec 64) (k : Nat) : (n >>> k).setWidth 8 = BitVec.ofNat 8 (n.toNat / 2 ^ k) := by
  apply BitVec.eq_of_toNat_eq
  rw [BitVec.toNat_setWidth, BitVec.toNat_ushiftRight, BitVec.toNat_ofNat, Nat.shiftRight_eq_div_pow]
theorem beB8 (n : BitVec 64) : beB n.toNat 8 = [(n >>> 56).setWidth 8, (n >>> 48).setWidth 8, (n >>> 40).setWidth 8, (n >>> 32).setWidth 8, (n >>> 24).setWidth 8, (n >>> 16).setWidth 8, (n >>> 8).setWidth 8, (n >>> 0).setWidth 8] := by
  simp only [byteAt, beB, Nat.div_div_eq_div_mul, List.nil_append, List.cons_append, Nat.reduceMul, Nat.reducePow, Nat.div_one]
theorem beB4 (n : BitVec 64) : beB n.toNat 4 = [(n >>> 24).setWidth 8, (n >>> 16).setWidth 8, (n >>> 8).setWidth 8, (n >>> 0).setWidth 8] := by
  simp only [byteAt, beB, Nat.div_div_eq_div_mul, List.nil_append, List.cons_append, Nat.reduceMul, Nat.reducePow, Nat.div_one]
theorem leB8 (n : BitVec 64) : leB n.toNat 8 = [(n >>> 0).setWidth 8, (n >>> 8).setWidth 8, (n >>> 16).setWidth 8, (n >>> 24).setWidth 8, (n >>> 32).setWidth 8, (n >>> 40).setWidth 8, (n >>> 48).setWidth 8, (n >>> 56).setWidth 8] := by
  simp only [byteAt, leB, Nat.div_div_eq_div_mul, Nat.reduceMul, Nat.reducePow, Nat.div_one]
theorem leB4 (n : BitVec 64) : leB n.toNat 4 = [(n >>> 0).setWidth 8, (n >>> 8).setWidth 8, (n >>> 16).setWidth 8, (n >>> 24).setWidth 8] := by
  simp only [byteAt, leB, Nat.div_div_eq_div_mul, Nat.reduceMul, Nat.reducePow, Nat.div_one]
theorem AppLittle4_nil (n : BitVec 64) : Spec0 Try.prog 76 [.nilSlice, .u64 n, .i64 4] [] (.slice 0 0 4 1) [some ⟨false, (leB n.toNat 4).map .u8⟩] := by
  rw [leB4]
  refine spec0_of_vc (by kernel_rfl) (fn := Try.f76) Try.func76 rfl (by show 3 ≤ 22; decide) (go_start ?_)
  simp only [go_sem, ↓reduceIte, Nat.reduceEqDiff, Nat.reduceLT, Nat.reduceLeDiff, Nat.reduceAdd, Nat.reduceSub, Nat.reduceMul, Nat.reduceMod, Nat.reduceDiv, Int.reduceLE, Int.reduceLT, Int.reduceToNat, Int.reduceAdd, Int.reduceSub, Int.reduceMul, Int.reduceEq, Int.reduceNeg, BitVec.reduceOfInt, BitVec.reduceToNat, BitVec.reduceEq, BitVec.reduceNe, BitVec.reduceLT, reduceCtorEq, and_true, true_and, and_self, Nat.succ_ne_self, decide_true, decide_false, Bool.false_eq_true, Nat.one_ne_zero, Nat.zero_ne_one, Nat.not_lt_zero, Nat.zero_lt_succ, ge_iff_le, gt_iff_lt, decide_eq_true_eq, Option.some.injEq, List.getElem?_cons_zero, List.getElem?_cons_succ, List.length_cons, List.length_nil, Int.natCast_zero, List.map_cons, List.map_nil, List.append_nil, List.nil_append, List.cons_append, vconv, Option.map_some, Option.map_none, List.getD_cons_zero, List.getD_cons_succ, List.not_mem_nil, false_implies, implies_true, List.getElem?_toArray, Option.bind_some, List.set_cons_zero, List.set_cons_succ, List.take_succ_cons, List.take_zero, List.drop_succ_cons, List.drop_zero, List.drop_nil, List.take_nil, List.forall_mem_cons, List.forall_mem_nil, V.u8.injEq, exists_eq', Nat.zero_mul, Nat.one_mul, Nat.zero_add, Nat.mul_one, Nat.add_zero, Int.toNat_natCast, Int.cast_ofNat_Int, ne_eq, not_true_eq_false, not_false_eq_true, List.length_set, List.length_append, List.length_take, List.length_drop, List.length_replicate, Option.isSome_none, Option.isSome_some, w64_of, Bool.not_true, Bool.not_false, Bool.true_and, Bool.false_and, Bool.and_true, Bool.and_false, Bool.true_or, Bool.false_or, Bool.or_true, Bool.or_false, Bool.not_eq_true', decide_eq_false_iff_not, beq_self_eq_true, List.take_length, Nat.le_refl, Int.le_refl, Blk.mk.injEq, Try.ntmps76, Try.results76]
  refine go_unroll 5 ?_
  simp only [go_sem, ↓reduceIte, Nat.reduceEqDiff, Nat.reduceLT, Nat.reduceLeDiff, Nat.reduceAdd, Nat.reduceSub, Nat.reduceMul, Nat.reduceMod, Nat.reduceDiv, Int.reduceLE, Int.reduceLT, Int.reduceToNat, Int.reduceAdd, Int.reduceSub, Int.reduceMul, Int.reduceEq, Int.reduceNeg, BitVec.reduceOfInt, BitVec.reduceToNat, BitVec.reduceEq, BitVec.reduceNe, BitVec.reduceLT, reduceCtorEq, and_true, true_and, and_self, Nat.succ_ne_self, decide_true, decide_false, Bool.false_eq_true, Nat.one_ne_zero, Nat.zero_ne_one, Nat.not_lt_zero, Nat.zero_lt_succ, ge_iff_le, gt_iff_lt, decide_eq_true_eq, Option.some.injEq, List.getElem?_cons_zero, List.getElem?_cons_succ, List.length_cons, List.length_nil, Int.natCast_zero, List.map_cons, List.map_nil, List.append_nil, List.nil_append, List.cons_append, vconv, Option.map_some, Option.map_none, List.getD_cons_zero, List.getD_cons_succ, List.not_mem_nil, false_implies, implies_true, List.getElem?_toArray, Option.bind_some, List.set_cons_zero, List.set_cons_succ, List.take_succ_cons, List.take_zero, List.drop_succ_cons, List.drop_zero, List.drop_nil, List.take_nil, List.forall_mem_cons, List.forall_mem_nil, V.u8.injEq, exists_eq', Nat.zero_mul, Nat.one_mul, Nat.zero_add, Nat.mul_one, Nat.add_zero, Int.toNat_natCast, Int.cast_ofNat_Int, ne_eq, not_true_eq_false, not_false_eq_true, List.length_set, List.length_append, List.length_take, List.length_drop, List.length_replicate, Option.isSome_none, Option.isSome_some, w64_of, Bool.not_true, Bool.not_false, Bool.true_and, Bool.false_and, Bool.and_true, Bool.and_false, Bool.true_or, Bool.false_or, Bool.or_true, Bool.or_false, Bool.not_eq_true', decide_eq_false_iff_not, beq_self_eq_true, List.take_length, Nat.le_refl, Int.le_refl, Blk.mk.injEq]
  exact Fin.ren [7] (by simp) (by simp) (by rfl) (by decide) (by simp [-List.map_map, -List.map_set, vtuple_zero, rens_append, lows_append, sgOf_zero, sgOf_succ, rens, V.ren, lows, V.low, rens_u8, rens_u32, rens_u64, rens_i64, rens_str, lows_u8, lows_u32, lows_u64, lows_i64, lows_str, allSome, allRw, blksOk_nil, blksOk_none, blksOk_some, getH_zero, getH_succ, getH_nil]) (by simp [-List.map_map, -List.map_set, vtuple_zero, rens_append, lows_append, sgOf_zero, sgOf_succ, rens, V.ren, lows, V.low, rens_u8, rens_u32, rens_u64, rens_i64, rens_str, lows_u8, lows_u32, lows_u64, lows_i64, lows_str, allSome, allRw, blksOk_nil, blksOk_none, blksOk_some, getH_zero, getH_succ, getH_nil])
theorem AppLittle4_some (bs : List (BitVec 8)) (n : BitVec 64) (hb : bs.length ≤ 140737488351232) : Spec0 Try.prog 76 [.slice 0 0 bs.length 1, .u64 n, .i64 4] [some ⟨false, bs.map .u8⟩] (.slice 1 0 (bs.length + 4) 1) [none, some ⟨false, (bs ++ leB n.toNat 4).map .u8⟩] := by
  rw [leB4]
  refine spec0_of_vc (by kernel_rfl) (fn := Try.f76) Try.func76 rfl (by show 3 ≤ 22; decide) (go_start ?_)
  simp only [go_sem, ↓reduceIte, Nat.reduceEqDiff, Nat.reduceLT, Nat.reduceLeDiff, Nat.reduceAdd, Nat.reduceSub, Nat.reduceMul, Nat.reduceMod, Nat.reduceDiv, Int.reduceLE, Int.reduceLT, Int.reduceToNat, Int.reduceAdd, Int.reduceSub, Int.reduceMul, Int.reduceEq, Int.reduceNeg, BitVec.reduceOfInt, BitVec.reduceToNat, BitVec.reduceEq, BitVec.reduceNe, BitVec.reduceLT, reduceCtorEq, and_true, true_and, and_self, Nat.succ_ne_self, decide_true, decide_false, Bool.false_eq_true, Nat.one_ne_zero, Nat.zero_ne_one, Nat.not_lt_zero, Nat.zero_lt_succ, ge_iff_le, gt_iff_lt, decide_eq_true_eq, Option.some.injEq, List.getElem?_cons_zero, List.getElem?_cons_succ, List.length_cons, List.length_nil, Int.natCast_zero, List.map_cons, List.map_nil, List.append_nil, List.nil_append, List.cons_append, vconv, Option.map_some, Option.map_none, List.getD_cons_zero, List.getD_cons_succ, List.not_mem_nil, false_implies, implies_true, List.getElem?_toArray, Option.bind_some, List.set_cons_zero, List.set_cons_succ, List.take_succ_cons, List.take_zero, List.drop_succ_cons, List.drop_zero, List.drop_nil, List.take_nil, List.forall_mem_cons, List.forall_mem_nil, V.u8.injEq, exists_eq', Nat.zero_mul, Nat.one_mul, Nat.zero_add, Nat.mul_one, Nat.add_zero, Int.toNat_natCast, Int.cast_ofNat_Int, ne_eq, not_true_eq_false, not_false_eq_true, List.length_set, List.length_append, List.length_take, List.length_drop, List.length_replicate, Option.isSome_none, Option.isSome_some, w64_of, Bool.not_true, Bool.not_false, Bool.true_and, Bool.false_and, Bool.and_true, Bool.and_false, Bool.true_or, Bool.false_or, Bool.or_true, Bool.or_false, Bool.not_eq_true', decide_eq_false_iff_not, beq_self_eq_true, List.take_length, Nat.le_refl, Int.le_refl, Blk.mk.injEq, Try.ntmps76, Try.results76]
  refine go_unroll 5 ?_
  simp only [go_sem, ↓reduceIte, Nat.reduceEqDiff, Nat.reduceLT, Nat.reduceLeDiff, Nat.reduceAdd, Nat.reduceSub, Nat.reduceMul, Nat.reduceMod, Nat.reduceDiv, Int.reduceLE, Int.reduceLT, Int.reduceToNat, Int.reduceAdd, Int.reduceSub, Int.reduceMul, Int.reduceEq, Int.reduceNeg, BitVec.reduceOfInt, BitVec.reduceToNat, BitVec.reduceEq, BitVec.reduceNe, BitVec.reduceLT, reduceCtorEq, and_true, true_and, and_self, Nat.succ_ne_self, decide_true, decide_false, Bool.false_eq_true, Nat.one_ne_zero, Nat.zero_ne_one, Nat.not_lt_zero, Nat.zero_lt_succ, ge_iff_le, gt_iff_lt, decide_eq_true_eq, Option.some.injEq, List.getElem?_cons_zero, List.getElem?_cons_succ, List.length_cons, List.length_nil, Int.natCast_zero, List.map_cons, List.map_nil, List.append_nil, List.nil_append, List.cons_append, vconv, Option.map_some, Option.map_none, List.getD_cons_zero, List.getD_cons_succ, List.not_mem_nil, false_implies, implies_true, List.getElem?_toArray, Option.bind_some, List.set_cons_zero, List.set_cons_succ, List.take_succ_cons, List.take_zero, List.drop_succ_cons, List.drop_zero, List.drop_nil, List.take_nil, List.forall_mem_cons, List.forall_mem_nil, V.u8.injEq, exists_eq', Nat.zero_mul, Nat.one_mul, Nat.zero_add, Nat.mul_one, Nat.add_zero, Int.toNat_natCast, Int.cast_ofNat_Int, ne_eq, not_true_eq_false, not_false_eq_true, List.length_set, List.length_append, List.length_take, List.length_drop, List.length_replicate, Option.isSome_none, Option.isSome_some, w64_of, Bool.not_true, Bool.not_false, Bool.true_and, Bool.false_and, Bool.and_true, Bool.and_false, Bool.true_or, Bool.false_or, Bool.or_true, Bool.or_false, Bool.not_eq_true', decide_eq_false_iff_not, beq_self_eq_true, List.take_length, Nat.le_refl, Int.le_refl, Blk.mk.injEq, List.take_of_length_le]
  refine ⟨by omega, by omega, by omega, by omega, ?_⟩
  exact Fin.ren [0, 8] (by simp) (by simp) (by rfl) (by decide) (by simp [-List.map_map, -List.map_set, vtuple_zero, rens_append, lows_append, sgOf_zero, sgOf_succ, rens, V.ren, lows, V.low, rens_u8, rens_u32, rens_u64, rens_i64, rens_str, lows_u8, lows_u32, lows_u64, lows_i64, lows_str, allSome, allRw, blksOk_nil, blksOk_none, blksOk_some, getH_zero, getH_succ, getH_nil]) (by simp [-List.map_map, -List.map_set, vtuple_zero, rens_append, lows_append, sgOf_zero, sgOf_succ, rens, V.ren, lows, V.low, rens_u8, rens_u32, rens_u64, rens_i64, rens_str, lows_u8, lows_u32, lows_u64, lows_i64, lows_str, allSome, allRw, blksOk_nil, blksOk_none, blksOk_some, getH_zero, getH_succ, getH_nil])
theorem AppLittle8_nil (n : BitVec 64) : Spec0 Try.prog 76 [.nilSlice, .u64 n, .i64 8] [] (.slice 0 0 8 1) [some ⟨false, (leB n.toNat 8).map .u8⟩] := by
  rw [leB8]
  refine spec0_of_vc (by kernel_rfl) (fn := Try.f76) Try.func76 rfl (by show 3 ≤ 22; decide) (go_start ?_)
  simp only [go_sem, ↓reduceIte, Nat.reduceEqDiff, Nat.reduceLT, Nat.reduceLeDiff, Nat.reduceAdd, Nat.reduceSub, Nat.reduceMul, Nat.reduceMod, Nat.reduceDiv, Int.reduceLE, Int.reduceLT, Int.reduceToNat, Int.reduceAdd, Int.reduceSub, Int.reduceMul, Int.reduceEq, Int.reduceNeg, BitVec.reduceOfInt, BitVec.reduceToNat, BitVec.reduceEq, BitVec.reduceNe, BitVec.reduceLT, reduceCtorEq, and_true, true_and, and_self, Nat.succ_ne_self, decide_true, decide_false, Bool.false_eq_true, Nat.one_ne_zero, Nat.zero_ne_one, Nat.not_lt_zero, Nat.zero_lt_succ, ge_iff_le, gt_iff_lt, decide_eq_true_eq, Option.some.injEq, List.getElem?_cons_zero, List.getElem?_cons_succ, List.length_cons, List.length_nil, Int.natCast_zero, List.map_cons, List.map_nil, List.append_nil, List.nil_append, List.cons_append, vconv, Option.map_some, Option.map_none, List.getD_cons_zero, List.getD_cons_succ, List.not_mem_nil, false_implies, implies_true, List.getElem?_toArray, Option.bind_some, List.set_cons_zero, List.set_cons_succ, List.take_succ_cons, List.take_zero, List.drop_succ_cons, List.drop_zero, List.drop_nil, List.take_nil, List.forall_mem_cons, List.forall_mem_nil, V.u8.injEq, exists_eq', Nat.zero_mul, Nat.one_mul, Nat.zero_add, Nat.mul_one, Nat.add_zero, Int.toNat_natCast, Int.cast_ofNat_Int, ne_eq, not_true_eq_false, not_false_eq_true, List.length_set, List.length_append, List.length_take, List.length_drop, List.length_replicate, Option.isSome_none, Option.isSome_some, w64_of, Bool.not_true, Bool.not_false, Bool.true_and, Bool.false_and, Bool.and_true, Bool.and_false, Bool.true_or, Bool.false_or, Bool.or_true, Bool.or_false, Bool.not_eq_true', decide_eq_false_iff_not, beq_self_eq_true, List.take_length, Nat.le_refl, Int.le_refl, Blk.mk.injEq, Try.ntmps76, Try.results76]
  refine go_unroll 9 ?_
  simp only [go_sem, ↓reduceIte, Nat.reduceEqDiff, Nat.reduceLT, Nat.reduceLeDiff, Nat.reduceAdd, Nat.reduceSub, Nat.reduceMul, Nat.reduceMod, Nat.reduceDiv, Int.reduceLE, Int.reduceLT, Int.reduceToNat, Int.reduceAdd, Int.reduceSub, Int.reduceMul, Int.reduceEq, Int.reduceNeg, BitVec.reduceOfInt, BitVec.reduceToNat, BitVec.reduceEq, BitVec.reduceNe, BitVec.reduceLT, reduceCtorEq, and_true, true_and, and_self, Nat.succ_ne_self, decide_true, decide_false, Bool.false_eq_true, Nat.one_ne_zero, Nat.zero_ne_one, Nat.not_lt_zero, Nat.zero_lt_succ, ge_iff_le, gt_iff_lt, decide_eq_true_eq, Option.some.injEq, List.getElem?_cons_zero, List.getElem?_cons_succ, List.length_cons, List.length_nil, Int.natCast_zero, List.map_cons, List.map_nil, List.append_nil, List.nil_append, List.cons_append, vconv, Option.map_some, Option.map_none, List.getD_cons_zero, List.getD_cons_succ, List.not_mem_nil, false_implies, implies_true, List.getElem?_toArray, Option.bind_some, List.set_cons_zero, List.set_cons_succ, List.take_succ_cons, List.take_zero, List.drop_succ_cons, List.drop_zero, List.drop_nil, List.take_nil, List.forall_mem_cons, List.forall_mem_nil, V.u8.injEq, exists_eq', Nat.zero_mul, Nat.one_mul, Nat.zero_add, Nat.mul_one, Nat.add_zero, Int.toNat_natCast, Int.cast_ofNat_Int, ne_eq, not_true_eq_false, not_false_eq_true, List.length_set, List.length_append, List.length_take, List.length_drop, List.length_replicate, Option.isSome_none, Option.isSome_some, w64_of, Bool.not_true, Bool.not_false, Bool.true_and, Bool.false_and, Bool.and_true, Bool.and_false, Bool.true_or, Bool.false_or, Bool.or_true, Bool.or_false, Bool.not_eq_true', decide_eq_false_iff_not, beq_self_eq_true, List.take_length, Nat.le_refl, Int.le_refl, Blk.mk.injEq]
  exact Fin.ren [15] (by simp) (by simp) (by rfl) (by decide) (by simp [-List.map_map, -List.map_set, vtuple_zero, rens_append, lows_append, sgOf_zero, sgOf_succ, rens, V.ren, lows, V.low, rens_u8, rens_u32, rens_u64, rens_i64, rens_str, lows_u8, lows_u32, lows_u64, lows_i64, lows_str, allSome, allRw, blksOk_nil, blksOk_none, blksOk_some, getH_zero, getH_succ, getH_nil]) (by simp [-List.map_map, -List.map_set, vtuple_zero, rens_append, lows_append, sgOf_zero, sgOf_succ, rens, V.ren, lows, V.low, rens_u8, rens_u32, rens_u64, rens_i64, rens_str, lows_u8, lows_u32, lows_u64, lows_i64, lows_str, allSome, allRw, blksOk_nil, blksOk_none, blksOk_some, getH_zero, getH_succ, getH_nil])
theorem AppLittle8_some (bs : List (BitVec 8)) (n : BitVec 64) (hb : bs.length ≤ 140737488351232) : Spec0 Try.prog 76 [.slice 0 0 bs.length 1, .u64 n, .i64 8] [some ⟨false, bs.map .u8⟩] (.slice 1 0 (bs.length + 8) 1) [none, some ⟨false, (bs ++ leB n.toNat 8).map .u8⟩] := by
  rw [leB8]
  refine spec0_of_vc (by kernel_rfl) (fn := Try.f76) Try.func76 rfl (by show 3 ≤ 22; decide) (go_start ?_)
  simp only [go_sem, ↓reduceIte, Nat.reduceEqDiff, Nat.reduceLT, Nat.reduceLeDiff, Nat.reduceAdd, Nat.reduceSub, Nat.reduceMul, Nat.reduceMod, Nat.reduceDiv, Int.reduceLE, Int.reduceLT, Int.reduceToNat, Int.reduceAdd, Int.reduceSub, Int.reduceMul, Int.reduceEq, Int.reduceNeg, BitVec.reduceOfInt, BitVec.reduceToNat, BitVec.reduceEq, BitVec.reduceNe, BitVec.reduceLT, reduceCtorEq, and_true, true_and, and_self, Nat.succ_ne_self, decide_true, decide_false, Bool.false_eq_true, Nat.one_ne_zero, Nat.zero_ne_one, Nat.not_lt_zero, Nat.zero_lt_succ, ge_iff_le, gt_iff_lt, decide_eq_true_eq, Option.some.injEq, List.getElem?_cons_zero, List.getElem?_cons_succ, List.length_cons, List.length_nil, Int.natCast_zero, List.map_cons, List.map_nil, List.append_nil, List.nil_append, List.cons_append, vconv, Option.map_some, Option.map_none, List.getD_cons_zero, List.getD_cons_succ, List.not_mem_nil, false_implies, implies_true, List.getElem?_toArray, Option.bind_some, List.set_cons_zero, List.set_cons_succ, List.take_succ_cons, List.take_zero, List.drop_succ_cons, List.drop_zero, List.drop_nil, List.take_nil, List.forall_mem_cons, List.forall_mem_nil, V.u8.injEq, exists_eq', Nat.zero_mul, Nat.one_mul, Nat.zero_add, Nat.mul_one, Nat.add_zero, Int.toNat_natCast, Int.cast_ofNat_Int, ne_eq, not_true_eq_false, not_false_eq_true, List.length_set, List.length_append, List.length_take, List.length_drop, List.length_replicate, Option.isSome_none, Option.isSome_some, w64_of, Bool.not_true, Bool.not_false, Bool.true_and, Bool.false_and, Bool.and_true, Bool.and_false, Bool.true_or, Bool.false_or, Bool.or_true, Bool.or_false, Bool.not_eq_true', decide_eq_false_iff_not, beq_self_eq_true, List.take_length, Nat.le_refl, Int.le_refl, Blk.mk.injEq, Try.ntmps76, Try.results76]
  refine go_unroll 9 ?_
  simp only [go_sem, ↓reduceIte, Nat.reduceEqDiff, Nat.reduceLT, Nat.reduceLeDiff, Nat.reduceAdd, Nat.reduceSub, Nat.reduceMul, Nat.reduceMod, Nat.reduceDiv, Int.reduceLE, Int.reduceLT, Int.reduceToNat, Int.reduceAdd, Int.reduceSub, Int.reduceMul, Int.reduceEq, Int.reduceNeg, BitVec.reduceOfInt, BitVec.reduceToNat, BitVec.reduceEq, BitVec.reduceNe, BitVec.reduceLT, reduceCtorEq, and_true, true_and, and_self, Nat.succ_ne_self, decide_true, decide_false, Bool.false_eq_true, Nat.one_ne_zero, Nat.zero_ne_one, Nat.not_lt_zero, Nat.zero_lt_succ, ge_iff_le, gt_iff_lt, decide_eq_true_eq, Option.some.injEq, List.getElem?_cons_zero, List.getElem?_cons_succ, List.length_cons, List.length_nil, Int.natCast_zero, List.map_cons, List.map_nil, List.append_nil, List.nil_append, List.cons_append, vconv, Option.map_some, Option.map_none, List.getD_cons_zero, List.getD_cons_succ, List.not_mem_nil, false_implies, implies_true, List.getElem?_toArray, Option.bind_some, List.set_cons_zero, List.set_cons_succ, List.take_succ_cons, List.take_zero, List.drop_succ_cons, List.drop_zero, List.drop_nil, List.take_nil, List.forall_mem_cons, List.forall_mem_nil, V.u8.injEq, exists_eq', Nat.zero_mul, Nat.one_mul, Nat.zero_add, Nat.mul_one, Nat.add_zero, Int.toNat_natCast, Int.cast_ofNat_Int, ne_eq, not_true_eq_false, not_false_eq_true, List.length_set, List.length_append, List.length_take, List.length_drop, List.length_replicate, Option.isSome_none, Option.isSome_some, w64_of, Bool.not_true, Bool.not_false, Bool.true_and, Bool.false_and, Bool.and_true, Bool.and_false, Bool.true_or, Bool.false_or, Bool.or_true, Bool.or_false, Bool.not_eq_true', decide_eq_false_iff_not, beq_self_eq_true, List.take_length, Nat.le_refl, Int.le_refl, Blk.mk.injEq, List.take_of_length_le]
  refine ⟨by omega, by omega, by omega, by omega, by omega, by omega, by omega, by omega, ?_⟩
  exact Fin.ren [0, 16] (by simp) (by simp) (by rfl) (by decide) (by simp [-List.map_map, -List.map_set, vtuple_zero, rens_append, lows_append, sgOf_zero, sgOf_succ, rens, V.ren, lows, V.low, rens_u8, rens_u32, rens_u64, rens_i64, rens_str, lows_u8, lows_u32, lows_u64, lows_i64, lows_str, allSome, allRw, blksOk_nil, blksOk_none, blksOk_some, getH_zero, getH_succ, getH_nil]) (by simp [-List.map_map, -List.map_set, vtuple_zero, rens_append, lows_append, sgOf_zero, sgOf_succ, rens, V.ren, lows, V.low, rens_u8, rens_u32, rens_u64, rens_i64, rens_str, lows_u8, lows_u32, lows_u64, lows_i64, lows_str, allSome, allRw, blksOk_nil, blksOk_none, blksOk_some, getH_zero, getH_succ, getH_nil])
end Go.Vm
end
section
namespace Go.Vm
theorem le_append' (s t : List (BitVec 8)) : le (s ++ t) = le s + 256 ^ s.length * le t := by
  induction s with
  | nil => simp [le]
  | cons a s ih => rw [List.cons_append, le, ih, le, List.length_cons, pow256, Nat.mul_add, Nat.mul_assoc]; omega
theorem le_cut (p : List (BitVec 8)) (k : Nat) (h : k ≤ p.length) : le p = le (p.take k) + 256 ^ k * le (p.drop k) := by
  calc le p = le (p.take k ++ p.drop k) := by rw [List.take_append_drop]
    _ = _ := by rw [le_append', List.length_take, Nat.min_eq_left h]
/-- A word out of two: the low bits of y above x. -/
theorem or_up (x y : BitVec 64) (k : Nat) (hk : k < 64) (h : x.toNat < 2 ^ k) : (x ||| y <<< k).toNat = x.toNat + 2 ^ k * (y.toNat % 2 ^ (64 - k)) := by
  have e : y.toNat * 2 ^ k % 2 ^ 64 = 2 ^ k * (y.toNat % 2 ^ (64 - k)) := by
    rw [show (2 : Nat) ^ 64 = 2 ^ k * 2 ^ (64 - k) by rw [← Nat.pow_add]; congr 1; omega, Nat.mul_comm, Nat.mul_mod_mul_left]
  rw [BitVec.toNat_or, BitVec.toNat_shiftLeft, Nat.shiftLeft_eq, e, Nat.or_comm, ← Nat.two_pow_add_eq_or_of_lt h, Nat.add_comm]
theorem ushr (x : BitVec 64) (k : Nat) : (x >>> k).toNat = x.toNat / 2 ^ k := by rw [BitVec.toNat_ushiftRight, Nat.shiftRight_eq_div_pow]
/-- What read makes of four words. -/
def limbsW (a b c d : BitVec 64) : List (BitVec 64) := [(a &&& 2251799813685247#64) + 19#64 * (d >>> 63), (a >>> 51 ||| b <<< 13) &&& 2251799813685247#64, (b >>> 38 ||| c <<< 26) &&& 2251799813685247#64, (c >>> 25 ||| d <<< 39) &&& 2251799813685247#64, d >>> 12 &&& 2251799813685247#64]
theorem limbsW_val (a b c d : BitVec 64) : (∃ q, a.toNat + 18446744073709551616 * b.toNat + 340282366920938463463374607431768211456 * c.toNat + 6277101735386680763835789423207666416102355444464034512896 * d.toNat = valE (limbsW a b c d) + Pq * q) ∧ (∀ x ∈ limbsW a b c d, x.toNat < 9223372036854775808) := by
  have ha := a.isLt
  have hb := b.isLt
  have hc := c.isLt
  have hd := d.isLt
  have e0 : ((a &&& 2251799813685247#64) + 19#64 * (d >>> 63)).toNat = a.toNat % 2251799813685248 + 19 * (d.toNat / 9223372036854775808) := by
    have h1 := p51 a
    have h2 := ushr d 63
    rw [BitVec.toNat_add, BitVec.toNat_mul, h1, h2, show (19#64).toNat = 19 from rfl]; omega
  have e1 : ((a >>> 51 ||| b <<< 13) &&& 2251799813685247#64).toNat = (a.toNat / 2251799813685248 + 8192 * (b.toNat % 2251799813685248)) % 2251799813685248 := by
    have h2 := ushr a 51
    rw [p51, or_up _ _ 13 (by decide) (by rw [h2]; omega), h2]
  have e2 : ((b >>> 38 ||| c <<< 26) &&& 2251799813685247#64).toNat = (b.toNat / 274877906944 + 67108864 * (c.toNat % 274877906944)) % 2251799813685248 := by
    have h2 := ushr b 38
    rw [p51, or_up _ _ 26 (by decide) (by rw [h2]; omega), h2]
  have e3 : ((c >>> 25 ||| d <<< 39) &&& 2251799813685247#64).toNat = (c.toNat / 33554432 + 549755813888 * (d.toNat % 33554432)) % 2251799813685248 := by
    have h2 := ushr c 25
    rw [p51, or_up _ _ 39 (by decide) (by rw [h2]; omega), h2]
  have e4 : (d >>> 12 &&& 2251799813685247#64).toNat = d.toNat / 4096 % 2251799813685248 := by
    rw [p51, ushr d 12]
  have f1 : (a.toNat / 2251799813685248 + 8192 * (b.toNat % 2251799813685248)) % 2251799813685248 = a.toNat / 2251799813685248 + 8192 * (b.toNat % 274877906944) := by omega
  have f2 : (b.toNat / 274877906944 + 67108864 * (c.toNat % 274877906944)) % 2251799813685248 = b.toNat / 274877906944 + 67108864 * (c.toNat % 33554432) := by omega
  have f3 : (c.toNat / 33554432 + 549755813888 * (d.toNat % 33554432)) % 2251799813685248 = c.toNat / 33554432 + 549755813888 * (d.toNat % 4096) := by omega
  have f4 : d.toNat / 4096 % 2251799813685248 = d.toNat / 4096 - 2251799813685248 * (d.toNat / 9223372036854775808) := by omega
  have f5 : 2251799813685248 * (d.toNat / 9223372036854775808) ≤ d.toNat / 4096 := by omega
  rw [f1] at e1
  rw [f2] at e2
  rw [f3] at e3
  rw [f4] at e4
  unfold limbsW
  refine ⟨⟨d.toNat / 9223372036854775808, ?_⟩, ?_⟩
  · simp only [valE]
    rw [e0, e1, e2, e3, e4]
    unfold Pq
    omega
  · simp only [List.forall_mem_cons, List.not_mem_nil, false_implies, implies_true, and_true]
    rw [e0, e1, e2, e3, e4]
    omega
/-- The words of a text. -/
def wordE (s : List (BitVec 8)) (i : Nat) : BitVec 64 := BitVec.ofNat 64 (le ((s.drop (8 * i)).take 8))
theorem words_val (s : List (BitVec 8)) (h : s.length = 32) : (wordE s 0).toNat + 18446744073709551616 * (wordE s 1).toNat + 340282366920938463463374607431768211456 * (wordE s 2).toNat + 6277101735386680763835789423207666416102355444464034512896 * (wordE s 3).toNat = le s := by
  have b : ∀ i, (wordE s i).toNat = le ((s.drop (8 * i)).take 8) := fun i => by
    have := le_lt ((s.drop (8 * i)).take 8)
    have h2 : 256 ^ ((s.drop (8 * i)).take 8).length ≤ 256 ^ 8 := Nat.pow_le_pow_right (by decide) (by rw [List.length_take]; omega)
    unfold wordE
    rw [BitVec.toNat_ofNat, Nat.mod_eq_of_lt (Nat.lt_of_lt_of_le this h2)]
  have e8 : (256 : Nat) ^ 8 = 18446744073709551616 := by decide
  have s1 := le_cut s 8 (by omega)
  have s2 := le_cut (s.drop 8) 8 (by rw [List.length_drop]; omega)
  have s3 := le_cut (s.drop 16) 8 (by rw [List.length_drop]; omega)
  rw [List.drop_drop, show 8 + 8 = 16 from rfl] at s2
  rw [List.drop_drop, show 16 + 8 = 24 from rfl] at s3
  have h4 : (s.drop 24).take 8 = s.drop 24 := List.take_of_length_le (by rw [List.length_drop]; omega)
  rw [e8] at s1 s2 s3
  rw [b 0, b 1, b 2, b 3, show 8 * 0 = 0 from rfl, show 8 * 1 = 8 from rfl, show 8 * 2 = 16 from rfl, show 8 * 3 = 24 from rfl, List.drop_zero, h4]
  omega
/-- The words of limbs. -/
def outW (r : List (BitVec 64)) : List (BitVec 64) := [r.getD 0 0 ||| r.getD 1 0 <<< 51, r.getD 1 0 >>> 13 ||| r.getD 2 0 <<< 38, r.getD 2 0 >>> 26 ||| r.getD 3 0 <<< 25, r.getD 3 0 >>> 39 ||| r.getD 4 0 <<< 12]
theorem leB_add' (n : Nat) (j : Nat) : ∀ k, leB n (k + j) = leB n k ++ leB (n / 256 ^ k) j := by
  intro k
  induction k generalizing n with
  | zero => simp [leB]
  | succ k ih => rw [show k + 1 + j = (k + j) + 1 by omega, leB, ih, leB, List.cons_append, Nat.div_div_eq_div_mul, ← pow256]
theorem outW_bytes (r : List (BitVec 64)) (h : r.length = 5) (hx : ∀ x ∈ r, x.toNat < 2251799813685248) :
    leB ((outW r).getD 0 0).toNat 8 ++ (leB ((outW r).getD 1 0).toNat 8 ++ (leB ((outW r).getD 2 0).toNat 8 ++ leB ((outW r).getD 3 0).toNat 8)) = leB (valE r) 32 := by
  obtain ⟨a, b, c, d, e, rfl⟩ := five r h
  simp only [List.forall_mem_cons] at hx
  obtain ⟨ha, hb, hc, hd, he, _⟩ := hx
  have e0 : (a ||| b <<< 51).toNat = a.toNat + 2251799813685248 * (b.toNat % 8192) := or_up a b 51 (by decide) ha
  have e1 : (b >>> 13 ||| c <<< 38).toNat = b.toNat / 8192 + 274877906944 * (c.toNat % 67108864) := by
    have h2 := ushr b 13
    rw [or_up _ _ 38 (by decide) (by rw [h2]; omega), h2]
  have e2 : (c >>> 26 ||| d <<< 25).toNat = c.toNat / 67108864 + 33554432 * (d.toNat % 549755813888) := by
    have h2 := ushr c 26
    rw [or_up _ _ 25 (by decide) (by rw [h2]; omega), h2]
  have e3 : (d >>> 39 ||| e <<< 12).toNat = d.toNat / 549755813888 + 4096 * (e.toNat % 4503599627370496) := by
    have h2 := ushr d 39
    rw [or_up _ _ 12 (by decide) (by rw [h2]; omega), h2]
  show leB (a ||| b <<< 51).toNat 8 ++ (leB (b >>> 13 ||| c <<< 38).toNat 8 ++ (leB (c >>> 26 ||| d <<< 25).toNat 8 ++ leB (d >>> 39 ||| e <<< 12).toNat 8)) = _
  have e8 : (256 : Nat) ^ 8 = 18446744073709551616 := by decide
  rw [show (32 : Nat) = 8 + (8 + (8 + 8)) from rfl, leB_add', leB_add', leB_add', e8, Nat.div_div_eq_div_mul, Nat.div_div_eq_div_mul,
    ← leB_mod (valE [a, b, c, d, e]) 8, ← leB_mod (valE [a, b, c, d, e] / 18446744073709551616) 8, ← leB_mod (valE [a, b, c, d, e] / (18446744073709551616 * 18446744073709551616)) 8, ← leB_mod (valE [a, b, c, d, e] / (18446744073709551616 * (18446744073709551616 * 18446744073709551616))) 8, e8, e0, e1, e2, e3]
  simp only [valE]
  congr 1
  · congr 1; omega
  · congr 1
    · congr 1; omega
    · congr 1
      · congr 1; omega
      · congr 1; omega
/-! Sums and differences. -/
theorem valE_zip : ∀ (a b : List (BitVec 64)), a.length = b.length → (∀ x ∈ a, x.toNat < 2251799813947392) → (∀ x ∈ b, x.toNat < 2251799813947392) → valE (List.zipWith (· + ·) a b) = valE a + valE b ∧ ∀ x ∈ List.zipWith (· + ·) a b, x.toNat < 9223372036854775808
  | [], [], _, _, _ => ⟨rfl, by simp⟩
  | [], y :: b, h, _, _ => by simp at h
  | x :: a, [], h, _, _ => by simp at h
  | x :: a, y :: b, h, ha, hb => by
    obtain ⟨h1, h2⟩ := valE_zip a b (by simpa using h) (fun z hz => ha z (List.mem_cons_of_mem _ hz)) (fun z hz => hb z (List.mem_cons_of_mem _ hz))
    have p := ha x List.mem_cons_self
    have q := hb y List.mem_cons_self
    have e : (x + y).toNat = x.toNat + y.toNat := by rw [BitVec.toNat_add]; omega
    rw [List.zipWith_cons_cons]
    refine ⟨?_, ?_⟩
    · show (x + y).toNat + 2251799813685248 * valE (List.zipWith (· + ·) a b) = (x.toNat + 2251799813685248 * valE a) + (y.toNat + 2251799813685248 * valE b)
      rw [h1, e]; omega
    · intro z hz
      rcases List.mem_cons.1 hz with rfl | hz
      · omega
      · exact h2 z hz
/-- The first i limbs added. -/
def addE (a b : List (BitVec 64)) : Nat → List (BitVec 64)
  | 0 => a
  | i + 1 => (addE a b i).set i ((addE a b i).getD i 0 + b.getD i 0)
theorem addE_length (a b : List (BitVec 64)) (i : Nat) : (addE a b i).length = a.length := by
  induction i with
  | zero => rfl
  | succ i ih => rw [addE, List.length_set, ih]
theorem addE_val (a b : List (BitVec 64)) (ha : sm a) (hb : sm b) : valE (addE a b 5) = valE a + valE b ∧ ∀ x ∈ addE a b 5, x.toNat < 9223372036854775808 := by
  have e : addE a b 5 = List.zipWith (· + ·) a b := by
    obtain ⟨a0, a1, a2, a3, a4, rfl⟩ := five a ha.1
    obtain ⟨b0, b1, b2, b3, b4, rfl⟩ := five b hb.1
    rfl
  rw [e]
  exact valE_zip a b (by rw [ha.1, hb.1]) ha.2 hb.2
/-- The first i limbs less others, four times P more. -/
def subE (a b : List (BitVec 64)) : Nat → List (BitVec 64)
  | 0 => a
  | i + 1 => if i = 0 then (subE a b i).set i ((subE a b i).getD i 0 + (9007199254740988#64 - b.getD i 0) - 72#64) else (subE a b i).set i ((subE a b i).getD i 0 + (9007199254740988#64 - b.getD i 0))
theorem subE_length (a b : List (BitVec 64)) (i : Nat) : (subE a b i).length = a.length := by
  induction i with
  | zero => rfl
  | succ i ih => rw [subE]; split <;> rw [List.length_set, ih]
theorem subE_val (a b : List (BitVec 64)) (ha : sm a) (hb : sm b) : valE (subE a b 5) + valE b = valE a + 4 * Pq ∧ ∀ x ∈ subE a b 5, x.toNat < 9223372036854775808 := by
  obtain ⟨la, ha⟩ := ha
  obtain ⟨lb, hb⟩ := hb
  obtain ⟨a0, a1, a2, a3, a4, rfl⟩ := five a la
  obtain ⟨b0, b1, b2, b3, b4, rfl⟩ := five b lb
  simp only [List.forall_mem_cons] at ha hb
  obtain ⟨p0, p1, p2, p3, p4, _⟩ := ha
  obtain ⟨q0, q1, q2, q3, q4, _⟩ := hb
  have e : subE [a0, a1, a2, a3, a4] [b0, b1, b2, b3, b4] 5 = [a0 + (9007199254740988#64 - b0) - 72#64, a1 + (9007199254740988#64 - b1), a2 + (9007199254740988#64 - b2), a3 + (9007199254740988#64 - b3), a4 + (9007199254740988#64 - b4)] := rfl
  have k : ∀ x y : BitVec 64, x.toNat < 2251799813947392 → y.toNat < 2251799813947392 → (x + (9007199254740988#64 - y)).toNat = x.toNat + 9007199254740988 - y.toNat := fun x y h1 h2 => by
    rw [BitVec.toNat_add, BitVec.toNat_sub, show (9007199254740988#64).toNat = 9007199254740988 from rfl]; omega
  have k0 : (a0 + (9007199254740988#64 - b0) - 72#64).toNat = a0.toNat + 9007199254740988 - b0.toNat - 72 := by
    rw [BitVec.toNat_sub, k a0 b0 p0 q0, show (72#64).toNat = 72 from rfl]; omega
  rw [e]
  refine ⟨?_, ?_⟩
  · simp only [valE]
    rw [k0, k a1 b1 p1 q1, k a2 b2 p2 q2, k a3 b3 p3 q3, k a4 b4 p4 q4]
    unfold Pq
    omega
  · simp only [List.forall_mem_cons, List.not_mem_nil, false_implies, implies_true, and_true]
    rw [k0, k a1 b1 p1 q1, k a2 b2 p2 q2, k a3 b3 p3 q3, k a4 b4 p4 q4]
    omega
end Go.Vm
end
section
namespace Go.Vm
def valI : List Int → Int
  | [] => 0
  | x :: l => x + 65536 * valI l
abbrev M256 : Int := 115792089237316195423570985008687907853269984665640564039457584007913129639936
abbrev Pi5 : Int := 57896044618658097711785492504343953926634992332820282019728792003956564819949
theorem e256 : (65536 : Int) ^ 16 = M256 := by decide
def passI (c : Int) : List Int → List Int × Int
  | [] => ([], c)
  | x :: l => (((x + c) % 65536) :: (passI ((x + c) / 65536) l).1, (passI ((x + c) / 65536) l).2)
theorem passI_length (l : List Int) : ∀ c, (passI c l).1.length = l.length := by
  induction l with
  | nil => intro c; rfl
  | cons x l ih => intro c; rw [passI, List.length_cons, List.length_cons, ih]
theorem passI_snoc (l : List Int) (x : Int) : ∀ c, passI c (l ++ [x]) = ((passI c l).1 ++ [(x + (passI c l).2) % 65536], (x + (passI c l).2) / 65536) := by
  induction l with
  | nil => intro c; rfl
  | cons y l ih => intro c; rw [List.cons_append, passI, ih, passI]; rfl
/-- The pieces behind k of them, and what is carried on. -/
def passJ (c : Int) (w : List Int) : Nat → List Int × Int
  | 0 => (w, c)
  | k + 1 => ((passJ c w k).1.set k (((passJ c w k).1.getD k 0 + (passJ c w k).2) % 65536), ((passJ c w k).1.getD k 0 + (passJ c w k).2) / 65536)
theorem passJ_length (c : Int) (w : List Int) (k : Nat) : (passJ c w k).1.length = w.length := by
  induction k with
  | zero => rfl
  | succ k ih => rw [passJ, List.length_set, ih]
theorem passJ_eq (c : Int) (w : List Int) (k : Nat) (hk : k ≤ w.length) : passJ c w k = ((passI c (w.take k)).1 ++ w.drop k, (passI c (w.take k)).2) := by
  induction k with
  | zero => rfl
  | succ k ih =>
    have hkl : k < w.length := by omega
    have hl : (passI c (w.take k)).1.length = k := by rw [passI_length, List.length_take]; omega
    have hg : ((passI c (w.take k)).1 ++ w.drop k).getD k 0 = w.getD k 0 := by
      rw [List.getD_eq_getElem?_getD, List.getElem?_append_right (by omega), hl, Nat.sub_self, List.getElem?_drop, Nat.add_zero, ← List.getD_eq_getElem?_getD]
    have ht : w.take (k + 1) = w.take k ++ [w.getD k 0] := by
      rw [List.take_succ_eq_append_getElem hkl, List.getD_eq_getElem?_getD, List.getElem?_eq_getElem hkl]; rfl
    rw [passJ, ih (by omega)]
    simp only
    rw [hg, ht, passI_snoc, List.set_append_right _ _ (by omega), hl, Nat.sub_self, List.drop_eq_getElem_cons hkl, List.set_cons_zero]
    simp
/-- What is there ahead of a piece's turn. -/
theorem passJ_get (c : Int) (w : List Int) (k : Nat) (hk : k < w.length) : (passJ c w k).1.getD k 0 = w.getD k 0 := by
  have hl : (passI c (w.take k)).1.length = k := by rw [passI_length, List.length_take]; omega
  rw [passJ_eq c w k (by omega)]
  simp only
  rw [List.getD_eq_getElem?_getD, List.getElem?_append_right (by omega), hl, Nat.sub_self, List.getElem?_drop, Nat.add_zero, ← List.getD_eq_getElem?_getD]
theorem passI_val (l : List Int) : ∀ c : Int, valI (passI c l).1 + 65536 ^ l.length * (passI c l).2 = valI l + c ∧ (∀ x ∈ (passI c l).1, 0 ≤ x ∧ x < 65536) := by
  induction l with
  | nil => intro c; exact ⟨by simp [passI, valI], by simp [passI]⟩
  | cons x l ih =>
    intro c
    obtain ⟨i1, i2⟩ := ih ((x + c) / 65536)
    refine ⟨?_, ?_⟩
    · rw [passI]
      show ((x + c) % 65536) + 65536 * valI (passI ((x + c) / 65536) l).1 + 65536 ^ (l.length + 1) * (passI ((x + c) / 65536) l).2 = x + 65536 * valI l + c
      rw [Int.pow_succ, Int.mul_comm (65536 ^ l.length) 65536, Int.mul_assoc]
      omega
    · rw [passI]
      intro y hy
      rcases List.mem_cons.1 hy with rfl | hy
      · omega
      · exact i2 y hy
theorem passI_car (l : List Int) (N : Int) (hN : 1 ≤ N) : ∀ c : Int, -N ≤ c ∧ c ≤ N → (∀ x ∈ l, -N ≤ x ∧ x ≤ N) → -N ≤ (passI c l).2 ∧ (passI c l).2 ≤ N := by
  induction l with
  | nil => intro c hc _; exact hc
  | cons x l ih =>
    intro c hc hx
    have h0 := hx x List.mem_cons_self
    rw [passI]
    exact ih _ (by omega) (fun y hy => hx y (List.mem_cons_of_mem _ hy))
/-- Pieces from 0 to 2^16 - 1. -/
def okI (l : List Int) : Prop := l.length = 16 ∧ ∀ x ∈ l, 0 ≤ x ∧ x < 65536
theorem valI_lt : ∀ (l : List Int), (∀ x ∈ l, 0 ≤ x ∧ x < 65536) → 0 ≤ valI l ∧ valI l < 65536 ^ l.length
  | [], _ => ⟨by decide, by decide⟩
  | x :: l, h => by
    have h0 := h x List.mem_cons_self
    have ih := valI_lt l fun y hy => h y (List.mem_cons_of_mem _ hy)
    rw [List.length_cons, Int.pow_succ]
    show 0 ≤ x + 65536 * valI l ∧ x + 65536 * valI l < _
    omega
theorem okI_lt (l : List Int) (h : okI l) : 0 ≤ valI l ∧ valI l < M256 := by
  have := valI_lt l h.2
  rwa [h.1, e256] at this
def carI (w : List Int) : List Int := (passJ 0 w 16).1.set 0 ((passJ 0 w 16).1.getD 0 0 + 38 * (passJ 0 w 16).2)
theorem carI_length (w : List Int) : (carI w).length = w.length := by unfold carI; rw [List.length_set, passJ_length]
def carrI (w : List Int) : Nat → List Int
  | 0 => w
  | i + 1 => carI (carrI w i)
theorem carrI_length (w : List Int) (i : Nat) : (carrI w i).length = w.length := by
  induction i with
  | zero => rfl
  | succ i ih => rw [carrI, carI_length, ih]
/-- Pieces that can be borne. -/
def fair (w : List Int) : Prop := w.length = 16 ∧ ∀ x ∈ w, -1125899906842624 ≤ x ∧ x ≤ 1125899906842624
theorem carI_fold (w : List Int) (hw : fair w) : valI (carI w) = valI w % M256 + 38 * (valI w / M256) ∧ (0 ≤ valI w → valI w < M256 → okI (carI w)) ∧ (∀ x ∈ carI w, -50000000000000000 ≤ x ∧ x ≤ 50000000000000000) ∧ (-2 * M256 ≤ valI w → valI w ≤ 1000000000000 * M256 → fair (carI w)) := by
  obtain ⟨hw, hx⟩ := hw
  have hp := passJ_eq 0 w 16 (by omega)
  rw [List.take_of_length_le (by omega), List.drop_of_length_le (by omega), List.append_nil] at hp
  obtain ⟨h1, h2⟩ := passI_val w 0
  have hc := passI_car w 1125899906842624 (by decide) 0 (by decide) hx
  have hl := passI_length w 0
  have hlen := carI_length w
  rw [hw] at h1 hl hlen
  have hlt := valI_lt _ h2
  rw [hl] at hlt
  rw [e256] at hlt h1
  unfold okI fair
  rw [hlen]
  unfold carI
  rw [hp]
  simp only
  generalize (passI 0 w).1 = r at h1 h2 hl hlt ⊢
  generalize (passI 0 w).2 = c at h1 hc ⊢
  cases r with
  | nil => simp at hl
  | cons y r =>
    have hy := h2 y List.mem_cons_self
    rw [List.set_cons_zero, List.getD_cons_zero]
    have hv : valI ((y + 38 * c) :: r) = valI (y :: r) + 38 * c := by
      show y + 38 * c + 65536 * valI r = y + 65536 * valI r + 38 * c
      omega
    unfold M256 at *
    refine ⟨by rw [hv]; omega, fun g1 g2 => ⟨trivial, ?_⟩, ?_, fun g1 g2 => ⟨trivial, ?_⟩⟩
    · intro x hx'
      rcases List.mem_cons.1 hx' with rfl | hx'
      · omega
      · exact h2 x (List.mem_cons_of_mem _ hx')
    · intro x hx'
      rcases List.mem_cons.1 hx' with rfl | hx'
      · omega
      · have := h2 x (List.mem_cons_of_mem _ hx'); omega
    · intro x hx'
      rcases List.mem_cons.1 hx' with rfl | hx'
      · omega
      · have := h2 x (List.mem_cons_of_mem _ hx'); omega
/-- Three passes: pieces from 0 to 2^16 - 1, and the number modulo P. -/
theorem carrI_val (w : List Int) (hw : fair w) (h1 : -M256 < valI w) (h2 : valI w ≤ 1000000000000 * M256) : okI (carrI w 3) ∧ valI (carrI w 3) % Pi5 = valI w % Pi5 := by
  have p1 := carI_fold w hw
  have f1 := p1.2.2.2 (by unfold M256 at *; omega) h2
  have p2 := carI_fold _ f1
  have f2 := p2.2.2.2 (by unfold M256 at *; omega) (by unfold M256 at *; omega)
  have p3 := carI_fold _ f2
  have e : carrI w 3 = carI (carI (carI w)) := rfl
  rw [e]
  refine ⟨p3.2.1 (by unfold M256 at *; omega) (by unfold M256 at *; omega), ?_⟩
  have hv : valI w = valI (carI (carI (carI w))) + Pi5 * (2 * (valI w / M256 + valI (carI w) / M256 + valI (carI (carI w)) / M256)) := by
    unfold M256 Pi5 at *; omega
  rw [hv, Int.add_mul_emod_self_left]
theorem valI_set (l : List Int) (i : Nat) (y : Int) (h : i < l.length) : valI (l.set i y) = valI l + 65536 ^ i * (y - l.getD i 0) := by
  induction l generalizing i with
  | nil => simp at h
  | cons x l ih =>
    cases i with
    | zero => simp only [List.set_cons_zero, valI, List.getD_cons_zero, Int.pow_zero, Int.one_mul]; omega
    | succ i =>
      have := ih i (by simpa using h)
      simp only [List.set_cons_succ, valI, List.getD_cons_succ]
      rw [this, Int.pow_succ, Int.mul_comm (65536 ^ i) 65536, Int.mul_assoc]
      omega
theorem valI_take (l : List Int) (k : Nat) (h : k < l.length) : valI (l.take (k + 1)) = valI (l.take k) + 65536 ^ k * l.getD k 0 := by
  induction l generalizing k with
  | nil => simp at h
  | cons x l ih =>
    cases k with
    | zero => simp [valI]
    | succ k =>
      have := ih k (by simpa using h)
      rw [List.take_succ_cons, List.take_succ_cons, List.getD_cons_succ]
      show x + 65536 * valI (l.take (k + 1)) = x + 65536 * valI (l.take k) + _
      rw [this, Int.pow_succ, Int.mul_comm (65536 ^ k) 65536, Int.mul_assoc]
      omega
theorem valI_split (l : List Int) : ∀ k, k ≤ l.length → valI l = valI (l.take k) + 65536 ^ k * valI (l.drop k) := by
  induction l with
  | nil => intro k hk; simp at hk; subst hk; simp [valI]
  | cons x l ih =>
    intro k hk
    cases k with
    | zero => simp [valI]
    | succ k =>
      rw [List.take_succ_cons, List.drop_succ_cons]
      show x + 65536 * valI l = x + 65536 * valI (l.take k) + _
      rw [ih k (by simpa using hk), Int.pow_succ, Int.mul_comm (65536 ^ k) 65536, Int.mul_assoc]
      omega
/-- The first i pieces added, so often. -/
def addI (a b : List Int) (t : Int) : Nat → List Int
  | 0 => a
  | i + 1 => (addI a b t i).set i ((addI a b t i).getD i 0 + t * b.getD i 0)
theorem addI_length (a b : List Int) (t : Int) (i : Nat) : (addI a b t i).length = a.length := by
  induction i with
  | zero => rfl
  | succ i ih => rw [addI, List.length_set, ih]
theorem memI {l : List Int} {i : Nat} (h : i < l.length) : l.getD i 0 ∈ l := by
  rw [List.getD_eq_getElem?_getD, List.getElem?_eq_getElem h]; exact List.getElem_mem h
theorem setI_all {l : List Int} {i : Nat} {N y : Int} (h : ∀ x ∈ l, -N ≤ x ∧ x ≤ N) (hy : -N ≤ y ∧ y ≤ N) : ∀ x ∈ l.set i y, -N ≤ x ∧ x ≤ N := by
  intro x hx
  rcases List.mem_or_eq_of_mem_set hx with h1 | h1
  · exact h x h1
  · rw [h1]; exact hy
theorem addI_tail (a b : List Int) (t : Int) : ∀ i, (addI a b t i).drop i = a.drop i := by
  intro i
  induction i with
  | zero => rfl
  | succ i ih =>
    rw [addI, List.drop_set_of_lt (by omega), ← List.drop_drop, ih, List.drop_drop]
theorem getD_dropI (l : List Int) (i : Nat) : l.getD i 0 = (l.drop i).getD 0 0 := by
  rw [List.getD_eq_getElem?_getD, List.getD_eq_getElem?_getD, List.getElem?_drop, Nat.add_zero]
theorem addI_get (a b : List Int) (t : Int) (i : Nat) : (addI a b t i).getD i 0 = a.getD i 0 := by
  rw [getD_dropI, addI_tail, ← getD_dropI]
theorem tbound {t y : Int} (ht : -200000 ≤ t ∧ t ≤ 200000) (hy : 0 ≤ y ∧ y < 65536) : -13200000000 ≤ t * y ∧ t * y ≤ 13200000000 := by
  have h1 : t * y ≤ 200000 * y := Int.mul_le_mul_of_nonneg_right ht.2 hy.1
  have h2 : -200000 * y ≤ t * y := Int.mul_le_mul_of_nonneg_right ht.1 hy.1
  omega
theorem addI_val (a b : List Int) (t : Int) (ha : okI a) (hb : okI b) (ht : -200000 ≤ t ∧ t ≤ 200000) : valI (addI a b t 16) = valI a + t * valI b ∧ fair (addI a b t 16) := by
  have key : ∀ i, i ≤ 16 → valI (addI a b t i) = valI a + t * valI (b.take i) ∧ ∀ x ∈ addI a b t i, -13200065536 ≤ x ∧ x ≤ 13200065536 := by
    intro i
    induction i with
    | zero => intro _; exact ⟨by simp [addI, valI], fun x hx => by have := ha.2 x hx; omega⟩
    | succ i ih =>
      intro hi
      obtain ⟨h1, h2⟩ := ih (by omega)
      have hal := addI_length a b t i
      rw [ha.1] at hal
      have hab := ha.2 _ (memI (l := a) (i := i) (by rw [ha.1]; omega))
      have hbb := hb.2 _ (memI (l := b) (i := i) (by rw [hb.1]; omega))
      have htb := tbound ht hbb
      rw [addI, valI_take b i (by rw [hb.1]; omega), valI_set _ _ _ (by omega), h1, addI_get]
      refine ⟨?_, setI_all h2 (by omega)⟩
      have : a.getD i 0 + t * b.getD i 0 - a.getD i 0 = t * b.getD i 0 := by omega
      rw [this, Int.mul_add, Int.mul_left_comm t]
      omega
  obtain ⟨h1, h2⟩ := key 16 (by omega)
  rw [List.take_of_length_le (by rw [hb.1]; omega)] at h1
  exact ⟨h1, by rw [addI_length, ha.1], fun x hx => by have := h2 x hx; omega⟩
end Go.Vm
end
section
namespace Go.Vm
/-! The reference's products. -/
def mulAtI (a b w : List Int) (i k : Nat) : List Int := w.set (i + k) (w.getD (i + k) 0 + a.getD i 0 * b.getD k 0)
def rowI (a b w : List Int) (i : Nat) : Nat → List Int
  | 0 => w
  | k + 1 => mulAtI a b (rowI a b w i k) i k
def mulI (a b : List Int) : Nat → List Int
  | 0 => List.replicate 32 0
  | i + 1 => rowI a b (mulI a b i) i 16
theorem rowI_length (a b w : List Int) (i k : Nat) : (rowI a b w i k).length = w.length := by
  induction k with
  | zero => rfl
  | succ k ih => rw [rowI]; unfold mulAtI; rw [List.length_set, ih]
theorem mulI_length (a b : List Int) (i : Nat) : (mulI a b i).length = 32 := by
  induction i with
  | zero => rfl
  | succ i ih => rw [mulI, rowI_length, ih]
theorem prodI {x y : Int} (hx : 0 ≤ x ∧ x < 65536) (hy : 0 ≤ y ∧ y < 65536) : 0 ≤ x * y ∧ x * y ≤ 4294836225 := by
  have h1 : x * y ≤ 65535 * y := Int.mul_le_mul_of_nonneg_right (by omega) hy.1
  have h2 : 0 ≤ x * y := Int.mul_nonneg hx.1 hy.1
  omega
theorem setI_nn {l : List Int} {i : Nat} {N y : Int} (h : ∀ x ∈ l, 0 ≤ x ∧ x ≤ N) (hy : 0 ≤ y ∧ y ≤ N) : ∀ x ∈ l.set i y, 0 ≤ x ∧ x ≤ N := by
  intro x hx
  rcases List.mem_or_eq_of_mem_set hx with h1 | h1
  · exact h x h1
  · rw [h1]; exact hy
theorem rowI_val (a b w : List Int) (i : Nat) (N : Int) (ha : okI a) (hb : okI b) (hw : w.length = 32) (hN : ∀ x ∈ w, 0 ≤ x ∧ x ≤ N) (hi : i < 16) : ∀ k, k ≤ 16 →
    valI (rowI a b w i k) = valI w + 65536 ^ i * a.getD i 0 * valI (b.take k) ∧ ∀ x ∈ rowI a b w i k, 0 ≤ x ∧ x ≤ N + 4294836225 * k := by
  intro k
  induction k with
  | zero => intro _; exact ⟨by simp [valI, rowI], fun x hx => by have := hN x hx; omega⟩
  | succ k ih =>
    intro hk
    obtain ⟨h1, h2⟩ := ih (by omega)
    have hl := rowI_length a b w i k
    rw [hw] at hl
    have ga := ha.2 _ (memI (l := a) (i := i) (by rw [ha.1]; exact hi))
    have gb := hb.2 _ (memI (l := b) (i := k) (by rw [hb.1]; omega))
    have gp := prodI ga gb
    have gw := h2 _ (memI (l := rowI a b w i k) (i := i + k) (by omega))
    rw [rowI]
    unfold mulAtI
    rw [valI_set _ _ _ (by omega), h1, valI_take b k (by rw [hb.1]; omega), Int.pow_add]
    refine ⟨?_, fun x hx => ?_⟩
    · have : (rowI a b w i k).getD (i + k) 0 + a.getD i 0 * b.getD k 0 - (rowI a b w i k).getD (i + k) 0 = a.getD i 0 * b.getD k 0 := by omega
      rw [this]; grind
    · have := setI_nn (N := N + 4294836225 * k + 4294836225) (fun x hx => by have := h2 x hx; omega) (by omega) x hx
      omega
theorem mulI_val (a b : List Int) (ha : okI a) (hb : okI b) : valI (mulI a b 16) = valI a * valI b ∧ ∀ x ∈ mulI a b 16, 0 ≤ x ∧ x ≤ 1099478073600 := by
  have key : ∀ i, i ≤ 16 → valI (mulI a b i) = valI (a.take i) * valI b ∧ ∀ x ∈ mulI a b i, 0 ≤ x ∧ x ≤ 68717379600 * i := by
    intro i
    induction i with
    | zero => intro _; exact ⟨by simp [valI, mulI], by simp [mulI]⟩
    | succ i ih =>
      intro hi
      obtain ⟨h1, h2⟩ := ih (by omega)
      obtain ⟨h3, h4⟩ := rowI_val a b (mulI a b i) i (68717379600 * i) ha hb (mulI_length a b i) h2 (by omega) 16 (by omega)
      rw [List.take_of_length_le (by rw [hb.1]; omega)] at h3
      rw [mulI, h3, h1, valI_take a i (by rw [ha.1]; omega)]
      exact ⟨by grind, fun x hx => by have := h4 x hx; omega⟩
  obtain ⟨h1, h2⟩ := key 16 (by omega)
  rw [List.take_of_length_le (by rw [ha.1]; omega)] at h1
  exact ⟨h1, fun x hx => by have := h2 x hx; omega⟩
/-- The upper half comes back 38 times. -/
def halfI (w : List Int) : Nat → List Int
  | 0 => List.replicate 16 0
  | i + 1 => (halfI w i).set i (w.getD i 0 + 38 * w.getD (i + 16) 0)
theorem halfI_length (w : List Int) (i : Nat) : (halfI w i).length = 16 := by
  induction i with
  | zero => rfl
  | succ i ih => rw [halfI, List.length_set, ih]
theorem halfI_tail (w : List Int) : ∀ i, i ≤ 16 → (halfI w i).drop i = List.replicate (16 - i) 0 := by
  intro i
  induction i with
  | zero => intro _; rfl
  | succ i ih =>
    intro hi
    rw [halfI, List.drop_set_of_lt (by omega), ← List.drop_drop, ih (by omega), List.drop_replicate]
    congr 1
theorem halfI_val (w : List Int) (hw : w.length = 32) (hx : ∀ x ∈ w, 0 ≤ x ∧ x ≤ 1099478073600) : valI (halfI w 16) = valI (w.take 16) + 38 * valI (w.drop 16) ∧ fair (halfI w 16) ∧ 0 ≤ valI (halfI w 16) ∧ valI (halfI w 16) ≤ 1000000000000 * M256 := by
  have hd : (w.drop 16).length = 16 := by rw [List.length_drop]; omega
  have key : ∀ i, i ≤ 16 → valI (halfI w i) = valI (w.take i) + 38 * valI ((w.drop 16).take i) ∧ ∀ x ∈ halfI w i, 0 ≤ x ∧ x ≤ 42879644870400 := by
    intro i
    induction i with
    | zero => intro _; exact ⟨by simp [valI, halfI], by simp [halfI]⟩
    | succ i ih =>
      intro hi
      obtain ⟨h1, h2⟩ := ih (by omega)
      have hl := halfI_length w i
      have g1 := hx _ (memI (l := w) (i := i) (by omega))
      have g2 := hx _ (memI (l := w) (i := i + 16) (by omega))
      have hz : (halfI w i).getD i 0 = 0 := by
        rw [getD_dropI, halfI_tail w i (by omega), show 16 - i = (15 - i) + 1 by omega, List.replicate_succ, List.getD_cons_zero]
      have hdd : (w.drop 16).getD i 0 = w.getD (i + 16) 0 := by
        rw [List.getD_eq_getElem?_getD, List.getD_eq_getElem?_getD, List.getElem?_drop, Nat.add_comm]
      rw [halfI, valI_set _ _ _ (by omega), h1, valI_take w i (by omega), valI_take (w.drop 16) i (by omega), hz, hdd]
      refine ⟨by grind, setI_nn h2 (by omega)⟩
  obtain ⟨h1, h2⟩ := key 16 (by omega)
  rw [List.take_of_length_le (by omega : (w.drop 16).length ≤ 16)] at h1
  refine ⟨h1, ⟨halfI_length w 16, fun x hx => by have := h2 x hx; omega⟩, ?_⟩
  have hb : ∀ (l : List Int), (∀ x ∈ l, 0 ≤ x ∧ x ≤ 42879644870400) → 0 ≤ valI l ∧ 65535 * valI l ≤ 42879644870400 * (65536 ^ l.length - 1) := by
    intro l
    induction l with
    | nil => intro _; exact ⟨by decide, by decide⟩
    | cons x l ih =>
      intro h
      have h0 := h x List.mem_cons_self
      have h1 := ih (fun y hy => h y (List.mem_cons_of_mem _ hy))
      rw [List.length_cons, Int.pow_succ]
      show 0 ≤ x + 65536 * valI l ∧ 65535 * (x + 65536 * valI l) ≤ _
      omega
  have h3 := hb _ h2
  rw [halfI_length, e256] at h3
  unfold M256 at *
  omega
/-- A product of the reference's. -/
def timesI (a b : List Int) : List Int := carrI (halfI (mulI a b 16) 16) 3
theorem timesI_val (a b : List Int) (ha : okI a) (hb : okI b) : okI (timesI a b) ∧ valI (timesI a b) % Pi5 = (valI a * valI b) % Pi5 := by
  obtain ⟨m1, m2⟩ := mulI_val a b ha hb
  obtain ⟨h1, h2, h3, h4⟩ := halfI_val _ (mulI_length a b 16) m2
  obtain ⟨c1, c2⟩ := carrI_val _ h2 (by unfold M256; omega) h4
  refine ⟨c1, ?_⟩
  show valI (carrI (halfI (mulI a b 16) 16) 3) % Pi5 = _
  have hs := valI_split (mulI a b 16) 16 (by rw [mulI_length]; omega)
  rw [e256] at hs
  rw [c2, h1, ← m1, hs]
  have : valI ((mulI a b 16).take 16) + M256 * valI ((mulI a b 16).drop 16) = valI ((mulI a b 16).take 16) + 38 * valI ((mulI a b 16).drop 16) + Pi5 * (2 * valI ((mulI a b 16).drop 16)) := by
    unfold M256 Pi5; omega
  rw [this, Int.add_mul_emod_self_left]
def plusI (a b : List Int) (t : Int) : List Int := carrI (addI a b t 16) 3
theorem plusI_val (a b : List Int) (t : Int) (ha : okI a) (hb : okI b) (ht : -1 ≤ t ∧ t ≤ 200000) : okI (plusI a b t) ∧ valI (plusI a b t) % Pi5 = (valI a + t * valI b) % Pi5 := by
  obtain ⟨h1, h2⟩ := addI_val a b t ha hb (by omega)
  have va := okI_lt a ha
  have vb := okI_lt b hb
  have l1 : t * valI b ≤ 200000 * valI b := Int.mul_le_mul_of_nonneg_right ht.2 vb.1
  have l2 : -1 * valI b ≤ t * valI b := Int.mul_le_mul_of_nonneg_right ht.1 vb.1
  obtain ⟨c1, c2⟩ := carrI_val _ h2 (by rw [h1]; unfold M256 at *; omega) (by rw [h1]; unfold M256 at *; omega)
  exact ⟨c1, by rw [← h1, ← c2]; rfl⟩
/-! The reference's text. -/
def pL : List Int := [65517, 65535, 65535, 65535, 65535, 65535, 65535, 65535, 65535, 65535, 65535, 65535, 65535, 65535, 65535, 32767]
def lessI (n : List Int) : List Int := if (passI 0 (List.zipWith (· - ·) n pL)).2 = 0 then (passI 0 (List.zipWith (· - ·) n pL)).1 else n
theorem valI_sub : ∀ (a b : List Int), a.length = b.length → valI (List.zipWith (· - ·) a b) = valI a - valI b
  | [], [], _ => rfl
  | [], y :: b, h => by simp at h
  | x :: a, [], h => by simp at h
  | x :: a, y :: b, h => by
    have ih := valI_sub a b (by simpa using h)
    show x - y + 65536 * valI (List.zipWith (· - ·) a b) = x + 65536 * valI a - (y + 65536 * valI b)
    rw [ih]; omega
theorem lessI_val (n : List Int) (h : okI n) : okI (lessI n) ∧ valI (lessI n) = (if Pi5 ≤ valI n then valI n - Pi5 else valI n) := by
  have hl : (List.zipWith (· - ·) n pL).length = 16 := by rw [List.length_zipWith, h.1]; rfl
  have hs := valI_sub n pL (by rw [h.1]; rfl)
  obtain ⟨p1, p2⟩ := passI_val (List.zipWith (· - ·) n pL) 0
  have pl := passI_length (List.zipWith (· - ·) n pL) 0
  have hv := valI_lt _ p2
  have hn := okI_lt n h
  have hp : valI pL = Pi5 := by decide
  rw [pl, hl, e256] at hv
  rw [hl, e256, hs, hp] at p1
  unfold lessI
  generalize (passI 0 (List.zipWith (· - ·) n pL)).1 = r at *
  generalize (passI 0 (List.zipWith (· - ·) n pL)).2 = c at *
  unfold M256 Pi5 at *
  by_cases hc : c = 0
  · rw [if_pos hc, if_pos (by omega)]
    exact ⟨⟨by rw [pl, hl], p2⟩, by omega⟩
  · rw [if_neg hc, if_neg (by omega)]
    exact ⟨h, rfl⟩
theorem less3_val (n : List Int) (h : okI n) : okI (lessI (lessI (lessI n))) ∧ valI (lessI (lessI (lessI n))) = valI n % Pi5 := by
  have h1 := lessI_val n h
  have h2 := lessI_val _ h1.1
  have h3 := lessI_val _ h2.1
  have hn := okI_lt n h
  refine ⟨h3.1, ?_⟩
  rw [h3.2, h2.2, h1.2]
  unfold M256 Pi5 at *
  by_cases g1 : 57896044618658097711785492504343953926634992332820282019728792003956564819949 ≤ valI n
  · rw [if_pos g1]
    by_cases g2 : 57896044618658097711785492504343953926634992332820282019728792003956564819949 ≤ valI n - 57896044618658097711785492504343953926634992332820282019728792003956564819949
    · rw [if_pos g2, if_neg (by omega)]
      omega
    · rw [if_neg g2, if_neg g2]
      omega
  · rw [if_neg g1, if_neg g1, if_neg g1]
    omega
/-- The bytes of pieces. -/
def bytesI : List Int → List (BitVec 8)
  | [] => []
  | x :: l => BitVec.ofInt 8 (x % 256) :: BitVec.ofInt 8 (x / 256) :: bytesI l
theorem bytesI_length (l : List Int) : (bytesI l).length = 2 * l.length := by
  induction l with
  | nil => rfl
  | cons x l ih => rw [bytesI, List.length_cons, List.length_cons, ih, List.length_cons]; omega
theorem bytesI_snoc (l : List Int) (x : Int) : bytesI (l ++ [x]) = bytesI l ++ [BitVec.ofInt 8 (x % 256), BitVec.ofInt 8 (x / 256)] := by
  induction l with
  | nil => rfl
  | cons y l ih => rw [List.cons_append, bytesI, ih, bytesI]; rfl
theorem bytesI_val : ∀ (l : List Int), (∀ x ∈ l, 0 ≤ x ∧ x < 65536) → bytesI l = leB (valI l).toNat (2 * l.length)
  | [], _ => rfl
  | x :: l, h => by
    have h0 := h x List.mem_cons_self
    have ih := bytesI_val l fun y hy => h y (List.mem_cons_of_mem _ hy)
    have hv := (valI_lt l fun y hy => h y (List.mem_cons_of_mem _ hy)).1
    rw [bytesI, ih, List.length_cons, show 2 * (l.length + 1) = 2 * l.length + 1 + 1 by omega, leB, leB]
    obtain ⟨m, rfl⟩ := Int.eq_ofNat_of_zero_le h0.1
    obtain ⟨v, hvv⟩ := Int.eq_ofNat_of_zero_le hv
    have e : (valI (Int.ofNat m :: l)).toNat = m + 65536 * v := by
      show (Int.ofNat m + 65536 * valI l).toNat = _
      rw [hvv]
      simp only [Int.ofNat_eq_natCast]; omega
    have b1 : BitVec.ofInt 8 (Int.ofNat m % 256) = BitVec.ofNat 8 (m + 65536 * v) := by
      rw [show Int.ofNat m % 256 = ((m % 256 : Nat) : Int) from rfl, BitVec.ofInt_natCast]
      apply BitVec.eq_of_toNat_eq
      rw [BitVec.toNat_ofNat, BitVec.toNat_ofNat]; omega
    have b2 : BitVec.ofInt 8 (Int.ofNat m / 256) = BitVec.ofNat 8 ((m + 65536 * v) / 256) := by
      rw [show Int.ofNat m / 256 = ((m / 256 : Nat) : Int) from rfl, BitVec.ofInt_natCast]
      apply BitVec.eq_of_toNat_eq
      rw [BitVec.toNat_ofNat, BitVec.toNat_ofNat]; omega
    have hm : (m : Int) < 65536 := h0.2
    have b3 : (m + 65536 * v) / 256 / 256 = v := by omega
    have hv2 : (valI l).toNat = v := by rw [hvv]; rfl
    show _ = _
    rw [show (Int.ofNat m : Int) = ((m : Nat) : Int) from rfl] at e b1 b2
    rw [e, b1, b2, hv2, b3]
/-- The pieces of a text. -/
def numI (s : List (BitVec 8)) : Nat → List Int
  | 0 => []
  | i + 1 => numI s i ++ [((s.getD (2 * i) 0).toNat : Int) + 256 * ((s.getD (2 * i + 1) 0).toNat : Int)]
theorem numI_length (s : List (BitVec 8)) (i : Nat) : (numI s i).length = i := by
  induction i with
  | zero => rfl
  | succ i ih => rw [numI, List.length_append, ih]; rfl
theorem valI_snoc (l : List Int) (x : Int) : valI (l ++ [x]) = valI l + 65536 ^ l.length * x := by
  induction l with
  | nil => simp [valI]
  | cons y l ih =>
    show y + 65536 * valI (l ++ [x]) = y + 65536 * valI l + _
    rw [ih, List.length_cons, Int.pow_succ, Int.mul_comm (65536 ^ l.length) 65536, Int.mul_assoc]; omega
theorem le_snoc' (s : List (BitVec 8)) (b : BitVec 8) : le (s ++ [b]) = le s + 256 ^ s.length * b.toNat := by
  rw [le_append']; simp [le]
theorem numI_val (s : List (BitVec 8)) (h : s.length = 32) : okI (numI s 16) ∧ valI (numI s 16) = (le s : Int) := by
  have key : ∀ i, i ≤ 16 → valI (numI s i) = (le (s.take (2 * i)) : Int) ∧ ∀ x ∈ numI s i, 0 ≤ x ∧ x < 65536 := by
    intro i
    induction i with
    | zero => intro _; exact ⟨by simp [numI, valI, le], by simp [numI]⟩
    | succ i ih =>
      intro hi
      obtain ⟨h1, h2⟩ := ih (by omega)
      have b1 := (s.getD (2 * i) 0).isLt
      have b2 := (s.getD (2 * i + 1) 0).isLt
      refine ⟨?_, ?_⟩
      · rw [numI, valI_snoc, h1, numI_length, show 2 * (i + 1) = 2 * i + 1 + 1 by omega, take_snoc (by omega : 2 * i + 1 < s.length), take_snoc (by omega : 2 * i < s.length), le_snoc', le_snoc', List.length_append, List.length_take, Nat.min_eq_left (by omega : 2 * i ≤ s.length)]
        have e : (256 : Nat) ^ (2 * i) = 65536 ^ i := by rw [Nat.pow_mul]
        have e2 : (256 : Nat) ^ (2 * i + 1) = 65536 ^ i * 256 := by rw [Nat.pow_succ, e]
        show _ + _ = ((le (s.take (2 * i)) + 256 ^ (2 * i) * (s.getD (2 * i) 0).toNat + 256 ^ (2 * i + 1) * (s.getD (2 * i + 1) 0).toNat : Nat) : Int)
        rw [e, e2]
        have hp : ((65536 ^ i : Nat) : Int) = (65536 : Int) ^ i := by rw [Int.natCast_pow]; rfl
        simp only [Int.natCast_add, Int.natCast_mul, hp]
        rw [show ((256 : Nat) : Int) = 256 from rfl, Int.mul_add, Int.mul_assoc]
        omega
      · rw [numI]
        intro x hx
        rcases List.mem_append.1 hx with hx | hx
        · exact h2 x hx
        · rw [List.mem_singleton.1 hx]; omega
  obtain ⟨h1, h2⟩ := key 16 (by omega)
  rw [List.take_of_length_le (by omega)] at h1
  exact ⟨⟨numI_length s 16, h2⟩, h1⟩
end Go.Vm
end
section
/-! A call that only reads: it turns none of the blocks that are there. -/
namespace Go.Vm
open Go
def Res.read (r : Res) : Res := { r with old := [] }
theorem lookOld_same {get : Nat → Option Blk} {b : Nat} : ∀ {old : List (Nat × Option Blk)} (_ : ∀ x ∈ old, get x.1 = x.2), lookOld old b (get b) = get b := fun {old} h => by
  induction old with
  | nil => rfl
  | cons x l ih =>
    obtain ⟨i, o⟩ := x
    have h1 := h (i, o) List.mem_cons_self
    have h2 := ih fun y hy => h y (List.mem_cons_of_mem _ hy)
    unfold lookOld
    split
    · rename_i e
      first
        | (rw [← h1]; simp_all)
        | simp_all
    · exact h2
theorem upd_same {get : Nat → Option Blk} {old : List (Nat × Option Blk)} {nid : Nat} {news : List (Option Blk)} (h : ∀ x ∈ old, get x.1 = x.2) : upd get old nid news = upd get [] nid news := by
  funext b
  unfold upd
  rw [lookOld_same h]
  rfl
section
variable {P : Program} {m n : Nat} {R : Exit → St → Prop} {k : List Fr} {s : St} {l : List Oper} {ops : Array Oper} {dst : Option Tmp}
variable {f : FuncId} {fs cs args args0 : List V} {v : V} {h h' : List (Option Blk)}
theorem Spec.read {get0 : Nat → Option Blk} {nid : Nat} {r : Res} (hs : Spec P f args get0 nid r) (ho : ∀ x ∈ r.old, x.1 ∈ r.fp ∧ get0 x.1 = x.2) : Spec P f args get0 nid r.read := by
  intro ρ dom get w rargs hm hr hfp hdom
  refine (hs ρ dom get w rargs hm hr hfp hdom).mono ?_
  have hsame : upd get r.old nid r.news = upd get [] nid r.news := upd_same fun x hx => by rw [hfp _ (ho x hx).1]; exact (ho x hx).2
  rintro e w' ⟨r', ρ', h1, h2, h3, h4, h5⟩
  rw [hsame] at h3 h5
  exact ⟨r', ρ', h1, h2, h3, h4, h5⟩
theorem VCall.read {fv : V} {get0 : Nat → Option Blk} {nid : Nat} {r : Res} (hs : VCall P fv args get0 nid r) (ho : ∀ x ∈ r.old, x.1 ∈ r.fp ∧ get0 x.1 = x.2) : VCall P fv args get0 nid r.read := by
  rcases hs with ⟨f, fs, cs, h1, h2, h3, h4⟩ | ⟨f, fs, cs, h1, _, h3, h4⟩
  · exact .inl ⟨f, fs, cs, h1, h2, h3, h4.read ho⟩
  · exact .inr ⟨f, fs, cs, h1, rfl, h3, h4⟩
theorem goCallD_read {tr : Tr} (sg : List Nat) (hs : Spec0 P f args0 h v h') (hc : callable P f = true) (ha : rens (sgOf sg) args0 = fs ++ args ++ cs) (hlen : sg.length = h.length) (hlow : lows h.length args0) (hnd : sg.Nodup)
    (hsg : ∀ b ∈ sg, b < s.H.length) (hall : allSome h) (hblk : blksOk (sgOf sg) h.length s h 0) (hro : allRw (h'.drop h.length)) (hle : h.length ≤ h'.length)
    (ho : ∀ x ∈ (memRes sg s.H.length v h').old, x.1 ∈ sg ∧ getH s.H x.1 = x.2)
    (hk : goOpsD P m n R l (tr ++ [foot s (memRes sg s.H.length v h').read]) ops k (s.after dst (memRes sg s.H.length v h').read)) : goCallD P m n R (.fn f fs cs) args dst l tr ops k s :=
  ⟨_, (call_mem sg hs hc ha hlen hlow hnd hsg hall hblk hro hle).read ho, fun x hx => by simp [Res.read] at hx, hk⟩
end
attribute [go_sem] Res.read
end Go.Vm
end
