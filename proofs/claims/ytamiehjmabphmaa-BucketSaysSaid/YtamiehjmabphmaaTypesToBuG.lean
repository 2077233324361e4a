/- A part of the proof: laws of a small machine of values, or what one function answers, proved against the model; no conditions beyond those in each theorem. -/
import Derived.Test.YtamiehjmabphmaaProg
import Derived.Test.YtamiehjmabphmaaVmYToVmY3
set_option linter.unusedVariables false
set_option linter.unusedSimpArgs false
set_option linter.unusedSectionVars false
section
namespace Go.Vm.Ty
open Go.Proofs
set_option maxRecDepth 100000
theorem sz1 : szOf Try.prog 1 = some 1 := by kernel_rfl
theorem by1 : byOf Try.prog 1 = some 8 := by kernel_rfl
theorem zero1 : zeroOf Try.prog 1 = some [.nilFn] := by kernel_rfl
theorem row1 : isRowT Try.prog 1 = some false := by kernel_rfl
theorem sz2 : szOf Try.prog 2 = some 1 := by kernel_rfl
theorem by2 : byOf Try.prog 2 = some 8 := by kernel_rfl
theorem zero2 : zeroOf Try.prog 2 = some [.i64 0] := by kernel_rfl
theorem row2 : isRowT Try.prog 2 = some false := by kernel_rfl
theorem sz3 : szOf Try.prog 3 = some 1 := by kernel_rfl
theorem by3 : byOf Try.prog 3 = some 8 := by kernel_rfl
theorem zero3 : zeroOf Try.prog 3 = some [.i64 0] := by kernel_rfl
theorem row3 : isRowT Try.prog 3 = some false := by kernel_rfl
theorem sz4 : szOf Try.prog 4 = some 1 := by kernel_rfl
theorem by4 : byOf Try.prog 4 = some 1 := by kernel_rfl
theorem zero4 : zeroOf Try.prog 4 = some [.bool false] := by kernel_rfl
theorem row4 : isRowT Try.prog 4 = some false := by kernel_rfl
theorem sz5 : szOf Try.prog 5 = some 1 := by kernel_rfl
theorem by5 : byOf Try.prog 5 = some 1 := by kernel_rfl
theorem zero5 : zeroOf Try.prog 5 = some [.u8 0#8] := by kernel_rfl
theorem row5 : isRowT Try.prog 5 = some false := by kernel_rfl
theorem sz6 : szOf Try.prog 6 = some 1 := by kernel_rfl
theorem by6 : byOf Try.prog 6 = some 1 := by kernel_rfl
theorem zero6 : zeroOf Try.prog 6 = some [.u8 0#8] := by kernel_rfl
theorem row6 : isRowT Try.prog 6 = some false := by kernel_rfl
theorem sz7 : szOf Try.prog 7 = some 4 := by kernel_rfl
theorem by7 : byOf Try.prog 7 = some 24 := by kernel_rfl
theorem zero7 : zeroOf Try.prog 7 = some [.i64 0, .i64 0, .bool false, .u8 0#8] := by kernel_rfl
theorem row7 : isRowT Try.prog 7 = some true := by kernel_rfl
theorem fld7_0 : fldOf Try.prog 7 0 = some (0, 2) := by kernel_rfl
theorem fld7_1 : fldOf Try.prog 7 1 = some (1, 3) := by kernel_rfl
theorem fld7_2 : fldOf Try.prog 7 2 = some (2, 4) := by kernel_rfl
theorem fld7_3 : fldOf Try.prog 7 3 = some (3, 6) := by kernel_rfl
theorem bld7 : buildT Try.prog 7 = some ([.i64 0, .i64 0, .bool false, .u8 0#8], .inl [(0, 1), (1, 1), (2, 1), (3, 1)]) := by kernel_rfl
theorem sz8 : szOf Try.prog 8 = some 4 := by kernel_rfl
theorem by8 : byOf Try.prog 8 = some 24 := by kernel_rfl
theorem zero8 : zeroOf Try.prog 8 = some [.i64 0, .i64 0, .bool false, .u8 0#8] := by kernel_rfl
theorem row8 : isRowT Try.prog 8 = some true := by kernel_rfl
theorem fld8_0 : fldOf Try.prog 8 0 = some (0, 2) := by kernel_rfl
theorem fld8_1 : fldOf Try.prog 8 1 = some (1, 3) := by kernel_rfl
theorem fld8_2 : fldOf Try.prog 8 2 = some (2, 4) := by kernel_rfl
theorem fld8_3 : fldOf Try.prog 8 3 = some (3, 6) := by kernel_rfl
theorem bld8 : buildT Try.prog 8 = some ([.i64 0, .i64 0, .bool false, .u8 0#8], .inl [(0, 1), (1, 1), (2, 1), (3, 1)]) := by kernel_rfl
theorem sz9 : szOf Try.prog 9 = some 1 := by kernel_rfl
theorem by9 : byOf Try.prog 9 = some 16 := by kernel_rfl
theorem zero9 : zeroOf Try.prog 9 = some [.str []] := by kernel_rfl
theorem row9 : isRowT Try.prog 9 = some false := by kernel_rfl
theorem sz10 : szOf Try.prog 10 = some 1 := by kernel_rfl
theorem by10 : byOf Try.prog 10 = some 16 := by kernel_rfl
theorem zero10 : zeroOf Try.prog 10 = some [.str []] := by kernel_rfl
theorem row10 : isRowT Try.prog 10 = some false := by kernel_rfl
theorem sz11 : szOf Try.prog 11 = some 1 := by kernel_rfl
theorem by11 : byOf Try.prog 11 = some 16 := by kernel_rfl
theorem zero11 : zeroOf Try.prog 11 = some [.str []] := by kernel_rfl
theorem row11 : isRowT Try.prog 11 = some false := by kernel_rfl
theorem sz12 : szOf Try.prog 12 = some 1 := by kernel_rfl
theorem by12 : byOf Try.prog 12 = some 8 := by kernel_rfl
theorem zero12 : zeroOf Try.prog 12 = some [.u64 0#64] := by kernel_rfl
theorem row12 : isRowT Try.prog 12 = some false := by kernel_rfl
theorem sz13 : szOf Try.prog 13 = some 2 := by kernel_rfl
theorem by13 : byOf Try.prog 13 = some 24 := by kernel_rfl
theorem zero13 : zeroOf Try.prog 13 = some [.str [], .u64 0#64] := by kernel_rfl
theorem row13 : isRowT Try.prog 13 = some true := by kernel_rfl
theorem fld13_0 : fldOf Try.prog 13 0 = some (0, 9) := by kernel_rfl
theorem fld13_1 : fldOf Try.prog 13 1 = some (1, 12) := by kernel_rfl
theorem bld13 : buildT Try.prog 13 = some ([.str [], .u64 0#64], .inl [(0, 1), (1, 1)]) := by kernel_rfl
theorem sz14 : szOf Try.prog 14 = some 2 := by kernel_rfl
theorem by14 : byOf Try.prog 14 = some 24 := by kernel_rfl
theorem zero14 : zeroOf Try.prog 14 = some [.str [], .u64 0#64] := by kernel_rfl
theorem row14 : isRowT Try.prog 14 = some true := by kernel_rfl
theorem fld14_0 : fldOf Try.prog 14 0 = some (0, 9) := by kernel_rfl
theorem fld14_1 : fldOf Try.prog 14 1 = some (1, 12) := by kernel_rfl
theorem bld14 : buildT Try.prog 14 = some ([.str [], .u64 0#64], .inl [(0, 1), (1, 1)]) := by kernel_rfl
theorem sz15 : szOf Try.prog 15 = some 1 := by kernel_rfl
theorem by15 : byOf Try.prog 15 = some 8 := by kernel_rfl
theorem zero15 : zeroOf Try.prog 15 = some [.nilPtr] := by kernel_rfl
theorem row15 : isRowT Try.prog 15 = some false := by kernel_rfl
theorem sz16 : szOf Try.prog 16 = some 1 := by kernel_rfl
theorem by16 : byOf Try.prog 16 = some 8 := by kernel_rfl
theorem zero16 : zeroOf Try.prog 16 = some [.nilPtr] := by kernel_rfl
theorem row16 : isRowT Try.prog 16 = some false := by kernel_rfl
theorem sz17 : szOf Try.prog 17 = some 1 := by kernel_rfl
theorem by17 : byOf Try.prog 17 = some 8 := by kernel_rfl
theorem zero17 : zeroOf Try.prog 17 = some [.nilPtr] := by kernel_rfl
theorem row17 : isRowT Try.prog 17 = some false := by kernel_rfl
theorem sz18 : szOf Try.prog 18 = some 1 := by kernel_rfl
theorem by18 : byOf Try.prog 18 = some 8 := by kernel_rfl
theorem zero18 : zeroOf Try.prog 18 = some [.nilPtr] := by kernel_rfl
theorem row18 : isRowT Try.prog 18 = some true := by kernel_rfl
theorem fld18_0 : fldOf Try.prog 18 0 = some (0, 17) := by kernel_rfl
theorem bld18 : buildT Try.prog 18 = some ([.nilPtr], .inl [(0, 1)]) := by kernel_rfl
theorem sz19 : szOf Try.prog 19 = some 1 := by kernel_rfl
theorem by19 : byOf Try.prog 19 = some 8 := by kernel_rfl
theorem zero19 : zeroOf Try.prog 19 = some [.nilPtr] := by kernel_rfl
theorem row19 : isRowT Try.prog 19 = some true := by kernel_rfl
theorem fld19_0 : fldOf Try.prog 19 0 = some (0, 17) := by kernel_rfl
theorem bld19 : buildT Try.prog 19 = some ([.nilPtr], .inl [(0, 1)]) := by kernel_rfl
theorem sz20 : szOf Try.prog 20 = some 1 := by kernel_rfl
theorem by20 : byOf Try.prog 20 = some 16 := by kernel_rfl
theorem zero20 : zeroOf Try.prog 20 = some [.nilIface] := by kernel_rfl
theorem row20 : isRowT Try.prog 20 = some false := by kernel_rfl
theorem sz21 : szOf Try.prog 21 = some 1 := by kernel_rfl
theorem by21 : byOf Try.prog 21 = some 4 := by kernel_rfl
theorem zero21 : zeroOf Try.prog 21 = some [.i32 0] := by kernel_rfl
theorem row21 : isRowT Try.prog 21 = some false := by kernel_rfl
theorem sz22 : szOf Try.prog 22 = some 1 := by kernel_rfl
theorem by22 : byOf Try.prog 22 = some 24 := by kernel_rfl
theorem zero22 : zeroOf Try.prog 22 = some [.nilSlice] := by kernel_rfl
theorem row22 : isRowT Try.prog 22 = some false := by kernel_rfl
theorem slc22 : sliceT Try.prog 22 = some 34 := by kernel_rfl
theorem sz23 : szOf Try.prog 23 = some 1 := by kernel_rfl
theorem by23 : byOf Try.prog 23 = some 8 := by kernel_rfl
theorem zero23 : zeroOf Try.prog 23 = some [.nilPtr] := by kernel_rfl
theorem row23 : isRowT Try.prog 23 = some false := by kernel_rfl
theorem sz24 : szOf Try.prog 24 = some 1 := by kernel_rfl
theorem by24 : byOf Try.prog 24 = some 8 := by kernel_rfl
theorem zero24 : zeroOf Try.prog 24 = some [.nilFn] := by kernel_rfl
theorem row24 : isRowT Try.prog 24 = some false := by kernel_rfl
theorem sz25 : szOf Try.prog 25 = some 1 := by kernel_rfl
theorem by25 : byOf Try.prog 25 = some 8 := by kernel_rfl
theorem zero25 : zeroOf Try.prog 25 = some [.nilPtr] := by kernel_rfl
theorem row25 : isRowT Try.prog 25 = some false := by kernel_rfl
theorem sz26 : szOf Try.prog 26 = some 1 := by kernel_rfl
theorem by26 : byOf Try.prog 26 = some 24 := by kernel_rfl
theorem zero26 : zeroOf Try.prog 26 = some [.nilSlice] := by kernel_rfl
theorem row26 : isRowT Try.prog 26 = some false := by kernel_rfl
theorem slc26 : sliceT Try.prog 26 = some 30 := by kernel_rfl
theorem sz27 : szOf Try.prog 27 = some 1 := by kernel_rfl
theorem by27 : byOf Try.prog 27 = some 24 := by kernel_rfl
theorem zero27 : zeroOf Try.prog 27 = some [.nilSlice] := by kernel_rfl
theorem row27 : isRowT Try.prog 27 = some false := by kernel_rfl
theorem slc27 : sliceT Try.prog 27 = some 3 := by kernel_rfl
theorem sz28 : szOf Try.prog 28 = some 3 := by kernel_rfl
theorem by28 : byOf Try.prog 28 = some 56 := by kernel_rfl
theorem zero28 : zeroOf Try.prog 28 = some [.i64 0, .nilSlice, .nilSlice] := by kernel_rfl
theorem row28 : isRowT Try.prog 28 = some true := by kernel_rfl
theorem fld28_0 : fldOf Try.prog 28 0 = some (0, 3) := by kernel_rfl
theorem fld28_1 : fldOf Try.prog 28 1 = some (1, 26) := by kernel_rfl
theorem fld28_2 : fldOf Try.prog 28 2 = some (2, 27) := by kernel_rfl
theorem bld28 : buildT Try.prog 28 = some ([.i64 0, .nilSlice, .nilSlice], .inl [(0, 1), (1, 1), (2, 1)]) := by kernel_rfl
theorem sz29 : szOf Try.prog 29 = some 3 := by kernel_rfl
theorem by29 : byOf Try.prog 29 = some 56 := by kernel_rfl
theorem zero29 : zeroOf Try.prog 29 = some [.i64 0, .nilSlice, .nilSlice] := by kernel_rfl
theorem row29 : isRowT Try.prog 29 = some true := by kernel_rfl
theorem fld29_0 : fldOf Try.prog 29 0 = some (0, 3) := by kernel_rfl
theorem fld29_1 : fldOf Try.prog 29 1 = some (1, 26) := by kernel_rfl
theorem fld29_2 : fldOf Try.prog 29 2 = some (2, 27) := by kernel_rfl
theorem bld29 : buildT Try.prog 29 = some ([.i64 0, .nilSlice, .nilSlice], .inl [(0, 1), (1, 1), (2, 1)]) := by kernel_rfl
theorem sz30 : szOf Try.prog 30 = some 1 := by kernel_rfl
theorem by30 : byOf Try.prog 30 = some 4 := by kernel_rfl
theorem zero30 : zeroOf Try.prog 30 = some [.u32 0#32] := by kernel_rfl
theorem row30 : isRowT Try.prog 30 = some false := by kernel_rfl
theorem sz31 : szOf Try.prog 31 = some 2 := by kernel_rfl
theorem by31 : byOf Try.prog 31 = some 16 := by kernel_rfl
theorem zero31 : zeroOf Try.prog 31 = some [.u32 0#32, .i64 0] := by kernel_rfl
theorem row31 : isRowT Try.prog 31 = some true := by kernel_rfl
theorem fld31_0 : fldOf Try.prog 31 0 = some (0, 30) := by kernel_rfl
theorem fld31_1 : fldOf Try.prog 31 1 = some (1, 3) := by kernel_rfl
theorem bld31 : buildT Try.prog 31 = some ([.u32 0#32, .i64 0], .inl [(0, 1), (1, 1)]) := by kernel_rfl
theorem sz32 : szOf Try.prog 32 = some 2 := by kernel_rfl
theorem by32 : byOf Try.prog 32 = some 16 := by kernel_rfl
theorem zero32 : zeroOf Try.prog 32 = some [.u32 0#32, .i64 0] := by kernel_rfl
theorem row32 : isRowT Try.prog 32 = some true := by kernel_rfl
theorem fld32_0 : fldOf Try.prog 32 0 = some (0, 30) := by kernel_rfl
theorem fld32_1 : fldOf Try.prog 32 1 = some (1, 3) := by kernel_rfl
theorem bld32 : buildT Try.prog 32 = some ([.u32 0#32, .i64 0], .inl [(0, 1), (1, 1)]) := by kernel_rfl
theorem sz33 : szOf Try.prog 33 = some 8 := by kernel_rfl
theorem by33 : byOf Try.prog 33 = some 64 := by kernel_rfl
theorem zero33 : zeroOf Try.prog 33 = some [.i64 0, .i64 0, .i64 0, .u32 0#32, .u32 0#32, .str [], .u32 0#32, .i64 0] := by kernel_rfl
theorem row33 : isRowT Try.prog 33 = some true := by kernel_rfl
theorem fld33_0 : fldOf Try.prog 33 0 = some (0, 3) := by kernel_rfl
theorem fld33_1 : fldOf Try.prog 33 1 = some (1, 3) := by kernel_rfl
theorem fld33_2 : fldOf Try.prog 33 2 = some (2, 3) := by kernel_rfl
theorem fld33_3 : fldOf Try.prog 33 3 = some (3, 30) := by kernel_rfl
theorem fld33_4 : fldOf Try.prog 33 4 = some (4, 30) := by kernel_rfl
theorem fld33_5 : fldOf Try.prog 33 5 = some (5, 9) := by kernel_rfl
theorem fld33_6 : fldOf Try.prog 33 6 = some (6, 32) := by kernel_rfl
theorem bld33 : buildT Try.prog 33 = some ([.i64 0, .i64 0, .i64 0, .u32 0#32, .u32 0#32, .str [], .u32 0#32, .i64 0], .inl [(0, 1), (1, 1), (2, 1), (3, 1), (4, 1), (5, 1), (6, 2)]) := by kernel_rfl
theorem sz34 : szOf Try.prog 34 = some 8 := by kernel_rfl
theorem by34 : byOf Try.prog 34 = some 64 := by kernel_rfl
theorem zero34 : zeroOf Try.prog 34 = some [.i64 0, .i64 0, .i64 0, .u32 0#32, .u32 0#32, .str [], .u32 0#32, .i64 0] := by kernel_rfl
theorem row34 : isRowT Try.prog 34 = some true := by kernel_rfl
theorem fld34_0 : fldOf Try.prog 34 0 = some (0, 3) := by kernel_rfl
theorem fld34_1 : fldOf Try.prog 34 1 = some (1, 3) := by kernel_rfl
theorem fld34_2 : fldOf Try.prog 34 2 = some (2, 3) := by kernel_rfl
theorem fld34_3 : fldOf Try.prog 34 3 = some (3, 30) := by kernel_rfl
theorem fld34_4 : fldOf Try.prog 34 4 = some (4, 30) := by kernel_rfl
theorem fld34_5 : fldOf Try.prog 34 5 = some (5, 9) := by kernel_rfl
theorem fld34_6 : fldOf Try.prog 34 6 = some (6, 32) := by kernel_rfl
theorem bld34 : buildT Try.prog 34 = some ([.i64 0, .i64 0, .i64 0, .u32 0#32, .u32 0#32, .str [], .u32 0#32, .i64 0], .inl [(0, 1), (1, 1), (2, 1), (3, 1), (4, 1), (5, 1), (6, 2)]) := by kernel_rfl
theorem sz35 : szOf Try.prog 35 = some 1 := by kernel_rfl
theorem by35 : byOf Try.prog 35 = some 8 := by kernel_rfl
theorem zero35 : zeroOf Try.prog 35 = some [.i64 0] := by kernel_rfl
theorem row35 : isRowT Try.prog 35 = some false := by kernel_rfl
theorem sz36 : szOf Try.prog 36 = some 1 := by kernel_rfl
theorem by36 : byOf Try.prog 36 = some 8 := by kernel_rfl
theorem zero36 : zeroOf Try.prog 36 = some [.nilFn] := by kernel_rfl
theorem row36 : isRowT Try.prog 36 = some false := by kernel_rfl
theorem sz37 : szOf Try.prog 37 = some 1 := by kernel_rfl
theorem by37 : byOf Try.prog 37 = some 8 := by kernel_rfl
theorem zero37 : zeroOf Try.prog 37 = some [.nilFn] := by kernel_rfl
theorem row37 : isRowT Try.prog 37 = some false := by kernel_rfl
theorem sz38 : szOf Try.prog 38 = some 1 := by kernel_rfl
theorem by38 : byOf Try.prog 38 = some 8 := by kernel_rfl
theorem zero38 : zeroOf Try.prog 38 = some [.nilFn] := by kernel_rfl
theorem row38 : isRowT Try.prog 38 = some false := by kernel_rfl
theorem sz39 : szOf Try.prog 39 = some 1 := by kernel_rfl
theorem by39 : byOf Try.prog 39 = some 8 := by kernel_rfl
theorem zero39 : zeroOf Try.prog 39 = some [.nilPtr] := by kernel_rfl
theorem row39 : isRowT Try.prog 39 = some false := by kernel_rfl
theorem sz40 : szOf Try.prog 40 = some 1 := by kernel_rfl
theorem by40 : byOf Try.prog 40 = some 8 := by kernel_rfl
theorem zero40 : zeroOf Try.prog 40 = some [.nilFn] := by kernel_rfl
theorem row40 : isRowT Try.prog 40 = some false := by kernel_rfl
theorem sz41 : szOf Try.prog 41 = some 1 := by kernel_rfl
theorem by41 : byOf Try.prog 41 = some 8 := by kernel_rfl
theorem zero41 : zeroOf Try.prog 41 = some [.nilPtr] := by kernel_rfl
theorem row41 : isRowT Try.prog 41 = some false := by kernel_rfl
theorem sz42 : szOf Try.prog 42 = some 1 := by kernel_rfl
theorem by42 : byOf Try.prog 42 = some 24 := by kernel_rfl
theorem zero42 : zeroOf Try.prog 42 = some [.nilSlice] := by kernel_rfl
theorem row42 : isRowT Try.prog 42 = some false := by kernel_rfl
theorem slc42 : sliceT Try.prog 42 = some 51 := by kernel_rfl
theorem sz43 : szOf Try.prog 43 = some 1 := by kernel_rfl
theorem by43 : byOf Try.prog 43 = some 24 := by kernel_rfl
theorem zero43 : zeroOf Try.prog 43 = some [.nilSlice] := by kernel_rfl
theorem row43 : isRowT Try.prog 43 = some true := by kernel_rfl
theorem fld43_0 : fldOf Try.prog 43 0 = some (0, 42) := by kernel_rfl
theorem bld43 : buildT Try.prog 43 = some ([.nilSlice], .inl [(0, 1)]) := by kernel_rfl
theorem sz44 : szOf Try.prog 44 = some 1 := by kernel_rfl
theorem by44 : byOf Try.prog 44 = some 24 := by kernel_rfl
theorem zero44 : zeroOf Try.prog 44 = some [.nilSlice] := by kernel_rfl
theorem row44 : isRowT Try.prog 44 = some true := by kernel_rfl
theorem fld44_0 : fldOf Try.prog 44 0 = some (0, 42) := by kernel_rfl
theorem bld44 : buildT Try.prog 44 = some ([.nilSlice], .inl [(0, 1)]) := by kernel_rfl
theorem sz45 : szOf Try.prog 45 = some 1 := by kernel_rfl
theorem by45 : byOf Try.prog 45 = some 8 := by kernel_rfl
theorem zero45 : zeroOf Try.prog 45 = some [.nilFn] := by kernel_rfl
theorem row45 : isRowT Try.prog 45 = some false := by kernel_rfl
theorem sz46 : szOf Try.prog 46 = some 1 := by kernel_rfl
theorem by46 : byOf Try.prog 46 = some 8 := by kernel_rfl
theorem zero46 : zeroOf Try.prog 46 = some [.nilFn] := by kernel_rfl
theorem row46 : isRowT Try.prog 46 = some false := by kernel_rfl
theorem sz48 : szOf Try.prog 48 = some 1 := by kernel_rfl
theorem by48 : byOf Try.prog 48 = some 8 := by kernel_rfl
theorem zero48 : zeroOf Try.prog 48 = some [.nilFn] := by kernel_rfl
theorem row48 : isRowT Try.prog 48 = some false := by kernel_rfl
theorem sz49 : szOf Try.prog 49 = some 1 := by kernel_rfl
theorem by49 : byOf Try.prog 49 = some 8 := by kernel_rfl
theorem zero49 : zeroOf Try.prog 49 = some [.nilFn] := by kernel_rfl
theorem row49 : isRowT Try.prog 49 = some false := by kernel_rfl
theorem sz50 : szOf Try.prog 50 = some 3 := by kernel_rfl
theorem by50 : byOf Try.prog 50 = some 24 := by kernel_rfl
theorem zero50 : zeroOf Try.prog 50 = some [.u32 0#32, .i64 0, .i64 0] := by kernel_rfl
theorem row50 : isRowT Try.prog 50 = some true := by kernel_rfl
theorem fld50_0 : fldOf Try.prog 50 0 = some (0, 32) := by kernel_rfl
theorem fld50_1 : fldOf Try.prog 50 1 = some (2, 3) := by kernel_rfl
theorem bld50 : buildT Try.prog 50 = some ([.u32 0#32, .i64 0, .i64 0], .inl [(0, 2), (2, 1)]) := by kernel_rfl
theorem sz51 : szOf Try.prog 51 = some 3 := by kernel_rfl
theorem by51 : byOf Try.prog 51 = some 24 := by kernel_rfl
theorem zero51 : zeroOf Try.prog 51 = some [.u32 0#32, .i64 0, .i64 0] := by kernel_rfl
theorem row51 : isRowT Try.prog 51 = some true := by kernel_rfl
theorem fld51_0 : fldOf Try.prog 51 0 = some (0, 32) := by kernel_rfl
theorem fld51_1 : fldOf Try.prog 51 1 = some (2, 3) := by kernel_rfl
theorem bld51 : buildT Try.prog 51 = some ([.u32 0#32, .i64 0, .i64 0], .inl [(0, 2), (2, 1)]) := by kernel_rfl
theorem sz52 : szOf Try.prog 52 = some 1 := by kernel_rfl
theorem by52 : byOf Try.prog 52 = some 8 := by kernel_rfl
theorem zero52 : zeroOf Try.prog 52 = some [.nilFn] := by kernel_rfl
theorem row52 : isRowT Try.prog 52 = some false := by kernel_rfl
theorem sz53 : szOf Try.prog 53 = some 1 := by kernel_rfl
theorem by53 : byOf Try.prog 53 = some 8 := by kernel_rfl
theorem zero53 : zeroOf Try.prog 53 = some [.nilFn] := by kernel_rfl
theorem row53 : isRowT Try.prog 53 = some false := by kernel_rfl
theorem sz55 : szOf Try.prog 55 = some 2 := by kernel_rfl
theorem by55 : byOf Try.prog 55 = some 16 := by kernel_rfl
theorem zero55 : zeroOf Try.prog 55 = some [.i64 0, .junk] := by kernel_rfl
theorem row55 : isRowT Try.prog 55 = some true := by kernel_rfl
theorem fld55_0 : fldOf Try.prog 55 0 = some (0, 3) := by kernel_rfl
theorem fld55_1 : fldOf Try.prog 55 1 = some (1, 54) := by kernel_rfl
theorem bld55 : buildT Try.prog 55 = some ([.i64 0, .junk], .inl [(0, 1), (1, 1)]) := by kernel_rfl
theorem sz56 : szOf Try.prog 56 = some 2 := by kernel_rfl
theorem by56 : byOf Try.prog 56 = some 16 := by kernel_rfl
theorem zero56 : zeroOf Try.prog 56 = some [.i64 0, .junk] := by kernel_rfl
theorem row56 : isRowT Try.prog 56 = some true := by kernel_rfl
theorem fld56_0 : fldOf Try.prog 56 0 = some (0, 3) := by kernel_rfl
theorem fld56_1 : fldOf Try.prog 56 1 = some (1, 54) := by kernel_rfl
theorem bld56 : buildT Try.prog 56 = some ([.i64 0, .junk], .inl [(0, 1), (1, 1)]) := by kernel_rfl
theorem sz57 : szOf Try.prog 57 = some 1 := by kernel_rfl
theorem by57 : byOf Try.prog 57 = some 8 := by kernel_rfl
theorem zero57 : zeroOf Try.prog 57 = some [.nilFn] := by kernel_rfl
theorem row57 : isRowT Try.prog 57 = some false := by kernel_rfl
theorem sz58 : szOf Try.prog 58 = some 1 := by kernel_rfl
theorem by58 : byOf Try.prog 58 = some 8 := by kernel_rfl
theorem zero58 : zeroOf Try.prog 58 = some [.nilFn] := by kernel_rfl
theorem row58 : isRowT Try.prog 58 = some false := by kernel_rfl
theorem sz59 : szOf Try.prog 59 = some 1 := by kernel_rfl
theorem by59 : byOf Try.prog 59 = some 8 := by kernel_rfl
theorem zero59 : zeroOf Try.prog 59 = some [.nilPtr] := by kernel_rfl
theorem row59 : isRowT Try.prog 59 = some false := by kernel_rfl
theorem sz60 : szOf Try.prog 60 = some 2 := by kernel_rfl
theorem by60 : byOf Try.prog 60 = some 16 := by kernel_rfl
theorem zero60 : zeroOf Try.prog 60 = some [.nilPtr, .nilPtr] := by kernel_rfl
theorem row60 : isRowT Try.prog 60 = some true := by kernel_rfl
theorem arr60 : arrT Try.prog 60 = some (2, 59) := by kernel_rfl
theorem bld60 : buildT Try.prog 60 = some ([.nilPtr, .nilPtr], .inr 1) := by kernel_rfl
theorem sz61 : szOf Try.prog 61 = some 4 := by kernel_rfl
theorem by61 : byOf Try.prog 61 = some 32 := by kernel_rfl
theorem zero61 : zeroOf Try.prog 61 = some [.nilPtr, .nilPtr, .bool false, .i64 0] := by kernel_rfl
theorem row61 : isRowT Try.prog 61 = some true := by kernel_rfl
theorem fld61_0 : fldOf Try.prog 61 0 = some (0, 60) := by kernel_rfl
theorem fld61_1 : fldOf Try.prog 61 1 = some (2, 4) := by kernel_rfl
theorem fld61_2 : fldOf Try.prog 61 2 = some (3, 3) := by kernel_rfl
theorem bld61 : buildT Try.prog 61 = some ([.nilPtr, .nilPtr, .bool false, .i64 0], .inl [(0, 2), (2, 1), (3, 1)]) := by kernel_rfl
theorem sz62 : szOf Try.prog 62 = some 4 := by kernel_rfl
theorem by62 : byOf Try.prog 62 = some 32 := by kernel_rfl
theorem zero62 : zeroOf Try.prog 62 = some [.nilPtr, .nilPtr, .bool false, .i64 0] := by kernel_rfl
theorem row62 : isRowT Try.prog 62 = some true := by kernel_rfl
theorem fld62_0 : fldOf Try.prog 62 0 = some (0, 60) := by kernel_rfl
theorem fld62_1 : fldOf Try.prog 62 1 = some (2, 4) := by kernel_rfl
theorem fld62_2 : fldOf Try.prog 62 2 = some (3, 3) := by kernel_rfl
theorem bld62 : buildT Try.prog 62 = some ([.nilPtr, .nilPtr, .bool false, .i64 0], .inl [(0, 2), (2, 1), (3, 1)]) := by kernel_rfl
theorem sz63 : szOf Try.prog 63 = some 5 := by kernel_rfl
theorem by63 : byOf Try.prog 63 = some 40 := by kernel_rfl
theorem zero63 : zeroOf Try.prog 63 = some [.nilPtr, .nilPtr, .bool false, .i64 0, .i64 0] := by kernel_rfl
theorem row63 : isRowT Try.prog 63 = some true := by kernel_rfl
theorem fld63_0 : fldOf Try.prog 63 0 = some (0, 62) := by kernel_rfl
theorem fld63_1 : fldOf Try.prog 63 1 = some (4, 3) := by kernel_rfl
theorem bld63 : buildT Try.prog 63 = some ([.nilPtr, .nilPtr, .bool false, .i64 0, .i64 0], .inl [(0, 4), (4, 1)]) := by kernel_rfl
theorem sz64 : szOf Try.prog 64 = some 5 := by kernel_rfl
theorem by64 : byOf Try.prog 64 = some 40 := by kernel_rfl
theorem zero64 : zeroOf Try.prog 64 = some [.nilPtr, .nilPtr, .bool false, .i64 0, .i64 0] := by kernel_rfl
theorem row64 : isRowT Try.prog 64 = some true := by kernel_rfl
theorem fld64_0 : fldOf Try.prog 64 0 = some (0, 62) := by kernel_rfl
theorem fld64_1 : fldOf Try.prog 64 1 = some (4, 3) := by kernel_rfl
theorem bld64 : buildT Try.prog 64 = some ([.nilPtr, .nilPtr, .bool false, .i64 0, .i64 0], .inl [(0, 4), (4, 1)]) := by kernel_rfl
theorem sz65 : szOf Try.prog 65 = some 1 := by kernel_rfl
theorem by65 : byOf Try.prog 65 = some 8 := by kernel_rfl
theorem zero65 : zeroOf Try.prog 65 = some [.nilFn] := by kernel_rfl
theorem row65 : isRowT Try.prog 65 = some false := by kernel_rfl
theorem sz66 : szOf Try.prog 66 = some 1 := by kernel_rfl
theorem by66 : byOf Try.prog 66 = some 8 := by kernel_rfl
theorem zero66 : zeroOf Try.prog 66 = some [.nilFn] := by kernel_rfl
theorem row66 : isRowT Try.prog 66 = some false := by kernel_rfl
theorem sz67 : szOf Try.prog 67 = some 1 := by kernel_rfl
theorem by67 : byOf Try.prog 67 = some 8 := by kernel_rfl
theorem zero67 : zeroOf Try.prog 67 = some [.nilFn] := by kernel_rfl
theorem row67 : isRowT Try.prog 67 = some false := by kernel_rfl
theorem sz68 : szOf Try.prog 68 = some 1 := by kernel_rfl
theorem by68 : byOf Try.prog 68 = some 8 := by kernel_rfl
theorem zero68 : zeroOf Try.prog 68 = some [.nilFn] := by kernel_rfl
theorem row68 : isRowT Try.prog 68 = some false := by kernel_rfl
theorem sz69 : szOf Try.prog 69 = some 1 := by kernel_rfl
theorem by69 : byOf Try.prog 69 = some 8 := by kernel_rfl
theorem zero69 : zeroOf Try.prog 69 = some [.u64 0#64] := by kernel_rfl
theorem row69 : isRowT Try.prog 69 = some false := by kernel_rfl
theorem sz70 : szOf Try.prog 70 = some 1 := by kernel_rfl
theorem by70 : byOf Try.prog 70 = some 8 := by kernel_rfl
theorem zero70 : zeroOf Try.prog 70 = some [.nilFn] := by kernel_rfl
theorem row70 : isRowT Try.prog 70 = some false := by kernel_rfl
theorem sz71 : szOf Try.prog 71 = some 1 := by kernel_rfl
theorem by71 : byOf Try.prog 71 = some 8 := by kernel_rfl
theorem zero71 : zeroOf Try.prog 71 = some [.nilFn] := by kernel_rfl
theorem row71 : isRowT Try.prog 71 = some false := by kernel_rfl
theorem sz72 : szOf Try.prog 72 = some 1 := by kernel_rfl
theorem by72 : byOf Try.prog 72 = some 8 := by kernel_rfl
theorem zero72 : zeroOf Try.prog 72 = some [.nilFn] := by kernel_rfl
theorem row72 : isRowT Try.prog 72 = some false := by kernel_rfl
theorem sz73 : szOf Try.prog 73 = some 1 := by kernel_rfl
theorem by73 : byOf Try.prog 73 = some 8 := by kernel_rfl
theorem zero73 : zeroOf Try.prog 73 = some [.nilFn] := by kernel_rfl
theorem row73 : isRowT Try.prog 73 = some false := by kernel_rfl
theorem sz74 : szOf Try.prog 74 = some 1 := by kernel_rfl
theorem by74 : byOf Try.prog 74 = some 8 := by kernel_rfl
theorem zero74 : zeroOf Try.prog 74 = some [.nilFn] := by kernel_rfl
theorem row74 : isRowT Try.prog 74 = some false := by kernel_rfl
theorem sz75 : szOf Try.prog 75 = some 4 := by kernel_rfl
theorem by75 : byOf Try.prog 75 = some 40 := by kernel_rfl
theorem zero75 : zeroOf Try.prog 75 = some [.nilPtr, .nilPtr, .nilPtr, .str []] := by kernel_rfl
theorem row75 : isRowT Try.prog 75 = some true := by kernel_rfl
theorem fld75_0 : fldOf Try.prog 75 0 = some (0, 17) := by kernel_rfl
theorem fld75_1 : fldOf Try.prog 75 1 = some (1, 17) := by kernel_rfl
theorem fld75_2 : fldOf Try.prog 75 2 = some (2, 17) := by kernel_rfl
theorem fld75_3 : fldOf Try.prog 75 3 = some (3, 9) := by kernel_rfl
theorem bld75 : buildT Try.prog 75 = some ([.nilPtr, .nilPtr, .nilPtr, .str []], .inl [(0, 1), (1, 1), (2, 1), (3, 1)]) := by kernel_rfl
theorem sz76 : szOf Try.prog 76 = some 4 := by kernel_rfl
theorem by76 : byOf Try.prog 76 = some 40 := by kernel_rfl
theorem zero76 : zeroOf Try.prog 76 = some [.nilPtr, .nilPtr, .nilPtr, .str []] := by kernel_rfl
theorem row76 : isRowT Try.prog 76 = some true := by kernel_rfl
theorem fld76_0 : fldOf Try.prog 76 0 = some (0, 17) := by kernel_rfl
theorem fld76_1 : fldOf Try.prog 76 1 = some (1, 17) := by kernel_rfl
theorem fld76_2 : fldOf Try.prog 76 2 = some (2, 17) := by kernel_rfl
theorem fld76_3 : fldOf Try.prog 76 3 = some (3, 9) := by kernel_rfl
theorem bld76 : buildT Try.prog 76 = some ([.nilPtr, .nilPtr, .nilPtr, .str []], .inl [(0, 1), (1, 1), (2, 1), (3, 1)]) := by kernel_rfl
theorem sz77 : szOf Try.prog 77 = some 0 := by kernel_rfl
theorem by77 : byOf Try.prog 77 = some 0 := by kernel_rfl
theorem zero77 : zeroOf Try.prog 77 = some [] := by kernel_rfl
theorem row77 : isRowT Try.prog 77 = some true := by kernel_rfl
theorem arr77 : arrT Try.prog 77 = some (0, 16) := by kernel_rfl
theorem bld77 : buildT Try.prog 77 = some ([], .inr 1) := by kernel_rfl
theorem sz78 : szOf Try.prog 78 = some 0 := by kernel_rfl
theorem by78 : byOf Try.prog 78 = some 0 := by kernel_rfl
theorem zero78 : zeroOf Try.prog 78 = some [] := by kernel_rfl
theorem row78 : isRowT Try.prog 78 = some true := by kernel_rfl
theorem fld78_0 : fldOf Try.prog 78 0 = some (0, 77) := by kernel_rfl
theorem bld78 : buildT Try.prog 78 = some ([], .inl [(0, 0)]) := by kernel_rfl
theorem sz79 : szOf Try.prog 79 = some 0 := by kernel_rfl
theorem by79 : byOf Try.prog 79 = some 0 := by kernel_rfl
theorem zero79 : zeroOf Try.prog 79 = some [] := by kernel_rfl
theorem row79 : isRowT Try.prog 79 = some true := by kernel_rfl
theorem fld79_0 : fldOf Try.prog 79 0 = some (0, 77) := by kernel_rfl
theorem bld79 : buildT Try.prog 79 = some ([], .inl [(0, 0)]) := by kernel_rfl
theorem sz80 : szOf Try.prog 80 = some 1 := by kernel_rfl
theorem by80 : byOf Try.prog 80 = some 8 := by kernel_rfl
theorem zero80 : zeroOf Try.prog 80 = some [.nilFn] := by kernel_rfl
theorem row80 : isRowT Try.prog 80 = some false := by kernel_rfl
theorem sz81 : szOf Try.prog 81 = some 1 := by kernel_rfl
theorem by81 : byOf Try.prog 81 = some 1 := by kernel_rfl
theorem zero81 : zeroOf Try.prog 81 = some [.u8 0#8] := by kernel_rfl
theorem row81 : isRowT Try.prog 81 = some false := by kernel_rfl
theorem sz82 : szOf Try.prog 82 = some 1 := by kernel_rfl
theorem by82 : byOf Try.prog 82 = some 1 := by kernel_rfl
theorem zero82 : zeroOf Try.prog 82 = some [.u8 0#8] := by kernel_rfl
theorem row82 : isRowT Try.prog 82 = some false := by kernel_rfl
theorem sz83 : szOf Try.prog 83 = some 1 := by kernel_rfl
theorem by83 : byOf Try.prog 83 = some 8 := by kernel_rfl
theorem zero83 : zeroOf Try.prog 83 = some [.nilFn] := by kernel_rfl
theorem row83 : isRowT Try.prog 83 = some false := by kernel_rfl
theorem sz84 : szOf Try.prog 84 = some 1 := by kernel_rfl
theorem by84 : byOf Try.prog 84 = some 8 := by kernel_rfl
theorem zero84 : zeroOf Try.prog 84 = some [.nilPtr] := by kernel_rfl
theorem row84 : isRowT Try.prog 84 = some false := by kernel_rfl
theorem sz85 : szOf Try.prog 85 = some 1 := by kernel_rfl
theorem by85 : byOf Try.prog 85 = some 4 := by kernel_rfl
theorem zero85 : zeroOf Try.prog 85 = some [.i32 0] := by kernel_rfl
theorem row85 : isRowT Try.prog 85 = some false := by kernel_rfl
theorem sz86 : szOf Try.prog 86 = some 1 := by kernel_rfl
theorem by86 : byOf Try.prog 86 = some 4 := by kernel_rfl
theorem zero86 : zeroOf Try.prog 86 = some [.i32 0] := by kernel_rfl
theorem row86 : isRowT Try.prog 86 = some false := by kernel_rfl
theorem sz87 : szOf Try.prog 87 = some 11 := by kernel_rfl
theorem by87 : byOf Try.prog 87 = some 48 := by kernel_rfl
theorem zero87 : zeroOf Try.prog 87 = some [.u64 0#64, .u64 0#64, .u32 0#32, .u8 0#8, .u8 0#8, .u8 0#8, .u8 0#8, .nilFn, .nilPtr, .i32 0, .i32 0] := by kernel_rfl
theorem row87 : isRowT Try.prog 87 = some true := by kernel_rfl
theorem fld87_0 : fldOf Try.prog 87 0 = some (0, 12) := by kernel_rfl
theorem fld87_1 : fldOf Try.prog 87 1 = some (1, 12) := by kernel_rfl
theorem fld87_2 : fldOf Try.prog 87 2 = some (2, 30) := by kernel_rfl
theorem fld87_3 : fldOf Try.prog 87 3 = some (3, 81) := by kernel_rfl
theorem fld87_4 : fldOf Try.prog 87 4 = some (4, 5) := by kernel_rfl
theorem fld87_5 : fldOf Try.prog 87 5 = some (5, 5) := by kernel_rfl
theorem fld87_6 : fldOf Try.prog 87 6 = some (6, 82) := by kernel_rfl
theorem fld87_7 : fldOf Try.prog 87 7 = some (7, 83) := by kernel_rfl
theorem fld87_8 : fldOf Try.prog 87 8 = some (8, 84) := by kernel_rfl
theorem fld87_9 : fldOf Try.prog 87 9 = some (9, 85) := by kernel_rfl
theorem fld87_10 : fldOf Try.prog 87 10 = some (10, 86) := by kernel_rfl
theorem bld87 : buildT Try.prog 87 = some ([.u64 0#64, .u64 0#64, .u32 0#32, .u8 0#8, .u8 0#8, .u8 0#8, .u8 0#8, .nilFn, .nilPtr, .i32 0, .i32 0], .inl [(0, 1), (1, 1), (2, 1), (3, 1), (4, 1), (5, 1), (6, 1), (7, 1), (8, 1), (9, 1), (10, 1)]) := by kernel_rfl
theorem sz88 : szOf Try.prog 88 = some 11 := by kernel_rfl
theorem by88 : byOf Try.prog 88 = some 48 := by kernel_rfl
theorem zero88 : zeroOf Try.prog 88 = some [.u64 0#64, .u64 0#64, .u32 0#32, .u8 0#8, .u8 0#8, .u8 0#8, .u8 0#8, .nilFn, .nilPtr, .i32 0, .i32 0] := by kernel_rfl
theorem row88 : isRowT Try.prog 88 = some true := by kernel_rfl
theorem fld88_0 : fldOf Try.prog 88 0 = some (0, 12) := by kernel_rfl
theorem fld88_1 : fldOf Try.prog 88 1 = some (1, 12) := by kernel_rfl
theorem fld88_2 : fldOf Try.prog 88 2 = some (2, 30) := by kernel_rfl
theorem fld88_3 : fldOf Try.prog 88 3 = some (3, 81) := by kernel_rfl
theorem fld88_4 : fldOf Try.prog 88 4 = some (4, 5) := by kernel_rfl
theorem fld88_5 : fldOf Try.prog 88 5 = some (5, 5) := by kernel_rfl
theorem fld88_6 : fldOf Try.prog 88 6 = some (6, 82) := by kernel_rfl
theorem fld88_7 : fldOf Try.prog 88 7 = some (7, 83) := by kernel_rfl
theorem fld88_8 : fldOf Try.prog 88 8 = some (8, 84) := by kernel_rfl
theorem fld88_9 : fldOf Try.prog 88 9 = some (9, 85) := by kernel_rfl
theorem fld88_10 : fldOf Try.prog 88 10 = some (10, 86) := by kernel_rfl
theorem bld88 : buildT Try.prog 88 = some ([.u64 0#64, .u64 0#64, .u32 0#32, .u8 0#8, .u8 0#8, .u8 0#8, .u8 0#8, .nilFn, .nilPtr, .i32 0, .i32 0], .inl [(0, 1), (1, 1), (2, 1), (3, 1), (4, 1), (5, 1), (6, 1), (7, 1), (8, 1), (9, 1), (10, 1)]) := by kernel_rfl
theorem sz89 : szOf Try.prog 89 = some 1 := by kernel_rfl
theorem by89 : byOf Try.prog 89 = some 8 := by kernel_rfl
theorem zero89 : zeroOf Try.prog 89 = some [.nilPtr] := by kernel_rfl
theorem row89 : isRowT Try.prog 89 = some false := by kernel_rfl
theorem agt31 : aggTypes Try.prog 31 = some [30, 3] := by kernel_rfl
theorem agt32 : aggTypes Try.prog 32 = some [30, 3] := by kernel_rfl
attribute [go_sem] sz1 by1 zero1 row1 sz2 by2 zero2 row2 sz3 by3 zero3 row3
attribute [go_sem] sz4 by4 zero4 row4 sz5 by5 zero5 row5 sz6 by6 zero6 row6
attribute [go_sem] sz7 by7 zero7 row7 fld7_0 fld7_1 fld7_2 fld7_3 bld7 sz8 by8 zero8
attribute [go_sem] row8 fld8_0 fld8_1 fld8_2 fld8_3 bld8 sz9 by9 zero9 row9 sz10 by10
attribute [go_sem] zero10 row10 sz11 by11 zero11 row11 sz12 by12 zero12 row12 sz13 by13
attribute [go_sem] zero13 row13 fld13_0 fld13_1 bld13 sz14 by14 zero14 row14 fld14_0 fld14_1 bld14
attribute [go_sem] sz15 by15 zero15 row15 sz16 by16 zero16 row16 sz17 by17 zero17 row17
attribute [go_sem] sz18 by18 zero18 row18 fld18_0 bld18 sz19 by19 zero19 row19 fld19_0 bld19
attribute [go_sem] sz20 by20 zero20 row20 sz21 by21 zero21 row21 sz22 by22 zero22 row22
attribute [go_sem] slc22 sz23 by23 zero23 row23 sz24 by24 zero24 row24 sz25 by25 zero25
attribute [go_sem] row25 sz26 by26 zero26 row26 slc26 sz27 by27 zero27 row27 slc27 sz28
attribute [go_sem] by28 zero28 row28 fld28_0 fld28_1 fld28_2 bld28 sz29 by29 zero29 row29 fld29_0
attribute [go_sem] fld29_1 fld29_2 bld29 sz30 by30 zero30 row30 sz31 by31 zero31 row31 fld31_0
attribute [go_sem] fld31_1 bld31 sz32 by32 zero32 row32 fld32_0 fld32_1 bld32 sz33 by33 zero33
attribute [go_sem] row33 fld33_0 fld33_1 fld33_2 fld33_3 fld33_4 fld33_5 fld33_6 bld33 sz34 by34 zero34
attribute [go_sem] row34 fld34_0 fld34_1 fld34_2 fld34_3 fld34_4 fld34_5 fld34_6 bld34 sz35 by35 zero35
attribute [go_sem] row35 sz36 by36 zero36 row36 sz37 by37 zero37 row37 sz38 by38 zero38
attribute [go_sem] row38 sz39 by39 zero39 row39 sz40 by40 zero40 row40 sz41 by41 zero41
attribute [go_sem] row41 sz42 by42 zero42 row42 slc42 sz43 by43 zero43 row43 fld43_0 bld43
attribute [go_sem] sz44 by44 zero44 row44 fld44_0 bld44 sz45 by45 zero45 row45 sz46 by46
attribute [go_sem] zero46 row46 sz48 by48 zero48 row48 sz49 by49 zero49 row49 sz50 by50
attribute [go_sem] zero50 row50 fld50_0 fld50_1 bld50 sz51 by51 zero51 row51 fld51_0 fld51_1 bld51
attribute [go_sem] sz52 by52 zero52 row52 sz53 by53 zero53 row53 sz55 by55 zero55 row55
attribute [go_sem] fld55_0 fld55_1 bld55 sz56 by56 zero56 row56 fld56_0 fld56_1 bld56 sz57 by57
attribute [go_sem] zero57 row57 sz58 by58 zero58 row58 sz59 by59 zero59 row59 sz60 by60
attribute [go_sem] zero60 row60 arr60 bld60 sz61 by61 zero61 row61 fld61_0 fld61_1 fld61_2 bld61
attribute [go_sem] sz62 by62 zero62 row62 fld62_0 fld62_1 fld62_2 bld62 sz63 by63 zero63 row63
attribute [go_sem] fld63_0 fld63_1 bld63 sz64 by64 zero64 row64 fld64_0 fld64_1 bld64 sz65 by65
attribute [go_sem] zero65 row65 sz66 by66 zero66 row66 sz67 by67 zero67 row67 sz68 by68
attribute [go_sem] zero68 row68 sz69 by69 zero69 row69 sz70 by70 zero70 row70 sz71 by71
attribute [go_sem] zero71 row71 sz72 by72 zero72 row72 sz73 by73 zero73 row73 sz74 by74
attribute [go_sem] zero74 row74 sz75 by75 zero75 row75 fld75_0 fld75_1 fld75_2 fld75_3 bld75 sz76
attribute [go_sem] by76 zero76 row76 fld76_0 fld76_1 fld76_2 fld76_3 bld76 sz77 by77 zero77 row77
attribute [go_sem] arr77 bld77 sz78 by78 zero78 row78 fld78_0 bld78 sz79 by79 zero79 row79
attribute [go_sem] fld79_0 bld79 sz80 by80 zero80 row80 sz81 by81 zero81 row81 sz82 by82
attribute [go_sem] zero82 row82 sz83 by83 zero83 row83 sz84 by84 zero84 row84 sz85 by85
attribute [go_sem] zero85 row85 sz86 by86 zero86 row86 sz87 by87 zero87 row87 fld87_0 fld87_1
attribute [go_sem] fld87_2 fld87_3 fld87_4 fld87_5 fld87_6 fld87_7 fld87_8 fld87_9 fld87_10 bld87 sz88 by88
attribute [go_sem] zero88 row88 fld88_0 fld88_1 fld88_2 fld88_3 fld88_4 fld88_5 fld88_6 fld88_7 fld88_8 fld88_9
attribute [go_sem] fld88_10 bld88 sz89 by89 zero89 row89 agt31 agt32
attribute [go_sem] Try.underlying0 Try.underlying1 Try.underlying2 Try.underlying3 Try.underlying4 Try.underlying5 Try.underlying6 Try.underlying7 Try.underlying8 Try.underlying9
attribute [go_sem] Try.underlying10 Try.underlying11 Try.underlying12 Try.underlying13 Try.underlying14 Try.underlying15 Try.underlying16 Try.underlying17 Try.underlying18 Try.underlying19
attribute [go_sem] Try.underlying20 Try.underlying21 Try.underlying22 Try.underlying23 Try.underlying24 Try.underlying25 Try.underlying26 Try.underlying27 Try.underlying28 Try.underlying29
attribute [go_sem] Try.underlying30 Try.underlying31 Try.underlying32 Try.underlying33 Try.underlying34 Try.underlying35 Try.underlying36 Try.underlying37 Try.underlying38 Try.underlying39
attribute [go_sem] Try.underlying40 Try.underlying41 Try.underlying42 Try.underlying43 Try.underlying44 Try.underlying45 Try.underlying46 Try.underlying47 Try.underlying48 Try.underlying49
attribute [go_sem] Try.underlying50 Try.underlying51 Try.underlying52 Try.underlying53 Try.underlying54 Try.underlying55 Try.underlying56 Try.underlying57 Try.underlying58 Try.underlying59
attribute [go_sem] Try.underlying60 Try.underlying61 Try.underlying62 Try.underlying63 Try.underlying64 Try.underlying65 Try.underlying66 Try.underlying67 Try.underlying68 Try.underlying69
attribute [go_sem] Try.underlying70 Try.underlying71 Try.underlying72 Try.underlying73 Try.underlying74 Try.underlying75 Try.underlying76 Try.underlying77 Try.underlying78 Try.underlying79
attribute [go_sem] Try.underlying80 Try.underlying81 Try.underlying82 Try.underlying83 Try.underlying84 Try.underlying85 Try.underlying86 Try.underlying87 Try.underlying88 Try.underlying89
attribute [go_sem] Try.results3 Try.ntmps3 Try.results4 Try.ntmps4 Try.results5 Try.ntmps5 Try.results6 Try.ntmps6 Try.results7 Try.ntmps7 Try.results8 Try.ntmps8 Try.results9 Try.ntmps9 Try.results10 Try.ntmps10 Try.results11 Try.ntmps11 Try.results12 Try.ntmps12
attribute [go_sem] Try.results13 Try.ntmps13 Try.results14 Try.ntmps14 Try.results15 Try.ntmps15 Try.results16 Try.ntmps16 Try.results17 Try.ntmps17 Try.results18 Try.ntmps18 Try.results19 Try.ntmps19 Try.results20 Try.ntmps20 Try.results21 Try.ntmps21 Try.results22 Try.ntmps22
attribute [go_sem] Try.results23 Try.ntmps23 Try.results24 Try.ntmps24 Try.results25 Try.ntmps25 Try.results26 Try.ntmps26 Try.results27 Try.ntmps27 Try.results28 Try.ntmps28 Try.results29 Try.ntmps29 Try.results30 Try.ntmps30 Try.results31 Try.ntmps31 Try.results32 Try.ntmps32
attribute [go_sem] Try.results33 Try.ntmps33 Try.results34 Try.ntmps34 Try.results35 Try.ntmps35 Try.results36 Try.ntmps36 Try.results37 Try.ntmps37 Try.results38 Try.ntmps38 Try.results39 Try.ntmps39 Try.results40 Try.ntmps40 Try.results41 Try.ntmps41 Try.results42 Try.ntmps42
attribute [go_sem] Try.results43 Try.ntmps43 Try.results44 Try.ntmps44 Try.results45 Try.ntmps45
end Go.Vm.Ty
end
section
namespace Go.Vm
open Go.Proofs
set_option maxRecDepth 20000
theorem mapT54 : mapT Try.prog 54 = true := by kernel_rfl
theorem sz54 : szOf Try.prog 54 = some 1 := by kernel_rfl
theorem row54 : isRowT Try.prog 54 = some false := by kernel_rfl
attribute [go_sem] mapT54 sz54 row54
theorem New_spec : Spec0 Try.prog 5 [] [] (.ptr 0 0) [some ⟨false, [.i64 0, .map 1], none⟩, some ⟨false, [], some ⟨[], 0⟩⟩] := by
  refine spec0_of_vc (by kernel_rfl) (fn := Try.f5) Try.func5 rfl (by show 0 ≤ 4; decide) (go_start ?_)
  simp only [go_sem, ↓reduceIte, Nat.reduceEqDiff, Nat.reduceLT, Nat.reduceLeDiff, Nat.reduceAdd, Nat.reduceSub, Nat.reduceMul, Nat.reduceMod, Nat.reduceDiv, Int.reduceLE, Int.reduceLT, Int.reduceToNat, Int.reduceAdd, Int.reduceSub, Int.reduceMul, Int.reduceEq, Int.reduceNeg, BitVec.reduceOfInt, BitVec.reduceToNat, BitVec.reduceEq, BitVec.reduceNe, BitVec.reduceLT, reduceCtorEq, List.forall_mem_nil, Try.ntmps5, Try.results5]
  exact Fin.ren [1, 0] (by simp) (by simp) (by rfl) (by decide) (by simp [-List.map_map, -List.map_set]) (by simp [-List.map_map, -List.map_set])
theorem Left_spec (now : Int) (m : MapC) (k : BitVec 32) : Spec0 Try.prog 8 [.ptr 0 0, .u32 k] [some ⟨false, [.i64 now, .map 1], none⟩, some ⟨false, [], some m⟩] (.i64 ((entAt k m.es).getD 5)) [some ⟨false, [.i64 now, .map 1], none⟩, some ⟨false, [], some m⟩] := by
  refine spec0_of_vc (by kernel_rfl) (fn := Try.f8) Try.func8 rfl (by show 2 ≤ 18; decide) (go_start ?_)
  simp only [go_sem, ↓reduceIte, Nat.reduceEqDiff, Nat.reduceLT, Nat.reduceLeDiff, Nat.reduceAdd, Nat.reduceSub, Nat.reduceMul, Nat.reduceMod, Nat.reduceDiv, Int.reduceLE, Int.reduceLT, Int.reduceToNat, Int.reduceAdd, Int.reduceSub, Int.reduceMul, Int.reduceEq, Int.reduceNeg, BitVec.reduceOfInt, BitVec.reduceToNat, BitVec.reduceEq, BitVec.reduceNe, BitVec.reduceLT, reduceCtorEq, List.forall_mem_nil, Try.ntmps8, Try.results8]
  cases h : entAt k m.es with
  | none =>
    simp only [go_sem, ↓reduceIte, Nat.reduceEqDiff, Nat.reduceLT, Nat.reduceLeDiff, Nat.reduceAdd, Nat.reduceSub, Nat.reduceMul, Nat.reduceMod, Nat.reduceDiv, Int.reduceLE, Int.reduceLT, Int.reduceToNat, Int.reduceAdd, Int.reduceSub, Int.reduceMul, Int.reduceEq, Int.reduceNeg, BitVec.reduceOfInt, BitVec.reduceToNat, BitVec.reduceEq, BitVec.reduceNe, BitVec.reduceLT, reduceCtorEq, List.forall_mem_nil, h, Option.getD_none]
    exact Fin.ren [0, 1] (by simp) (by simp) (by rfl) (by decide) (by simp [-List.map_map, -List.map_set]) (by simp [-List.map_map, -List.map_set])
  | some n =>
    simp only [go_sem, ↓reduceIte, Nat.reduceEqDiff, Nat.reduceLT, Nat.reduceLeDiff, Nat.reduceAdd, Nat.reduceSub, Nat.reduceMul, Nat.reduceMod, Nat.reduceDiv, Int.reduceLE, Int.reduceLT, Int.reduceToNat, Int.reduceAdd, Int.reduceSub, Int.reduceMul, Int.reduceEq, Int.reduceNeg, BitVec.reduceOfInt, BitVec.reduceToNat, BitVec.reduceEq, BitVec.reduceNe, BitVec.reduceLT, reduceCtorEq, List.forall_mem_nil, h, Option.getD_some]
    exact Fin.ren [0, 1] (by simp) (by simp) (by rfl) (by decide) (by simp [-List.map_map, -List.map_set]) (by simp [-List.map_map, -List.map_set])
theorem Full_spec (k : BitVec 32) (n : Int) : PureFn Try.prog 22 [.u32 k, .i64 n] (.bool (decide (5 ≤ n))) := by
  refine pure_of_vc (by kernel_rfl) (fn := Try.f22) (by kernel_rfl) Try.func22 rfl (by show 2 ≤ 7; decide) (by simp [lows, V.low]) (by simp [lows, V.low, lows_ite, low_ite]) (go_start ?_)
  simp only [go_sem, ↓reduceIte, Nat.reduceEqDiff, Nat.reduceLT, Nat.reduceLeDiff, Nat.reduceAdd, Nat.reduceSub, Nat.reduceMul, Nat.reduceMod, Nat.reduceDiv, Int.reduceLE, Int.reduceLT, Int.reduceToNat, Int.reduceAdd, Int.reduceSub, Int.reduceMul, Int.reduceEq, Int.reduceNeg, BitVec.reduceOfInt, BitVec.reduceToNat, BitVec.reduceEq, BitVec.reduceNe, BitVec.reduceLT, reduceCtorEq, List.forall_mem_nil, Try.ntmps22, Try.results22]
end Go.Vm
end
section
namespace Go.Vm
open Go.Proofs
set_option maxRecDepth 20000
/-- Is a source full? -/
def full (n : Int) : Bool := decide (5 ≤ n)
/-- The map that DeleteFunc leaves. -/
def MapC.drop (m : MapC) : MapC := ⟨m.es.filter fun e => !full e.2.2, m.clock⟩
theorem Delete_spec (m : MapC) (hm : m.ok) : Spec0 Try.prog 21 [.map 0, .fn 22 [] []] [some ⟨false, [], some m⟩] (.tup []) [some ⟨false, [], some m.drop⟩] := by
  refine spec0_of_gs (fn := Try.f21) Try.func21 rfl (by show 2 ≤ 19; decide) ?_
  let M : List Nat → MapC := fun seen => ⟨dropSeen full m.es seen, m.clock⟩
  let J : List Nat → St := fun seen => ⟨[(0, .map 0), (1, .fn 22 [] []), (7, .ptr 1 0)], [some ⟨false, [], some (M seen)⟩, none]⟩
  have hM0 : M [] = m := by show (⟨dropSeen full m.es [], m.clock⟩ : MapC) = m; rw [dropSeen_nil]
  refine gs_mono (Q := seqQ (fun s' => getH s'.H 0 = some ⟨false, [], some m.drop⟩ ∧ 1 ≤ s'.H.length) fun _ _ => False) (gs_rangemap (by kernel_rfl) (S1 := ⟨[(6, .map 0), (0, .map 0), (1, .fn 22 [] [])], [some ⟨false, [], some m⟩]⟩) (pre := [_]) (bm := 0) (fun _ => True) J M (unseen m.es) rfl (by simp) (vops_go ?_) rfl (by rw [hM0]; rfl) rfl rfl rfl (by decide) Try.underlying54 rfl rfl rfl (by decide) rfl rfl rfl rfl (by decide) trivial (fun seen _ => ⟨fun e he => ?_, ?_, Nat.le_refl _⟩) (fun seen _ => rfl) ?_ (fun seen => rfl) (fun seen _ hall => vops_go ?_) (fun seen e _ he hs => ⟨trivial, ?_, vops_go ?_⟩)) ?_
  · simp only [go_sem, ↓reduceIte, Nat.reduceEqDiff, Nat.reduceLT, Nat.reduceLeDiff, Nat.reduceAdd, Nat.reduceSub, Nat.reduceMul, Nat.reduceMod, Nat.reduceDiv, Int.reduceLE, Int.reduceLT, Int.reduceToNat, Int.reduceAdd, Int.reduceSub, Int.reduceMul, Int.reduceEq, Int.reduceNeg, BitVec.reduceOfInt, BitVec.reduceToNat, BitVec.reduceEq, BitVec.reduceNe, BitVec.reduceLT, reduceCtorEq, List.forall_mem_nil]
  · exact hm.below e ((List.mem_filter.1 he).1)
  · exact List.Nodup.sublist (List.Sublist.map _ List.filter_sublist) hm.stamps
  · refine Weak.drop ?_ rfl (fun b B h => ?_)
    · simp [J, St.get, lookS, putS]
    · simpa [J, hM0] using h
  · have h2 : M seen = m.drop := by
      show (⟨dropSeen full m.es seen, m.clock⟩ : MapC) = ⟨m.es.filter fun e => !full e.2.2, m.clock⟩
      rw [dropSeen_end hall]
    simp only [go_sem, ↓reduceIte, Nat.reduceEqDiff, Nat.reduceLT, Nat.reduceLeDiff, Nat.reduceAdd, Nat.reduceSub, Nat.reduceMul, Nat.reduceMod, Nat.reduceDiv, Int.reduceLE, Int.reduceLT, Int.reduceToNat, Int.reduceAdd, Int.reduceSub, Int.reduceMul, Int.reduceEq, Int.reduceNeg, BitVec.reduceOfInt, BitVec.reduceToNat, BitVec.reduceEq, BitVec.reduceNe, BitVec.reduceLT, reduceCtorEq, List.forall_mem_nil, J, h2]
  · exact unseen_lt ((List.mem_filter.1 he).1) hs
  · have he0 : e ∈ m.es := (List.mem_filter.1 he).1
    have hM1 : M (seen ++ [e.1]) = if full e.2.2 = true then (M seen).del e.2.1 else M seen := by
      show (⟨dropSeen full m.es (seen ++ [e.1]), m.clock⟩ : MapC) = if full e.2.2 = true then ⟨entDel e.2.1 (dropSeen full m.es seen), m.clock⟩ else ⟨dropSeen full m.es seen, m.clock⟩
      rw [dropSeen_step hm he0 hs]
      split <;> rfl
    obtain ⟨st, k, v⟩ := e
    simp only at hM1 hs
    simp only [go_sem, ↓reduceIte, Nat.reduceEqDiff, Nat.reduceLT, Nat.reduceLeDiff, Nat.reduceAdd, Nat.reduceSub, Nat.reduceMul, Nat.reduceMod, Nat.reduceDiv, Int.reduceLE, Int.reduceLT, Int.reduceToNat, Int.reduceAdd, Int.reduceSub, Int.reduceMul, Int.reduceEq, Int.reduceNeg, BitVec.reduceOfInt, BitVec.reduceToNat, BitVec.reduceEq, BitVec.reduceNe, BitVec.reduceLT, reduceCtorEq, List.forall_mem_nil, J]
    refine vops_go ?_
    simp only [go_sem, ↓reduceIte, Nat.reduceEqDiff, Nat.reduceLT, Nat.reduceLeDiff, Nat.reduceAdd, Nat.reduceSub, Nat.reduceMul, Nat.reduceMod, Nat.reduceDiv, Int.reduceLE, Int.reduceLT, Int.reduceToNat, Int.reduceAdd, Int.reduceSub, Int.reduceMul, Int.reduceEq, Int.reduceNeg, BitVec.reduceOfInt, BitVec.reduceToNat, BitVec.reduceEq, BitVec.reduceNe, BitVec.reduceLT, reduceCtorEq, List.forall_mem_nil]
    refine go_start ?_
    simp only [go_sem, ↓reduceIte, Nat.reduceEqDiff, Nat.reduceLT, Nat.reduceLeDiff, Nat.reduceAdd, Nat.reduceSub, Nat.reduceMul, Nat.reduceMod, Nat.reduceDiv, Int.reduceLE, Int.reduceLT, Int.reduceToNat, Int.reduceAdd, Int.reduceSub, Int.reduceMul, Int.reduceEq, Int.reduceNeg, BitVec.reduceOfInt, BitVec.reduceToNat, BitVec.reduceEq, BitVec.reduceNe, BitVec.reduceLT, reduceCtorEq, List.forall_mem_nil]
    refine goCall_pure0 (Full_spec k v) ?_
    simp only [go_sem, ↓reduceIte, Nat.reduceEqDiff, Nat.reduceLT, Nat.reduceLeDiff, Nat.reduceAdd, Nat.reduceSub, Nat.reduceMul, Nat.reduceMod, Nat.reduceDiv, Int.reduceLE, Int.reduceLT, Int.reduceToNat, Int.reduceAdd, Int.reduceSub, Int.reduceMul, Int.reduceEq, Int.reduceNeg, BitVec.reduceOfInt, BitVec.reduceToNat, BitVec.reduceEq, BitVec.reduceNe, BitVec.reduceLT, reduceCtorEq, List.forall_mem_nil]
    by_cases hv : 5 ≤ v
    · have hf : full v = true := decide_eq_true hv
      rw [if_pos hf] at hM1
      simp only [go_sem, ↓reduceIte, Nat.reduceEqDiff, Nat.reduceLT, Nat.reduceLeDiff, Nat.reduceAdd, Nat.reduceSub, Nat.reduceMul, Nat.reduceMod, Nat.reduceDiv, Int.reduceLE, Int.reduceLT, Int.reduceToNat, Int.reduceAdd, Int.reduceSub, Int.reduceMul, Int.reduceEq, Int.reduceNeg, BitVec.reduceOfInt, BitVec.reduceToNat, BitVec.reduceEq, BitVec.reduceNe, BitVec.reduceLT, reduceCtorEq, List.forall_mem_nil, hv, hM1]
      refine ⟨rfl, Weak.drop ?_ rfl (fun _ _ h => h)⟩
      simp [St.get, lookS]
    · have hf : ¬ full v = true := by unfold full; simp [hv]
      rw [if_neg hf] at hM1
      simp only [go_sem, ↓reduceIte, Nat.reduceEqDiff, Nat.reduceLT, Nat.reduceLeDiff, Nat.reduceAdd, Nat.reduceSub, Nat.reduceMul, Nat.reduceMod, Nat.reduceDiv, Int.reduceLE, Int.reduceLT, Int.reduceToNat, Int.reduceAdd, Int.reduceSub, Int.reduceMul, Int.reduceEq, Int.reduceNeg, BitVec.reduceOfInt, BitVec.reduceToNat, BitVec.reduceEq, BitVec.reduceNe, BitVec.reduceLT, reduceCtorEq, List.forall_mem_nil, hv, hM1]
      refine ⟨rfl, Weak.drop ?_ rfl (fun _ _ h => h)⟩
      simp [St.get, lookS]
  · intro x s' hx
    cases x
    case normal =>
      obtain ⟨h1, h2⟩ := hx
      show Fin 1 (.tup []) [some ⟨false, [], some m.drop⟩] (.tup []) s'
      refine Fin.same (Nat.le_refl _) h2 trivial (fun b B h => ?_)
      cases b with
      | zero =>
        simp only [getH_zero] at h
        injection h with h
        subst h
        exact ⟨h1, trivial⟩
      | succ b => simp [getH] at h
    all_goals exact hx.elim
end Go.Vm
end
section
namespace Go.Vm
open Go.Proofs
set_option maxRecDepth 20000
/-- The entries seen have got d more. -/
def moreSeen (d : Int) (l : List (Nat × BitVec 32 × Int)) (seen : List Nat) : List (Nat × BitVec 32 × Int) := l.map fun e => if seen.contains e.1 = true then (e.1, e.2.1, e.2.2 + d) else e
/-- All have got d more. -/
def MapC.more (d : Int) (m : MapC) : MapC := ⟨m.es.map fun e => (e.1, e.2.1, e.2.2 + d), m.clock⟩
theorem moreSeen_nil (d : Int) (l : List (Nat × BitVec 32 × Int)) : moreSeen d l [] = l := by
  unfold moreSeen; simp
theorem moreSeen_stamps (d : Int) (l : List (Nat × BitVec 32 × Int)) (seen : List Nat) : (moreSeen d l seen).map (·.1) = l.map (·.1) := by
  unfold moreSeen
  rw [List.map_map]
  refine List.map_congr_left fun x _ => ?_
  simp only [Function.comp]
  split <;> rfl
theorem moreSeen_keys (d : Int) (l : List (Nat × BitVec 32 × Int)) (seen : List Nat) : (moreSeen d l seen).map (·.2.1) = l.map (·.2.1) := by
  unfold moreSeen
  rw [List.map_map]
  refine List.map_congr_left fun x _ => ?_
  simp only [Function.comp]
  split <;> rfl
theorem moreSeen_mem {d : Int} {l : List (Nat × BitVec 32 × Int)} {seen : List Nat} {e : Nat × BitVec 32 × Int} (h : e ∈ moreSeen d l seen) (hs : e.1 ∉ seen) : e ∈ l := by
  unfold moreSeen at h
  obtain ⟨x, hx, he⟩ := List.mem_map.1 h
  split at he
  · rename_i hc
    rw [← he] at hs
    exact absurd (by simpa using hc) hs
  · rw [← he]; exact hx
theorem moreSeen_step {d : Int} {m : MapC} (hm : m.ok) {seen : List Nat} {e : Nat × BitVec 32 × Int} (he : e ∈ m.es) (hs : e.1 ∉ seen) : moreSeen d m.es (seen ++ [e.1]) = entPut e.2.1 (e.2.2 + d) (moreSeen d m.es seen) := by
  rw [entPut_map _ _ _ (by rw [moreSeen_keys]; exact hm.keys)]
  unfold moreSeen
  rw [List.map_map]
  refine List.map_congr_left fun x hx => ?_
  simp only [Function.comp]
  by_cases hxe : x = e
  · subst hxe
    simp [hs]
  · have h1 : x.1 ≠ e.1 := fun h => hxe (nodup_inj hm.stamps hx he h)
    have h2 : x.2.1 ≠ e.2.1 := fun h => hxe (nodup_inj hm.keys hx he h)
    by_cases h3 : x.1 ∈ seen
    · simp [h2, h3]
    · simp [h1, h2, h3]
theorem moreSeen_end {d : Int} {m : MapC} {seen : List Nat} (h : ∀ e ∈ moreSeen d m.es seen, e.1 ∈ seen) : moreSeen d m.es seen = (m.more d).es := by
  unfold moreSeen MapC.more at *
  refine List.map_congr_left fun x hx => ?_
  have := h _ (List.mem_map.2 ⟨x, hx, rfl⟩)
  by_cases h3 : x.1 ∈ seen
  · rw [if_pos (by simpa using h3)]
  · rw [if_neg (by simpa using h3)] at this
    exact absurd this h3
theorem MapC.more_ok {m : MapC} (hm : m.ok) (d : Int) : (m.more d).ok :=
  ⟨by unfold MapC.more; rw [List.map_map]; exact hm.stamps, fun e he => by
    unfold MapC.more at he
    obtain ⟨x, hx, rfl⟩ := List.mem_map.1 he
    exact hm.below x hx, by unfold MapC.more; rw [List.map_map]; exact hm.keys⟩
theorem MapC.drop_ok {m : MapC} (hm : m.ok) : m.drop.ok :=
  ⟨List.Nodup.sublist (List.Sublist.map _ List.filter_sublist) hm.stamps, fun e he => hm.below e (List.mem_filter.1 he).1, List.Nodup.sublist (List.Sublist.map _ List.filter_sublist) hm.keys⟩
/-- What Take comes to: the error, the time, the map. -/
def takeE (t0 now : Int) (k : BitVec 32) (m : MapC) : Int × Int × MapC :=
  if now < t0 ∨ 1099511627776 < now then (1, t0, m) else
    let m2 := (m.more (min (now - t0) 5)).drop
    match entAt k m2.es with
    | some n => if n = 0 then (15, now, m2) else (0, now, m2.set k (n - 1))
    | none => if (m2.es.length : Int) = 16 then (9, now, m2) else (0, now, m2.set k 4)
theorem Take_spec (t0 now : Int) (k : BitVec 32) (m : MapC) (hm : m.ok) (hv : ∀ e ∈ m.es, 0 ≤ e.2.2 ∧ e.2.2 ≤ 100) (h0 : 0 ≤ t0) (h1 : t0 ≤ 1099511627776) : Spec0 Try.prog 6 [.ptr 0 0, .u32 k, .i64 now] [some ⟨false, [.i64 t0, .map 1], none⟩, some ⟨false, [], some m⟩] (.i64 (takeE t0 now k m).1) [some ⟨false, [.i64 (takeE t0 now k m).2.1, .map 1], none⟩, some ⟨false, [], some (takeE t0 now k m).2.2⟩] := by
  by_cases he1 : now < t0
  · have e : takeE t0 now k m = (1, t0, m) := by unfold takeE; rw [if_pos (.inl he1)]
    rw [e]
    refine spec0_of_vc (by kernel_rfl) (fn := Try.f6) Try.func6 rfl (by show 3 ≤ 90; decide) (go_start ?_)
    simp only [go_sem, ↓reduceIte, Nat.reduceEqDiff, Nat.reduceLT, Nat.reduceLeDiff, Nat.reduceAdd, Nat.reduceSub, Nat.reduceMul, Nat.reduceMod, Nat.reduceDiv, Int.reduceLE, Int.reduceLT, Int.reduceToNat, Int.reduceAdd, Int.reduceSub, Int.reduceMul, Int.reduceEq, Int.reduceNeg, BitVec.reduceOfInt, BitVec.reduceToNat, BitVec.reduceEq, BitVec.reduceNe, BitVec.reduceLT, reduceCtorEq, List.forall_mem_nil, Try.ntmps6, Try.results6, he1]
    exact Fin.ren [0, 1] (by simp) (by simp) (by rfl) (by decide) (by simp [-List.map_map, -List.map_set]) (by simp [-List.map_map, -List.map_set])
  by_cases he2 : 1099511627776 < now
  · have e : takeE t0 now k m = (1, t0, m) := by unfold takeE; rw [if_pos (.inr he2)]
    rw [e]
    refine spec0_of_vc (by kernel_rfl) (fn := Try.f6) Try.func6 rfl (by show 3 ≤ 90; decide) (go_start ?_)
    simp only [go_sem, ↓reduceIte, Nat.reduceEqDiff, Nat.reduceLT, Nat.reduceLeDiff, Nat.reduceAdd, Nat.reduceSub, Nat.reduceMul, Nat.reduceMod, Nat.reduceDiv, Int.reduceLE, Int.reduceLT, Int.reduceToNat, Int.reduceAdd, Int.reduceSub, Int.reduceMul, Int.reduceEq, Int.reduceNeg, BitVec.reduceOfInt, BitVec.reduceToNat, BitVec.reduceEq, BitVec.reduceNe, BitVec.reduceLT, reduceCtorEq, List.forall_mem_nil, Try.ntmps6, Try.results6, he1, he2]
    exact Fin.ren [0, 1] (by simp) (by simp) (by rfl) (by decide) (by simp [-List.map_map, -List.map_set]) (by simp [-List.map_map, -List.map_set])
  generalize hd : min (now - t0) 5 = d
  have hd0 : 0 ≤ d ∧ d ≤ 5 := by omega
  have hdm : (if (5 : Int) < now - t0 then 5 else now - t0) = d := by
    rw [← hd]; split <;> omega
  have hw : w64 (now - t0) = now - t0 := w64_of (by omega) (by omega)
  refine spec0_of_gs (fn := Try.f6) Try.func6 rfl (by show 3 ≤ 90; decide) ?_
  refine gs_seq (K := fun st => Weak 2 90 st ⟨[(0, .ptr 0 0), (1, .u32 k), (2, .i64 now)], [some ⟨false, [.i64 t0, .map 1], none⟩, some ⟨false, [], some m⟩]⟩) (gs_of_vc (by kernel_rfl) (go_start ?_)) (fun st hst => gs_weak ?_ hst)
  · simp only [go_sem, ↓reduceIte, Nat.reduceEqDiff, Nat.reduceLT, Nat.reduceLeDiff, Nat.reduceAdd, Nat.reduceSub, Nat.reduceMul, Nat.reduceMod, Nat.reduceDiv, Int.reduceLE, Int.reduceLT, Int.reduceToNat, Int.reduceAdd, Int.reduceSub, Int.reduceMul, Int.reduceEq, Int.reduceNeg, BitVec.reduceOfInt, BitVec.reduceToNat, BitVec.reduceEq, BitVec.reduceNe, BitVec.reduceLT, reduceCtorEq, List.forall_mem_nil]
    refine Weak.drop ?_ rfl (fun _ _ h => h)
    simp [St.get, lookS]
  refine gs_seq (K := fun st => Weak 2 90 st ⟨[(0, .ptr 0 0), (1, .u32 k), (2, .i64 now)], [some ⟨false, [.i64 t0, .map 1], none⟩, some ⟨false, [], some m⟩]⟩) (gs_of_vc (by kernel_rfl) (go_start ?_)) (fun st hst => gs_weak ?_ hst)
  · simp only [go_sem, ↓reduceIte, Nat.reduceEqDiff, Nat.reduceLT, Nat.reduceLeDiff, Nat.reduceAdd, Nat.reduceSub, Nat.reduceMul, Nat.reduceMod, Nat.reduceDiv, Int.reduceLE, Int.reduceLT, Int.reduceToNat, Int.reduceAdd, Int.reduceSub, Int.reduceMul, Int.reduceEq, Int.reduceNeg, BitVec.reduceOfInt, BitVec.reduceToNat, BitVec.reduceEq, BitVec.reduceNe, BitVec.reduceLT, reduceCtorEq, List.forall_mem_nil, he1, he2]
    refine Weak.drop ?_ rfl (fun _ _ h => h)
    simp [St.get, lookS]
  refine gs_seq (K := fun st => Weak 2 90 st ⟨[(0, .ptr 0 0), (1, .u32 k), (2, .i64 now), (7, .i64 d)], [some ⟨false, [.i64 t0, .map 1], none⟩, some ⟨false, [], some m⟩]⟩) (gs_of_vc (by kernel_rfl) (go_start ?_)) (fun st hst => gs_weak ?_ hst)
  · simp only [go_sem, ↓reduceIte, Nat.reduceEqDiff, Nat.reduceLT, Nat.reduceLeDiff, Nat.reduceAdd, Nat.reduceSub, Nat.reduceMul, Nat.reduceMod, Nat.reduceDiv, Int.reduceLE, Int.reduceLT, Int.reduceToNat, Int.reduceAdd, Int.reduceSub, Int.reduceMul, Int.reduceEq, Int.reduceNeg, BitVec.reduceOfInt, BitVec.reduceToNat, BitVec.reduceEq, BitVec.reduceNe, BitVec.reduceLT, reduceCtorEq, List.forall_mem_nil, hw, hdm]
    refine Weak.drop ?_ rfl (fun _ _ h => h)
    simp [St.get, lookS]
  refine gs_seq (K := fun st => Weak 2 90 st ⟨[(0, .ptr 0 0), (1, .u32 k), (7, .i64 d)], [some ⟨false, [.i64 now, .map 1], none⟩, some ⟨false, [], some m⟩]⟩) (gs_of_vc (by kernel_rfl) (go_start ?_)) (fun st hst => gs_weak ?_ hst)
  · simp only [go_sem, ↓reduceIte, Nat.reduceEqDiff, Nat.reduceLT, Nat.reduceLeDiff, Nat.reduceAdd, Nat.reduceSub, Nat.reduceMul, Nat.reduceMod, Nat.reduceDiv, Int.reduceLE, Int.reduceLT, Int.reduceToNat, Int.reduceAdd, Int.reduceSub, Int.reduceMul, Int.reduceEq, Int.reduceNeg, BitVec.reduceOfInt, BitVec.reduceToNat, BitVec.reduceEq, BitVec.reduceNe, BitVec.reduceLT, reduceCtorEq, List.forall_mem_nil]
    refine Weak.drop ?_ rfl (fun _ _ h => h)
    simp [St.get, lookS]
  let M : List Nat → MapC := fun seen => ⟨moreSeen d m.es seen, m.clock⟩
  let J : List Nat → St := fun seen => ⟨[(0, .ptr 0 0), (1, .u32 k), (7, .i64 d), (36, .ptr 2 0)], [some ⟨false, [.i64 now, .map 1], none⟩, some ⟨false, [], some (M seen)⟩, none]⟩
  have hM0 : M [] = m := by show (⟨moreSeen d m.es [], m.clock⟩ : MapC) = m; rw [moreSeen_nil]
  have hMd : ∀ seen, ((M seen).es.map (·.1)) = m.es.map (·.1) := fun seen => moreSeen_stamps d m.es seen
  refine gs_seq (K := fun st => Weak 2 90 st ⟨[(0, .ptr 0 0), (1, .u32 k)], [some ⟨false, [.i64 now, .map 1], none⟩, some ⟨false, [], some (m.more d)⟩, none]⟩) (gs_rangemap (by kernel_rfl) (S1 := ⟨[(35, .map 1), (34, .ptr 0 1), (33, .ptr 0 0), (32, .ptr 0 0), (0, .ptr 0 0), (1, .u32 k), (7, .i64 d)], [some ⟨false, [.i64 now, .map 1], none⟩, some ⟨false, [], some m⟩]⟩) (pre := [_, _, _, _]) (bm := 1) (fun _ => True) J M (unseen m.es) rfl (by simp) (vops_go ?_) rfl (by rw [hM0]; rfl) rfl rfl rfl (by decide) Try.underlying54 rfl rfl rfl (by decide) rfl rfl rfl rfl (by decide) trivial (fun seen _ => ⟨fun e he => ?_, ?_, Nat.le_refl _⟩) (fun seen _ => rfl) ?_ (fun seen => rfl) (fun seen _ hall => vops_go ?_) (fun seen e _ he hs => ⟨trivial, ?_, vops_go ?_⟩)) (fun st hst => gs_weak ?_ hst)
  · simp only [go_sem, ↓reduceIte, Nat.reduceEqDiff, Nat.reduceLT, Nat.reduceLeDiff, Nat.reduceAdd, Nat.reduceSub, Nat.reduceMul, Nat.reduceMod, Nat.reduceDiv, Int.reduceLE, Int.reduceLT, Int.reduceToNat, Int.reduceAdd, Int.reduceSub, Int.reduceMul, Int.reduceEq, Int.reduceNeg, BitVec.reduceOfInt, BitVec.reduceToNat, BitVec.reduceEq, BitVec.reduceNe, BitVec.reduceLT, reduceCtorEq, List.forall_mem_nil]
  · have : e.1 ∈ (M seen).es.map (·.1) := List.mem_map.2 ⟨e, he, rfl⟩
    rw [hMd] at this
    obtain ⟨x, hx, hxe⟩ := List.mem_map.1 this
    rw [← hxe]; exact hm.below x hx
  · rw [hMd]; exact hm.stamps
  · refine Weak.drop ?_ rfl (fun b B h => ?_)
    · simp [J, St.get, lookS, putS]
    · simpa [J, hM0] using h
  · have h2 : M seen = m.more d := by
      show (⟨moreSeen d m.es seen, m.clock⟩ : MapC) = ⟨(m.more d).es, m.clock⟩
      rw [moreSeen_end hall]
    simp only [go_sem, ↓reduceIte, Nat.reduceEqDiff, Nat.reduceLT, Nat.reduceLeDiff, Nat.reduceAdd, Nat.reduceSub, Nat.reduceMul, Nat.reduceMod, Nat.reduceDiv, Int.reduceLE, Int.reduceLT, Int.reduceToNat, Int.reduceAdd, Int.reduceSub, Int.reduceMul, Int.reduceEq, Int.reduceNeg, BitVec.reduceOfInt, BitVec.reduceToNat, BitVec.reduceEq, BitVec.reduceNe, BitVec.reduceLT, reduceCtorEq, List.forall_mem_nil, J, h2]
    refine Weak.drop ?_ rfl (fun _ _ h => h)
    simp [St.get, lookS]
  · exact unseen_lt (moreSeen_mem he hs) hs
  · have he0 : e ∈ m.es := moreSeen_mem he hs
    have hvb := hv e he0
    obtain ⟨st, k', v⟩ := e
    have hat : entAt k' (M seen).es = some v := entAt_mem (by show ((moreSeen d m.es seen).map (·.2.1)).Nodup; rw [moreSeen_keys]; exact hm.keys) he
    have hM1 : M (seen ++ [st]) = (M seen).set k' (v + d) := by
      unfold MapC.set
      rw [hat]
      show (⟨moreSeen d m.es (seen ++ [st]), m.clock⟩ : MapC) = ⟨entPut k' (v + d) (moreSeen d m.es seen), m.clock⟩
      rw [moreSeen_step hm he0 hs]
    simp only at hs hvb
    have hw2 : w64 (v + d) = v + d := w64_of (by omega) (by omega)
    simp only [go_sem, ↓reduceIte, Nat.reduceEqDiff, Nat.reduceLT, Nat.reduceLeDiff, Nat.reduceAdd, Nat.reduceSub, Nat.reduceMul, Nat.reduceMod, Nat.reduceDiv, Int.reduceLE, Int.reduceLT, Int.reduceToNat, Int.reduceAdd, Int.reduceSub, Int.reduceMul, Int.reduceEq, Int.reduceNeg, BitVec.reduceOfInt, BitVec.reduceToNat, BitVec.reduceEq, BitVec.reduceNe, BitVec.reduceLT, reduceCtorEq, List.forall_mem_nil, J]
    refine vops_go ?_
    simp only [go_sem, ↓reduceIte, Nat.reduceEqDiff, Nat.reduceLT, Nat.reduceLeDiff, Nat.reduceAdd, Nat.reduceSub, Nat.reduceMul, Nat.reduceMod, Nat.reduceDiv, Int.reduceLE, Int.reduceLT, Int.reduceToNat, Int.reduceAdd, Int.reduceSub, Int.reduceMul, Int.reduceEq, Int.reduceNeg, BitVec.reduceOfInt, BitVec.reduceToNat, BitVec.reduceEq, BitVec.reduceNe, BitVec.reduceLT, reduceCtorEq, List.forall_mem_nil]
    refine go_start ?_
    simp only [go_sem, ↓reduceIte, Nat.reduceEqDiff, Nat.reduceLT, Nat.reduceLeDiff, Nat.reduceAdd, Nat.reduceSub, Nat.reduceMul, Nat.reduceMod, Nat.reduceDiv, Int.reduceLE, Int.reduceLT, Int.reduceToNat, Int.reduceAdd, Int.reduceSub, Int.reduceMul, Int.reduceEq, Int.reduceNeg, BitVec.reduceOfInt, BitVec.reduceToNat, BitVec.reduceEq, BitVec.reduceNe, BitVec.reduceLT, reduceCtorEq, List.forall_mem_nil, hat, Option.getD_some, hw2, hM1]
    refine ⟨rfl, Weak.drop ?_ rfl (fun _ _ h => h)⟩
    simp [St.get, lookS]
  refine gs_of_vc (by kernel_rfl) (go_start ?_)
  simp only [go_sem, ↓reduceIte, Nat.reduceEqDiff, Nat.reduceLT, Nat.reduceLeDiff, Nat.reduceAdd, Nat.reduceSub, Nat.reduceMul, Nat.reduceMod, Nat.reduceDiv, Int.reduceLE, Int.reduceLT, Int.reduceToNat, Int.reduceAdd, Int.reduceSub, Int.reduceMul, Int.reduceEq, Int.reduceNeg, BitVec.reduceOfInt, BitVec.reduceToNat, BitVec.reduceEq, BitVec.reduceNe, BitVec.reduceLT, reduceCtorEq, List.forall_mem_nil]
  refine goCall_mem [1] (Delete_spec (m.more d) (MapC.more_ok hm d)) (by kernel_rfl) (by simp [-List.map_map, -List.map_set]) rfl (by simp [-List.map_map, -List.map_set]) (by decide) (by simp [-List.map_map, -List.map_set]) (by simp [-List.map_map, -List.map_set]) (by simp [-List.map_map, -List.map_set]) (by simp [-List.map_map, -List.map_set]) (by simp) ?_
  simp only [go_sem, ↓reduceIte, Nat.reduceEqDiff, Nat.reduceLT, Nat.reduceLeDiff, Nat.reduceAdd, Nat.reduceSub, Nat.reduceMul, Nat.reduceMod, Nat.reduceDiv, Int.reduceLE, Int.reduceLT, Int.reduceToNat, Int.reduceAdd, Int.reduceSub, Int.reduceMul, Int.reduceEq, Int.reduceNeg, BitVec.reduceOfInt, BitVec.reduceToNat, BitVec.reduceEq, BitVec.reduceNe, BitVec.reduceLT, reduceCtorEq, List.forall_mem_nil]
  generalize hm2 : (m.more d).drop = m2
  have ht : takeE t0 now k m = match entAt k m2.es with
      | some n => if n = 0 then (15, now, m2) else (0, now, m2.set k (n - 1))
      | none => if (m2.es.length : Int) = 16 then (9, now, m2) else (0, now, m2.set k 4) := by
    unfold takeE
    rw [if_neg (by omega)]
    simp only [hd, hm2]
  rw [ht]
  cases hat : entAt k m2.es with
  | some n =>
    have hnb : -100 ≤ n ∧ n ≤ 200 := by
      obtain ⟨b, hb⟩ := entIx_get hat
      have hmem := List.mem_of_getElem? hb
      rw [← hm2] at hmem
      have h3 : (b, k, n) ∈ (m.more d).es := (List.mem_filter.1 hmem).1
      unfold MapC.more at h3
      obtain ⟨x, hx, hxe⟩ := List.mem_map.1 h3
      have := hv x hx
      have h4 : x.2.2 + d = n := congrArg (·.2.2) hxe
      omega
    by_cases hn : n = 0
    · subst hn
      simp only [go_sem, ↓reduceIte, Nat.reduceEqDiff, Nat.reduceLT, Nat.reduceLeDiff, Nat.reduceAdd, Nat.reduceSub, Nat.reduceMul, Nat.reduceMod, Nat.reduceDiv, Int.reduceLE, Int.reduceLT, Int.reduceToNat, Int.reduceAdd, Int.reduceSub, Int.reduceMul, Int.reduceEq, Int.reduceNeg, BitVec.reduceOfInt, BitVec.reduceToNat, BitVec.reduceEq, BitVec.reduceNe, BitVec.reduceLT, reduceCtorEq, List.forall_mem_nil, hat, Option.getD_some]
      exact Fin.ren [0, 1] (by simp) (by simp) (by rfl) (by decide) (by simp [-List.map_map, -List.map_set]) (by simp [-List.map_map, -List.map_set])
    · have hw3 : w64 (n - 1) = n - 1 := w64_of (by omega) (by omega)
      simp only [go_sem, ↓reduceIte, Nat.reduceEqDiff, Nat.reduceLT, Nat.reduceLeDiff, Nat.reduceAdd, Nat.reduceSub, Nat.reduceMul, Nat.reduceMod, Nat.reduceDiv, Int.reduceLE, Int.reduceLT, Int.reduceToNat, Int.reduceAdd, Int.reduceSub, Int.reduceMul, Int.reduceEq, Int.reduceNeg, BitVec.reduceOfInt, BitVec.reduceToNat, BitVec.reduceEq, BitVec.reduceNe, BitVec.reduceLT, reduceCtorEq, List.forall_mem_nil, hat, Option.getD_some, hn, hw3]
      exact Fin.ren [0, 1] (by simp) (by simp) (by rfl) (by decide) (by simp [-List.map_map, -List.map_set]) (by simp [-List.map_map, -List.map_set])
  | none =>
    by_cases hl : (m2.es.length : Int) = 16
    · simp only [go_sem, ↓reduceIte, Nat.reduceEqDiff, Nat.reduceLT, Nat.reduceLeDiff, Nat.reduceAdd, Nat.reduceSub, Nat.reduceMul, Nat.reduceMod, Nat.reduceDiv, Int.reduceLE, Int.reduceLT, Int.reduceToNat, Int.reduceAdd, Int.reduceSub, Int.reduceMul, Int.reduceEq, Int.reduceNeg, BitVec.reduceOfInt, BitVec.reduceToNat, BitVec.reduceEq, BitVec.reduceNe, BitVec.reduceLT, reduceCtorEq, List.forall_mem_nil, hat, hl]
      exact Fin.ren [0, 1] (by simp) (by simp) (by rfl) (by decide) (by simp [-List.map_map, -List.map_set]) (by simp [-List.map_map, -List.map_set])
    · have hw3 : w64 (5 - 1) = 4 := by rfl
      simp only [go_sem, ↓reduceIte, Nat.reduceEqDiff, Nat.reduceLT, Nat.reduceLeDiff, Nat.reduceAdd, Nat.reduceSub, Nat.reduceMul, Nat.reduceMod, Nat.reduceDiv, Int.reduceLE, Int.reduceLT, Int.reduceToNat, Int.reduceAdd, Int.reduceSub, Int.reduceMul, Int.reduceEq, Int.reduceNeg, BitVec.reduceOfInt, BitVec.reduceToNat, BitVec.reduceEq, BitVec.reduceNe, BitVec.reduceLT, reduceCtorEq, List.forall_mem_nil, hat, hl, hw3]
      exact Fin.ren [0, 1] (by simp) (by simp) (by rfl) (by decide) (by simp [-List.map_map, -List.map_set]) (by simp [-List.map_map, -List.map_set])
end Go.Vm
end
section
namespace Go.Vm
open Go.Proofs
set_option maxRecDepth 20000
/-- What a list of pairs has at a key. -/
def pairAt (k : BitVec 32) : List (BitVec 32 × Int) → Option Int
  | [] => none
  | p :: l => if p.1 = k then some p.2 else pairAt k l
theorem pairAt_ent (k : BitVec 32) : ∀ (l : List (Nat × BitVec 32 × Int)), entAt k l = pairAt k (l.map (·.2))
  | [] => rfl
  | e :: l => by
    unfold entAt
    rw [List.map_cons]
    unfold pairAt
    rw [pairAt_ent k l]
def keysB (ps : List (BitVec 32 × Int)) : List V := ps.map fun p => .u32 p.1
def valsB (ps : List (BitVec 32 × Int)) : List V := ps.map fun p => .i64 p.2
theorem keysB_length (ps : List (BitVec 32 × Int)) : (keysB ps).length = ps.length := List.length_map _
theorem valsB_length (ps : List (BitVec 32 × Int)) : (valsB ps).length = ps.length := List.length_map _
theorem keysB_get {ps : List (BitVec 32 × Int)} {i : Nat} {p : BitVec 32 × Int} (h : ps[i]? = some p) : (keysB ps).getD i .junk = .u32 p.1 := by
  unfold keysB; rw [List.getD_eq_getElem?_getD, List.getElem?_map, h]; rfl
theorem valsB_get {ps : List (BitVec 32 × Int)} {i : Nat} {p : BitVec 32 × Int} (h : ps[i]? = some p) : (valsB ps).getD i .junk = .i64 p.2 := by
  unfold valsB; rw [List.getD_eq_getElem?_getD, List.getElem?_map, h]; rfl
theorem keysB_low (N : Nat) (ps : List (BitVec 32 × Int)) : lows N (keysB ps) := by
  unfold keysB
  induction ps with
  | nil => trivial
  | cons p l ih => exact ⟨trivial, ih⟩
theorem valsB_low (N : Nat) (ps : List (BitVec 32 × Int)) : lows N (valsB ps) := by
  unfold valsB
  induction ps with
  | nil => trivial
  | cons p l ih => exact ⟨trivial, ih⟩
theorem keysB_ren (σ : Nat → Nat) (ps : List (BitVec 32 × Int)) : rens σ (keysB ps) = keysB ps := by
  unfold keysB
  rw [rens_eq, List.map_map]
  exact List.map_congr_left fun _ _ => rfl
theorem valsB_ren (σ : Nat → Nat) (ps : List (BitVec 32 × Int)) : rens σ (valsB ps) = valsB ps := by
  unfold valsB
  rw [rens_eq, List.map_map]
  exact List.map_congr_left fun _ _ => rfl
attribute [simp] keysB_low valsB_low keysB_ren valsB_ren keysB_length valsB_length
attribute [go_sem] keysB_low valsB_low keysB_ren valsB_ren keysB_length valsB_length
theorem Of0_spec (t : Int) (k : BitVec 32) : Spec0 Try.prog 9 [.ptr 0 0, .u32 k] [some ⟨false, [.i64 t, .nilSlice, .nilSlice], none⟩] (.i64 5) [some ⟨false, [.i64 t, .nilSlice, .nilSlice], none⟩] := by
  refine spec0_of_vc (by kernel_rfl) (fn := Try.f9) Try.func9 rfl (by show 2 ≤ 28; decide) (go_start ?_)
  simp only [go_sem, ↓reduceIte, Nat.reduceEqDiff, Nat.reduceLT, Nat.reduceLeDiff, Nat.reduceAdd, Nat.reduceSub, Nat.reduceMul, Nat.reduceMod, Nat.reduceDiv, Int.reduceLE, Int.reduceLT, Int.reduceToNat, Int.reduceAdd, Int.reduceSub, Int.reduceMul, Int.reduceEq, Int.reduceNeg, BitVec.reduceOfInt, BitVec.reduceToNat, BitVec.reduceEq, BitVec.reduceNe, BitVec.reduceLT, reduceCtorEq, List.forall_mem_nil, Try.ntmps9, Try.results9]
  refine go_loop (fun j st => j = 0 ∧ st = ⟨[(0, .ptr 0 0), (1, .u32 k), (10, .nilSlice), (11, .i64 0), (12, .i64 0)], [some ⟨false, [.i64 t, .nilSlice, .nilSlice], none⟩]⟩) ?_ ?_
  · exact start_mk 0 ⟨[(0, .ptr 0 0), (1, .u32 k), (10, .nilSlice), (11, .i64 0), (12, .i64 0)], [some ⟨false, [.i64 t, .nilSlice, .nilSlice], none⟩]⟩ (by simp [St.get, lookS]) rfl (fun _ _ h => h) ⟨rfl, rfl⟩
  rintro j st ⟨rfl, rfl⟩ _
  simp only [go_sem, ↓reduceIte, Nat.reduceEqDiff, Nat.reduceLT, Nat.reduceLeDiff, Nat.reduceAdd, Nat.reduceSub, Nat.reduceMul, Nat.reduceMod, Nat.reduceDiv, Int.reduceLE, Int.reduceLT, Int.reduceToNat, Int.reduceAdd, Int.reduceSub, Int.reduceMul, Int.reduceEq, Int.reduceNeg, BitVec.reduceOfInt, BitVec.reduceToNat, BitVec.reduceEq, BitVec.reduceNe, BitVec.reduceLT, reduceCtorEq, List.forall_mem_nil, Int.lt_irrefl]
  exact Fin.ren [0] (by simp) (by simp) (by rfl) (by decide) (by simp [-List.map_map, -List.map_set]) (by simp [-List.map_map, -List.map_set])
theorem Of_spec (t : Int) (ps : List (BitVec 32 × Int)) (k : BitVec 32) (hl : ps.length ≤ 1000) : Spec0 Try.prog 9 [.ptr 0 0, .u32 k] [some ⟨false, [.i64 t, .slice 1 0 ps.length 1, .slice 2 0 ps.length 1], none⟩, some ⟨false, keysB ps, none⟩, some ⟨false, valsB ps, none⟩] (.i64 ((pairAt k ps).getD 5)) [some ⟨false, [.i64 t, .slice 1 0 ps.length 1, .slice 2 0 ps.length 1], none⟩, some ⟨false, keysB ps, none⟩, some ⟨false, valsB ps, none⟩] := by
  refine spec0_of_vc (by kernel_rfl) (fn := Try.f9) Try.func9 rfl (by show 2 ≤ 28; decide) (go_start ?_)
  simp only [go_sem, ↓reduceIte, Nat.reduceEqDiff, Nat.reduceLT, Nat.reduceLeDiff, Nat.reduceAdd, Nat.reduceSub, Nat.reduceMul, Nat.reduceMod, Nat.reduceDiv, Int.reduceLE, Int.reduceLT, Int.reduceToNat, Int.reduceAdd, Int.reduceSub, Int.reduceMul, Int.reduceEq, Int.reduceNeg, BitVec.reduceOfInt, BitVec.reduceToNat, BitVec.reduceEq, BitVec.reduceNe, BitVec.reduceLT, reduceCtorEq, List.forall_mem_nil, Try.ntmps9, Try.results9]
  refine go_loop (fun j st => ∃ i : Nat, i + j = ps.length ∧ pairAt k (ps.drop i) = pairAt k ps ∧ st = ⟨[(0, .ptr 0 0), (1, .u32 k), (10, .slice 1 0 ps.length 1), (11, .i64 ps.length), (12, .i64 i)], [some ⟨false, [.i64 t, .slice 1 0 ps.length 1, .slice 2 0 ps.length 1], none⟩, some ⟨false, keysB ps, none⟩, some ⟨false, valsB ps, none⟩]⟩) ?_ ?_
  · exact start_mk ps.length ⟨[(0, .ptr 0 0), (1, .u32 k), (10, .slice 1 0 ps.length 1), (11, .i64 ps.length), (12, .i64 (0 : Nat))], [some ⟨false, [.i64 t, .slice 1 0 ps.length 1, .slice 2 0 ps.length 1], none⟩, some ⟨false, keysB ps, none⟩, some ⟨false, valsB ps, none⟩]⟩ (by simp [St.get, lookS]) rfl (fun _ _ h => h) ⟨0, by omega, by simp, rfl⟩
  rintro j st ⟨i, hi, hp, rfl⟩ _
  simp only [go_sem, ↓reduceIte, Nat.reduceEqDiff, Nat.reduceLT, Nat.reduceLeDiff, Nat.reduceAdd, Nat.reduceSub, Nat.reduceMul, Nat.reduceMod, Nat.reduceDiv, Int.reduceLE, Int.reduceLT, Int.reduceToNat, Int.reduceAdd, Int.reduceSub, Int.reduceMul, Int.reduceEq, Int.reduceNeg, BitVec.reduceOfInt, BitVec.reduceToNat, BitVec.reduceEq, BitVec.reduceNe, BitVec.reduceLT, reduceCtorEq, List.forall_mem_nil]
  by_cases h0 : i < ps.length
  · have h0' : (i : Int) < (ps.length : Int) := by omega
    obtain ⟨p, hpi⟩ : ∃ p, ps[i]? = some p := ⟨ps[i], List.getElem?_eq_getElem h0⟩
    have hdrop : ps.drop i = p :: ps.drop (i + 1) := by
      rw [List.drop_eq_getElem_cons h0]
      congr 1
      rw [List.getElem?_eq_getElem h0] at hpi
      injection hpi
    have hcond : p.1 = k ∨ p.1 ≠ k := Decidable.em _
    have hg1 := keysB_get hpi
    have hg2 := valsB_get hpi
    rcases hcond with hk | hk
    · have hat : pairAt k ps = some p.2 := by rw [← hp, hdrop]; unfold pairAt; rw [if_pos hk]
      simp only [go_sem, ↓reduceIte, Nat.reduceEqDiff, Nat.reduceLT, Nat.reduceLeDiff, Nat.reduceAdd, Nat.reduceSub, Nat.reduceMul, Nat.reduceMod, Nat.reduceDiv, Int.reduceLE, Int.reduceLT, Int.reduceToNat, Int.reduceAdd, Int.reduceSub, Int.reduceMul, Int.reduceEq, Int.reduceNeg, BitVec.reduceOfInt, BitVec.reduceToNat, BitVec.reduceEq, BitVec.reduceNe, BitVec.reduceLT, reduceCtorEq, List.forall_mem_nil, h0', hg1, hg2, hk, hat, Option.getD_some]
      refine ⟨by omega, by omega, by omega, h0, ?_⟩
      exact Fin.ren [0, 1, 2] (by simp) (by simp) (by rfl) (by decide) (by simp [-List.map_map, -List.map_set]) (by simp [-List.map_map, -List.map_set])
    · simp only [go_sem, ↓reduceIte, Nat.reduceEqDiff, Nat.reduceLT, Nat.reduceLeDiff, Nat.reduceAdd, Nat.reduceSub, Nat.reduceMul, Nat.reduceMod, Nat.reduceDiv, Int.reduceLE, Int.reduceLT, Int.reduceToNat, Int.reduceAdd, Int.reduceSub, Int.reduceMul, Int.reduceEq, Int.reduceNeg, BitVec.reduceOfInt, BitVec.reduceToNat, BitVec.reduceEq, BitVec.reduceNe, BitVec.reduceLT, reduceCtorEq, List.forall_mem_nil, h0', hg1, hg2, hk]
      refine ⟨by omega, h0, ?_⟩
      have hw1 : w64 ((i : Int) + 1) = ((i + 1 : Nat) : Int) := by rw [w64_of (by omega) (by omega)]; omega
      have hp2 : pairAt k (ps.drop (i + 1)) = pairAt k ps := by
        rw [← hp, hdrop]
        conv => rhs; unfold pairAt
        rw [if_neg hk]
      refine again_mk (j - 1) ⟨[(0, .ptr 0 0), (1, .u32 k), (10, .slice 1 0 ps.length 1), (11, .i64 ps.length), (12, .i64 (i + 1 : Nat))], [some ⟨false, [.i64 t, .slice 1 0 ps.length 1, .slice 2 0 ps.length 1], none⟩, some ⟨false, keysB ps, none⟩, some ⟨false, valsB ps, none⟩]⟩ (by omega) ?_ rfl (fun _ _ h => h) ⟨i + 1, by omega, hp2, rfl⟩
      simp [St.get, lookS, hw1]
  · have h0' : ¬ (i : Int) < (ps.length : Int) := by omega
    have hat : pairAt k ps = none := by rw [← hp, List.drop_eq_nil_of_le (by omega)]; rfl
    simp only [go_sem, ↓reduceIte, Nat.reduceEqDiff, Nat.reduceLT, Nat.reduceLeDiff, Nat.reduceAdd, Nat.reduceSub, Nat.reduceMul, Nat.reduceMod, Nat.reduceDiv, Int.reduceLE, Int.reduceLT, Int.reduceToNat, Int.reduceAdd, Int.reduceSub, Int.reduceMul, Int.reduceEq, Int.reduceNeg, BitVec.reduceOfInt, BitVec.reduceToNat, BitVec.reduceEq, BitVec.reduceNe, BitVec.reduceLT, reduceCtorEq, List.forall_mem_nil, h0', hat, Option.getD_none]
    exact Fin.ren [0, 1, 2] (by simp) (by simp) (by rfl) (by decide) (by simp [-List.map_map, -List.map_set]) (by simp [-List.map_map, -List.map_set])
end Go.Vm
end
section
namespace Go.Vm
open Go.Proofs
set_option maxRecDepth 20000
theorem RTake0_spec (t now : Int) (k : BitVec 32) (h0 : 0 ≤ t) (h1 : t ≤ 1099511627776) (he1 : ¬ now < t) (he2 : ¬ 1099511627776 < now) : Spec0 Try.prog 7 [.ptr 0 0, .u32 k, .i64 now] [some ⟨false, [.i64 t, .nilSlice, .nilSlice], none⟩] (.i64 0) [some ⟨false, [.i64 now, .slice 1 0 1 1, .slice 2 0 1 1], none⟩, some ⟨false, keysB [(k, 4)], none⟩, some ⟨false, valsB [(k, 4)], none⟩] := by
  refine spec0_of_vc (by kernel_rfl) (fn := Try.f7) Try.func7 rfl (by show 3 ≤ 113; decide) (go_start ?_)
  simp only [go_sem, ↓reduceIte, Nat.reduceEqDiff, Nat.reduceLT, Nat.reduceLeDiff, Nat.reduceAdd, Nat.reduceSub, Nat.reduceMul, Nat.reduceMod, Nat.reduceDiv, Int.reduceLE, Int.reduceLT, Int.reduceToNat, Int.reduceAdd, Int.reduceSub, Int.reduceMul, Int.reduceEq, Int.reduceNeg, BitVec.reduceOfInt, BitVec.reduceToNat, BitVec.reduceEq, BitVec.reduceNe, BitVec.reduceLT, reduceCtorEq, List.forall_mem_nil, Try.ntmps7, Try.results7, he1, he2]
  refine go_loop (fun j st => j = 0 ∧ st = ⟨[(0, .ptr 0 0), (1, .u32 k), (2, .i64 now), (7, .nilSlice), (8, .nilSlice), (9, .i64 (-1)), (26, .nilSlice), (27, .i64 0), (28, .i64 0)], [some ⟨false, [.i64 t, .nilSlice, .nilSlice], none⟩]⟩) ?_ ?_
  · exact start_mk 0 ⟨[(0, .ptr 0 0), (1, .u32 k), (2, .i64 now), (7, .nilSlice), (8, .nilSlice), (9, .i64 (-1)), (26, .nilSlice), (27, .i64 0), (28, .i64 0)], [some ⟨false, [.i64 t, .nilSlice, .nilSlice], none⟩]⟩ (by simp [St.get, lookS]) rfl (fun _ _ h => h) ⟨rfl, rfl⟩
  rintro j st ⟨rfl, rfl⟩ _
  simp only [go_sem, ↓reduceIte, Nat.reduceEqDiff, Nat.reduceLT, Nat.reduceLeDiff, Nat.reduceAdd, Nat.reduceSub, Nat.reduceMul, Nat.reduceMod, Nat.reduceDiv, Int.reduceLE, Int.reduceLT, Int.reduceToNat, Int.reduceAdd, Int.reduceSub, Int.reduceMul, Int.reduceEq, Int.reduceNeg, BitVec.reduceOfInt, BitVec.reduceToNat, BitVec.reduceEq, BitVec.reduceNe, BitVec.reduceLT, reduceCtorEq, List.forall_mem_nil, Int.lt_irrefl]
  exact Fin.ren [0, 2, 4] (by simp) (by simp) (by rfl) (by decide) (by simp [-List.map_map, -List.map_set, keysB, valsB]) (by simp [-List.map_map, -List.map_set, keysB, valsB])
theorem RTakeE_spec (t now : Int) (k : BitVec 32) (he : now < t ∨ 1099511627776 < now) : Spec0 Try.prog 7 [.ptr 0 0, .u32 k, .i64 now] [some ⟨false, [.i64 t, .nilSlice, .nilSlice], none⟩] (.i64 1) [some ⟨false, [.i64 t, .nilSlice, .nilSlice], none⟩] := by
  by_cases he1 : now < t
  · refine spec0_of_vc (by kernel_rfl) (fn := Try.f7) Try.func7 rfl (by show 3 ≤ 113; decide) (go_start ?_)
    simp only [go_sem, ↓reduceIte, Nat.reduceEqDiff, Nat.reduceLT, Nat.reduceLeDiff, Nat.reduceAdd, Nat.reduceSub, Nat.reduceMul, Nat.reduceMod, Nat.reduceDiv, Int.reduceLE, Int.reduceLT, Int.reduceToNat, Int.reduceAdd, Int.reduceSub, Int.reduceMul, Int.reduceEq, Int.reduceNeg, BitVec.reduceOfInt, BitVec.reduceToNat, BitVec.reduceEq, BitVec.reduceNe, BitVec.reduceLT, reduceCtorEq, List.forall_mem_nil, Try.ntmps7, Try.results7, he1]
    exact Fin.ren [0] (by simp) (by simp) (by rfl) (by decide) (by simp [-List.map_map, -List.map_set]) (by simp [-List.map_map, -List.map_set])
  · have he2 : 1099511627776 < now := by omega
    refine spec0_of_vc (by kernel_rfl) (fn := Try.f7) Try.func7 rfl (by show 3 ≤ 113; decide) (go_start ?_)
    simp only [go_sem, ↓reduceIte, Nat.reduceEqDiff, Nat.reduceLT, Nat.reduceLeDiff, Nat.reduceAdd, Nat.reduceSub, Nat.reduceMul, Nat.reduceMod, Nat.reduceDiv, Int.reduceLE, Int.reduceLT, Int.reduceToNat, Int.reduceAdd, Int.reduceSub, Int.reduceMul, Int.reduceEq, Int.reduceNeg, BitVec.reduceOfInt, BitVec.reduceToNat, BitVec.reduceEq, BitVec.reduceNe, BitVec.reduceLT, reduceCtorEq, List.forall_mem_nil, Try.ntmps7, Try.results7, he1, he2]
    exact Fin.ren [0] (by simp) (by simp) (by rfl) (by decide) (by simp [-List.map_map, -List.map_set]) (by simp [-List.map_map, -List.map_set])
theorem valsB_set (q : List (BitVec 32 × Int)) (n : Nat) (a : BitVec 32) (x : Int) : valsB (q.set n (a, x)) = (valsB q).set n (.i64 x) := by
  unfold valsB
  rw [List.map_set]
theorem keysB_set {q : List (BitVec 32 × Int)} {n : Nat} {p : BitVec 32 × Int} (h : q[n]? = some p) (x : Int) : keysB (q.set n (p.1, x)) = keysB q := by
  unfold keysB
  rw [List.map_set]
  obtain ⟨hl, hp⟩ := List.getElem?_eq_some_iff.1 h
  refine List.ext_getElem? fun i => ?_
  rw [List.getElem?_set]
  by_cases e : n = i
  · subst e
    rw [if_pos rfl, List.getElem?_map, h, List.length_map, if_pos hl]
    rfl
  · rw [if_neg e]
/-- The last place of a key; -1. -/
def atIx (k : BitVec 32) (q : List (BitVec 32 × Int)) : Int := q.zipIdx.foldl (fun a p => if p.1.1 = k then (p.2 : Int) else a) (-1)
theorem atIx_snoc (k : BitVec 32) (q : List (BitVec 32 × Int)) (p : BitVec 32 × Int) : atIx k (q ++ [p]) = if p.1 = k then (q.length : Int) else atIx k q := by
  unfold atIx
  rw [List.zipIdx_append, List.foldl_append]
  simp
theorem atIx_at (k : BitVec 32) : ∀ (n : Nat) (q : List (BitVec 32 × Int)), q.length = n → 0 ≤ atIx k q → ∃ p, q[(atIx k q).toNat]? = some p ∧ p.1 = k
  | 0, q, hn, h => by
    have : q = [] := List.eq_nil_of_length_eq_zero hn
    subst this
    exact absurd (show (0 : Int) ≤ -1 from h) (by omega)
  | n + 1, q, hn, h => by
    rcases List.eq_nil_or_concat q with rfl | ⟨L, b, rfl⟩
    · cases hn
    · simp only [List.concat_eq_append] at *
      rw [atIx_snoc] at h ⊢
      by_cases hb : b.1 = k
      · rw [if_pos hb]
        exact ⟨b, by simp, hb⟩
      · rw [if_neg hb] at h ⊢
        obtain ⟨p, h1, h2⟩ := atIx_at k n L (by simpa using hn) h
        refine ⟨p, ?_, h2⟩
        rw [List.getElem?_append_left (List.getElem?_eq_some_iff.1 h1).1]
        exact h1
/-- Those that are kept, d being added. -/
def keepP (d : Int) (ps : List (BitVec 32 × Int)) : List (BitVec 32 × Int) := (ps.map fun p => (p.1, p.2 + d)).filter fun p => !full p.2
theorem keepP_snoc (d : Int) (ps : List (BitVec 32 × Int)) (p : BitVec 32 × Int) : keepP d (ps ++ [p]) = if full (p.2 + d) = true then keepP d ps else keepP d ps ++ [(p.1, p.2 + d)] := by
  unfold keepP
  rw [List.map_append, List.filter_append]
  by_cases h : full (p.2 + d) = true
  · rw [if_pos h]; simp [h]
  · rw [if_neg h]; simp [h]
theorem keepP_length (d : Int) (ps : List (BitVec 32 × Int)) : (keepP d ps).length ≤ ps.length := by
  unfold keepP
  exact Nat.le_trans (List.length_filter_le ..) (by simp)
theorem keysB_snoc (q : List (BitVec 32 × Int)) (p : BitVec 32 × Int) : keysB (q ++ [p]) = keysB q ++ [.u32 p.1] := by unfold keysB; simp
theorem valsB_snoc (q : List (BitVec 32 × Int)) (p : BitVec 32 × Int) : valsB (q ++ [p]) = valsB q ++ [.i64 p.2] := by unfold valsB; simp
theorem keysB_one (p : BitVec 32 × Int) : keysB [p] = [.u32 p.1] := rfl
theorem valsB_one (p : BitVec 32 × Int) : valsB [p] = [.i64 p.2] := rfl
/-- The state ahead of round i: nothing kept yet. -/
def rtN (t now : Int) (k : BitVec 32) (ps : List (BitVec 32 × Int)) (i : Nat) : St := ⟨[(0, .ptr 0 0), (1, .u32 k), (2, .i64 now), (7, .nilSlice), (8, .nilSlice), (9, .i64 (-1)), (26, .slice 1 0 ps.length 1), (27, .i64 ps.length), (28, .i64 i)], [some ⟨false, [.i64 t, .slice 1 0 ps.length 1, .slice 2 0 ps.length 1], none⟩, some ⟨false, keysB ps, none⟩, some ⟨false, valsB ps, none⟩]⟩
/-- .. q kept. -/
def rtS (t now : Int) (k : BitVec 32) (ps q : List (BitVec 32 × Int)) (i : Nat) : St := ⟨[(0, .ptr 0 0), (1, .u32 k), (2, .i64 now), (7, .slice 3 0 q.length 1), (8, .slice 4 0 q.length 1), (9, .i64 (atIx k q)), (26, .slice 1 0 ps.length 1), (27, .i64 ps.length), (28, .i64 i)], [some ⟨false, [.i64 t, .slice 1 0 ps.length 1, .slice 2 0 ps.length 1], none⟩, some ⟨false, keysB ps, none⟩, some ⟨false, valsB ps, none⟩, some ⟨false, keysB q, none⟩, some ⟨false, valsB q, none⟩]⟩
/-- What R's Take comes to: the error, the time, the pairs. -/
def takeP (t now : Int) (k : BitVec 32) (ps : List (BitVec 32 × Int)) : Int × Int × List (BitVec 32 × Int) :=
  if now < t ∨ 1099511627776 < now then (1, t, ps) else
    let q := keepP (min (now - t) 9) ps
    if 0 ≤ atIx k q then
      (match q[(atIx k q).toNat]? with
      | some p => if p.2 = 0 then (15, now, q) else (0, now, q.set (atIx k q).toNat (p.1, p.2 - 1))
      | none => (15, now, q))
    else if 15 < (q.length : Int) then (9, now, q) else (0, now, q ++ [(k, 4)])
theorem RTakeF_spec (t now : Int) (k : BitVec 32) (ps : List (BitVec 32 × Int)) (he : now < t ∨ 1099511627776 < now) : Spec0 Try.prog 7 [.ptr 0 0, .u32 k, .i64 now] [some ⟨false, [.i64 t, .slice 1 0 ps.length 1, .slice 2 0 ps.length 1], none⟩, some ⟨false, keysB ps, none⟩, some ⟨false, valsB ps, none⟩] (.i64 1)
    [some ⟨false, [.i64 t, .slice 1 0 ps.length 1, .slice 2 0 ps.length 1], none⟩, some ⟨false, keysB ps, none⟩, some ⟨false, valsB ps, none⟩] := by
  by_cases he1 : now < t
  · refine spec0_of_vc (by kernel_rfl) (fn := Try.f7) Try.func7 rfl (by show 3 ≤ 113; decide) (go_start ?_)
    simp only [go_sem, ↓reduceIte, Nat.reduceEqDiff, Nat.reduceLT, Nat.reduceLeDiff, Nat.reduceAdd, Nat.reduceSub, Nat.reduceMul, Nat.reduceMod, Nat.reduceDiv, Int.reduceLE, Int.reduceLT, Int.reduceToNat, Int.reduceAdd, Int.reduceSub, Int.reduceMul, Int.reduceEq, Int.reduceNeg, BitVec.reduceOfInt, BitVec.reduceToNat, BitVec.reduceEq, BitVec.reduceNe, BitVec.reduceLT, reduceCtorEq, List.forall_mem_nil, Try.ntmps7, Try.results7, he1]
    exact Fin.ren [0, 1, 2] (by simp) (by simp) (by rfl) (by decide) (by simp [-List.map_map, -List.map_set]) (by simp [-List.map_map, -List.map_set])
  · have he2 : 1099511627776 < now := by omega
    refine spec0_of_vc (by kernel_rfl) (fn := Try.f7) Try.func7 rfl (by show 3 ≤ 113; decide) (go_start ?_)
    simp only [go_sem, ↓reduceIte, Nat.reduceEqDiff, Nat.reduceLT, Nat.reduceLeDiff, Nat.reduceAdd, Nat.reduceSub, Nat.reduceMul, Nat.reduceMod, Nat.reduceDiv, Int.reduceLE, Int.reduceLT, Int.reduceToNat, Int.reduceAdd, Int.reduceSub, Int.reduceMul, Int.reduceEq, Int.reduceNeg, BitVec.reduceOfInt, BitVec.reduceToNat, BitVec.reduceEq, BitVec.reduceNe, BitVec.reduceLT, reduceCtorEq, List.forall_mem_nil, Try.ntmps7, Try.results7, he1, he2]
    exact Fin.ren [0, 1, 2] (by simp) (by simp) (by rfl) (by decide) (by simp [-List.map_map, -List.map_set]) (by simp [-List.map_map, -List.map_set])
set_option maxHeartbeats 2000000 in
theorem RTake_spec (t now : Int) (k : BitVec 32) (ps : List (BitVec 32 × Int)) (hl : ps.length ≤ 1000) (hv : ∀ p ∈ ps, 0 ≤ p.2 ∧ p.2 ≤ 100) (h0 : 0 ≤ t) (h1 : t ≤ 1099511627776) (he1 : ¬ now < t) (he2 : ¬ 1099511627776 < now) : Spec0 Try.prog 7 [.ptr 0 0, .u32 k, .i64 now] [some ⟨false, [.i64 t, .slice 1 0 ps.length 1, .slice 2 0 ps.length 1], none⟩, some ⟨false, keysB ps, none⟩, some ⟨false, valsB ps, none⟩] (.i64 (takeP t now k ps).1)
    [some ⟨false, [.i64 (takeP t now k ps).2.1, .slice 3 0 (takeP t now k ps).2.2.length 1, .slice 4 0 (takeP t now k ps).2.2.length 1], none⟩, some ⟨false, keysB ps, none⟩, some ⟨false, valsB ps, none⟩, some ⟨false, keysB (takeP t now k ps).2.2, none⟩, some ⟨false, valsB (takeP t now k ps).2.2, none⟩] := by
  generalize hd : min (now - t) 9 = d
  have hd0 : 0 ≤ d ∧ d ≤ 9 := by omega
  have hdm : (if (9 : Int) < now - t then 9 else now - t) = d := by
    rw [← hd]; split <;> omega
  have hw : w64 (now - t) = now - t := w64_of (by omega) (by omega)
  refine spec0_of_vc (by kernel_rfl) (fn := Try.f7) Try.func7 rfl (by show 3 ≤ 113; decide) (go_start ?_)
  simp only [go_sem, ↓reduceIte, Nat.reduceEqDiff, Nat.reduceLT, Nat.reduceLeDiff, Nat.reduceAdd, Nat.reduceSub, Nat.reduceMul, Nat.reduceMod, Nat.reduceDiv, Int.reduceLE, Int.reduceLT, Int.reduceToNat, Int.reduceAdd, Int.reduceSub, Int.reduceMul, Int.reduceEq, Int.reduceNeg, BitVec.reduceOfInt, BitVec.reduceToNat, BitVec.reduceEq, BitVec.reduceNe, BitVec.reduceLT, reduceCtorEq, List.forall_mem_nil, Try.ntmps7, Try.results7, he1, he2]
  refine go_loop (fun j st => ∃ i : Nat, i + j = ps.length ∧ ((keepP d (ps.take i) = [] ∧ st = rtN t now k ps i) ∨ (keepP d (ps.take i) ≠ [] ∧ st = rtS t now k ps (keepP d (ps.take i)) i))) ?_ ?_
  · exact start_mk ps.length (rtN t now k ps 0) (by simp [St.get, lookS, rtN]) rfl (fun _ _ h => h) ⟨0, by omega, .inl ⟨by simp [keepP], rfl⟩⟩
  rintro j st ⟨i, hi, hst⟩ _
  have hql := keepP_length d (ps.take i)
  have htl : (ps.take i).length ≤ ps.length := by rw [List.length_take]; omega
  by_cases hi0 : i < ps.length
  · have h0' : (i : Int) < (ps.length : Int) := by omega
    obtain ⟨p, hpi⟩ : ∃ p, ps[i]? = some p := ⟨ps[i], List.getElem?_eq_getElem hi0⟩
    have htake : ps.take (i + 1) = ps.take i ++ [p] := by
      rw [List.take_add_one, hpi]; rfl
    have hvp := hv p (List.mem_of_getElem? hpi)
    have hg1 := keysB_get hpi
    have hg2 := valsB_get hpi
    have hw2 : w64 (p.2 + d) = p.2 + d := w64_of (by omega) (by omega)
    have hw1 : w64 ((i : Int) + 1) = ((i + 1 : Nat) : Int) := by rw [w64_of (by omega) (by omega)]; omega
    have hks := keepP_snoc d (ps.take i) p
    rw [← htake] at hks
    generalize hq : keepP d (ps.take i) = q at *
    rcases hst with ⟨rfl, rfl⟩ | ⟨hqn, rfl⟩
    · by_cases hf : 4 < p.2 + d
      · have hff : full (p.2 + d) = true := decide_eq_true (by omega)
        rw [if_pos hff] at hks
        unfold rtN
        simp only [go_sem, ↓reduceIte, Nat.reduceEqDiff, Nat.reduceLT, Nat.reduceLeDiff, Nat.reduceAdd, Nat.reduceSub, Nat.reduceMul, Nat.reduceMod, Nat.reduceDiv, Int.reduceLE, Int.reduceLT, Int.reduceToNat, Int.reduceAdd, Int.reduceSub, Int.reduceMul, Int.reduceEq, Int.reduceNeg, BitVec.reduceOfInt, BitVec.reduceToNat, BitVec.reduceEq, BitVec.reduceNe, BitVec.reduceLT, reduceCtorEq, List.forall_mem_nil, h0', hg1, hg2, hw, hdm, hw2, hf]
        refine ⟨by omega, hi0, by omega, hi0, by kernel_rfl, ?_⟩
        refine again_mk (j - 1) (rtN t now k ps (i + 1)) (by omega) ?_ rfl (fun _ _ h => h) ⟨i + 1, by omega, .inl ⟨hks, rfl⟩⟩
        simp [St.get, lookS, rtN, hw1]
      · have hff : ¬ full (p.2 + d) = true := by unfold full; simp; omega
        rw [if_neg hff] at hks
        have hne : keepP d (ps.take (i + 1)) ≠ [] := by rw [hks]; simp
        by_cases hk : p.1 = k
        · unfold rtN
          simp only [go_sem, ↓reduceIte, Nat.reduceEqDiff, Nat.reduceLT, Nat.reduceLeDiff, Nat.reduceAdd, Nat.reduceSub, Nat.reduceMul, Nat.reduceMod, Nat.reduceDiv, Int.reduceLE, Int.reduceLT, Int.reduceToNat, Int.reduceAdd, Int.reduceSub, Int.reduceMul, Int.reduceEq, Int.reduceNeg, BitVec.reduceOfInt, BitVec.reduceToNat, BitVec.reduceEq, BitVec.reduceNe, BitVec.reduceLT, reduceCtorEq, List.forall_mem_nil, h0', hg1, hg2, hw, hdm, hw2, hf, hk]
          refine ⟨by omega, hi0, by omega, hi0, by kernel_rfl, ?_⟩
          have hks' : keepP d (ps.take (i + 1)) = [(k, p.2 + d)] := by rw [hks, hk]; rfl
          have ha : atIx k [(k, p.2 + d)] = 0 := by simp [atIx]
          refine again_ren (j - 1) (rtS t now k ps [(k, p.2 + d)] (i + 1)) [0, 1, 2, 4, 6] (by omega) rfl (by simp) rfl (by decide) (by simp [slotsOk, St.get, lookS, rtS, hw1, ha]) (by simp [rtS, keysB_one, valsB_one]) ⟨i + 1, by omega, .inr ⟨hne, by rw [hks']⟩⟩
        · unfold rtN
          simp only [go_sem, ↓reduceIte, Nat.reduceEqDiff, Nat.reduceLT, Nat.reduceLeDiff, Nat.reduceAdd, Nat.reduceSub, Nat.reduceMul, Nat.reduceMod, Nat.reduceDiv, Int.reduceLE, Int.reduceLT, Int.reduceToNat, Int.reduceAdd, Int.reduceSub, Int.reduceMul, Int.reduceEq, Int.reduceNeg, BitVec.reduceOfInt, BitVec.reduceToNat, BitVec.reduceEq, BitVec.reduceNe, BitVec.reduceLT, reduceCtorEq, List.forall_mem_nil, h0', hg1, hg2, hw, hdm, hw2, hf, hk]
          refine ⟨by omega, hi0, by omega, hi0, by kernel_rfl, ?_⟩
          have hks' : keepP d (ps.take (i + 1)) = [(p.1, p.2 + d)] := by rw [hks]; rfl
          have ha : atIx k [(p.1, p.2 + d)] = -1 := by simp [atIx, hk]
          refine again_ren (j - 1) (rtS t now k ps [(p.1, p.2 + d)] (i + 1)) [0, 1, 2, 4, 6] (by omega) rfl (by simp) rfl (by decide) (by simp [slotsOk, St.get, lookS, rtS, hw1, ha]) (by simp [rtS, keysB_one, valsB_one]) ⟨i + 1, by omega, .inr ⟨hne, by rw [hks']⟩⟩
    · have htk : (keysB q).take q.length = keysB q := List.take_of_length_le (by simp)
      have htv : (valsB q).take q.length = valsB q := List.take_of_length_le (by simp)
      by_cases hf : 4 < p.2 + d
      · have hff : full (p.2 + d) = true := decide_eq_true (by omega)
        rw [if_pos hff] at hks
        unfold rtS
        simp only [go_sem, ↓reduceIte, Nat.reduceEqDiff, Nat.reduceLT, Nat.reduceLeDiff, Nat.reduceAdd, Nat.reduceSub, Nat.reduceMul, Nat.reduceMod, Nat.reduceDiv, Int.reduceLE, Int.reduceLT, Int.reduceToNat, Int.reduceAdd, Int.reduceSub, Int.reduceMul, Int.reduceEq, Int.reduceNeg, BitVec.reduceOfInt, BitVec.reduceToNat, BitVec.reduceEq, BitVec.reduceNe, BitVec.reduceLT, reduceCtorEq, List.forall_mem_nil, h0', hg1, hg2, hw, hdm, hw2, hf]
        refine ⟨by omega, hi0, by omega, hi0, by kernel_rfl, ?_⟩
        refine again_mk (j - 1) (rtS t now k ps q (i + 1)) (by omega) ?_ rfl (fun _ _ h => h) ⟨i + 1, by omega, .inr ⟨by rw [hks]; exact hqn, by rw [hks]; rfl⟩⟩
        simp [St.get, lookS, rtS, hw1]
      · have hff : ¬ full (p.2 + d) = true := by unfold full; simp; omega
        rw [if_neg hff] at hks
        have hne : keepP d (ps.take (i + 1)) ≠ [] := by rw [hks]; simp
        by_cases hk : p.1 = k
        · unfold rtS
          simp only [go_sem, ↓reduceIte, Nat.reduceEqDiff, Nat.reduceLT, Nat.reduceLeDiff, Nat.reduceAdd, Nat.reduceSub, Nat.reduceMul, Nat.reduceMod, Nat.reduceDiv, Int.reduceLE, Int.reduceLT, Int.reduceToNat, Int.reduceAdd, Int.reduceSub, Int.reduceMul, Int.reduceEq, Int.reduceNeg, BitVec.reduceOfInt, BitVec.reduceToNat, BitVec.reduceEq, BitVec.reduceNe, BitVec.reduceLT, reduceCtorEq, List.forall_mem_nil, h0', hg1, hg2, hw, hdm, hw2, hf, hk]
          refine ⟨by omega, hi0, by omega, hi0, by kernel_rfl, ⟨by omega, by omega⟩, ⟨by omega, by omega⟩, ?_⟩
          have hks' : keepP d (ps.take (i + 1)) = q ++ [(k, p.2 + d)] := by rw [hks, hk]
          have ha : atIx k (q ++ [(k, p.2 + d)]) = q.length := by rw [atIx_snoc, if_pos rfl]
          refine again_ren (j - 1) (rtS t now k ps (q ++ [(k, p.2 + d)]) (i + 1)) [0, 1, 2, 6, 8] (by omega) rfl (by simp) rfl (by decide) (by simp [slotsOk, St.get, lookS, rtS, hw1, ha]) (by simp [rtS, keysB_snoc, valsB_snoc, htk, htv]) ⟨i + 1, by omega, .inr ⟨hne, by rw [hks']; rfl⟩⟩
        · unfold rtS
          simp only [go_sem, ↓reduceIte, Nat.reduceEqDiff, Nat.reduceLT, Nat.reduceLeDiff, Nat.reduceAdd, Nat.reduceSub, Nat.reduceMul, Nat.reduceMod, Nat.reduceDiv, Int.reduceLE, Int.reduceLT, Int.reduceToNat, Int.reduceAdd, Int.reduceSub, Int.reduceMul, Int.reduceEq, Int.reduceNeg, BitVec.reduceOfInt, BitVec.reduceToNat, BitVec.reduceEq, BitVec.reduceNe, BitVec.reduceLT, reduceCtorEq, List.forall_mem_nil, h0', hg1, hg2, hw, hdm, hw2, hf, hk]
          refine ⟨by omega, hi0, by omega, hi0, by kernel_rfl, ⟨by omega, by omega⟩, ⟨by omega, by omega⟩, ?_⟩
          have ha : atIx k (q ++ [(p.1, p.2 + d)]) = atIx k q := by rw [atIx_snoc, if_neg hk]
          refine again_ren (j - 1) (rtS t now k ps (q ++ [(p.1, p.2 + d)]) (i + 1)) [0, 1, 2, 6, 8] (by omega) rfl (by simp) rfl (by decide) (by simp [slotsOk, St.get, lookS, rtS, hw1, ha]) (by simp [rtS, keysB_snoc, valsB_snoc, htk, htv]) ⟨i + 1, by omega, .inr ⟨hne, by rw [hks]; rfl⟩⟩
  · have h0' : ¬ (i : Int) < (ps.length : Int) := by omega
    have hti : ps.take i = ps := List.take_of_length_le (by omega)
    have ht : takeP t now k ps = ((if 0 ≤ atIx k (keepP d ps) then
      (match (keepP d ps)[(atIx k (keepP d ps)).toNat]? with
      | some p => if p.2 = 0 then (15, now, keepP d ps) else (0, now, (keepP d ps).set (atIx k (keepP d ps)).toNat (p.1, p.2 - 1))
      | none => (15, now, keepP d ps))
    else if 15 < ((keepP d ps).length : Int) then (9, now, keepP d ps) else (0, now, keepP d ps ++ [(k, 4)])) : Int × Int × List (BitVec 32 × Int)) := by
      unfold takeP
      rw [if_neg (by omega)]
      simp only [hd]
    rw [hti] at hst hql
    rw [ht]
    generalize hq : keepP d ps = q at *
    rcases hst with ⟨rfl, rfl⟩ | ⟨hqn, rfl⟩
    · have ha : atIx k [] = -1 := rfl
      rw [ha]
      unfold rtN
      simp only [go_sem, ↓reduceIte, Nat.reduceEqDiff, Nat.reduceLT, Nat.reduceLeDiff, Nat.reduceAdd, Nat.reduceSub, Nat.reduceMul, Nat.reduceMod, Nat.reduceDiv, Int.reduceLE, Int.reduceLT, Int.reduceToNat, Int.reduceAdd, Int.reduceSub, Int.reduceMul, Int.reduceEq, Int.reduceNeg, BitVec.reduceOfInt, BitVec.reduceToNat, BitVec.reduceEq, BitVec.reduceNe, BitVec.reduceLT, reduceCtorEq, List.forall_mem_nil, h0']
      exact Fin.ren [0, 1, 2, 4, 6] (by simp) (by simp) (by rfl) (by decide) (by simp [-List.map_map, -List.map_set, keysB_one, valsB_one]) (by simp [-List.map_map, -List.map_set, keysB_one, valsB_one])
    · unfold rtS
      by_cases hat : 0 ≤ atIx k q
      · obtain ⟨p, hpa, hpk⟩ := atIx_at k _ q rfl hat
        have hln := (List.getElem?_eq_some_iff.1 hpa).1
        have hal : atIx k q < q.length := by omega
        have hpq : p ∈ keepP d ps := by rw [hq]; exact List.mem_of_getElem? hpa
        have hp3 : 0 ≤ p.2 ∧ p.2 ≤ 200 := by
          unfold keepP at hpq
          obtain ⟨x, hx, hxe⟩ := List.mem_map.1 (List.mem_filter.1 hpq).1
          have h5 := hv x hx
          have h6 : x.2 + d = p.2 := congrArg (·.2) hxe
          omega
        have hg2 := valsB_get hpa
        rw [if_pos hat, hpa]
        by_cases hz : p.2 = 0
        · simp only [go_sem, ↓reduceIte, Nat.reduceEqDiff, Nat.reduceLT, Nat.reduceLeDiff, Nat.reduceAdd, Nat.reduceSub, Nat.reduceMul, Nat.reduceMod, Nat.reduceDiv, Int.reduceLE, Int.reduceLT, Int.reduceToNat, Int.reduceAdd, Int.reduceSub, Int.reduceMul, Int.reduceEq, Int.reduceNeg, BitVec.reduceOfInt, BitVec.reduceToNat, BitVec.reduceEq, BitVec.reduceNe, BitVec.reduceLT, reduceCtorEq, List.forall_mem_nil, h0', hat, hg2, hz]
          refine ⟨hal, hln, ?_⟩
          exact Fin.ren [0, 1, 2, 3, 4] (by simp) (by simp) (by rfl) (by decide) (by simp [-List.map_map, -List.map_set]) (by simp [-List.map_map, -List.map_set])
        · have hw3 : w64 (p.2 - 1) = p.2 - 1 := w64_of (by omega) (by omega)
          have hat3 : ¬ atIx k q < 0 := by omega
          simp only [go_sem, ↓reduceIte, Nat.reduceEqDiff, Nat.reduceLT, Nat.reduceLeDiff, Nat.reduceAdd, Nat.reduceSub, Nat.reduceMul, Nat.reduceMod, Nat.reduceDiv, Int.reduceLE, Int.reduceLT, Int.reduceToNat, Int.reduceAdd, Int.reduceSub, Int.reduceMul, Int.reduceEq, Int.reduceNeg, BitVec.reduceOfInt, BitVec.reduceToNat, BitVec.reduceEq, BitVec.reduceNe, BitVec.reduceLT, reduceCtorEq, List.forall_mem_nil, h0', hat, hat3, hg2, hz, hw3]
          refine ⟨hal, hln, hal, hln, hal, by omega, ?_⟩
          rw [← valsB_set q _ p.1, keysB_set hpa]
          exact Fin.ren [0, 1, 2, 3, 4] (by simp) (by simp) (by rfl) (by decide) (by simp [-List.map_map, -List.map_set]) (by simp [-List.map_map, -List.map_set])
      · rw [if_neg hat]
        have hat2 : atIx k q < 0 := by omega
        by_cases hq15 : 15 < (q.length : Int)
        · rw [if_pos hq15]
          simp only [go_sem, ↓reduceIte, Nat.reduceEqDiff, Nat.reduceLT, Nat.reduceLeDiff, Nat.reduceAdd, Nat.reduceSub, Nat.reduceMul, Nat.reduceMod, Nat.reduceDiv, Int.reduceLE, Int.reduceLT, Int.reduceToNat, Int.reduceAdd, Int.reduceSub, Int.reduceMul, Int.reduceEq, Int.reduceNeg, BitVec.reduceOfInt, BitVec.reduceToNat, BitVec.reduceEq, BitVec.reduceNe, BitVec.reduceLT, reduceCtorEq, List.forall_mem_nil, h0', hat, hat2, hq15]
          exact Fin.ren [0, 1, 2, 3, 4] (by simp) (by simp) (by rfl) (by decide) (by simp [-List.map_map, -List.map_set]) (by simp [-List.map_map, -List.map_set])
        · rw [if_neg hq15]
          simp only [go_sem, ↓reduceIte, Nat.reduceEqDiff, Nat.reduceLT, Nat.reduceLeDiff, Nat.reduceAdd, Nat.reduceSub, Nat.reduceMul, Nat.reduceMod, Nat.reduceDiv, Int.reduceLE, Int.reduceLT, Int.reduceToNat, Int.reduceAdd, Int.reduceSub, Int.reduceMul, Int.reduceEq, Int.reduceNeg, BitVec.reduceOfInt, BitVec.reduceToNat, BitVec.reduceEq, BitVec.reduceNe, BitVec.reduceLT, reduceCtorEq, List.forall_mem_nil, h0', hat, hat2, hq15]
          have htk : (keysB q).take q.length = keysB q := List.take_of_length_le (by simp)
          have htv : (valsB q).take q.length = valsB q := List.take_of_length_le (by simp)
          refine ⟨⟨by omega, by omega⟩, ⟨by omega, by omega⟩, ?_⟩
          exact Fin.ren [0, 1, 2, 6, 8] (by simp) (by simp) (by rfl) (by decide) (by simp [-List.map_map, -List.map_set, keysB_snoc, valsB_snoc, htk, htv]) (by simp [-List.map_map, -List.map_set, keysB_snoc, valsB_snoc, htk, htv])
end Go.Vm
end
section
namespace Go.Vm
open Go.Proofs
set_option maxRecDepth 20000
/-- The map and the pairs say the same. -/
structure Alike2 (m : MapC) (ps : List (BitVec 32 × Int)) : Prop where
  ok : m.ok
  same : m.es.map (·.2) = ps
  vals : ∀ p ∈ ps, 0 ≤ p.2 ∧ p.2 ≤ 4
  few : ps.length ≤ 16
theorem keep_same (x : Int) (hx : 0 ≤ x) : ∀ (l : List (Nat × BitVec 32 × Int)), (∀ e ∈ l, 0 ≤ e.2.2) → ((l.map fun e => (e.1, e.2.1, e.2.2 + min x 5)).filter fun e => !full e.2.2).map (·.2) = keepP (min x 9) (l.map (·.2))
  | [], _ => rfl
  | e :: l, h => by
    have ih := keep_same x hx l fun y hy => h y (by simp [hy])
    have he := h e (by simp)
    unfold keepP at *
    simp only [List.map_cons, List.filter_cons]
    by_cases h5 : 5 ≤ e.2.2 + min x 5
    · have f1 : full (e.2.2 + min x 5) = true := decide_eq_true h5
      have f2 : full (e.2.2 + min x 9) = true := decide_eq_true (by omega)
      simp only [f1, f2, Bool.not_true, Bool.false_eq_true, if_false]
      exact ih
    · have f1 : full (e.2.2 + min x 5) = false := decide_eq_false h5
      have f2 : full (e.2.2 + min x 9) = false := decide_eq_false (by omega)
      have e3 : min x 5 = min x 9 := by omega
      simp only [f1, f2, Bool.not_false, if_true, List.map_cons]
      rw [ih, e3]
theorem atIx_none (k : BitVec 32) : ∀ (n : Nat) (q : List (BitVec 32 × Int)), q.length = n → atIx k q < 0 → pairAt k q = none
  | 0, q, hn, h => by
    have : q = [] := List.eq_nil_of_length_eq_zero hn
    subst this; rfl
  | n + 1, q, hn, h => by
    rcases List.eq_nil_or_concat q with rfl | ⟨L, b, rfl⟩
    · cases hn
    · simp only [List.concat_eq_append] at *
      rw [atIx_snoc] at h
      by_cases hb : b.1 = k
      · rw [if_pos hb] at h; omega
      · rw [if_neg hb] at h
        have ih := atIx_none k n L (by simpa using hn) h
        have key : ∀ (L : List (BitVec 32 × Int)), pairAt k L = none → pairAt k (L ++ [b]) = none := fun L => by
          induction L with
          | nil =>
            intro _
            show (if b.1 = k then some b.2 else pairAt k []) = none
            rw [if_neg hb]; rfl
          | cons y L ihL =>
            intro h
            unfold pairAt at h
            rw [List.cons_append]
            unfold pairAt
            split at h
            · cases h
            · rename_i hy
              rw [if_neg hy]; exact ihL h
        exact key L ih
theorem pairAt_mem {k : BitVec 32} : ∀ {q : List (BitVec 32 × Int)} {p : BitVec 32 × Int}, (q.map (·.1)).Nodup → p ∈ q → p.1 = k → pairAt k q = some p.2
  | [], _, _, h, _ => by cases h
  | y :: q, p, h, hm, hk => by
    have h' : y.1 ∉ q.map (·.1) ∧ (q.map (·.1)).Nodup := List.nodup_cons.1 h
    unfold pairAt
    rcases List.mem_cons.1 hm with h1 | h1
    · rw [← h1, if_pos hk]
    · rw [if_neg (fun e2 => h'.1 (List.mem_map.2 ⟨p, h1, hk.trans e2.symm⟩)), pairAt_mem h'.2 h1 hk]
theorem pairAt_no {k : BitVec 32} : ∀ {q : List (BitVec 32 × Int)}, pairAt k q = none → ∀ p ∈ q, p.1 ≠ k
  | [], _, _, h => by cases h
  | y :: q, h, p, hm => by
    unfold pairAt at h
    split at h
    · cases h
    · rename_i hy
      rcases List.mem_cons.1 hm with h1 | h1
      · rw [h1]; exact hy
      · exact pairAt_no h p h1
theorem put_set {k : BitVec 32} {n : Int} {q : List (BitVec 32 × Int)} {i : Nat} {p : BitVec 32 × Int} (hq : (q.map (·.1)).Nodup) (hi : q[i]? = some p) (hk : p.1 = k) : (q.map fun e => if e.1 = k then (k, n) else e) = q.set i (p.1, n) := by
  obtain ⟨hl, hp⟩ := List.getElem?_eq_some_iff.1 hi
  refine List.ext_getElem? fun j => ?_
  rw [List.getElem?_map, List.getElem?_set]
  by_cases e : i = j
  · subst e
    rw [if_pos rfl, if_pos hl, hi, Option.map_some, if_pos hk, hk]
  · rw [if_neg e]
    cases hj : q[j]? with
    | none => rfl
    | some y =>
      have hne : y.1 ≠ k := fun h => e (by
        obtain ⟨hl2, hy⟩ := List.getElem?_eq_some_iff.1 hj
        have h1 : (q.map (·.1))[i]'(by simpa using hl) = (q.map (·.1))[j]'(by simpa using hl2) := by
          rw [List.getElem_map, List.getElem_map, hp, hy, hk, h]
        exact (List.getElem_inj hq).1 h1)
      rw [Option.map_some, if_neg hne]
theorem ok_set {m : MapC} (hm : m.ok) (k : BitVec 32) (n : Int) (h : (entAt k m.es).isSome = true) : (m.set k n).ok ∧ (m.set k n).es.map (·.2) = (m.es.map (·.2)).map fun e => if e.1 = k then (k, n) else e := by
  have e : m.set k n = ⟨m.es.map fun e => if e.2.1 = k then (e.1, k, n) else e, m.clock⟩ := by
    unfold MapC.set
    rw [if_pos h, entPut_map _ _ _ hm.keys]
  rw [e]
  refine ⟨⟨?_, fun x hx => ?_, ?_⟩, ?_⟩
  · have : (m.es.map fun e => if e.2.1 = k then (e.1, k, n) else e).map (·.1) = m.es.map (·.1) := by
      rw [List.map_map]
      refine List.map_congr_left fun x _ => ?_
      simp only [Function.comp]
      split <;> rfl
    show ((m.es.map fun e => if e.2.1 = k then (e.1, k, n) else e).map (·.1)).Nodup
    rw [this]; exact hm.stamps
  · obtain ⟨y, hy, rfl⟩ := List.mem_map.1 hx
    have := hm.below y hy
    show (if y.2.1 = k then (y.1, k, n) else y).1 < m.clock
    split <;> exact this
  · have : (m.es.map fun e => if e.2.1 = k then (e.1, k, n) else e).map (·.2.1) = m.es.map (·.2.1) := by
      rw [List.map_map]
      refine List.map_congr_left fun x _ => ?_
      simp only [Function.comp]
      split
      · rename_i h; exact h.symm
      · rfl
    show ((m.es.map fun e => if e.2.1 = k then (e.1, k, n) else e).map (·.2.1)).Nodup
    rw [this]; exact hm.keys
  · show (m.es.map fun e => if e.2.1 = k then (e.1, k, n) else e).map (·.2) = _
    rw [List.map_map, List.map_map]
    refine List.map_congr_left fun x _ => ?_
    simp only [Function.comp]
    split <;> rfl
theorem ok_push {m : MapC} (hm : m.ok) (k : BitVec 32) (n : Int) (h : entAt k m.es = none) : (m.set k n).ok ∧ (m.set k n).es.map (·.2) = m.es.map (·.2) ++ [(k, n)] := by
  have e : m.set k n = ⟨m.es ++ [(m.clock, k, n)], m.clock + 1⟩ := by
    unfold MapC.set
    rw [h]; rfl
  have hno : k ∉ m.es.map (·.2.1) := fun hk => by
    obtain ⟨x, hx, hxk⟩ := List.mem_map.1 hk
    rw [pairAt_ent] at h
    exact pairAt_no h x.2 (List.mem_map.2 ⟨x, hx, rfl⟩) hxk
  rw [e]
  refine ⟨⟨?_, fun x hx => ?_, ?_⟩, ?_⟩
  · show ((m.es ++ [(m.clock, k, n)]).map (·.1)).Nodup
    rw [List.map_append]
    refine List.nodup_append.2 ⟨hm.stamps, by simp, fun a ha b hb => ?_⟩
    obtain ⟨y, hy, rfl⟩ := List.mem_map.1 ha
    have := hm.below y hy
    simp at hb
    omega
  · show x.1 < m.clock + 1
    rcases List.mem_append.1 hx with h1 | h1
    · have := hm.below x h1; omega
    · simp at h1; subst h1; simp
  · show ((m.es ++ [(m.clock, k, n)]).map (·.2.1)).Nodup
    rw [List.map_append]
    refine List.nodup_append.2 ⟨hm.keys, by simp, fun a ha b hb => ?_⟩
    simp at hb
    subst hb
    exact fun e => hno (e ▸ ha)
  · show (m.es ++ [(m.clock, k, n)]).map (·.2) = _
    rw [List.map_append]; rfl
end Go.Vm
end
section
namespace Go.Vm
open Go.Proofs
set_option maxRecDepth 20000
/-- Both Takes say the same and leave the same. -/
theorem take_same {t now : Int} {k : BitVec 32} {m : MapC} {ps : List (BitVec 32 × Int)} (h : Alike2 m ps) (he1 : ¬ now < t) (he2 : ¬ 1099511627776 < now) :
    (takeE t now k m).1 = (takeP t now k ps).1 ∧ (takeE t now k m).2.1 = now ∧ (takeP t now k ps).2.1 = now ∧ Alike2 (takeE t now k m).2.2 (takeP t now k ps).2.2 := by
  have hm2 : (m.more (min (now - t) 5)).drop.ok := MapC.drop_ok (MapC.more_ok h.ok _)
  have hsm : (m.more (min (now - t) 5)).drop.es.map (·.2) = keepP (min (now - t) 9) ps := by
    rw [← h.same]
    exact keep_same (now - t) (by omega) m.es (fun e he => (h.vals e.2 (by rw [← h.same]; exact List.mem_map.2 ⟨e, he, rfl⟩)).1)
  have hE : takeE t now k m = ((match entAt k (m.more (min (now - t) 5)).drop.es with
      | some n => if n = 0 then (15, now, (m.more (min (now - t) 5)).drop) else (0, now, (m.more (min (now - t) 5)).drop.set k (n - 1))
      | none => if ((m.more (min (now - t) 5)).drop.es.length : Int) = 16 then (9, now, (m.more (min (now - t) 5)).drop) else (0, now, (m.more (min (now - t) 5)).drop.set k 4)) : Int × Int × MapC) := by
    unfold takeE
    rw [if_neg (by omega)]
    first | done | rfl
  have hP : takeP t now k ps = ((if 0 ≤ atIx k (keepP (min (now - t) 9) ps) then
      (match (keepP (min (now - t) 9) ps)[(atIx k (keepP (min (now - t) 9) ps)).toNat]? with
      | some p => if p.2 = 0 then (15, now, keepP (min (now - t) 9) ps) else (0, now, (keepP (min (now - t) 9) ps).set (atIx k (keepP (min (now - t) 9) ps)).toNat (p.1, p.2 - 1))
      | none => (15, now, keepP (min (now - t) 9) ps))
    else if 15 < ((keepP (min (now - t) 9) ps).length : Int) then (9, now, keepP (min (now - t) 9) ps) else (0, now, keepP (min (now - t) 9) ps ++ [(k, 4)])) : Int × Int × List (BitVec 32 × Int)) := by
    unfold takeP
    rw [if_neg (by omega)]
    first | done | rfl
  have hqv : ∀ p ∈ keepP (min (now - t) 9) ps, 0 ≤ p.2 ∧ p.2 ≤ 4 := fun p hp => by
    unfold keepP at hp
    obtain ⟨h1, h2⟩ := List.mem_filter.1 hp
    obtain ⟨x, hx, hxe⟩ := List.mem_map.1 h1
    have h3 := h.vals x hx
    have h4 : x.2 + min (now - t) 9 = p.2 := congrArg (·.2) hxe
    have h5 : ¬ 5 ≤ p.2 := by simpa [full] using h2
    omega
  have hql : (keepP (min (now - t) 9) ps).length ≤ 16 := Nat.le_trans (keepP_length _ _) h.few
  rw [hE, hP]
  generalize (m.more (min (now - t) 5)).drop = m2 at *
  generalize keepP (min (now - t) 9) ps = q at *
  have hqn : (q.map (·.1)).Nodup := by
    rw [← hsm, List.map_map]; exact hm2.keys
  have hA : Alike2 m2 q := ⟨hm2, hsm, hqv, hql⟩
  by_cases hat : 0 ≤ atIx k q
  · obtain ⟨p, hpa, hpk⟩ := atIx_at k _ q rfl hat
    have hpq := List.mem_of_getElem? hpa
    have hen : entAt k m2.es = some p.2 := by rw [pairAt_ent, hsm]; exact pairAt_mem hqn hpq hpk
    rw [hen, if_pos hat, hpa]
    simp only
    by_cases hz : p.2 = 0
    · rw [if_pos hz, if_pos hz]
      exact ⟨rfl, rfl, rfl, hA⟩
    · rw [if_neg hz, if_neg hz]
      obtain ⟨g1, g2⟩ := ok_set hm2 k (p.2 - 1) (by rw [hen]; rfl)
      rw [hsm, put_set hqn hpa hpk] at g2
      refine ⟨rfl, rfl, rfl, g1, g2, fun x hx => ?_, by simpa using hql⟩
      rcases List.mem_or_eq_of_mem_set hx with h1 | h1
      · exact hqv x h1
      · have := hqv p hpq
        rw [h1]
        show 0 ≤ p.2 - 1 ∧ p.2 - 1 ≤ 4
        omega
  · have hen : entAt k m2.es = none := by rw [pairAt_ent, hsm]; exact atIx_none k _ q rfl (by omega)
    have hlen : m2.es.length = q.length := by rw [← hsm, List.length_map]
    rw [hen, if_neg hat]
    simp only
    by_cases hf : 15 < (q.length : Int)
    · rw [if_pos (by omega), if_pos hf]
      exact ⟨rfl, rfl, rfl, hA⟩
    · rw [if_neg (by omega), if_neg hf]
      obtain ⟨g1, g2⟩ := ok_push hm2 k 4 hen
      rw [hsm] at g2
      refine ⟨rfl, rfl, rfl, g1, g2, fun x hx => ?_, by simp; omega⟩
      rcases List.mem_append.1 hx with h1 | h1
      · exact hqv x h1
      · simp at h1; subst h1; simp
theorem alike_nil : Alike2 ⟨[], 0⟩ [] := ⟨⟨by simp, (fun _ h => by cases h), by simp⟩, rfl, (fun _ h => by cases h), by simp⟩
/-- From nothing: one source with four left. -/
theorem take_first {t now : Int} {k : BitVec 32} (he1 : ¬ now < t) (he2 : ¬ 1099511627776 < now) : takeP t now k [] = (0, now, [(k, 4)]) := by
  unfold takeP
  rw [if_neg (by omega)]
  first | done | rfl
theorem left_same {m : MapC} {ps : List (BitVec 32 × Int)} (h : Alike2 m ps) (k : BitVec 32) : (entAt k m.es).getD 5 = (pairAt k ps).getD 5 := by
  rw [pairAt_ent, h.same]
end Go.Vm
end
