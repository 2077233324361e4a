/- A part of the proof: laws of a small machine of values, or what one function answers, proved against the model; no conditions beyond those in each theorem. -/
import Derived.Test.YtamiehjmabphmaaChecked
import Derived.Test.YtamiehjmabphmaaRows
import Derived.Test.YtamiehjmabphmaaPtYToVmH1
import Derived.Test.YtamiehjmabphmaaVmTToVmU
import Derived.Test.YtamiehjmabphmaaProg
import Derived.Test.YtamiehjmabphmaaVmYToPtA
set_option linter.unusedVariables false
set_option linter.unusedSimpArgs false
set_option linter.unusedSectionVars false
section
namespace Go.Proofs.Ytamiehjmabphmaa.head
open Go.Vm
/-- The order of beginnings, sign by sign. -/
def codes : List Nat := [
  104, 97, 114, 110, 101, 115, 115, 32, 102, 51, 50, 54, 57, 50, 52, 97, 53, 49, 50, 49, 48, 51, 98, 99, 55, 56, 54, 98, 53, 98, 57, 51, 55, 102, 48, 54, 57, 102, 54, 51, 51, 53, 99, 101, 99, 100, 57,
  52, 53, 54, 48, 100, 100, 53, 51, 50, 51, 102, 52, 51, 52, 52, 55, 56, 100, 101, 101, 102, 99, 100, 102, 52, 32, 99, 117, 116, 32, 97, 116, 32, 115, 111, 117, 116, 101, 114, 114, 97, 105, 110, 47,
  115, 111, 117, 116, 101, 114, 114, 97, 105, 110, 108, 97, 119, 46, 66, 117, 99, 107, 101, 116, 83, 97, 121, 115, 32, 115, 111, 117, 116, 101, 114, 114, 97, 105, 110, 47, 115, 111, 117, 116, 101, 114,
  114, 97, 105, 110, 108, 97, 119, 46, 80, 97, 116, 104, 115, 83, 97, 121, 115]
theorem io : Try.prog.initOrder = String.ofList (codes.map Char.ofNat) := by kernel_rfl
theorem chars : Try.prog.initOrder.toList = codes.map Char.ofNat := by rw [io, String.toList_ofList]
def words : List (List Char) := behindMainWord (wordsSigns (codes.map Char.ofNat))
theorem shape : words = "cut".toList :: words.tail := by kernel_rfl
theorem cut : behindMainWord (wordsSigns Try.prog.initOrder.toList) = "cut".toList :: words.tail := by rw [chars]; exact shape
theorem later : Try.prog.laysLater = false := by kernel_rfl
theorem bears : Try.prog.bearsReflect = false := by kernel_rfl
theorem fits : Try.prog.doorFits [] = true := by kernel_rfl
theorem mayEnter : Try.prog.mayEnter = true := enter_of_cut cut later bears fits
theorem make : Try.prog.make = some .cut := make_of_cut cut
theorem lifts : Try.prog.liftsFinal = false := lifts_of_cut cut
theorem laidOut : laidOutB Try.prog = true := by kernel_rfl
theorem rowed : mapsRowed Try.prog = true := by kernel_rfl
theorem stops : (Try.prog.stops == []) = true := by kernel_rfl
theorem knobs : (Try.prog.stopKnobs == []) = true := by kernel_rfl
theorem plain : Try.prog.plainKeys = true := by kernel_rfl
theorem heard : Try.prog.stopsHeard = true := by kernel_rfl
theorem own : ownKnob Try.prog.godebug = none := by kernel_rfl
theorem mixed : Try.prog.follows .mixedOrders = true := by kernel_rfl
end Go.Proofs.Ytamiehjmabphmaa.head
end
section
namespace Go.Vm
theorem vtuple_zero : vtuple [] = .tup [] := rfl
attribute [go_sem] and_true true_and and_self Nat.succ_ne_self decide_true decide_false Bool.false_eq_true Nat.one_ne_zero Nat.zero_ne_one Nat.not_lt_zero Nat.zero_lt_succ ge_iff_le gt_iff_lt decide_eq_true_eq Option.some.injEq List.getElem?_cons_zero List.getElem?_cons_succ List.length_cons List.length_nil Int.natCast_zero List.map_cons List.map_nil List.append_nil List.nil_append List.cons_append vconv Option.map_some Option.map_none List.getD_cons_zero List.getD_cons_succ List.not_mem_nil false_implies implies_true List.getElem?_toArray Option.bind_some List.set_cons_zero List.set_cons_succ List.take_succ_cons List.take_zero List.drop_succ_cons List.drop_zero List.drop_nil List.take_nil List.forall_mem_cons V.u8.injEq exists_eq' Nat.zero_mul Nat.one_mul Nat.zero_add Nat.mul_one Nat.add_zero Int.toNat_natCast Int.cast_ofNat_Int ne_eq not_true_eq_false not_false_eq_true List.length_set List.length_append List.length_take List.length_drop List.length_replicate Option.isSome_none Option.isSome_some w64_of Bool.not_true Bool.not_false Bool.true_and Bool.false_and Bool.and_true Bool.and_false Bool.true_or Bool.false_or Bool.or_true Bool.or_false Bool.not_eq_true' decide_eq_false_iff_not beq_self_eq_true List.take_length Nat.le_refl Int.le_refl Blk.mk.injEq
attribute [simp] vtuple_zero rens_append lows_append sgOf_zero sgOf_succ rens V.ren lows V.low rens_u8 rens_u32 rens_u64 rens_i64 rens_str lows_u8 lows_u32 lows_u64 lows_i64 lows_str allSome allRw blksOk_nil blksOk_none blksOk_some getH_zero getH_succ getH_nil
end Go.Vm
end
section
namespace Go.Vm.Ty
open Go.Proofs
set_option maxRecDepth 100000
theorem sz1 : szOf Try.prog 1 = some 1 := by kernel_rfl
theorem by1 : byOf Try.prog 1 = some 8 := by kernel_rfl
theorem zero1 : zeroOf Try.prog 1 = some [.nilFn] := by kernel_rfl
theorem row1 : isRowT Try.prog 1 = some false := by kernel_rfl
theorem sz2 : szOf Try.prog 2 = some 1 := by kernel_rfl
theorem by2 : byOf Try.prog 2 = some 8 := by kernel_rfl
theorem zero2 : zeroOf Try.prog 2 = some [.i64 0] := by kernel_rfl
theorem row2 : isRowT Try.prog 2 = some false := by kernel_rfl
theorem sz3 : szOf Try.prog 3 = some 1 := by kernel_rfl
theorem by3 : byOf Try.prog 3 = some 8 := by kernel_rfl
theorem zero3 : zeroOf Try.prog 3 = some [.i64 0] := by kernel_rfl
theorem row3 : isRowT Try.prog 3 = some false := by kernel_rfl
theorem sz4 : szOf Try.prog 4 = some 1 := by kernel_rfl
theorem by4 : byOf Try.prog 4 = some 1 := by kernel_rfl
theorem zero4 : zeroOf Try.prog 4 = some [.bool false] := by kernel_rfl
theorem row4 : isRowT Try.prog 4 = some false := by kernel_rfl
theorem sz5 : szOf Try.prog 5 = some 1 := by kernel_rfl
theorem by5 : byOf Try.prog 5 = some 1 := by kernel_rfl
theorem zero5 : zeroOf Try.prog 5 = some [.u8 0#8] := by kernel_rfl
theorem row5 : isRowT Try.prog 5 = some false := by kernel_rfl
theorem sz6 : szOf Try.prog 6 = some 1 := by kernel_rfl
theorem by6 : byOf Try.prog 6 = some 1 := by kernel_rfl
theorem zero6 : zeroOf Try.prog 6 = some [.u8 0#8] := by kernel_rfl
theorem row6 : isRowT Try.prog 6 = some false := by kernel_rfl
theorem sz7 : szOf Try.prog 7 = some 4 := by kernel_rfl
theorem by7 : byOf Try.prog 7 = some 24 := by kernel_rfl
theorem zero7 : zeroOf Try.prog 7 = some [.i64 0, .i64 0, .bool false, .u8 0#8] := by kernel_rfl
theorem row7 : isRowT Try.prog 7 = some true := by kernel_rfl
theorem fld7_0 : fldOf Try.prog 7 0 = some (0, 2) := by kernel_rfl
theorem fld7_1 : fldOf Try.prog 7 1 = some (1, 3) := by kernel_rfl
theorem fld7_2 : fldOf Try.prog 7 2 = some (2, 4) := by kernel_rfl
theorem fld7_3 : fldOf Try.prog 7 3 = some (3, 6) := by kernel_rfl
theorem bld7 : buildT Try.prog 7 = some ([.i64 0, .i64 0, .bool false, .u8 0#8], .inl [(0, 1), (1, 1), (2, 1), (3, 1)]) := by kernel_rfl
theorem sz8 : szOf Try.prog 8 = some 4 := by kernel_rfl
theorem by8 : byOf Try.prog 8 = some 24 := by kernel_rfl
theorem zero8 : zeroOf Try.prog 8 = some [.i64 0, .i64 0, .bool false, .u8 0#8] := by kernel_rfl
theorem row8 : isRowT Try.prog 8 = some true := by kernel_rfl
theorem fld8_0 : fldOf Try.prog 8 0 = some (0, 2) := by kernel_rfl
theorem fld8_1 : fldOf Try.prog 8 1 = some (1, 3) := by kernel_rfl
theorem fld8_2 : fldOf Try.prog 8 2 = some (2, 4) := by kernel_rfl
theorem fld8_3 : fldOf Try.prog 8 3 = some (3, 6) := by kernel_rfl
theorem bld8 : buildT Try.prog 8 = some ([.i64 0, .i64 0, .bool false, .u8 0#8], .inl [(0, 1), (1, 1), (2, 1), (3, 1)]) := by kernel_rfl
theorem sz9 : szOf Try.prog 9 = some 1 := by kernel_rfl
theorem by9 : byOf Try.prog 9 = some 16 := by kernel_rfl
theorem zero9 : zeroOf Try.prog 9 = some [.str []] := by kernel_rfl
theorem row9 : isRowT Try.prog 9 = some false := by kernel_rfl
theorem sz10 : szOf Try.prog 10 = some 1 := by kernel_rfl
theorem by10 : byOf Try.prog 10 = some 16 := by kernel_rfl
theorem zero10 : zeroOf Try.prog 10 = some [.str []] := by kernel_rfl
theorem row10 : isRowT Try.prog 10 = some false := by kernel_rfl
theorem sz11 : szOf Try.prog 11 = some 1 := by kernel_rfl
theorem by11 : byOf Try.prog 11 = some 16 := by kernel_rfl
theorem zero11 : zeroOf Try.prog 11 = some [.str []] := by kernel_rfl
theorem row11 : isRowT Try.prog 11 = some false := by kernel_rfl
theorem sz12 : szOf Try.prog 12 = some 1 := by kernel_rfl
theorem by12 : byOf Try.prog 12 = some 8 := by kernel_rfl
theorem zero12 : zeroOf Try.prog 12 = some [.u64 0#64] := by kernel_rfl
theorem row12 : isRowT Try.prog 12 = some false := by kernel_rfl
theorem sz13 : szOf Try.prog 13 = some 2 := by kernel_rfl
theorem by13 : byOf Try.prog 13 = some 24 := by kernel_rfl
theorem zero13 : zeroOf Try.prog 13 = some [.str [], .u64 0#64] := by kernel_rfl
theorem row13 : isRowT Try.prog 13 = some true := by kernel_rfl
theorem fld13_0 : fldOf Try.prog 13 0 = some (0, 9) := by kernel_rfl
theorem fld13_1 : fldOf Try.prog 13 1 = some (1, 12) := by kernel_rfl
theorem bld13 : buildT Try.prog 13 = some ([.str [], .u64 0#64], .inl [(0, 1), (1, 1)]) := by kernel_rfl
theorem sz14 : szOf Try.prog 14 = some 2 := by kernel_rfl
theorem by14 : byOf Try.prog 14 = some 24 := by kernel_rfl
theorem zero14 : zeroOf Try.prog 14 = some [.str [], .u64 0#64] := by kernel_rfl
theorem row14 : isRowT Try.prog 14 = some true := by kernel_rfl
theorem fld14_0 : fldOf Try.prog 14 0 = some (0, 9) := by kernel_rfl
theorem fld14_1 : fldOf Try.prog 14 1 = some (1, 12) := by kernel_rfl
theorem bld14 : buildT Try.prog 14 = some ([.str [], .u64 0#64], .inl [(0, 1), (1, 1)]) := by kernel_rfl
theorem sz15 : szOf Try.prog 15 = some 1 := by kernel_rfl
theorem by15 : byOf Try.prog 15 = some 8 := by kernel_rfl
theorem zero15 : zeroOf Try.prog 15 = some [.nilPtr] := by kernel_rfl
theorem row15 : isRowT Try.prog 15 = some false := by kernel_rfl
theorem sz16 : szOf Try.prog 16 = some 1 := by kernel_rfl
theorem by16 : byOf Try.prog 16 = some 8 := by kernel_rfl
theorem zero16 : zeroOf Try.prog 16 = some [.nilPtr] := by kernel_rfl
theorem row16 : isRowT Try.prog 16 = some false := by kernel_rfl
theorem sz17 : szOf Try.prog 17 = some 1 := by kernel_rfl
theorem by17 : byOf Try.prog 17 = some 8 := by kernel_rfl
theorem zero17 : zeroOf Try.prog 17 = some [.nilPtr] := by kernel_rfl
theorem row17 : isRowT Try.prog 17 = some false := by kernel_rfl
theorem sz18 : szOf Try.prog 18 = some 1 := by kernel_rfl
theorem by18 : byOf Try.prog 18 = some 8 := by kernel_rfl
theorem zero18 : zeroOf Try.prog 18 = some [.nilPtr] := by kernel_rfl
theorem row18 : isRowT Try.prog 18 = some true := by kernel_rfl
theorem fld18_0 : fldOf Try.prog 18 0 = some (0, 17) := by kernel_rfl
theorem bld18 : buildT Try.prog 18 = some ([.nilPtr], .inl [(0, 1)]) := by kernel_rfl
theorem sz19 : szOf Try.prog 19 = some 1 := by kernel_rfl
theorem by19 : byOf Try.prog 19 = some 8 := by kernel_rfl
theorem zero19 : zeroOf Try.prog 19 = some [.nilPtr] := by kernel_rfl
theorem row19 : isRowT Try.prog 19 = some true := by kernel_rfl
theorem fld19_0 : fldOf Try.prog 19 0 = some (0, 17) := by kernel_rfl
theorem bld19 : buildT Try.prog 19 = some ([.nilPtr], .inl [(0, 1)]) := by kernel_rfl
theorem sz20 : szOf Try.prog 20 = some 1 := by kernel_rfl
theorem by20 : byOf Try.prog 20 = some 16 := by kernel_rfl
theorem zero20 : zeroOf Try.prog 20 = some [.nilIface] := by kernel_rfl
theorem row20 : isRowT Try.prog 20 = some false := by kernel_rfl
theorem sz21 : szOf Try.prog 21 = some 1 := by kernel_rfl
theorem by21 : byOf Try.prog 21 = some 4 := by kernel_rfl
theorem zero21 : zeroOf Try.prog 21 = some [.i32 0] := by kernel_rfl
theorem row21 : isRowT Try.prog 21 = some false := by kernel_rfl
theorem sz22 : szOf Try.prog 22 = some 1 := by kernel_rfl
theorem by22 : byOf Try.prog 22 = some 24 := by kernel_rfl
theorem zero22 : zeroOf Try.prog 22 = some [.nilSlice] := by kernel_rfl
theorem row22 : isRowT Try.prog 22 = some false := by kernel_rfl
theorem slc22 : sliceT Try.prog 22 = some 34 := by kernel_rfl
theorem sz23 : szOf Try.prog 23 = some 1 := by kernel_rfl
theorem by23 : byOf Try.prog 23 = some 8 := by kernel_rfl
theorem zero23 : zeroOf Try.prog 23 = some [.nilPtr] := by kernel_rfl
theorem row23 : isRowT Try.prog 23 = some false := by kernel_rfl
theorem sz24 : szOf Try.prog 24 = some 1 := by kernel_rfl
theorem by24 : byOf Try.prog 24 = some 8 := by kernel_rfl
theorem zero24 : zeroOf Try.prog 24 = some [.nilFn] := by kernel_rfl
theorem row24 : isRowT Try.prog 24 = some false := by kernel_rfl
theorem sz25 : szOf Try.prog 25 = some 1 := by kernel_rfl
theorem by25 : byOf Try.prog 25 = some 8 := by kernel_rfl
theorem zero25 : zeroOf Try.prog 25 = some [.nilPtr] := by kernel_rfl
theorem row25 : isRowT Try.prog 25 = some false := by kernel_rfl
theorem sz26 : szOf Try.prog 26 = some 1 := by kernel_rfl
theorem by26 : byOf Try.prog 26 = some 24 := by kernel_rfl
theorem zero26 : zeroOf Try.prog 26 = some [.nilSlice] := by kernel_rfl
theorem row26 : isRowT Try.prog 26 = some false := by kernel_rfl
theorem slc26 : sliceT Try.prog 26 = some 30 := by kernel_rfl
theorem sz27 : szOf Try.prog 27 = some 1 := by kernel_rfl
theorem by27 : byOf Try.prog 27 = some 24 := by kernel_rfl
theorem zero27 : zeroOf Try.prog 27 = some [.nilSlice] := by kernel_rfl
theorem row27 : isRowT Try.prog 27 = some false := by kernel_rfl
theorem slc27 : sliceT Try.prog 27 = some 3 := by kernel_rfl
theorem sz28 : szOf Try.prog 28 = some 3 := by kernel_rfl
theorem by28 : byOf Try.prog 28 = some 56 := by kernel_rfl
theorem zero28 : zeroOf Try.prog 28 = some [.i64 0, .nilSlice, .nilSlice] := by kernel_rfl
theorem row28 : isRowT Try.prog 28 = some true := by kernel_rfl
theorem fld28_0 : fldOf Try.prog 28 0 = some (0, 3) := by kernel_rfl
theorem fld28_1 : fldOf Try.prog 28 1 = some (1, 26) := by kernel_rfl
theorem fld28_2 : fldOf Try.prog 28 2 = some (2, 27) := by kernel_rfl
theorem bld28 : buildT Try.prog 28 = some ([.i64 0, .nilSlice, .nilSlice], .inl [(0, 1), (1, 1), (2, 1)]) := by kernel_rfl
theorem sz29 : szOf Try.prog 29 = some 3 := by kernel_rfl
theorem by29 : byOf Try.prog 29 = some 56 := by kernel_rfl
theorem zero29 : zeroOf Try.prog 29 = some [.i64 0, .nilSlice, .nilSlice] := by kernel_rfl
theorem row29 : isRowT Try.prog 29 = some true := by kernel_rfl
theorem fld29_0 : fldOf Try.prog 29 0 = some (0, 3) := by kernel_rfl
theorem fld29_1 : fldOf Try.prog 29 1 = some (1, 26) := by kernel_rfl
theorem fld29_2 : fldOf Try.prog 29 2 = some (2, 27) := by kernel_rfl
theorem bld29 : buildT Try.prog 29 = some ([.i64 0, .nilSlice, .nilSlice], .inl [(0, 1), (1, 1), (2, 1)]) := by kernel_rfl
theorem sz30 : szOf Try.prog 30 = some 1 := by kernel_rfl
theorem by30 : byOf Try.prog 30 = some 4 := by kernel_rfl
theorem zero30 : zeroOf Try.prog 30 = some [.u32 0#32] := by kernel_rfl
theorem row30 : isRowT Try.prog 30 = some false := by kernel_rfl
theorem sz31 : szOf Try.prog 31 = some 2 := by kernel_rfl
theorem by31 : byOf Try.prog 31 = some 16 := by kernel_rfl
theorem zero31 : zeroOf Try.prog 31 = some [.u32 0#32, .i64 0] := by kernel_rfl
theorem row31 : isRowT Try.prog 31 = some true := by kernel_rfl
theorem fld31_0 : fldOf Try.prog 31 0 = some (0, 30) := by kernel_rfl
theorem fld31_1 : fldOf Try.prog 31 1 = some (1, 3) := by kernel_rfl
theorem bld31 : buildT Try.prog 31 = some ([.u32 0#32, .i64 0], .inl [(0, 1), (1, 1)]) := by kernel_rfl
theorem sz32 : szOf Try.prog 32 = some 2 := by kernel_rfl
theorem by32 : byOf Try.prog 32 = some 16 := by kernel_rfl
theorem zero32 : zeroOf Try.prog 32 = some [.u32 0#32, .i64 0] := by kernel_rfl
theorem row32 : isRowT Try.prog 32 = some true := by kernel_rfl
theorem fld32_0 : fldOf Try.prog 32 0 = some (0, 30) := by kernel_rfl
theorem fld32_1 : fldOf Try.prog 32 1 = some (1, 3) := by kernel_rfl
theorem bld32 : buildT Try.prog 32 = some ([.u32 0#32, .i64 0], .inl [(0, 1), (1, 1)]) := by kernel_rfl
theorem sz33 : szOf Try.prog 33 = some 8 := by kernel_rfl
theorem by33 : byOf Try.prog 33 = some 64 := by kernel_rfl
theorem zero33 : zeroOf Try.prog 33 = some [.i64 0, .i64 0, .i64 0, .u32 0#32, .u32 0#32, .str [], .u32 0#32, .i64 0] := by kernel_rfl
theorem row33 : isRowT Try.prog 33 = some true := by kernel_rfl
theorem fld33_0 : fldOf Try.prog 33 0 = some (0, 3) := by kernel_rfl
theorem fld33_1 : fldOf Try.prog 33 1 = some (1, 3) := by kernel_rfl
theorem fld33_2 : fldOf Try.prog 33 2 = some (2, 3) := by kernel_rfl
theorem fld33_3 : fldOf Try.prog 33 3 = some (3, 30) := by kernel_rfl
theorem fld33_4 : fldOf Try.prog 33 4 = some (4, 30) := by kernel_rfl
theorem fld33_5 : fldOf Try.prog 33 5 = some (5, 9) := by kernel_rfl
theorem fld33_6 : fldOf Try.prog 33 6 = some (6, 32) := by kernel_rfl
theorem bld33 : buildT Try.prog 33 = some ([.i64 0, .i64 0, .i64 0, .u32 0#32, .u32 0#32, .str [], .u32 0#32, .i64 0], .inl [(0, 1), (1, 1), (2, 1), (3, 1), (4, 1), (5, 1), (6, 2)]) := by kernel_rfl
theorem sz34 : szOf Try.prog 34 = some 8 := by kernel_rfl
theorem by34 : byOf Try.prog 34 = some 64 := by kernel_rfl
theorem zero34 : zeroOf Try.prog 34 = some [.i64 0, .i64 0, .i64 0, .u32 0#32, .u32 0#32, .str [], .u32 0#32, .i64 0] := by kernel_rfl
theorem row34 : isRowT Try.prog 34 = some true := by kernel_rfl
theorem fld34_0 : fldOf Try.prog 34 0 = some (0, 3) := by kernel_rfl
theorem fld34_1 : fldOf Try.prog 34 1 = some (1, 3) := by kernel_rfl
theorem fld34_2 : fldOf Try.prog 34 2 = some (2, 3) := by kernel_rfl
theorem fld34_3 : fldOf Try.prog 34 3 = some (3, 30) := by kernel_rfl
theorem fld34_4 : fldOf Try.prog 34 4 = some (4, 30) := by kernel_rfl
theorem fld34_5 : fldOf Try.prog 34 5 = some (5, 9) := by kernel_rfl
theorem fld34_6 : fldOf Try.prog 34 6 = some (6, 32) := by kernel_rfl
theorem bld34 : buildT Try.prog 34 = some ([.i64 0, .i64 0, .i64 0, .u32 0#32, .u32 0#32, .str [], .u32 0#32, .i64 0], .inl [(0, 1), (1, 1), (2, 1), (3, 1), (4, 1), (5, 1), (6, 2)]) := by kernel_rfl
theorem sz35 : szOf Try.prog 35 = some 1 := by kernel_rfl
theorem by35 : byOf Try.prog 35 = some 8 := by kernel_rfl
theorem zero35 : zeroOf Try.prog 35 = some [.i64 0] := by kernel_rfl
theorem row35 : isRowT Try.prog 35 = some false := by kernel_rfl
theorem sz36 : szOf Try.prog 36 = some 1 := by kernel_rfl
theorem by36 : byOf Try.prog 36 = some 8 := by kernel_rfl
theorem zero36 : zeroOf Try.prog 36 = some [.nilFn] := by kernel_rfl
theorem row36 : isRowT Try.prog 36 = some false := by kernel_rfl
theorem sz37 : szOf Try.prog 37 = some 1 := by kernel_rfl
theorem by37 : byOf Try.prog 37 = some 8 := by kernel_rfl
theorem zero37 : zeroOf Try.prog 37 = some [.nilFn] := by kernel_rfl
theorem row37 : isRowT Try.prog 37 = some false := by kernel_rfl
theorem sz38 : szOf Try.prog 38 = some 1 := by kernel_rfl
theorem by38 : byOf Try.prog 38 = some 8 := by kernel_rfl
theorem zero38 : zeroOf Try.prog 38 = some [.nilFn] := by kernel_rfl
theorem row38 : isRowT Try.prog 38 = some false := by kernel_rfl
theorem sz39 : szOf Try.prog 39 = some 1 := by kernel_rfl
theorem by39 : byOf Try.prog 39 = some 8 := by kernel_rfl
theorem zero39 : zeroOf Try.prog 39 = some [.nilPtr] := by kernel_rfl
theorem row39 : isRowT Try.prog 39 = some false := by kernel_rfl
theorem sz40 : szOf Try.prog 40 = some 1 := by kernel_rfl
theorem by40 : byOf Try.prog 40 = some 8 := by kernel_rfl
theorem zero40 : zeroOf Try.prog 40 = some [.nilFn] := by kernel_rfl
theorem row40 : isRowT Try.prog 40 = some false := by kernel_rfl
theorem sz41 : szOf Try.prog 41 = some 1 := by kernel_rfl
theorem by41 : byOf Try.prog 41 = some 8 := by kernel_rfl
theorem zero41 : zeroOf Try.prog 41 = some [.nilPtr] := by kernel_rfl
theorem row41 : isRowT Try.prog 41 = some false := by kernel_rfl
theorem sz42 : szOf Try.prog 42 = some 1 := by kernel_rfl
theorem by42 : byOf Try.prog 42 = some 24 := by kernel_rfl
theorem zero42 : zeroOf Try.prog 42 = some [.nilSlice] := by kernel_rfl
theorem row42 : isRowT Try.prog 42 = some false := by kernel_rfl
theorem slc42 : sliceT Try.prog 42 = some 51 := by kernel_rfl
theorem sz43 : szOf Try.prog 43 = some 1 := by kernel_rfl
theorem by43 : byOf Try.prog 43 = some 24 := by kernel_rfl
theorem zero43 : zeroOf Try.prog 43 = some [.nilSlice] := by kernel_rfl
theorem row43 : isRowT Try.prog 43 = some true := by kernel_rfl
theorem fld43_0 : fldOf Try.prog 43 0 = some (0, 42) := by kernel_rfl
theorem bld43 : buildT Try.prog 43 = some ([.nilSlice], .inl [(0, 1)]) := by kernel_rfl
theorem sz44 : szOf Try.prog 44 = some 1 := by kernel_rfl
theorem by44 : byOf Try.prog 44 = some 24 := by kernel_rfl
theorem zero44 : zeroOf Try.prog 44 = some [.nilSlice] := by kernel_rfl
theorem row44 : isRowT Try.prog 44 = some true := by kernel_rfl
theorem fld44_0 : fldOf Try.prog 44 0 = some (0, 42) := by kernel_rfl
theorem bld44 : buildT Try.prog 44 = some ([.nilSlice], .inl [(0, 1)]) := by kernel_rfl
theorem sz45 : szOf Try.prog 45 = some 1 := by kernel_rfl
theorem by45 : byOf Try.prog 45 = some 8 := by kernel_rfl
theorem zero45 : zeroOf Try.prog 45 = some [.nilFn] := by kernel_rfl
theorem row45 : isRowT Try.prog 45 = some false := by kernel_rfl
theorem sz46 : szOf Try.prog 46 = some 1 := by kernel_rfl
theorem by46 : byOf Try.prog 46 = some 8 := by kernel_rfl
theorem zero46 : zeroOf Try.prog 46 = some [.nilFn] := by kernel_rfl
theorem row46 : isRowT Try.prog 46 = some false := by kernel_rfl
theorem sz48 : szOf Try.prog 48 = some 1 := by kernel_rfl
theorem by48 : byOf Try.prog 48 = some 8 := by kernel_rfl
theorem zero48 : zeroOf Try.prog 48 = some [.nilFn] := by kernel_rfl
theorem row48 : isRowT Try.prog 48 = some false := by kernel_rfl
theorem sz49 : szOf Try.prog 49 = some 1 := by kernel_rfl
theorem by49 : byOf Try.prog 49 = some 8 := by kernel_rfl
theorem zero49 : zeroOf Try.prog 49 = some [.nilFn] := by kernel_rfl
theorem row49 : isRowT Try.prog 49 = some false := by kernel_rfl
theorem sz50 : szOf Try.prog 50 = some 3 := by kernel_rfl
theorem by50 : byOf Try.prog 50 = some 24 := by kernel_rfl
theorem zero50 : zeroOf Try.prog 50 = some [.u32 0#32, .i64 0, .i64 0] := by kernel_rfl
theorem row50 : isRowT Try.prog 50 = some true := by kernel_rfl
theorem fld50_0 : fldOf Try.prog 50 0 = some (0, 32) := by kernel_rfl
theorem fld50_1 : fldOf Try.prog 50 1 = some (2, 3) := by kernel_rfl
theorem bld50 : buildT Try.prog 50 = some ([.u32 0#32, .i64 0, .i64 0], .inl [(0, 2), (2, 1)]) := by kernel_rfl
theorem sz51 : szOf Try.prog 51 = some 3 := by kernel_rfl
theorem by51 : byOf Try.prog 51 = some 24 := by kernel_rfl
theorem zero51 : zeroOf Try.prog 51 = some [.u32 0#32, .i64 0, .i64 0] := by kernel_rfl
theorem row51 : isRowT Try.prog 51 = some true := by kernel_rfl
theorem fld51_0 : fldOf Try.prog 51 0 = some (0, 32) := by kernel_rfl
theorem fld51_1 : fldOf Try.prog 51 1 = some (2, 3) := by kernel_rfl
theorem bld51 : buildT Try.prog 51 = some ([.u32 0#32, .i64 0, .i64 0], .inl [(0, 2), (2, 1)]) := by kernel_rfl
theorem sz52 : szOf Try.prog 52 = some 1 := by kernel_rfl
theorem by52 : byOf Try.prog 52 = some 8 := by kernel_rfl
theorem zero52 : zeroOf Try.prog 52 = some [.nilFn] := by kernel_rfl
theorem row52 : isRowT Try.prog 52 = some false := by kernel_rfl
theorem sz53 : szOf Try.prog 53 = some 1 := by kernel_rfl
theorem by53 : byOf Try.prog 53 = some 8 := by kernel_rfl
theorem zero53 : zeroOf Try.prog 53 = some [.nilFn] := by kernel_rfl
theorem row53 : isRowT Try.prog 53 = some false := by kernel_rfl
theorem sz55 : szOf Try.prog 55 = some 2 := by kernel_rfl
theorem by55 : byOf Try.prog 55 = some 16 := by kernel_rfl
theorem zero55 : zeroOf Try.prog 55 = some [.i64 0, .junk] := by kernel_rfl
theorem row55 : isRowT Try.prog 55 = some true := by kernel_rfl
theorem fld55_0 : fldOf Try.prog 55 0 = some (0, 3) := by kernel_rfl
theorem fld55_1 : fldOf Try.prog 55 1 = some (1, 54) := by kernel_rfl
theorem bld55 : buildT Try.prog 55 = some ([.i64 0, .junk], .inl [(0, 1), (1, 1)]) := by kernel_rfl
theorem sz56 : szOf Try.prog 56 = some 2 := by kernel_rfl
theorem by56 : byOf Try.prog 56 = some 16 := by kernel_rfl
theorem zero56 : zeroOf Try.prog 56 = some [.i64 0, .junk] := by kernel_rfl
theorem row56 : isRowT Try.prog 56 = some true := by kernel_rfl
theorem fld56_0 : fldOf Try.prog 56 0 = some (0, 3) := by kernel_rfl
theorem fld56_1 : fldOf Try.prog 56 1 = some (1, 54) := by kernel_rfl
theorem bld56 : buildT Try.prog 56 = some ([.i64 0, .junk], .inl [(0, 1), (1, 1)]) := by kernel_rfl
theorem sz57 : szOf Try.prog 57 = some 1 := by kernel_rfl
theorem by57 : byOf Try.prog 57 = some 8 := by kernel_rfl
theorem zero57 : zeroOf Try.prog 57 = some [.nilFn] := by kernel_rfl
theorem row57 : isRowT Try.prog 57 = some false := by kernel_rfl
theorem sz58 : szOf Try.prog 58 = some 1 := by kernel_rfl
theorem by58 : byOf Try.prog 58 = some 8 := by kernel_rfl
theorem zero58 : zeroOf Try.prog 58 = some [.nilFn] := by kernel_rfl
theorem row58 : isRowT Try.prog 58 = some false := by kernel_rfl
theorem sz59 : szOf Try.prog 59 = some 1 := by kernel_rfl
theorem by59 : byOf Try.prog 59 = some 8 := by kernel_rfl
theorem zero59 : zeroOf Try.prog 59 = some [.nilPtr] := by kernel_rfl
theorem row59 : isRowT Try.prog 59 = some false := by kernel_rfl
theorem sz60 : szOf Try.prog 60 = some 2 := by kernel_rfl
theorem by60 : byOf Try.prog 60 = some 16 := by kernel_rfl
theorem zero60 : zeroOf Try.prog 60 = some [.nilPtr, .nilPtr] := by kernel_rfl
theorem row60 : isRowT Try.prog 60 = some true := by kernel_rfl
theorem arr60 : arrT Try.prog 60 = some (2, 59) := by kernel_rfl
theorem bld60 : buildT Try.prog 60 = some ([.nilPtr, .nilPtr], .inr 1) := by kernel_rfl
theorem sz61 : szOf Try.prog 61 = some 4 := by kernel_rfl
theorem by61 : byOf Try.prog 61 = some 32 := by kernel_rfl
theorem zero61 : zeroOf Try.prog 61 = some [.nilPtr, .nilPtr, .bool false, .i64 0] := by kernel_rfl
theorem row61 : isRowT Try.prog 61 = some true := by kernel_rfl
theorem fld61_0 : fldOf Try.prog 61 0 = some (0, 60) := by kernel_rfl
theorem fld61_1 : fldOf Try.prog 61 1 = some (2, 4) := by kernel_rfl
theorem fld61_2 : fldOf Try.prog 61 2 = some (3, 3) := by kernel_rfl
theorem bld61 : buildT Try.prog 61 = some ([.nilPtr, .nilPtr, .bool false, .i64 0], .inl [(0, 2), (2, 1), (3, 1)]) := by kernel_rfl
theorem sz62 : szOf Try.prog 62 = some 4 := by kernel_rfl
theorem by62 : byOf Try.prog 62 = some 32 := by kernel_rfl
theorem zero62 : zeroOf Try.prog 62 = some [.nilPtr, .nilPtr, .bool false, .i64 0] := by kernel_rfl
theorem row62 : isRowT Try.prog 62 = some true := by kernel_rfl
theorem fld62_0 : fldOf Try.prog 62 0 = some (0, 60) := by kernel_rfl
theorem fld62_1 : fldOf Try.prog 62 1 = some (2, 4) := by kernel_rfl
theorem fld62_2 : fldOf Try.prog 62 2 = some (3, 3) := by kernel_rfl
theorem bld62 : buildT Try.prog 62 = some ([.nilPtr, .nilPtr, .bool false, .i64 0], .inl [(0, 2), (2, 1), (3, 1)]) := by kernel_rfl
theorem sz63 : szOf Try.prog 63 = some 5 := by kernel_rfl
theorem by63 : byOf Try.prog 63 = some 40 := by kernel_rfl
theorem zero63 : zeroOf Try.prog 63 = some [.nilPtr, .nilPtr, .bool false, .i64 0, .i64 0] := by kernel_rfl
theorem row63 : isRowT Try.prog 63 = some true := by kernel_rfl
theorem fld63_0 : fldOf Try.prog 63 0 = some (0, 62) := by kernel_rfl
theorem fld63_1 : fldOf Try.prog 63 1 = some (4, 3) := by kernel_rfl
theorem bld63 : buildT Try.prog 63 = some ([.nilPtr, .nilPtr, .bool false, .i64 0, .i64 0], .inl [(0, 4), (4, 1)]) := by kernel_rfl
theorem sz64 : szOf Try.prog 64 = some 5 := by kernel_rfl
theorem by64 : byOf Try.prog 64 = some 40 := by kernel_rfl
theorem zero64 : zeroOf Try.prog 64 = some [.nilPtr, .nilPtr, .bool false, .i64 0, .i64 0] := by kernel_rfl
theorem row64 : isRowT Try.prog 64 = some true := by kernel_rfl
theorem fld64_0 : fldOf Try.prog 64 0 = some (0, 62) := by kernel_rfl
theorem fld64_1 : fldOf Try.prog 64 1 = some (4, 3) := by kernel_rfl
theorem bld64 : buildT Try.prog 64 = some ([.nilPtr, .nilPtr, .bool false, .i64 0, .i64 0], .inl [(0, 4), (4, 1)]) := by kernel_rfl
theorem sz65 : szOf Try.prog 65 = some 1 := by kernel_rfl
theorem by65 : byOf Try.prog 65 = some 8 := by kernel_rfl
theorem zero65 : zeroOf Try.prog 65 = some [.nilFn] := by kernel_rfl
theorem row65 : isRowT Try.prog 65 = some false := by kernel_rfl
theorem sz66 : szOf Try.prog 66 = some 1 := by kernel_rfl
theorem by66 : byOf Try.prog 66 = some 8 := by kernel_rfl
theorem zero66 : zeroOf Try.prog 66 = some [.nilFn] := by kernel_rfl
theorem row66 : isRowT Try.prog 66 = some false := by kernel_rfl
theorem sz67 : szOf Try.prog 67 = some 1 := by kernel_rfl
theorem by67 : byOf Try.prog 67 = some 8 := by kernel_rfl
theorem zero67 : zeroOf Try.prog 67 = some [.nilFn] := by kernel_rfl
theorem row67 : isRowT Try.prog 67 = some false := by kernel_rfl
theorem sz68 : szOf Try.prog 68 = some 1 := by kernel_rfl
theorem by68 : byOf Try.prog 68 = some 8 := by kernel_rfl
theorem zero68 : zeroOf Try.prog 68 = some [.nilFn] := by kernel_rfl
theorem row68 : isRowT Try.prog 68 = some false := by kernel_rfl
theorem sz69 : szOf Try.prog 69 = some 1 := by kernel_rfl
theorem by69 : byOf Try.prog 69 = some 8 := by kernel_rfl
theorem zero69 : zeroOf Try.prog 69 = some [.u64 0#64] := by kernel_rfl
theorem row69 : isRowT Try.prog 69 = some false := by kernel_rfl
theorem sz70 : szOf Try.prog 70 = some 1 := by kernel_rfl
theorem by70 : byOf Try.prog 70 = some 8 := by kernel_rfl
theorem zero70 : zeroOf Try.prog 70 = some [.nilFn] := by kernel_rfl
theorem row70 : isRowT Try.prog 70 = some false := by kernel_rfl
theorem sz71 : szOf Try.prog 71 = some 1 := by kernel_rfl
theorem by71 : byOf Try.prog 71 = some 8 := by kernel_rfl
theorem zero71 : zeroOf Try.prog 71 = some [.nilFn] := by kernel_rfl
theorem row71 : isRowT Try.prog 71 = some false := by kernel_rfl
theorem sz72 : szOf Try.prog 72 = some 1 := by kernel_rfl
theorem by72 : byOf Try.prog 72 = some 8 := by kernel_rfl
theorem zero72 : zeroOf Try.prog 72 = some [.nilFn] := by kernel_rfl
theorem row72 : isRowT Try.prog 72 = some false := by kernel_rfl
theorem sz73 : szOf Try.prog 73 = some 1 := by kernel_rfl
theorem by73 : byOf Try.prog 73 = some 8 := by kernel_rfl
theorem zero73 : zeroOf Try.prog 73 = some [.nilFn] := by kernel_rfl
theorem row73 : isRowT Try.prog 73 = some false := by kernel_rfl
theorem sz74 : szOf Try.prog 74 = some 1 := by kernel_rfl
theorem by74 : byOf Try.prog 74 = some 8 := by kernel_rfl
theorem zero74 : zeroOf Try.prog 74 = some [.nilFn] := by kernel_rfl
theorem row74 : isRowT Try.prog 74 = some false := by kernel_rfl
theorem sz75 : szOf Try.prog 75 = some 4 := by kernel_rfl
theorem by75 : byOf Try.prog 75 = some 40 := by kernel_rfl
theorem zero75 : zeroOf Try.prog 75 = some [.nilPtr, .nilPtr, .nilPtr, .str []] := by kernel_rfl
theorem row75 : isRowT Try.prog 75 = some true := by kernel_rfl
theorem fld75_0 : fldOf Try.prog 75 0 = some (0, 17) := by kernel_rfl
theorem fld75_1 : fldOf Try.prog 75 1 = some (1, 17) := by kernel_rfl
theorem fld75_2 : fldOf Try.prog 75 2 = some (2, 17) := by kernel_rfl
theorem fld75_3 : fldOf Try.prog 75 3 = some (3, 9) := by kernel_rfl
theorem bld75 : buildT Try.prog 75 = some ([.nilPtr, .nilPtr, .nilPtr, .str []], .inl [(0, 1), (1, 1), (2, 1), (3, 1)]) := by kernel_rfl
theorem sz76 : szOf Try.prog 76 = some 4 := by kernel_rfl
theorem by76 : byOf Try.prog 76 = some 40 := by kernel_rfl
theorem zero76 : zeroOf Try.prog 76 = some [.nilPtr, .nilPtr, .nilPtr, .str []] := by kernel_rfl
theorem row76 : isRowT Try.prog 76 = some true := by kernel_rfl
theorem fld76_0 : fldOf Try.prog 76 0 = some (0, 17) := by kernel_rfl
theorem fld76_1 : fldOf Try.prog 76 1 = some (1, 17) := by kernel_rfl
theorem fld76_2 : fldOf Try.prog 76 2 = some (2, 17) := by kernel_rfl
theorem fld76_3 : fldOf Try.prog 76 3 = some (3, 9) := by kernel_rfl
theorem bld76 : buildT Try.prog 76 = some ([.nilPtr, .nilPtr, .nilPtr, .str []], .inl [(0, 1), (1, 1), (2, 1), (3, 1)]) := by kernel_rfl
theorem sz77 : szOf Try.prog 77 = some 0 := by kernel_rfl
theorem by77 : byOf Try.prog 77 = some 0 := by kernel_rfl
theorem zero77 : zeroOf Try.prog 77 = some [] := by kernel_rfl
theorem row77 : isRowT Try.prog 77 = some true := by kernel_rfl
theorem arr77 : arrT Try.prog 77 = some (0, 16) := by kernel_rfl
theorem bld77 : buildT Try.prog 77 = some ([], .inr 1) := by kernel_rfl
theorem sz78 : szOf Try.prog 78 = some 0 := by kernel_rfl
theorem by78 : byOf Try.prog 78 = some 0 := by kernel_rfl
theorem zero78 : zeroOf Try.prog 78 = some [] := by kernel_rfl
theorem row78 : isRowT Try.prog 78 = some true := by kernel_rfl
theorem fld78_0 : fldOf Try.prog 78 0 = some (0, 77) := by kernel_rfl
theorem bld78 : buildT Try.prog 78 = some ([], .inl [(0, 0)]) := by kernel_rfl
theorem sz79 : szOf Try.prog 79 = some 0 := by kernel_rfl
theorem by79 : byOf Try.prog 79 = some 0 := by kernel_rfl
theorem zero79 : zeroOf Try.prog 79 = some [] := by kernel_rfl
theorem row79 : isRowT Try.prog 79 = some true := by kernel_rfl
theorem fld79_0 : fldOf Try.prog 79 0 = some (0, 77) := by kernel_rfl
theorem bld79 : buildT Try.prog 79 = some ([], .inl [(0, 0)]) := by kernel_rfl
theorem sz80 : szOf Try.prog 80 = some 1 := by kernel_rfl
theorem by80 : byOf Try.prog 80 = some 8 := by kernel_rfl
theorem zero80 : zeroOf Try.prog 80 = some [.nilFn] := by kernel_rfl
theorem row80 : isRowT Try.prog 80 = some false := by kernel_rfl
theorem sz81 : szOf Try.prog 81 = some 1 := by kernel_rfl
theorem by81 : byOf Try.prog 81 = some 1 := by kernel_rfl
theorem zero81 : zeroOf Try.prog 81 = some [.u8 0#8] := by kernel_rfl
theorem row81 : isRowT Try.prog 81 = some false := by kernel_rfl
theorem sz82 : szOf Try.prog 82 = some 1 := by kernel_rfl
theorem by82 : byOf Try.prog 82 = some 1 := by kernel_rfl
theorem zero82 : zeroOf Try.prog 82 = some [.u8 0#8] := by kernel_rfl
theorem row82 : isRowT Try.prog 82 = some false := by kernel_rfl
theorem sz83 : szOf Try.prog 83 = some 1 := by kernel_rfl
theorem by83 : byOf Try.prog 83 = some 8 := by kernel_rfl
theorem zero83 : zeroOf Try.prog 83 = some [.nilFn] := by kernel_rfl
theorem row83 : isRowT Try.prog 83 = some false := by kernel_rfl
theorem sz84 : szOf Try.prog 84 = some 1 := by kernel_rfl
theorem by84 : byOf Try.prog 84 = some 8 := by kernel_rfl
theorem zero84 : zeroOf Try.prog 84 = some [.nilPtr] := by kernel_rfl
theorem row84 : isRowT Try.prog 84 = some false := by kernel_rfl
theorem sz85 : szOf Try.prog 85 = some 1 := by kernel_rfl
theorem by85 : byOf Try.prog 85 = some 4 := by kernel_rfl
theorem zero85 : zeroOf Try.prog 85 = some [.i32 0] := by kernel_rfl
theorem row85 : isRowT Try.prog 85 = some false := by kernel_rfl
theorem sz86 : szOf Try.prog 86 = some 1 := by kernel_rfl
theorem by86 : byOf Try.prog 86 = some 4 := by kernel_rfl
theorem zero86 : zeroOf Try.prog 86 = some [.i32 0] := by kernel_rfl
theorem row86 : isRowT Try.prog 86 = some false := by kernel_rfl
theorem sz87 : szOf Try.prog 87 = some 11 := by kernel_rfl
theorem by87 : byOf Try.prog 87 = some 48 := by kernel_rfl
theorem zero87 : zeroOf Try.prog 87 = some [.u64 0#64, .u64 0#64, .u32 0#32, .u8 0#8, .u8 0#8, .u8 0#8, .u8 0#8, .nilFn, .nilPtr, .i32 0, .i32 0] := by kernel_rfl
theorem row87 : isRowT Try.prog 87 = some true := by kernel_rfl
theorem fld87_0 : fldOf Try.prog 87 0 = some (0, 12) := by kernel_rfl
theorem fld87_1 : fldOf Try.prog 87 1 = some (1, 12) := by kernel_rfl
theorem fld87_2 : fldOf Try.prog 87 2 = some (2, 30) := by kernel_rfl
theorem fld87_3 : fldOf Try.prog 87 3 = some (3, 81) := by kernel_rfl
theorem fld87_4 : fldOf Try.prog 87 4 = some (4, 5) := by kernel_rfl
theorem fld87_5 : fldOf Try.prog 87 5 = some (5, 5) := by kernel_rfl
theorem fld87_6 : fldOf Try.prog 87 6 = some (6, 82) := by kernel_rfl
theorem fld87_7 : fldOf Try.prog 87 7 = some (7, 83) := by kernel_rfl
theorem fld87_8 : fldOf Try.prog 87 8 = some (8, 84) := by kernel_rfl
theorem fld87_9 : fldOf Try.prog 87 9 = some (9, 85) := by kernel_rfl
theorem fld87_10 : fldOf Try.prog 87 10 = some (10, 86) := by kernel_rfl
theorem bld87 : buildT Try.prog 87 = some ([.u64 0#64, .u64 0#64, .u32 0#32, .u8 0#8, .u8 0#8, .u8 0#8, .u8 0#8, .nilFn, .nilPtr, .i32 0, .i32 0], .inl [(0, 1), (1, 1), (2, 1), (3, 1), (4, 1), (5, 1), (6, 1), (7, 1), (8, 1), (9, 1), (10, 1)]) := by kernel_rfl
theorem sz88 : szOf Try.prog 88 = some 11 := by kernel_rfl
theorem by88 : byOf Try.prog 88 = some 48 := by kernel_rfl
theorem zero88 : zeroOf Try.prog 88 = some [.u64 0#64, .u64 0#64, .u32 0#32, .u8 0#8, .u8 0#8, .u8 0#8, .u8 0#8, .nilFn, .nilPtr, .i32 0, .i32 0] := by kernel_rfl
theorem row88 : isRowT Try.prog 88 = some true := by kernel_rfl
theorem fld88_0 : fldOf Try.prog 88 0 = some (0, 12) := by kernel_rfl
theorem fld88_1 : fldOf Try.prog 88 1 = some (1, 12) := by kernel_rfl
theorem fld88_2 : fldOf Try.prog 88 2 = some (2, 30) := by kernel_rfl
theorem fld88_3 : fldOf Try.prog 88 3 = some (3, 81) := by kernel_rfl
theorem fld88_4 : fldOf Try.prog 88 4 = some (4, 5) := by kernel_rfl
theorem fld88_5 : fldOf Try.prog 88 5 = some (5, 5) := by kernel_rfl
theorem fld88_6 : fldOf Try.prog 88 6 = some (6, 82) := by kernel_rfl
theorem fld88_7 : fldOf Try.prog 88 7 = some (7, 83) := by kernel_rfl
theorem fld88_8 : fldOf Try.prog 88 8 = some (8, 84) := by kernel_rfl
theorem fld88_9 : fldOf Try.prog 88 9 = some (9, 85) := by kernel_rfl
theorem fld88_10 : fldOf Try.prog 88 10 = some (10, 86) := by kernel_rfl
theorem bld88 : buildT Try.prog 88 = some ([.u64 0#64, .u64 0#64, .u32 0#32, .u8 0#8, .u8 0#8, .u8 0#8, .u8 0#8, .nilFn, .nilPtr, .i32 0, .i32 0], .inl [(0, 1), (1, 1), (2, 1), (3, 1), (4, 1), (5, 1), (6, 1), (7, 1), (8, 1), (9, 1), (10, 1)]) := by kernel_rfl
theorem sz89 : szOf Try.prog 89 = some 1 := by kernel_rfl
theorem by89 : byOf Try.prog 89 = some 8 := by kernel_rfl
theorem zero89 : zeroOf Try.prog 89 = some [.nilPtr] := by kernel_rfl
theorem row89 : isRowT Try.prog 89 = some false := by kernel_rfl
theorem agt31 : aggTypes Try.prog 31 = some [30, 3] := by kernel_rfl
theorem agt32 : aggTypes Try.prog 32 = some [30, 3] := by kernel_rfl
theorem agt50 : aggTypes Try.prog 50 = some [30, 3, 3] := by kernel_rfl
theorem agt51 : aggTypes Try.prog 51 = some [30, 3, 3] := by kernel_rfl
attribute [go_sem] sz1 by1 zero1 row1 sz2 by2 zero2 row2 sz3 by3 zero3 row3
attribute [go_sem] sz4 by4 zero4 row4 sz5 by5 zero5 row5 sz6 by6 zero6 row6
attribute [go_sem] sz7 by7 zero7 row7 fld7_0 fld7_1 fld7_2 fld7_3 bld7 sz8 by8 zero8
attribute [go_sem] row8 fld8_0 fld8_1 fld8_2 fld8_3 bld8 sz9 by9 zero9 row9 sz10 by10
attribute [go_sem] zero10 row10 sz11 by11 zero11 row11 sz12 by12 zero12 row12 sz13 by13
attribute [go_sem] zero13 row13 fld13_0 fld13_1 bld13 sz14 by14 zero14 row14 fld14_0 fld14_1 bld14
attribute [go_sem] sz15 by15 zero15 row15 sz16 by16 zero16 row16 sz17 by17 zero17 row17
attribute [go_sem] sz18 by18 zero18 row18 fld18_0 bld18 sz19 by19 zero19 row19 fld19_0 bld19
attribute [go_sem] sz20 by20 zero20 row20 sz21 by21 zero21 row21 sz22 by22 zero22 row22
attribute [go_sem] slc22 sz23 by23 zero23 row23 sz24 by24 zero24 row24 sz25 by25 zero25
attribute [go_sem] row25 sz26 by26 zero26 row26 slc26 sz27 by27 zero27 row27 slc27 sz28
attribute [go_sem] by28 zero28 row28 fld28_0 fld28_1 fld28_2 bld28 sz29 by29 zero29 row29 fld29_0
attribute [go_sem] fld29_1 fld29_2 bld29 sz30 by30 zero30 row30 sz31 by31 zero31 row31 fld31_0
attribute [go_sem] fld31_1 bld31 sz32 by32 zero32 row32 fld32_0 fld32_1 bld32 sz33 by33 zero33
attribute [go_sem] row33 fld33_0 fld33_1 fld33_2 fld33_3 fld33_4 fld33_5 fld33_6 bld33 sz34 by34 zero34
attribute [go_sem] row34 fld34_0 fld34_1 fld34_2 fld34_3 fld34_4 fld34_5 fld34_6 bld34 sz35 by35 zero35
attribute [go_sem] row35 sz36 by36 zero36 row36 sz37 by37 zero37 row37 sz38 by38 zero38
attribute [go_sem] row38 sz39 by39 zero39 row39 sz40 by40 zero40 row40 sz41 by41 zero41
attribute [go_sem] row41 sz42 by42 zero42 row42 slc42 sz43 by43 zero43 row43 fld43_0 bld43
attribute [go_sem] sz44 by44 zero44 row44 fld44_0 bld44 sz45 by45 zero45 row45 sz46 by46
attribute [go_sem] zero46 row46 sz48 by48 zero48 row48 sz49 by49 zero49 row49 sz50 by50
attribute [go_sem] zero50 row50 fld50_0 fld50_1 bld50 sz51 by51 zero51 row51 fld51_0 fld51_1 bld51
attribute [go_sem] sz52 by52 zero52 row52 sz53 by53 zero53 row53 sz55 by55 zero55 row55
attribute [go_sem] fld55_0 fld55_1 bld55 sz56 by56 zero56 row56 fld56_0 fld56_1 bld56 sz57 by57
attribute [go_sem] zero57 row57 sz58 by58 zero58 row58 sz59 by59 zero59 row59 sz60 by60
attribute [go_sem] zero60 row60 arr60 bld60 sz61 by61 zero61 row61 fld61_0 fld61_1 fld61_2 bld61
attribute [go_sem] sz62 by62 zero62 row62 fld62_0 fld62_1 fld62_2 bld62 sz63 by63 zero63 row63
attribute [go_sem] fld63_0 fld63_1 bld63 sz64 by64 zero64 row64 fld64_0 fld64_1 bld64 sz65 by65
attribute [go_sem] zero65 row65 sz66 by66 zero66 row66 sz67 by67 zero67 row67 sz68 by68
attribute [go_sem] zero68 row68 sz69 by69 zero69 row69 sz70 by70 zero70 row70 sz71 by71
attribute [go_sem] zero71 row71 sz72 by72 zero72 row72 sz73 by73 zero73 row73 sz74 by74
attribute [go_sem] zero74 row74 sz75 by75 zero75 row75 fld75_0 fld75_1 fld75_2 fld75_3 bld75 sz76
attribute [go_sem] by76 zero76 row76 fld76_0 fld76_1 fld76_2 fld76_3 bld76 sz77 by77 zero77 row77
attribute [go_sem] arr77 bld77 sz78 by78 zero78 row78 fld78_0 bld78 sz79 by79 zero79 row79
attribute [go_sem] fld79_0 bld79 sz80 by80 zero80 row80 sz81 by81 zero81 row81 sz82 by82
attribute [go_sem] zero82 row82 sz83 by83 zero83 row83 sz84 by84 zero84 row84 sz85 by85
attribute [go_sem] zero85 row85 sz86 by86 zero86 row86 sz87 by87 zero87 row87 fld87_0 fld87_1
attribute [go_sem] fld87_2 fld87_3 fld87_4 fld87_5 fld87_6 fld87_7 fld87_8 fld87_9 fld87_10 bld87 sz88 by88
attribute [go_sem] zero88 row88 fld88_0 fld88_1 fld88_2 fld88_3 fld88_4 fld88_5 fld88_6 fld88_7 fld88_8 fld88_9
attribute [go_sem] fld88_10 bld88 sz89 by89 zero89 row89 agt31 agt32 agt50 agt51
attribute [go_sem] Try.underlying0 Try.underlying1 Try.underlying2 Try.underlying3 Try.underlying4 Try.underlying5 Try.underlying6 Try.underlying7 Try.underlying8 Try.underlying9
attribute [go_sem] Try.underlying10 Try.underlying11 Try.underlying12 Try.underlying13 Try.underlying14 Try.underlying15 Try.underlying16 Try.underlying17 Try.underlying18 Try.underlying19
attribute [go_sem] Try.underlying20 Try.underlying21 Try.underlying22 Try.underlying23 Try.underlying24 Try.underlying25 Try.underlying26 Try.underlying27 Try.underlying28 Try.underlying29
attribute [go_sem] Try.underlying30 Try.underlying31 Try.underlying32 Try.underlying33 Try.underlying34 Try.underlying35 Try.underlying36 Try.underlying37 Try.underlying38 Try.underlying39
attribute [go_sem] Try.underlying40 Try.underlying41 Try.underlying42 Try.underlying43 Try.underlying44 Try.underlying45 Try.underlying46 Try.underlying47 Try.underlying48 Try.underlying49
attribute [go_sem] Try.underlying50 Try.underlying51 Try.underlying52 Try.underlying53 Try.underlying54 Try.underlying55 Try.underlying56 Try.underlying57 Try.underlying58 Try.underlying59
attribute [go_sem] Try.underlying60 Try.underlying61 Try.underlying62 Try.underlying63 Try.underlying64 Try.underlying65 Try.underlying66 Try.underlying67 Try.underlying68 Try.underlying69
attribute [go_sem] Try.underlying70 Try.underlying71 Try.underlying72 Try.underlying73 Try.underlying74 Try.underlying75 Try.underlying76 Try.underlying77 Try.underlying78 Try.underlying79
attribute [go_sem] Try.underlying80 Try.underlying81 Try.underlying82 Try.underlying83 Try.underlying84 Try.underlying85 Try.underlying86 Try.underlying87 Try.underlying88 Try.underlying89
attribute [go_sem] Try.results3 Try.ntmps3 Try.results4 Try.ntmps4 Try.results5 Try.ntmps5 Try.results6 Try.ntmps6 Try.results7 Try.ntmps7 Try.results8 Try.ntmps8 Try.results9 Try.ntmps9 Try.results10 Try.ntmps10 Try.results11 Try.ntmps11 Try.results12 Try.ntmps12
attribute [go_sem] Try.results13 Try.ntmps13 Try.results14 Try.ntmps14 Try.results15 Try.ntmps15 Try.results16 Try.ntmps16 Try.results17 Try.ntmps17 Try.results18 Try.ntmps18 Try.results19 Try.ntmps19 Try.results20 Try.ntmps20 Try.results21 Try.ntmps21 Try.results22 Try.ntmps22
attribute [go_sem] Try.results23 Try.ntmps23 Try.results24 Try.ntmps24 Try.results25 Try.ntmps25 Try.results26 Try.ntmps26 Try.results27 Try.ntmps27 Try.results28 Try.ntmps28 Try.results29 Try.ntmps29 Try.results30 Try.ntmps30 Try.results31 Try.ntmps31 Try.results32 Try.ntmps32
attribute [go_sem] Try.results33 Try.ntmps33 Try.results34 Try.ntmps34 Try.results35 Try.ntmps35 Try.results36 Try.ntmps36 Try.results37 Try.ntmps37 Try.results38 Try.ntmps38 Try.results39 Try.ntmps39 Try.results40 Try.ntmps40 Try.results41 Try.ntmps41 Try.results42 Try.ntmps42
attribute [go_sem] Try.results43 Try.ntmps43 Try.results44 Try.ntmps44 Try.results45 Try.ntmps45
end Go.Vm.Ty
end
section
-- NIDP
namespace Go.Vm
open Go.Proofs
set_option maxRecDepth 20000
def Nd.kid (nd : Nd) (b : Bool) : Nat := if b = true then nd.k1 else nd.k0
def Nd.setKid (nd : Nd) (b : Bool) (j : Nat) : Nd := if b = true then ⟨nd.k0, j, nd.is, nd.owner⟩ else ⟨j, nd.k1, nd.is, nd.owner⟩
/-- One step down, a node being made where there is none. -/
def atStep (x : List Nd × Nat) (b : Bool) : List Nd × Nat :=
  if (x.1.getD x.2 leaf).kid b = 0 then (x.1.set x.2 ((x.1.getD x.2 leaf).setKid b x.1.length) ++ [leaf], x.1.length) else (x.1, (x.1.getD x.2 leaf).kid b)
/-- Bit i of an address, from the top. -/
def bitA (a : BitVec 32) (i : Nat) : Bool := a.getLsbD (31 - i)
def pathA (a : BitVec 32) (n : Nat) : List Bool := (List.range n).map (bitA a)
theorem pathA_succ (a : BitVec 32) (n : Nat) : pathA a (n + 1) = pathA a n ++ [bitA a n] := by unfold pathA; rw [List.range_succ, List.map_append]; rfl
theorem bit_val (a : BitVec 32) (i : Nat) : (a >>> (31 - i)) &&& 1#32 = if bitA a i = true then 1#32 else 0#32 := by
  unfold bitA
  apply BitVec.eq_of_getLsbD_eq
  intro k hk
  rw [BitVec.getLsbD_and, BitVec.getLsbD_ushiftRight]
  by_cases h : k = 0
  · subst h
    rw [Nat.add_zero]
    cases a.getLsbD (31 - i) <;> simp
  · have h1 : (1#32).getLsbD k = false := by rw [BitVec.getLsbD_one]; simp [h]
    rw [h1, Bool.and_false]
    split
    · exact h1.symm
    · simp
theorem TreeAt.grow2 {pos : Nat → Nat} {many : Int} {B : List Nd} {H : List (Option Blk)} {c : Nat} {nd : Nd} (h : TreeAt pos many B H) (hc : B[c]? = some nd) (b : Bool) (cs : List V)
    (hcs : cs = if b = true then kidV pos nd.k0 :: V.ptr H.length 0 :: .bool nd.is :: .i64 nd.owner :: tlC many c else V.ptr H.length 0 :: kidV pos nd.k1 :: .bool nd.is :: .i64 nd.owner :: tlC many c) :
    TreeAt (fun j => if j = B.length then H.length else pos j) many (B.set c (nd.setKid b B.length) ++ [leaf]) ((H ++ [some (⟨false, [.nilPtr, .nilPtr, .bool false, .i64 0], none⟩ : Blk)]).set (pos c) (some ⟨false, cs, none⟩)) := by
  have hlt := (List.getElem?_eq_some_iff.1 hc).1
  have hkc := h.closed.2 c nd hc
  have hpc : (if c = B.length then H.length else pos c) = pos c := if_neg (by omega)
  have h2 := TreeAt.put (many' := many) (h.grow (by omega)) (j := c) (by simp; omega) (nd.setKid b B.length) (by unfold Nd.setKid; cases b <;> simp <;> omega) (.inr rfl)
  rw [List.set_append_left _ _ hlt] at h2
  simp only [hpc] at h2
  have hk : ∀ j, j < B.length → kidV (fun j => if j = B.length then H.length else pos j) j = kidV pos j := fun j hj => by
    unfold kidV
    simp only [show (j = B.length) = False from eq_false (by omega), if_false]
  have hkn : kidV (fun j => if j = B.length then H.length else pos j) B.length = .ptr H.length 0 := by
    unfold kidV
    simp only [show (B.length = 0) = False from eq_false (by omega), if_false, if_true]
  have e : some (ndB (fun j => if j = B.length then H.length else pos j) many c (nd.setKid b B.length)) = some (⟨false, cs, none⟩ : Blk) := by
    rw [hcs]
    unfold ndB Nd.setKid
    cases b with
    | true => simp only [if_true, hkn, hk _ hkc.1]
    | false => simp only [Bool.false_eq_true, if_false, hkn, hk _ hkc.2]
  rw [e] at h2
  exact h2
theorem at_spec (many : Int) (A : List Nd) (hA : Closed A) (a : BitVec 32) (n : Nat) (hn : n ≤ 32) : Spec0 Try.prog 25 [.ptr 0 0, .agg [.u32 a, .i64 n]] (treeB many A) (.ptr ((pathA a n).foldl atStep (A, 0)).2 0) (treeB many ((pathA a n).foldl atStep (A, 0)).1) := by
  have hg0 : getH (treeB many A ++ [some ⟨false, [.u32 a, .i64 n], none⟩]) A.length = some ⟨false, [.u32 a, .i64 n], none⟩ := by
    rw [← treeB_length many A]; exact getH_new _ _ _
  refine spec0_of_vc (by kernel_rfl) (fn := Try.f25) Try.func25 rfl (by show 2 ≤ 44; decide) (go_start ?_)
  simp -implicitDefEqProofs only [go_sem, ↓reduceIte, Nat.reduceEqDiff, Nat.reduceLT, Nat.reduceLeDiff, Nat.reduceAdd, Nat.reduceSub, Nat.reduceMul, Nat.reduceMod, Nat.reduceDiv, Int.reduceLE, Int.reduceLT, Int.reduceToNat, Int.reduceAdd, Int.reduceSub, Int.reduceMul, Int.reduceEq, Int.reduceNeg, BitVec.reduceOfInt, BitVec.reduceToNat, BitVec.reduceEq, BitVec.reduceNe, BitVec.reduceLT, reduceCtorEq, List.forall_mem_nil, Try.ntmps25, Try.results25, treeB_length, hg0]
  refine go_loop (fun j st => ∃ (i : Nat) (pos : Nat → Nat) (B : List Nd) (c : Nat) (H : List (Option Blk)), i + j = n ∧ (pathA a i).foldl atStep (A, 0) = (B, c) ∧ TreeAt pos many B H ∧ c < B.length ∧ A.length ≤ B.length ∧ (∀ j, j < A.length → pos j = j) ∧
    (∀ j, j < B.length → pos j ≠ A.length) ∧ getH H A.length = some ⟨false, [.u32 a, .i64 n], none⟩ ∧ st = ⟨[(3, .ptr A.length 0), (5, .ptr (pos c) 0), (12, .i64 n), (13, .i64 i)], H⟩) ?_ ?_
  · refine start_mk n ⟨[(3, .ptr A.length 0), (5, .ptr 0 0), (12, .i64 n), (13, .i64 (0 : Nat))], treeB many A ++ [some ⟨false, [.u32 a, .i64 n], none⟩]⟩ (by simp [St.get, lookS]) rfl (fun _ _ h => h)
      ⟨0, id, A, 0, _, by omega, rfl, (TreeAt.init hA).app _, hA.1, Nat.le_refl _, fun _ _ => rfl, fun j hj => Nat.ne_of_lt hj, hg0, rfl⟩
  rintro j st ⟨i, pos, B, c, H, hij, hf, hT, hc, hle, hp, hpn, hbx, rfl⟩ _
  by_cases hi : i < n
  · have hi' : (i : Int) < (n : Int) := by omega
    have hw : w64 (31 - (i : Int)) = ((31 - i : Nat) : Int) := by rw [w64_of (by omega) (by omega)]; omega
    have hw1 : w64 ((i : Int) + 1) = ((i + 1 : Nat) : Int) := by rw [w64_of (by omega) (by omega)]; omega
    have hnn : (0 : Int) ≤ ((31 - i : Nat) : Int) := by omega
    have hbit := bit_val a i
    have hfs : (pathA a (i + 1)).foldl atStep (A, 0) = atStep (B, c) (bitA a i) := by rw [pathA_succ, List.foldl_append, hf]; rfl
    obtain ⟨nd, hnd⟩ : ∃ nd, B[c]? = some nd := ⟨B[c], List.getElem?_eq_getElem hc⟩
    have hget := hT.here c nd hnd
    have hgd : B.getD c leaf = nd := by rw [List.getD_eq_getElem?_getD, hnd]; rfl
    have hkc := hT.closed.2 c nd hnd
    cases hb : bitA a i with
    | false =>
      rw [hb] at hbit hfs
      simp only [Bool.false_eq_true, if_false, if_true] at hbit
      by_cases hk : nd.k0 = 0
      · have hg1 : getH H (pos c) = some ⟨false, .nilPtr :: kidV pos nd.k1 :: .bool nd.is :: .i64 nd.owner :: tlC many c, none⟩ := by
          rw [hget]; unfold ndB; rw [hk]; rfl
        have hg2 : getH (H ++ [some (⟨false, [.nilPtr, .nilPtr, .bool false, .i64 0], none⟩ : Blk)]) (pos c) = some ⟨false, .nilPtr :: kidV pos nd.k1 :: .bool nd.is :: .i64 nd.owner :: tlC many c, none⟩ := by
          rw [getH_app (hT.lt hc)]; exact hg1
        have hg3 := getH_set_same (H := H ++ [some (⟨false, [.nilPtr, .nilPtr, .bool false, .i64 0], none⟩ : Blk)]) (b := pos c) (by have := hT.lt hc; simp; omega) (some ⟨false, .ptr H.length 0 :: kidV pos nd.k1 :: .bool nd.is :: .i64 nd.owner :: tlC many c, none⟩)
        have hstep : atStep (B, c) false = (B.set c (nd.setKid false B.length) ++ [leaf], B.length) := by
          unfold atStep
          simp only [hgd]
          rw [if_pos (by unfold Nd.kid; simp [hk])]
        rw [hstep] at hfs
        simp -implicitDefEqProofs only [go_sem, ↓reduceIte, Nat.reduceEqDiff, Nat.reduceLT, Nat.reduceLeDiff, Nat.reduceAdd, Nat.reduceSub, Nat.reduceMul, Nat.reduceMod, Nat.reduceDiv, Int.reduceLE, Int.reduceLT, Int.reduceToNat, Int.reduceAdd, Int.reduceSub, Int.reduceMul, Int.reduceEq, Int.reduceNeg, BitVec.reduceOfInt, BitVec.reduceToNat, BitVec.reduceEq, BitVec.reduceNe, BitVec.reduceLT, reduceCtorEq, List.forall_mem_nil, hi', hbx, hw, hnn, Int.toNat_natCast, hbit, hg1, hg2, hg3]
        refine again_mk (j - 1) ⟨[(3, .ptr A.length 0), (5, .ptr ((fun j => if j = B.length then H.length else pos j) B.length) 0), (12, .i64 n), (13, .i64 (i + 1 : Nat))], (H ++ [some (⟨false, [.nilPtr, .nilPtr, .bool false, .i64 0], none⟩ : Blk)]).set (pos c) (some ⟨false, .ptr H.length 0 :: kidV pos nd.k1 :: .bool nd.is :: .i64 nd.owner :: tlC many c, none⟩)⟩ (by omega) ?_ rfl (fun _ _ h => h)
          ⟨i + 1, fun j => if j = B.length then H.length else pos j, _, B.length, _, by omega, hfs, hT.grow2 hnd false _ rfl, by simp, by simp; omega, fun j hj => ?_, fun j hj => ?_, ?_, rfl⟩
        · simp [St.get, lookS, hw1]
        · show (if j = B.length then H.length else pos j) = j
          rw [if_neg (by omega)]; exact hp j hj
        · show (if j = B.length then H.length else pos j) ≠ A.length
          have hl := getH_lt hbx
          by_cases hjB : j = B.length
          · rw [if_pos hjB]; omega
          · rw [if_neg hjB]; exact hpn j (by simp at hj; omega)
        · rw [getH_set_ne (hpn c hc), getH_app (getH_lt hbx)]; exact hbx
      · have hg1 : getH H (pos c) = some ⟨false, .ptr (pos nd.k0) 0 :: kidV pos nd.k1 :: .bool nd.is :: .i64 nd.owner :: tlC many c, none⟩ := by
          rw [hget]; unfold ndB; rw [show kidV pos nd.k0 = .ptr (pos nd.k0) 0 from if_neg hk]
        have hstep : atStep (B, c) false = (B, nd.k0) := by
          unfold atStep
          simp only [hgd]
          rw [if_neg (by unfold Nd.kid; simp [hk])]; unfold Nd.kid; simp
        rw [hstep] at hfs
        simp -implicitDefEqProofs only [go_sem, ↓reduceIte, Nat.reduceEqDiff, Nat.reduceLT, Nat.reduceLeDiff, Nat.reduceAdd, Nat.reduceSub, Nat.reduceMul, Nat.reduceMod, Nat.reduceDiv, Int.reduceLE, Int.reduceLT, Int.reduceToNat, Int.reduceAdd, Int.reduceSub, Int.reduceMul, Int.reduceEq, Int.reduceNeg, BitVec.reduceOfInt, BitVec.reduceToNat, BitVec.reduceEq, BitVec.reduceNe, BitVec.reduceLT, reduceCtorEq, List.forall_mem_nil, hi', hbx, hw, hnn, Int.toNat_natCast, hbit, hg1]
        refine again_mk (j - 1) ⟨[(3, .ptr A.length 0), (5, .ptr (pos nd.k0) 0), (12, .i64 n), (13, .i64 (i + 1 : Nat))], H⟩ (by omega) (by simp [St.get, lookS, hw1]) rfl (fun _ _ h => h)
          ⟨i + 1, pos, B, nd.k0, H, by omega, hfs, hT, hkc.1, hle, hp, hpn, hbx, rfl⟩
    | true =>
      rw [hb] at hbit hfs
      simp only [Bool.false_eq_true, if_false, if_true] at hbit
      by_cases hk : nd.k1 = 0
      · have hg1 : getH H (pos c) = some ⟨false, kidV pos nd.k0 :: .nilPtr :: .bool nd.is :: .i64 nd.owner :: tlC many c, none⟩ := by
          rw [hget]; unfold ndB; rw [hk]; rfl
        have hg2 : getH (H ++ [some (⟨false, [.nilPtr, .nilPtr, .bool false, .i64 0], none⟩ : Blk)]) (pos c) = some ⟨false, kidV pos nd.k0 :: .nilPtr :: .bool nd.is :: .i64 nd.owner :: tlC many c, none⟩ := by
          rw [getH_app (hT.lt hc)]; exact hg1
        have hg3 := getH_set_same (H := H ++ [some (⟨false, [.nilPtr, .nilPtr, .bool false, .i64 0], none⟩ : Blk)]) (b := pos c) (by have := hT.lt hc; simp; omega) (some ⟨false, kidV pos nd.k0 :: .ptr H.length 0 :: .bool nd.is :: .i64 nd.owner :: tlC many c, none⟩)
        have hstep : atStep (B, c) true = (B.set c (nd.setKid true B.length) ++ [leaf], B.length) := by
          unfold atStep
          simp only [hgd]
          rw [if_pos (by unfold Nd.kid; simp [hk])]
        rw [hstep] at hfs
        simp -implicitDefEqProofs only [go_sem, ↓reduceIte, Nat.reduceEqDiff, Nat.reduceLT, Nat.reduceLeDiff, Nat.reduceAdd, Nat.reduceSub, Nat.reduceMul, Nat.reduceMod, Nat.reduceDiv, Int.reduceLE, Int.reduceLT, Int.reduceToNat, Int.reduceAdd, Int.reduceSub, Int.reduceMul, Int.reduceEq, Int.reduceNeg, BitVec.reduceOfInt, BitVec.reduceToNat, BitVec.reduceEq, BitVec.reduceNe, BitVec.reduceLT, reduceCtorEq, List.forall_mem_nil, hi', hbx, hw, hnn, Int.toNat_natCast, hbit, hg1, hg2, hg3]
        refine ⟨by omega, by omega, ?_⟩
        refine again_mk (j - 1) ⟨[(3, .ptr A.length 0), (5, .ptr ((fun j => if j = B.length then H.length else pos j) B.length) 0), (12, .i64 n), (13, .i64 (i + 1 : Nat))], (H ++ [some (⟨false, [.nilPtr, .nilPtr, .bool false, .i64 0], none⟩ : Blk)]).set (pos c) (some ⟨false, kidV pos nd.k0 :: .ptr H.length 0 :: .bool nd.is :: .i64 nd.owner :: tlC many c, none⟩)⟩ (by omega) ?_ rfl (fun _ _ h => h)
          ⟨i + 1, fun j => if j = B.length then H.length else pos j, _, B.length, _, by omega, hfs, hT.grow2 hnd true _ rfl, by simp, by simp; omega, fun j hj => ?_, fun j hj => ?_, ?_, rfl⟩
        · simp [St.get, lookS, hw1]
        · show (if j = B.length then H.length else pos j) = j
          rw [if_neg (by omega)]; exact hp j hj
        · show (if j = B.length then H.length else pos j) ≠ A.length
          have hl := getH_lt hbx
          by_cases hjB : j = B.length
          · rw [if_pos hjB]; omega
          · rw [if_neg hjB]; exact hpn j (by simp at hj; omega)
        · rw [getH_set_ne (hpn c hc), getH_app (getH_lt hbx)]; exact hbx
      · have hg1 : getH H (pos c) = some ⟨false, kidV pos nd.k0 :: .ptr (pos nd.k1) 0 :: .bool nd.is :: .i64 nd.owner :: tlC many c, none⟩ := by
          rw [hget]; unfold ndB; rw [show kidV pos nd.k1 = .ptr (pos nd.k1) 0 from if_neg hk]
        have hstep : atStep (B, c) true = (B, nd.k1) := by
          unfold atStep
          simp only [hgd]
          rw [if_neg (by unfold Nd.kid; simp [hk])]; unfold Nd.kid; simp
        rw [hstep] at hfs
        simp -implicitDefEqProofs only [go_sem, ↓reduceIte, Nat.reduceEqDiff, Nat.reduceLT, Nat.reduceLeDiff, Nat.reduceAdd, Nat.reduceSub, Nat.reduceMul, Nat.reduceMod, Nat.reduceDiv, Int.reduceLE, Int.reduceLT, Int.reduceToNat, Int.reduceAdd, Int.reduceSub, Int.reduceMul, Int.reduceEq, Int.reduceNeg, BitVec.reduceOfInt, BitVec.reduceToNat, BitVec.reduceEq, BitVec.reduceNe, BitVec.reduceLT, reduceCtorEq, List.forall_mem_nil, hi', hbx, hw, hnn, Int.toNat_natCast, hbit, hg1]
        refine ⟨by omega, by omega, ?_⟩
        refine again_mk (j - 1) ⟨[(3, .ptr A.length 0), (5, .ptr (pos nd.k1) 0), (12, .i64 n), (13, .i64 (i + 1 : Nat))], H⟩ (by omega) (by simp [St.get, lookS, hw1]) rfl (fun _ _ h => h)
          ⟨i + 1, pos, B, nd.k1, H, by omega, hfs, hT, hkc.2, hle, hp, hpn, hbx, rfl⟩
  · have hi' : ¬ (i : Int) < (n : Int) := by omega
    have hin : i = n := by omega
    subst hin
    simp -implicitDefEqProofs only [go_sem, ↓reduceIte, Nat.reduceEqDiff, Nat.reduceLT, Nat.reduceLeDiff, Nat.reduceAdd, Nat.reduceSub, Nat.reduceMul, Nat.reduceMod, Nat.reduceDiv, Int.reduceLE, Int.reduceLT, Int.reduceToNat, Int.reduceAdd, Int.reduceSub, Int.reduceMul, Int.reduceEq, Int.reduceNeg, BitVec.reduceOfInt, BitVec.reduceToNat, BitVec.reduceEq, BitVec.reduceNe, BitVec.reduceLT, reduceCtorEq, List.forall_mem_nil, hi']
    rw [hf]
    exact Fin.tree hT hle hp ⟨by show V.ptr (sgOf (sgT pos B.length) c) 0 = _; rw [sgT_get pos hc], hc⟩
end Go.Vm
end
section
-- NIDP
namespace Go.Vm
open Go.Proofs
set_option maxRecDepth 20000
theorem getD_of {A : List Nd} {j : Nat} {nd : Nd} (h : A[j]? = some nd) : A.getD j leaf = nd := by rw [List.getD_eq_getElem?_getD, h]; rfl
theorem closed_put {A : List Nd} (h : Closed A) {j : Nat} (nd' : Nd) (hk : nd'.k0 < A.length ∧ nd'.k1 < A.length) : Closed (A.set j nd') := by
  refine ⟨by simpa using h.1, fun i nd e => ?_⟩
  rw [List.length_set]
  rw [List.getElem?_set] at e
  by_cases hij : j = i
  · subst hij
    rw [if_pos rfl] at e
    split at e
    · rw [← Option.some.inj e]; exact hk
    · cases e
  · rw [if_neg hij] at e
    exact h.2 i nd e
theorem closed_app {A : List Nd} (h : Closed A) : Closed (A ++ [leaf]) := by
  refine ⟨by simp, fun i nd e => ?_⟩
  rw [List.length_append]
  by_cases hi : i < A.length
  · rw [List.getElem?_append_left hi] at e
    have := h.2 i nd e
    simp; omega
  · rw [List.getElem?_append_right (by omega)] at e
    have : nd = leaf := by
      cases hx : i - A.length with
      | zero => rw [hx] at e; simp at e; exact e.symm
      | succ k => rw [hx] at e; simp at e
    subst this
    simp [leaf]
theorem atStep_closed {B : List Nd} {c : Nat} (h : Closed B) (hc : c < B.length) (b : Bool) : Closed (atStep (B, c) b).1 ∧ (atStep (B, c) b).2 < (atStep (B, c) b).1.length ∧ B.length ≤ (atStep (B, c) b).1.length := by
  have hnd : B[c]? = some (B.getD c leaf) := by rw [List.getD_eq_getElem?_getD, List.getElem?_eq_getElem hc]; rfl
  have hkc := h.2 c _ hnd
  unfold atStep
  simp only
  generalize B.getD c leaf = nd at *
  split
  · refine ⟨?_, by simp, by simp⟩
    rw [← List.set_append_left _ _ hc]
    refine closed_put (closed_app h) _ ?_
    unfold Nd.setKid
    cases b <;> simp <;> omega
  · refine ⟨h, ?_, Nat.le_refl _⟩
    unfold Nd.kid
    cases b <;> simp <;> omega
theorem atAll_closed : ∀ (p : List Bool) {B : List Nd} {c : Nat}, Closed B → c < B.length → Closed (p.foldl atStep (B, c)).1 ∧ (p.foldl atStep (B, c)).2 < (p.foldl atStep (B, c)).1.length ∧ B.length ≤ (p.foldl atStep (B, c)).1.length
  | [], _, _, h, hc => ⟨h, hc, Nat.le_refl _⟩
  | b :: p, B, c, h, hc => by
    obtain ⟨h1, h2, h3⟩ := atStep_closed h hc b
    obtain ⟨g1, g2, g3⟩ := atAll_closed p h1 h2
    exact ⟨g1, g2, Nat.le_trans h3 g3⟩
/-- What Set comes to. -/
def setT (a : BitVec 32) (n p : Int) (many : Int) (A : List Nd) : Int × Int × List Nd :=
  if n < 0 ∨ 32 < n ∨ p < 0 ∨ 8 ≤ p then (1, many, A) else
  if a <<< n.toNat ≠ 0#32 then (5, many, A) else
  let x := (pathA a n.toNat).foldl atStep (A, 0)
  let nd := x.1.getD x.2 leaf
  if nd.is = true then (0, many, x.1.set x.2 ⟨nd.k0, nd.k1, true, p⟩) else
  if many = 64 then (9, many, x.1) else (0, many + 1, x.1.set x.2 ⟨nd.k0, nd.k1, true, p⟩)
theorem Set_bad (a : BitVec 32) (n p many : Int) (A : List Nd) (hA : Closed A) (h : n < 0 ∨ 32 < n ∨ p < 0 ∨ 8 ≤ p) : Spec0 Try.prog 14 [.ptr 0 0, .agg [.u32 a, .i64 n], .i64 p] (treeB many A) (.i64 1) (treeB many A) := by
  have hg0 : getH (treeB many A ++ [some ⟨false, [.u32 a, .i64 n], none⟩]) A.length = some ⟨false, [.u32 a, .i64 n], none⟩ := by
    rw [← treeB_length many A]; exact getH_new _ _ _
  have hT : TreeAt id many A (treeB many A ++ [some (⟨false, [.u32 a, .i64 n], none⟩ : Blk)]) := (TreeAt.init hA).app _
  by_cases h1 : n < 0
  · refine spec0_of_vc (by kernel_rfl) (fn := Try.f14) Try.func14 rfl (by show 3 ≤ 58; decide) (go_start ?_)
    simp -implicitDefEqProofs only [go_sem, ↓reduceIte, Nat.reduceEqDiff, Nat.reduceLT, Nat.reduceLeDiff, Nat.reduceAdd, Nat.reduceSub, Nat.reduceMul, Nat.reduceMod, Nat.reduceDiv, Int.reduceLE, Int.reduceLT, Int.reduceToNat, Int.reduceAdd, Int.reduceSub, Int.reduceMul, Int.reduceEq, Int.reduceNeg, BitVec.reduceOfInt, BitVec.reduceToNat, BitVec.reduceEq, BitVec.reduceNe, BitVec.reduceLT, reduceCtorEq, List.forall_mem_nil, Try.ntmps14, Try.results14, treeB_length, hg0, h1]
    exact Fin.tree hT (Nat.le_refl _) (fun _ _ => rfl) ⟨rfl, trivial⟩
  by_cases h2 : 32 < n
  · refine spec0_of_vc (by kernel_rfl) (fn := Try.f14) Try.func14 rfl (by show 3 ≤ 58; decide) (go_start ?_)
    simp -implicitDefEqProofs only [go_sem, ↓reduceIte, Nat.reduceEqDiff, Nat.reduceLT, Nat.reduceLeDiff, Nat.reduceAdd, Nat.reduceSub, Nat.reduceMul, Nat.reduceMod, Nat.reduceDiv, Int.reduceLE, Int.reduceLT, Int.reduceToNat, Int.reduceAdd, Int.reduceSub, Int.reduceMul, Int.reduceEq, Int.reduceNeg, BitVec.reduceOfInt, BitVec.reduceToNat, BitVec.reduceEq, BitVec.reduceNe, BitVec.reduceLT, reduceCtorEq, List.forall_mem_nil, Try.ntmps14, Try.results14, treeB_length, hg0, h1, h2]
    exact Fin.tree hT (Nat.le_refl _) (fun _ _ => rfl) ⟨rfl, trivial⟩
  by_cases h3 : p < 0
  · refine spec0_of_vc (by kernel_rfl) (fn := Try.f14) Try.func14 rfl (by show 3 ≤ 58; decide) (go_start ?_)
    simp -implicitDefEqProofs only [go_sem, ↓reduceIte, Nat.reduceEqDiff, Nat.reduceLT, Nat.reduceLeDiff, Nat.reduceAdd, Nat.reduceSub, Nat.reduceMul, Nat.reduceMod, Nat.reduceDiv, Int.reduceLE, Int.reduceLT, Int.reduceToNat, Int.reduceAdd, Int.reduceSub, Int.reduceMul, Int.reduceEq, Int.reduceNeg, BitVec.reduceOfInt, BitVec.reduceToNat, BitVec.reduceEq, BitVec.reduceNe, BitVec.reduceLT, reduceCtorEq, List.forall_mem_nil, Try.ntmps14, Try.results14, treeB_length, hg0, h1, h2, h3]
    exact Fin.tree hT (Nat.le_refl _) (fun _ _ => rfl) ⟨rfl, trivial⟩
  have h4 : 8 ≤ p := by omega
  refine spec0_of_vc (by kernel_rfl) (fn := Try.f14) Try.func14 rfl (by show 3 ≤ 58; decide) (go_start ?_)
  simp -implicitDefEqProofs only [go_sem, ↓reduceIte, Nat.reduceEqDiff, Nat.reduceLT, Nat.reduceLeDiff, Nat.reduceAdd, Nat.reduceSub, Nat.reduceMul, Nat.reduceMod, Nat.reduceDiv, Int.reduceLE, Int.reduceLT, Int.reduceToNat, Int.reduceAdd, Int.reduceSub, Int.reduceMul, Int.reduceEq, Int.reduceNeg, BitVec.reduceOfInt, BitVec.reduceToNat, BitVec.reduceEq, BitVec.reduceNe, BitVec.reduceLT, reduceCtorEq, List.forall_mem_nil, Try.ntmps14, Try.results14, treeB_length, hg0, h1, h2, h3, h4]
  exact Fin.tree hT (Nat.le_refl _) (fun _ _ => rfl) ⟨rfl, trivial⟩
theorem Set_form (a : BitVec 32) (n : Nat) (p many : Int) (A : List Nd) (hA : Closed A) (hn : n ≤ 32) (hp0 : 0 ≤ p) (hp8 : p < 8) (hf : a <<< n ≠ 0#32) : Spec0 Try.prog 14 [.ptr 0 0, .agg [.u32 a, .i64 n], .i64 p] (treeB many A) (.i64 5) (treeB many A) := by
  have hg0 : getH (treeB many A ++ [some ⟨false, [.u32 a, .i64 n], none⟩]) A.length = some ⟨false, [.u32 a, .i64 n], none⟩ := by
    rw [← treeB_length many A]; exact getH_new _ _ _
  have hT : TreeAt id many A (treeB many A ++ [some (⟨false, [.u32 a, .i64 n], none⟩ : Blk)]) := (TreeAt.init hA).app _
  have h1 : ¬ (n : Int) < 0 := by omega
  have h2 : ¬ (32 : Int) < n := by omega
  have h3 : ¬ p < 0 := by omega
  have h4 : ¬ 8 ≤ p := by omega
  have h5 : (0 : Int) ≤ n := by omega
  refine spec0_of_vc (by kernel_rfl) (fn := Try.f14) Try.func14 rfl (by show 3 ≤ 58; decide) (go_start ?_)
  simp -implicitDefEqProofs only [go_sem, ↓reduceIte, Nat.reduceEqDiff, Nat.reduceLT, Nat.reduceLeDiff, Nat.reduceAdd, Nat.reduceSub, Nat.reduceMul, Nat.reduceMod, Nat.reduceDiv, Int.reduceLE, Int.reduceLT, Int.reduceToNat, Int.reduceAdd, Int.reduceSub, Int.reduceMul, Int.reduceEq, Int.reduceNeg, BitVec.reduceOfInt, BitVec.reduceToNat, BitVec.reduceEq, BitVec.reduceNe, BitVec.reduceLT, reduceCtorEq, List.forall_mem_nil, Try.ntmps14, Try.results14, treeB_length, hg0, h1, h2, h3, h4, h5, Int.toNat_natCast, hf]
  exact Fin.tree hT (Nat.le_refl _) (fun _ _ => rfl) ⟨rfl, trivial⟩
set_option maxHeartbeats 1000000 in
theorem Set_ok (a : BitVec 32) (n : Nat) (p many : Int) (A B : List Nd) (c : Nat) (nd : Nd) (hA : Closed A) (hn : n ≤ 32) (hp0 : 0 ≤ p) (hp8 : p < 8) (hf : a <<< n = 0#32) (hm0 : 0 ≤ many) (hm1 : many ≤ 64)
    (hat : (pathA a n).foldl atStep (A, 0) = (B, c)) (hnd : B[c]? = some nd) :
    Spec0 Try.prog 14 [.ptr 0 0, .agg [.u32 a, .i64 n], .i64 p] (treeB many A) (.i64 (if nd.is = true then 0 else if many = 64 then 9 else 0))
      (treeB (if nd.is = true then many else if many = 64 then many else many + 1) (if nd.is = true then B.set c ⟨nd.k0, nd.k1, true, p⟩ else if many = 64 then B else B.set c ⟨nd.k0, nd.k1, true, p⟩)) := by
  have hg0 : getH (treeB many A ++ [some ⟨false, [.u32 a, .i64 n], none⟩]) A.length = some ⟨false, [.u32 a, .i64 n], none⟩ := by
    rw [← treeB_length many A]; exact getH_new _ _ _
  have hT0 : TreeAt id many A (treeB many A ++ [some (⟨false, [.u32 a, .i64 n], none⟩ : Blk)]) := (TreeAt.init hA).app _
  have h1 : ¬ (n : Int) < 0 := by omega
  have h2 : ¬ (32 : Int) < n := by omega
  have h3 : ¬ p < 0 := by omega
  have h4 : ¬ 8 ≤ p := by omega
  have h5 : (0 : Int) ≤ n := by omega
  have hw := w64_of (n := many + 1) (by omega) (by omega)
  have hcl := atAll_closed (pathA a n) hA hA.1
  have hsp := at_spec many A hA a n hn
  rw [hat] at hcl hsp
  obtain ⟨hcB, hc, hle⟩ := hcl
  simp only at hcB hc hle hsp
  obtain ⟨r, hr⟩ : ∃ r, B[0]? = some r := ⟨B[0]'hcB.1, List.getElem?_eq_getElem hcB.1⟩
  refine spec0_of_vc (by kernel_rfl) (fn := Try.f14) Try.func14 rfl (by show 3 ≤ 58; decide) (go_start ?_)
  simp -implicitDefEqProofs only [go_sem, ↓reduceIte, Nat.reduceEqDiff, Nat.reduceLT, Nat.reduceLeDiff, Nat.reduceAdd, Nat.reduceSub, Nat.reduceMul, Nat.reduceMod, Nat.reduceDiv, Int.reduceLE, Int.reduceLT, Int.reduceToNat, Int.reduceAdd, Int.reduceSub, Int.reduceMul, Int.reduceEq, Int.reduceNeg, BitVec.reduceOfInt, BitVec.reduceToNat, BitVec.reduceEq, BitVec.reduceNe, BitVec.reduceLT, reduceCtorEq, List.forall_mem_nil, Try.ntmps14, Try.results14, treeB_length, hg0, h1, h2, h3, h4, h5, Int.toNat_natCast, hf]
  refine goCall_tree (.ptr (posN id A.length (A.length + 1) c) 0) hsp (by kernel_rfl) hT0 hcB hle ?_ ?_ ?_ ?_
  · show [V.ptr (sgOf (sgT id A.length) 0) 0, V.agg [V.u32 a, V.i64 n]] = [V.ptr 0 0, V.agg [V.u32 a, V.i64 n]]
    rw [sgT_get _ hA.1]; rfl
  · exact ⟨hA.1, ⟨trivial, trivial, trivial⟩, trivial⟩
  · show V.ptr (sgOf _ c) 0 = _
    rw [sgNew_get hle hc]
    simp only [List.length_append, treeB_length, List.length_cons, List.length_nil]
  intro H' hT hkeep hlen
  have hL : (treeB many A ++ [some (⟨false, [.u32 a, .i64 n], none⟩ : Blk)]).length = A.length + 1 := by simp [treeB_length]
  simp only [hL] at hT
  have hp0' : posN id A.length (A.length + 1) 0 = 0 := if_pos hA.1
  have hpos : ∀ j, j < A.length → posN id A.length (A.length + 1) j = j := fun j hj => if_pos hj
  generalize posN id A.length (A.length + 1) = pos at *
  have hgc := hT.here c nd hnd
  have hgr := hT.here 0 r hr
  rw [hp0'] at hgr
  unfold ndB at hgc hgr
  rw [show tlC many 0 = [.i64 many] from rfl] at hgr
  have hkc := hT.closed.2 c nd hnd
  by_cases his : nd.is = true
  · rw [his] at hgc
    simp only [his, if_true]
    have hs1 := getH_set_same (hT.lt hc) (some ⟨false, kidV pos nd.k0 :: kidV pos nd.k1 :: .bool true :: .i64 nd.owner :: tlC many c, none⟩)
    simp -implicitDefEqProofs only [go_sem, ↓reduceIte, Nat.reduceEqDiff, Nat.reduceLT, Nat.reduceLeDiff, Nat.reduceAdd, Nat.reduceSub, Nat.reduceMul, Nat.reduceMod, Nat.reduceDiv, Int.reduceLE, Int.reduceLT, Int.reduceToNat, Int.reduceAdd, Int.reduceSub, Int.reduceMul, Int.reduceEq, Int.reduceNeg, BitVec.reduceOfInt, BitVec.reduceToNat, BitVec.reduceEq, BitVec.reduceNe, BitVec.reduceLT, reduceCtorEq, List.forall_mem_nil, hgc, hs1, List.set_set]
    refine ⟨by omega, ?_⟩
    exact Fin.tree (hT.put hc ⟨nd.k0, nd.k1, true, p⟩ hkc (.inr rfl)) (by simpa using hle) hpos ⟨rfl, trivial⟩
  · have his' : nd.is = false := by simpa using his
    rw [his'] at hgc
    simp only [his', Bool.false_eq_true, if_false]
    by_cases h64 : many = 64
    · simp only [h64, if_true] at hgc hgr hT ⊢
      simp -implicitDefEqProofs only [go_sem, ↓reduceIte, Nat.reduceEqDiff, Nat.reduceLT, Nat.reduceLeDiff, Nat.reduceAdd, Nat.reduceSub, Nat.reduceMul, Nat.reduceMod, Nat.reduceDiv, Int.reduceLE, Int.reduceLT, Int.reduceToNat, Int.reduceAdd, Int.reduceSub, Int.reduceMul, Int.reduceEq, Int.reduceNeg, BitVec.reduceOfInt, BitVec.reduceToNat, BitVec.reduceEq, BitVec.reduceNe, BitVec.reduceLT, reduceCtorEq, List.forall_mem_nil, hgc, hgr]
      refine ⟨by omega, ?_⟩
      exact Fin.tree hT hle hpos ⟨rfl, trivial⟩
    · simp only [if_neg h64]
      have hT2 := hT.put (many' := many + 1) hcB.1 r (hT.closed.2 0 r hr) (.inl rfl)
      rw [hp0', show B.set 0 r = B from by rw [← Option.some.inj ((List.getElem?_eq_getElem hcB.1).symm.trans hr)]; exact List.set_getElem_self _] at hT2
      have hgc2 := hT2.here c nd hnd
      unfold ndB at hgc2
      rw [show tlC (many + 1) 0 = [.i64 (many + 1)] from rfl, his'] at hgc2
      have hs1 := getH_set_same (hT2.lt hc) (some ⟨false, kidV pos nd.k0 :: kidV pos nd.k1 :: .bool true :: .i64 nd.owner :: tlC (many + 1) c, none⟩)
      have hT3 := hT2.put hc ⟨nd.k0, nd.k1, true, p⟩ hkc (.inr rfl)
      unfold ndB at hs1 hT3
      rw [show tlC (many + 1) 0 = [.i64 (many + 1)] from rfl] at hs1 hT3
      simp -implicitDefEqProofs only [go_sem, ↓reduceIte, Nat.reduceEqDiff, Nat.reduceLT, Nat.reduceLeDiff, Nat.reduceAdd, Nat.reduceSub, Nat.reduceMul, Nat.reduceMod, Nat.reduceDiv, Int.reduceLE, Int.reduceLT, Int.reduceToNat, Int.reduceAdd, Int.reduceSub, Int.reduceMul, Int.reduceEq, Int.reduceNeg, BitVec.reduceOfInt, BitVec.reduceToNat, BitVec.reduceEq, BitVec.reduceNe, BitVec.reduceLT, reduceCtorEq, List.forall_mem_nil, hgc, hgr, hgc2, hs1, h64, hw, List.set_set]
      refine ⟨by omega, ?_⟩
      exact Fin.tree hT3 (by simpa using hle) hpos ⟨rfl, trivial⟩
end Go.Vm
end
section
-- NIDP
namespace Go.Vm
open Go.Proofs
set_option maxRecDepth 20000
/-- Down a path, the last owner that is met. -/
def findA (A : List Nd) : List Bool → Nat → Int × Bool → Int × Bool
  | [], c, best => if (A.getD c leaf).is = true then ((A.getD c leaf).owner, true) else best
  | b :: p, c, best =>
    let best' := if (A.getD c leaf).is = true then ((A.getD c leaf).owner, true) else best
    if (A.getD c leaf).kid b = 0 then best' else findA A p ((A.getD c leaf).kid b) best'
theorem pathA_drop (a : BitVec 32) {i : Nat} (hi : i < 32) : (pathA a 32).drop i = bitA a i :: (pathA a 32).drop (i + 1) := by
  rw [List.drop_eq_getElem_cons (by unfold pathA; simpa using hi)]
  congr 1
  unfold pathA
  rw [List.getElem_map, List.getElem_range]
set_option maxHeartbeats 1000000 in
theorem Find_spec (a : BitVec 32) (many : Int) (A : List Nd) (hA : Closed A) : Spec0 Try.prog 16 [.ptr 0 0, .u32 a] (treeB many A) (.tup [.i64 (findA A (pathA a 32) 0 (0, false)).1, .bool (findA A (pathA a 32) 0 (0, false)).2]) (treeB many A) := by
  have hT := TreeAt.init (many := many) hA
  generalize hR : findA A (pathA a 32) 0 (0, false) = R
  refine spec0_of_vc (by kernel_rfl) (fn := Try.f16) Try.func16 rfl (by show 2 ≤ 39; decide) (go_start ?_)
  simp -implicitDefEqProofs only [go_sem, ↓reduceIte, Nat.reduceEqDiff, Nat.reduceLT, Nat.reduceLeDiff, Nat.reduceAdd, Nat.reduceSub, Nat.reduceMul, Nat.reduceMod, Nat.reduceDiv, Int.reduceLE, Int.reduceLT, Int.reduceToNat, Int.reduceAdd, Int.reduceSub, Int.reduceMul, Int.reduceEq, Int.reduceNeg, BitVec.reduceOfInt, BitVec.reduceToNat, BitVec.reduceEq, BitVec.reduceNe, BitVec.reduceLT, reduceCtorEq, List.forall_mem_nil, Try.ntmps16, Try.results16, treeB_length]
  refine go_loop (fun j st => ∃ (i : Nat) (best : Int × Bool) (v : V), i + j = 33 ∧ ((∃ c, i ≤ 32 ∧ c < A.length ∧ v = .ptr c 0 ∧ findA A ((pathA a 32).drop i) c best = R) ∨ (v = .nilPtr ∧ best = R)) ∧
    st = ⟨[(0, .ptr 0 0), (1, .u32 a), (6, .i64 best.1), (7, .bool best.2), (8, v), (9, .i64 i)], treeB many A⟩) ?_ ?_
  · exact start_mk 33 ⟨[(0, .ptr 0 0), (1, .u32 a), (6, .i64 0), (7, .bool false), (8, .ptr 0 0), (9, .i64 (0 : Nat))], treeB many A⟩ (by simp [St.get, lookS]) rfl (fun _ _ h => h)
      ⟨0, (0, false), .ptr 0 0, by omega, .inl ⟨0, by omega, hA.1, rfl, hR⟩, rfl⟩
  rintro j st ⟨i, best, v, hij, hv, rfl⟩ _
  rcases hv with ⟨c, hi, hc, rfl, hf⟩ | ⟨rfl, rfl⟩
  · obtain ⟨nd, hnd⟩ : ∃ nd, A[c]? = some nd := ⟨A[c], List.getElem?_eq_getElem hc⟩
    have hget := hT.here c nd hnd
    rw [show id c = c from rfl] at hget
    unfold ndB at hget
    have hgd := getD_of hnd
    have hkc := hA.2 c nd hnd
    by_cases h32 : i = 32
    · have hd : (pathA a 32).drop i = [] := List.drop_of_length_le (by unfold pathA; simp; omega)
      have h32' : ((i : Int) = 32) = True := eq_true (by omega)
      rw [hd] at hf
      unfold findA at hf
      rw [hgd] at hf
      cases his : nd.is with
      | true =>
        rw [his, if_pos rfl] at hf
        rw [his] at hget
        subst hf
        simp -implicitDefEqProofs only [go_sem, ↓reduceIte, Nat.reduceEqDiff, Nat.reduceLT, Nat.reduceLeDiff, Nat.reduceAdd, Nat.reduceSub, Nat.reduceMul, Nat.reduceMod, Nat.reduceDiv, Int.reduceLE, Int.reduceLT, Int.reduceToNat, Int.reduceAdd, Int.reduceSub, Int.reduceMul, Int.reduceEq, Int.reduceNeg, BitVec.reduceOfInt, BitVec.reduceToNat, BitVec.reduceEq, BitVec.reduceNe, BitVec.reduceLT, reduceCtorEq, List.forall_mem_nil, hget, h32']
        refine ⟨by omega, by omega, ?_⟩
        exact Fin.tree hT (Nat.le_refl _) (fun _ _ => rfl) ⟨rfl, ⟨trivial, trivial, trivial⟩⟩
      | false =>
        rw [his, if_neg (by simp)] at hf
        rw [his] at hget
        subst hf
        simp -implicitDefEqProofs only [go_sem, ↓reduceIte, Nat.reduceEqDiff, Nat.reduceLT, Nat.reduceLeDiff, Nat.reduceAdd, Nat.reduceSub, Nat.reduceMul, Nat.reduceMod, Nat.reduceDiv, Int.reduceLE, Int.reduceLT, Int.reduceToNat, Int.reduceAdd, Int.reduceSub, Int.reduceMul, Int.reduceEq, Int.reduceNeg, BitVec.reduceOfInt, BitVec.reduceToNat, BitVec.reduceEq, BitVec.reduceNe, BitVec.reduceLT, reduceCtorEq, List.forall_mem_nil, hget, h32']
        refine ⟨by omega, ?_⟩
        exact Fin.tree hT (Nat.le_refl _) (fun _ _ => rfl) ⟨rfl, ⟨trivial, trivial, trivial⟩⟩
    · have h32' : ((i : Int) = 32) = False := eq_false (by omega)
      have hw : w64 (31 - (i : Int)) = ((31 - i : Nat) : Int) := by rw [w64_of (by omega) (by omega)]; omega
      have hw1 : w64 ((i : Int) + 1) = ((i + 1 : Nat) : Int) := by rw [w64_of (by omega) (by omega)]; omega
      have hnn : (0 : Int) ≤ ((31 - i : Nat) : Int) := by omega
      have hbit := bit_val a i
      rw [pathA_drop a (by omega)] at hf
      unfold findA at hf
      simp only [hgd] at hf
      cases hb : bitA a i with
      | false =>
        rw [hb] at hbit hf
        simp only [Bool.false_eq_true, if_false, if_true] at hbit
        rw [show nd.kid false = nd.k0 from rfl] at hf
        cases his : nd.is with
        | true =>
          rw [his] at hf hget
          simp only [Bool.false_eq_true, if_false, if_true] at hf
          by_cases hk : nd.k0 = 0
          · rw [if_pos hk] at hf
            have hkv : kidV id nd.k0 = .nilPtr := if_pos hk
            rw [hkv] at hget
            simp -implicitDefEqProofs only [go_sem, ↓reduceIte, Nat.reduceEqDiff, Nat.reduceLT, Nat.reduceLeDiff, Nat.reduceAdd, Nat.reduceSub, Nat.reduceMul, Nat.reduceMod, Nat.reduceDiv, Int.reduceLE, Int.reduceLT, Int.reduceToNat, Int.reduceAdd, Int.reduceSub, Int.reduceMul, Int.reduceEq, Int.reduceNeg, BitVec.reduceOfInt, BitVec.reduceToNat, BitVec.reduceEq, BitVec.reduceNe, BitVec.reduceLT, reduceCtorEq, List.forall_mem_nil, hget, h32', hw, hnn, Int.toNat_natCast, hbit]
            refine ⟨by omega, by omega, by kernel_rfl, ?_⟩
            exact again_mk (j - 1) ⟨[(0, .ptr 0 0), (1, .u32 a), (6, .i64 nd.owner), (7, .bool true), (8, .nilPtr), (9, .i64 (i + 1 : Nat))], treeB many A⟩ (by omega) (by simp [St.get, lookS, hw1]) rfl (fun _ _ h => h) ⟨i + 1, (nd.owner, true), .nilPtr, by omega, .inr ⟨rfl, hf⟩, rfl⟩
          · rw [if_neg hk] at hf
            have hkv : kidV id nd.k0 = .ptr nd.k0 0 := if_neg hk
            rw [hkv] at hget
            simp -implicitDefEqProofs only [go_sem, ↓reduceIte, Nat.reduceEqDiff, Nat.reduceLT, Nat.reduceLeDiff, Nat.reduceAdd, Nat.reduceSub, Nat.reduceMul, Nat.reduceMod, Nat.reduceDiv, Int.reduceLE, Int.reduceLT, Int.reduceToNat, Int.reduceAdd, Int.reduceSub, Int.reduceMul, Int.reduceEq, Int.reduceNeg, BitVec.reduceOfInt, BitVec.reduceToNat, BitVec.reduceEq, BitVec.reduceNe, BitVec.reduceLT, reduceCtorEq, List.forall_mem_nil, hget, h32', hw, hnn, Int.toNat_natCast, hbit]
            refine ⟨by omega, by omega, by kernel_rfl, ?_⟩
            exact again_mk (j - 1) ⟨[(0, .ptr 0 0), (1, .u32 a), (6, .i64 nd.owner), (7, .bool true), (8, .ptr nd.k0 0), (9, .i64 (i + 1 : Nat))], treeB many A⟩ (by omega) (by simp [St.get, lookS, hw1]) rfl (fun _ _ h => h) ⟨i + 1, (nd.owner, true), .ptr nd.k0 0, by omega, .inl ⟨nd.k0, by omega, hkc.1, rfl, hf⟩, rfl⟩
        | false =>
          rw [his] at hf hget
          simp only [Bool.false_eq_true, if_false, if_true] at hf
          by_cases hk : nd.k0 = 0
          · rw [if_pos hk] at hf
            have hkv : kidV id nd.k0 = .nilPtr := if_pos hk
            rw [hkv] at hget
            simp -implicitDefEqProofs only [go_sem, ↓reduceIte, Nat.reduceEqDiff, Nat.reduceLT, Nat.reduceLeDiff, Nat.reduceAdd, Nat.reduceSub, Nat.reduceMul, Nat.reduceMod, Nat.reduceDiv, Int.reduceLE, Int.reduceLT, Int.reduceToNat, Int.reduceAdd, Int.reduceSub, Int.reduceMul, Int.reduceEq, Int.reduceNeg, BitVec.reduceOfInt, BitVec.reduceToNat, BitVec.reduceEq, BitVec.reduceNe, BitVec.reduceLT, reduceCtorEq, List.forall_mem_nil, hget, h32', hw, hnn, Int.toNat_natCast, hbit]
            refine ⟨by omega, by kernel_rfl, ?_⟩
            exact again_mk (j - 1) ⟨[(0, .ptr 0 0), (1, .u32 a), (6, .i64 best.1), (7, .bool best.2), (8, .nilPtr), (9, .i64 (i + 1 : Nat))], treeB many A⟩ (by omega) (by simp [St.get, lookS, hw1]) rfl (fun _ _ h => h) ⟨i + 1, best, .nilPtr, by omega, .inr ⟨rfl, hf⟩, rfl⟩
          · rw [if_neg hk] at hf
            have hkv : kidV id nd.k0 = .ptr nd.k0 0 := if_neg hk
            rw [hkv] at hget
            simp -implicitDefEqProofs only [go_sem, ↓reduceIte, Nat.reduceEqDiff, Nat.reduceLT, Nat.reduceLeDiff, Nat.reduceAdd, Nat.reduceSub, Nat.reduceMul, Nat.reduceMod, Nat.reduceDiv, Int.reduceLE, Int.reduceLT, Int.reduceToNat, Int.reduceAdd, Int.reduceSub, Int.reduceMul, Int.reduceEq, Int.reduceNeg, BitVec.reduceOfInt, BitVec.reduceToNat, BitVec.reduceEq, BitVec.reduceNe, BitVec.reduceLT, reduceCtorEq, List.forall_mem_nil, hget, h32', hw, hnn, Int.toNat_natCast, hbit]
            refine ⟨by omega, by kernel_rfl, ?_⟩
            exact again_mk (j - 1) ⟨[(0, .ptr 0 0), (1, .u32 a), (6, .i64 best.1), (7, .bool best.2), (8, .ptr nd.k0 0), (9, .i64 (i + 1 : Nat))], treeB many A⟩ (by omega) (by simp [St.get, lookS, hw1]) rfl (fun _ _ h => h) ⟨i + 1, best, .ptr nd.k0 0, by omega, .inl ⟨nd.k0, by omega, hkc.1, rfl, hf⟩, rfl⟩
      | true =>
        rw [hb] at hbit hf
        simp only [Bool.false_eq_true, if_false, if_true] at hbit
        rw [show nd.kid true = nd.k1 from rfl] at hf
        cases his : nd.is with
        | true =>
          rw [his] at hf hget
          simp only [Bool.false_eq_true, if_false, if_true] at hf
          by_cases hk : nd.k1 = 0
          · rw [if_pos hk] at hf
            have hkv : kidV id nd.k1 = .nilPtr := if_pos hk
            rw [hkv] at hget
            simp -implicitDefEqProofs only [go_sem, ↓reduceIte, Nat.reduceEqDiff, Nat.reduceLT, Nat.reduceLeDiff, Nat.reduceAdd, Nat.reduceSub, Nat.reduceMul, Nat.reduceMod, Nat.reduceDiv, Int.reduceLE, Int.reduceLT, Int.reduceToNat, Int.reduceAdd, Int.reduceSub, Int.reduceMul, Int.reduceEq, Int.reduceNeg, BitVec.reduceOfInt, BitVec.reduceToNat, BitVec.reduceEq, BitVec.reduceNe, BitVec.reduceLT, reduceCtorEq, List.forall_mem_nil, hget, h32', hw, hnn, Int.toNat_natCast, hbit]
            refine ⟨by omega, by omega, by omega, by kernel_rfl, ?_⟩
            exact again_mk (j - 1) ⟨[(0, .ptr 0 0), (1, .u32 a), (6, .i64 nd.owner), (7, .bool true), (8, .nilPtr), (9, .i64 (i + 1 : Nat))], treeB many A⟩ (by omega) (by simp [St.get, lookS, hw1]) rfl (fun _ _ h => h) ⟨i + 1, (nd.owner, true), .nilPtr, by omega, .inr ⟨rfl, hf⟩, rfl⟩
          · rw [if_neg hk] at hf
            have hkv : kidV id nd.k1 = .ptr nd.k1 0 := if_neg hk
            rw [hkv] at hget
            simp -implicitDefEqProofs only [go_sem, ↓reduceIte, Nat.reduceEqDiff, Nat.reduceLT, Nat.reduceLeDiff, Nat.reduceAdd, Nat.reduceSub, Nat.reduceMul, Nat.reduceMod, Nat.reduceDiv, Int.reduceLE, Int.reduceLT, Int.reduceToNat, Int.reduceAdd, Int.reduceSub, Int.reduceMul, Int.reduceEq, Int.reduceNeg, BitVec.reduceOfInt, BitVec.reduceToNat, BitVec.reduceEq, BitVec.reduceNe, BitVec.reduceLT, reduceCtorEq, List.forall_mem_nil, hget, h32', hw, hnn, Int.toNat_natCast, hbit]
            refine ⟨by omega, by omega, by omega, by kernel_rfl, ?_⟩
            exact again_mk (j - 1) ⟨[(0, .ptr 0 0), (1, .u32 a), (6, .i64 nd.owner), (7, .bool true), (8, .ptr nd.k1 0), (9, .i64 (i + 1 : Nat))], treeB many A⟩ (by omega) (by simp [St.get, lookS, hw1]) rfl (fun _ _ h => h) ⟨i + 1, (nd.owner, true), .ptr nd.k1 0, by omega, .inl ⟨nd.k1, by omega, hkc.2, rfl, hf⟩, rfl⟩
        | false =>
          rw [his] at hf hget
          simp only [Bool.false_eq_true, if_false, if_true] at hf
          by_cases hk : nd.k1 = 0
          · rw [if_pos hk] at hf
            have hkv : kidV id nd.k1 = .nilPtr := if_pos hk
            rw [hkv] at hget
            simp -implicitDefEqProofs only [go_sem, ↓reduceIte, Nat.reduceEqDiff, Nat.reduceLT, Nat.reduceLeDiff, Nat.reduceAdd, Nat.reduceSub, Nat.reduceMul, Nat.reduceMod, Nat.reduceDiv, Int.reduceLE, Int.reduceLT, Int.reduceToNat, Int.reduceAdd, Int.reduceSub, Int.reduceMul, Int.reduceEq, Int.reduceNeg, BitVec.reduceOfInt, BitVec.reduceToNat, BitVec.reduceEq, BitVec.reduceNe, BitVec.reduceLT, reduceCtorEq, List.forall_mem_nil, hget, h32', hw, hnn, Int.toNat_natCast, hbit]
            refine ⟨by omega, by omega, by kernel_rfl, ?_⟩
            exact again_mk (j - 1) ⟨[(0, .ptr 0 0), (1, .u32 a), (6, .i64 best.1), (7, .bool best.2), (8, .nilPtr), (9, .i64 (i + 1 : Nat))], treeB many A⟩ (by omega) (by simp [St.get, lookS, hw1]) rfl (fun _ _ h => h) ⟨i + 1, best, .nilPtr, by omega, .inr ⟨rfl, hf⟩, rfl⟩
          · rw [if_neg hk] at hf
            have hkv : kidV id nd.k1 = .ptr nd.k1 0 := if_neg hk
            rw [hkv] at hget
            simp -implicitDefEqProofs only [go_sem, ↓reduceIte, Nat.reduceEqDiff, Nat.reduceLT, Nat.reduceLeDiff, Nat.reduceAdd, Nat.reduceSub, Nat.reduceMul, Nat.reduceMod, Nat.reduceDiv, Int.reduceLE, Int.reduceLT, Int.reduceToNat, Int.reduceAdd, Int.reduceSub, Int.reduceMul, Int.reduceEq, Int.reduceNeg, BitVec.reduceOfInt, BitVec.reduceToNat, BitVec.reduceEq, BitVec.reduceNe, BitVec.reduceLT, reduceCtorEq, List.forall_mem_nil, hget, h32', hw, hnn, Int.toNat_natCast, hbit]
            refine ⟨by omega, by omega, by kernel_rfl, ?_⟩
            exact again_mk (j - 1) ⟨[(0, .ptr 0 0), (1, .u32 a), (6, .i64 best.1), (7, .bool best.2), (8, .ptr nd.k1 0), (9, .i64 (i + 1 : Nat))], treeB many A⟩ (by omega) (by simp [St.get, lookS, hw1]) rfl (fun _ _ h => h) ⟨i + 1, best, .ptr nd.k1 0, by omega, .inl ⟨nd.k1, by omega, hkc.2, rfl, hf⟩, rfl⟩
  · simp -implicitDefEqProofs only [go_sem, ↓reduceIte, Nat.reduceEqDiff, Nat.reduceLT, Nat.reduceLeDiff, Nat.reduceAdd, Nat.reduceSub, Nat.reduceMul, Nat.reduceMod, Nat.reduceDiv, Int.reduceLE, Int.reduceLT, Int.reduceToNat, Int.reduceAdd, Int.reduceSub, Int.reduceMul, Int.reduceEq, Int.reduceNeg, BitVec.reduceOfInt, BitVec.reduceToNat, BitVec.reduceEq, BitVec.reduceNe, BitVec.reduceLT, reduceCtorEq, List.forall_mem_nil]
    exact Fin.tree hT (Nat.le_refl _) (fun _ _ => rfl) ⟨rfl, ⟨trivial, trivial, trivial⟩⟩
end Go.Vm
end
section
-- NIDP
namespace Go.Vm
open Go.Proofs
set_option maxRecDepth 20000
/-- A path: address, bits, whose. -/
abbrev Pe := BitVec 32 × Nat × Int
def peC (e : Pe) : List V := [.u32 e.1, .i64 (e.2.1 : Int), .i64 e.2.2]
def pesC (L : List Pe) : List V := L.flatMap peC
theorem pesC_cons (e : Pe) (L : List Pe) : pesC (e :: L) = peC e ++ pesC L := rfl
theorem pesC_nil : pesC [] = [] := rfl
theorem pesC_append (L M : List Pe) : pesC (L ++ M) = pesC L ++ pesC M := List.flatMap_append
theorem pesC_snoc (L : List Pe) (e : Pe) : pesC (L ++ [e]) = pesC L ++ peC e := by rw [pesC_append, pesC_cons, pesC_nil, List.append_nil]
theorem pesC_length : ∀ (L : List Pe), (pesC L).length = L.length * 3
  | [] => rfl
  | e :: L => by rw [pesC_cons, List.length_append, pesC_length L, List.length_cons]; show 3 + _ = _; omega
theorem pesC_rens (σ : Nat → Nat) : ∀ (L : List Pe), rens σ (pesC L) = pesC L
  | [] => rfl
  | e :: L => by
    rw [pesC_cons, rens_eq, List.map_append, ← rens_eq, ← rens_eq, pesC_rens σ L]; rfl
theorem lows_app {n : Nat} : ∀ {l k : List V}, lows n l → lows n k → lows n (l ++ k)
  | [], _, _, h => h
  | _ :: _, _, h, k => ⟨h.1, lows_app h.2 k⟩
theorem pesC_lows (n : Nat) : ∀ (L : List Pe), lows n (pesC L)
  | [] => trivial
  | e :: L => by rw [pesC_cons]; exact lows_app ⟨trivial, trivial, trivial, trivial⟩ (pesC_lows n L)
theorem pesC_drop : ∀ (L : List Pe) (i : Nat), (pesC L).drop (i * 3) = pesC (L.drop i)
  | L, 0 => by rw [Nat.zero_mul]; rfl
  | [], i + 1 => by rw [List.drop_nil, pesC_nil, List.drop_nil]
  | e :: L, i + 1 => by
    rw [pesC_cons, List.drop_succ_cons, show (i + 1) * 3 = 3 + i * 3 by omega, ← List.drop_drop]
    have : (peC e ++ pesC L).drop 3 = pesC L := rfl
    rw [this, pesC_drop L i]
theorem pesC_take : ∀ (L : List Pe) (i : Nat), (pesC L).take (i * 3) = pesC (L.take i)
  | L, 0 => by rw [Nat.zero_mul]; rfl
  | [], i + 1 => by rw [List.take_nil, pesC_nil, List.take_nil]
  | e :: L, i + 1 => by
    rw [pesC_cons, List.take_succ_cons, pesC_cons, ← pesC_take L i, show (i + 1) * 3 = i * 3 + 1 + 1 + 1 by omega]; rfl
theorem pesC_row {L : List Pe} {i : Nat} {e : Pe} (h : L[i]? = some e) : ((pesC L).drop (i * 3)).take 3 = peC e := by
  obtain ⟨hl, rfl⟩ := List.getElem?_eq_some_iff.1 h
  rw [pesC_drop, List.drop_eq_getElem_cons hl]; rfl
theorem pesC_get {L : List Pe} {i : Nat} {e : Pe} (h : L[i]? = some e) (k : Nat) : (pesC L)[i * 3 + k]? = (peC e ++ pesC (L.drop (i + 1)))[k]? := by
  obtain ⟨hl, rfl⟩ := List.getElem?_eq_some_iff.1 h
  rw [← List.getElem?_drop, pesC_drop, List.drop_eq_getElem_cons hl]; rfl
theorem pesC_get0 {L : List Pe} {i : Nat} {e : Pe} (h : L[i]? = some e) : (pesC L).getD (i * 3) .junk = .u32 e.1 := by
  have := pesC_get h 0
  rw [Nat.add_zero] at this
  rw [List.getD_eq_getElem?_getD, this]; rfl
theorem pesC_get1 {L : List Pe} {i : Nat} {e : Pe} (h : L[i]? = some e) : (pesC L).getD (i * 3 + 1) .junk = .i64 (e.2.1 : Int) := by
  rw [List.getD_eq_getElem?_getD, pesC_get h 1]; rfl
theorem pesC_get2 {L : List Pe} {i : Nat} {e : Pe} (h : L[i]? = some e) : (pesC L).getD (i * 3 + 2) .junk = .i64 e.2.2 := by
  rw [List.getD_eq_getElem?_getD, pesC_get h 2]; rfl
theorem pesC_two {L : List Pe} {i : Nat} {e : Pe} (h : L[i]? = some e) : ((pesC L).drop (i * 3)).take 2 = [.u32 e.1, .i64 (e.2.1 : Int)] := by
  obtain ⟨hl, rfl⟩ := List.getElem?_eq_some_iff.1 h
  rw [pesC_drop, List.drop_eq_getElem_cons hl]; rfl
theorem pesC_set {L : List Pe} {i : Nat} {e : Pe} (h : L[i]? = some e) (p : Int) : (pesC L).set (i * 3 + 2) (.i64 p) = pesC (L.set i (e.1, e.2.1, p)) := by
  obtain ⟨hl, rfl⟩ := List.getElem?_eq_some_iff.1 h
  have e1 : L = L.take i ++ L[i] :: L.drop (i + 1) := by rw [← List.drop_eq_getElem_cons hl, List.take_append_drop]
  have hlen : (pesC (L.take i)).length = i * 3 := by rw [pesC_length, List.length_take]; omega
  have e2 : pesC L = pesC (L.take i) ++ (peC L[i] ++ pesC (L.drop (i + 1))) := by
    conv => lhs; rw [e1]
    rw [pesC_append, pesC_cons]
  have e3 : L.set i (L[i].1, L[i].2.1, p) = L.take i ++ (L[i].1, L[i].2.1, p) :: L.drop (i + 1) := by
    rw [List.set_eq_take_append_cons_drop, if_pos hl]
  rw [e3, pesC_append, pesC_cons, e2, List.set_append_right _ _ (by omega), hlen]
  rw [show i * 3 + 2 - i * 3 = 2 by omega]
  rfl
theorem outsideP_spec (n l h : Int) : PureFn Try.prog 26 [.i64 n, .i64 l, .i64 h] (.bool (decide (n < l ∨ h < n))) := by
  by_cases h1 : n < l
  · refine pure_of_vc (by kernel_rfl) (fn := Try.f26) (by kernel_rfl) Try.func26 rfl (by show 3 ≤ 15; decide) (by simp [lows, V.low]) (by simp [lows, V.low, lows_ite, low_ite]) (go_start ?_)
    simp -implicitDefEqProofs only [go_sem, ↓reduceIte, Nat.reduceEqDiff, Nat.reduceLT, Nat.reduceLeDiff, Nat.reduceAdd, Nat.reduceSub, Nat.reduceMul, Nat.reduceMod, Nat.reduceDiv, Int.reduceLE, Int.reduceLT, Int.reduceToNat, Int.reduceAdd, Int.reduceSub, Int.reduceMul, Int.reduceEq, Int.reduceNeg, BitVec.reduceOfInt, BitVec.reduceToNat, BitVec.reduceEq, BitVec.reduceNe, BitVec.reduceLT, reduceCtorEq, List.forall_mem_nil, Try.ntmps26, Try.results26, h1, true_or]
  · refine pure_of_vc (by kernel_rfl) (fn := Try.f26) (by kernel_rfl) Try.func26 rfl (by show 3 ≤ 15; decide) (by simp [lows, V.low]) (by simp [lows, V.low, lows_ite, low_ite]) (go_start ?_)
    simp -implicitDefEqProofs only [go_sem, ↓reduceIte, Nat.reduceEqDiff, Nat.reduceLT, Nat.reduceLeDiff, Nat.reduceAdd, Nat.reduceSub, Nat.reduceMul, Nat.reduceMod, Nat.reduceDiv, Int.reduceLE, Int.reduceLT, Int.reduceToNat, Int.reduceAdd, Int.reduceSub, Int.reduceMul, Int.reduceEq, Int.reduceNeg, BitVec.reduceOfInt, BitVec.reduceToNat, BitVec.reduceEq, BitVec.reduceNe, BitVec.reduceLT, reduceCtorEq, List.forall_mem_nil, Try.ntmps26, Try.results26, h1, false_or]
theorem form_iff (a : BitVec 32) {n : Nat} (hn : n ≤ 32) : a.setWidth 64 % (1#64 <<< (32 - n)) = 0#64 ↔ a <<< n = 0#32 := by
  have h1 : (1#64 <<< (32 - n)).toNat = 2 ^ (32 - n) := by
    rw [BitVec.toNat_shiftLeft, Nat.shiftLeft_eq]
    have : 2 ^ (32 - n) ≤ 2 ^ 32 := Nat.pow_le_pow_right (by omega) (by omega)
    rw [Nat.mod_eq_of_lt (by simp; omega)]; simp
  have h2 : (a.setWidth 64).toNat = a.toNat := by
    rw [BitVec.toNat_setWidth, Nat.mod_eq_of_lt (by have := a.isLt; omega)]
  have e : 2 ^ 32 = 2 ^ (32 - n) * 2 ^ n := by rw [← Nat.pow_add]; congr 1; omega
  rw [← BitVec.toNat_inj, ← BitVec.toNat_inj, BitVec.toNat_umod, h1, h2, BitVec.toNat_shiftLeft, Nat.shiftLeft_eq, e, Nat.mul_mod_mul_right]
  have hp : 0 < 2 ^ n := Nat.two_pow_pos n
  simp only [BitVec.toNat_ofNat, Nat.zero_mod]
  constructor
  · intro h; rw [h, Nat.zero_mul]
  · intro h
    rcases Nat.mul_eq_zero.1 h with h | h
    · exact h
    · omega
theorem one_shl {n : Nat} (hn : n ≤ 32) : ¬ (1#64 <<< (32 - n)) = 0#64 := by
  have h1 : (1#64 <<< (32 - n)).toNat = 2 ^ (32 - n) := by
    rw [BitVec.toNat_shiftLeft, Nat.shiftLeft_eq]
    have : 2 ^ (32 - n) ≤ 2 ^ 32 := Nat.pow_le_pow_right (by omega) (by omega)
    rw [Nat.mod_eq_of_lt (by simp; omega)]; simp
  intro h
  rw [h] at h1
  have := Nat.two_pow_pos (32 - n)
  simp at h1
  omega
theorem RSetN_bad (a : BitVec 32) (n p : Int) (h : n < 0 ∨ 32 < n ∨ p < 0 ∨ 8 ≤ p) : Spec0 Try.prog 15 [.ptr 0 0, .agg [.u32 a, .i64 n], .i64 p] [some ⟨false, [.nilSlice], none⟩] (.i64 1) [some ⟨false, [.nilSlice], none⟩] := by
  have h1 := outsideP_spec n 0 32
  have h2 := outsideP_spec p 0 7
  by_cases hn : n < 0 ∨ 32 < n
  · rw [decide_eq_true hn] at h1
    refine spec0_of_vc (by kernel_rfl) (fn := Try.f15) Try.func15 rfl (by show 3 ≤ 69; decide) (go_start ?_)
    simp -implicitDefEqProofs only [go_sem, ↓reduceIte, Nat.reduceEqDiff, Nat.reduceLT, Nat.reduceLeDiff, Nat.reduceAdd, Nat.reduceSub, Nat.reduceMul, Nat.reduceMod, Nat.reduceDiv, Int.reduceLE, Int.reduceLT, Int.reduceToNat, Int.reduceAdd, Int.reduceSub, Int.reduceMul, Int.reduceEq, Int.reduceNeg, BitVec.reduceOfInt, BitVec.reduceToNat, BitVec.reduceEq, BitVec.reduceNe, BitVec.reduceLT, reduceCtorEq, List.forall_mem_nil, Try.ntmps15, Try.results15]
    refine goCall_pure0 (h1) ?_
    simp -implicitDefEqProofs only [go_sem, ↓reduceIte, Nat.reduceEqDiff, Nat.reduceLT, Nat.reduceLeDiff, Nat.reduceAdd, Nat.reduceSub, Nat.reduceMul, Nat.reduceMod, Nat.reduceDiv, Int.reduceLE, Int.reduceLT, Int.reduceToNat, Int.reduceAdd, Int.reduceSub, Int.reduceMul, Int.reduceEq, Int.reduceNeg, BitVec.reduceOfInt, BitVec.reduceToNat, BitVec.reduceEq, BitVec.reduceNe, BitVec.reduceLT, reduceCtorEq, List.forall_mem_nil]
    exact Fin.ren [0] (by simp) (by simp) (by rfl) (by decide) (by simp [-List.map_map, -List.map_set]) (by simp [-List.map_map, -List.map_set])
  · rw [decide_eq_false hn] at h1
    rw [decide_eq_true (by omega)] at h2
    refine spec0_of_vc (by kernel_rfl) (fn := Try.f15) Try.func15 rfl (by show 3 ≤ 69; decide) (go_start ?_)
    simp -implicitDefEqProofs only [go_sem, ↓reduceIte, Nat.reduceEqDiff, Nat.reduceLT, Nat.reduceLeDiff, Nat.reduceAdd, Nat.reduceSub, Nat.reduceMul, Nat.reduceMod, Nat.reduceDiv, Int.reduceLE, Int.reduceLT, Int.reduceToNat, Int.reduceAdd, Int.reduceSub, Int.reduceMul, Int.reduceEq, Int.reduceNeg, BitVec.reduceOfInt, BitVec.reduceToNat, BitVec.reduceEq, BitVec.reduceNe, BitVec.reduceLT, reduceCtorEq, List.forall_mem_nil, Try.ntmps15, Try.results15]
    refine goCall_pure0 (h1) ?_
    simp -implicitDefEqProofs only [go_sem, ↓reduceIte, Nat.reduceEqDiff, Nat.reduceLT, Nat.reduceLeDiff, Nat.reduceAdd, Nat.reduceSub, Nat.reduceMul, Nat.reduceMod, Nat.reduceDiv, Int.reduceLE, Int.reduceLT, Int.reduceToNat, Int.reduceAdd, Int.reduceSub, Int.reduceMul, Int.reduceEq, Int.reduceNeg, BitVec.reduceOfInt, BitVec.reduceToNat, BitVec.reduceEq, BitVec.reduceNe, BitVec.reduceLT, reduceCtorEq, List.forall_mem_nil]
    refine goCall_pure0 (h2) ?_
    simp -implicitDefEqProofs only [go_sem, ↓reduceIte, Nat.reduceEqDiff, Nat.reduceLT, Nat.reduceLeDiff, Nat.reduceAdd, Nat.reduceSub, Nat.reduceMul, Nat.reduceMod, Nat.reduceDiv, Int.reduceLE, Int.reduceLT, Int.reduceToNat, Int.reduceAdd, Int.reduceSub, Int.reduceMul, Int.reduceEq, Int.reduceNeg, BitVec.reduceOfInt, BitVec.reduceToNat, BitVec.reduceEq, BitVec.reduceNe, BitVec.reduceLT, reduceCtorEq, List.forall_mem_nil]
    exact Fin.ren [0] (by simp) (by simp) (by rfl) (by decide) (by simp [-List.map_map, -List.map_set]) (by simp [-List.map_map, -List.map_set])
theorem RSetN_form (a : BitVec 32) (n : Nat) (p : Int) (hn : n ≤ 32) (hp0 : 0 ≤ p) (hp8 : p < 8) (hf : a <<< n ≠ 0#32) : Spec0 Try.prog 15 [.ptr 0 0, .agg [.u32 a, .i64 n], .i64 p] [some ⟨false, [.nilSlice], none⟩] (.i64 5) [some ⟨false, [.nilSlice], none⟩] := by
  have h1 := outsideP_spec n 0 32
  have h2 := outsideP_spec p 0 7
  rw [decide_eq_false (by omega)] at h1 h2
  have hw : w64 (32 - (n : Int)) = ((32 - n : Nat) : Int) := by rw [w64_of (by omega) (by omega)]; omega
  have hnn : (0 : Int) ≤ ((32 - n : Nat) : Int) := by omega
  have hz : ¬ a.setWidth 64 % (1#64 <<< (32 - n)) = 0#64 := fun h => hf ((form_iff a hn).1 h)
  have hy := one_shl hn
  refine spec0_of_vc (by kernel_rfl) (fn := Try.f15) Try.func15 rfl (by show 3 ≤ 69; decide) (go_start ?_)
  simp -implicitDefEqProofs only [go_sem, ↓reduceIte, Nat.reduceEqDiff, Nat.reduceLT, Nat.reduceLeDiff, Nat.reduceAdd, Nat.reduceSub, Nat.reduceMul, Nat.reduceMod, Nat.reduceDiv, Int.reduceLE, Int.reduceLT, Int.reduceToNat, Int.reduceAdd, Int.reduceSub, Int.reduceMul, Int.reduceEq, Int.reduceNeg, BitVec.reduceOfInt, BitVec.reduceToNat, BitVec.reduceEq, BitVec.reduceNe, BitVec.reduceLT, reduceCtorEq, List.forall_mem_nil, Try.ntmps15, Try.results15]
  refine goCall_pure0 (h1) ?_
  simp -implicitDefEqProofs only [go_sem, ↓reduceIte, Nat.reduceEqDiff, Nat.reduceLT, Nat.reduceLeDiff, Nat.reduceAdd, Nat.reduceSub, Nat.reduceMul, Nat.reduceMod, Nat.reduceDiv, Int.reduceLE, Int.reduceLT, Int.reduceToNat, Int.reduceAdd, Int.reduceSub, Int.reduceMul, Int.reduceEq, Int.reduceNeg, BitVec.reduceOfInt, BitVec.reduceToNat, BitVec.reduceEq, BitVec.reduceNe, BitVec.reduceLT, reduceCtorEq, List.forall_mem_nil]
  refine goCall_pure0 (h2) ?_
  simp -implicitDefEqProofs only [go_sem, ↓reduceIte, Nat.reduceEqDiff, Nat.reduceLT, Nat.reduceLeDiff, Nat.reduceAdd, Nat.reduceSub, Nat.reduceMul, Nat.reduceMod, Nat.reduceDiv, Int.reduceLE, Int.reduceLT, Int.reduceToNat, Int.reduceAdd, Int.reduceSub, Int.reduceMul, Int.reduceEq, Int.reduceNeg, BitVec.reduceOfInt, BitVec.reduceToNat, BitVec.reduceEq, BitVec.reduceNe, BitVec.reduceLT, reduceCtorEq, List.forall_mem_nil, hw, hnn, Int.toNat_natCast, hz, hy]
  refine ⟨hy, by kernel_rfl, ?_⟩
  exact Fin.ren [0] (by simp) (by simp) (by rfl) (by decide) (by simp [-List.map_map, -List.map_set]) (by simp [-List.map_map, -List.map_set])
theorem RSetS_bad (L : List Pe) (a : BitVec 32) (n p : Int) (h : n < 0 ∨ 32 < n ∨ p < 0 ∨ 8 ≤ p) : Spec0 Try.prog 15 [.ptr 0 0, .agg [.u32 a, .i64 n], .i64 p] [some ⟨false, [.slice 1 0 L.length 3], none⟩, some ⟨false, pesC L, none⟩] (.i64 1) [some ⟨false, [.slice 1 0 L.length 3], none⟩, some ⟨false, pesC L, none⟩] := by
  have h1 := outsideP_spec n 0 32
  have h2 := outsideP_spec p 0 7
  by_cases hn : n < 0 ∨ 32 < n
  · rw [decide_eq_true hn] at h1
    refine spec0_of_vc (by kernel_rfl) (fn := Try.f15) Try.func15 rfl (by show 3 ≤ 69; decide) (go_start ?_)
    simp -implicitDefEqProofs only [go_sem, ↓reduceIte, Nat.reduceEqDiff, Nat.reduceLT, Nat.reduceLeDiff, Nat.reduceAdd, Nat.reduceSub, Nat.reduceMul, Nat.reduceMod, Nat.reduceDiv, Int.reduceLE, Int.reduceLT, Int.reduceToNat, Int.reduceAdd, Int.reduceSub, Int.reduceMul, Int.reduceEq, Int.reduceNeg, BitVec.reduceOfInt, BitVec.reduceToNat, BitVec.reduceEq, BitVec.reduceNe, BitVec.reduceLT, reduceCtorEq, List.forall_mem_nil, Try.ntmps15, Try.results15]
    refine goCall_pure0 (h1) ?_
    simp -implicitDefEqProofs only [go_sem, ↓reduceIte, Nat.reduceEqDiff, Nat.reduceLT, Nat.reduceLeDiff, Nat.reduceAdd, Nat.reduceSub, Nat.reduceMul, Nat.reduceMod, Nat.reduceDiv, Int.reduceLE, Int.reduceLT, Int.reduceToNat, Int.reduceAdd, Int.reduceSub, Int.reduceMul, Int.reduceEq, Int.reduceNeg, BitVec.reduceOfInt, BitVec.reduceToNat, BitVec.reduceEq, BitVec.reduceNe, BitVec.reduceLT, reduceCtorEq, List.forall_mem_nil]
    exact Fin.ren [0, 1] (by simp) (by simp) (by rfl) (by decide) (by simp [-List.map_map, -List.map_set, pesC_rens, pesC_lows]) (by simp [-List.map_map, -List.map_set, pesC_rens, pesC_lows])
  · rw [decide_eq_false hn] at h1
    rw [decide_eq_true (by omega)] at h2
    refine spec0_of_vc (by kernel_rfl) (fn := Try.f15) Try.func15 rfl (by show 3 ≤ 69; decide) (go_start ?_)
    simp -implicitDefEqProofs only [go_sem, ↓reduceIte, Nat.reduceEqDiff, Nat.reduceLT, Nat.reduceLeDiff, Nat.reduceAdd, Nat.reduceSub, Nat.reduceMul, Nat.reduceMod, Nat.reduceDiv, Int.reduceLE, Int.reduceLT, Int.reduceToNat, Int.reduceAdd, Int.reduceSub, Int.reduceMul, Int.reduceEq, Int.reduceNeg, BitVec.reduceOfInt, BitVec.reduceToNat, BitVec.reduceEq, BitVec.reduceNe, BitVec.reduceLT, reduceCtorEq, List.forall_mem_nil, Try.ntmps15, Try.results15]
    refine goCall_pure0 (h1) ?_
    simp -implicitDefEqProofs only [go_sem, ↓reduceIte, Nat.reduceEqDiff, Nat.reduceLT, Nat.reduceLeDiff, Nat.reduceAdd, Nat.reduceSub, Nat.reduceMul, Nat.reduceMod, Nat.reduceDiv, Int.reduceLE, Int.reduceLT, Int.reduceToNat, Int.reduceAdd, Int.reduceSub, Int.reduceMul, Int.reduceEq, Int.reduceNeg, BitVec.reduceOfInt, BitVec.reduceToNat, BitVec.reduceEq, BitVec.reduceNe, BitVec.reduceLT, reduceCtorEq, List.forall_mem_nil]
    refine goCall_pure0 (h2) ?_
    simp -implicitDefEqProofs only [go_sem, ↓reduceIte, Nat.reduceEqDiff, Nat.reduceLT, Nat.reduceLeDiff, Nat.reduceAdd, Nat.reduceSub, Nat.reduceMul, Nat.reduceMod, Nat.reduceDiv, Int.reduceLE, Int.reduceLT, Int.reduceToNat, Int.reduceAdd, Int.reduceSub, Int.reduceMul, Int.reduceEq, Int.reduceNeg, BitVec.reduceOfInt, BitVec.reduceToNat, BitVec.reduceEq, BitVec.reduceNe, BitVec.reduceLT, reduceCtorEq, List.forall_mem_nil]
    exact Fin.ren [0, 1] (by simp) (by simp) (by rfl) (by decide) (by simp [-List.map_map, -List.map_set, pesC_rens, pesC_lows]) (by simp [-List.map_map, -List.map_set, pesC_rens, pesC_lows])
theorem RSetS_form (L : List Pe) (a : BitVec 32) (n : Nat) (p : Int) (hn : n ≤ 32) (hp0 : 0 ≤ p) (hp8 : p < 8) (hf : a <<< n ≠ 0#32) : Spec0 Try.prog 15 [.ptr 0 0, .agg [.u32 a, .i64 n], .i64 p] [some ⟨false, [.slice 1 0 L.length 3], none⟩, some ⟨false, pesC L, none⟩] (.i64 5) [some ⟨false, [.slice 1 0 L.length 3], none⟩, some ⟨false, pesC L, none⟩] := by
  have h1 := outsideP_spec n 0 32
  have h2 := outsideP_spec p 0 7
  rw [decide_eq_false (by omega)] at h1 h2
  have hw : w64 (32 - (n : Int)) = ((32 - n : Nat) : Int) := by rw [w64_of (by omega) (by omega)]; omega
  have hnn : (0 : Int) ≤ ((32 - n : Nat) : Int) := by omega
  have hz : ¬ a.setWidth 64 % (1#64 <<< (32 - n)) = 0#64 := fun h => hf ((form_iff a hn).1 h)
  have hy := one_shl hn
  refine spec0_of_vc (by kernel_rfl) (fn := Try.f15) Try.func15 rfl (by show 3 ≤ 69; decide) (go_start ?_)
  simp -implicitDefEqProofs only [go_sem, ↓reduceIte, Nat.reduceEqDiff, Nat.reduceLT, Nat.reduceLeDiff, Nat.reduceAdd, Nat.reduceSub, Nat.reduceMul, Nat.reduceMod, Nat.reduceDiv, Int.reduceLE, Int.reduceLT, Int.reduceToNat, Int.reduceAdd, Int.reduceSub, Int.reduceMul, Int.reduceEq, Int.reduceNeg, BitVec.reduceOfInt, BitVec.reduceToNat, BitVec.reduceEq, BitVec.reduceNe, BitVec.reduceLT, reduceCtorEq, List.forall_mem_nil, Try.ntmps15, Try.results15]
  refine goCall_pure0 (h1) ?_
  simp -implicitDefEqProofs only [go_sem, ↓reduceIte, Nat.reduceEqDiff, Nat.reduceLT, Nat.reduceLeDiff, Nat.reduceAdd, Nat.reduceSub, Nat.reduceMul, Nat.reduceMod, Nat.reduceDiv, Int.reduceLE, Int.reduceLT, Int.reduceToNat, Int.reduceAdd, Int.reduceSub, Int.reduceMul, Int.reduceEq, Int.reduceNeg, BitVec.reduceOfInt, BitVec.reduceToNat, BitVec.reduceEq, BitVec.reduceNe, BitVec.reduceLT, reduceCtorEq, List.forall_mem_nil]
  refine goCall_pure0 (h2) ?_
  simp -implicitDefEqProofs only [go_sem, ↓reduceIte, Nat.reduceEqDiff, Nat.reduceLT, Nat.reduceLeDiff, Nat.reduceAdd, Nat.reduceSub, Nat.reduceMul, Nat.reduceMod, Nat.reduceDiv, Int.reduceLE, Int.reduceLT, Int.reduceToNat, Int.reduceAdd, Int.reduceSub, Int.reduceMul, Int.reduceEq, Int.reduceNeg, BitVec.reduceOfInt, BitVec.reduceToNat, BitVec.reduceEq, BitVec.reduceNe, BitVec.reduceLT, reduceCtorEq, List.forall_mem_nil, hw, hnn, Int.toNat_natCast, hz, hy]
  refine ⟨hy, by kernel_rfl, ?_⟩
  exact Fin.ren [0, 1] (by simp) (by simp) (by rfl) (by decide) (by simp [-List.map_map, -List.map_set, pesC_rens, pesC_lows]) (by simp [-List.map_map, -List.map_set, pesC_rens, pesC_lows])
end Go.Vm
end
section
-- NIDP
namespace Go.Vm
open Go.Proofs
set_option maxRecDepth 20000
def samePre (a : BitVec 32) (n : Nat) (e : Pe) : Bool := decide (e.1 = a ∧ e.2.1 = n)
/-- R's Set: the error, the paths. -/
def rsetL (L : List Pe) (a : BitVec 32) (n : Nat) (p : Int) : Int × List Pe :=
  match L.findIdx? (samePre a n) with
  | some i => (0, L.set i (a, n, p))
  | none => if L.length = 64 then (9, L) else (0, L ++ [(a, n, p)])
theorem RSetN_ok (a : BitVec 32) (n : Nat) (p : Int) (hn : n ≤ 32) (hp0 : 0 ≤ p) (hp8 : p < 8) (hf : a <<< n = 0#32) : Spec0 Try.prog 15 [.ptr 0 0, .agg [.u32 a, .i64 n], .i64 p] [some ⟨false, [.nilSlice], none⟩] (.i64 0) [some ⟨false, [.slice 1 0 1 3], none⟩, some ⟨false, pesC [(a, n, p)], none⟩] := by
  have h1 := outsideP_spec n 0 32
  have h2 := outsideP_spec p 0 7
  rw [decide_eq_false (by omega)] at h1 h2
  have hw : w64 (32 - (n : Int)) = ((32 - n : Nat) : Int) := by rw [w64_of (by omega) (by omega)]; omega
  have hnn : (0 : Int) ≤ ((32 - n : Nat) : Int) := by omega
  have hz := (form_iff a hn).2 hf
  have hy := one_shl hn
  refine spec0_of_vc (by kernel_rfl) (fn := Try.f15) Try.func15 rfl (by show 3 ≤ 69; decide) (go_start ?_)
  simp -implicitDefEqProofs only [go_sem, ↓reduceIte, Nat.reduceEqDiff, Nat.reduceLT, Nat.reduceLeDiff, Nat.reduceAdd, Nat.reduceSub, Nat.reduceMul, Nat.reduceMod, Nat.reduceDiv, Int.reduceLE, Int.reduceLT, Int.reduceToNat, Int.reduceAdd, Int.reduceSub, Int.reduceMul, Int.reduceEq, Int.reduceNeg, BitVec.reduceOfInt, BitVec.reduceToNat, BitVec.reduceEq, BitVec.reduceNe, BitVec.reduceLT, reduceCtorEq, List.forall_mem_nil, Try.ntmps15, Try.results15]
  refine goCall_pure0 (h1) ?_
  simp -implicitDefEqProofs only [go_sem, ↓reduceIte, Nat.reduceEqDiff, Nat.reduceLT, Nat.reduceLeDiff, Nat.reduceAdd, Nat.reduceSub, Nat.reduceMul, Nat.reduceMod, Nat.reduceDiv, Int.reduceLE, Int.reduceLT, Int.reduceToNat, Int.reduceAdd, Int.reduceSub, Int.reduceMul, Int.reduceEq, Int.reduceNeg, BitVec.reduceOfInt, BitVec.reduceToNat, BitVec.reduceEq, BitVec.reduceNe, BitVec.reduceLT, reduceCtorEq, List.forall_mem_nil]
  refine goCall_pure0 (h2) ?_
  simp -implicitDefEqProofs only [go_sem, ↓reduceIte, Nat.reduceEqDiff, Nat.reduceLT, Nat.reduceLeDiff, Nat.reduceAdd, Nat.reduceSub, Nat.reduceMul, Nat.reduceMod, Nat.reduceDiv, Int.reduceLE, Int.reduceLT, Int.reduceToNat, Int.reduceAdd, Int.reduceSub, Int.reduceMul, Int.reduceEq, Int.reduceNeg, BitVec.reduceOfInt, BitVec.reduceToNat, BitVec.reduceEq, BitVec.reduceNe, BitVec.reduceLT, reduceCtorEq, List.forall_mem_nil, hw, hnn, Int.toNat_natCast, hz, hy]
  refine ⟨hy, by kernel_rfl, ?_⟩
  refine go_unroll 1 ?_
  simp -implicitDefEqProofs only [go_sem, ↓reduceIte, Nat.reduceEqDiff, Nat.reduceLT, Nat.reduceLeDiff, Nat.reduceAdd, Nat.reduceSub, Nat.reduceMul, Nat.reduceMod, Nat.reduceDiv, Int.reduceLE, Int.reduceLT, Int.reduceToNat, Int.reduceAdd, Int.reduceSub, Int.reduceMul, Int.reduceEq, Int.reduceNeg, BitVec.reduceOfInt, BitVec.reduceToNat, BitVec.reduceEq, BitVec.reduceNe, BitVec.reduceLT, reduceCtorEq, List.forall_mem_nil]
  refine ⟨by kernel_rfl, ?_⟩
  exact Fin.ren [0, 3] (by simp) (by simp) (by rfl) (by decide) (by simp [-List.map_map, -List.map_set, pesC_cons, pesC_nil, peC]) (by simp [-List.map_map, -List.map_set, pesC_cons, pesC_nil, peC])
theorem RSet_ok (L : List Pe) (a : BitVec 32) (n : Nat) (p : Int) (hL : L.length ≤ 64) (hn : n ≤ 32) (hp0 : 0 ≤ p) (hp8 : p < 8) (hf : a <<< n = 0#32) :
    ((∃ i, L.findIdx? (samePre a n) = some i ∧ Spec0 Try.prog 15 [.ptr 0 0, .agg [.u32 a, .i64 n], .i64 p] [some ⟨false, [.slice 1 0 L.length 3], none⟩, some ⟨false, pesC L, none⟩] (.i64 0) [some ⟨false, [.slice 1 0 L.length 3], none⟩, some ⟨false, pesC (L.set i (a, n, p)), none⟩]) ∨
    (L.findIdx? (samePre a n) = none ∧ L.length = 64 ∧ Spec0 Try.prog 15 [.ptr 0 0, .agg [.u32 a, .i64 n], .i64 p] [some ⟨false, [.slice 1 0 L.length 3], none⟩, some ⟨false, pesC L, none⟩] (.i64 9) [some ⟨false, [.slice 1 0 L.length 3], none⟩, some ⟨false, pesC L, none⟩]) ∨
    (L.findIdx? (samePre a n) = none ∧ L.length ≠ 64 ∧ Spec0 Try.prog 15 [.ptr 0 0, .agg [.u32 a, .i64 n], .i64 p] [some ⟨false, [.slice 1 0 L.length 3], none⟩, some ⟨false, pesC L, none⟩] (.i64 0) [some ⟨false, [.slice 2 0 (L.length + 1) 3], none⟩, none, some ⟨false, pesC (L ++ [(a, n, p)]), none⟩])) := by
  have h1 := outsideP_spec n 0 32
  have h2 := outsideP_spec p 0 7
  rw [decide_eq_false (by omega)] at h1 h2
  have hw : w64 (32 - (n : Int)) = ((32 - n : Nat) : Int) := by rw [w64_of (by omega) (by omega)]; omega
  have hnn : (0 : Int) ≤ ((32 - n : Nat) : Int) := by omega
  have hz := (form_iff a hn).2 hf
  have hy := one_shl hn
  have key : ∀ (v : V) (h' : List (Option Blk)), (∀ i e, L[i]? = some e → (∀ k, k < i → ∀ x, L[k]? = some x → samePre a n x = false) → samePre a n e = true →
      v = .i64 0 ∧ h' = [some ⟨false, [.slice 1 0 L.length 3], none⟩, some ⟨false, pesC (L.set i (e.1, e.2.1, p)), none⟩]) →
      ((∀ x ∈ L, samePre a n x = false) → (L.length = 64 ∧ v = .i64 9 ∧ h' = [some ⟨false, [.slice 1 0 L.length 3], none⟩, some ⟨false, pesC L, none⟩]) ∨ (L.length ≠ 64 ∧ v = .i64 0 ∧ h' = [some ⟨false, [.slice 2 0 (L.length + 1) 3], none⟩, none, some ⟨false, pesC (L ++ [(a, n, p)]), none⟩])) →
      Spec0 Try.prog 15 [.ptr 0 0, .agg [.u32 a, .i64 n], .i64 p] [some ⟨false, [.slice 1 0 L.length 3], none⟩, some ⟨false, pesC L, none⟩] v h' := fun v h' hfound hnot => by
    refine spec0_of_vc (by kernel_rfl) (fn := Try.f15) Try.func15 rfl (by show 3 ≤ 69; decide) (go_start ?_)
    simp -implicitDefEqProofs only [go_sem, ↓reduceIte, Nat.reduceEqDiff, Nat.reduceLT, Nat.reduceLeDiff, Nat.reduceAdd, Nat.reduceSub, Nat.reduceMul, Nat.reduceMod, Nat.reduceDiv, Int.reduceLE, Int.reduceLT, Int.reduceToNat, Int.reduceAdd, Int.reduceSub, Int.reduceMul, Int.reduceEq, Int.reduceNeg, BitVec.reduceOfInt, BitVec.reduceToNat, BitVec.reduceEq, BitVec.reduceNe, BitVec.reduceLT, reduceCtorEq, List.forall_mem_nil, Try.ntmps15, Try.results15]
    refine goCall_pure0 (h1) ?_
    simp -implicitDefEqProofs only [go_sem, ↓reduceIte, Nat.reduceEqDiff, Nat.reduceLT, Nat.reduceLeDiff, Nat.reduceAdd, Nat.reduceSub, Nat.reduceMul, Nat.reduceMod, Nat.reduceDiv, Int.reduceLE, Int.reduceLT, Int.reduceToNat, Int.reduceAdd, Int.reduceSub, Int.reduceMul, Int.reduceEq, Int.reduceNeg, BitVec.reduceOfInt, BitVec.reduceToNat, BitVec.reduceEq, BitVec.reduceNe, BitVec.reduceLT, reduceCtorEq, List.forall_mem_nil]
    refine goCall_pure0 (h2) ?_
    simp -implicitDefEqProofs only [go_sem, ↓reduceIte, Nat.reduceEqDiff, Nat.reduceLT, Nat.reduceLeDiff, Nat.reduceAdd, Nat.reduceSub, Nat.reduceMul, Nat.reduceMod, Nat.reduceDiv, Int.reduceLE, Int.reduceLT, Int.reduceToNat, Int.reduceAdd, Int.reduceSub, Int.reduceMul, Int.reduceEq, Int.reduceNeg, BitVec.reduceOfInt, BitVec.reduceToNat, BitVec.reduceEq, BitVec.reduceNe, BitVec.reduceLT, reduceCtorEq, List.forall_mem_nil, hw, hnn, Int.toNat_natCast, hz, hy]
    refine ⟨hy, by kernel_rfl, ?_⟩
    refine go_loop (fun j st => ∃ i : Nat, i + j = L.length ∧ (∀ k, k < i → ∀ x, L[k]? = some x → samePre a n x = false) ∧ st = ⟨[(0, .ptr 0 0), (2, .i64 p), (4, .ptr 2 0), (28, .i64 L.length), (29, .i64 i)], [some ⟨false, [.slice 1 0 L.length 3], none⟩, some ⟨false, pesC L, none⟩, some ⟨false, [.u32 a, .i64 n], none⟩]⟩) ?_ ?_
    · exact start_mk L.length ⟨[(0, .ptr 0 0), (2, .i64 p), (4, .ptr 2 0), (28, .i64 L.length), (29, .i64 (0 : Nat))], [some ⟨false, [.slice 1 0 L.length 3], none⟩, some ⟨false, pesC L, none⟩, some ⟨false, [.u32 a, .i64 n], none⟩]⟩ (by simp [St.get, lookS]) rfl (fun _ _ h => h) ⟨0, by omega, fun k hk => by omega, rfl⟩
    rintro j st ⟨i, hij, hno, rfl⟩ _
    by_cases hi : i < L.length
    · have hi' : (i : Int) < (L.length : Int) := by omega
      have hw1 : w64 ((i : Int) + 1) = ((i + 1 : Nat) : Int) := by rw [w64_of (by omega) (by omega)]; omega
      obtain ⟨e, he⟩ : ∃ e, L[i]? = some e := ⟨L[i], List.getElem?_eq_getElem hi⟩
      have hrow := pesC_two he
      cases hs : samePre a n e with
      | true =>
        obtain ⟨rfl, rfl⟩ := hfound i e he hno hs
        have hs' := of_decide_eq_true hs
        have e1 : (e.1 = a) = True := eq_true hs'.1
        have e2 : ((e.2.1 : Int) = (n : Int)) = True := eq_true (by rw [hs'.2])
        simp -implicitDefEqProofs only [go_sem, ↓reduceIte, Nat.reduceEqDiff, Nat.reduceLT, Nat.reduceLeDiff, Nat.reduceAdd, Nat.reduceSub, Nat.reduceMul, Nat.reduceMod, Nat.reduceDiv, Int.reduceLE, Int.reduceLT, Int.reduceToNat, Int.reduceAdd, Int.reduceSub, Int.reduceMul, Int.reduceEq, Int.reduceNeg, BitVec.reduceOfInt, BitVec.reduceToNat, BitVec.reduceEq, BitVec.reduceNe, BitVec.reduceLT, reduceCtorEq, List.forall_mem_nil, hi', hrow, e1, e2]
        refine ⟨by omega, by rw [pesC_length]; omega, by kernel_rfl, by omega, by rw [pesC_length]; omega, ?_⟩
        rw [pesC_set he]
        exact Fin.ren [0, 1] (by simp) (by simp) (by rfl) (by decide) (by simp [-List.map_map, -List.map_set, pesC_rens, pesC_lows]) (by simp [-List.map_map, -List.map_set, pesC_rens, pesC_lows])
      | false =>
        have hno' : ∀ k, k < i + 1 → ∀ x, L[k]? = some x → samePre a n x = false := fun k hk x hx => by
          by_cases hki : k = i
          · rw [hki, he] at hx; rw [← Option.some.inj hx]; exact hs
          · exact hno k (by omega) x hx
        by_cases e1 : e.1 = a
        · have e2 : ¬ (e.2.1 : Int) = (n : Int) := fun e2 => by
            have : samePre a n e = true := decide_eq_true ⟨e1, by omega⟩
            rw [this] at hs; cases hs
          simp -implicitDefEqProofs only [go_sem, ↓reduceIte, Nat.reduceEqDiff, Nat.reduceLT, Nat.reduceLeDiff, Nat.reduceAdd, Nat.reduceSub, Nat.reduceMul, Nat.reduceMod, Nat.reduceDiv, Int.reduceLE, Int.reduceLT, Int.reduceToNat, Int.reduceAdd, Int.reduceSub, Int.reduceMul, Int.reduceEq, Int.reduceNeg, BitVec.reduceOfInt, BitVec.reduceToNat, BitVec.reduceEq, BitVec.reduceNe, BitVec.reduceLT, reduceCtorEq, List.forall_mem_nil, hi', hrow, e1, e2]
          refine ⟨by omega, by rw [pesC_length]; omega, by kernel_rfl, ?_⟩
          refine again_mk (j - 1) ⟨[(0, .ptr 0 0), (2, .i64 p), (4, .ptr 2 0), (28, .i64 L.length), (29, .i64 (i + 1 : Nat))], [some ⟨false, [.slice 1 0 L.length 3], none⟩, some ⟨false, pesC L, none⟩, some ⟨false, [.u32 a, .i64 n], none⟩]⟩ (by omega) (by simp [St.get, lookS, hw1]) rfl (fun _ _ h => h) ⟨i + 1, by omega, hno', rfl⟩
        · simp -implicitDefEqProofs only [go_sem, ↓reduceIte, Nat.reduceEqDiff, Nat.reduceLT, Nat.reduceLeDiff, Nat.reduceAdd, Nat.reduceSub, Nat.reduceMul, Nat.reduceMod, Nat.reduceDiv, Int.reduceLE, Int.reduceLT, Int.reduceToNat, Int.reduceAdd, Int.reduceSub, Int.reduceMul, Int.reduceEq, Int.reduceNeg, BitVec.reduceOfInt, BitVec.reduceToNat, BitVec.reduceEq, BitVec.reduceNe, BitVec.reduceLT, reduceCtorEq, List.forall_mem_nil, hi', hrow, e1]
          refine ⟨by omega, by rw [pesC_length]; omega, by kernel_rfl, ?_⟩
          refine again_mk (j - 1) ⟨[(0, .ptr 0 0), (2, .i64 p), (4, .ptr 2 0), (28, .i64 L.length), (29, .i64 (i + 1 : Nat))], [some ⟨false, [.slice 1 0 L.length 3], none⟩, some ⟨false, pesC L, none⟩, some ⟨false, [.u32 a, .i64 n], none⟩]⟩ (by omega) (by simp [St.get, lookS, hw1]) rfl (fun _ _ h => h) ⟨i + 1, by omega, hno', rfl⟩
    · have hi' : ¬ (i : Int) < (L.length : Int) := by omega
      have hall : ∀ x ∈ L, samePre a n x = false := fun x hx => by
        obtain ⟨k, hk, rfl⟩ := List.getElem_of_mem hx
        exact hno k (by omega) _ (List.getElem?_eq_getElem hk)
      have htk : (pesC L).take (L.length * 3) = pesC L := List.take_of_length_le (by rw [pesC_length]; omega)
      have hsn := pesC_snoc L (a, n, p)
      rcases hnot hall with ⟨h64, rfl, rfl⟩ | ⟨h64, rfl, rfl⟩
      · have h64' : ((L.length : Int) = 64) = True := eq_true (by omega)
        simp -implicitDefEqProofs only [go_sem, ↓reduceIte, Nat.reduceEqDiff, Nat.reduceLT, Nat.reduceLeDiff, Nat.reduceAdd, Nat.reduceSub, Nat.reduceMul, Nat.reduceMod, Nat.reduceDiv, Int.reduceLE, Int.reduceLT, Int.reduceToNat, Int.reduceAdd, Int.reduceSub, Int.reduceMul, Int.reduceEq, Int.reduceNeg, BitVec.reduceOfInt, BitVec.reduceToNat, BitVec.reduceEq, BitVec.reduceNe, BitVec.reduceLT, reduceCtorEq, List.forall_mem_nil, hi', h64']
        exact Fin.ren [0, 1] (by simp) (by simp) (by rfl) (by decide) (by simp [-List.map_map, -List.map_set, pesC_rens, pesC_lows]) (by simp [-List.map_map, -List.map_set, pesC_rens, pesC_lows])
      · have h64' : ((L.length : Int) = 64) = False := eq_false (by omega)
        simp -implicitDefEqProofs only [go_sem, ↓reduceIte, Nat.reduceEqDiff, Nat.reduceLT, Nat.reduceLeDiff, Nat.reduceAdd, Nat.reduceSub, Nat.reduceMul, Nat.reduceMod, Nat.reduceDiv, Int.reduceLE, Int.reduceLT, Int.reduceToNat, Int.reduceAdd, Int.reduceSub, Int.reduceMul, Int.reduceEq, Int.reduceNeg, BitVec.reduceOfInt, BitVec.reduceToNat, BitVec.reduceEq, BitVec.reduceNe, BitVec.reduceLT, reduceCtorEq, List.forall_mem_nil, hi', h64']
        refine ⟨⟨by rw [pesC_length]; omega, by omega, by omega⟩, by kernel_rfl, ?_⟩
        rw [htk]
        rw [← show peC (a, n, p) = [.u32 a, .i64 n, .i64 p] from rfl, ← hsn]
        exact Fin.ren [0, 1, 4] (by simp) (by simp) (by rfl) (by decide) (by simp [-List.map_map, -List.map_set, pesC_rens, pesC_lows]) (by simp [-List.map_map, -List.map_set, pesC_rens, pesC_lows])
  cases hf : L.findIdx? (samePre a n) with
  | some i =>
    obtain ⟨hl, h1, h2⟩ := List.findIdx?_eq_some_iff_getElem.1 hf
    refine .inl ⟨i, rfl, key _ _ (fun i' e he hno hs => ?_) (fun hno => ?_)⟩
    · have hii : i' = i := by
        rcases Nat.lt_trichotomy i' i with h | h | h
        · have := h2 i' h
          obtain ⟨hl', rfl⟩ := List.getElem?_eq_some_iff.1 he
          exact absurd hs (by simpa using this)
        · exact h
        · have := hno i h _ (List.getElem?_eq_getElem hl)
          rw [this] at h1; cases h1
      subst hii
      obtain ⟨hl', rfl⟩ := List.getElem?_eq_some_iff.1 he
      have hs' := of_decide_eq_true hs
      exact ⟨rfl, by rw [hs'.1, hs'.2]⟩
    · have := hno _ (List.getElem_mem hl)
      rw [this] at h1; cases h1
  | none =>
    have hno : ∀ x ∈ L, samePre a n x = false := List.findIdx?_eq_none_iff.1 hf
    by_cases h64 : L.length = 64
    · refine .inr (.inl ⟨rfl, h64, key _ _ (fun i' e he _ hs => ?_) (fun _ => .inl ⟨h64, rfl, rfl⟩)⟩)
      have := hno e (List.mem_of_getElem? he)
      rw [this] at hs; cases hs
    · refine .inr (.inr ⟨rfl, h64, key _ _ (fun i' e he _ hs => ?_) (fun _ => .inr ⟨h64, rfl, rfl⟩)⟩)
      have := hno e (List.mem_of_getElem? he)
      rw [this] at hs; cases hs
end Go.Vm
end
section
-- NIDP
namespace Go.Vm
open Go.Proofs
set_option maxRecDepth 20000
def keepD (p : Int) (L : List Pe) : List Pe := L.filter fun e => decide (e.2.2 ≠ p)
theorem keepD_snoc (p : Int) (L : List Pe) (e : Pe) : keepD p (L ++ [e]) = if e.2.2 = p then keepD p L else keepD p L ++ [e] := by
  unfold keepD
  rw [List.filter_append]
  by_cases h : e.2.2 = p
  · rw [if_pos h]; simp [h]
  · rw [if_neg h]; simp [h]
theorem keepD_length (p : Int) (L : List Pe) : (keepD p L).length ≤ L.length := List.length_filter_le ..
theorem RDropN_spec (p : Int) : Spec0 Try.prog 13 [.ptr 0 0, .i64 p] [some ⟨false, [.nilSlice], none⟩] (.i64 0) [some ⟨false, [.nilSlice], none⟩] := by
  refine spec0_of_vc (by kernel_rfl) (fn := Try.f13) Try.func13 rfl (by show 2 ≤ 40; decide) (go_start ?_)
  simp -implicitDefEqProofs only [go_sem, ↓reduceIte, Nat.reduceEqDiff, Nat.reduceLT, Nat.reduceLeDiff, Nat.reduceAdd, Nat.reduceSub, Nat.reduceMul, Nat.reduceMod, Nat.reduceDiv, Int.reduceLE, Int.reduceLT, Int.reduceToNat, Int.reduceAdd, Int.reduceSub, Int.reduceMul, Int.reduceEq, Int.reduceNeg, BitVec.reduceOfInt, BitVec.reduceToNat, BitVec.reduceEq, BitVec.reduceNe, BitVec.reduceLT, reduceCtorEq, List.forall_mem_nil, Try.ntmps13, Try.results13]
  refine go_unroll 1 ?_
  simp -implicitDefEqProofs only [go_sem, ↓reduceIte, Nat.reduceEqDiff, Nat.reduceLT, Nat.reduceLeDiff, Nat.reduceAdd, Nat.reduceSub, Nat.reduceMul, Nat.reduceMod, Nat.reduceDiv, Int.reduceLE, Int.reduceLT, Int.reduceToNat, Int.reduceAdd, Int.reduceSub, Int.reduceMul, Int.reduceEq, Int.reduceNeg, BitVec.reduceOfInt, BitVec.reduceToNat, BitVec.reduceEq, BitVec.reduceNe, BitVec.reduceLT, reduceCtorEq, List.forall_mem_nil]
  exact Fin.ren [0] (by simp) (by simp) (by rfl) (by decide) (by simp [-List.map_map, -List.map_set]) (by simp [-List.map_map, -List.map_set])
def rdN (p : Int) (L : List Pe) (i : Nat) : St := ⟨[(0, .ptr 0 0), (1, .i64 p), (5, .nilSlice), (12, .slice 1 0 L.length 3), (13, .i64 L.length), (14, .i64 i)], [some ⟨false, [.slice 1 0 L.length 3], none⟩, some ⟨false, pesC L, none⟩]⟩
def rdS (p : Int) (L q : List Pe) (i : Nat) : St := ⟨[(0, .ptr 0 0), (1, .i64 p), (5, .slice 2 0 q.length 3), (12, .slice 1 0 L.length 3), (13, .i64 L.length), (14, .i64 i)], [some ⟨false, [.slice 1 0 L.length 3], none⟩, some ⟨false, pesC L, none⟩, some ⟨false, pesC q, none⟩]⟩
theorem RDrop_key (L : List Pe) (p : Int) (hL : L.length ≤ 64) (v : V) (h' : List (Option Blk))
    (h1 : keepD p L = [] → v = .i64 (L.length : Int) ∧ h' = [some ⟨false, [.nilSlice], none⟩, some ⟨false, pesC L, none⟩])
    (h2 : keepD p L ≠ [] → v = .i64 ((L.length : Int) - (keepD p L).length) ∧ h' = [some ⟨false, [.slice 2 0 (keepD p L).length 3], none⟩, some ⟨false, pesC L, none⟩, some ⟨false, pesC (keepD p L), none⟩]) :
    Spec0 Try.prog 13 [.ptr 0 0, .i64 p] [some ⟨false, [.slice 1 0 L.length 3], none⟩, some ⟨false, pesC L, none⟩] v h' := by
  refine spec0_of_vc (by kernel_rfl) (fn := Try.f13) Try.func13 rfl (by show 2 ≤ 40; decide) (go_start ?_)
  simp -implicitDefEqProofs only [go_sem, ↓reduceIte, Nat.reduceEqDiff, Nat.reduceLT, Nat.reduceLeDiff, Nat.reduceAdd, Nat.reduceSub, Nat.reduceMul, Nat.reduceMod, Nat.reduceDiv, Int.reduceLE, Int.reduceLT, Int.reduceToNat, Int.reduceAdd, Int.reduceSub, Int.reduceMul, Int.reduceEq, Int.reduceNeg, BitVec.reduceOfInt, BitVec.reduceToNat, BitVec.reduceEq, BitVec.reduceNe, BitVec.reduceLT, reduceCtorEq, List.forall_mem_nil, Try.ntmps13, Try.results13]
  refine go_loop (fun j st => ∃ i : Nat, i + j = L.length ∧ ((keepD p (L.take i) = [] ∧ st = rdN p L i) ∨ (keepD p (L.take i) ≠ [] ∧ st = rdS p L (keepD p (L.take i)) i))) ?_ ?_
  · exact start_mk L.length (rdN p L 0) (by simp [St.get, lookS, rdN]) rfl (fun _ _ h => h) ⟨0, by omega, .inl ⟨by simp [keepD], rfl⟩⟩
  rintro j st ⟨i, hij, hst⟩ _
  have hql := keepD_length p (L.take i)
  have htl : (L.take i).length ≤ L.length := by rw [List.length_take]; omega
  by_cases hi : i < L.length
  · have hi' : (i : Int) < (L.length : Int) := by omega
    have hw1 : w64 ((i : Int) + 1) = ((i + 1 : Nat) : Int) := by rw [w64_of (by omega) (by omega)]; omega
    obtain ⟨e, he⟩ : ∃ e, L[i]? = some e := ⟨L[i], List.getElem?_eq_getElem hi⟩
    have hrow := pesC_row he
    unfold peC at hrow
    have hmin : min 3 ((pesC L).length - i * 3) = 3 := by rw [pesC_length]; omega
    have hle : i * 3 + 3 ≤ (pesC L).length := by rw [pesC_length]; omega
    have htake : L.take (i + 1) = L.take i ++ [e] := by rw [List.take_add_one, he]; rfl
    have hks := keepD_snoc p (L.take i) e
    rw [← htake] at hks
    generalize hq : keepD p (L.take i) = q at *
    rcases hst with ⟨rfl, rfl⟩ | ⟨hqn, rfl⟩
    · by_cases hp : e.2.2 = p
      · rw [if_pos hp] at hks
        unfold rdN
        simp -implicitDefEqProofs only [go_sem, ↓reduceIte, Nat.reduceEqDiff, Nat.reduceLT, Nat.reduceLeDiff, Nat.reduceAdd, Nat.reduceSub, Nat.reduceMul, Nat.reduceMod, Nat.reduceDiv, Int.reduceLE, Int.reduceLT, Int.reduceToNat, Int.reduceAdd, Int.reduceSub, Int.reduceMul, Int.reduceEq, Int.reduceNeg, BitVec.reduceOfInt, BitVec.reduceToNat, BitVec.reduceEq, BitVec.reduceNe, BitVec.reduceLT, reduceCtorEq, List.forall_mem_nil, hi', hrow, hmin, hle, hp]
        refine ⟨by omega, ?_⟩
        refine again_ren (j - 1) (rdN p L (i + 1)) [0, 1] (by omega) rfl (by simp) rfl (by decide) (by simp [slotsOk, St.get, lookS, rdN, hw1]) (by simp [rdN, pesC_rens, pesC_lows]) ⟨i + 1, by omega, .inl ⟨hks, rfl⟩⟩
      · rw [if_neg hp] at hks
        have hne : keepD p (L.take (i + 1)) ≠ [] := by rw [hks]; simp
        unfold rdN
        simp -implicitDefEqProofs only [go_sem, ↓reduceIte, Nat.reduceEqDiff, Nat.reduceLT, Nat.reduceLeDiff, Nat.reduceAdd, Nat.reduceSub, Nat.reduceMul, Nat.reduceMod, Nat.reduceDiv, Int.reduceLE, Int.reduceLT, Int.reduceToNat, Int.reduceAdd, Int.reduceSub, Int.reduceMul, Int.reduceEq, Int.reduceNeg, BitVec.reduceOfInt, BitVec.reduceToNat, BitVec.reduceEq, BitVec.reduceNe, BitVec.reduceLT, reduceCtorEq, List.forall_mem_nil, hi', hrow, hmin, hle, hp]
        refine ⟨by omega, ?_⟩
        refine again_ren (j - 1) (rdS p L [e] (i + 1)) [0, 1, 4] (by omega) rfl (by simp) rfl (by decide) (by simp [slotsOk, St.get, lookS, rdS, hw1]) (by simp [rdS, pesC_rens, pesC_lows, pesC_cons, pesC_nil, peC]) ⟨i + 1, by omega, .inr ⟨hne, by rw [hks]; rfl⟩⟩
    · have htk : (pesC q).take (q.length * 3) = pesC q := List.take_of_length_le (by rw [pesC_length]; omega)
      by_cases hp : e.2.2 = p
      · rw [if_pos hp] at hks
        unfold rdS
        simp -implicitDefEqProofs only [go_sem, ↓reduceIte, Nat.reduceEqDiff, Nat.reduceLT, Nat.reduceLeDiff, Nat.reduceAdd, Nat.reduceSub, Nat.reduceMul, Nat.reduceMod, Nat.reduceDiv, Int.reduceLE, Int.reduceLT, Int.reduceToNat, Int.reduceAdd, Int.reduceSub, Int.reduceMul, Int.reduceEq, Int.reduceNeg, BitVec.reduceOfInt, BitVec.reduceToNat, BitVec.reduceEq, BitVec.reduceNe, BitVec.reduceLT, reduceCtorEq, List.forall_mem_nil, hi', hrow, hmin, hle, hp]
        refine ⟨by omega, ?_⟩
        refine again_ren (j - 1) (rdS p L q (i + 1)) [0, 1, 2] (by omega) rfl (by simp) rfl (by decide) (by simp [slotsOk, St.get, lookS, rdS, hw1]) (by simp [rdS, pesC_rens, pesC_lows]) ⟨i + 1, by omega, .inr ⟨by rw [hks]; exact hqn, by rw [hks]; rfl⟩⟩
      · rw [if_neg hp] at hks
        have hne : keepD p (L.take (i + 1)) ≠ [] := by rw [hks]; simp
        unfold rdS
        simp -implicitDefEqProofs only [go_sem, ↓reduceIte, Nat.reduceEqDiff, Nat.reduceLT, Nat.reduceLeDiff, Nat.reduceAdd, Nat.reduceSub, Nat.reduceMul, Nat.reduceMod, Nat.reduceDiv, Int.reduceLE, Int.reduceLT, Int.reduceToNat, Int.reduceAdd, Int.reduceSub, Int.reduceMul, Int.reduceEq, Int.reduceNeg, BitVec.reduceOfInt, BitVec.reduceToNat, BitVec.reduceEq, BitVec.reduceNe, BitVec.reduceLT, reduceCtorEq, List.forall_mem_nil, hi', hrow, hmin, hle, hp]
        refine ⟨by omega, ⟨by rw [pesC_length]; omega, by omega, by omega⟩, ?_⟩
        have hsn := pesC_snoc q e
        unfold peC at hsn
        rw [htk, ← hsn]
        refine again_ren (j - 1) (rdS p L (q ++ [e]) (i + 1)) [0, 1, 5] (by omega) rfl (by simp) rfl (by decide) (by simp [slotsOk, St.get, lookS, rdS, hw1]) (by simp [rdS, pesC_rens, pesC_lows]) ⟨i + 1, by omega, .inr ⟨hne, by rw [hks]; rfl⟩⟩
  · have hi' : ¬ (i : Int) < (L.length : Int) := by omega
    have hti : L.take i = L := List.take_of_length_le (by omega)
    rw [hti] at hst hql
    generalize hq : keepD p L = q at *
    rcases hst with ⟨rfl, rfl⟩ | ⟨hqn, rfl⟩
    · obtain ⟨rfl, rfl⟩ := h1 rfl
      unfold rdN
      simp -implicitDefEqProofs only [go_sem, ↓reduceIte, Nat.reduceEqDiff, Nat.reduceLT, Nat.reduceLeDiff, Nat.reduceAdd, Nat.reduceSub, Nat.reduceMul, Nat.reduceMod, Nat.reduceDiv, Int.reduceLE, Int.reduceLT, Int.reduceToNat, Int.reduceAdd, Int.reduceSub, Int.reduceMul, Int.reduceEq, Int.reduceNeg, BitVec.reduceOfInt, BitVec.reduceToNat, BitVec.reduceEq, BitVec.reduceNe, BitVec.reduceLT, reduceCtorEq, List.forall_mem_nil, hi']
      rw [show w64 ((L.length : Int) - 0) = (L.length : Int) from by rw [w64_of (by omega) (by omega)]; omega]
      exact Fin.ren [0, 1] (by simp) (by simp) (by rfl) (by decide) (by simp [-List.map_map, -List.map_set, pesC_rens, pesC_lows]) (by simp [-List.map_map, -List.map_set, pesC_rens, pesC_lows])
    · obtain ⟨rfl, rfl⟩ := h2 hqn
      unfold rdS
      simp -implicitDefEqProofs only [go_sem, ↓reduceIte, Nat.reduceEqDiff, Nat.reduceLT, Nat.reduceLeDiff, Nat.reduceAdd, Nat.reduceSub, Nat.reduceMul, Nat.reduceMod, Nat.reduceDiv, Int.reduceLE, Int.reduceLT, Int.reduceToNat, Int.reduceAdd, Int.reduceSub, Int.reduceMul, Int.reduceEq, Int.reduceNeg, BitVec.reduceOfInt, BitVec.reduceToNat, BitVec.reduceEq, BitVec.reduceNe, BitVec.reduceLT, reduceCtorEq, List.forall_mem_nil, hi']
      rw [show w64 ((L.length : Int) - (q.length : Int)) = (L.length : Int) - (q.length : Int) from w64_of (by omega) (by omega)]
      exact Fin.ren [0, 1, 2] (by simp) (by simp) (by rfl) (by decide) (by simp [-List.map_map, -List.map_set, pesC_rens, pesC_lows]) (by simp [-List.map_map, -List.map_set, pesC_rens, pesC_lows])
/-- R's Drop, over paths. -/
theorem RDrop_spec (L : List Pe) (p : Int) (hL : L.length ≤ 64) :
    (keepD p L = [] ∧ Spec0 Try.prog 13 [.ptr 0 0, .i64 p] [some ⟨false, [.slice 1 0 L.length 3], none⟩, some ⟨false, pesC L, none⟩] (.i64 (L.length : Int)) [some ⟨false, [.nilSlice], none⟩, some ⟨false, pesC L, none⟩]) ∨
    (keepD p L ≠ [] ∧ Spec0 Try.prog 13 [.ptr 0 0, .i64 p] [some ⟨false, [.slice 1 0 L.length 3], none⟩, some ⟨false, pesC L, none⟩] (.i64 ((L.length : Int) - (keepD p L).length)) [some ⟨false, [.slice 2 0 (keepD p L).length 3], none⟩, some ⟨false, pesC L, none⟩, some ⟨false, pesC (keepD p L), none⟩]) := by
  by_cases h : keepD p L = []
  · exact .inl ⟨h, RDrop_key L p hL _ _ (fun _ => ⟨rfl, rfl⟩) (fun h2 => absurd h h2)⟩
  · exact .inr ⟨h, RDrop_key L p hL _ _ (fun h2 => absurd h2 h) (fun _ => ⟨rfl, rfl⟩)⟩
end Go.Vm
end
section
-- NIDP
namespace Go.Vm
open Go.Proofs
set_option maxRecDepth 20000
def hasP (a : BitVec 32) (e : Pe) : Bool := decide (e.1.setWidth 64 >>> (32 - e.2.1) = a.setWidth 64 >>> (32 - e.2.1))
theorem pathHas_spec (b : BitVec 32) (n : Nat) (a : BitVec 32) (hn : n ≤ 32) : PureFn Try.prog 27 [.agg [.u32 b, .i64 n], .u32 a] (.bool (decide (b.setWidth 64 >>> (32 - n) = a.setWidth 64 >>> (32 - n)))) := by
  have hw : w64 (32 - (n : Int)) = ((32 - n : Nat) : Int) := by rw [w64_of (by omega) (by omega)]; omega
  have hnn : (0 : Int) ≤ ((32 - n : Nat) : Int) := by omega
  refine pure_of_vc (by kernel_rfl) (fn := Try.f27) (by kernel_rfl) Try.func27 rfl (by show 2 ≤ 19; decide) (by simp [lows, V.low]) (by simp [lows, V.low, lows_ite, low_ite]) (go_start ?_)
  simp -implicitDefEqProofs only [go_sem, ↓reduceIte, Nat.reduceEqDiff, Nat.reduceLT, Nat.reduceLeDiff, Nat.reduceAdd, Nat.reduceSub, Nat.reduceMul, Nat.reduceMod, Nat.reduceDiv, Int.reduceLE, Int.reduceLT, Int.reduceToNat, Int.reduceAdd, Int.reduceSub, Int.reduceMul, Int.reduceEq, Int.reduceNeg, BitVec.reduceOfInt, BitVec.reduceToNat, BitVec.reduceEq, BitVec.reduceNe, BitVec.reduceLT, reduceCtorEq, List.forall_mem_nil, Try.ntmps27, Try.results27, hw, hnn, Int.toNat_natCast]
  kernel_rfl
theorem mem_snoc2 {L M : List Pe} {e x : Pe} (h : M = L ++ [e]) (hx : x ∈ M) : x ∈ L ∨ x = e := by
  rw [h] at hx
  rcases List.mem_append.1 hx with h | h
  · exact .inl h
  · exact .inr (List.mem_singleton.1 h)
theorem RFindN_spec (a : BitVec 32) : Spec0 Try.prog 17 [.ptr 0 0, .u32 a] [some ⟨false, [.nilSlice], none⟩] (.tup [.i64 0, .bool false]) [some ⟨false, [.nilSlice], none⟩] := by
  refine spec0_of_vc (by kernel_rfl) (fn := Try.f17) Try.func17 rfl (by show 2 ≤ 54; decide) (go_start ?_)
  simp -implicitDefEqProofs only [go_sem, ↓reduceIte, Nat.reduceEqDiff, Nat.reduceLT, Nat.reduceLeDiff, Nat.reduceAdd, Nat.reduceSub, Nat.reduceMul, Nat.reduceMod, Nat.reduceDiv, Int.reduceLE, Int.reduceLT, Int.reduceToNat, Int.reduceAdd, Int.reduceSub, Int.reduceMul, Int.reduceEq, Int.reduceNeg, BitVec.reduceOfInt, BitVec.reduceToNat, BitVec.reduceEq, BitVec.reduceNe, BitVec.reduceLT, reduceCtorEq, List.forall_mem_nil, Try.ntmps17, Try.results17]
  refine go_unroll 1 ?_
  simp -implicitDefEqProofs only [go_sem, ↓reduceIte, Nat.reduceEqDiff, Nat.reduceLT, Nat.reduceLeDiff, Nat.reduceAdd, Nat.reduceSub, Nat.reduceMul, Nat.reduceMod, Nat.reduceDiv, Int.reduceLE, Int.reduceLT, Int.reduceToNat, Int.reduceAdd, Int.reduceSub, Int.reduceMul, Int.reduceEq, Int.reduceNeg, BitVec.reduceOfInt, BitVec.reduceToNat, BitVec.reduceEq, BitVec.reduceNe, BitVec.reduceLT, reduceCtorEq, List.forall_mem_nil]
  exact Fin.ren [0] (by simp) (by simp) (by rfl) (by decide) (by simp [-List.map_map, -List.map_set]) (by simp [-List.map_map, -List.map_set])
theorem RFind_key (L : List Pe) (a : BitVec 32) (hL : L.length ≤ 64) (hb : ∀ e ∈ L, e.2.1 ≤ 32) (v : V)
    (h1 : (∀ x ∈ L, hasP a x = false) → v = .tup [.i64 0, .bool false])
    (h2 : ∀ e ∈ L, hasP a e = true → (∀ x ∈ L, hasP a x = true → x.2.1 ≤ e.2.1) → v = .tup [.i64 e.2.2, .bool true]) :
    Spec0 Try.prog 17 [.ptr 0 0, .u32 a] [some ⟨false, [.slice 1 0 L.length 3], none⟩, some ⟨false, pesC L, none⟩] v [some ⟨false, [.slice 1 0 L.length 3], none⟩, some ⟨false, pesC L, none⟩] := by
  refine spec0_of_vc (by kernel_rfl) (fn := Try.f17) Try.func17 rfl (by show 2 ≤ 54; decide) (go_start ?_)
  simp -implicitDefEqProofs only [go_sem, ↓reduceIte, Nat.reduceEqDiff, Nat.reduceLT, Nat.reduceLeDiff, Nat.reduceAdd, Nat.reduceSub, Nat.reduceMul, Nat.reduceMod, Nat.reduceDiv, Int.reduceLE, Int.reduceLT, Int.reduceToNat, Int.reduceAdd, Int.reduceSub, Int.reduceMul, Int.reduceEq, Int.reduceNeg, BitVec.reduceOfInt, BitVec.reduceToNat, BitVec.reduceEq, BitVec.reduceNe, BitVec.reduceLT, reduceCtorEq, List.forall_mem_nil, Try.ntmps17, Try.results17]
  refine go_loop (fun j st => ∃ (i : Nat) (t : Int), i + j = L.length ∧ ((t = -1 ∧ ∀ x ∈ L.take i, hasP a x = false) ∨ (∃ (b : Nat) (e : Pe), t = b ∧ L[b]? = some e ∧ hasP a e = true ∧ ∀ x ∈ L.take i, hasP a x = true → x.2.1 ≤ e.2.1)) ∧
    st = ⟨[(0, .ptr 0 0), (1, .u32 a), (6, .i64 t), (12, .slice 1 0 L.length 3), (13, .i64 L.length), (14, .i64 i)], [some ⟨false, [.slice 1 0 L.length 3], none⟩, some ⟨false, pesC L, none⟩]⟩) ?_ ?_
  · exact start_mk L.length ⟨[(0, .ptr 0 0), (1, .u32 a), (6, .i64 (-1)), (12, .slice 1 0 L.length 3), (13, .i64 L.length), (14, .i64 (0 : Nat))], [some ⟨false, [.slice 1 0 L.length 3], none⟩, some ⟨false, pesC L, none⟩]⟩ (by simp [St.get, lookS]) rfl (fun _ _ h => h) ⟨0, -1, by omega, .inl ⟨rfl, by simp⟩, rfl⟩
  rintro j st ⟨i, t, hij, hst, rfl⟩ _
  by_cases hi : i < L.length
  · have hi' : (i : Int) < (L.length : Int) := by omega
    have hw1 : w64 ((i : Int) + 1) = ((i + 1 : Nat) : Int) := by rw [w64_of (by omega) (by omega)]; omega
    obtain ⟨e, he⟩ : ∃ e, L[i]? = some e := ⟨L[i], List.getElem?_eq_getElem hi⟩
    have hrow := pesC_row he
    unfold peC at hrow
    have hmin : min 3 ((pesC L).length - i * 3) = 3 := by rw [pesC_length]; omega
    have hle : i * 3 + 3 ≤ (pesC L).length := by rw [pesC_length]; omega
    have htake : L.take (i + 1) = L.take i ++ [e] := by rw [List.take_add_one, he]; rfl
    have hph := pathHas_spec e.1 e.2.1 a (hb e (List.mem_of_getElem? he))
    cases hs : hasP a e with
    | false =>
      have hs' : (decide (e.1.setWidth 64 >>> (32 - e.2.1) = a.setWidth 64 >>> (32 - e.2.1))) = false := hs
      rw [hs'] at hph
      simp -implicitDefEqProofs only [go_sem, ↓reduceIte, Nat.reduceEqDiff, Nat.reduceLT, Nat.reduceLeDiff, Nat.reduceAdd, Nat.reduceSub, Nat.reduceMul, Nat.reduceMod, Nat.reduceDiv, Int.reduceLE, Int.reduceLT, Int.reduceToNat, Int.reduceAdd, Int.reduceSub, Int.reduceMul, Int.reduceEq, Int.reduceNeg, BitVec.reduceOfInt, BitVec.reduceToNat, BitVec.reduceEq, BitVec.reduceNe, BitVec.reduceLT, reduceCtorEq, List.forall_mem_nil, hi', hrow, hmin, hle]
      refine ⟨by omega, ?_⟩
      refine goCallD_pure0 (hph) ?_
      simp -implicitDefEqProofs only [go_sem, ↓reduceIte, Nat.reduceEqDiff, Nat.reduceLT, Nat.reduceLeDiff, Nat.reduceAdd, Nat.reduceSub, Nat.reduceMul, Nat.reduceMod, Nat.reduceDiv, Int.reduceLE, Int.reduceLT, Int.reduceToNat, Int.reduceAdd, Int.reduceSub, Int.reduceMul, Int.reduceEq, Int.reduceNeg, BitVec.reduceOfInt, BitVec.reduceToNat, BitVec.reduceEq, BitVec.reduceNe, BitVec.reduceLT, reduceCtorEq, List.forall_mem_nil]
      rcases hst with ⟨rfl, hno⟩ | ⟨b, eb, rfl, hbe, hhb, hmax⟩
      · refine ⟨by kernel_rfl, ?_⟩
        refine again_ren (j - 1) ⟨[(0, .ptr 0 0), (1, .u32 a), (6, .i64 (-1)), (12, .slice 1 0 L.length 3), (13, .i64 L.length), (14, .i64 (i + 1 : Nat))], [some ⟨false, [.slice 1 0 L.length 3], none⟩, some ⟨false, pesC L, none⟩]⟩ [0, 1] (by omega) rfl (by simp) rfl (by decide) (by simp [slotsOk, St.get, lookS, hw1]) (by simp [pesC_rens, pesC_lows]) ⟨i + 1, (-1), by omega, .inl ⟨rfl, fun x hx => (mem_snoc2 htake hx).elim (hno x) (fun h => h ▸ hs)⟩, rfl⟩
      · refine ⟨by kernel_rfl, ?_⟩
        refine again_ren (j - 1) ⟨[(0, .ptr 0 0), (1, .u32 a), (6, .i64 ((b : Int))), (12, .slice 1 0 L.length 3), (13, .i64 L.length), (14, .i64 (i + 1 : Nat))], [some ⟨false, [.slice 1 0 L.length 3], none⟩, some ⟨false, pesC L, none⟩]⟩ [0, 1] (by omega) rfl (by simp) rfl (by decide) (by simp [slotsOk, St.get, lookS, hw1]) (by simp [pesC_rens, pesC_lows]) ⟨i + 1, (b : Int), by omega, .inr ⟨b, eb, rfl, hbe, hhb, fun x hx hh => (mem_snoc2 htake hx).elim (fun h => hmax x h hh) (fun h => by rw [h, hs] at hh; cases hh)⟩, rfl⟩
    | true =>
      have hs' : (decide (e.1.setWidth 64 >>> (32 - e.2.1) = a.setWidth 64 >>> (32 - e.2.1))) = true := hs
      rw [hs'] at hph
      rcases hst with ⟨rfl, hno⟩ | ⟨b, eb, rfl, hbe, hhb, hmax⟩
      · simp -implicitDefEqProofs only [go_sem, ↓reduceIte, Nat.reduceEqDiff, Nat.reduceLT, Nat.reduceLeDiff, Nat.reduceAdd, Nat.reduceSub, Nat.reduceMul, Nat.reduceMod, Nat.reduceDiv, Int.reduceLE, Int.reduceLT, Int.reduceToNat, Int.reduceAdd, Int.reduceSub, Int.reduceMul, Int.reduceEq, Int.reduceNeg, BitVec.reduceOfInt, BitVec.reduceToNat, BitVec.reduceEq, BitVec.reduceNe, BitVec.reduceLT, reduceCtorEq, List.forall_mem_nil, hi', hrow, hmin, hle]
        refine ⟨by omega, ?_⟩
        refine goCallD_pure0 (hph) ?_
        simp -implicitDefEqProofs only [go_sem, ↓reduceIte, Nat.reduceEqDiff, Nat.reduceLT, Nat.reduceLeDiff, Nat.reduceAdd, Nat.reduceSub, Nat.reduceMul, Nat.reduceMod, Nat.reduceDiv, Int.reduceLE, Int.reduceLT, Int.reduceToNat, Int.reduceAdd, Int.reduceSub, Int.reduceMul, Int.reduceEq, Int.reduceNeg, BitVec.reduceOfInt, BitVec.reduceToNat, BitVec.reduceEq, BitVec.reduceNe, BitVec.reduceLT, reduceCtorEq, List.forall_mem_nil]
        refine ⟨by kernel_rfl, ?_⟩
        refine again_ren (j - 1) ⟨[(0, .ptr 0 0), (1, .u32 a), (6, .i64 ((i : Int))), (12, .slice 1 0 L.length 3), (13, .i64 L.length), (14, .i64 (i + 1 : Nat))], [some ⟨false, [.slice 1 0 L.length 3], none⟩, some ⟨false, pesC L, none⟩]⟩ [0, 1] (by omega) rfl (by simp) rfl (by decide) (by simp [slotsOk, St.get, lookS, hw1]) (by simp [pesC_rens, pesC_lows]) ⟨i + 1, (i : Int), by omega, .inr ⟨i, e, rfl, he, hs, fun x hx hh => (mem_snoc2 htake hx).elim (fun h => by rw [hno x h] at hh; cases hh) (fun h => by rw [h]; exact Nat.le_refl _)⟩, rfl⟩
      · have hb0 : ¬ (b : Int) < 0 := by omega
        have hbl := (List.getElem?_eq_some_iff.1 hbe).1
        have hg1 := pesC_get1 hbe
        by_cases hgt : eb.2.1 < e.2.1
        · have hgt' : (eb.2.1 : Int) < (e.2.1 : Int) := by omega
          simp -implicitDefEqProofs only [go_sem, ↓reduceIte, Nat.reduceEqDiff, Nat.reduceLT, Nat.reduceLeDiff, Nat.reduceAdd, Nat.reduceSub, Nat.reduceMul, Nat.reduceMod, Nat.reduceDiv, Int.reduceLE, Int.reduceLT, Int.reduceToNat, Int.reduceAdd, Int.reduceSub, Int.reduceMul, Int.reduceEq, Int.reduceNeg, BitVec.reduceOfInt, BitVec.reduceToNat, BitVec.reduceEq, BitVec.reduceNe, BitVec.reduceLT, reduceCtorEq, List.forall_mem_nil, hi', hrow, hmin, hle]
          refine ⟨by omega, ?_⟩
          refine goCallD_pure0 (hph) ?_
          simp -implicitDefEqProofs only [go_sem, ↓reduceIte, Nat.reduceEqDiff, Nat.reduceLT, Nat.reduceLeDiff, Nat.reduceAdd, Nat.reduceSub, Nat.reduceMul, Nat.reduceMod, Nat.reduceDiv, Int.reduceLE, Int.reduceLT, Int.reduceToNat, Int.reduceAdd, Int.reduceSub, Int.reduceMul, Int.reduceEq, Int.reduceNeg, BitVec.reduceOfInt, BitVec.reduceToNat, BitVec.reduceEq, BitVec.reduceNe, BitVec.reduceLT, reduceCtorEq, List.forall_mem_nil, hb0, hg1, hgt']
          refine ⟨⟨by omega, by omega⟩, by rw [pesC_length]; omega, by kernel_rfl, ?_⟩
          refine again_ren (j - 1) ⟨[(0, .ptr 0 0), (1, .u32 a), (6, .i64 ((i : Int))), (12, .slice 1 0 L.length 3), (13, .i64 L.length), (14, .i64 (i + 1 : Nat))], [some ⟨false, [.slice 1 0 L.length 3], none⟩, some ⟨false, pesC L, none⟩]⟩ [0, 1] (by omega) rfl (by simp) rfl (by decide) (by simp [slotsOk, St.get, lookS, hw1]) (by simp [pesC_rens, pesC_lows]) ⟨i + 1, (i : Int), by omega, .inr ⟨i, e, rfl, he, hs, fun x hx hh => (mem_snoc2 htake hx).elim (fun h => by have := hmax x h hh; omega) (fun h => by rw [h]; exact Nat.le_refl _)⟩, rfl⟩
        · have hgt' : ¬ (eb.2.1 : Int) < (e.2.1 : Int) := by omega
          simp -implicitDefEqProofs only [go_sem, ↓reduceIte, Nat.reduceEqDiff, Nat.reduceLT, Nat.reduceLeDiff, Nat.reduceAdd, Nat.reduceSub, Nat.reduceMul, Nat.reduceMod, Nat.reduceDiv, Int.reduceLE, Int.reduceLT, Int.reduceToNat, Int.reduceAdd, Int.reduceSub, Int.reduceMul, Int.reduceEq, Int.reduceNeg, BitVec.reduceOfInt, BitVec.reduceToNat, BitVec.reduceEq, BitVec.reduceNe, BitVec.reduceLT, reduceCtorEq, List.forall_mem_nil, hi', hrow, hmin, hle]
          refine ⟨by omega, ?_⟩
          refine goCallD_pure0 (hph) ?_
          simp -implicitDefEqProofs only [go_sem, ↓reduceIte, Nat.reduceEqDiff, Nat.reduceLT, Nat.reduceLeDiff, Nat.reduceAdd, Nat.reduceSub, Nat.reduceMul, Nat.reduceMod, Nat.reduceDiv, Int.reduceLE, Int.reduceLT, Int.reduceToNat, Int.reduceAdd, Int.reduceSub, Int.reduceMul, Int.reduceEq, Int.reduceNeg, BitVec.reduceOfInt, BitVec.reduceToNat, BitVec.reduceEq, BitVec.reduceNe, BitVec.reduceLT, reduceCtorEq, List.forall_mem_nil, hb0, hg1, hgt']
          refine ⟨⟨by omega, by omega⟩, by rw [pesC_length]; omega, by kernel_rfl, ?_⟩
          refine again_ren (j - 1) ⟨[(0, .ptr 0 0), (1, .u32 a), (6, .i64 ((b : Int))), (12, .slice 1 0 L.length 3), (13, .i64 L.length), (14, .i64 (i + 1 : Nat))], [some ⟨false, [.slice 1 0 L.length 3], none⟩, some ⟨false, pesC L, none⟩]⟩ [0, 1] (by omega) rfl (by simp) rfl (by decide) (by simp [slotsOk, St.get, lookS, hw1]) (by simp [pesC_rens, pesC_lows]) ⟨i + 1, (b : Int), by omega, .inr ⟨b, eb, rfl, hbe, hhb, fun x hx hh => (mem_snoc2 htake hx).elim (fun h => hmax x h hh) (fun h => by rw [h]; omega)⟩, rfl⟩
  · have hi' : ¬ (i : Int) < (L.length : Int) := by omega
    have hti : L.take i = L := List.take_of_length_le (by omega)
    rw [hti] at hst
    rcases hst with ⟨rfl, hno⟩ | ⟨b, e, rfl, hbe, hhb, hmax⟩
    · rw [h1 hno]
      simp -implicitDefEqProofs only [go_sem, ↓reduceIte, Nat.reduceEqDiff, Nat.reduceLT, Nat.reduceLeDiff, Nat.reduceAdd, Nat.reduceSub, Nat.reduceMul, Nat.reduceMod, Nat.reduceDiv, Int.reduceLE, Int.reduceLT, Int.reduceToNat, Int.reduceAdd, Int.reduceSub, Int.reduceMul, Int.reduceEq, Int.reduceNeg, BitVec.reduceOfInt, BitVec.reduceToNat, BitVec.reduceEq, BitVec.reduceNe, BitVec.reduceLT, reduceCtorEq, List.forall_mem_nil, hi']
      exact Fin.ren [0, 1] (by simp) (by simp) (by rfl) (by decide) (by simp [-List.map_map, -List.map_set, pesC_rens, pesC_lows]) (by simp [-List.map_map, -List.map_set, pesC_rens, pesC_lows])
    · rw [h2 e (List.mem_of_getElem? hbe) hhb hmax]
      have hg2 := pesC_get2 hbe
      have hb0 : ¬ (b : Int) < 0 := by omega
      have hbl := (List.getElem?_eq_some_iff.1 hbe).1
      have hbl' : (b : Int) < (L.length : Int) := by omega
      simp -implicitDefEqProofs only [go_sem, ↓reduceIte, Nat.reduceEqDiff, Nat.reduceLT, Nat.reduceLeDiff, Nat.reduceAdd, Nat.reduceSub, Nat.reduceMul, Nat.reduceMod, Nat.reduceDiv, Int.reduceLE, Int.reduceLT, Int.reduceToNat, Int.reduceAdd, Int.reduceSub, Int.reduceMul, Int.reduceEq, Int.reduceNeg, BitVec.reduceOfInt, BitVec.reduceToNat, BitVec.reduceEq, BitVec.reduceNe, BitVec.reduceLT, reduceCtorEq, List.forall_mem_nil, hi', hb0, hg2]
      refine ⟨⟨by omega, by omega⟩, by rw [pesC_length]; omega, ?_⟩
      exact Fin.ren [0, 1] (by simp) (by simp) (by rfl) (by decide) (by simp [-List.map_map, -List.map_set, pesC_rens, pesC_lows]) (by simp [-List.map_map, -List.map_set, pesC_rens, pesC_lows])
end Go.Vm
end
