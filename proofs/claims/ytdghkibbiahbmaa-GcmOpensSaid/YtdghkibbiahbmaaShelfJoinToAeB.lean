/- A part of the proof: laws of a small machine of values, or what one function answers, proved against the model; no conditions beyond those in each theorem. -/
import Derived.Shelf.Strings.OnBuilder
import Derived.Test.YtdghkibbiahbmaaTypesToAeA
set_option linter.unusedVariables false
set_option linter.unusedSimpArgs false
set_option linter.unusedSectionVars false
section
namespace Go.Vm
open Go.Proofs Go.Shelf
def shelf_lays156_ren : Go.Shelf.Ren := ⟨fun | 156 => 57 | 165 => 89 | 166 => 90 | 169 => 91 | 240 => 115 | 241 => 116 | 276 => 124 | 277 => 125 | n => n, fun | 31 => 62 | 9 => 9 | 3 => 3 | 4 => 4 | 0 => 0 | 20 => 20 | 72 => 101 | 76 => 105 | 70 => 99 | 37 => 43 | 75 => 104 | 127 => 121 | 164 => 134 | 5 => 5 | 80 => 56 | n => n, fun | n => n⟩
theorem shelf_lays156 : Go.Proofs.Lays.n156 Try.prog shelf_lays156_ren := {
  mixed := by kernel_rfl
  f156 := Try.func57.trans (congrArg some (by kernel_rfl))
  f165 := Try.func89.trans (congrArg some (by kernel_rfl))
  f166 := Try.func90.trans (congrArg some (by kernel_rfl))
  f169 := Try.func91.trans (congrArg some (by kernel_rfl))
  f240 := Try.func115.trans (congrArg some (by kernel_rfl))
  f241 := Try.func116.trans (congrArg some (by kernel_rfl))
  f276 := Try.func124.trans (congrArg some (by kernel_rfl))
  f277 := Try.func125.trans (congrArg some (by kernel_rfl))
  t0 := Try.underlying0
  a0 := Try.isAgg0
  z0 := Try.sizeOf0
  v0 := Try.zeroValue0
  t3 := Try.underlying3
  a3 := Try.isAgg3
  z3 := Try.sizeOf3
  v3 := Try.zeroValue3
  t4 := Try.underlying4
  a4 := Try.isAgg4
  z4 := Try.sizeOf4
  v4 := Try.zeroValue4
  t9 := Try.underlying9
  a9 := Try.isAgg9
  z9 := Try.sizeOf9
  v9 := Try.zeroValue9
  t20 := Try.underlying20
  a20 := Try.isAgg20
  z20 := Try.sizeOf20
  v20 := Try.zeroValue20
  t31 := Try.underlying62
  a31 := Try.isAgg62
  z31 := Try.sizeOf62
  v31 := Try.zeroValue62
  t37 := Try.underlying43
  a37 := Try.isAgg43
  z37 := Try.sizeOf43
  v37 := Try.zeroValue43
  t70 := Try.underlying99
  a70 := Try.isAgg99
  z70 := Try.sizeOf99
  v70 := Try.zeroValue99
  t72 := Try.underlying101
  a72 := Try.isAgg101
  z72 := Try.sizeOf101
  v72 := Try.zeroValue101
  t75 := Try.underlying104
  a75 := Try.isAgg104
  z75 := Try.sizeOf104
  v75 := Try.zeroValue104
  t76 := Try.underlying105
  a76 := Try.isAgg105
  z76 := Try.sizeOf105
  v76 := Try.zeroValue105
  t127 := Try.underlying121
  a127 := Try.isAgg121
  z127 := Try.sizeOf121
  v127 := Try.zeroValue121
  t164 := Try.underlying134
  a164 := Try.isAgg134
  z164 := Try.sizeOf134
  v164 := Try.zeroValue134 }
theorem shelf_Builder_Extra_156 : Builder.Extra Try.prog shelf_lays156_ren := {
  sizeBuilder := by kernel_rfl
  liesBuilder := by kernel_rfl
  t5 := Try.underlying5
  a5 := Try.isAgg5
  z5 := Try.sizeOf5
  v5 := Try.zeroValue5
  infoByte := by kernel_rfl
  cellsByte := by kernel_rfl
  sizeByte := by kernel_rfl
  neB5 := by decide }
open Go.RowKit in
theorem shelf_strings_Join_none (a : Option Addr) (c : Nat) (sep : ByteArray) (w : World) :
    Calls Try.prog 57 #[.slice a 0 c, .string sep] w fun e w' => e = .returned (.string ⟨#[]⟩) ∧ w' = w := Any.strings_Join_none shelf_lays156 shelf_Builder_Extra_156 a c sep w
open Go.RowKit in
theorem shelf_strings_Join (bk o c : Nat) (xs : List ByteArray) (sep : ByteArray) (w : World) (hcells : ∀ (j : Nat) x, xs[j]? = some x → w.cell? ⟨bk, o + j, none⟩ = some (.string x)) (hbk : bk < w.heap.size) (hN : xs.length ≤ 140737488355328) (hcap : xs.length ≤ c) (hlen : (Lib.join (xs.map (·.data.toList)) sep.data.toList).length ≤ 140737488355328) :
    Calls Try.prog 57 #[.slice (some ⟨bk, o, none⟩) xs.length c, .string sep] w fun e w' => e = .returned (.string ⟨(Lib.join (xs.map (·.data.toList)) sep.data.toList).toArray⟩) ∧ Below w.heap.size w w' := Any.strings_Join shelf_lays156 shelf_Builder_Extra_156 bk o c xs sep w hcells hbk hN hcap hlen
end Go.Vm
end
section
namespace Go.Vm
open Go.Proofs
set_option maxRecDepth 20000
theorem le_snoc (s : List (BitVec 8)) (b : BitVec 8) : le (s ++ [b]) = le s + 256 ^ s.length * b.toNat := by
  induction s with
  | nil => simp [le]
  | cons a s ih => rw [List.cons_append, le, ih, le, List.length_cons, pow256, Nat.mul_add, Nat.mul_assoc]; omega
/-- A byte above a number. -/
theorem or_shl {n i : Nat} (h : n < 256 ^ i) (hi : i < 8) (b : BitVec 8) : BitVec.ofNat 64 n ||| b.setWidth 64 <<< (8 * i) = BitVec.ofNat 64 (n + 256 ^ i * b.toNat) := by
  have hp : (256 : Nat) ^ i = 2 ^ (8 * i) := by rw [Nat.pow_mul]
  have h8 : (256 : Nat) ^ i * 256 ≤ 256 ^ 8 := by
    have : (256 : Nat) ^ (i + 1) ≤ 256 ^ 8 := Nat.pow_le_pow_right (by omega) (by omega)
    rwa [Nat.pow_succ] at this
  have hb := b.isLt
  have hm : 256 ^ i * b.toNat ≤ 256 ^ i * 255 := Nat.mul_le_mul_left _ (by omega)
  have hpos : 0 < (256 : Nat) ^ i := Nat.pow_pos (by omega)
  have e8 : (256 : Nat) ^ 8 = 18446744073709551616 := by decide
  have e64 : (2 : Nat) ^ 64 = 18446744073709551616 := by decide
  apply BitVec.eq_of_toNat_eq
  rw [BitVec.toNat_or, BitVec.toNat_shiftLeft, BitVec.toNat_ofNat, BitVec.toNat_setWidth, BitVec.toNat_ofNat, Nat.shiftLeft_eq, ← hp]
  rw [Nat.mod_eq_of_lt (by omega : n < 2 ^ 64), Nat.mod_eq_of_lt (by omega : b.toNat < 2 ^ 64), Nat.mul_comm b.toNat, Nat.mod_eq_of_lt (by omega : 256 ^ i * b.toNat < 2 ^ 64), Nat.mod_eq_of_lt (by omega : n + 256 ^ i * b.toNat < 2 ^ 64)]
  rw [Nat.or_comm, hp, ← Nat.two_pow_add_eq_or_of_lt (by rw [← hp]; exact h), Nat.add_comm]
theorem Little_spec (s : List (BitVec 8)) (hs : s.length ≤ 4611686018427387904) : PureFn Try.prog 33 [.str s] (.u64 (BitVec.ofNat 64 (le (s.take 8)))) := by
  obtain ⟨N, hN, hN8, hNs, hif⟩ : ∃ N : Nat, (N = if 8 < s.length then 8 else s.length) ∧ N ≤ 8 ∧ N ≤ s.length ∧ (if (8 : Int) < (s.length : Int) then (8 : Int) else (s.length : Int)) = (N : Int) := by
    by_cases h : 8 < s.length
    · exact ⟨8, by rw [if_pos h], by omega, by omega, by rw [if_pos (by omega)]; rfl⟩
    · exact ⟨s.length, by rw [if_neg h], by omega, by omega, by rw [if_neg (by omega)]⟩
  have ht : s.take 8 = s.take N := by
    by_cases h : 8 < s.length
    · rw [if_pos h] at hN; rw [hN]
    · rw [if_neg h] at hN; rw [hN, List.take_of_length_le (by omega), List.take_of_length_le (by omega)]
  rw [ht]
  refine pure_of_vc (by kernel_rfl) (fn := Try.f33) (by kernel_rfl) Try.func33 rfl (by show 1 ≤ 22; decide) (by simp [lows, V.low]) (by simp [lows, V.low, lows_ite, low_ite]) (go_start ?_)
  simp only [go_sem, ↓reduceIte, Nat.reduceEqDiff, Nat.reduceLT, Nat.reduceLeDiff, Nat.reduceAdd, Nat.reduceSub, Nat.reduceMul, Nat.reduceMod, Nat.reduceDiv, Int.reduceLE, Int.reduceLT, Int.reduceToNat, Int.reduceAdd, Int.reduceSub, Int.reduceMul, Int.reduceEq, Int.reduceNeg, BitVec.reduceOfInt, BitVec.reduceToNat, BitVec.reduceEq, BitVec.reduceNe, BitVec.reduceLT, reduceCtorEq, List.forall_mem_nil, Try.ntmps33, Try.results33, hif]
  refine go_loop (fun j st => ∃ i : Nat, i + j = N ∧ st = ⟨[(0, .str s), (3, .u64 (BitVec.ofNat 64 (le (s.take i)))), (7, .i64 N), (8, .i64 i)], []⟩) ?_ ?_
  · exact start_mk (N) ⟨[(0, .str s), (3, .u64 (BitVec.ofNat 64 (le (s.take (0 : Nat))))), (7, .i64 N), (8, .i64 (0 : Nat))], []⟩ (by simp [St.get, lookS, le]) rfl (fun _ _ h => h) ⟨0, by omega, rfl⟩
  rintro j st ⟨i, hi, rfl⟩ _
  simp only [go_sem, ↓reduceIte, Nat.reduceEqDiff, Nat.reduceLT, Nat.reduceLeDiff, Nat.reduceAdd, Nat.reduceSub, Nat.reduceMul, Nat.reduceMod, Nat.reduceDiv, Int.reduceLE, Int.reduceLT, Int.reduceToNat, Int.reduceAdd, Int.reduceSub, Int.reduceMul, Int.reduceEq, Int.reduceNeg, BitVec.reduceOfInt, BitVec.reduceToNat, BitVec.reduceEq, BitVec.reduceNe, BitVec.reduceLT, reduceCtorEq, List.forall_mem_nil]
  by_cases h0 : i < N
  · have h0' : (i : Int) < (N : Int) := by omega
    have h1' : (i : Int) < (s.length : Int) := by omega
    have hi8 : i < s.length := by omega
    have hw8 : w64 (8 * (i : Int)) = ((8 * i : Nat) : Int) := by rw [w64_of (by omega) (by omega)]; omega
    have hl := le_lt (s.take i)
    have htl : (s.take i).length = i := by simp; omega
    rw [htl] at hl
    simp only [go_sem, ↓reduceIte, Nat.reduceEqDiff, Nat.reduceLT, Nat.reduceLeDiff, Nat.reduceAdd, Nat.reduceSub, Nat.reduceMul, Nat.reduceMod, Nat.reduceDiv, Int.reduceLE, Int.reduceLT, Int.reduceToNat, Int.reduceAdd, Int.reduceSub, Int.reduceMul, Int.reduceEq, Int.reduceNeg, BitVec.reduceOfInt, BitVec.reduceToNat, BitVec.reduceEq, BitVec.reduceNe, BitVec.reduceLT, reduceCtorEq, List.forall_mem_nil, h0', h1', hw8]
    refine ⟨by omega, by omega, ?_⟩
    refine again_mk (j - 1) ⟨[(0, .str s), (3, .u64 (BitVec.ofNat 64 (le (s.take (i + 1 : Nat))))), (7, .i64 N), (8, .i64 (i + 1 : Nat))], []⟩ (by omega) ?_ rfl (fun _ _ h => h) ⟨i + 1, by omega, rfl⟩
    have hw1 : w64 ((i : Int) + 1) = ((i + 1 : Nat) : Int) := by rw [w64_of (by omega) (by omega)]; omega
    simp [St.get, lookS, hw1, take_snoc hi8, le_snoc, htl]
    have := or_shl hl (by omega) (s.getD i 0)
    rw [List.getD_eq_getElem?_getD] at this
    exact this.symm
  · have h0' : ¬ (i : Int) < (N : Int) := by omega
    simp only [go_sem, ↓reduceIte, Nat.reduceEqDiff, Nat.reduceLT, Nat.reduceLeDiff, Nat.reduceAdd, Nat.reduceSub, Nat.reduceMul, Nat.reduceMod, Nat.reduceDiv, Int.reduceLE, Int.reduceLT, Int.reduceToNat, Int.reduceAdd, Int.reduceSub, Int.reduceMul, Int.reduceEq, Int.reduceNeg, BitVec.reduceOfInt, BitVec.reduceToNat, BitVec.reduceEq, BitVec.reduceNe, BitVec.reduceLT, reduceCtorEq, List.forall_mem_nil, h0']
    rw [show i = N by omega]
theorem byteAt (n : BitVec 64) (k : Nat) : (n >>> k).setWidth 8 = BitVec.ofNat 8 (n.toNat / 2 ^ k) := by
  apply BitVec.eq_of_toNat_eq
  rw [BitVec.toNat_setWidth, BitVec.toNat_ushiftRight, BitVec.toNat_ofNat, Nat.shiftRight_eq_div_pow]
theorem beB8 (n : BitVec 64) : beB n.toNat 8 = [(n >>> 56).setWidth 8, (n >>> 48).setWidth 8, (n >>> 40).setWidth 8, (n >>> 32).setWidth 8, (n >>> 24).setWidth 8, (n >>> 16).setWidth 8, (n >>> 8).setWidth 8, (n >>> 0).setWidth 8] := by
  simp only [byteAt, beB, Nat.div_div_eq_div_mul, List.nil_append, List.cons_append, Nat.reduceMul, Nat.reducePow, Nat.div_one]
theorem beB4 (n : BitVec 64) : beB n.toNat 4 = [(n >>> 24).setWidth 8, (n >>> 16).setWidth 8, (n >>> 8).setWidth 8, (n >>> 0).setWidth 8] := by
  simp only [byteAt, beB, Nat.div_div_eq_div_mul, List.nil_append, List.cons_append, Nat.reduceMul, Nat.reducePow, Nat.div_one]
theorem leB8 (n : BitVec 64) : leB n.toNat 8 = [(n >>> 0).setWidth 8, (n >>> 8).setWidth 8, (n >>> 16).setWidth 8, (n >>> 24).setWidth 8, (n >>> 32).setWidth 8, (n >>> 40).setWidth 8, (n >>> 48).setWidth 8, (n >>> 56).setWidth 8] := by
  simp only [byteAt, leB, Nat.div_div_eq_div_mul, Nat.reduceMul, Nat.reducePow, Nat.div_one]
theorem leB4 (n : BitVec 64) : leB n.toNat 4 = [(n >>> 0).setWidth 8, (n >>> 8).setWidth 8, (n >>> 16).setWidth 8, (n >>> 24).setWidth 8] := by
  simp only [byteAt, leB, Nat.div_div_eq_div_mul, Nat.reduceMul, Nat.reducePow, Nat.div_one]
theorem AppBig8_nil (n : BitVec 64) : Spec0 Try.prog 46 [.nilSlice, .u64 n, .i64 8] [] (.slice 0 0 8 1) [some ⟨false, (beB n.toNat 8).map .u8⟩] := by
  rw [beB8]
  refine spec0_of_vc (by kernel_rfl) (fn := Try.f46) Try.func46 rfl (by show 3 ≤ 25; decide) (go_start ?_)
  simp only [go_sem, ↓reduceIte, Nat.reduceEqDiff, Nat.reduceLT, Nat.reduceLeDiff, Nat.reduceAdd, Nat.reduceSub, Nat.reduceMul, Nat.reduceMod, Nat.reduceDiv, Int.reduceLE, Int.reduceLT, Int.reduceToNat, Int.reduceAdd, Int.reduceSub, Int.reduceMul, Int.reduceEq, Int.reduceNeg, BitVec.reduceOfInt, BitVec.reduceToNat, BitVec.reduceEq, BitVec.reduceNe, BitVec.reduceLT, reduceCtorEq, List.forall_mem_nil, Try.ntmps46, Try.results46]
  refine go_unroll 9 ?_
  simp only [go_sem, ↓reduceIte, Nat.reduceEqDiff, Nat.reduceLT, Nat.reduceLeDiff, Nat.reduceAdd, Nat.reduceSub, Nat.reduceMul, Nat.reduceMod, Nat.reduceDiv, Int.reduceLE, Int.reduceLT, Int.reduceToNat, Int.reduceAdd, Int.reduceSub, Int.reduceMul, Int.reduceEq, Int.reduceNeg, BitVec.reduceOfInt, BitVec.reduceToNat, BitVec.reduceEq, BitVec.reduceNe, BitVec.reduceLT, reduceCtorEq, List.forall_mem_nil]
  exact Fin.ren [15] (by simp) (by simp) (by rfl) (by decide) (by simp [-List.map_map, -List.map_set, vtuple_zero, rens_append, lows_append, sgOf_zero, sgOf_succ, rens, V.ren, lows, V.low, rens_u8, rens_u32, rens_u64, rens_i64, rens_str, lows_u8, lows_u32, lows_u64, lows_i64, lows_str, allSome, allRw, blksOk_nil, blksOk_none, blksOk_some, getH_zero, getH_succ, getH_nil]) (by simp [-List.map_map, -List.map_set, vtuple_zero, rens_append, lows_append, sgOf_zero, sgOf_succ, rens, V.ren, lows, V.low, rens_u8, rens_u32, rens_u64, rens_i64, rens_str, lows_u8, lows_u32, lows_u64, lows_i64, lows_str, allSome, allRw, blksOk_nil, blksOk_none, blksOk_some, getH_zero, getH_succ, getH_nil])
theorem AppBig8_some (bs : List (BitVec 8)) (n : BitVec 64) (hb : bs.length ≤ 140737488351232) : Spec0 Try.prog 46 [.slice 0 0 bs.length 1, .u64 n, .i64 8] [some ⟨false, bs.map .u8⟩] (.slice 1 0 (bs.length + 8) 1) [none, some ⟨false, (bs ++ beB n.toNat 8).map .u8⟩] := by
  rw [beB8]
  refine spec0_of_vc (by kernel_rfl) (fn := Try.f46) Try.func46 rfl (by show 3 ≤ 25; decide) (go_start ?_)
  simp only [go_sem, ↓reduceIte, Nat.reduceEqDiff, Nat.reduceLT, Nat.reduceLeDiff, Nat.reduceAdd, Nat.reduceSub, Nat.reduceMul, Nat.reduceMod, Nat.reduceDiv, Int.reduceLE, Int.reduceLT, Int.reduceToNat, Int.reduceAdd, Int.reduceSub, Int.reduceMul, Int.reduceEq, Int.reduceNeg, BitVec.reduceOfInt, BitVec.reduceToNat, BitVec.reduceEq, BitVec.reduceNe, BitVec.reduceLT, reduceCtorEq, List.forall_mem_nil, Try.ntmps46, Try.results46]
  refine go_unroll 9 ?_
  simp only [go_sem, ↓reduceIte, Nat.reduceEqDiff, Nat.reduceLT, Nat.reduceLeDiff, Nat.reduceAdd, Nat.reduceSub, Nat.reduceMul, Nat.reduceMod, Nat.reduceDiv, Int.reduceLE, Int.reduceLT, Int.reduceToNat, Int.reduceAdd, Int.reduceSub, Int.reduceMul, Int.reduceEq, Int.reduceNeg, BitVec.reduceOfInt, BitVec.reduceToNat, BitVec.reduceEq, BitVec.reduceNe, BitVec.reduceLT, reduceCtorEq, List.forall_mem_nil, List.take_of_length_le]
  refine ⟨by omega, by omega, by omega, by omega, by omega, by omega, by omega, by omega, ?_⟩
  exact Fin.ren [0, 16] (by simp) (by simp) (by rfl) (by decide) (by simp [-List.map_map, -List.map_set, vtuple_zero, rens_append, lows_append, sgOf_zero, sgOf_succ, rens, V.ren, lows, V.low, rens_u8, rens_u32, rens_u64, rens_i64, rens_str, lows_u8, lows_u32, lows_u64, lows_i64, lows_str, allSome, allRw, blksOk_nil, blksOk_none, blksOk_some, getH_zero, getH_succ, getH_nil]) (by simp [-List.map_map, -List.map_set, vtuple_zero, rens_append, lows_append, sgOf_zero, sgOf_succ, rens, V.ren, lows, V.low, rens_u8, rens_u32, rens_u64, rens_i64, rens_str, lows_u8, lows_u32, lows_u64, lows_i64, lows_str, allSome, allRw, blksOk_nil, blksOk_none, blksOk_some, getH_zero, getH_succ, getH_nil])
theorem AppBig4_nil (n : BitVec 64) : Spec0 Try.prog 46 [.nilSlice, .u64 n, .i64 4] [] (.slice 0 0 4 1) [some ⟨false, (beB n.toNat 4).map .u8⟩] := by
  rw [beB4]
  refine spec0_of_vc (by kernel_rfl) (fn := Try.f46) Try.func46 rfl (by show 3 ≤ 25; decide) (go_start ?_)
  simp only [go_sem, ↓reduceIte, Nat.reduceEqDiff, Nat.reduceLT, Nat.reduceLeDiff, Nat.reduceAdd, Nat.reduceSub, Nat.reduceMul, Nat.reduceMod, Nat.reduceDiv, Int.reduceLE, Int.reduceLT, Int.reduceToNat, Int.reduceAdd, Int.reduceSub, Int.reduceMul, Int.reduceEq, Int.reduceNeg, BitVec.reduceOfInt, BitVec.reduceToNat, BitVec.reduceEq, BitVec.reduceNe, BitVec.reduceLT, reduceCtorEq, List.forall_mem_nil, Try.ntmps46, Try.results46]
  refine go_unroll 5 ?_
  simp only [go_sem, ↓reduceIte, Nat.reduceEqDiff, Nat.reduceLT, Nat.reduceLeDiff, Nat.reduceAdd, Nat.reduceSub, Nat.reduceMul, Nat.reduceMod, Nat.reduceDiv, Int.reduceLE, Int.reduceLT, Int.reduceToNat, Int.reduceAdd, Int.reduceSub, Int.reduceMul, Int.reduceEq, Int.reduceNeg, BitVec.reduceOfInt, BitVec.reduceToNat, BitVec.reduceEq, BitVec.reduceNe, BitVec.reduceLT, reduceCtorEq, List.forall_mem_nil]
  exact Fin.ren [7] (by simp) (by simp) (by rfl) (by decide) (by simp [-List.map_map, -List.map_set, vtuple_zero, rens_append, lows_append, sgOf_zero, sgOf_succ, rens, V.ren, lows, V.low, rens_u8, rens_u32, rens_u64, rens_i64, rens_str, lows_u8, lows_u32, lows_u64, lows_i64, lows_str, allSome, allRw, blksOk_nil, blksOk_none, blksOk_some, getH_zero, getH_succ, getH_nil]) (by simp [-List.map_map, -List.map_set, vtuple_zero, rens_append, lows_append, sgOf_zero, sgOf_succ, rens, V.ren, lows, V.low, rens_u8, rens_u32, rens_u64, rens_i64, rens_str, lows_u8, lows_u32, lows_u64, lows_i64, lows_str, allSome, allRw, blksOk_nil, blksOk_none, blksOk_some, getH_zero, getH_succ, getH_nil])
theorem AppBig4_some (bs : List (BitVec 8)) (n : BitVec 64) (hb : bs.length ≤ 140737488351232) : Spec0 Try.prog 46 [.slice 0 0 bs.length 1, .u64 n, .i64 4] [some ⟨false, bs.map .u8⟩] (.slice 1 0 (bs.length + 4) 1) [none, some ⟨false, (bs ++ beB n.toNat 4).map .u8⟩] := by
  rw [beB4]
  refine spec0_of_vc (by kernel_rfl) (fn := Try.f46) Try.func46 rfl (by show 3 ≤ 25; decide) (go_start ?_)
  simp only [go_sem, ↓reduceIte, Nat.reduceEqDiff, Nat.reduceLT, Nat.reduceLeDiff, Nat.reduceAdd, Nat.reduceSub, Nat.reduceMul, Nat.reduceMod, Nat.reduceDiv, Int.reduceLE, Int.reduceLT, Int.reduceToNat, Int.reduceAdd, Int.reduceSub, Int.reduceMul, Int.reduceEq, Int.reduceNeg, BitVec.reduceOfInt, BitVec.reduceToNat, BitVec.reduceEq, BitVec.reduceNe, BitVec.reduceLT, reduceCtorEq, List.forall_mem_nil, Try.ntmps46, Try.results46]
  refine go_unroll 5 ?_
  simp only [go_sem, ↓reduceIte, Nat.reduceEqDiff, Nat.reduceLT, Nat.reduceLeDiff, Nat.reduceAdd, Nat.reduceSub, Nat.reduceMul, Nat.reduceMod, Nat.reduceDiv, Int.reduceLE, Int.reduceLT, Int.reduceToNat, Int.reduceAdd, Int.reduceSub, Int.reduceMul, Int.reduceEq, Int.reduceNeg, BitVec.reduceOfInt, BitVec.reduceToNat, BitVec.reduceEq, BitVec.reduceNe, BitVec.reduceLT, reduceCtorEq, List.forall_mem_nil, List.take_of_length_le]
  refine ⟨by omega, by omega, by omega, by omega, ?_⟩
  exact Fin.ren [0, 8] (by simp) (by simp) (by rfl) (by decide) (by simp [-List.map_map, -List.map_set, vtuple_zero, rens_append, lows_append, sgOf_zero, sgOf_succ, rens, V.ren, lows, V.low, rens_u8, rens_u32, rens_u64, rens_i64, rens_str, lows_u8, lows_u32, lows_u64, lows_i64, lows_str, allSome, allRw, blksOk_nil, blksOk_none, blksOk_some, getH_zero, getH_succ, getH_nil]) (by simp [-List.map_map, -List.map_set, vtuple_zero, rens_append, lows_append, sgOf_zero, sgOf_succ, rens, V.ren, lows, V.low, rens_u8, rens_u32, rens_u64, rens_i64, rens_str, lows_u8, lows_u32, lows_u64, lows_i64, lows_str, allSome, allRw, blksOk_nil, blksOk_none, blksOk_some, getH_zero, getH_succ, getH_nil])
theorem AppLittle4_nil (n : BitVec 64) : Spec0 Try.prog 37 [.nilSlice, .u64 n, .i64 4] [] (.slice 0 0 4 1) [some ⟨false, (leB n.toNat 4).map .u8⟩] := by
  rw [leB4]
  refine spec0_of_vc (by kernel_rfl) (fn := Try.f37) Try.func37 rfl (by show 3 ≤ 22; decide) (go_start ?_)
  simp only [go_sem, ↓reduceIte, Nat.reduceEqDiff, Nat.reduceLT, Nat.reduceLeDiff, Nat.reduceAdd, Nat.reduceSub, Nat.reduceMul, Nat.reduceMod, Nat.reduceDiv, Int.reduceLE, Int.reduceLT, Int.reduceToNat, Int.reduceAdd, Int.reduceSub, Int.reduceMul, Int.reduceEq, Int.reduceNeg, BitVec.reduceOfInt, BitVec.reduceToNat, BitVec.reduceEq, BitVec.reduceNe, BitVec.reduceLT, reduceCtorEq, List.forall_mem_nil, Try.ntmps37, Try.results37]
  refine go_unroll 5 ?_
  simp only [go_sem, ↓reduceIte, Nat.reduceEqDiff, Nat.reduceLT, Nat.reduceLeDiff, Nat.reduceAdd, Nat.reduceSub, Nat.reduceMul, Nat.reduceMod, Nat.reduceDiv, Int.reduceLE, Int.reduceLT, Int.reduceToNat, Int.reduceAdd, Int.reduceSub, Int.reduceMul, Int.reduceEq, Int.reduceNeg, BitVec.reduceOfInt, BitVec.reduceToNat, BitVec.reduceEq, BitVec.reduceNe, BitVec.reduceLT, reduceCtorEq, List.forall_mem_nil]
  exact Fin.ren [7] (by simp) (by simp) (by rfl) (by decide) (by simp [-List.map_map, -List.map_set, vtuple_zero, rens_append, lows_append, sgOf_zero, sgOf_succ, rens, V.ren, lows, V.low, rens_u8, rens_u32, rens_u64, rens_i64, rens_str, lows_u8, lows_u32, lows_u64, lows_i64, lows_str, allSome, allRw, blksOk_nil, blksOk_none, blksOk_some, getH_zero, getH_succ, getH_nil]) (by simp [-List.map_map, -List.map_set, vtuple_zero, rens_append, lows_append, sgOf_zero, sgOf_succ, rens, V.ren, lows, V.low, rens_u8, rens_u32, rens_u64, rens_i64, rens_str, lows_u8, lows_u32, lows_u64, lows_i64, lows_str, allSome, allRw, blksOk_nil, blksOk_none, blksOk_some, getH_zero, getH_succ, getH_nil])
theorem AppLittle4_some (bs : List (BitVec 8)) (n : BitVec 64) (hb : bs.length ≤ 140737488351232) : Spec0 Try.prog 37 [.slice 0 0 bs.length 1, .u64 n, .i64 4] [some ⟨false, bs.map .u8⟩] (.slice 1 0 (bs.length + 4) 1) [none, some ⟨false, (bs ++ leB n.toNat 4).map .u8⟩] := by
  rw [leB4]
  refine spec0_of_vc (by kernel_rfl) (fn := Try.f37) Try.func37 rfl (by show 3 ≤ 22; decide) (go_start ?_)
  simp only [go_sem, ↓reduceIte, Nat.reduceEqDiff, Nat.reduceLT, Nat.reduceLeDiff, Nat.reduceAdd, Nat.reduceSub, Nat.reduceMul, Nat.reduceMod, Nat.reduceDiv, Int.reduceLE, Int.reduceLT, Int.reduceToNat, Int.reduceAdd, Int.reduceSub, Int.reduceMul, Int.reduceEq, Int.reduceNeg, BitVec.reduceOfInt, BitVec.reduceToNat, BitVec.reduceEq, BitVec.reduceNe, BitVec.reduceLT, reduceCtorEq, List.forall_mem_nil, Try.ntmps37, Try.results37]
  refine go_unroll 5 ?_
  simp only [go_sem, ↓reduceIte, Nat.reduceEqDiff, Nat.reduceLT, Nat.reduceLeDiff, Nat.reduceAdd, Nat.reduceSub, Nat.reduceMul, Nat.reduceMod, Nat.reduceDiv, Int.reduceLE, Int.reduceLT, Int.reduceToNat, Int.reduceAdd, Int.reduceSub, Int.reduceMul, Int.reduceEq, Int.reduceNeg, BitVec.reduceOfInt, BitVec.reduceToNat, BitVec.reduceEq, BitVec.reduceNe, BitVec.reduceLT, reduceCtorEq, List.forall_mem_nil, List.take_of_length_le]
  refine ⟨by omega, by omega, by omega, by omega, ?_⟩
  exact Fin.ren [0, 8] (by simp) (by simp) (by rfl) (by decide) (by simp [-List.map_map, -List.map_set, vtuple_zero, rens_append, lows_append, sgOf_zero, sgOf_succ, rens, V.ren, lows, V.low, rens_u8, rens_u32, rens_u64, rens_i64, rens_str, lows_u8, lows_u32, lows_u64, lows_i64, lows_str, allSome, allRw, blksOk_nil, blksOk_none, blksOk_some, getH_zero, getH_succ, getH_nil]) (by simp [-List.map_map, -List.map_set, vtuple_zero, rens_append, lows_append, sgOf_zero, sgOf_succ, rens, V.ren, lows, V.low, rens_u8, rens_u32, rens_u64, rens_i64, rens_str, lows_u8, lows_u32, lows_u64, lows_i64, lows_str, allSome, allRw, blksOk_nil, blksOk_none, blksOk_some, getH_zero, getH_succ, getH_nil])
theorem AppLittle8_nil (n : BitVec 64) : Spec0 Try.prog 37 [.nilSlice, .u64 n, .i64 8] [] (.slice 0 0 8 1) [some ⟨false, (leB n.toNat 8).map .u8⟩] := by
  rw [leB8]
  refine spec0_of_vc (by kernel_rfl) (fn := Try.f37) Try.func37 rfl (by show 3 ≤ 22; decide) (go_start ?_)
  simp only [go_sem, ↓reduceIte, Nat.reduceEqDiff, Nat.reduceLT, Nat.reduceLeDiff, Nat.reduceAdd, Nat.reduceSub, Nat.reduceMul, Nat.reduceMod, Nat.reduceDiv, Int.reduceLE, Int.reduceLT, Int.reduceToNat, Int.reduceAdd, Int.reduceSub, Int.reduceMul, Int.reduceEq, Int.reduceNeg, BitVec.reduceOfInt, BitVec.reduceToNat, BitVec.reduceEq, BitVec.reduceNe, BitVec.reduceLT, reduceCtorEq, List.forall_mem_nil, Try.ntmps37, Try.results37]
  refine go_unroll 9 ?_
  simp only [go_sem, ↓reduceIte, Nat.reduceEqDiff, Nat.reduceLT, Nat.reduceLeDiff, Nat.reduceAdd, Nat.reduceSub, Nat.reduceMul, Nat.reduceMod, Nat.reduceDiv, Int.reduceLE, Int.reduceLT, Int.reduceToNat, Int.reduceAdd, Int.reduceSub, Int.reduceMul, Int.reduceEq, Int.reduceNeg, BitVec.reduceOfInt, BitVec.reduceToNat, BitVec.reduceEq, BitVec.reduceNe, BitVec.reduceLT, reduceCtorEq, List.forall_mem_nil]
  exact Fin.ren [15] (by simp) (by simp) (by rfl) (by decide) (by simp [-List.map_map, -List.map_set, vtuple_zero, rens_append, lows_append, sgOf_zero, sgOf_succ, rens, V.ren, lows, V.low, rens_u8, rens_u32, rens_u64, rens_i64, rens_str, lows_u8, lows_u32, lows_u64, lows_i64, lows_str, allSome, allRw, blksOk_nil, blksOk_none, blksOk_some, getH_zero, getH_succ, getH_nil]) (by simp [-List.map_map, -List.map_set, vtuple_zero, rens_append, lows_append, sgOf_zero, sgOf_succ, rens, V.ren, lows, V.low, rens_u8, rens_u32, rens_u64, rens_i64, rens_str, lows_u8, lows_u32, lows_u64, lows_i64, lows_str, allSome, allRw, blksOk_nil, blksOk_none, blksOk_some, getH_zero, getH_succ, getH_nil])
theorem AppLittle8_some (bs : List (BitVec 8)) (n : BitVec 64) (hb : bs.length ≤ 140737488351232) : Spec0 Try.prog 37 [.slice 0 0 bs.length 1, .u64 n, .i64 8] [some ⟨false, bs.map .u8⟩] (.slice 1 0 (bs.length + 8) 1) [none, some ⟨false, (bs ++ leB n.toNat 8).map .u8⟩] := by
  rw [leB8]
  refine spec0_of_vc (by kernel_rfl) (fn := Try.f37) Try.func37 rfl (by show 3 ≤ 22; decide) (go_start ?_)
  simp only [go_sem, ↓reduceIte, Nat.reduceEqDiff, Nat.reduceLT, Nat.reduceLeDiff, Nat.reduceAdd, Nat.reduceSub, Nat.reduceMul, Nat.reduceMod, Nat.reduceDiv, Int.reduceLE, Int.reduceLT, Int.reduceToNat, Int.reduceAdd, Int.reduceSub, Int.reduceMul, Int.reduceEq, Int.reduceNeg, BitVec.reduceOfInt, BitVec.reduceToNat, BitVec.reduceEq, BitVec.reduceNe, BitVec.reduceLT, reduceCtorEq, List.forall_mem_nil, Try.ntmps37, Try.results37]
  refine go_unroll 9 ?_
  simp only [go_sem, ↓reduceIte, Nat.reduceEqDiff, Nat.reduceLT, Nat.reduceLeDiff, Nat.reduceAdd, Nat.reduceSub, Nat.reduceMul, Nat.reduceMod, Nat.reduceDiv, Int.reduceLE, Int.reduceLT, Int.reduceToNat, Int.reduceAdd, Int.reduceSub, Int.reduceMul, Int.reduceEq, Int.reduceNeg, BitVec.reduceOfInt, BitVec.reduceToNat, BitVec.reduceEq, BitVec.reduceNe, BitVec.reduceLT, reduceCtorEq, List.forall_mem_nil, List.take_of_length_le]
  refine ⟨by omega, by omega, by omega, by omega, by omega, by omega, by omega, by omega, ?_⟩
  exact Fin.ren [0, 16] (by simp) (by simp) (by rfl) (by decide) (by simp [-List.map_map, -List.map_set, vtuple_zero, rens_append, lows_append, sgOf_zero, sgOf_succ, rens, V.ren, lows, V.low, rens_u8, rens_u32, rens_u64, rens_i64, rens_str, lows_u8, lows_u32, lows_u64, lows_i64, lows_str, allSome, allRw, blksOk_nil, blksOk_none, blksOk_some, getH_zero, getH_succ, getH_nil]) (by simp [-List.map_map, -List.map_set, vtuple_zero, rens_append, lows_append, sgOf_zero, sgOf_succ, rens, V.ren, lows, V.low, rens_u8, rens_u32, rens_u64, rens_i64, rens_str, lows_u8, lows_u32, lows_u64, lows_i64, lows_str, allSome, allRw, blksOk_nil, blksOk_none, blksOk_some, getH_zero, getH_succ, getH_nil])
end Go.Vm
end
section
namespace Go.Vm
open Go.Proofs
set_option maxRecDepth 20000
def xorB (a b : List (BitVec 8)) : List (BitVec 8) := List.zipWith (· ^^^ ·) a b
theorem xorB_length (a b : List (BitVec 8)) : (xorB a b).length = min a.length b.length := List.length_zipWith
theorem xorB_getD (a b : List (BitVec 8)) (i : Nat) (h1 : i < a.length) (h2 : i < b.length) : (xorB a b).getD i 0 = a.getD i 0 ^^^ b.getD i 0 := by
  unfold xorB
  rw [List.getD_eq_getElem?_getD, List.getD_eq_getElem?_getD, List.getD_eq_getElem?_getD, List.getElem?_zipWith, List.getElem?_eq_getElem h1, List.getElem?_eq_getElem h2]; rfl
theorem xorB_app (a s b : List (BitVec 8)) (h : s.length ≤ a.length) : xorB a (s ++ b) = xorB a s ++ xorB (a.drop s.length) b := by
  unfold xorB
  calc List.zipWith (· ^^^ ·) a (s ++ b) = List.zipWith (· ^^^ ·) (a.take s.length ++ a.drop s.length) (s ++ b) := by rw [List.take_append_drop]
    _ = List.zipWith (· ^^^ ·) (a.take s.length) s ++ List.zipWith (· ^^^ ·) (a.drop s.length) b := List.zipWith_append (by rw [List.length_take]; omega)
    _ = _ := by
      congr 1
      apply List.ext_getElem?
      intro i
      rw [List.getElem?_zipWith, List.getElem?_zipWith]
      by_cases hi : i < s.length
      · rw [List.getElem?_take_of_lt hi]
      · rw [List.getElem?_eq_none (l := s) (by omega)]; split <;> simp_all
/-- The first i of the sum, the rest naught. -/
def xorTo (a b : List (BitVec 8)) (i : Nat) : List (BitVec 8) := (xorB a b).take i ++ List.replicate ((xorB a b).length - i) 0
theorem xorTo_length (a b : List (BitVec 8)) (i : Nat) (h : i ≤ (xorB a b).length) : (xorTo a b i).length = (xorB a b).length := by
  unfold xorTo; rw [List.length_append, List.length_take, List.length_replicate]; omega
theorem xorTo_set (a b : List (BitVec 8)) (i : Nat) (h : i < (xorB a b).length) : (xorTo a b i).set i (a.getD i 0 ^^^ b.getD i 0) = xorTo a b (i + 1) := by
  have hl := xorB_length a b
  unfold xorTo
  have h2 : ((xorB a b).take i).length = i := by rw [List.length_take]; omega
  rw [List.set_append_right _ _ (by omega), h2, Nat.sub_self, show (xorB a b).length - i = ((xorB a b).length - (i + 1)) + 1 by omega, List.replicate_succ, List.set_cons_zero, take_snoc h, xorB_getD a b i (by omega) (by omega)]
  simp
theorem xorTo_all (a b : List (BitVec 8)) : xorTo a b (xorB a b).length = xorB a b := by
  unfold xorTo; rw [List.take_length, Nat.sub_self]; simp
theorem Xor_spec (a b : List (BitVec 8)) (ha : a.length ≤ 4611686018427387904) (hb : b.length ≤ 140737488351232) : PureFn Try.prog 99 [.str a, .str b] (.str (xorB a b)) := by
  have hl := xorB_length a b
  generalize hn : (xorB a b).length = n at hl
  have hmin : (if (b.length : Int) < (a.length : Int) then (b.length : Int) else (a.length : Int)) = (n : Int) := by split <;> omega
  refine pure_of_vc (by kernel_rfl) (fn := Try.f99) (by kernel_rfl) Try.func99 rfl (by show 2 ≤ 31; decide) (by simp [lows, V.low]) (by simp [lows, V.low, lows_ite, low_ite]) (go_start ?_)
  simp only [go_sem, ↓reduceIte, Nat.reduceEqDiff, Nat.reduceLT, Nat.reduceLeDiff, Nat.reduceAdd, Nat.reduceSub, Nat.reduceMul, Nat.reduceMod, Nat.reduceDiv, Int.reduceLE, Int.reduceLT, Int.reduceToNat, Int.reduceAdd, Int.reduceSub, Int.reduceMul, Int.reduceEq, Int.reduceNeg, BitVec.reduceOfInt, BitVec.reduceToNat, BitVec.reduceEq, BitVec.reduceNe, BitVec.reduceLT, reduceCtorEq, List.forall_mem_nil, Try.ntmps99, Try.results99, hmin]
  refine ⟨⟨by omega, by omega, by omega⟩, ?_⟩
  have hz0 : vrep [V.u8 0#8] n = (xorTo a b 0).map V.u8 := by
    have hr : ∀ k, vrep [V.u8 0#8] k = List.replicate k (V.u8 0#8) := fun k => by
      induction k with
      | zero => rfl
      | succ k ih => rw [vrep, ih]; rfl
    unfold xorTo; rw [hn, hr]; simp
  rw [hz0]
  refine go_loop (fun ji st => ∃ i : Nat, i + ji = n ∧ st = ⟨[(0, .str a), (1, .str b), (5, .slice 0 0 n 1), (14, .i64 n), (15, .i64 i)], [some ⟨false, (xorTo a b i).map .u8⟩]⟩) ?_ ?_
  · exact start_mk (n) ⟨[(0, .str a), (1, .str b), (5, .slice 0 0 n 1), (14, .i64 n), (15, .i64 (0 : Nat))], [some ⟨false, (xorTo a b (0 : Nat)).map .u8⟩]⟩ (by simp [St.get, lookS, -List.map_set, -List.map_map]) rfl (fun _ _ h => h) ⟨0, by omega, rfl⟩
  rintro ji st ⟨i, hi, rfl⟩ _
  simp only [go_sem, ↓reduceIte, Nat.reduceEqDiff, Nat.reduceLT, Nat.reduceLeDiff, Nat.reduceAdd, Nat.reduceSub, Nat.reduceMul, Nat.reduceMod, Nat.reduceDiv, Int.reduceLE, Int.reduceLT, Int.reduceToNat, Int.reduceAdd, Int.reduceSub, Int.reduceMul, Int.reduceEq, Int.reduceNeg, BitVec.reduceOfInt, BitVec.reduceToNat, BitVec.reduceEq, BitVec.reduceNe, BitVec.reduceLT, reduceCtorEq, List.forall_mem_nil]
  by_cases h0 : i < n
  · have h0' : (i : Int) < (n : Int) := by omega
    have h1 : i < b.length := by omega
    have h1' : (i : Int) < (b.length : Int) := by omega
    have h2 : i < a.length := by omega
    have h2' : (i : Int) < (a.length : Int) := by omega
    have hz : (0 : Int) ≤ (i : Int) := by omega
    have hxl := xorTo_length a b i (by omega)
    rw [hn] at hxl
    have hset := xorTo_set a b i (by omega)
    simp only [go_sem, ↓reduceIte, Nat.reduceEqDiff, Nat.reduceLT, Nat.reduceLeDiff, Nat.reduceAdd, Nat.reduceSub, Nat.reduceMul, Nat.reduceMod, Nat.reduceDiv, Int.reduceLE, Int.reduceLT, Int.reduceToNat, Int.reduceAdd, Int.reduceSub, Int.reduceMul, Int.reduceEq, Int.reduceNeg, BitVec.reduceOfInt, BitVec.reduceToNat, BitVec.reduceEq, BitVec.reduceNe, BitVec.reduceLT, reduceCtorEq, List.forall_mem_nil, h0', h0, h1, h1', h2, h2', hz, hxl, hset]
    refine ⟨by omega, by kernel_rfl, ?_⟩
    refine again_mk (ji - 1) ⟨[(0, .str a), (1, .str b), (5, .slice 0 0 n 1), (14, .i64 n), (15, .i64 (i + 1 : Nat))], [some ⟨false, (xorTo a b (i + 1 : Nat)).map .u8⟩]⟩ (by omega) ?_ rfl (fun _ _ h => h) ⟨i + 1, by omega, rfl⟩
    have hw1 : w64 ((i : Int) + 1) = ((i + 1 : Nat) : Int) := by rw [w64_of (by omega) (by omega)]; omega
    simp [St.get, lookS, hw1, -List.map_set, -List.map_map]
  · obtain rfl : i = n := by omega
    have h0' : ¬ (i : Int) < (i : Int) := by omega
    have hall : xorTo a b i = xorB a b := by rw [← hn]; exact xorTo_all a b
    simp only [go_sem, ↓reduceIte, Nat.reduceEqDiff, Nat.reduceLT, Nat.reduceLeDiff, Nat.reduceAdd, Nat.reduceSub, Nat.reduceMul, Nat.reduceMod, Nat.reduceDiv, Int.reduceLE, Int.reduceLT, Int.reduceToNat, Int.reduceAdd, Int.reduceSub, Int.reduceMul, Int.reduceEq, Int.reduceNeg, BitVec.reduceOfInt, BitVec.reduceToNat, BitVec.reduceEq, BitVec.reduceNe, BitVec.reduceLT, reduceCtorEq, List.forall_mem_nil, h0', hall, List.take_of_length_le, hn, Nat.le_refl, true_and]
theorem RXor_spec (a b : List (BitVec 8)) (h : a.length ≤ b.length) (ha : a.length ≤ 4611686018427387904) : PureFn Try.prog 52 [.str a, .str b] (.str (xorB a b)) := by
  have hl := xorB_length a b
  refine pure_of_vc (by kernel_rfl) (fn := Try.f52) (by kernel_rfl) Try.func52 rfl (by show 2 ≤ 25; decide) (by simp [lows, V.low]) (by simp [lows, V.low, lows_ite, low_ite]) (go_start ?_)
  simp only [go_sem, ↓reduceIte, Nat.reduceEqDiff, Nat.reduceLT, Nat.reduceLeDiff, Nat.reduceAdd, Nat.reduceSub, Nat.reduceMul, Nat.reduceMod, Nat.reduceDiv, Int.reduceLE, Int.reduceLT, Int.reduceToNat, Int.reduceAdd, Int.reduceSub, Int.reduceMul, Int.reduceEq, Int.reduceNeg, BitVec.reduceOfInt, BitVec.reduceToNat, BitVec.reduceEq, BitVec.reduceNe, BitVec.reduceLT, reduceCtorEq, List.forall_mem_nil, Try.ntmps52, Try.results52]
  refine go_loop (fun ji st => ∃ i : Nat, i + ji = a.length ∧ st = ⟨[(0, .str a), (1, .str b), (5, .str ((xorB a b).take i)), (8, .i64 a.length), (9, .i64 i)], []⟩) ?_ ?_
  · exact start_mk (a.length) ⟨[(0, .str a), (1, .str b), (5, .str ((xorB a b).take (0 : Nat))), (8, .i64 a.length), (9, .i64 (0 : Nat))], []⟩ (by simp [St.get, lookS, -List.map_set, -List.map_map]) rfl (fun _ _ h => h) ⟨0, by omega, rfl⟩
  rintro ji st ⟨i, hi, rfl⟩ _
  simp only [go_sem, ↓reduceIte, Nat.reduceEqDiff, Nat.reduceLT, Nat.reduceLeDiff, Nat.reduceAdd, Nat.reduceSub, Nat.reduceMul, Nat.reduceMod, Nat.reduceDiv, Int.reduceLE, Int.reduceLT, Int.reduceToNat, Int.reduceAdd, Int.reduceSub, Int.reduceMul, Int.reduceEq, Int.reduceNeg, BitVec.reduceOfInt, BitVec.reduceToNat, BitVec.reduceEq, BitVec.reduceNe, BitVec.reduceLT, reduceCtorEq, List.forall_mem_nil]
  by_cases h0 : i < a.length
  · have h0' : (i : Int) < (a.length : Int) := by omega
    have h1 : i < b.length := by omega
    have h1' : (i : Int) < (b.length : Int) := by omega
    have hz : (0 : Int) ≤ (i : Int) := by omega
    have hap : (xorB a b).take i ++ [a.getD i 0 ^^^ b.getD i 0] = (xorB a b).take (i + 1) := by rw [take_snoc (by omega), xorB_getD a b i h0 h1]
    have hbt : BitVec.ofInt 8 ((a.getD i 0 ^^^ b.getD i 0).toNat : Int) = a.getD i 0 ^^^ b.getD i 0 := by
      apply BitVec.eq_of_toNat_eq
      rw [BitVec.toNat_ofInt]
      have := (a.getD i 0 ^^^ b.getD i 0).isLt
      omega
    have hch := chr_spec ((a.getD i 0 ^^^ b.getD i 0).toNat : Int)
    rw [hbt] at hch
    simp only [go_sem, ↓reduceIte, Nat.reduceEqDiff, Nat.reduceLT, Nat.reduceLeDiff, Nat.reduceAdd, Nat.reduceSub, Nat.reduceMul, Nat.reduceMod, Nat.reduceDiv, Int.reduceLE, Int.reduceLT, Int.reduceToNat, Int.reduceAdd, Int.reduceSub, Int.reduceMul, Int.reduceEq, Int.reduceNeg, BitVec.reduceOfInt, BitVec.reduceToNat, BitVec.reduceEq, BitVec.reduceNe, BitVec.reduceLT, reduceCtorEq, List.forall_mem_nil, h0', h0, h1, h1', hz]
    refine goCallD_pure0 (hch) ?_
    simp only [go_sem, ↓reduceIte, Nat.reduceEqDiff, Nat.reduceLT, Nat.reduceLeDiff, Nat.reduceAdd, Nat.reduceSub, Nat.reduceMul, Nat.reduceMod, Nat.reduceDiv, Int.reduceLE, Int.reduceLT, Int.reduceToNat, Int.reduceAdd, Int.reduceSub, Int.reduceMul, Int.reduceEq, Int.reduceNeg, BitVec.reduceOfInt, BitVec.reduceToNat, BitVec.reduceEq, BitVec.reduceNe, BitVec.reduceLT, reduceCtorEq, List.forall_mem_nil, hap, hl]
    refine ⟨by omega, by kernel_rfl, ?_⟩
    refine again_mk (ji - 1) ⟨[(0, .str a), (1, .str b), (5, .str ((xorB a b).take (i + 1 : Nat))), (8, .i64 a.length), (9, .i64 (i + 1 : Nat))], []⟩ (by omega) ?_ rfl (fun _ _ h => h) ⟨i + 1, by omega, rfl⟩
    have hw1 : w64 ((i : Int) + 1) = ((i + 1 : Nat) : Int) := by rw [w64_of (by omega) (by omega)]; omega
    simp [St.get, lookS, hw1, -List.map_set, -List.map_map]
  · obtain rfl : i = a.length := by omega
    have h0' : ¬ (a.length : Int) < (a.length : Int) := by omega
    have hall : (xorB a b).take a.length = xorB a b := List.take_of_length_le (by omega)
    simp only [go_sem, ↓reduceIte, Nat.reduceEqDiff, Nat.reduceLT, Nat.reduceLeDiff, Nat.reduceAdd, Nat.reduceSub, Nat.reduceMul, Nat.reduceMod, Nat.reduceDiv, Int.reduceLE, Int.reduceLT, Int.reduceToNat, Int.reduceAdd, Int.reduceSub, Int.reduceMul, Int.reduceEq, Int.reduceNeg, BitVec.reduceOfInt, BitVec.reduceToNat, BitVec.reduceEq, BitVec.reduceNe, BitVec.reduceLT, reduceCtorEq, List.forall_mem_nil, h0', hall]
end Go.Vm
end
section
namespace Go.Vm
open Go.Proofs Go.RowKit
/-- A library function that only reads what it is handed. -/
theorem spec0_of_below {P : Program} {f : FuncId} {args : List V} {v : V} {h : List (Option Blk)} (hv : v.low 0)
    (hs : ∀ (ρ : Nat → Nat × Nat) (w : World) (rargs : Array Value), VRs ρ (· < h.length) w args rargs.toList → MemRel ρ (· < h.length) (getH h) w → Calls P f rargs w fun e w' => ∃ r, e = .returned r ∧ VR (fun _ => (0, 0)) (fun _ => False) w' v r ∧ Below w.heap.size w w') : Spec0 P f args h v h := by
  intro ρ w rargs hr hm
  refine (hs ρ w rargs hr hm).mono ?_
  rintro e w' ⟨r, rfl, h1, h2⟩
  have hcell : ∀ p : Addr, p.block < w.heap.size → w'.cell? p = w.cell? p := fun p hp => h2.cell hp
  have hfroz : ∀ p : Addr, p.block < w.heap.size → w'.frozen? p = w.frozen? p := fun p hp => h2.frozen hp
  have hl : Lasts w w' := fun b o hs => by
    have hlt : b < w.heap.size := by
      obtain ⟨u, hu⟩ := Option.isSome_iff_exists.1 hs
      exact World.block_lt_of_cell? (a := ⟨b, o, none⟩) w hu
    exact ⟨by rw [hcell ⟨b, o, none⟩ hlt]; exact hs, fun hf => by rw [hfroz ⟨b, o, none⟩ hlt]; exact hf⟩
  refine ⟨r, ρ, rfl, h1.mono (fun b hb => hb.elim) (fun b hb => hb.elim) (Lasts.refl _), ?_, Nat.le_refl _, fun _ _ => rfl, ?_⟩
  · exact ⟨hm.has, fun b B hB => Nat.lt_of_lt_of_le (hm.lt b B hB) h2.size, hm.inj, fun b B hB i u hu => by
      obtain ⟨r, g1, g2⟩ := hm.cell b B hB i u hu
      exact ⟨r, by rw [hcell _ (hm.lt b B hB)]; exact g1, g2.mono (fun _ _ => rfl) (fun _ h => h) hl⟩,
      fun b B hB ho i hi => by rw [hfroz _ (hm.lt b B hB)]; exact hm.free b B hB ho i hi⟩
  · exact ⟨h2.os, h2.output, h2.tape, h2.size, fun r hr _ => h2.block r hr, hl, fun b B hB ho => .inl ⟨b, B, hB, ho, rfl⟩⟩
theorem join_flat (l : List (List UInt8)) : Lib.join l [] = l.flatten := by
  unfold Lib.join List.intercalate
  have key : ∀ (l : List (List UInt8)), (l.intersperse []).flatten = l.flatten := by
    intro l
    induction l with
    | nil => rfl
    | cons x l ih =>
      cases l with
      | nil => rfl
      | cons y l => rw [List.intersperse_cons_cons, List.flatten_cons, List.flatten_cons, ih, List.nil_append, List.flatten_cons (l := x)]
  exact key l
theorem flat_of (ws : List (List (BitVec 8))) : (((ws.map strOf).map (·.data.toList)).flatten).map UInt8.toBitVec = ws.flatten := by
  induction ws with
  | nil => rfl
  | cons x l ih =>
    rw [List.map_cons, List.map_cons, List.flatten_cons, List.map_append, ih, List.flatten_cons]
    congr 1
    exact bytesOf_strOf x
theorem Join_spec (ws : List (List (BitVec 8))) (hl : ws.length ≤ 1000) (hf : ws.flatten.length ≤ 100000) (h0 : ws ≠ []) : Spec0 Try.prog 57 [.slice 0 0 ws.length 1, .str []] [some ⟨false, ws.map .str⟩] (.str ws.flatten) [some ⟨false, ws.map .str⟩] := by
  refine spec0_of_below (by simp [V.low]) fun ρ w rargs hr hm => ?_
  unfold VRs at hr
  obtain ⟨r1, rs, e1, h1, hr⟩ := hr
  unfold VRs at hr
  obtain ⟨r2, rs2, e2, h2, hr⟩ := hr
  unfold VRs at hr
  unfold VR at h1 h2
  obtain ⟨_, a, cap, rfl, hcap, ha⟩ := h1
  obtain ⟨b, rfl, hb⟩ := h2
  subst hr e2
  have har : rargs = #[.slice (some a) ws.length cap, .string b] := by cases rargs; simp_all
  subst har
  have hb0 : b = ⟨#[]⟩ := bytesOf_inj hb
  subst hb0
  have hpos : 0 < ws.length := List.length_pos_iff.2 h0
  obtain ⟨ha, hth⟩ := ha (by omega)
  subst ha
  have hB : getH [some (⟨false, ws.map V.str⟩ : Blk)] 0 = some ⟨false, ws.map V.str⟩ := rfl
  have hcells : ∀ (j : Nat) x, (ws.map strOf)[j]? = some x → w.cell? ⟨(ρ 0).1, (ρ 0).2 + 0 + j, none⟩ = some (.string x) := by
    intro j x hx
    rw [List.getElem?_map] at hx
    obtain ⟨s, hs, rfl⟩ := Option.map_eq_some_iff.1 hx
    obtain ⟨r, g1, g2⟩ := hm.cell 0 _ hB j (.str s) (by rw [List.getElem?_map, hs]; rfl)
    unfold VR at g2
    obtain ⟨c, rfl, hc⟩ := g2
    rw [Nat.add_zero, g1, ← hc, strOf_bytesOf]
  have hfl := flat_of ws
  have hlen := congrArg List.length hfl
  rw [List.length_map] at hlen
  have hj := shelf_strings_Join (ρ 0).1 ((ρ 0).2 + 0) cap (ws.map strOf) ⟨#[]⟩ w hcells (hm.lt 0 _ hB) (by rw [List.length_map]; omega) (by rw [List.length_map]; exact hcap) (by
    rw [show (⟨#[]⟩ : ByteArray).data.toList = [] from rfl, join_flat, hlen]; omega)
  rw [List.length_map, show (⟨#[]⟩ : ByteArray).data.toList = [] from rfl, join_flat] at hj
  refine hj.mono ?_
  rintro e w' ⟨rfl, hbl⟩
  refine ⟨_, rfl, ?_, hbl⟩
  unfold VR
  exact ⟨_, rfl, hfl⟩
end Go.Vm
end
