/- A part of the proof: laws of a small machine of values, or what one function answers, proved against the model; no conditions beyond those in each theorem. -/
import Derived.Test.YtdghkibbiahbmaaTypesToBytes
import Derived.Test.YtdghkibbiahbmaaChaQToChaT
set_option linter.unusedVariables false
set_option linter.unusedSimpArgs false
set_option linter.unusedSectionVars false
section
namespace Go.Vm
open Go.Proofs
set_option maxRecDepth 20000
/-- The pieces of 13 bits behind k of them, and what is carried on. -/
def passTo (w : List (BitVec 64)) : Nat → List (BitVec 64) × BitVec 64
  | 0 => (w, 0#64)
  | k + 1 => ((passTo w k).1.set k (((passTo w k).1.getD k 0 + (passTo w k).2) % 8192#64), ((passTo w k).1.getD k 0 + (passTo w k).2) / 8192#64)
theorem passTo_length (w : List (BitVec 64)) (k : Nat) : (passTo w k).1.length = w.length := by
  induction k with
  | zero => rfl
  | succ k ih => rw [passTo, List.length_set, ih]
def pass (w : List (BitVec 64)) : List (BitVec 64) := (passTo w 10).1.set 0 ((passTo w 10).1.getD 0 0 + 5#64 * (passTo w 10).2)
theorem pass_length (w : List (BitVec 64)) : (pass w).length = w.length := by unfold pass; rw [List.length_set, passTo_length]
def carr (w : List (BitVec 64)) : Nat → List (BitVec 64)
  | 0 => w
  | i + 1 => pass (carr w i)
theorem carr_length (w : List (BitVec 64)) (i : Nat) : (carr w i).length = w.length := by
  induction i with
  | zero => rfl
  | succ i ih => rw [carr, pass_length, ih]
theorem carried_spec (w : List (BitVec 64)) (hw : w.length = 10) : PureFn Try.prog 79 [.agg (w.map .u64)] (.agg ((carr w 3).map .u64)) := by
  have hz : [V.u64 0#64, V.u64 0#64, V.u64 0#64, V.u64 0#64, V.u64 0#64, V.u64 0#64, V.u64 0#64, V.u64 0#64, V.u64 0#64, V.u64 0#64] = (List.replicate 10 0#64).map V.u64 := rfl
  refine pure_of_vc (by kernel_rfl) (fn := Try.f79) (by kernel_rfl) Try.func79 rfl (by show 1 ≤ 31; decide) (by simp [lows_u64, lows, V.low]) (by simp [lows_u64, lows, V.low, lows_ite, low_ite]) (go_start ?_)
  simp only [go_sem, ↓reduceIte, Nat.reduceEqDiff, Nat.reduceLT, Nat.reduceLeDiff, Nat.reduceAdd, Nat.reduceSub, Nat.reduceMul, Nat.reduceMod, Nat.reduceDiv, Int.reduceLE, Int.reduceLT, Int.reduceToNat, Int.reduceAdd, Int.reduceSub, Int.reduceMul, Int.reduceEq, Int.reduceNeg, BitVec.reduceOfInt, BitVec.reduceToNat, BitVec.reduceEq, BitVec.reduceNe, BitVec.reduceLT, reduceCtorEq, and_true, true_and, and_self, Nat.succ_ne_self, decide_true, decide_false, Bool.false_eq_true, Nat.one_ne_zero, Nat.zero_ne_one, Nat.not_lt_zero, Nat.zero_lt_succ, ge_iff_le, gt_iff_lt, decide_eq_true_eq, Option.some.injEq, List.getElem?_cons_zero, List.getElem?_cons_succ, List.length_cons, List.length_nil, Int.natCast_zero, List.map_cons, List.map_nil, List.append_nil, List.nil_append, List.cons_append, vconv, Option.map_some, Option.map_none, List.getD_cons_zero, List.getD_cons_succ, List.not_mem_nil, false_implies, implies_true, List.getElem?_toArray, Option.bind_some, List.set_cons_zero, List.set_cons_succ, List.take_succ_cons, List.take_zero, List.drop_succ_cons, List.drop_zero, List.drop_nil, List.take_nil, List.forall_mem_cons, List.forall_mem_nil, V.u8.injEq, exists_eq', Nat.zero_mul, Nat.one_mul, Nat.zero_add, Nat.mul_one, Nat.add_zero, Int.toNat_natCast, Int.cast_ofNat_Int, ne_eq, not_true_eq_false, not_false_eq_true, List.length_set, List.length_append, List.length_take, List.length_drop, List.length_replicate, Option.isSome_none, Option.isSome_some, w64_of, Bool.not_true, Bool.not_false, Bool.true_and, Bool.false_and, Bool.and_true, Bool.and_false, Bool.true_or, Bool.false_or, Bool.or_true, Bool.or_false, Bool.not_eq_true', decide_eq_false_iff_not, beq_self_eq_true, List.take_length, Nat.le_refl, Int.le_refl, Blk.mk.injEq, Try.ntmps79, Try.results79]
  refine go_loop (fun ji st => ∃ i : Nat, i + ji = 3 ∧ st = ⟨[(1, .ptr 0 0), (2, .ptr 1 0), (6, .i64 i)], [some ⟨false, (carr w i).map .u64⟩, some ⟨false, [.u64 0#64, .u64 0#64, .u64 0#64, .u64 0#64, .u64 0#64, .u64 0#64, .u64 0#64, .u64 0#64, .u64 0#64, .u64 0#64]⟩]⟩) ?_ ?_
  · exact start_mk (3) ⟨[(1, .ptr 0 0), (2, .ptr 1 0), (6, .i64 (0 : Nat))], [some ⟨false, (carr w (0 : Nat)).map .u64⟩, some ⟨false, [.u64 0#64, .u64 0#64, .u64 0#64, .u64 0#64, .u64 0#64, .u64 0#64, .u64 0#64, .u64 0#64, .u64 0#64, .u64 0#64]⟩]⟩ (by simp [St.get, lookS, -List.map_set, -List.map_map]) rfl (fun _ _ h => h) ⟨0, by omega, rfl⟩
  rintro ji st ⟨i, hi, rfl⟩ _
  simp only [go_sem, ↓reduceIte, Nat.reduceEqDiff, Nat.reduceLT, Nat.reduceLeDiff, Nat.reduceAdd, Nat.reduceSub, Nat.reduceMul, Nat.reduceMod, Nat.reduceDiv, Int.reduceLE, Int.reduceLT, Int.reduceToNat, Int.reduceAdd, Int.reduceSub, Int.reduceMul, Int.reduceEq, Int.reduceNeg, BitVec.reduceOfInt, BitVec.reduceToNat, BitVec.reduceEq, BitVec.reduceNe, BitVec.reduceLT, reduceCtorEq, and_true, true_and, and_self, Nat.succ_ne_self, decide_true, decide_false, Bool.false_eq_true, Nat.one_ne_zero, Nat.zero_ne_one, Nat.not_lt_zero, Nat.zero_lt_succ, ge_iff_le, gt_iff_lt, decide_eq_true_eq, Option.some.injEq, List.getElem?_cons_zero, List.getElem?_cons_succ, List.length_cons, List.length_nil, Int.natCast_zero, List.map_cons, List.map_nil, List.append_nil, List.nil_append, List.cons_append, vconv, Option.map_some, Option.map_none, List.getD_cons_zero, List.getD_cons_succ, List.not_mem_nil, false_implies, implies_true, List.getElem?_toArray, Option.bind_some, List.set_cons_zero, List.set_cons_succ, List.take_succ_cons, List.take_zero, List.drop_succ_cons, List.drop_zero, List.drop_nil, List.take_nil, List.forall_mem_cons, List.forall_mem_nil, V.u8.injEq, exists_eq', Nat.zero_mul, Nat.one_mul, Nat.zero_add, Nat.mul_one, Nat.add_zero, Int.toNat_natCast, Int.cast_ofNat_Int, ne_eq, not_true_eq_false, not_false_eq_true, List.length_set, List.length_append, List.length_take, List.length_drop, List.length_replicate, Option.isSome_none, Option.isSome_some, w64_of, Bool.not_true, Bool.not_false, Bool.true_and, Bool.false_and, Bool.and_true, Bool.and_false, Bool.true_or, Bool.false_or, Bool.or_true, Bool.or_false, Bool.not_eq_true', decide_eq_false_iff_not, beq_self_eq_true, List.take_length, Nat.le_refl, Int.le_refl, Blk.mk.injEq]
  by_cases h0 : i < 3
  · have h0' : (i : Int) < 3 := by omega
    have hcl := carr_length w i
    rw [hw] at hcl
    have hi1 : pass (carr w i) = carr w (i + 1) := rfl
    simp only [go_sem, ↓reduceIte, Nat.reduceEqDiff, Nat.reduceLT, Nat.reduceLeDiff, Nat.reduceAdd, Nat.reduceSub, Nat.reduceMul, Nat.reduceMod, Nat.reduceDiv, Int.reduceLE, Int.reduceLT, Int.reduceToNat, Int.reduceAdd, Int.reduceSub, Int.reduceMul, Int.reduceEq, Int.reduceNeg, BitVec.reduceOfInt, BitVec.reduceToNat, BitVec.reduceEq, BitVec.reduceNe, BitVec.reduceLT, reduceCtorEq, and_true, true_and, and_self, Nat.succ_ne_self, decide_true, decide_false, Bool.false_eq_true, Nat.one_ne_zero, Nat.zero_ne_one, Nat.not_lt_zero, Nat.zero_lt_succ, ge_iff_le, gt_iff_lt, decide_eq_true_eq, Option.some.injEq, List.getElem?_cons_zero, List.getElem?_cons_succ, List.length_cons, List.length_nil, Int.natCast_zero, List.map_cons, List.map_nil, List.append_nil, List.nil_append, List.cons_append, vconv, Option.map_some, Option.map_none, List.getD_cons_zero, List.getD_cons_succ, List.not_mem_nil, false_implies, implies_true, List.getElem?_toArray, Option.bind_some, List.set_cons_zero, List.set_cons_succ, List.take_succ_cons, List.take_zero, List.drop_succ_cons, List.drop_zero, List.drop_nil, List.take_nil, List.forall_mem_cons, List.forall_mem_nil, V.u8.injEq, exists_eq', Nat.zero_mul, Nat.one_mul, Nat.zero_add, Nat.mul_one, Nat.add_zero, Int.toNat_natCast, Int.cast_ofNat_Int, ne_eq, not_true_eq_false, not_false_eq_true, List.length_set, List.length_append, List.length_take, List.length_drop, List.length_replicate, Option.isSome_none, Option.isSome_some, w64_of, Bool.not_true, Bool.not_false, Bool.true_and, Bool.false_and, Bool.and_true, Bool.and_false, Bool.true_or, Bool.false_or, Bool.or_true, Bool.or_false, Bool.not_eq_true', decide_eq_false_iff_not, beq_self_eq_true, List.take_length, Nat.le_refl, Int.le_refl, Blk.mk.injEq, h0']
    generalize carr w i = v at hcl hi1 ⊢
    refine go_loop (fun jk st => ∃ k : Nat, k + jk = 10 ∧ st = ⟨[(1, .ptr 0 0), (2, .ptr 1 0), (3, .u64 (passTo v k).2), (6, .i64 i), (8, .i64 k)], [some ⟨false, (passTo v k).1.map .u64⟩, some ⟨false, [.u64 0#64, .u64 0#64, .u64 0#64, .u64 0#64, .u64 0#64, .u64 0#64, .u64 0#64, .u64 0#64, .u64 0#64, .u64 0#64]⟩]⟩) ?_ ?_
    · exact start_mk 10 ⟨[(1, .ptr 0 0), (2, .ptr 1 0), (3, .u64 (passTo v 0).2), (6, .i64 i), (8, .i64 (0 : Nat))], [some ⟨false, (passTo v 0).1.map .u64⟩, some ⟨false, [.u64 0#64, .u64 0#64, .u64 0#64, .u64 0#64, .u64 0#64, .u64 0#64, .u64 0#64, .u64 0#64, .u64 0#64, .u64 0#64]⟩]⟩ (by simp [St.get, lookS, passTo]) rfl (fun _ _ h => h) ⟨0, by omega, rfl⟩
    rintro jk st ⟨k, hk, rfl⟩ _
    simp only [go_sem, ↓reduceIte, Nat.reduceEqDiff, Nat.reduceLT, Nat.reduceLeDiff, Nat.reduceAdd, Nat.reduceSub, Nat.reduceMul, Nat.reduceMod, Nat.reduceDiv, Int.reduceLE, Int.reduceLT, Int.reduceToNat, Int.reduceAdd, Int.reduceSub, Int.reduceMul, Int.reduceEq, Int.reduceNeg, BitVec.reduceOfInt, BitVec.reduceToNat, BitVec.reduceEq, BitVec.reduceNe, BitVec.reduceLT, reduceCtorEq, and_true, true_and, and_self, Nat.succ_ne_self, decide_true, decide_false, Bool.false_eq_true, Nat.one_ne_zero, Nat.zero_ne_one, Nat.not_lt_zero, Nat.zero_lt_succ, ge_iff_le, gt_iff_lt, decide_eq_true_eq, Option.some.injEq, List.getElem?_cons_zero, List.getElem?_cons_succ, List.length_cons, List.length_nil, Int.natCast_zero, List.map_cons, List.map_nil, List.append_nil, List.nil_append, List.cons_append, vconv, Option.map_some, Option.map_none, List.getD_cons_zero, List.getD_cons_succ, List.not_mem_nil, false_implies, implies_true, List.getElem?_toArray, Option.bind_some, List.set_cons_zero, List.set_cons_succ, List.take_succ_cons, List.take_zero, List.drop_succ_cons, List.drop_zero, List.drop_nil, List.take_nil, List.forall_mem_cons, List.forall_mem_nil, V.u8.injEq, exists_eq', Nat.zero_mul, Nat.one_mul, Nat.zero_add, Nat.mul_one, Nat.add_zero, Int.toNat_natCast, Int.cast_ofNat_Int, ne_eq, not_true_eq_false, not_false_eq_true, List.length_set, List.length_append, List.length_take, List.length_drop, List.length_replicate, Option.isSome_none, Option.isSome_some, w64_of, Bool.not_true, Bool.not_false, Bool.true_and, Bool.false_and, Bool.and_true, Bool.and_false, Bool.true_or, Bool.false_or, Bool.or_true, Bool.or_false, Bool.not_eq_true', decide_eq_false_iff_not, beq_self_eq_true, List.take_length, Nat.le_refl, Int.le_refl, Blk.mk.injEq]
    have hpl := passTo_length v k
    rw [hcl] at hpl
    by_cases hk0 : k < 10
    · have hk0' : (k : Int) < 10 := by omega
      have hkl : k < (passTo v k).1.length := by omega
      simp only [go_sem, ↓reduceIte, Nat.reduceEqDiff, Nat.reduceLT, Nat.reduceLeDiff, Nat.reduceAdd, Nat.reduceSub, Nat.reduceMul, Nat.reduceMod, Nat.reduceDiv, Int.reduceLE, Int.reduceLT, Int.reduceToNat, Int.reduceAdd, Int.reduceSub, Int.reduceMul, Int.reduceEq, Int.reduceNeg, BitVec.reduceOfInt, BitVec.reduceToNat, BitVec.reduceEq, BitVec.reduceNe, BitVec.reduceLT, reduceCtorEq, and_true, true_and, and_self, Nat.succ_ne_self, decide_true, decide_false, Bool.false_eq_true, Nat.one_ne_zero, Nat.zero_ne_one, Nat.not_lt_zero, Nat.zero_lt_succ, ge_iff_le, gt_iff_lt, decide_eq_true_eq, Option.some.injEq, List.getElem?_cons_zero, List.getElem?_cons_succ, List.length_cons, List.length_nil, Int.natCast_zero, List.map_cons, List.map_nil, List.append_nil, List.nil_append, List.cons_append, vconv, Option.map_some, Option.map_none, List.getD_cons_zero, List.getD_cons_succ, List.not_mem_nil, false_implies, implies_true, List.getElem?_toArray, Option.bind_some, List.set_cons_zero, List.set_cons_succ, List.take_succ_cons, List.take_zero, List.drop_succ_cons, List.drop_zero, List.drop_nil, List.take_nil, List.forall_mem_cons, List.forall_mem_nil, V.u8.injEq, exists_eq', Nat.zero_mul, Nat.one_mul, Nat.zero_add, Nat.mul_one, Nat.add_zero, Int.toNat_natCast, Int.cast_ofNat_Int, ne_eq, not_true_eq_false, not_false_eq_true, List.length_set, List.length_append, List.length_take, List.length_drop, List.length_replicate, Option.isSome_none, Option.isSome_some, w64_of, Bool.not_true, Bool.not_false, Bool.true_and, Bool.false_and, Bool.and_true, Bool.and_false, Bool.true_or, Bool.false_or, Bool.or_true, Bool.or_false, Bool.not_eq_true', decide_eq_false_iff_not, beq_self_eq_true, List.take_length, Nat.le_refl, Int.le_refl, Blk.mk.injEq, hk0', hk0, hpl, getD_u64 hkl]
      refine ⟨by omega, by omega, by omega, ?_⟩
      refine again_mk (jk - 1) ⟨[(1, .ptr 0 0), (2, .ptr 1 0), (3, .u64 (passTo v (k + 1 : Nat)).2), (6, .i64 i), (8, .i64 (k + 1 : Nat))], [some ⟨false, (passTo v (k + 1 : Nat)).1.map .u64⟩, some ⟨false, [.u64 0#64, .u64 0#64, .u64 0#64, .u64 0#64, .u64 0#64, .u64 0#64, .u64 0#64, .u64 0#64, .u64 0#64, .u64 0#64]⟩]⟩ (by omega) ?_ rfl (fun _ _ h => h) ⟨k + 1, by omega, rfl⟩
      have hw1 : w64 ((k : Int) + 1) = ((k + 1 : Nat) : Int) := by rw [w64_of (by omega) (by omega)]; omega
      simp [St.get, lookS, hw1, -List.map_set, -List.map_map, passTo]
    · obtain rfl : k = 10 := by omega
      have hk0' : ¬ ((10 : Nat) : Int) < 10 := by omega
      have hkl : 0 < (passTo v 10).1.length := by omega
      simp only [go_sem, ↓reduceIte, Nat.reduceEqDiff, Nat.reduceLT, Nat.reduceLeDiff, Nat.reduceAdd, Nat.reduceSub, Nat.reduceMul, Nat.reduceMod, Nat.reduceDiv, Int.reduceLE, Int.reduceLT, Int.reduceToNat, Int.reduceAdd, Int.reduceSub, Int.reduceMul, Int.reduceEq, Int.reduceNeg, BitVec.reduceOfInt, BitVec.reduceToNat, BitVec.reduceEq, BitVec.reduceNe, BitVec.reduceLT, reduceCtorEq, and_true, true_and, and_self, Nat.succ_ne_self, decide_true, decide_false, Bool.false_eq_true, Nat.one_ne_zero, Nat.zero_ne_one, Nat.not_lt_zero, Nat.zero_lt_succ, ge_iff_le, gt_iff_lt, decide_eq_true_eq, Option.some.injEq, List.getElem?_cons_zero, List.getElem?_cons_succ, List.length_cons, List.length_nil, Int.natCast_zero, List.map_cons, List.map_nil, List.append_nil, List.nil_append, List.cons_append, vconv, Option.map_some, Option.map_none, List.getD_cons_zero, List.getD_cons_succ, List.not_mem_nil, false_implies, implies_true, List.getElem?_toArray, Option.bind_some, List.set_cons_zero, List.set_cons_succ, List.take_succ_cons, List.take_zero, List.drop_succ_cons, List.drop_zero, List.drop_nil, List.take_nil, List.forall_mem_cons, List.forall_mem_nil, V.u8.injEq, exists_eq', Nat.zero_mul, Nat.one_mul, Nat.zero_add, Nat.mul_one, Nat.add_zero, Int.toNat_natCast, Int.cast_ofNat_Int, ne_eq, not_true_eq_false, not_false_eq_true, List.length_set, List.length_append, List.length_take, List.length_drop, List.length_replicate, Option.isSome_none, Option.isSome_some, w64_of, Bool.not_true, Bool.not_false, Bool.true_and, Bool.false_and, Bool.and_true, Bool.and_false, Bool.true_or, Bool.false_or, Bool.or_true, Bool.or_false, Bool.not_eq_true', decide_eq_false_iff_not, beq_self_eq_true, List.take_length, Nat.le_refl, Int.le_refl, Blk.mk.injEq, hk0', hpl, getD_u64 hkl]
      have hp : (passTo v 10).1.set 0 ((passTo v 10).1.getD 0 0 + 5#64 * (passTo v 10).2) = carr w (i + 1) := hi1
      simp only [hp]
      refine again_mk (ji - 1) ⟨[(1, .ptr 0 0), (2, .ptr 1 0), (6, .i64 (i + 1 : Nat))], [some ⟨false, (carr w (i + 1 : Nat)).map .u64⟩, some ⟨false, [.u64 0#64, .u64 0#64, .u64 0#64, .u64 0#64, .u64 0#64, .u64 0#64, .u64 0#64, .u64 0#64, .u64 0#64, .u64 0#64]⟩]⟩ (by omega) ?_ rfl (fun _ _ h => h) ⟨i + 1, by omega, rfl⟩
      have hw1 : w64 ((i : Int) + 1) = ((i + 1 : Nat) : Int) := by rw [w64_of (by omega) (by omega)]; omega
      simp [St.get, lookS, hw1, -List.map_set, -List.map_map]
  · obtain rfl : i = 3 := by omega
    have h0' : ¬ ((3 : Nat) : Int) < 3 := by omega
    have hcl := carr_length w 3
    rw [hw] at hcl
    have hm : min 10 10 = 10 := rfl
    simp only [go_sem, ↓reduceIte, Nat.reduceEqDiff, Nat.reduceLT, Nat.reduceLeDiff, Nat.reduceAdd, Nat.reduceSub, Nat.reduceMul, Nat.reduceMod, Nat.reduceDiv, Int.reduceLE, Int.reduceLT, Int.reduceToNat, Int.reduceAdd, Int.reduceSub, Int.reduceMul, Int.reduceEq, Int.reduceNeg, BitVec.reduceOfInt, BitVec.reduceToNat, BitVec.reduceEq, BitVec.reduceNe, BitVec.reduceLT, reduceCtorEq, and_true, true_and, and_self, Nat.succ_ne_self, decide_true, decide_false, Bool.false_eq_true, Nat.one_ne_zero, Nat.zero_ne_one, Nat.not_lt_zero, Nat.zero_lt_succ, ge_iff_le, gt_iff_lt, decide_eq_true_eq, Option.some.injEq, List.getElem?_cons_zero, List.getElem?_cons_succ, List.length_cons, List.length_nil, Int.natCast_zero, List.map_cons, List.map_nil, List.append_nil, List.nil_append, List.cons_append, vconv, Option.map_some, Option.map_none, List.getD_cons_zero, List.getD_cons_succ, List.not_mem_nil, false_implies, implies_true, List.getElem?_toArray, Option.bind_some, List.set_cons_zero, List.set_cons_succ, List.take_succ_cons, List.take_zero, List.drop_succ_cons, List.drop_zero, List.drop_nil, List.take_nil, List.forall_mem_cons, List.forall_mem_nil, V.u8.injEq, exists_eq', Nat.zero_mul, Nat.one_mul, Nat.zero_add, Nat.mul_one, Nat.add_zero, Int.toNat_natCast, Int.cast_ofNat_Int, ne_eq, not_true_eq_false, not_false_eq_true, List.length_set, List.length_append, List.length_take, List.length_drop, List.length_replicate, Option.isSome_none, Option.isSome_some, w64_of, Bool.not_true, Bool.not_false, Bool.true_and, Bool.false_and, Bool.and_true, Bool.and_false, Bool.true_or, Bool.false_or, Bool.or_true, Bool.or_false, Bool.not_eq_true', decide_eq_false_iff_not, beq_self_eq_true, List.take_length, Nat.le_refl, Int.le_refl, Blk.mk.injEq, h0', hcl, hm, splice_all, List.take_of_length_le]
/-- The first i pieces added. -/
def sumTo (a b : List (BitVec 64)) : Nat → List (BitVec 64)
  | 0 => a
  | i + 1 => (sumTo a b i).set i ((sumTo a b i).getD i 0 + b.getD i 0)
theorem sumTo_length (a b : List (BitVec 64)) (i : Nat) : (sumTo a b i).length = a.length := by
  induction i with
  | zero => rfl
  | succ i ih => rw [sumTo, List.length_set, ih]
theorem plusL_spec (a b : List (BitVec 64)) (ha : a.length = 10) (hb : b.length = 10) : PureFn Try.prog 40 [.agg (a.map .u64), .agg (b.map .u64)] (.agg ((carr (sumTo a b 10) 3).map .u64)) := by
  have hs := sumTo_length a b 10
  rw [ha] at hs
  have hcs := carried_spec (sumTo a b 10) hs
  have hcl := carr_length (sumTo a b 10) 3
  rw [hs] at hcl
  generalize carr (sumTo a b 10) 3 = r at hcs hcl ⊢
  refine pure_of_vc (by kernel_rfl) (fn := Try.f40) (by kernel_rfl) Try.func40 rfl (by show 2 ≤ 20; decide) (by simp [lows_u64, lows, V.low]) (by simp [lows_u64, lows, V.low, lows_ite, low_ite]) (go_start ?_)
  simp only [go_sem, ↓reduceIte, Nat.reduceEqDiff, Nat.reduceLT, Nat.reduceLeDiff, Nat.reduceAdd, Nat.reduceSub, Nat.reduceMul, Nat.reduceMod, Nat.reduceDiv, Int.reduceLE, Int.reduceLT, Int.reduceToNat, Int.reduceAdd, Int.reduceSub, Int.reduceMul, Int.reduceEq, Int.reduceNeg, BitVec.reduceOfInt, BitVec.reduceToNat, BitVec.reduceEq, BitVec.reduceNe, BitVec.reduceLT, reduceCtorEq, and_true, true_and, and_self, Nat.succ_ne_self, decide_true, decide_false, Bool.false_eq_true, Nat.one_ne_zero, Nat.zero_ne_one, Nat.not_lt_zero, Nat.zero_lt_succ, ge_iff_le, gt_iff_lt, decide_eq_true_eq, Option.some.injEq, List.getElem?_cons_zero, List.getElem?_cons_succ, List.length_cons, List.length_nil, Int.natCast_zero, List.map_cons, List.map_nil, List.append_nil, List.nil_append, List.cons_append, vconv, Option.map_some, Option.map_none, List.getD_cons_zero, List.getD_cons_succ, List.not_mem_nil, false_implies, implies_true, List.getElem?_toArray, Option.bind_some, List.set_cons_zero, List.set_cons_succ, List.take_succ_cons, List.take_zero, List.drop_succ_cons, List.drop_zero, List.drop_nil, List.take_nil, List.forall_mem_cons, List.forall_mem_nil, V.u8.injEq, exists_eq', Nat.zero_mul, Nat.one_mul, Nat.zero_add, Nat.mul_one, Nat.add_zero, Int.toNat_natCast, Int.cast_ofNat_Int, ne_eq, not_true_eq_false, not_false_eq_true, List.length_set, List.length_append, List.length_take, List.length_drop, List.length_replicate, Option.isSome_none, Option.isSome_some, w64_of, Bool.not_true, Bool.not_false, Bool.true_and, Bool.false_and, Bool.and_true, Bool.and_false, Bool.true_or, Bool.false_or, Bool.or_true, Bool.or_false, Bool.not_eq_true', decide_eq_false_iff_not, beq_self_eq_true, List.take_length, Nat.le_refl, Int.le_refl, Blk.mk.injEq, Try.ntmps40, Try.results40]
  refine go_loop (fun ji st => ∃ i : Nat, i + ji = 10 ∧ st = ⟨[(2, .ptr 0 0), (3, .ptr 1 0), (4, .ptr 2 0), (6, .i64 i)], [some ⟨false, (sumTo a b i).map .u64⟩, some ⟨false, b.map .u64⟩, some ⟨false, [.u64 0#64, .u64 0#64, .u64 0#64, .u64 0#64, .u64 0#64, .u64 0#64, .u64 0#64, .u64 0#64, .u64 0#64, .u64 0#64]⟩]⟩) ?_ ?_
  · exact start_mk (10) ⟨[(2, .ptr 0 0), (3, .ptr 1 0), (4, .ptr 2 0), (6, .i64 (0 : Nat))], [some ⟨false, (sumTo a b (0 : Nat)).map .u64⟩, some ⟨false, b.map .u64⟩, some ⟨false, [.u64 0#64, .u64 0#64, .u64 0#64, .u64 0#64, .u64 0#64, .u64 0#64, .u64 0#64, .u64 0#64, .u64 0#64, .u64 0#64]⟩]⟩ (by simp [St.get, lookS, -List.map_set, -List.map_map]) rfl (fun _ _ h => h) ⟨0, by omega, rfl⟩
  rintro ji st ⟨i, hi, rfl⟩ _
  simp only [go_sem, ↓reduceIte, Nat.reduceEqDiff, Nat.reduceLT, Nat.reduceLeDiff, Nat.reduceAdd, Nat.reduceSub, Nat.reduceMul, Nat.reduceMod, Nat.reduceDiv, Int.reduceLE, Int.reduceLT, Int.reduceToNat, Int.reduceAdd, Int.reduceSub, Int.reduceMul, Int.reduceEq, Int.reduceNeg, BitVec.reduceOfInt, BitVec.reduceToNat, BitVec.reduceEq, BitVec.reduceNe, BitVec.reduceLT, reduceCtorEq, and_true, true_and, and_self, Nat.succ_ne_self, decide_true, decide_false, Bool.false_eq_true, Nat.one_ne_zero, Nat.zero_ne_one, Nat.not_lt_zero, Nat.zero_lt_succ, ge_iff_le, gt_iff_lt, decide_eq_true_eq, Option.some.injEq, List.getElem?_cons_zero, List.getElem?_cons_succ, List.length_cons, List.length_nil, Int.natCast_zero, List.map_cons, List.map_nil, List.append_nil, List.nil_append, List.cons_append, vconv, Option.map_some, Option.map_none, List.getD_cons_zero, List.getD_cons_succ, List.not_mem_nil, false_implies, implies_true, List.getElem?_toArray, Option.bind_some, List.set_cons_zero, List.set_cons_succ, List.take_succ_cons, List.take_zero, List.drop_succ_cons, List.drop_zero, List.drop_nil, List.take_nil, List.forall_mem_cons, List.forall_mem_nil, V.u8.injEq, exists_eq', Nat.zero_mul, Nat.one_mul, Nat.zero_add, Nat.mul_one, Nat.add_zero, Int.toNat_natCast, Int.cast_ofNat_Int, ne_eq, not_true_eq_false, not_false_eq_true, List.length_set, List.length_append, List.length_take, List.length_drop, List.length_replicate, Option.isSome_none, Option.isSome_some, w64_of, Bool.not_true, Bool.not_false, Bool.true_and, Bool.false_and, Bool.and_true, Bool.and_false, Bool.true_or, Bool.false_or, Bool.or_true, Bool.or_false, Bool.not_eq_true', decide_eq_false_iff_not, beq_self_eq_true, List.take_length, Nat.le_refl, Int.le_refl, Blk.mk.injEq]
  by_cases h0 : i < 10
  · have h0' : (i : Int) < 10 := by omega
    have hl := sumTo_length a b i
    rw [ha] at hl
    have h1 : i < (sumTo a b i).length := by omega
    have h2 : i < b.length := by omega
    simp only [go_sem, ↓reduceIte, Nat.reduceEqDiff, Nat.reduceLT, Nat.reduceLeDiff, Nat.reduceAdd, Nat.reduceSub, Nat.reduceMul, Nat.reduceMod, Nat.reduceDiv, Int.reduceLE, Int.reduceLT, Int.reduceToNat, Int.reduceAdd, Int.reduceSub, Int.reduceMul, Int.reduceEq, Int.reduceNeg, BitVec.reduceOfInt, BitVec.reduceToNat, BitVec.reduceEq, BitVec.reduceNe, BitVec.reduceLT, reduceCtorEq, and_true, true_and, and_self, Nat.succ_ne_self, decide_true, decide_false, Bool.false_eq_true, Nat.one_ne_zero, Nat.zero_ne_one, Nat.not_lt_zero, Nat.zero_lt_succ, ge_iff_le, gt_iff_lt, decide_eq_true_eq, Option.some.injEq, List.getElem?_cons_zero, List.getElem?_cons_succ, List.length_cons, List.length_nil, Int.natCast_zero, List.map_cons, List.map_nil, List.append_nil, List.nil_append, List.cons_append, vconv, Option.map_some, Option.map_none, List.getD_cons_zero, List.getD_cons_succ, List.not_mem_nil, false_implies, implies_true, List.getElem?_toArray, Option.bind_some, List.set_cons_zero, List.set_cons_succ, List.take_succ_cons, List.take_zero, List.drop_succ_cons, List.drop_zero, List.drop_nil, List.take_nil, List.forall_mem_cons, List.forall_mem_nil, V.u8.injEq, exists_eq', Nat.zero_mul, Nat.one_mul, Nat.zero_add, Nat.mul_one, Nat.add_zero, Int.toNat_natCast, Int.cast_ofNat_Int, ne_eq, not_true_eq_false, not_false_eq_true, List.length_set, List.length_append, List.length_take, List.length_drop, List.length_replicate, Option.isSome_none, Option.isSome_some, w64_of, Bool.not_true, Bool.not_false, Bool.true_and, Bool.false_and, Bool.and_true, Bool.and_false, Bool.true_or, Bool.false_or, Bool.or_true, Bool.or_false, Bool.not_eq_true', decide_eq_false_iff_not, beq_self_eq_true, List.take_length, Nat.le_refl, Int.le_refl, Blk.mk.injEq, h0', h0, hl, hb, getD_u64 h1, getD_u64 h2]
    refine ⟨by omega, by omega, by omega, by omega, by kernel_rfl, ?_⟩
    refine again_mk (ji - 1) ⟨[(2, .ptr 0 0), (3, .ptr 1 0), (4, .ptr 2 0), (6, .i64 (i + 1 : Nat))], [some ⟨false, (sumTo a b (i + 1 : Nat)).map .u64⟩, some ⟨false, b.map .u64⟩, some ⟨false, [.u64 0#64, .u64 0#64, .u64 0#64, .u64 0#64, .u64 0#64, .u64 0#64, .u64 0#64, .u64 0#64, .u64 0#64, .u64 0#64]⟩]⟩ (by omega) ?_ rfl (fun _ _ h => h) ⟨i + 1, by omega, rfl⟩
    have hw1 : w64 ((i : Int) + 1) = ((i + 1 : Nat) : Int) := by rw [w64_of (by omega) (by omega)]; omega
    simp [St.get, lookS, hw1, -List.map_set, -List.map_map]
  · obtain rfl : i = 10 := by omega
    have h0' : ¬ ((10 : Nat) : Int) < 10 := by omega
    have hm : min 10 10 = 10 := rfl
    simp only [go_sem, ↓reduceIte, Nat.reduceEqDiff, Nat.reduceLT, Nat.reduceLeDiff, Nat.reduceAdd, Nat.reduceSub, Nat.reduceMul, Nat.reduceMod, Nat.reduceDiv, Int.reduceLE, Int.reduceLT, Int.reduceToNat, Int.reduceAdd, Int.reduceSub, Int.reduceMul, Int.reduceEq, Int.reduceNeg, BitVec.reduceOfInt, BitVec.reduceToNat, BitVec.reduceEq, BitVec.reduceNe, BitVec.reduceLT, reduceCtorEq, and_true, true_and, and_self, Nat.succ_ne_self, decide_true, decide_false, Bool.false_eq_true, Nat.one_ne_zero, Nat.zero_ne_one, Nat.not_lt_zero, Nat.zero_lt_succ, ge_iff_le, gt_iff_lt, decide_eq_true_eq, Option.some.injEq, List.getElem?_cons_zero, List.getElem?_cons_succ, List.length_cons, List.length_nil, Int.natCast_zero, List.map_cons, List.map_nil, List.append_nil, List.nil_append, List.cons_append, vconv, Option.map_some, Option.map_none, List.getD_cons_zero, List.getD_cons_succ, List.not_mem_nil, false_implies, implies_true, List.getElem?_toArray, Option.bind_some, List.set_cons_zero, List.set_cons_succ, List.take_succ_cons, List.take_zero, List.drop_succ_cons, List.drop_zero, List.drop_nil, List.take_nil, List.forall_mem_cons, List.forall_mem_nil, V.u8.injEq, exists_eq', Nat.zero_mul, Nat.one_mul, Nat.zero_add, Nat.mul_one, Nat.add_zero, Int.toNat_natCast, Int.cast_ofNat_Int, ne_eq, not_true_eq_false, not_false_eq_true, List.length_set, List.length_append, List.length_take, List.length_drop, List.length_replicate, Option.isSome_none, Option.isSome_some, w64_of, Bool.not_true, Bool.not_false, Bool.true_and, Bool.false_and, Bool.and_true, Bool.and_false, Bool.true_or, Bool.false_or, Bool.or_true, Bool.or_false, Bool.not_eq_true', decide_eq_false_iff_not, beq_self_eq_true, List.take_length, Nat.le_refl, Int.le_refl, Blk.mk.injEq, h0', hs, hm, splice_all, List.take_of_length_le]
    refine goCall_pure0 (hcs) ?_
    simp only [go_sem, ↓reduceIte, Nat.reduceEqDiff, Nat.reduceLT, Nat.reduceLeDiff, Nat.reduceAdd, Nat.reduceSub, Nat.reduceMul, Nat.reduceMod, Nat.reduceDiv, Int.reduceLE, Int.reduceLT, Int.reduceToNat, Int.reduceAdd, Int.reduceSub, Int.reduceMul, Int.reduceEq, Int.reduceNeg, BitVec.reduceOfInt, BitVec.reduceToNat, BitVec.reduceEq, BitVec.reduceNe, BitVec.reduceLT, reduceCtorEq, and_true, true_and, and_self, Nat.succ_ne_self, decide_true, decide_false, Bool.false_eq_true, Nat.one_ne_zero, Nat.zero_ne_one, Nat.not_lt_zero, Nat.zero_lt_succ, ge_iff_le, gt_iff_lt, decide_eq_true_eq, Option.some.injEq, List.getElem?_cons_zero, List.getElem?_cons_succ, List.length_cons, List.length_nil, Int.natCast_zero, List.map_cons, List.map_nil, List.append_nil, List.nil_append, List.cons_append, vconv, Option.map_some, Option.map_none, List.getD_cons_zero, List.getD_cons_succ, List.not_mem_nil, false_implies, implies_true, List.getElem?_toArray, Option.bind_some, List.set_cons_zero, List.set_cons_succ, List.take_succ_cons, List.take_zero, List.drop_succ_cons, List.drop_zero, List.drop_nil, List.take_nil, List.forall_mem_cons, List.forall_mem_nil, V.u8.injEq, exists_eq', Nat.zero_mul, Nat.one_mul, Nat.zero_add, Nat.mul_one, Nat.add_zero, Int.toNat_natCast, Int.cast_ofNat_Int, ne_eq, not_true_eq_false, not_false_eq_true, List.length_set, List.length_append, List.length_take, List.length_drop, List.length_replicate, Option.isSome_none, Option.isSome_some, w64_of, Bool.not_true, Bool.not_false, Bool.true_and, Bool.false_and, Bool.and_true, Bool.and_false, Bool.true_or, Bool.false_or, Bool.or_true, Bool.or_false, Bool.not_eq_true', decide_eq_false_iff_not, beq_self_eq_true, List.take_length, Nat.le_refl, Int.le_refl, Blk.mk.injEq, hcl, hm, splice_all, List.take_of_length_le]
end Go.Vm
end
section
namespace Go.Vm
open Go.Proofs
set_option maxRecDepth 20000
def mulAt (a b w : List (BitVec 64)) (i k : Nat) : List (BitVec 64) := if i + k < 10 then w.set (i + k) (w.getD (i + k) 0 + a.getD i 0 * b.getD k 0) else w.set (i + k - 10) (w.getD (i + k - 10) 0 + 5#64 * a.getD i 0 * b.getD k 0)
def rowM (a b w : List (BitVec 64)) (i : Nat) : Nat → List (BitVec 64)
  | 0 => w
  | k + 1 => mulAt a b (rowM a b w i k) i k
def mulTo (a b : List (BitVec 64)) : Nat → List (BitVec 64)
  | 0 => List.replicate 10 0#64
  | i + 1 => rowM a b (mulTo a b i) i 10
theorem rowM_length (a b w : List (BitVec 64)) (i k : Nat) : (rowM a b w i k).length = w.length := by
  induction k with
  | zero => rfl
  | succ k ih =>
    rw [rowM]; unfold mulAt
    split <;> rw [List.length_set, ih]
theorem mulTo_length (a b : List (BitVec 64)) (i : Nat) : (mulTo a b i).length = 10 := by
  induction i with
  | zero => rfl
  | succ i ih => rw [mulTo, rowM_length, ih]
theorem timesL_spec (a b : List (BitVec 64)) (ha : a.length = 10) (hb : b.length = 10) : PureFn Try.prog 41 [.agg (a.map .u64), .agg (b.map .u64)] (.agg ((carr (mulTo a b 10) 3).map .u64)) := by
  have hs := mulTo_length a b 10
  have hcs := carried_spec (mulTo a b 10) hs
  have hcl := carr_length (mulTo a b 10) 3
  rw [hs] at hcl
  have hm : min 10 10 = 10 := rfl
  generalize carr (mulTo a b 10) 3 = r at hcs hcl ⊢
  refine pure_of_vc (by kernel_rfl) (fn := Try.f41) (by kernel_rfl) Try.func41 rfl (by show 2 ≤ 50; decide) (by simp [lows_u64, lows, V.low]) (by simp [lows_u64, lows, V.low, lows_ite, low_ite]) (go_start ?_)
  simp only [go_sem, ↓reduceIte, Nat.reduceEqDiff, Nat.reduceLT, Nat.reduceLeDiff, Nat.reduceAdd, Nat.reduceSub, Nat.reduceMul, Nat.reduceMod, Nat.reduceDiv, Int.reduceLE, Int.reduceLT, Int.reduceToNat, Int.reduceAdd, Int.reduceSub, Int.reduceMul, Int.reduceEq, Int.reduceNeg, BitVec.reduceOfInt, BitVec.reduceToNat, BitVec.reduceEq, BitVec.reduceNe, BitVec.reduceLT, reduceCtorEq, and_true, true_and, and_self, Nat.succ_ne_self, decide_true, decide_false, Bool.false_eq_true, Nat.one_ne_zero, Nat.zero_ne_one, Nat.not_lt_zero, Nat.zero_lt_succ, ge_iff_le, gt_iff_lt, decide_eq_true_eq, Option.some.injEq, List.getElem?_cons_zero, List.getElem?_cons_succ, List.length_cons, List.length_nil, Int.natCast_zero, List.map_cons, List.map_nil, List.append_nil, List.nil_append, List.cons_append, vconv, Option.map_some, Option.map_none, List.getD_cons_zero, List.getD_cons_succ, List.not_mem_nil, false_implies, implies_true, List.getElem?_toArray, Option.bind_some, List.set_cons_zero, List.set_cons_succ, List.take_succ_cons, List.take_zero, List.drop_succ_cons, List.drop_zero, List.drop_nil, List.take_nil, List.forall_mem_cons, List.forall_mem_nil, V.u8.injEq, exists_eq', Nat.zero_mul, Nat.one_mul, Nat.zero_add, Nat.mul_one, Nat.add_zero, Int.toNat_natCast, Int.cast_ofNat_Int, ne_eq, not_true_eq_false, not_false_eq_true, List.length_set, List.length_append, List.length_take, List.length_drop, List.length_replicate, Option.isSome_none, Option.isSome_some, w64_of, Bool.not_true, Bool.not_false, Bool.true_and, Bool.false_and, Bool.and_true, Bool.and_false, Bool.true_or, Bool.false_or, Bool.or_true, Bool.or_false, Bool.not_eq_true', decide_eq_false_iff_not, beq_self_eq_true, List.take_length, Nat.le_refl, Int.le_refl, Blk.mk.injEq, Try.ntmps41, Try.results41, ha, hb, hm, List.take_of_length_le]
  refine go_loop (fun ji st => ∃ i : Nat, i + ji = 10 ∧ st = ⟨[(3, .ptr 1 0), (4, .ptr 2 0), (5, .ptr 3 0), (10, .agg (a.map .u64)), (11, .i64 i)], [some ⟨false, a.map .u64⟩, some ⟨false, b.map .u64⟩, some ⟨false, [.u64 0#64, .u64 0#64, .u64 0#64, .u64 0#64, .u64 0#64, .u64 0#64, .u64 0#64, .u64 0#64, .u64 0#64, .u64 0#64]⟩, some ⟨false, (mulTo a b i).map .u64⟩]⟩) ?_ ?_
  · exact start_mk (10) ⟨[(3, .ptr 1 0), (4, .ptr 2 0), (5, .ptr 3 0), (10, .agg (a.map .u64)), (11, .i64 (0 : Nat))], [some ⟨false, a.map .u64⟩, some ⟨false, b.map .u64⟩, some ⟨false, [.u64 0#64, .u64 0#64, .u64 0#64, .u64 0#64, .u64 0#64, .u64 0#64, .u64 0#64, .u64 0#64, .u64 0#64, .u64 0#64]⟩, some ⟨false, (mulTo a b (0 : Nat)).map .u64⟩]⟩ (by simp [St.get, lookS, -List.map_set, -List.map_map]) rfl (fun _ _ h => h) ⟨0, by omega, rfl⟩
  rintro ji st ⟨i, hi, rfl⟩ _
  simp only [go_sem, ↓reduceIte, Nat.reduceEqDiff, Nat.reduceLT, Nat.reduceLeDiff, Nat.reduceAdd, Nat.reduceSub, Nat.reduceMul, Nat.reduceMod, Nat.reduceDiv, Int.reduceLE, Int.reduceLT, Int.reduceToNat, Int.reduceAdd, Int.reduceSub, Int.reduceMul, Int.reduceEq, Int.reduceNeg, BitVec.reduceOfInt, BitVec.reduceToNat, BitVec.reduceEq, BitVec.reduceNe, BitVec.reduceLT, reduceCtorEq, and_true, true_and, and_self, Nat.succ_ne_self, decide_true, decide_false, Bool.false_eq_true, Nat.one_ne_zero, Nat.zero_ne_one, Nat.not_lt_zero, Nat.zero_lt_succ, ge_iff_le, gt_iff_lt, decide_eq_true_eq, Option.some.injEq, List.getElem?_cons_zero, List.getElem?_cons_succ, List.length_cons, List.length_nil, Int.natCast_zero, List.map_cons, List.map_nil, List.append_nil, List.nil_append, List.cons_append, vconv, Option.map_some, Option.map_none, List.getD_cons_zero, List.getD_cons_succ, List.not_mem_nil, false_implies, implies_true, List.getElem?_toArray, Option.bind_some, List.set_cons_zero, List.set_cons_succ, List.take_succ_cons, List.take_zero, List.drop_succ_cons, List.drop_zero, List.drop_nil, List.take_nil, List.forall_mem_cons, List.forall_mem_nil, V.u8.injEq, exists_eq', Nat.zero_mul, Nat.one_mul, Nat.zero_add, Nat.mul_one, Nat.add_zero, Int.toNat_natCast, Int.cast_ofNat_Int, ne_eq, not_true_eq_false, not_false_eq_true, List.length_set, List.length_append, List.length_take, List.length_drop, List.length_replicate, Option.isSome_none, Option.isSome_some, w64_of, Bool.not_true, Bool.not_false, Bool.true_and, Bool.false_and, Bool.and_true, Bool.and_false, Bool.true_or, Bool.false_or, Bool.or_true, Bool.or_false, Bool.not_eq_true', decide_eq_false_iff_not, beq_self_eq_true, List.take_length, Nat.le_refl, Int.le_refl, Blk.mk.injEq]
  by_cases h0 : i < 10
  · have h0' : (i : Int) < 10 := by omega
    have hml := mulTo_length a b i
    have hia : i < a.length := by omega
    have hi1 : rowM a b (mulTo a b i) i 10 = mulTo a b (i + 1) := rfl
    simp only [go_sem, ↓reduceIte, Nat.reduceEqDiff, Nat.reduceLT, Nat.reduceLeDiff, Nat.reduceAdd, Nat.reduceSub, Nat.reduceMul, Nat.reduceMod, Nat.reduceDiv, Int.reduceLE, Int.reduceLT, Int.reduceToNat, Int.reduceAdd, Int.reduceSub, Int.reduceMul, Int.reduceEq, Int.reduceNeg, BitVec.reduceOfInt, BitVec.reduceToNat, BitVec.reduceEq, BitVec.reduceNe, BitVec.reduceLT, reduceCtorEq, and_true, true_and, and_self, Nat.succ_ne_self, decide_true, decide_false, Bool.false_eq_true, Nat.one_ne_zero, Nat.zero_ne_one, Nat.not_lt_zero, Nat.zero_lt_succ, ge_iff_le, gt_iff_lt, decide_eq_true_eq, Option.some.injEq, List.getElem?_cons_zero, List.getElem?_cons_succ, List.length_cons, List.length_nil, Int.natCast_zero, List.map_cons, List.map_nil, List.append_nil, List.nil_append, List.cons_append, vconv, Option.map_some, Option.map_none, List.getD_cons_zero, List.getD_cons_succ, List.not_mem_nil, false_implies, implies_true, List.getElem?_toArray, Option.bind_some, List.set_cons_zero, List.set_cons_succ, List.take_succ_cons, List.take_zero, List.drop_succ_cons, List.drop_zero, List.drop_nil, List.take_nil, List.forall_mem_cons, List.forall_mem_nil, V.u8.injEq, exists_eq', Nat.zero_mul, Nat.one_mul, Nat.zero_add, Nat.mul_one, Nat.add_zero, Int.toNat_natCast, Int.cast_ofNat_Int, ne_eq, not_true_eq_false, not_false_eq_true, List.length_set, List.length_append, List.length_take, List.length_drop, List.length_replicate, Option.isSome_none, Option.isSome_some, w64_of, Bool.not_true, Bool.not_false, Bool.true_and, Bool.false_and, Bool.and_true, Bool.and_false, Bool.true_or, Bool.false_or, Bool.or_true, Bool.or_false, Bool.not_eq_true', decide_eq_false_iff_not, beq_self_eq_true, List.take_length, Nat.le_refl, Int.le_refl, Blk.mk.injEq, h0', h0, ha, hb, hm, getD_u64 hia, List.take_of_length_le]
    generalize mulTo a b i = w at hml hi1 ⊢
    refine ⟨by omega, ?_⟩
    refine go_loop (fun jk st => ∃ k : Nat, k + jk = 10 ∧ st = ⟨[(3, .ptr 1 0), (4, .ptr 2 0), (5, .ptr 3 0), (6, .i64 i), (7, .u64 (a.getD i 0)), (10, .agg (a.map .u64)), (11, .i64 i), (15, .agg (b.map .u64)), (16, .i64 k)], [some ⟨false, a.map .u64⟩, some ⟨false, b.map .u64⟩, some ⟨false, [.u64 0#64, .u64 0#64, .u64 0#64, .u64 0#64, .u64 0#64, .u64 0#64, .u64 0#64, .u64 0#64, .u64 0#64, .u64 0#64]⟩, some ⟨false, (rowM a b w i k).map .u64⟩]⟩) ?_ ?_
    · exact start_mk (10) ⟨[(3, .ptr 1 0), (4, .ptr 2 0), (5, .ptr 3 0), (6, .i64 i), (7, .u64 (a.getD i 0)), (10, .agg (a.map .u64)), (11, .i64 i), (15, .agg (b.map .u64)), (16, .i64 (0 : Nat))], [some ⟨false, a.map .u64⟩, some ⟨false, b.map .u64⟩, some ⟨false, [.u64 0#64, .u64 0#64, .u64 0#64, .u64 0#64, .u64 0#64, .u64 0#64, .u64 0#64, .u64 0#64, .u64 0#64, .u64 0#64]⟩, some ⟨false, (rowM a b w i (0 : Nat)).map .u64⟩]⟩ (by simp [St.get, lookS, -List.map_set, -List.map_map]) rfl (fun _ _ h => h) ⟨0, by omega, rfl⟩
    rintro jk st ⟨k, hk, rfl⟩ _
    simp only [go_sem, ↓reduceIte, Nat.reduceEqDiff, Nat.reduceLT, Nat.reduceLeDiff, Nat.reduceAdd, Nat.reduceSub, Nat.reduceMul, Nat.reduceMod, Nat.reduceDiv, Int.reduceLE, Int.reduceLT, Int.reduceToNat, Int.reduceAdd, Int.reduceSub, Int.reduceMul, Int.reduceEq, Int.reduceNeg, BitVec.reduceOfInt, BitVec.reduceToNat, BitVec.reduceEq, BitVec.reduceNe, BitVec.reduceLT, reduceCtorEq, and_true, true_and, and_self, Nat.succ_ne_self, decide_true, decide_false, Bool.false_eq_true, Nat.one_ne_zero, Nat.zero_ne_one, Nat.not_lt_zero, Nat.zero_lt_succ, ge_iff_le, gt_iff_lt, decide_eq_true_eq, Option.some.injEq, List.getElem?_cons_zero, List.getElem?_cons_succ, List.length_cons, List.length_nil, Int.natCast_zero, List.map_cons, List.map_nil, List.append_nil, List.nil_append, List.cons_append, vconv, Option.map_some, Option.map_none, List.getD_cons_zero, List.getD_cons_succ, List.not_mem_nil, false_implies, implies_true, List.getElem?_toArray, Option.bind_some, List.set_cons_zero, List.set_cons_succ, List.take_succ_cons, List.take_zero, List.drop_succ_cons, List.drop_zero, List.drop_nil, List.take_nil, List.forall_mem_cons, List.forall_mem_nil, V.u8.injEq, exists_eq', Nat.zero_mul, Nat.one_mul, Nat.zero_add, Nat.mul_one, Nat.add_zero, Int.toNat_natCast, Int.cast_ofNat_Int, ne_eq, not_true_eq_false, not_false_eq_true, List.length_set, List.length_append, List.length_take, List.length_drop, List.length_replicate, Option.isSome_none, Option.isSome_some, w64_of, Bool.not_true, Bool.not_false, Bool.true_and, Bool.false_and, Bool.and_true, Bool.and_false, Bool.true_or, Bool.false_or, Bool.or_true, Bool.or_false, Bool.not_eq_true', decide_eq_false_iff_not, beq_self_eq_true, List.take_length, Nat.le_refl, Int.le_refl, Blk.mk.injEq]
    have hrl := rowM_length a b w i k
    rw [hml] at hrl
    by_cases hk0 : k < 10
    · have hk0' : (k : Int) < 10 := by omega
      have hkb : k < b.length := by omega
      have e1 : w64 ((i : Int) + (k : Int)) = ((i + k : Nat) : Int) := by rw [w64_of (by omega) (by omega)]; omega
      have e2 : ¬ i + k < 10 → w64 (((i + k : Nat) : Int) - 10) = ((i + k - 10 : Nat) : Int) := fun hh => by rw [w64_of (by omega) (by omega)]; omega
      by_cases hs10 : i + k < 10
      · have g1 : ((i + k : Nat) : Int) < 10 := by omega
        have g2 : i + k < (rowM a b w i k).length := by omega
        have hat : (rowM a b w i k).set (i + k) ((rowM a b w i k).getD (i + k) 0 + a.getD i 0 * b.getD k 0) = rowM a b w i (k + 1) := by rw [rowM]; unfold mulAt; rw [if_pos hs10]
        simp only [go_sem, ↓reduceIte, Nat.reduceEqDiff, Nat.reduceLT, Nat.reduceLeDiff, Nat.reduceAdd, Nat.reduceSub, Nat.reduceMul, Nat.reduceMod, Nat.reduceDiv, Int.reduceLE, Int.reduceLT, Int.reduceToNat, Int.reduceAdd, Int.reduceSub, Int.reduceMul, Int.reduceEq, Int.reduceNeg, BitVec.reduceOfInt, BitVec.reduceToNat, BitVec.reduceEq, BitVec.reduceNe, BitVec.reduceLT, reduceCtorEq, and_true, true_and, and_self, Nat.succ_ne_self, decide_true, decide_false, Bool.false_eq_true, Nat.one_ne_zero, Nat.zero_ne_one, Nat.not_lt_zero, Nat.zero_lt_succ, ge_iff_le, gt_iff_lt, decide_eq_true_eq, Option.some.injEq, List.getElem?_cons_zero, List.getElem?_cons_succ, List.length_cons, List.length_nil, Int.natCast_zero, List.map_cons, List.map_nil, List.append_nil, List.nil_append, List.cons_append, vconv, Option.map_some, Option.map_none, List.getD_cons_zero, List.getD_cons_succ, List.not_mem_nil, false_implies, implies_true, List.getElem?_toArray, Option.bind_some, List.set_cons_zero, List.set_cons_succ, List.take_succ_cons, List.take_zero, List.drop_succ_cons, List.drop_zero, List.drop_nil, List.take_nil, List.forall_mem_cons, List.forall_mem_nil, V.u8.injEq, exists_eq', Nat.zero_mul, Nat.one_mul, Nat.zero_add, Nat.mul_one, Nat.add_zero, Int.toNat_natCast, Int.cast_ofNat_Int, ne_eq, not_true_eq_false, not_false_eq_true, List.length_set, List.length_append, List.length_take, List.length_drop, List.length_replicate, Option.isSome_none, Option.isSome_some, w64_of, Bool.not_true, Bool.not_false, Bool.true_and, Bool.false_and, Bool.and_true, Bool.and_false, Bool.true_or, Bool.false_or, Bool.or_true, Bool.or_false, Bool.not_eq_true', decide_eq_false_iff_not, beq_self_eq_true, List.take_length, Nat.le_refl, Int.le_refl, Blk.mk.injEq, hk0', hk0, hb, getD_u64 hkb, e1, g1, hrl, hs10, getD_u64 g2, hat]
        refine ⟨by omega, by omega, by omega, by omega, ?_⟩
        refine again_mk (jk - 1) ⟨[(3, .ptr 1 0), (4, .ptr 2 0), (5, .ptr 3 0), (6, .i64 i), (7, .u64 (a.getD i 0)), (10, .agg (a.map .u64)), (11, .i64 i), (15, .agg (b.map .u64)), (16, .i64 (k + 1 : Nat))], [some ⟨false, a.map .u64⟩, some ⟨false, b.map .u64⟩, some ⟨false, [.u64 0#64, .u64 0#64, .u64 0#64, .u64 0#64, .u64 0#64, .u64 0#64, .u64 0#64, .u64 0#64, .u64 0#64, .u64 0#64]⟩, some ⟨false, (rowM a b w i (k + 1 : Nat)).map .u64⟩]⟩ (by omega) ?_ rfl (fun _ _ h => h) ⟨k + 1, by omega, rfl⟩
        have hw1 : w64 ((k : Int) + 1) = ((k + 1 : Nat) : Int) := by rw [w64_of (by omega) (by omega)]; omega
        simp [St.get, lookS, hw1, -List.map_set, -List.map_map]
      · have g1 : ¬ ((i + k : Nat) : Int) < 10 := by omega
        have g3 : ((i + k - 10 : Nat) : Int) < 10 := by omega
        have g4 : i + k - 10 < 10 := by omega
        have g2 : i + k - 10 < (rowM a b w i k).length := by omega
        have e3 := e2 hs10
        have hat : (rowM a b w i k).set (i + k - 10) ((rowM a b w i k).getD (i + k - 10) 0 + 5#64 * a.getD i 0 * b.getD k 0) = rowM a b w i (k + 1) := by rw [rowM]; unfold mulAt; rw [if_neg hs10]
        simp only [go_sem, ↓reduceIte, Nat.reduceEqDiff, Nat.reduceLT, Nat.reduceLeDiff, Nat.reduceAdd, Nat.reduceSub, Nat.reduceMul, Nat.reduceMod, Nat.reduceDiv, Int.reduceLE, Int.reduceLT, Int.reduceToNat, Int.reduceAdd, Int.reduceSub, Int.reduceMul, Int.reduceEq, Int.reduceNeg, BitVec.reduceOfInt, BitVec.reduceToNat, BitVec.reduceEq, BitVec.reduceNe, BitVec.reduceLT, reduceCtorEq, and_true, true_and, and_self, Nat.succ_ne_self, decide_true, decide_false, Bool.false_eq_true, Nat.one_ne_zero, Nat.zero_ne_one, Nat.not_lt_zero, Nat.zero_lt_succ, ge_iff_le, gt_iff_lt, decide_eq_true_eq, Option.some.injEq, List.getElem?_cons_zero, List.getElem?_cons_succ, List.length_cons, List.length_nil, Int.natCast_zero, List.map_cons, List.map_nil, List.append_nil, List.nil_append, List.cons_append, vconv, Option.map_some, Option.map_none, List.getD_cons_zero, List.getD_cons_succ, List.not_mem_nil, false_implies, implies_true, List.getElem?_toArray, Option.bind_some, List.set_cons_zero, List.set_cons_succ, List.take_succ_cons, List.take_zero, List.drop_succ_cons, List.drop_zero, List.drop_nil, List.take_nil, List.forall_mem_cons, List.forall_mem_nil, V.u8.injEq, exists_eq', Nat.zero_mul, Nat.one_mul, Nat.zero_add, Nat.mul_one, Nat.add_zero, Int.toNat_natCast, Int.cast_ofNat_Int, ne_eq, not_true_eq_false, not_false_eq_true, List.length_set, List.length_append, List.length_take, List.length_drop, List.length_replicate, Option.isSome_none, Option.isSome_some, w64_of, Bool.not_true, Bool.not_false, Bool.true_and, Bool.false_and, Bool.and_true, Bool.and_false, Bool.true_or, Bool.false_or, Bool.or_true, Bool.or_false, Bool.not_eq_true', decide_eq_false_iff_not, beq_self_eq_true, List.take_length, Nat.le_refl, Int.le_refl, Blk.mk.injEq, hk0', hk0, hb, getD_u64 hkb, e1, g1, e3, g3, g4, hrl, getD_u64 g2, hat]
        refine ⟨by omega, by omega, by omega, by omega, ?_⟩
        refine again_mk (jk - 1) ⟨[(3, .ptr 1 0), (4, .ptr 2 0), (5, .ptr 3 0), (6, .i64 i), (7, .u64 (a.getD i 0)), (10, .agg (a.map .u64)), (11, .i64 i), (15, .agg (b.map .u64)), (16, .i64 (k + 1 : Nat))], [some ⟨false, a.map .u64⟩, some ⟨false, b.map .u64⟩, some ⟨false, [.u64 0#64, .u64 0#64, .u64 0#64, .u64 0#64, .u64 0#64, .u64 0#64, .u64 0#64, .u64 0#64, .u64 0#64, .u64 0#64]⟩, some ⟨false, (rowM a b w i (k + 1 : Nat)).map .u64⟩]⟩ (by omega) ?_ rfl (fun _ _ h => h) ⟨k + 1, by omega, rfl⟩
        have hw1 : w64 ((k : Int) + 1) = ((k + 1 : Nat) : Int) := by rw [w64_of (by omega) (by omega)]; omega
        simp [St.get, lookS, hw1, -List.map_set, -List.map_map]
    · obtain rfl : k = 10 := by omega
      have hk0' : ¬ ((10 : Nat) : Int) < 10 := by omega
      simp only [go_sem, ↓reduceIte, Nat.reduceEqDiff, Nat.reduceLT, Nat.reduceLeDiff, Nat.reduceAdd, Nat.reduceSub, Nat.reduceMul, Nat.reduceMod, Nat.reduceDiv, Int.reduceLE, Int.reduceLT, Int.reduceToNat, Int.reduceAdd, Int.reduceSub, Int.reduceMul, Int.reduceEq, Int.reduceNeg, BitVec.reduceOfInt, BitVec.reduceToNat, BitVec.reduceEq, BitVec.reduceNe, BitVec.reduceLT, reduceCtorEq, and_true, true_and, and_self, Nat.succ_ne_self, decide_true, decide_false, Bool.false_eq_true, Nat.one_ne_zero, Nat.zero_ne_one, Nat.not_lt_zero, Nat.zero_lt_succ, ge_iff_le, gt_iff_lt, decide_eq_true_eq, Option.some.injEq, List.getElem?_cons_zero, List.getElem?_cons_succ, List.length_cons, List.length_nil, Int.natCast_zero, List.map_cons, List.map_nil, List.append_nil, List.nil_append, List.cons_append, vconv, Option.map_some, Option.map_none, List.getD_cons_zero, List.getD_cons_succ, List.not_mem_nil, false_implies, implies_true, List.getElem?_toArray, Option.bind_some, List.set_cons_zero, List.set_cons_succ, List.take_succ_cons, List.take_zero, List.drop_succ_cons, List.drop_zero, List.drop_nil, List.take_nil, List.forall_mem_cons, List.forall_mem_nil, V.u8.injEq, exists_eq', Nat.zero_mul, Nat.one_mul, Nat.zero_add, Nat.mul_one, Nat.add_zero, Int.toNat_natCast, Int.cast_ofNat_Int, ne_eq, not_true_eq_false, not_false_eq_true, List.length_set, List.length_append, List.length_take, List.length_drop, List.length_replicate, Option.isSome_none, Option.isSome_some, w64_of, Bool.not_true, Bool.not_false, Bool.true_and, Bool.false_and, Bool.and_true, Bool.and_false, Bool.true_or, Bool.false_or, Bool.or_true, Bool.or_false, Bool.not_eq_true', decide_eq_false_iff_not, beq_self_eq_true, List.take_length, Nat.le_refl, Int.le_refl, Blk.mk.injEq, hk0', hi1]
      refine again_mk (ji - 1) ⟨[(3, .ptr 1 0), (4, .ptr 2 0), (5, .ptr 3 0), (10, .agg (a.map .u64)), (11, .i64 (i + 1 : Nat))], [some ⟨false, a.map .u64⟩, some ⟨false, b.map .u64⟩, some ⟨false, [.u64 0#64, .u64 0#64, .u64 0#64, .u64 0#64, .u64 0#64, .u64 0#64, .u64 0#64, .u64 0#64, .u64 0#64, .u64 0#64]⟩, some ⟨false, (mulTo a b (i + 1 : Nat)).map .u64⟩]⟩ (by omega) ?_ rfl (fun _ _ h => h) ⟨i + 1, by omega, rfl⟩
      have hw1 : w64 ((i : Int) + 1) = ((i + 1 : Nat) : Int) := by rw [w64_of (by omega) (by omega)]; omega
      simp [St.get, lookS, hw1, -List.map_set, -List.map_map]
  · obtain rfl : i = 10 := by omega
    have h0' : ¬ ((10 : Nat) : Int) < 10 := by omega
    simp only [go_sem, ↓reduceIte, Nat.reduceEqDiff, Nat.reduceLT, Nat.reduceLeDiff, Nat.reduceAdd, Nat.reduceSub, Nat.reduceMul, Nat.reduceMod, Nat.reduceDiv, Int.reduceLE, Int.reduceLT, Int.reduceToNat, Int.reduceAdd, Int.reduceSub, Int.reduceMul, Int.reduceEq, Int.reduceNeg, BitVec.reduceOfInt, BitVec.reduceToNat, BitVec.reduceEq, BitVec.reduceNe, BitVec.reduceLT, reduceCtorEq, and_true, true_and, and_self, Nat.succ_ne_self, decide_true, decide_false, Bool.false_eq_true, Nat.one_ne_zero, Nat.zero_ne_one, Nat.not_lt_zero, Nat.zero_lt_succ, ge_iff_le, gt_iff_lt, decide_eq_true_eq, Option.some.injEq, List.getElem?_cons_zero, List.getElem?_cons_succ, List.length_cons, List.length_nil, Int.natCast_zero, List.map_cons, List.map_nil, List.append_nil, List.nil_append, List.cons_append, vconv, Option.map_some, Option.map_none, List.getD_cons_zero, List.getD_cons_succ, List.not_mem_nil, false_implies, implies_true, List.getElem?_toArray, Option.bind_some, List.set_cons_zero, List.set_cons_succ, List.take_succ_cons, List.take_zero, List.drop_succ_cons, List.drop_zero, List.drop_nil, List.take_nil, List.forall_mem_cons, List.forall_mem_nil, V.u8.injEq, exists_eq', Nat.zero_mul, Nat.one_mul, Nat.zero_add, Nat.mul_one, Nat.add_zero, Int.toNat_natCast, Int.cast_ofNat_Int, ne_eq, not_true_eq_false, not_false_eq_true, List.length_set, List.length_append, List.length_take, List.length_drop, List.length_replicate, Option.isSome_none, Option.isSome_some, w64_of, Bool.not_true, Bool.not_false, Bool.true_and, Bool.false_and, Bool.and_true, Bool.and_false, Bool.true_or, Bool.false_or, Bool.or_true, Bool.or_false, Bool.not_eq_true', decide_eq_false_iff_not, beq_self_eq_true, List.take_length, Nat.le_refl, Int.le_refl, Blk.mk.injEq, h0', hs, hm, splice_all, List.take_of_length_le]
    refine goCall_pure0 (hcs) ?_
    simp only [go_sem, ↓reduceIte, Nat.reduceEqDiff, Nat.reduceLT, Nat.reduceLeDiff, Nat.reduceAdd, Nat.reduceSub, Nat.reduceMul, Nat.reduceMod, Nat.reduceDiv, Int.reduceLE, Int.reduceLT, Int.reduceToNat, Int.reduceAdd, Int.reduceSub, Int.reduceMul, Int.reduceEq, Int.reduceNeg, BitVec.reduceOfInt, BitVec.reduceToNat, BitVec.reduceEq, BitVec.reduceNe, BitVec.reduceLT, reduceCtorEq, and_true, true_and, and_self, Nat.succ_ne_self, decide_true, decide_false, Bool.false_eq_true, Nat.one_ne_zero, Nat.zero_ne_one, Nat.not_lt_zero, Nat.zero_lt_succ, ge_iff_le, gt_iff_lt, decide_eq_true_eq, Option.some.injEq, List.getElem?_cons_zero, List.getElem?_cons_succ, List.length_cons, List.length_nil, Int.natCast_zero, List.map_cons, List.map_nil, List.append_nil, List.nil_append, List.cons_append, vconv, Option.map_some, Option.map_none, List.getD_cons_zero, List.getD_cons_succ, List.not_mem_nil, false_implies, implies_true, List.getElem?_toArray, Option.bind_some, List.set_cons_zero, List.set_cons_succ, List.take_succ_cons, List.take_zero, List.drop_succ_cons, List.drop_zero, List.drop_nil, List.take_nil, List.forall_mem_cons, List.forall_mem_nil, V.u8.injEq, exists_eq', Nat.zero_mul, Nat.one_mul, Nat.zero_add, Nat.mul_one, Nat.add_zero, Int.toNat_natCast, Int.cast_ofNat_Int, ne_eq, not_true_eq_false, not_false_eq_true, List.length_set, List.length_append, List.length_take, List.length_drop, List.length_replicate, Option.isSome_none, Option.isSome_some, w64_of, Bool.not_true, Bool.not_false, Bool.true_and, Bool.false_and, Bool.and_true, Bool.and_false, Bool.true_or, Bool.false_or, Bool.or_true, Bool.or_false, Bool.not_eq_true', decide_eq_false_iff_not, beq_self_eq_true, List.take_length, Nat.le_refl, Int.le_refl, Blk.mk.injEq, hcl, hm, splice_all, List.take_of_length_le]
end Go.Vm
end
section
namespace Go.Vm
open Go.Proofs
set_option maxRecDepth 20000
/-- The bit i of a text, the low bit of the first byte first, as the code asks for it. -/
def bitC (s : List (BitVec 8)) (i : Nat) : Bool := decide ((s.getD (i / 8) 0) >>> (i % 8) % 2#8 = 1#8)
def longTo (s : List (BitVec 8)) : Nat → List (BitVec 64)
  | 0 => List.replicate 10 0#64
  | i + 1 => if bitC s i then (longTo s i).set (i / 13) ((longTo s i).getD (i / 13) 0 ||| 1#64 <<< (i % 13)) else longTo s i
theorem longTo_length (s : List (BitVec 8)) (i : Nat) : (longTo s i).length = 10 := by
  induction i with
  | zero => rfl
  | succ i ih => rw [longTo]; split <;> simp [ih]
theorem longOf_spec (s : List (BitVec 8)) (hs : s.length ≤ 1000) (hb : ∀ i, i < 8 * s.length → bitC s i = true → i < 130) : PureFn Try.prog 39 [.str s] (.agg ((longTo s (8 * s.length)).map .u64)) := by
  have e0 : w64 (8 * (s.length : Int)) = ((8 * s.length : Nat) : Int) := by rw [w64_of (by omega) (by omega)]; omega
  have hl8 := longTo_length s (8 * s.length)
  have hm : min 10 10 = 10 := rfl
  refine pure_of_vc (by kernel_rfl) (fn := Try.f39) (by kernel_rfl) Try.func39 rfl (by show 1 ≤ 31; decide) (by simp [lows_u64, lows, V.low]) (by simp [lows_u64, lows, V.low, lows_ite, low_ite]) (go_start ?_)
  simp only [go_sem, ↓reduceIte, Nat.reduceEqDiff, Nat.reduceLT, Nat.reduceLeDiff, Nat.reduceAdd, Nat.reduceSub, Nat.reduceMul, Nat.reduceMod, Nat.reduceDiv, Int.reduceLE, Int.reduceLT, Int.reduceToNat, Int.reduceAdd, Int.reduceSub, Int.reduceMul, Int.reduceEq, Int.reduceNeg, BitVec.reduceOfInt, BitVec.reduceToNat, BitVec.reduceEq, BitVec.reduceNe, BitVec.reduceLT, reduceCtorEq, and_true, true_and, and_self, Nat.succ_ne_self, decide_true, decide_false, Bool.false_eq_true, Nat.one_ne_zero, Nat.zero_ne_one, Nat.not_lt_zero, Nat.zero_lt_succ, ge_iff_le, gt_iff_lt, decide_eq_true_eq, Option.some.injEq, List.getElem?_cons_zero, List.getElem?_cons_succ, List.length_cons, List.length_nil, Int.natCast_zero, List.map_cons, List.map_nil, List.append_nil, List.nil_append, List.cons_append, vconv, Option.map_some, Option.map_none, List.getD_cons_zero, List.getD_cons_succ, List.not_mem_nil, false_implies, implies_true, List.getElem?_toArray, Option.bind_some, List.set_cons_zero, List.set_cons_succ, List.take_succ_cons, List.take_zero, List.drop_succ_cons, List.drop_zero, List.drop_nil, List.take_nil, List.forall_mem_cons, List.forall_mem_nil, V.u8.injEq, exists_eq', Nat.zero_mul, Nat.one_mul, Nat.zero_add, Nat.mul_one, Nat.add_zero, Int.toNat_natCast, Int.cast_ofNat_Int, ne_eq, not_true_eq_false, not_false_eq_true, List.length_set, List.length_append, List.length_take, List.length_drop, List.length_replicate, Option.isSome_none, Option.isSome_some, w64_of, Bool.not_true, Bool.not_false, Bool.true_and, Bool.false_and, Bool.and_true, Bool.and_false, Bool.true_or, Bool.false_or, Bool.or_true, Bool.or_false, Bool.not_eq_true', decide_eq_false_iff_not, beq_self_eq_true, List.take_length, Nat.le_refl, Int.le_refl, Blk.mk.injEq, Try.ntmps39, Try.results39, e0]
  refine go_loop (fun ji st => ∃ i : Nat, i + ji = 8 * s.length ∧ st = ⟨[(0, .str s), (2, .ptr 0 0), (3, .ptr 1 0), (7, .i64 ((8 * s.length : Nat) : Int)), (8, .i64 i)], [some ⟨false, [.u64 0#64, .u64 0#64, .u64 0#64, .u64 0#64, .u64 0#64, .u64 0#64, .u64 0#64, .u64 0#64, .u64 0#64, .u64 0#64]⟩, some ⟨false, (longTo s i).map .u64⟩]⟩) ?_ ?_
  · exact start_mk (8 * s.length) ⟨[(0, .str s), (2, .ptr 0 0), (3, .ptr 1 0), (7, .i64 ((8 * s.length : Nat) : Int)), (8, .i64 (0 : Nat))], [some ⟨false, [.u64 0#64, .u64 0#64, .u64 0#64, .u64 0#64, .u64 0#64, .u64 0#64, .u64 0#64, .u64 0#64, .u64 0#64, .u64 0#64]⟩, some ⟨false, (longTo s (0 : Nat)).map .u64⟩]⟩ (by simp [St.get, lookS, -List.map_set, -List.map_map]) rfl (fun _ _ h => h) ⟨0, by omega, rfl⟩
  rintro ji st ⟨i, hi, rfl⟩ _
  simp only [go_sem, ↓reduceIte, Nat.reduceEqDiff, Nat.reduceLT, Nat.reduceLeDiff, Nat.reduceAdd, Nat.reduceSub, Nat.reduceMul, Nat.reduceMod, Nat.reduceDiv, Int.reduceLE, Int.reduceLT, Int.reduceToNat, Int.reduceAdd, Int.reduceSub, Int.reduceMul, Int.reduceEq, Int.reduceNeg, BitVec.reduceOfInt, BitVec.reduceToNat, BitVec.reduceEq, BitVec.reduceNe, BitVec.reduceLT, reduceCtorEq, and_true, true_and, and_self, Nat.succ_ne_self, decide_true, decide_false, Bool.false_eq_true, Nat.one_ne_zero, Nat.zero_ne_one, Nat.not_lt_zero, Nat.zero_lt_succ, ge_iff_le, gt_iff_lt, decide_eq_true_eq, Option.some.injEq, List.getElem?_cons_zero, List.getElem?_cons_succ, List.length_cons, List.length_nil, Int.natCast_zero, List.map_cons, List.map_nil, List.append_nil, List.nil_append, List.cons_append, vconv, Option.map_some, Option.map_none, List.getD_cons_zero, List.getD_cons_succ, List.not_mem_nil, false_implies, implies_true, List.getElem?_toArray, Option.bind_some, List.set_cons_zero, List.set_cons_succ, List.take_succ_cons, List.take_zero, List.drop_succ_cons, List.drop_zero, List.drop_nil, List.take_nil, List.forall_mem_cons, List.forall_mem_nil, V.u8.injEq, exists_eq', Nat.zero_mul, Nat.one_mul, Nat.zero_add, Nat.mul_one, Nat.add_zero, Int.toNat_natCast, Int.cast_ofNat_Int, ne_eq, not_true_eq_false, not_false_eq_true, List.length_set, List.length_append, List.length_take, List.length_drop, List.length_replicate, Option.isSome_none, Option.isSome_some, w64_of, Bool.not_true, Bool.not_false, Bool.true_and, Bool.false_and, Bool.and_true, Bool.and_false, Bool.true_or, Bool.false_or, Bool.or_true, Bool.or_false, Bool.not_eq_true', decide_eq_false_iff_not, beq_self_eq_true, List.take_length, Nat.le_refl, Int.le_refl, Blk.mk.injEq]
  by_cases h0 : i < 8 * s.length
  · have h0' : (i : Int) < ((8 * s.length : Nat) : Int) := by omega
    have m1 : w64 ((i : Int).tdiv 8) = ((i / 8 : Nat) : Int) := by rw [show (8 : Int) = ((8 : Nat) : Int) from rfl, tdiv_nat, w64_of (by omega) (by omega)]
    have m2 : (i : Int).tmod 8 = ((i % 8 : Nat) : Int) := rfl
    have m3 : w64 ((i : Int).tdiv 13) = ((i / 13 : Nat) : Int) := by rw [show (13 : Int) = ((13 : Nat) : Int) from rfl, tdiv_nat, w64_of (by omega) (by omega)]
    have m4 : (i : Int).tmod 13 = ((i % 13 : Nat) : Int) := rfl
    have g1 : ((i / 8 : Nat) : Int) < (s.length : Int) := by omega
    have g2 : i / 8 < s.length := by omega
    have z1 : (0 : Int) ≤ ((i / 8 : Nat) : Int) := by omega
    have z2 : (0 : Int) ≤ ((i % 8 : Nat) : Int) := by omega
    have z3 : (0 : Int) ≤ ((i / 13 : Nat) : Int) := by omega
    have z4 : (0 : Int) ≤ ((i % 13 : Nat) : Int) := by omega
    by_cases hbit : (s.getD (i / 8) 0) >>> (i % 8) % 2#8 = 1#8
    · have hbc : bitC s i = true := decide_eq_true hbit
      have h130 := hb i h0 hbc
      have g3 : ((i / 13 : Nat) : Int) < 10 := by omega
      have g4 : i / 13 < 10 := by omega
      have hll := longTo_length s i
      have g5 : i / 13 < (longTo s i).length := by omega
      have hst : (longTo s i).set (i / 13) ((longTo s i).getD (i / 13) 0 ||| 1#64 <<< (i % 13)) = longTo s (i + 1) := by rw [longTo, if_pos hbc]
      simp only [go_sem, ↓reduceIte, Nat.reduceEqDiff, Nat.reduceLT, Nat.reduceLeDiff, Nat.reduceAdd, Nat.reduceSub, Nat.reduceMul, Nat.reduceMod, Nat.reduceDiv, Int.reduceLE, Int.reduceLT, Int.reduceToNat, Int.reduceAdd, Int.reduceSub, Int.reduceMul, Int.reduceEq, Int.reduceNeg, BitVec.reduceOfInt, BitVec.reduceToNat, BitVec.reduceEq, BitVec.reduceNe, BitVec.reduceLT, reduceCtorEq, and_true, true_and, and_self, Nat.succ_ne_self, decide_true, decide_false, Bool.false_eq_true, Nat.one_ne_zero, Nat.zero_ne_one, Nat.not_lt_zero, Nat.zero_lt_succ, ge_iff_le, gt_iff_lt, decide_eq_true_eq, Option.some.injEq, List.getElem?_cons_zero, List.getElem?_cons_succ, List.length_cons, List.length_nil, Int.natCast_zero, List.map_cons, List.map_nil, List.append_nil, List.nil_append, List.cons_append, vconv, Option.map_some, Option.map_none, List.getD_cons_zero, List.getD_cons_succ, List.not_mem_nil, false_implies, implies_true, List.getElem?_toArray, Option.bind_some, List.set_cons_zero, List.set_cons_succ, List.take_succ_cons, List.take_zero, List.drop_succ_cons, List.drop_zero, List.drop_nil, List.take_nil, List.forall_mem_cons, List.forall_mem_nil, V.u8.injEq, exists_eq', Nat.zero_mul, Nat.one_mul, Nat.zero_add, Nat.mul_one, Nat.add_zero, Int.toNat_natCast, Int.cast_ofNat_Int, ne_eq, not_true_eq_false, not_false_eq_true, List.length_set, List.length_append, List.length_take, List.length_drop, List.length_replicate, Option.isSome_none, Option.isSome_some, w64_of, Bool.not_true, Bool.not_false, Bool.true_and, Bool.false_and, Bool.and_true, Bool.and_false, Bool.true_or, Bool.false_or, Bool.or_true, Bool.or_false, Bool.not_eq_true', decide_eq_false_iff_not, beq_self_eq_true, List.take_length, Nat.le_refl, Int.le_refl, Blk.mk.injEq, h0', m1, m2, m3, m4, g1, g2, z1, z2, z3, z4, hbit, g3, g4, hll, getD_u64 g5, hst]
      refine ⟨by omega, by kernel_rfl, ?_⟩
      refine again_mk (ji - 1) ⟨[(0, .str s), (2, .ptr 0 0), (3, .ptr 1 0), (7, .i64 ((8 * s.length : Nat) : Int)), (8, .i64 (i + 1 : Nat))], [some ⟨false, [.u64 0#64, .u64 0#64, .u64 0#64, .u64 0#64, .u64 0#64, .u64 0#64, .u64 0#64, .u64 0#64, .u64 0#64, .u64 0#64]⟩, some ⟨false, (longTo s (i + 1 : Nat)).map .u64⟩]⟩ (by omega) ?_ rfl (fun _ _ h => h) ⟨i + 1, by omega, rfl⟩
      have hw1 : w64 ((i : Int) + 1) = ((i + 1 : Nat) : Int) := by rw [w64_of (by omega) (by omega)]; omega
      simp [St.get, lookS, hw1, -List.map_set, -List.map_map]
    · have hbc : bitC s i = false := decide_eq_false hbit
      have hst : longTo s i = longTo s (i + 1) := by rw [longTo, hbc]; rfl
      simp only [go_sem, ↓reduceIte, Nat.reduceEqDiff, Nat.reduceLT, Nat.reduceLeDiff, Nat.reduceAdd, Nat.reduceSub, Nat.reduceMul, Nat.reduceMod, Nat.reduceDiv, Int.reduceLE, Int.reduceLT, Int.reduceToNat, Int.reduceAdd, Int.reduceSub, Int.reduceMul, Int.reduceEq, Int.reduceNeg, BitVec.reduceOfInt, BitVec.reduceToNat, BitVec.reduceEq, BitVec.reduceNe, BitVec.reduceLT, reduceCtorEq, and_true, true_and, and_self, Nat.succ_ne_self, decide_true, decide_false, Bool.false_eq_true, Nat.one_ne_zero, Nat.zero_ne_one, Nat.not_lt_zero, Nat.zero_lt_succ, ge_iff_le, gt_iff_lt, decide_eq_true_eq, Option.some.injEq, List.getElem?_cons_zero, List.getElem?_cons_succ, List.length_cons, List.length_nil, Int.natCast_zero, List.map_cons, List.map_nil, List.append_nil, List.nil_append, List.cons_append, vconv, Option.map_some, Option.map_none, List.getD_cons_zero, List.getD_cons_succ, List.not_mem_nil, false_implies, implies_true, List.getElem?_toArray, Option.bind_some, List.set_cons_zero, List.set_cons_succ, List.take_succ_cons, List.take_zero, List.drop_succ_cons, List.drop_zero, List.drop_nil, List.take_nil, List.forall_mem_cons, List.forall_mem_nil, V.u8.injEq, exists_eq', Nat.zero_mul, Nat.one_mul, Nat.zero_add, Nat.mul_one, Nat.add_zero, Int.toNat_natCast, Int.cast_ofNat_Int, ne_eq, not_true_eq_false, not_false_eq_true, List.length_set, List.length_append, List.length_take, List.length_drop, List.length_replicate, Option.isSome_none, Option.isSome_some, w64_of, Bool.not_true, Bool.not_false, Bool.true_and, Bool.false_and, Bool.and_true, Bool.and_false, Bool.true_or, Bool.false_or, Bool.or_true, Bool.or_false, Bool.not_eq_true', decide_eq_false_iff_not, beq_self_eq_true, List.take_length, Nat.le_refl, Int.le_refl, Blk.mk.injEq, h0', m1, m2, m3, m4, g1, g2, z1, z2, z3, z4, hbit]
      rw [hst]
      refine again_mk (ji - 1) ⟨[(0, .str s), (2, .ptr 0 0), (3, .ptr 1 0), (7, .i64 ((8 * s.length : Nat) : Int)), (8, .i64 (i + 1 : Nat))], [some ⟨false, [.u64 0#64, .u64 0#64, .u64 0#64, .u64 0#64, .u64 0#64, .u64 0#64, .u64 0#64, .u64 0#64, .u64 0#64, .u64 0#64]⟩, some ⟨false, (longTo s (i + 1 : Nat)).map .u64⟩]⟩ (by omega) ?_ rfl (fun _ _ h => h) ⟨i + 1, by omega, rfl⟩
      have hw1 : w64 ((i : Int) + 1) = ((i + 1 : Nat) : Int) := by rw [w64_of (by omega) (by omega)]; omega
      simp [St.get, lookS, hw1, -List.map_set, -List.map_map]
  · obtain rfl : i = 8 * s.length := by omega
    have h0' : ¬ ((8 * s.length : Nat) : Int) < ((8 * s.length : Nat) : Int) := by omega
    simp only [go_sem, ↓reduceIte, Nat.reduceEqDiff, Nat.reduceLT, Nat.reduceLeDiff, Nat.reduceAdd, Nat.reduceSub, Nat.reduceMul, Nat.reduceMod, Nat.reduceDiv, Int.reduceLE, Int.reduceLT, Int.reduceToNat, Int.reduceAdd, Int.reduceSub, Int.reduceMul, Int.reduceEq, Int.reduceNeg, BitVec.reduceOfInt, BitVec.reduceToNat, BitVec.reduceEq, BitVec.reduceNe, BitVec.reduceLT, reduceCtorEq, and_true, true_and, and_self, Nat.succ_ne_self, decide_true, decide_false, Bool.false_eq_true, Nat.one_ne_zero, Nat.zero_ne_one, Nat.not_lt_zero, Nat.zero_lt_succ, ge_iff_le, gt_iff_lt, decide_eq_true_eq, Option.some.injEq, List.getElem?_cons_zero, List.getElem?_cons_succ, List.length_cons, List.length_nil, Int.natCast_zero, List.map_cons, List.map_nil, List.append_nil, List.nil_append, List.cons_append, vconv, Option.map_some, Option.map_none, List.getD_cons_zero, List.getD_cons_succ, List.not_mem_nil, false_implies, implies_true, List.getElem?_toArray, Option.bind_some, List.set_cons_zero, List.set_cons_succ, List.take_succ_cons, List.take_zero, List.drop_succ_cons, List.drop_zero, List.drop_nil, List.take_nil, List.forall_mem_cons, List.forall_mem_nil, V.u8.injEq, exists_eq', Nat.zero_mul, Nat.one_mul, Nat.zero_add, Nat.mul_one, Nat.add_zero, Int.toNat_natCast, Int.cast_ofNat_Int, ne_eq, not_true_eq_false, not_false_eq_true, List.length_set, List.length_append, List.length_take, List.length_drop, List.length_replicate, Option.isSome_none, Option.isSome_some, w64_of, Bool.not_true, Bool.not_false, Bool.true_and, Bool.false_and, Bool.and_true, Bool.and_false, Bool.true_or, Bool.false_or, Bool.or_true, Bool.or_false, Bool.not_eq_true', decide_eq_false_iff_not, beq_self_eq_true, List.take_length, Nat.le_refl, Int.le_refl, Blk.mk.injEq, h0', hl8, hm, splice_all, List.take_of_length_le]
end Go.Vm
end
section
namespace Go.Vm
open Go.Proofs
set_option maxRecDepth 20000
def valL : List (BitVec 64) → Nat
  | [] => 0
  | x :: l => x.toNat + 8192 * valL l
def passC (c : BitVec 64) : List (BitVec 64) → List (BitVec 64) × BitVec 64
  | [] => ([], c)
  | x :: l => ((x + c) % 8192#64 :: (passC ((x + c) / 8192#64) l).1, (passC ((x + c) / 8192#64) l).2)
theorem passC_length (l : List (BitVec 64)) : ∀ c, (passC c l).1.length = l.length := by
  induction l with
  | nil => intro c; rfl
  | cons x l ih => intro c; rw [passC, List.length_cons, List.length_cons, ih]
theorem passC_snoc (l : List (BitVec 64)) (x : BitVec 64) : ∀ c, passC c (l ++ [x]) = ((passC c l).1 ++ [(x + (passC c l).2) % 8192#64], (x + (passC c l).2) / 8192#64) := by
  induction l with
  | nil => intro c; rfl
  | cons y l ih => intro c; rw [List.cons_append, passC, ih, passC]; rfl
theorem passTo_eq (w : List (BitVec 64)) (k : Nat) (hk : k ≤ w.length) : passTo w k = ((passC 0#64 (w.take k)).1 ++ w.drop k, (passC 0#64 (w.take k)).2) := by
  induction k with
  | zero => rfl
  | succ k ih =>
    have hkl : k < w.length := by omega
    have hl : (passC 0#64 (w.take k)).1.length = k := by rw [passC_length, List.length_take]; omega
    have hg : ((passC 0#64 (w.take k)).1 ++ w.drop k).getD k 0 = w.getD k 0 := by
      rw [List.getD_eq_getElem?_getD, List.getElem?_append_right (by omega), hl, Nat.sub_self, List.getElem?_drop, Nat.add_zero, ← List.getD_eq_getElem?_getD]
    have ht : w.take (k + 1) = w.take k ++ [w.getD k 0] := by
      rw [List.take_succ_eq_append_getElem hkl, List.getD_eq_getElem?_getD, List.getElem?_eq_getElem hkl]; rfl
    rw [passTo, ih (by omega)]
    simp only
    rw [hg, ht, passC_snoc, List.set_append_right _ _ (by omega), hl, Nat.sub_self, List.drop_eq_getElem_cons hkl, List.set_cons_zero]
    simp
theorem passC_val (l : List (BitVec 64)) : ∀ c : BitVec 64, c.toNat < 4611686018427387904 → (∀ x ∈ l, x.toNat < 9223372036854775808) → valL (passC c l).1 + 8192 ^ l.length * (passC c l).2.toNat = valL l + c.toNat ∧ (∀ x ∈ (passC c l).1, x.toNat < 8192) := by
  induction l with
  | nil => intro c _ _; exact ⟨by simp [passC, valL], by simp [passC]⟩
  | cons x l ih =>
    intro c hc hx
    have h0 := hx x List.mem_cons_self
    have es : (x + c).toNat = x.toNat + c.toNat := by rw [BitVec.toNat_add]; omega
    have eq : ((x + c) / 8192#64).toNat = (x.toNat + c.toNat) / 8192 := by rw [BitVec.toNat_udiv, es]; rfl
    have em : ((x + c) % 8192#64).toNat = (x.toNat + c.toNat) % 8192 := by rw [BitVec.toNat_umod, es]; rfl
    obtain ⟨i1, i2⟩ := ih ((x + c) / 8192#64) (by rw [eq]; omega) (fun y hy => hx y (List.mem_cons_of_mem _ hy))
    rw [eq] at i1
    refine ⟨?_, ?_⟩
    · rw [passC]
      show ((x + c) % 8192#64).toNat + 8192 * valL (passC ((x + c) / 8192#64) l).1 + 8192 ^ (l.length + 1) * (passC ((x + c) / 8192#64) l).2.toNat = x.toNat + 8192 * valL l + c.toNat
      rw [em, Nat.pow_succ, Nat.mul_comm (8192 ^ l.length) 8192, Nat.mul_assoc]
      omega
    · rw [passC]
      intro y hy
      rcases List.mem_cons.1 hy with rfl | hy
      · rw [em]; omega
      · exact i2 y hy
end Go.Vm
end
section
namespace Go.Vm
open Go.Proofs
set_option maxRecDepth 20000
theorem valL_set0 (x y : BitVec 64) (l : List (BitVec 64)) : valL ((x :: l).set 0 y) + x.toNat = valL (x :: l) + y.toNat := by
  simp only [List.set_cons_zero, valL]; omega
theorem passC_carry (l : List (BitVec 64)) : ∀ c : BitVec 64, c.toNat < 1125899906842624 → (∀ x ∈ l, x.toNat < 1152921504606846976) → (passC c l).2.toNat < 1125899906842624 := by
  induction l with
  | nil => intro c hc _; exact hc
  | cons x l ih =>
    intro c hc hx
    have h0 := hx x List.mem_cons_self
    refine ih _ ?_ (fun y hy => hx y (List.mem_cons_of_mem _ hy))
    rw [BitVec.toNat_udiv, BitVec.toNat_add, show (8192#64).toNat = 8192 from rfl]; omega
/-- A pass keeps the value modulo 2^130 - 5: what leaves at the top comes back five times. -/
theorem pass_val (w : List (BitVec 64)) (hw : w.length = 10) (hx : ∀ x ∈ w, x.toNat < 1152921504606846976) : ∃ q, valL w = valL (pass w) + 1361129467683753853853498429727072845819 * q := by
  have hp := passTo_eq w 10 (by omega)
  rw [List.take_of_length_le (by omega), List.drop_of_length_le (by omega), List.append_nil] at hp
  obtain ⟨h1, h2⟩ := passC_val w 0#64 (by decide) (fun x hx' => by have := hx x hx'; omega)
  have hl := passC_length w 0#64
  rw [hw] at h1 hl
  have hcar := passC_carry w 0#64 (by decide) hx
  unfold pass
  rw [hp]
  simp only
  generalize (passC 0#64 w).1 = r at h1 h2 hl ⊢
  generalize (passC 0#64 w).2 = c at h1 hcar ⊢
  cases r with
  | nil => simp at hl
  | cons y r =>
    have hy := h2 y List.mem_cons_self
    have hs := valL_set0 y (y + 5#64 * c) r
    have hc : c.toNat < 1152921504606846976 := by omega
    have hyc : (y + 5#64 * c).toNat = y.toNat + 5 * c.toNat := by
      rw [BitVec.toNat_add, BitVec.toNat_mul, show (5#64).toNat = 5 from rfl]; omega
    refine ⟨c.toNat, ?_⟩
    show _ = valL ((y :: r).set 0 (y + 5#64 * c)) + _
    have e8 : (8192 : Nat) ^ 10 = 1361129467683753853853498429727072845824 := by decide
    rw [e8, show (0#64).toNat = 0 from rfl] at h1
    omega
theorem pass_bound (w : List (BitVec 64)) (hw : w.length = 10) (hx : ∀ x ∈ w, x.toNat < 1152921504606846976) : ∀ x ∈ pass w, x.toNat < 1152921504606846976 := by
  have hp := passTo_eq w 10 (by omega)
  rw [List.take_of_length_le (by omega), List.drop_of_length_le (by omega), List.append_nil] at hp
  obtain ⟨_, h2⟩ := passC_val w 0#64 (by decide) (fun x hx' => by have := hx x hx'; omega)
  have hl := passC_length w 0#64
  rw [hw] at hl
  have hcar := passC_carry w 0#64 (by decide) hx
  unfold pass
  rw [hp]
  simp only
  generalize (passC 0#64 w).1 = r at h2 hl ⊢
  generalize (passC 0#64 w).2 = c at hcar ⊢
  cases r with
  | nil => simp at hl
  | cons y r =>
    have hy := h2 y List.mem_cons_self
    have hyc : (y + 5#64 * c).toNat = y.toNat + 5 * c.toNat := by
      rw [BitVec.toNat_add, BitVec.toNat_mul, show (5#64).toNat = 5 from rfl]; omega
    intro x hx'
    rw [List.set_cons_zero] at hx'
    rcases List.mem_cons.1 hx' with rfl | hx'
    · show (y + 5#64 * c).toNat < _
      rw [hyc]; omega
    · have := h2 x (List.mem_cons_of_mem _ hx')
      omega
theorem carr_val (w : List (BitVec 64)) (hw : w.length = 10) (hx : ∀ x ∈ w, x.toNat < 1152921504606846976) : ∀ n, (∃ q, valL w = valL (carr w n) + 1361129467683753853853498429727072845819 * q) ∧ ∀ x ∈ carr w n, x.toNat < 1152921504606846976 := by
  intro n
  induction n with
  | zero => exact ⟨⟨0, by rfl⟩, hx⟩
  | succ n ih =>
    obtain ⟨⟨q, hq⟩, hb⟩ := ih
    have hl := carr_length w n
    rw [hw] at hl
    obtain ⟨q2, h2⟩ := pass_val (carr w n) hl hb
    exact ⟨⟨q + q2, by rw [carr]; rw [Nat.mul_add]; omega⟩, pass_bound (carr w n) hl hb⟩
end Go.Vm
end
section
namespace Go.Vm
open Go.Proofs
set_option maxRecDepth 20000
theorem valL_getD (l : List (BitVec 64)) (i : Nat) (y : BitVec 64) (h : i < l.length) : valL (l.set i y) + 8192 ^ i * (l.getD i 0).toNat = valL l + 8192 ^ i * y.toNat := by
  induction l generalizing i with
  | nil => simp at h
  | cons x l ih =>
    cases i with
    | zero => simp only [List.set_cons_zero, valL, List.getD_cons_zero, Nat.pow_zero, Nat.one_mul]; omega
    | succ i =>
      have := ih i (by simpa using h)
      simp only [List.set_cons_succ, valL, List.getD_cons_succ]
      rw [Nat.pow_succ, Nat.mul_comm (8192 ^ i) 8192, Nat.mul_assoc, Nat.mul_assoc]
      omega
end Go.Vm
end
