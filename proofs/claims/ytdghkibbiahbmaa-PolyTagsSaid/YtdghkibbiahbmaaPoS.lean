/- A part of the proof: laws of a small machine of values, or what one function answers, proved against the model; no conditions beyond those in each theorem. -/
import Derived.Test.YtdghkibbiahbmaaPoQ
set_option linter.unusedVariables false
set_option linter.unusedSimpArgs false
set_option linter.unusedSectionVars false
namespace Go.Vm
open Go.Proofs
set_option maxRecDepth 20000
/-- Three words. -/
abbrev N3 := BitVec 64 × BitVec 64 × BitVec 64
def plusN (a b : N3) : N3 := (a.1 + b.1 + 0#64, a.2.1 + b.2.1 + cry a.1 b.1 0#64, a.2.2 + b.2.2 + cry a.2.1 b.2.1 (cry a.1 b.1 0#64))
def foldN (a : N3) : N3 := plusN (a.1, a.2.1, a.2.2 &&& 3#64) (5#64 * (a.2.2 >>> 2), 0#64, 0#64)
def leastN (a : N3) : N3 := if 0#64 < (plusN (foldN a) (5#64, 0#64, 0#64)).2.2 >>> 2 then ((plusN (foldN a) (5#64, 0#64, 0#64)).1, (plusN (foldN a) (5#64, 0#64, 0#64)).2.1, (plusN (foldN a) (5#64, 0#64, 0#64)).2.2 &&& 3#64) else foldN a
theorem plusN_spec (a b : N3) : PureFn Try.prog 34 [.agg [.u64 a.1, .u64 a.2.1, .u64 a.2.2], .agg [.u64 b.1, .u64 b.2.1, .u64 b.2.2]] (.agg [.u64 (plusN a b).1, .u64 (plusN a b).2.1, .u64 (plusN a b).2.2]) := numPlus_spec _ _ _ _ _ _
theorem foldN_spec (a : N3) : PureFn Try.prog 78 [.agg [.u64 a.1, .u64 a.2.1, .u64 a.2.2]] (.agg [.u64 (foldN a).1, .u64 (foldN a).2.1, .u64 (foldN a).2.2]) := folded_spec _ _ _
theorem leastN_spec (a : N3) : PureFn Try.prog 36 [.agg [.u64 a.1, .u64 a.2.1, .u64 a.2.2]] (.agg [.u64 (leastN a).1, .u64 (leastN a).2.1, .u64 (leastN a).2.2]) := by
  have hf := foldN_spec a
  have hp := plusN_spec (foldN a) (5#64, 0#64, 0#64)
  unfold leastN
  generalize foldN a = f at hf hp ⊢
  generalize plusN f (5#64, 0#64, 0#64) = g at hp ⊢
  by_cases h : 0#64 < g.2.2 >>> 2
  · rw [if_pos h]
    refine pure_of_vc (by kernel_rfl) (fn := Try.f36) (by kernel_rfl) Try.func36 rfl (by show 1 ≤ 19; decide) (by simp [lows, V.low]) (by simp [lows, V.low, lows_ite, low_ite]) (go_start ?_)
    simp only [go_sem, ↓reduceIte, Nat.reduceEqDiff, Nat.reduceLT, Nat.reduceLeDiff, Nat.reduceAdd, Nat.reduceSub, Nat.reduceMul, Nat.reduceMod, Nat.reduceDiv, Int.reduceLE, Int.reduceLT, Int.reduceToNat, Int.reduceAdd, Int.reduceSub, Int.reduceMul, Int.reduceEq, Int.reduceNeg, BitVec.reduceOfInt, BitVec.reduceToNat, BitVec.reduceEq, BitVec.reduceNe, BitVec.reduceLT, reduceCtorEq, and_true, true_and, and_self, Nat.succ_ne_self, decide_true, decide_false, Bool.false_eq_true, Nat.one_ne_zero, Nat.zero_ne_one, Nat.not_lt_zero, Nat.zero_lt_succ, ge_iff_le, gt_iff_lt, decide_eq_true_eq, Option.some.injEq, List.getElem?_cons_zero, List.getElem?_cons_succ, List.length_cons, List.length_nil, Int.natCast_zero, List.map_cons, List.map_nil, List.append_nil, List.nil_append, List.cons_append, vconv, Option.map_some, Option.map_none, List.getD_cons_zero, List.getD_cons_succ, List.not_mem_nil, false_implies, implies_true, List.getElem?_toArray, Option.bind_some, List.set_cons_zero, List.set_cons_succ, List.take_succ_cons, List.take_zero, List.drop_succ_cons, List.drop_zero, List.drop_nil, List.take_nil, List.forall_mem_cons, List.forall_mem_nil, V.u8.injEq, exists_eq', Nat.zero_mul, Nat.one_mul, Nat.zero_add, Nat.mul_one, Nat.add_zero, Int.toNat_natCast, Int.cast_ofNat_Int, ne_eq, not_true_eq_false, not_false_eq_true, List.length_set, List.length_append, List.length_take, List.length_drop, List.length_replicate, Option.isSome_none, Option.isSome_some, w64_of, Bool.not_true, Bool.not_false, Bool.true_and, Bool.false_and, Bool.and_true, Bool.and_false, Bool.true_or, Bool.false_or, Bool.or_true, Bool.or_false, Bool.not_eq_true', decide_eq_false_iff_not, beq_self_eq_true, List.take_length, Nat.le_refl, Int.le_refl, Blk.mk.injEq, Try.ntmps36, Try.results36]
    refine goCall_pure0 (hf) ?_
    simp only [go_sem, ↓reduceIte, Nat.reduceEqDiff, Nat.reduceLT, Nat.reduceLeDiff, Nat.reduceAdd, Nat.reduceSub, Nat.reduceMul, Nat.reduceMod, Nat.reduceDiv, Int.reduceLE, Int.reduceLT, Int.reduceToNat, Int.reduceAdd, Int.reduceSub, Int.reduceMul, Int.reduceEq, Int.reduceNeg, BitVec.reduceOfInt, BitVec.reduceToNat, BitVec.reduceEq, BitVec.reduceNe, BitVec.reduceLT, reduceCtorEq, and_true, true_and, and_self, Nat.succ_ne_self, decide_true, decide_false, Bool.false_eq_true, Nat.one_ne_zero, Nat.zero_ne_one, Nat.not_lt_zero, Nat.zero_lt_succ, ge_iff_le, gt_iff_lt, decide_eq_true_eq, Option.some.injEq, List.getElem?_cons_zero, List.getElem?_cons_succ, List.length_cons, List.length_nil, Int.natCast_zero, List.map_cons, List.map_nil, List.append_nil, List.nil_append, List.cons_append, vconv, Option.map_some, Option.map_none, List.getD_cons_zero, List.getD_cons_succ, List.not_mem_nil, false_implies, implies_true, List.getElem?_toArray, Option.bind_some, List.set_cons_zero, List.set_cons_succ, List.take_succ_cons, List.take_zero, List.drop_succ_cons, List.drop_zero, List.drop_nil, List.take_nil, List.forall_mem_cons, List.forall_mem_nil, V.u8.injEq, exists_eq', Nat.zero_mul, Nat.one_mul, Nat.zero_add, Nat.mul_one, Nat.add_zero, Int.toNat_natCast, Int.cast_ofNat_Int, ne_eq, not_true_eq_false, not_false_eq_true, List.length_set, List.length_append, List.length_take, List.length_drop, List.length_replicate, Option.isSome_none, Option.isSome_some, w64_of, Bool.not_true, Bool.not_false, Bool.true_and, Bool.false_and, Bool.and_true, Bool.and_false, Bool.true_or, Bool.false_or, Bool.or_true, Bool.or_false, Bool.not_eq_true', decide_eq_false_iff_not, beq_self_eq_true, List.take_length, Nat.le_refl, Int.le_refl, Blk.mk.injEq]
    refine goCall_pure0 (hp) ?_
    simp only [go_sem, ↓reduceIte, Nat.reduceEqDiff, Nat.reduceLT, Nat.reduceLeDiff, Nat.reduceAdd, Nat.reduceSub, Nat.reduceMul, Nat.reduceMod, Nat.reduceDiv, Int.reduceLE, Int.reduceLT, Int.reduceToNat, Int.reduceAdd, Int.reduceSub, Int.reduceMul, Int.reduceEq, Int.reduceNeg, BitVec.reduceOfInt, BitVec.reduceToNat, BitVec.reduceEq, BitVec.reduceNe, BitVec.reduceLT, reduceCtorEq, and_true, true_and, and_self, Nat.succ_ne_self, decide_true, decide_false, Bool.false_eq_true, Nat.one_ne_zero, Nat.zero_ne_one, Nat.not_lt_zero, Nat.zero_lt_succ, ge_iff_le, gt_iff_lt, decide_eq_true_eq, Option.some.injEq, List.getElem?_cons_zero, List.getElem?_cons_succ, List.length_cons, List.length_nil, Int.natCast_zero, List.map_cons, List.map_nil, List.append_nil, List.nil_append, List.cons_append, vconv, Option.map_some, Option.map_none, List.getD_cons_zero, List.getD_cons_succ, List.not_mem_nil, false_implies, implies_true, List.getElem?_toArray, Option.bind_some, List.set_cons_zero, List.set_cons_succ, List.take_succ_cons, List.take_zero, List.drop_succ_cons, List.drop_zero, List.drop_nil, List.take_nil, List.forall_mem_cons, List.forall_mem_nil, V.u8.injEq, exists_eq', Nat.zero_mul, Nat.one_mul, Nat.zero_add, Nat.mul_one, Nat.add_zero, Int.toNat_natCast, Int.cast_ofNat_Int, ne_eq, not_true_eq_false, not_false_eq_true, List.length_set, List.length_append, List.length_take, List.length_drop, List.length_replicate, Option.isSome_none, Option.isSome_some, w64_of, Bool.not_true, Bool.not_false, Bool.true_and, Bool.false_and, Bool.and_true, Bool.and_false, Bool.true_or, Bool.false_or, Bool.or_true, Bool.or_false, Bool.not_eq_true', decide_eq_false_iff_not, beq_self_eq_true, List.take_length, Nat.le_refl, Int.le_refl, Blk.mk.injEq, h]
  · rw [if_neg h]
    refine pure_of_vc (by kernel_rfl) (fn := Try.f36) (by kernel_rfl) Try.func36 rfl (by show 1 ≤ 19; decide) (by simp [lows, V.low]) (by simp [lows, V.low, lows_ite, low_ite]) (go_start ?_)
    simp only [go_sem, ↓reduceIte, Nat.reduceEqDiff, Nat.reduceLT, Nat.reduceLeDiff, Nat.reduceAdd, Nat.reduceSub, Nat.reduceMul, Nat.reduceMod, Nat.reduceDiv, Int.reduceLE, Int.reduceLT, Int.reduceToNat, Int.reduceAdd, Int.reduceSub, Int.reduceMul, Int.reduceEq, Int.reduceNeg, BitVec.reduceOfInt, BitVec.reduceToNat, BitVec.reduceEq, BitVec.reduceNe, BitVec.reduceLT, reduceCtorEq, and_true, true_and, and_self, Nat.succ_ne_self, decide_true, decide_false, Bool.false_eq_true, Nat.one_ne_zero, Nat.zero_ne_one, Nat.not_lt_zero, Nat.zero_lt_succ, ge_iff_le, gt_iff_lt, decide_eq_true_eq, Option.some.injEq, List.getElem?_cons_zero, List.getElem?_cons_succ, List.length_cons, List.length_nil, Int.natCast_zero, List.map_cons, List.map_nil, List.append_nil, List.nil_append, List.cons_append, vconv, Option.map_some, Option.map_none, List.getD_cons_zero, List.getD_cons_succ, List.not_mem_nil, false_implies, implies_true, List.getElem?_toArray, Option.bind_some, List.set_cons_zero, List.set_cons_succ, List.take_succ_cons, List.take_zero, List.drop_succ_cons, List.drop_zero, List.drop_nil, List.take_nil, List.forall_mem_cons, List.forall_mem_nil, V.u8.injEq, exists_eq', Nat.zero_mul, Nat.one_mul, Nat.zero_add, Nat.mul_one, Nat.add_zero, Int.toNat_natCast, Int.cast_ofNat_Int, ne_eq, not_true_eq_false, not_false_eq_true, List.length_set, List.length_append, List.length_take, List.length_drop, List.length_replicate, Option.isSome_none, Option.isSome_some, w64_of, Bool.not_true, Bool.not_false, Bool.true_and, Bool.false_and, Bool.and_true, Bool.and_false, Bool.true_or, Bool.false_or, Bool.or_true, Bool.or_false, Bool.not_eq_true', decide_eq_false_iff_not, beq_self_eq_true, List.take_length, Nat.le_refl, Int.le_refl, Blk.mk.injEq, Try.ntmps36, Try.results36]
    refine goCall_pure0 (hf) ?_
    simp only [go_sem, ↓reduceIte, Nat.reduceEqDiff, Nat.reduceLT, Nat.reduceLeDiff, Nat.reduceAdd, Nat.reduceSub, Nat.reduceMul, Nat.reduceMod, Nat.reduceDiv, Int.reduceLE, Int.reduceLT, Int.reduceToNat, Int.reduceAdd, Int.reduceSub, Int.reduceMul, Int.reduceEq, Int.reduceNeg, BitVec.reduceOfInt, BitVec.reduceToNat, BitVec.reduceEq, BitVec.reduceNe, BitVec.reduceLT, reduceCtorEq, and_true, true_and, and_self, Nat.succ_ne_self, decide_true, decide_false, Bool.false_eq_true, Nat.one_ne_zero, Nat.zero_ne_one, Nat.not_lt_zero, Nat.zero_lt_succ, ge_iff_le, gt_iff_lt, decide_eq_true_eq, Option.some.injEq, List.getElem?_cons_zero, List.getElem?_cons_succ, List.length_cons, List.length_nil, Int.natCast_zero, List.map_cons, List.map_nil, List.append_nil, List.nil_append, List.cons_append, vconv, Option.map_some, Option.map_none, List.getD_cons_zero, List.getD_cons_succ, List.not_mem_nil, false_implies, implies_true, List.getElem?_toArray, Option.bind_some, List.set_cons_zero, List.set_cons_succ, List.take_succ_cons, List.take_zero, List.drop_succ_cons, List.drop_zero, List.drop_nil, List.take_nil, List.forall_mem_cons, List.forall_mem_nil, V.u8.injEq, exists_eq', Nat.zero_mul, Nat.one_mul, Nat.zero_add, Nat.mul_one, Nat.add_zero, Int.toNat_natCast, Int.cast_ofNat_Int, ne_eq, not_true_eq_false, not_false_eq_true, List.length_set, List.length_append, List.length_take, List.length_drop, List.length_replicate, Option.isSome_none, Option.isSome_some, w64_of, Bool.not_true, Bool.not_false, Bool.true_and, Bool.false_and, Bool.and_true, Bool.and_false, Bool.true_or, Bool.false_or, Bool.or_true, Bool.or_false, Bool.not_eq_true', decide_eq_false_iff_not, beq_self_eq_true, List.take_length, Nat.le_refl, Int.le_refl, Blk.mk.injEq]
    refine goCall_pure0 (hp) ?_
    simp only [go_sem, ↓reduceIte, Nat.reduceEqDiff, Nat.reduceLT, Nat.reduceLeDiff, Nat.reduceAdd, Nat.reduceSub, Nat.reduceMul, Nat.reduceMod, Nat.reduceDiv, Int.reduceLE, Int.reduceLT, Int.reduceToNat, Int.reduceAdd, Int.reduceSub, Int.reduceMul, Int.reduceEq, Int.reduceNeg, BitVec.reduceOfInt, BitVec.reduceToNat, BitVec.reduceEq, BitVec.reduceNe, BitVec.reduceLT, reduceCtorEq, and_true, true_and, and_self, Nat.succ_ne_self, decide_true, decide_false, Bool.false_eq_true, Nat.one_ne_zero, Nat.zero_ne_one, Nat.not_lt_zero, Nat.zero_lt_succ, ge_iff_le, gt_iff_lt, decide_eq_true_eq, Option.some.injEq, List.getElem?_cons_zero, List.getElem?_cons_succ, List.length_cons, List.length_nil, Int.natCast_zero, List.map_cons, List.map_nil, List.append_nil, List.nil_append, List.cons_append, vconv, Option.map_some, Option.map_none, List.getD_cons_zero, List.getD_cons_succ, List.not_mem_nil, false_implies, implies_true, List.getElem?_toArray, Option.bind_some, List.set_cons_zero, List.set_cons_succ, List.take_succ_cons, List.take_zero, List.drop_succ_cons, List.drop_zero, List.drop_nil, List.take_nil, List.forall_mem_cons, List.forall_mem_nil, V.u8.injEq, exists_eq', Nat.zero_mul, Nat.one_mul, Nat.zero_add, Nat.mul_one, Nat.add_zero, Int.toNat_natCast, Int.cast_ofNat_Int, ne_eq, not_true_eq_false, not_false_eq_true, List.length_set, List.length_append, List.length_take, List.length_drop, List.length_replicate, Option.isSome_none, Option.isSome_some, w64_of, Bool.not_true, Bool.not_false, Bool.true_and, Bool.false_and, Bool.and_true, Bool.and_false, Bool.true_or, Bool.false_or, Bool.or_true, Bool.or_false, Bool.not_eq_true', decide_eq_false_iff_not, beq_self_eq_true, List.take_length, Nat.le_refl, Int.le_refl, Blk.mk.injEq, h]
-- the value
def valN (a : N3) : Nat := a.1.toNat + 18446744073709551616 * a.2.1.toNat + 340282366920938463463374607431768211456 * a.2.2.toNat
theorem cry_eq (x y c : BitVec 64) (h : c.toNat ≤ 1) : (x + y + c).toNat + 18446744073709551616 * (cry x y c).toNat = x.toNat + y.toNat + c.toNat := by
  have := x.isLt
  have := y.isLt
  unfold cry
  rw [BitVec.toNat_add, BitVec.toNat_add, BitVec.toNat_ofNat]; omega
theorem plusN_val (a b : N3) (h : a.2.2.toNat + b.2.2.toNat < 18446744073709551615) : valN (plusN a b) = valN a + valN b := by
  have c0 := cry_eq a.1 b.1 0#64 (by decide)
  have l0 := cry_le a.1 b.1 0#64 (by decide)
  have c1 := cry_eq a.2.1 b.2.1 (cry a.1 b.1 0#64) l0
  have l1 := cry_le a.2.1 b.2.1 (cry a.1 b.1 0#64) l0
  have z : (0#64).toNat = 0 := rfl
  unfold valN plusN
  simp only
  generalize cry a.1 b.1 0#64 = k0 at *
  generalize cry a.2.1 b.2.1 k0 = k1 at *
  have e2 : (a.2.2 + b.2.2 + k1).toNat = a.2.2.toNat + b.2.2.toNat + k1.toNat := by
    rw [BitVec.toNat_add, BitVec.toNat_add]; omega
  omega
theorem and3 (w : BitVec 64) : (w &&& 3#64).toNat = w.toNat % 4 := by
  rw [BitVec.toNat_and, show (3#64).toNat = 2 ^ 2 - 1 from rfl, Nat.and_two_pow_sub_one_eq_mod]
theorem foldN_val (a : N3) (h : a.2.2.toNat < 1152921504606846976) : valN (foldN a) = valN a % 1361129467683753853853498429727072845824 + 5 * (valN a / 1361129467683753853853498429727072845824) := by
  have h1 := a.1.isLt
  have h2 := a.2.1.isLt
  have e3 := and3 a.2.2
  have e5 : (5#64 * (a.2.2 >>> 2)).toNat = 5 * (a.2.2.toNat / 4) := by
    rw [BitVec.toNat_mul, BitVec.toNat_ushiftRight, Nat.shiftRight_eq_div_pow, show (5#64).toNat = 5 from rfl]
    omega
  have z : (0#64).toNat = 0 := rfl
  unfold foldN
  rw [plusN_val _ _ (by show (a.2.2 &&& 3#64).toNat + (0#64).toNat < _; omega)]
  unfold valN
  simp only
  rw [e3, e5, z]
  omega
theorem valN_hi (a : N3) : a.2.2.toNat = valN a / 340282366920938463463374607431768211456 := by
  have h1 := a.1.isLt
  have h2 := a.2.1.isLt
  unfold valN; omega
theorem leastN_val (a : N3) (h : a.2.2.toNat < 1152921504606846976) : valN (leastN a) = valN a % 1361129467683753853853498429727072845819 := by
  have hf := foldN_val a h
  have ha := valN_hi a
  have hfh := valN_hi (foldN a)
  have h1 := a.1.isLt
  have h2 := a.2.1.isLt
  have hva : valN a < 340282366920938463463374607431768211456 * 1152921504606846976 := by unfold valN; omega
  have hA : valN a % 1361129467683753853853498429727072845819 = valN (foldN a) % 1361129467683753853853498429727072845819 := by
    have e : valN a = 1361129467683753853853498429727072845819 * (valN a / 1361129467683753853853498429727072845824) + valN (foldN a) := by rw [hf]; omega
    rw [e, Nat.mul_add_mod]
  have hF : valN (foldN a) < 1361129467683753853853498429727072845824 + 5 * 1152921504606846976 := by rw [hf]; omega
  rw [hA]
  clear hA hf ha hva
  have v5 : valN (5#64, 0#64, 0#64) = 5 := by decide
  have hp := plusN_val (foldN a) (5#64, 0#64, 0#64) (by show (foldN a).2.2.toNat + (0#64).toNat < _; have z : (0#64).toNat = 0 := rfl; omega)
  rw [v5] at hp
  have hph := valN_hi (plusN (foldN a) (5#64, 0#64, 0#64))
  unfold leastN
  generalize plusN (foldN a) (5#64, 0#64, 0#64) = g at hp hph ⊢
  have hs : (g.2.2 >>> 2).toNat = g.2.2.toNat / 4 := by rw [BitVec.toNat_ushiftRight, Nat.shiftRight_eq_div_pow]
  have h3 := and3 g.2.2
  by_cases hg : 0#64 < g.2.2 >>> 2
  · have hg' : 0 < g.2.2.toNat / 4 := by rw [← hs]; exact hg
    rw [if_pos hg]
    have e : valN (g.1, g.2.1, g.2.2 &&& 3#64) = valN g - 340282366920938463463374607431768211456 * (g.2.2.toNat - g.2.2.toNat % 4) := by
      unfold valN; simp only; rw [h3]; omega
    rw [e]; omega
  · have hg' : ¬ 0 < g.2.2.toNat / 4 := by rw [← hs]; exact hg
    rw [if_neg hg]; omega
end Go.Vm
