/- A part of the proof: laws of a small machine of values, or what one function answers, proved against the model; no conditions beyond those in each theorem. -/
import Derived.Test.YtcilackefhieiaaGal
set_option linter.unusedVariables false
set_option linter.unusedSimpArgs false
set_option linter.unusedSectionVars false
namespace Go.Vm
open Go.Proofs
def ginvL : Nat → BitVec 8 → BitVec 8 → BitVec 8
  | 0, n, _ => n
  | k + 1, n, s => ginvL k (gmul n (gmul s s)) (gmul s s)
def ginv (a : BitVec 8) : BitVec 8 := ginvL 7 1 a
theorem Inv_spec (a : BitVec 8) : PureFn Try.prog 65 [.u8 a] (.u8 (ginv a)) := by
  refine pure_of_vc (by kernel_rfl) (fn := Try.f65) (by kernel_rfl) Try.func65 rfl (by show 1 ≤ 16; decide) (by simp [lows, V.low]) (by simp [lows, V.low, lows_ite, low_ite]) (go_start ?_)
  simp only [go_sem, ↓reduceIte, Nat.reduceEqDiff, Nat.reduceLT, Nat.reduceLeDiff, Nat.reduceAdd, Nat.reduceSub, Nat.reduceMul, Nat.reduceMod, Nat.reduceDiv, Int.reduceLE, Int.reduceLT, Int.reduceToNat, Int.reduceAdd, Int.reduceSub, Int.reduceMul, Int.reduceEq, Int.reduceNeg, BitVec.reduceOfInt, BitVec.reduceToNat, BitVec.reduceEq, BitVec.reduceNe, BitVec.reduceLT, reduceCtorEq, and_true, true_and, and_self, Nat.succ_ne_self, decide_true, decide_false, Bool.false_eq_true, Nat.one_ne_zero, Nat.zero_ne_one, Nat.not_lt_zero, Nat.zero_lt_succ, ge_iff_le, gt_iff_lt, decide_eq_true_eq, Option.some.injEq, List.getElem?_cons_zero, List.getElem?_cons_succ, List.length_cons, List.length_nil, Int.natCast_zero, List.map_cons, List.map_nil, List.append_nil, List.nil_append, List.cons_append, vconv, Option.map_some, Option.map_none, List.getD_cons_zero, List.getD_cons_succ, List.not_mem_nil, false_implies, implies_true, List.getElem?_toArray, Option.bind_some, List.set_cons_zero, List.set_cons_succ, List.take_succ_cons, List.take_zero, List.drop_succ_cons, List.drop_zero, List.drop_nil, List.take_nil, List.forall_mem_cons, List.forall_mem_nil, V.u8.injEq, exists_eq', Nat.zero_mul, Nat.one_mul, Nat.zero_add, Nat.mul_one, Nat.add_zero, Int.toNat_natCast, Int.cast_ofNat_Int, ne_eq, not_true_eq_false, not_false_eq_true, List.length_set, List.length_append, List.length_take, List.length_drop, List.length_replicate, Option.isSome_none, Option.isSome_some, w64_of, Bool.not_true, Bool.not_false, Bool.true_and, Bool.false_and, Bool.and_true, Bool.and_false, Bool.true_or, Bool.false_or, Bool.or_true, Bool.or_false, Bool.not_eq_true', decide_eq_false_iff_not, Try.ntmps65, Try.results65]
  refine go_loop (fun j s => ∃ (i : Nat) (n q : BitVec 8), i + j = 7 ∧ s = ⟨[(3, .u8 n), (4, .u8 q), (6, .i64 i)], []⟩ ∧ ginv a = ginvL j n q) ?_ ?_
  · exact start_mk 7 ⟨[(3, .u8 1), (4, .u8 a), (6, .i64 (0 : Nat))], []⟩ (by simp [St.get, lookS]) rfl (fun _ _ h => h) ⟨0, 1, a, by omega, rfl, rfl⟩
  · rintro j s ⟨i, n, q, hi, rfl, he⟩ _
    simp only [go_sem, ↓reduceIte, Nat.reduceEqDiff, Nat.reduceLT, Nat.reduceLeDiff, Nat.reduceAdd, Nat.reduceSub, Nat.reduceMul, Nat.reduceMod, Nat.reduceDiv, Int.reduceLE, Int.reduceLT, Int.reduceToNat, Int.reduceAdd, Int.reduceSub, Int.reduceMul, Int.reduceEq, Int.reduceNeg, BitVec.reduceOfInt, BitVec.reduceToNat, BitVec.reduceEq, BitVec.reduceNe, BitVec.reduceLT, reduceCtorEq, and_true, true_and, and_self, Nat.succ_ne_self, decide_true, decide_false, Bool.false_eq_true, Nat.one_ne_zero, Nat.zero_ne_one, Nat.not_lt_zero, Nat.zero_lt_succ, ge_iff_le, gt_iff_lt, decide_eq_true_eq, Option.some.injEq, List.getElem?_cons_zero, List.getElem?_cons_succ, List.length_cons, List.length_nil, Int.natCast_zero, List.map_cons, List.map_nil, List.append_nil, List.nil_append, List.cons_append, vconv, Option.map_some, Option.map_none, List.getD_cons_zero, List.getD_cons_succ, List.not_mem_nil, false_implies, implies_true, List.getElem?_toArray, Option.bind_some, List.set_cons_zero, List.set_cons_succ, List.take_succ_cons, List.take_zero, List.drop_succ_cons, List.drop_zero, List.drop_nil, List.take_nil, List.forall_mem_cons, List.forall_mem_nil, V.u8.injEq, exists_eq', Nat.zero_mul, Nat.one_mul, Nat.zero_add, Nat.mul_one, Nat.add_zero, Int.toNat_natCast, Int.cast_ofNat_Int, ne_eq, not_true_eq_false, not_false_eq_true, List.length_set, List.length_append, List.length_take, List.length_drop, List.length_replicate, Option.isSome_none, Option.isSome_some, w64_of, Bool.not_true, Bool.not_false, Bool.true_and, Bool.false_and, Bool.and_true, Bool.and_false, Bool.true_or, Bool.false_or, Bool.or_true, Bool.or_false, Bool.not_eq_true', decide_eq_false_iff_not]
    split
    · refine goCall_pure0 (Mul_spec _ _) ?_
      simp only [go_sem, ↓reduceIte, Nat.reduceEqDiff, Nat.reduceLT, Nat.reduceLeDiff, Nat.reduceAdd, Nat.reduceSub, Nat.reduceMul, Nat.reduceMod, Nat.reduceDiv, Int.reduceLE, Int.reduceLT, Int.reduceToNat, Int.reduceAdd, Int.reduceSub, Int.reduceMul, Int.reduceEq, Int.reduceNeg, BitVec.reduceOfInt, BitVec.reduceToNat, BitVec.reduceEq, BitVec.reduceNe, BitVec.reduceLT, reduceCtorEq, and_true, true_and, and_self, Nat.succ_ne_self, decide_true, decide_false, Bool.false_eq_true, Nat.one_ne_zero, Nat.zero_ne_one, Nat.not_lt_zero, Nat.zero_lt_succ, ge_iff_le, gt_iff_lt, decide_eq_true_eq, Option.some.injEq, List.getElem?_cons_zero, List.getElem?_cons_succ, List.length_cons, List.length_nil, Int.natCast_zero, List.map_cons, List.map_nil, List.append_nil, List.nil_append, List.cons_append, vconv, Option.map_some, Option.map_none, List.getD_cons_zero, List.getD_cons_succ, List.not_mem_nil, false_implies, implies_true, List.getElem?_toArray, Option.bind_some, List.set_cons_zero, List.set_cons_succ, List.take_succ_cons, List.take_zero, List.drop_succ_cons, List.drop_zero, List.drop_nil, List.take_nil, List.forall_mem_cons, List.forall_mem_nil, V.u8.injEq, exists_eq', Nat.zero_mul, Nat.one_mul, Nat.zero_add, Nat.mul_one, Nat.add_zero, Int.toNat_natCast, Int.cast_ofNat_Int, ne_eq, not_true_eq_false, not_false_eq_true, List.length_set, List.length_append, List.length_take, List.length_drop, List.length_replicate, Option.isSome_none, Option.isSome_some, w64_of, Bool.not_true, Bool.not_false, Bool.true_and, Bool.false_and, Bool.and_true, Bool.and_false, Bool.true_or, Bool.false_or, Bool.or_true, Bool.or_false, Bool.not_eq_true', decide_eq_false_iff_not]
      refine goCall_pure0 (Mul_spec _ _) ?_
      simp only [go_sem, ↓reduceIte, Nat.reduceEqDiff, Nat.reduceLT, Nat.reduceLeDiff, Nat.reduceAdd, Nat.reduceSub, Nat.reduceMul, Nat.reduceMod, Nat.reduceDiv, Int.reduceLE, Int.reduceLT, Int.reduceToNat, Int.reduceAdd, Int.reduceSub, Int.reduceMul, Int.reduceEq, Int.reduceNeg, BitVec.reduceOfInt, BitVec.reduceToNat, BitVec.reduceEq, BitVec.reduceNe, BitVec.reduceLT, reduceCtorEq, and_true, true_and, and_self, Nat.succ_ne_self, decide_true, decide_false, Bool.false_eq_true, Nat.one_ne_zero, Nat.zero_ne_one, Nat.not_lt_zero, Nat.zero_lt_succ, ge_iff_le, gt_iff_lt, decide_eq_true_eq, Option.some.injEq, List.getElem?_cons_zero, List.getElem?_cons_succ, List.length_cons, List.length_nil, Int.natCast_zero, List.map_cons, List.map_nil, List.append_nil, List.nil_append, List.cons_append, vconv, Option.map_some, Option.map_none, List.getD_cons_zero, List.getD_cons_succ, List.not_mem_nil, false_implies, implies_true, List.getElem?_toArray, Option.bind_some, List.set_cons_zero, List.set_cons_succ, List.take_succ_cons, List.take_zero, List.drop_succ_cons, List.drop_zero, List.drop_nil, List.take_nil, List.forall_mem_cons, List.forall_mem_nil, V.u8.injEq, exists_eq', Nat.zero_mul, Nat.one_mul, Nat.zero_add, Nat.mul_one, Nat.add_zero, Int.toNat_natCast, Int.cast_ofNat_Int, ne_eq, not_true_eq_false, not_false_eq_true, List.length_set, List.length_append, List.length_take, List.length_drop, List.length_replicate, Option.isSome_none, Option.isSome_some, w64_of, Bool.not_true, Bool.not_false, Bool.true_and, Bool.false_and, Bool.and_true, Bool.and_false, Bool.true_or, Bool.false_or, Bool.or_true, Bool.or_false, Bool.not_eq_true', decide_eq_false_iff_not]
      obtain ⟨j, rfl⟩ : ∃ k, j = k + 1 := ⟨j - 1, by omega⟩
      refine again_mk j ⟨[(3, .u8 (gmul n (gmul q q))), (4, .u8 (gmul q q)), (6, .i64 (i + 1 : Nat))], []⟩ (by omega) ?_ rfl (fun _ _ h => h) ⟨i + 1, _, _, by omega, rfl, he⟩
      have : w64 ((i : Int) + 1) = ((i + 1 : Nat) : Int) := by rw [w64_of (by omega) (by omega)]; omega
      simp [St.get, lookS, this]
    · obtain rfl : j = 0 := by omega
      rw [he]; rfl
/-- In numbers. -/
def ninv (a : Nat) : Nat := (Nat.rec (fun n _ => n) (fun _ ih n s => ih (ngm 8 n (ngm 8 s s 0) 0) (ngm 8 s s 0)) 7 : Nat → Nat → Nat) 1 a
theorem chk2 : nall (fun a => nall (fun b => Nat.beq (ngm 8 a b 0) 1 == and (Nat.blt 0 a) (Nat.beq b (ninv a))) 256) 256 = true := by decide +kernel
theorem gmul_ngm (a b : BitVec 8) : (gmul a b).toNat = ngm 8 a.toNat b.toNat 0 := gmulL_eq 8 a b 0
theorem ginvL_eq : ∀ (k : Nat) (n s : BitVec 8), (ginvL k n s).toNat = (Nat.rec (fun n _ => n) (fun _ ih n s => ih (ngm 8 n (ngm 8 s s 0) 0) (ngm 8 s s 0)) k : Nat → Nat → Nat) n.toNat s.toNat
  | 0, _, _ => rfl
  | k + 1, n, s => by
    rw [ginvL, ginvL_eq k, gmul_ngm, gmul_ngm]
theorem ginv_ninv (a : BitVec 8) : (ginv a).toNat = ninv a.toNat := ginvL_eq 7 1 a
theorem gmul_one (a b : BitVec 8) : gmul a b = 1 ↔ a ≠ 0 ∧ b = ginv a := by
  have h := nall_get (nall_get chk2 a.toNat a.isLt) b.toNat b.isLt
  have h1 : Nat.beq (ngm 8 a.toNat b.toNat 0) 1 = and (Nat.blt 0 a.toNat) (Nat.beq b.toNat (ninv a.toNat)) := by simpa using h
  rw [← gmul_ngm, ← ginv_ninv] at h1
  have e1 : gmul a b = 1 ↔ Nat.beq (gmul a b).toNat 1 = true := ⟨fun e => by rw [e]; rfl, fun e => BitVec.eq_of_toNat_eq (Nat.eq_of_beq_eq_true e)⟩
  rw [e1, h1, Bool.and_eq_true]
  refine and_congr ?_ ?_
  · rw [show Nat.blt 0 a.toNat = Nat.ble 1 a.toNat from rfl, Nat.ble_eq]
    constructor
    · intro h e; subst e; simp at h
    · intro h
      have : a.toNat ≠ 0 := fun e => h (BitVec.eq_of_toNat_eq (by simpa using e))
      omega
  · exact ⟨fun e => BitVec.eq_of_toNat_eq (Nat.eq_of_beq_eq_true e), fun e => by rw [e]; exact Nat.beq_refl _⟩
theorem ninv_zero : Nat.beq (ninv 0) 0 = true := by decide +kernel
theorem ginv_zero : ginv 0 = 0 := by
  have h := ginv_ninv 0
  have e : (0 : BitVec 8).toNat = 0 := rfl
  rw [e, Nat.eq_of_beq_eq_true ninv_zero] at h
  exact BitVec.eq_of_toNat_eq (h.trans e.symm)
theorem ofInt8_nat (i : Nat) : BitVec.ofInt 8 (i : Int) = BitVec.ofNat 8 i := BitVec.ofInt_natCast 8 i
set_option maxRecDepth 4000 in
theorem RInv_spec (a : BitVec 8) : PureFn Try.prog 68 [.u8 a] (.u8 (ginv a)) := by
  refine pure_of_vc (by kernel_rfl) (fn := Try.f68) (by kernel_rfl) Try.func68 rfl (by show 1 ≤ 15; decide) (by simp [lows, V.low]) (by simp [lows, V.low, lows_ite, low_ite]) (go_start ?_)
  simp only [go_sem, ↓reduceIte, Nat.reduceEqDiff, Nat.reduceLT, Nat.reduceLeDiff, Nat.reduceAdd, Nat.reduceSub, Nat.reduceMul, Nat.reduceMod, Nat.reduceDiv, Int.reduceLE, Int.reduceLT, Int.reduceToNat, Int.reduceAdd, Int.reduceSub, Int.reduceMul, Int.reduceEq, Int.reduceNeg, BitVec.reduceOfInt, BitVec.reduceToNat, BitVec.reduceEq, BitVec.reduceNe, BitVec.reduceLT, reduceCtorEq, and_true, true_and, and_self, Nat.succ_ne_self, decide_true, decide_false, Bool.false_eq_true, Nat.one_ne_zero, Nat.zero_ne_one, Nat.not_lt_zero, Nat.zero_lt_succ, ge_iff_le, gt_iff_lt, decide_eq_true_eq, Option.some.injEq, List.getElem?_cons_zero, List.getElem?_cons_succ, List.length_cons, List.length_nil, Int.natCast_zero, List.map_cons, List.map_nil, List.append_nil, List.nil_append, List.cons_append, vconv, Option.map_some, Option.map_none, List.getD_cons_zero, List.getD_cons_succ, List.not_mem_nil, false_implies, implies_true, List.getElem?_toArray, Option.bind_some, List.set_cons_zero, List.set_cons_succ, List.take_succ_cons, List.take_zero, List.drop_succ_cons, List.drop_zero, List.drop_nil, List.take_nil, List.forall_mem_cons, List.forall_mem_nil, V.u8.injEq, exists_eq', Nat.zero_mul, Nat.one_mul, Nat.zero_add, Nat.mul_one, Nat.add_zero, Int.toNat_natCast, Int.cast_ofNat_Int, ne_eq, not_true_eq_false, not_false_eq_true, List.length_set, List.length_append, List.length_take, List.length_drop, List.length_replicate, Option.isSome_none, Option.isSome_some, w64_of, Bool.not_true, Bool.not_false, Bool.true_and, Bool.false_and, Bool.and_true, Bool.and_false, Bool.true_or, Bool.false_or, Bool.or_true, Bool.or_false, Bool.not_eq_true', decide_eq_false_iff_not, Try.ntmps68, Try.results68]
  refine go_loop (fun j s => ∃ (i : Nat), i + j = 256 ∧ s = ⟨[(0, .u8 a), (4, .i64 i)], []⟩ ∧ ∀ b : BitVec 8, b.toNat < i → gmul a b ≠ 1) ?_ ?_
  · exact start_mk 256 ⟨[(0, .u8 a), (4, .i64 (0 : Nat))], []⟩ (by simp [St.get, lookS]) rfl (fun _ _ h => h) ⟨0, by omega, rfl, fun b h => by omega⟩
  · rintro j s ⟨i, hi, rfl, he⟩ _
    simp only [go_sem, ↓reduceIte, Nat.reduceEqDiff, Nat.reduceLT, Nat.reduceLeDiff, Nat.reduceAdd, Nat.reduceSub, Nat.reduceMul, Nat.reduceMod, Nat.reduceDiv, Int.reduceLE, Int.reduceLT, Int.reduceToNat, Int.reduceAdd, Int.reduceSub, Int.reduceMul, Int.reduceEq, Int.reduceNeg, BitVec.reduceOfInt, BitVec.reduceToNat, BitVec.reduceEq, BitVec.reduceNe, BitVec.reduceLT, reduceCtorEq, and_true, true_and, and_self, Nat.succ_ne_self, decide_true, decide_false, Bool.false_eq_true, Nat.one_ne_zero, Nat.zero_ne_one, Nat.not_lt_zero, Nat.zero_lt_succ, ge_iff_le, gt_iff_lt, decide_eq_true_eq, Option.some.injEq, List.getElem?_cons_zero, List.getElem?_cons_succ, List.length_cons, List.length_nil, Int.natCast_zero, List.map_cons, List.map_nil, List.append_nil, List.nil_append, List.cons_append, vconv, Option.map_some, Option.map_none, List.getD_cons_zero, List.getD_cons_succ, List.not_mem_nil, false_implies, implies_true, List.getElem?_toArray, Option.bind_some, List.set_cons_zero, List.set_cons_succ, List.take_succ_cons, List.take_zero, List.drop_succ_cons, List.drop_zero, List.drop_nil, List.take_nil, List.forall_mem_cons, List.forall_mem_nil, V.u8.injEq, exists_eq', Nat.zero_mul, Nat.one_mul, Nat.zero_add, Nat.mul_one, Nat.add_zero, Int.toNat_natCast, Int.cast_ofNat_Int, ne_eq, not_true_eq_false, not_false_eq_true, List.length_set, List.length_append, List.length_take, List.length_drop, List.length_replicate, Option.isSome_none, Option.isSome_some, w64_of, Bool.not_true, Bool.not_false, Bool.true_and, Bool.false_and, Bool.and_true, Bool.and_false, Bool.true_or, Bool.false_or, Bool.or_true, Bool.or_false, Bool.not_eq_true', decide_eq_false_iff_not]
    split
    · refine goCall_pure0 (RMul_spec _ _) ?_
      simp only [go_sem, ↓reduceIte, Nat.reduceEqDiff, Nat.reduceLT, Nat.reduceLeDiff, Nat.reduceAdd, Nat.reduceSub, Nat.reduceMul, Nat.reduceMod, Nat.reduceDiv, Int.reduceLE, Int.reduceLT, Int.reduceToNat, Int.reduceAdd, Int.reduceSub, Int.reduceMul, Int.reduceEq, Int.reduceNeg, BitVec.reduceOfInt, BitVec.reduceToNat, BitVec.reduceEq, BitVec.reduceNe, BitVec.reduceLT, reduceCtorEq, and_true, true_and, and_self, Nat.succ_ne_self, decide_true, decide_false, Bool.false_eq_true, Nat.one_ne_zero, Nat.zero_ne_one, Nat.not_lt_zero, Nat.zero_lt_succ, ge_iff_le, gt_iff_lt, decide_eq_true_eq, Option.some.injEq, List.getElem?_cons_zero, List.getElem?_cons_succ, List.length_cons, List.length_nil, Int.natCast_zero, List.map_cons, List.map_nil, List.append_nil, List.nil_append, List.cons_append, vconv, Option.map_some, Option.map_none, List.getD_cons_zero, List.getD_cons_succ, List.not_mem_nil, false_implies, implies_true, List.getElem?_toArray, Option.bind_some, List.set_cons_zero, List.set_cons_succ, List.take_succ_cons, List.take_zero, List.drop_succ_cons, List.drop_zero, List.drop_nil, List.take_nil, List.forall_mem_cons, List.forall_mem_nil, V.u8.injEq, exists_eq', Nat.zero_mul, Nat.one_mul, Nat.zero_add, Nat.mul_one, Nat.add_zero, Int.toNat_natCast, Int.cast_ofNat_Int, ne_eq, not_true_eq_false, not_false_eq_true, List.length_set, List.length_append, List.length_take, List.length_drop, List.length_replicate, Option.isSome_none, Option.isSome_some, w64_of, Bool.not_true, Bool.not_false, Bool.true_and, Bool.false_and, Bool.and_true, Bool.and_false, Bool.true_or, Bool.false_or, Bool.or_true, Bool.or_false, Bool.not_eq_true', decide_eq_false_iff_not, ofInt8_nat, ← gmul_rmul]
      split
      · rename_i h1
        rw [((gmul_one a _).1 h1).2]
      · rename_i h1
        refine again_mk (j - 1) ⟨[(0, .u8 a), (4, .i64 (i + 1 : Nat))], []⟩ (by omega) ?_ rfl (fun _ _ h => h) ⟨i + 1, by omega, rfl, fun b hb => ?_⟩
        · have : w64 ((i : Int) + 1) = ((i + 1 : Nat) : Int) := by rw [w64_of (by omega) (by omega)]; omega
          simp [St.get, lookS, this]
        · by_cases e : b.toNat = i
          · have : b = BitVec.ofNat 8 i := by rw [← e]; simp
            rw [this]; exact h1
          · exact he b (by omega)
    · obtain rfl : i = 256 := by omega
      have : a = 0 := Classical.byContradiction fun h => he (ginv a) (by omega) ((gmul_one a _).2 ⟨h, rfl⟩)
      rw [this, ginv_zero]
      rfl
end Go.Vm
