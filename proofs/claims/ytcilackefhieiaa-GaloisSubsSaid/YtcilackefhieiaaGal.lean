/- A part of the proof: laws of a small machine of values, or what one function answers, proved against the model; no conditions beyond those in each theorem. -/
import Derived.Test.YtcilackefhieiaaVmS
import Derived.Test.YtcilackefhieiaaTypes
set_option linter.unusedVariables false
set_option linter.unusedSimpArgs false
set_option linter.unusedSectionVars false
namespace Go.Vm
open Go.Proofs
def gmulL : Nat → BitVec 8 → BitVec 8 → BitVec 8 → BitVec 8
  | 0, _, _, n => n
  | k + 1, a, b, n => if 0#8 < b then gmulL k (a <<< 1 ^^^ a >>> 7 * 27) (b >>> 1) (n ^^^ a * (b &&& 1)) else n
def gmul (a b : BitVec 8) : BitVec 8 := gmulL 8 a b 0
theorem Mul_spec (a b : BitVec 8) : PureFn Try.prog 91 [.u8 a, .u8 b] (.u8 (gmul a b)) := by
  refine pure_of_vc (by kernel_rfl) (fn := Try.f91) (by kernel_rfl) Try.func91 rfl (by show 2 ≤ 23; decide) (by simp [lows, V.low]) (by simp [lows, V.low, lows_ite, low_ite]) (go_start ?_)
  simp only [go_sem, ↓reduceIte, Nat.reduceEqDiff, Nat.reduceLT, Nat.reduceLeDiff, Nat.reduceAdd, Nat.reduceSub, Nat.reduceMul, Nat.reduceMod, Nat.reduceDiv, Int.reduceLE, Int.reduceLT, Int.reduceToNat, Int.reduceAdd, Int.reduceSub, Int.reduceMul, Int.reduceEq, Int.reduceNeg, BitVec.reduceOfInt, BitVec.reduceToNat, BitVec.reduceEq, BitVec.reduceNe, BitVec.reduceLT, reduceCtorEq, and_true, true_and, and_self, Nat.succ_ne_self, decide_true, decide_false, Bool.false_eq_true, Nat.one_ne_zero, Nat.zero_ne_one, Nat.not_lt_zero, Nat.zero_lt_succ, ge_iff_le, gt_iff_lt, decide_eq_true_eq, Option.some.injEq, List.getElem?_cons_zero, List.getElem?_cons_succ, List.length_cons, List.length_nil, Int.natCast_zero, List.map_cons, List.map_nil, List.append_nil, List.nil_append, List.cons_append, vconv, Option.map_some, Option.map_none, List.getD_cons_zero, List.getD_cons_succ, List.not_mem_nil, false_implies, implies_true, List.getElem?_toArray, Option.bind_some, List.set_cons_zero, List.set_cons_succ, List.take_succ_cons, List.take_zero, List.drop_succ_cons, List.drop_zero, List.drop_nil, List.take_nil, List.forall_mem_cons, List.forall_mem_nil, V.u8.injEq, exists_eq', Nat.zero_mul, Nat.one_mul, Nat.zero_add, Nat.mul_one, Nat.add_zero, Int.toNat_natCast, Int.cast_ofNat_Int, ne_eq, not_true_eq_false, not_false_eq_true, List.length_set, List.length_append, List.length_take, List.length_drop, List.length_replicate, Option.isSome_none, Option.isSome_some, w64_of, Bool.not_true, Bool.not_false, Bool.true_and, Bool.false_and, Bool.and_true, Bool.and_false, Bool.true_or, Bool.false_or, Bool.or_true, Bool.or_false, Bool.not_eq_true', decide_eq_false_iff_not, Try.ntmps91, Try.results91]
  refine go_loop (fun j s => ∃ a' b' n', s = ⟨[(0, .u8 a'), (1, .u8 b'), (5, .u8 n')], []⟩ ∧ b'.toNat < 2 ^ j ∧ gmul a b = gmulL j a' b' n') ?_ ?_
  · exact start_mk 8 ⟨[(0, .u8 a), (1, .u8 b), (5, .u8 0)], []⟩ (by simp [St.get, lookS]) rfl (fun _ _ h => h) ⟨a, b, 0, rfl, b.isLt, rfl⟩
  · rintro j s ⟨a', b', n', rfl, hb, he⟩ _
    simp only [go_sem, ↓reduceIte, Nat.reduceEqDiff, Nat.reduceLT, Nat.reduceLeDiff, Nat.reduceAdd, Nat.reduceSub, Nat.reduceMul, Nat.reduceMod, Nat.reduceDiv, Int.reduceLE, Int.reduceLT, Int.reduceToNat, Int.reduceAdd, Int.reduceSub, Int.reduceMul, Int.reduceEq, Int.reduceNeg, BitVec.reduceOfInt, BitVec.reduceToNat, BitVec.reduceEq, BitVec.reduceNe, BitVec.reduceLT, reduceCtorEq, and_true, true_and, and_self, Nat.succ_ne_self, decide_true, decide_false, Bool.false_eq_true, Nat.one_ne_zero, Nat.zero_ne_one, Nat.not_lt_zero, Nat.zero_lt_succ, ge_iff_le, gt_iff_lt, decide_eq_true_eq, Option.some.injEq, List.getElem?_cons_zero, List.getElem?_cons_succ, List.length_cons, List.length_nil, Int.natCast_zero, List.map_cons, List.map_nil, List.append_nil, List.nil_append, List.cons_append, vconv, Option.map_some, Option.map_none, List.getD_cons_zero, List.getD_cons_succ, List.not_mem_nil, false_implies, implies_true, List.getElem?_toArray, Option.bind_some, List.set_cons_zero, List.set_cons_succ, List.take_succ_cons, List.take_zero, List.drop_succ_cons, List.drop_zero, List.drop_nil, List.take_nil, List.forall_mem_cons, List.forall_mem_nil, V.u8.injEq, exists_eq', Nat.zero_mul, Nat.one_mul, Nat.zero_add, Nat.mul_one, Nat.add_zero, Int.toNat_natCast, Int.cast_ofNat_Int, ne_eq, not_true_eq_false, not_false_eq_true, List.length_set, List.length_append, List.length_take, List.length_drop, List.length_replicate, Option.isSome_none, Option.isSome_some, w64_of, Bool.not_true, Bool.not_false, Bool.true_and, Bool.false_and, Bool.and_true, Bool.and_false, Bool.true_or, Bool.false_or, Bool.or_true, Bool.or_false, Bool.not_eq_true', decide_eq_false_iff_not]
    split
    · rename_i h0
      cases j with
      | zero => exact absurd h0 (by rw [BitVec.lt_def]; simp; omega)
      | succ j =>
        refine again_mk j ⟨[(0, .u8 (a' <<< 1 ^^^ a' >>> 7 * 27)), (1, .u8 (b' >>> 1)), (5, .u8 (n' ^^^ a' * (b' &&& 1)))], []⟩ (by omega) (by simp [St.get, lookS]) rfl (fun _ _ h => h) ⟨_, _, _, rfl, ?_, ?_⟩
        · simp [Nat.shiftRight_eq_div_pow]; omega
        · rw [he, gmulL, if_pos h0]
    · rename_i h0
      rw [he]
      cases j with
      | zero => rfl
      | succ j => rw [gmulL, if_neg h0]
def rmA (a b : BitVec 8) : Nat → Int
  | 0 => 0
  | i + 1 => xor64 (rmA a b i) (w64 (shl64 a.toNat i * (shr64 b.toNat i).tmod 2))
def rmR (c : Int) : Nat → Int
  | 0 => c
  | i + 1 => xor64 (rmR c i) (w64 (shl64 283 (6 - i) * (shr64 (rmR c i) (14 - i)).tmod 2))
def rmul (a b : BitVec 8) : BitVec 8 := BitVec.ofInt 8 (rmR (rmA a b 8) 7)
theorem RMul_spec (a b : BitVec 8) : PureFn Try.prog 92 [.u8 a, .u8 b] (.u8 (rmul a b)) := by
  refine pure_of_vc (by kernel_rfl) (fn := Try.f92) (by kernel_rfl) Try.func92 rfl (by show 2 ≤ 40; decide) (by simp [lows, V.low]) (by simp [lows, V.low, lows_ite, low_ite]) (go_start ?_)
  simp only [go_sem, ↓reduceIte, Nat.reduceEqDiff, Nat.reduceLT, Nat.reduceLeDiff, Nat.reduceAdd, Nat.reduceSub, Nat.reduceMul, Nat.reduceMod, Nat.reduceDiv, Int.reduceLE, Int.reduceLT, Int.reduceToNat, Int.reduceAdd, Int.reduceSub, Int.reduceMul, Int.reduceEq, Int.reduceNeg, BitVec.reduceOfInt, BitVec.reduceToNat, BitVec.reduceEq, BitVec.reduceNe, BitVec.reduceLT, reduceCtorEq, and_true, true_and, and_self, Nat.succ_ne_self, decide_true, decide_false, Bool.false_eq_true, Nat.one_ne_zero, Nat.zero_ne_one, Nat.not_lt_zero, Nat.zero_lt_succ, ge_iff_le, gt_iff_lt, decide_eq_true_eq, Option.some.injEq, List.getElem?_cons_zero, List.getElem?_cons_succ, List.length_cons, List.length_nil, Int.natCast_zero, List.map_cons, List.map_nil, List.append_nil, List.nil_append, List.cons_append, vconv, Option.map_some, Option.map_none, List.getD_cons_zero, List.getD_cons_succ, List.not_mem_nil, false_implies, implies_true, List.getElem?_toArray, Option.bind_some, List.set_cons_zero, List.set_cons_succ, List.take_succ_cons, List.take_zero, List.drop_succ_cons, List.drop_zero, List.drop_nil, List.take_nil, List.forall_mem_cons, List.forall_mem_nil, V.u8.injEq, exists_eq', Nat.zero_mul, Nat.one_mul, Nat.zero_add, Nat.mul_one, Nat.add_zero, Int.toNat_natCast, Int.cast_ofNat_Int, ne_eq, not_true_eq_false, not_false_eq_true, List.length_set, List.length_append, List.length_take, List.length_drop, List.length_replicate, Option.isSome_none, Option.isSome_some, w64_of, Bool.not_true, Bool.not_false, Bool.true_and, Bool.false_and, Bool.and_true, Bool.and_false, Bool.true_or, Bool.false_or, Bool.or_true, Bool.or_false, Bool.not_eq_true', decide_eq_false_iff_not, Try.ntmps92, Try.results92]
  refine go_loop (fun j s => ∃ i, i + j = 8 ∧ s = ⟨[(0, .u8 a), (1, .u8 b), (5, .i64 (rmA a b i)), (8, .i64 i)], []⟩) ?_ ?_
  · exact start_mk 8 ⟨[(0, .u8 a), (1, .u8 b), (5, .i64 0), (8, .i64 0)], []⟩ (by simp [St.get, lookS]) rfl (fun _ _ h => h) ⟨0, by omega, rfl⟩
  · rintro j s ⟨i, hi, rfl⟩ _
    simp only [go_sem, ↓reduceIte, Nat.reduceEqDiff, Nat.reduceLT, Nat.reduceLeDiff, Nat.reduceAdd, Nat.reduceSub, Nat.reduceMul, Nat.reduceMod, Nat.reduceDiv, Int.reduceLE, Int.reduceLT, Int.reduceToNat, Int.reduceAdd, Int.reduceSub, Int.reduceMul, Int.reduceEq, Int.reduceNeg, BitVec.reduceOfInt, BitVec.reduceToNat, BitVec.reduceEq, BitVec.reduceNe, BitVec.reduceLT, reduceCtorEq, and_true, true_and, and_self, Nat.succ_ne_self, decide_true, decide_false, Bool.false_eq_true, Nat.one_ne_zero, Nat.zero_ne_one, Nat.not_lt_zero, Nat.zero_lt_succ, ge_iff_le, gt_iff_lt, decide_eq_true_eq, Option.some.injEq, List.getElem?_cons_zero, List.getElem?_cons_succ, List.length_cons, List.length_nil, Int.natCast_zero, List.map_cons, List.map_nil, List.append_nil, List.nil_append, List.cons_append, vconv, Option.map_some, Option.map_none, List.getD_cons_zero, List.getD_cons_succ, List.not_mem_nil, false_implies, implies_true, List.getElem?_toArray, Option.bind_some, List.set_cons_zero, List.set_cons_succ, List.take_succ_cons, List.take_zero, List.drop_succ_cons, List.drop_zero, List.drop_nil, List.take_nil, List.forall_mem_cons, List.forall_mem_nil, V.u8.injEq, exists_eq', Nat.zero_mul, Nat.one_mul, Nat.zero_add, Nat.mul_one, Nat.add_zero, Int.toNat_natCast, Int.cast_ofNat_Int, ne_eq, not_true_eq_false, not_false_eq_true, List.length_set, List.length_append, List.length_take, List.length_drop, List.length_replicate, Option.isSome_none, Option.isSome_some, w64_of, Bool.not_true, Bool.not_false, Bool.true_and, Bool.false_and, Bool.and_true, Bool.and_false, Bool.true_or, Bool.false_or, Bool.or_true, Bool.or_false, Bool.not_eq_true', decide_eq_false_iff_not]
    split
    · rename_i h0
      refine ⟨by omega, by omega, by kernel_rfl, ?_⟩
      refine again_mk (j - 1) ⟨[(0, .u8 a), (1, .u8 b), (5, .i64 (rmA a b (i + 1))), (8, .i64 (i + 1 : Nat))], []⟩ (by omega) ?_ rfl (fun _ _ h => h) ⟨i + 1, by omega, rfl⟩
      have : w64 ((i : Int) + 1) = ((i + 1 : Nat) : Int) := by rw [w64_of (by omega) (by omega)]; omega
      simp [St.get, lookS, rmA, this]
    · obtain rfl : i = 8 := by omega
      refine go_loop (fun j s => ∃ i, i + j = 7 ∧ s = ⟨[(0, .u8 a), (1, .u8 b), (5, .i64 (rmR (rmA a b 8) i)), (7, .i64 (14 - i))], []⟩) ?_ ?_
      · exact start_mk 7 ⟨[(0, .u8 a), (1, .u8 b), (5, .i64 (rmA a b 8)), (7, .i64 14)], []⟩ (by simp [St.get, lookS]) rfl (fun _ _ h => h) ⟨0, by omega, rfl⟩
      · rintro j s ⟨i, hi, rfl⟩ _
        simp only [go_sem, ↓reduceIte, Nat.reduceEqDiff, Nat.reduceLT, Nat.reduceLeDiff, Nat.reduceAdd, Nat.reduceSub, Nat.reduceMul, Nat.reduceMod, Nat.reduceDiv, Int.reduceLE, Int.reduceLT, Int.reduceToNat, Int.reduceAdd, Int.reduceSub, Int.reduceMul, Int.reduceEq, Int.reduceNeg, BitVec.reduceOfInt, BitVec.reduceToNat, BitVec.reduceEq, BitVec.reduceNe, BitVec.reduceLT, reduceCtorEq, and_true, true_and, and_self, Nat.succ_ne_self, decide_true, decide_false, Bool.false_eq_true, Nat.one_ne_zero, Nat.zero_ne_one, Nat.not_lt_zero, Nat.zero_lt_succ, ge_iff_le, gt_iff_lt, decide_eq_true_eq, Option.some.injEq, List.getElem?_cons_zero, List.getElem?_cons_succ, List.length_cons, List.length_nil, Int.natCast_zero, List.map_cons, List.map_nil, List.append_nil, List.nil_append, List.cons_append, vconv, Option.map_some, Option.map_none, List.getD_cons_zero, List.getD_cons_succ, List.not_mem_nil, false_implies, implies_true, List.getElem?_toArray, Option.bind_some, List.set_cons_zero, List.set_cons_succ, List.take_succ_cons, List.take_zero, List.drop_succ_cons, List.drop_zero, List.drop_nil, List.take_nil, List.forall_mem_cons, List.forall_mem_nil, V.u8.injEq, exists_eq', Nat.zero_mul, Nat.one_mul, Nat.zero_add, Nat.mul_one, Nat.add_zero, Int.toNat_natCast, Int.cast_ofNat_Int, ne_eq, not_true_eq_false, not_false_eq_true, List.length_set, List.length_append, List.length_take, List.length_drop, List.length_replicate, Option.isSome_none, Option.isSome_some, w64_of, Bool.not_true, Bool.not_false, Bool.true_and, Bool.false_and, Bool.and_true, Bool.and_false, Bool.true_or, Bool.false_or, Bool.or_true, Bool.or_false, Bool.not_eq_true', decide_eq_false_iff_not]
        split
        · rename_i h1
          have e1 : w64 (14 - (i : Int) - 8) = 6 - i := by rw [w64_of (by omega) (by omega)]; omega
          have e2 : w64 (14 - (i : Int) - 1) = 14 - (i + 1 : Nat) := by rw [w64_of (by omega) (by omega)]; omega
          simp only [e1, e2]
          refine ⟨by omega, by omega, by kernel_rfl, ?_⟩
          refine again_mk (j - 1) ⟨[(0, .u8 a), (1, .u8 b), (5, .i64 (rmR (rmA a b 8) (i + 1))), (7, .i64 (14 - (i + 1 : Nat)))], []⟩ (by omega) ?_ rfl (fun _ _ h => h) ⟨i + 1, by omega, rfl⟩
          have e3 : (6 - (i : Int)).toNat = 6 - i := by omega
          have e4 : (14 - (i : Int)).toNat = 14 - i := by omega
          simp [St.get, lookS, rmR, e3, e4]
        · obtain rfl : i = 7 := by omega
          rfl
def nx (a : Nat) : Nat := (a * 2 % 256) ^^^ (a / 128 * 27)
def ngm : Nat → Nat → Nat → Nat → Nat := fun k => Nat.rec (fun _ _ n => n) (fun _ ih a b n => ih (nx a) (b / 2) (n ^^^ a * (b % 2))) k
def nrA (a b : Nat) : Nat → Nat := fun i => Nat.rec 0 (fun i ih => ih ^^^ ((a <<< i) * ((b >>> i) % 2))) i
def nrR (c : Nat) : Nat → Nat := fun i => Nat.rec c (fun i ih => ih ^^^ ((283 <<< (6 - i)) * ((ih >>> (14 - i)) % 2))) i
theorem chk : nall (fun a => nall (fun b => Nat.beq (ngm 8 a b 0) (nrR (nrA a b 8) 7 % 256)) 256) 256 = true := by decide +kernel
theorem nrA_lt (a b : Nat) (ha : a < 256) : ∀ i, i ≤ 8 → nrA a b i < 32768
  | 0, _ => by show 0 < _; omega
  | i + 1, h => by
    have := nrA_lt a b ha i (by omega)
    refine Nat.xor_lt_two_pow (n := 15) this ?_
    have h2 : (b >>> i) % 2 ≤ 1 := by omega
    have h3 : a <<< i < 32768 := by
      rw [Nat.shiftLeft_eq]
      have : 2 ^ i ≤ 2 ^ 7 := Nat.pow_le_pow_right (by omega) (by omega)
      have : a * 2 ^ i ≤ 255 * 2 ^ 7 := Nat.mul_le_mul (by omega) this
      omega
    have : (a <<< i) * ((b >>> i) % 2) ≤ (a <<< i) * 1 := Nat.mul_le_mul_left _ h2
    show _ < 32768
    omega
theorem rmA_eq (a b : BitVec 8) : ∀ i, i ≤ 8 → rmA a b i = (nrA a.toNat b.toNat i : Nat)
  | 0, _ => rfl
  | i + 1, h => by
    have hl := nrA_lt a.toNat b.toNat a.isLt i (by omega)
    have hl2 := nrA_lt a.toNat b.toNat a.isLt (i + 1) h
    have h3 : a.toNat <<< i < 32768 := by
      rw [Nat.shiftLeft_eq]
      have : 2 ^ i ≤ 2 ^ 7 := Nat.pow_le_pow_right (by omega) (by omega)
      have : a.toNat * 2 ^ i ≤ 255 * 2 ^ 7 := Nat.mul_le_mul (by omega) this
      omega
    have h4 : (a.toNat <<< i) * ((b.toNat >>> i) % 2) ≤ (a.toNat <<< i) * 1 := Nat.mul_le_mul_left _ (by omega)
    rw [rmA, rmA_eq a b i (by omega), shl64_nat (by omega) (by omega), shr64_nat (by omega), show (2 : Int) = ((2 : Nat) : Int) from rfl, tmod_nat, mul64_nat (by omega), xor64_nat (by omega) (by omega)]
    rfl
theorem nrR_lt (c : Nat) (hc : c < 32768) : ∀ i, i ≤ 7 → nrR c i < 32768
  | 0, _ => hc
  | i + 1, h => by
    have := nrR_lt c hc i (by omega)
    refine Nat.xor_lt_two_pow (n := 15) this ?_
    have h3 : 283 <<< (6 - i) < 32768 := by
      rw [Nat.shiftLeft_eq]
      have : 2 ^ (6 - i) ≤ 2 ^ 6 := Nat.pow_le_pow_right (by omega) (by omega)
      omega
    have : (283 <<< (6 - i)) * ((nrR c i >>> (14 - i)) % 2) ≤ (283 <<< (6 - i)) * 1 := Nat.mul_le_mul_left _ (by omega)
    show _ < 32768
    have e : (Nat.rec c (fun i ih => ih ^^^ ((283 <<< (6 - i)) * ((ih >>> (14 - i)) % 2))) i : Nat) = nrR c i := rfl
    rw [e]
    omega
theorem rmR_eq (c : Nat) (hc : c < 32768) : ∀ i, i ≤ 7 → rmR c i = (nrR c i : Nat)
  | 0, _ => rfl
  | i + 1, h => by
    have hl := nrR_lt c hc i (by omega)
    have h3 : 283 <<< (6 - i) < 32768 := by
      rw [Nat.shiftLeft_eq]
      have : 2 ^ (6 - i) ≤ 2 ^ 6 := Nat.pow_le_pow_right (by omega) (by omega)
      omega
    have h4 : (283 <<< (6 - i)) * ((nrR c i >>> (14 - i)) % 2) ≤ (283 <<< (6 - i)) * 1 := Nat.mul_le_mul_left _ (by omega)
    rw [rmR, rmR_eq c hc i (by omega), show (283 : Int) = ((283 : Nat) : Int) from rfl, shl64_nat (by omega) (by omega), shr64_nat (by omega), show (2 : Int) = ((2 : Nat) : Int) from rfl, tmod_nat, mul64_nat (by omega), xor64_nat (by omega) (by omega)]
    rfl
theorem rmul_eq (a b : BitVec 8) : rmul a b = BitVec.ofNat 8 (nrR (nrA a.toNat b.toNat 8) 7) := by
  unfold rmul
  rw [rmA_eq a b 8 (by omega), rmR_eq _ (nrA_lt _ _ a.isLt 8 (by omega)) 7 (by omega), BitVec.ofInt_natCast]
theorem nx_eq (a : BitVec 8) : (a <<< 1 ^^^ a >>> 7 * 27).toNat = nx a.toNat := by
  have h : ∀ x : Nat, nall (fun x => Nat.beq (((BitVec.ofNat 8 x) <<< 1 ^^^ (BitVec.ofNat 8 x) >>> 7 * 27).toNat) (nx x)) 256 = true := fun _ => by decide +kernel
  have := nall_get (h 0) a.toNat a.isLt
  have e : BitVec.ofNat 8 a.toNat = a := by simp
  simp only [e] at this
  exact Nat.eq_of_beq_eq_true this
theorem gmulL_eq : ∀ (k : Nat) (a b n : BitVec 8), (gmulL k a b n).toNat = ngm k a.toNat b.toNat n.toNat
  | 0, _, _, _ => rfl
  | k + 1, a, b, n => by
    rw [gmulL]
    have hs : ngm (k + 1) a.toNat b.toNat n.toNat = ngm k (nx a.toNat) (b.toNat / 2) (n.toNat ^^^ a.toNat * (b.toNat % 2)) := rfl
    split
    · rw [gmulL_eq k, hs, nx_eq]
      congr 1
      · have : b &&& 1 = BitVec.ofNat 8 (b.toNat % 2) := by
          apply BitVec.eq_of_toNat_eq
          simp only [BitVec.toNat_and, BitVec.toNat_ofNat]
          rw [show BitVec.toNat (1 : BitVec 8) = 2 ^ 1 - 1 from rfl, Nat.and_two_pow_sub_one_eq_mod]; omega
        rw [this]
        have h2 : b.toNat % 2 = 0 ∨ b.toNat % 2 = 1 := by omega
        rcases h2 with h2 | h2 <;> simp [h2]
    · rename_i h
      have : b = 0#8 := by
        apply BitVec.eq_of_toNat_eq
        rw [BitVec.lt_def] at h; simp at h ⊢; omega
      subst this
      have z : ∀ k a n, ngm k a 0 n = n := by
        intro k
        induction k with
        | zero => intro _ _; rfl
        | succ k ih => intro a n; show ngm k (nx a) (0 / 2) (n ^^^ a * (0 % 2)) = n; simp [ih]
      exact (z _ _ _).symm
theorem gmul_rmul (a b : BitVec 8) : gmul a b = rmul a b := by
  apply BitVec.eq_of_toNat_eq
  rw [rmul_eq]
  have := Nat.eq_of_beq_eq_true (nall_get (nall_get chk a.toNat a.isLt) b.toNat b.isLt)
  show (gmulL 8 a b 0).toNat = _
  rw [gmulL_eq, BitVec.toNat_ofNat]
  exact this
end Go.Vm
