/- A part of the proof: laws of a small machine of values, or what one function answers, proved against the model; no conditions beyond those in each theorem. -/
import Derived.Test.YtdghkibbiahbmaaPoW
set_option linter.unusedVariables false
set_option linter.unusedSimpArgs false
set_option linter.unusedSectionVars false
namespace Go.Vm
open Go.Proofs
set_option maxRecDepth 20000
theorem valL_getD (l : List (BitVec 64)) (i : Nat) (y : BitVec 64) (h : i < l.length) : valL (l.set i y) + 8192 ^ i * (l.getD i 0).toNat = valL l + 8192 ^ i * y.toNat := by
  induction l generalizing i with
  | nil => simp at h
  | cons x l ih =>
    cases i with
    | zero => simp only [List.set_cons_zero, valL, List.getD_cons_zero, Nat.pow_zero, Nat.one_mul]; omega
    | succ i =>
      have := ih i (by simpa using h)
      simp only [List.set_cons_succ, valL, List.getD_cons_succ]
      rw [Nat.pow_succ, Nat.mul_comm (8192 ^ i) 8192, Nat.mul_assoc, Nat.mul_assoc]
      omega
end Go.Vm
