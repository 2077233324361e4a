/- A part of the proof: laws of a small machine of values, or what one function answers, proved against the model; no conditions beyond those in each theorem. -/
import Derived.Test.YtdghkibbiahbmaaVmZ
set_option linter.unusedVariables false
set_option linter.unusedSimpArgs false
set_option linter.unusedSectionVars false
namespace Go.Vm
/-! Natural numbers among the signed ones. -/
theorem w64_nat {x : Nat} (h : x < 9223372036854775808) : w64 (x : Int) = x := w64_of (by omega) (by omega)
theorem xor64_nat {x y : Nat} (hx : x < 9223372036854775808) (hy : y < 9223372036854775808) : xor64 x y = ((x ^^^ y : Nat) : Int) := by
  unfold xor64
  have h1 : (BitVec.ofInt 64 (x : Int) ^^^ BitVec.ofInt 64 (y : Int)).toNat = x ^^^ y := by
    simp only [BitVec.toNat_xor, BitVec.ofInt_natCast, BitVec.toNat_ofNat]
    rw [Nat.mod_eq_of_lt (by omega), Nat.mod_eq_of_lt (by omega)]
  rw [h1]
  exact w64_nat (Nat.xor_lt_two_pow (n := 63) hx hy)
theorem and64_nat {x y : Nat} (hx : x < 9223372036854775808) (hy : y < 9223372036854775808) : and64 x y = ((x &&& y : Nat) : Int) := by
  unfold and64
  have h1 : (BitVec.ofInt 64 (x : Int) &&& BitVec.ofInt 64 (y : Int)).toNat = x &&& y := by
    simp only [BitVec.toNat_and, BitVec.ofInt_natCast, BitVec.toNat_ofNat]
    rw [Nat.mod_eq_of_lt (by omega), Nat.mod_eq_of_lt (by omega)]
  rw [h1]
  exact w64_nat (Nat.and_lt_two_pow (n := 63) x hy)
theorem or64_nat {x y : Nat} (hx : x < 9223372036854775808) (hy : y < 9223372036854775808) : or64 x y = ((x ||| y : Nat) : Int) := by
  unfold or64
  have h1 : (BitVec.ofInt 64 (x : Int) ||| BitVec.ofInt 64 (y : Int)).toNat = x ||| y := by
    simp only [BitVec.toNat_or, BitVec.ofInt_natCast, BitVec.toNat_ofNat]
    rw [Nat.mod_eq_of_lt (by omega), Nat.mod_eq_of_lt (by omega)]
  rw [h1]
  exact w64_nat (Nat.or_lt_two_pow (n := 63) hx hy)
theorem shl64_nat {x n : Nat} (hn : n ≤ 64) (h : x <<< n < 9223372036854775808) : shl64 x n = ((x <<< n : Nat) : Int) := by
  unfold shl64
  rw [Nat.min_eq_left hn]
  have : ((x : Int) * 2 ^ n) = ((x <<< n : Nat) : Int) := by rw [Nat.shiftLeft_eq]; simp
  rw [this]; exact w64_nat h
theorem shr64_nat {x n : Nat} (hn : n ≤ 64) : shr64 x n = ((x >>> n : Nat) : Int) := by
  unfold shr64
  rw [Nat.min_eq_left hn, Nat.shiftRight_eq_div_pow]
  have : (2 ^ n : Int) = ((2 ^ n : Nat) : Int) := by simp
  rw [this, Int.fdiv_eq_ediv_of_nonneg _ (Int.natCast_nonneg _)]
  exact (Int.natCast_ediv x (2 ^ n)).symm
theorem tmod_nat (x y : Nat) : (x : Int).tmod (y : Int) = ((x % y : Nat) : Int) := rfl
theorem tdiv_nat (x y : Nat) : (x : Int).tdiv (y : Int) = ((x / y : Nat) : Int) := rfl
theorem mul64_nat {x y : Nat} (h : x * y < 9223372036854775808) : w64 ((x : Int) * (y : Int)) = ((x * y : Nat) : Int) := by rw [← Int.natCast_mul]; exact w64_nat h
theorem add64_nat {x y : Nat} (h : x + y < 9223372036854775808) : w64 ((x : Int) + (y : Int)) = ((x + y : Nat) : Int) := by rw [← Int.natCast_add]; exact w64_nat h
/-- All numbers below k. -/
def nall (p : Nat → Bool) : Nat → Bool := fun k => Nat.rec true (fun i ih => and (p i) ih) k
theorem nall_get {p : Nat → Bool} : ∀ {k : Nat}, nall p k = true → ∀ i, i < k → p i = true
  | k + 1, h, i, hi => by
    have h' : (p k && nall p k) = true := h
    rw [Bool.and_eq_true] at h'
    by_cases e : i = k
    · subst e; exact h'.1
    · exact nall_get h'.2 i (by omega)
end Go.Vm
