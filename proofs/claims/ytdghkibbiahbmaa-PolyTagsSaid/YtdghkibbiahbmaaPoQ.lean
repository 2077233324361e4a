/- A part of the proof: laws of a small machine of values, or what one function answers, proved against the model; no conditions beyond those in each theorem. -/
import Derived.Test.YtdghkibbiahbmaaPoP
import Derived.Test.YtdghkibbiahbmaaShelfMul
set_option linter.unusedVariables false
set_option linter.unusedSimpArgs false
set_option linter.unusedSectionVars false
namespace Go.Vm
open Go.Proofs
set_option maxRecDepth 20000
def hiW (x y : BitVec 64) : BitVec 64 := BitVec.ofNat 64 (x.toNat * y.toNat / 18446744073709551616)
theorem Mul64_spec (x y : BitVec 64) : PureFn Try.prog 77 [.u64 x, .u64 y] (.tup [.u64 (hiW x y), .u64 (x * y)]) := by
  refine pure_of_below (by kernel_rfl) (by simp [lows, V.low]) (by simp [lows, V.low]) fun w rargs hr => ?_
  unfold VRs at hr
  obtain ⟨r1, rs, e1, h1, hr⟩ := hr
  unfold VRs at hr
  obtain ⟨r2, rs2, e2, h2, hr⟩ := hr
  unfold VRs at hr
  unfold VR at h1 h2
  subst h1 h2 hr e2
  have ha : rargs = #[.int .u64 x.toNat, .int .u64 y.toNat] := by cases rargs; simp_all
  subst ha
  have hx := x.isLt
  have hy := y.isLt
  refine (shelf_bits_Mul64 x.toNat y.toNat (by omega) (by omega) w).mono ?_
  rintro e w' ⟨rfl, rfl⟩
  refine ⟨_, rfl, ?_, ⟨rfl, rfl, rfl, Nat.le_refl _, fun _ _ => rfl⟩⟩
  have hlt : x.toNat * y.toNat < 18446744073709551616 * 18446744073709551616 := Nat.mul_lt_mul'' (by omega) (by omega)
  have k1 : (hiW x y).toNat = x.toNat * y.toNat / 18446744073709551616 := by
    unfold hiW
    rw [BitVec.toNat_ofNat]
    exact Nat.mod_eq_of_lt (Nat.div_lt_of_lt_mul (by omega))
  have k2 : (x * y).toNat = x.toNat * y.toNat % 18446744073709551616 := by rw [BitVec.toNat_mul]
  unfold VR
  refine ⟨_, rfl, ?_⟩
  unfold VRs
  refine ⟨_, _, rfl, by unfold VR; rw [k1], ?_⟩
  unfold VRs
  refine ⟨_, _, rfl, by unfold VR; rw [k2], ?_⟩
  unfold VRs; rfl
end Go.Vm
