/- A part of the proof: laws of a small machine of values, or what one function answers, proved against the model; no conditions beyond those in each theorem. -/
import Derived.Laws.Externs
import Derived.Test.YtdpeejgmfioglaaGreatTypesToChaR
import Derived.Test.YtdpeejgmfioglaaGreatVmTToVmW
set_option linter.unusedVariables false
set_option linter.unusedSimpArgs false
set_option linter.unusedSectionVars false
section
namespace Go.Vm
open Go.Proofs
set_option maxRecDepth 20000
/-- The machine's own Add64. -/
theorem Add64_nat (x y c : BitVec 64) (hc : c.toNat ≤ 1) : NatFn Tryz.prog 123 [.u64 x, .u64 y, .u64 c] (.tup [.u64 (x + y + c), .u64 (BitVec.ofNat 64 ((x.toNat + y.toNat + c.toNat) / 18446744073709551616))]) := by
  intro ρ dom w rargs hr
  unfold VRs at hr
  obtain ⟨r1, rs1, e1, h1, hr⟩ := hr
  unfold VRs at hr
  obtain ⟨r2, rs2, e2, h2, hr⟩ := hr
  unfold VRs at hr
  obtain ⟨r3, rs3, e3, h3, hr⟩ := hr
  unfold VRs at hr
  unfold VR at h1 h2 h3
  subst h1 h2 h3 hr e3 e2
  have ha : rargs = #[.int .u64 x.toNat, .int .u64 y.toNat, .int .u64 c.toNat] := by cases rargs; simp_all
  subst ha
  have hx := x.isLt
  have hy := y.isLt
  refine ⟨.tuple #[.int .u64 (((x + y + c).toNat : Nat) : Int), .int .u64 ((BitVec.ofNat 64 ((x.toNat + y.toNat + c.toNat) / 18446744073709551616)).toNat : Int)], ?_, ?_⟩
  · rw [run_callFunc_extern (e := add64Entry) (by kernel_rfl) (fn := Tryz.f123) (by kernel_rfl) (by kernel_rfl) (by kernel_rfl) (by kernel_rfl), run_add64 _ _ _ (by omega) (by omega) (by omega) (by omega)]
    simp only [Result.andThen]
    have k1 : ((x.toNat : Int) + (y.toNat : Int) + (c.toNat : Int)) % 18446744073709551616 = (((x + y + c).toNat : Nat) : Int) := by
      rw [BitVec.toNat_add, BitVec.toNat_add]; omega
    have k2 : ((x.toNat : Int) + (y.toNat : Int) + (c.toNat : Int)) / 18446744073709551616 = (((BitVec.ofNat 64 ((x.toNat + y.toNat + c.toNat) / 18446744073709551616)).toNat : Nat) : Int) := by
      rw [BitVec.toNat_ofNat]; omega
    rw [k1, k2]
  · unfold VR
    refine ⟨_, rfl, ?_⟩
    unfold VRs
    refine ⟨_, _, rfl, by unfold VR; rfl, ?_⟩
    unfold VRs
    refine ⟨_, _, rfl, by unfold VR; rfl, ?_⟩
    unfold VRs; rfl
end Go.Vm
end
section
namespace Go.Vm
open Go.Proofs
set_option maxRecDepth 20000
/-- What is carried. -/
def cry (x y c : BitVec 64) : BitVec 64 := BitVec.ofNat 64 ((x.toNat + y.toNat + c.toNat) / 18446744073709551616)
theorem cry_le (x y c : BitVec 64) (h : c.toNat ≤ 1) : (cry x y c).toNat ≤ 1 := by
  have := x.isLt
  have := y.isLt
  unfold cry
  rw [BitVec.toNat_ofNat]; omega
theorem Add64_spec (x y c : BitVec 64) (hc : c.toNat ≤ 1) : NatFn Tryz.prog 123 [.u64 x, .u64 y, .u64 c] (.tup [.u64 (x + y + c), .u64 (cry x y c)]) := Add64_nat x y c hc
theorem numPlus_spec (a0 a1 a2 b0 b1 b2 : BitVec 64) : PureFn Tryz.prog 118 [.agg [.u64 a0, .u64 a1, .u64 a2], .agg [.u64 b0, .u64 b1, .u64 b2]]
    (.agg [.u64 (a0 + b0 + 0#64), .u64 (a1 + b1 + cry a0 b0 0#64), .u64 (a2 + b2 + cry a1 b1 (cry a0 b0 0#64))]) := by
  have c1 := cry_le a0 b0 0#64 (by decide)
  have c2 := cry_le a1 b1 (cry a0 b0 0#64) c1
  refine pure_of_vc (by kernel_rfl) (fn := Tryz.f118) (by kernel_rfl) Tryz.func118 rfl (by show 2 ≤ 25; decide) (by simp [lows, V.low]) (by simp [lows, V.low]) (go_start ?_)
  simp only [go_sem, ↓reduceIte, Nat.reduceLT, Nat.reduceAdd, Int.reduceLT, BitVec.reduceOfInt, Tryz.ntmps118]
  refine go_unroll 4 ?_
  simp only [go_sem, ↓reduceIte, Nat.reduceEqDiff, Nat.reduceLT, Nat.reduceAdd, Nat.reduceSub, Int.reduceLT, Int.reduceToNat]
  refine goCallD_nat (Add64_spec a0 b0 0#64 (by decide)) ?_
  simp only [go_sem, ↓reduceIte, Nat.reduceEqDiff, Nat.reduceLT, Nat.reduceLeDiff, Nat.reduceAdd, Nat.reduceSub, Int.reduceLE, Int.reduceLT, Int.reduceToNat, Int.reduceAdd, Int.reduceNeg]
  refine ⟨by kernel_rfl, ?_⟩
  refine goCallD_nat (Add64_spec a1 b1 (cry a0 b0 0#64) c1) ?_
  simp only [go_sem, ↓reduceIte, Nat.reduceEqDiff, Nat.reduceLT, Nat.reduceLeDiff, Nat.reduceAdd, Nat.reduceSub, Int.reduceLE, Int.reduceLT, Int.reduceToNat, Int.reduceAdd, Int.reduceNeg]
  refine ⟨by kernel_rfl, ?_⟩
  refine goCallD_nat (Add64_spec a2 b2 (cry a1 b1 (cry a0 b0 0#64)) c2) ?_
  simp only [go_sem, ↓reduceIte, Nat.reduceEqDiff, Nat.reduceLT, Nat.reduceAdd, Nat.reduceSub, Int.reduceLE, Int.reduceLT, Int.reduceToNat, Int.reduceAdd, Int.reduceNeg]
  kernel_rfl
theorem folded_spec (a0 a1 a2 : BitVec 64) : PureFn Tryz.prog 124 [.agg [.u64 a0, .u64 a1, .u64 a2]]
    (.agg [.u64 (a0 + 5#64 * (a2 >>> 2) + 0#64), .u64 (a1 + 0#64 + cry a0 (5#64 * (a2 >>> 2)) 0#64), .u64 ((a2 &&& 3#64) + 0#64 + cry a1 0#64 (cry a0 (5#64 * (a2 >>> 2)) 0#64))]) := by
  refine pure_of_vc (by kernel_rfl) (fn := Tryz.f124) (by kernel_rfl) Tryz.func124 rfl (by show 1 ≤ 16; decide) (by simp [lows, V.low]) (by simp [lows, V.low]) (go_start ?_)
  simp only [go_sem, ↓reduceIte, Nat.reduceEqDiff, Nat.reduceLT, Nat.reduceLeDiff, Nat.reduceAdd, Int.reduceLE, Int.reduceLT, Int.reduceToNat, BitVec.reduceOfInt, BitVec.reduceToNat, Tryz.ntmps124]
  refine goCall_pure0 (numPlus_spec a0 a1 (a2 &&& 3#64) (5#64 * (a2 >>> 2)) 0#64 0#64) ?_
  simp only [go_sem, ↓reduceIte, Nat.reduceEqDiff, Nat.reduceAdd]
end Go.Vm
end
