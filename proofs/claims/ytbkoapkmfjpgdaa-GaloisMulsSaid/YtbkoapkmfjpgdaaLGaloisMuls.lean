/- Proved: the law GaloisMuls answers true for every input (the statement Rows.GaloisMulsSaid); no condition is added. -/
import Derived.Test.YtbkoapkmfjpgdaaGal
import Derived.Test.YtbkoapkmfjpgdaaHead
import Derived.Test.YtbkoapkmfjpgdaaChecked
import Derived.Test.YtbkoapkmfjpgdaaRows
set_option linter.unusedVariables false
set_option linter.unusedSimpArgs false
set_option linter.unusedSectionVars false
namespace Go.Proofs.Ytbkoapkmfjpgdaa.galoisMuls
open Go.Vm Go.ChangeShapes Go.WideShapes Go.ChangeAt Go.RowKit
theorem walk (a b : BitVec 8) : PureFn Try.prog 3 [.u8 a, .u8 b] (.bool true) := by
  refine pure_of_vc (by kernel_rfl) (fn := Try.f3) (by kernel_rfl) Try.func3 rfl (by show 2 ≤ 12; decide) (by simp [lows, V.low]) (by simp [V.low]) (go_start ?_)
  simp only [go_sem, ↓reduceIte, Nat.reduceEqDiff, Nat.reduceLT, Nat.reduceLeDiff, Nat.reduceAdd, Nat.reduceSub, Nat.reduceMul, Nat.reduceMod, Nat.reduceDiv, Int.reduceLE, Int.reduceLT, Int.reduceToNat, Int.reduceAdd, Int.reduceSub, Int.reduceMul, Int.reduceEq, Int.reduceNeg, BitVec.reduceOfInt, BitVec.reduceToNat, reduceCtorEq, and_true, true_and, and_self, Nat.succ_ne_self, decide_true, decide_false, Bool.false_eq_true, Nat.one_ne_zero, Nat.zero_ne_one, Nat.not_lt_zero, Nat.zero_lt_succ, ge_iff_le, gt_iff_lt, decide_eq_true_eq, Option.some.injEq, List.getElem?_cons_zero, List.getElem?_cons_succ, List.length_cons, List.length_nil, Int.natCast_zero, List.map_cons, List.map_nil, List.append_nil, List.nil_append, List.cons_append, vconv, Option.map_some, List.getD_cons_zero, List.getD_cons_succ, List.not_mem_nil, false_implies, implies_true, Try.ntmps3]
  refine goCall_pure0 (Mul_spec a b) ?_
  simp only [go_sem, ↓reduceIte, Nat.reduceEqDiff, Nat.reduceLT, Nat.reduceLeDiff, Nat.reduceAdd, Nat.reduceSub, Nat.reduceMul, Nat.reduceMod, Nat.reduceDiv, Int.reduceLE, Int.reduceLT, Int.reduceToNat, Int.reduceAdd, Int.reduceSub, Int.reduceMul, Int.reduceEq, Int.reduceNeg, BitVec.reduceOfInt, BitVec.reduceToNat, reduceCtorEq, and_true, true_and, and_self, Nat.succ_ne_self, decide_true, decide_false, Bool.false_eq_true, Nat.one_ne_zero, Nat.zero_ne_one, Nat.not_lt_zero, Nat.zero_lt_succ, ge_iff_le, gt_iff_lt, decide_eq_true_eq, Option.some.injEq, List.getElem?_cons_zero, List.getElem?_cons_succ, List.length_cons, List.length_nil, Int.natCast_zero, List.map_cons, List.map_nil, List.append_nil, List.nil_append, List.cons_append, vconv, Option.map_some, List.getD_cons_zero, List.getD_cons_succ, List.not_mem_nil, false_implies, implies_true]
  refine goCall_pure0 (RMul_spec a b) ?_
  simp only [go_sem, ↓reduceIte, Nat.reduceEqDiff, Nat.reduceLT, Nat.reduceLeDiff, Nat.reduceAdd, Nat.reduceSub, Nat.reduceMul, Nat.reduceMod, Nat.reduceDiv, Int.reduceLE, Int.reduceLT, Int.reduceToNat, Int.reduceAdd, Int.reduceSub, Int.reduceMul, Int.reduceEq, Int.reduceNeg, BitVec.reduceOfInt, BitVec.reduceToNat, reduceCtorEq, and_true, true_and, and_self, Nat.succ_ne_self, decide_true, decide_false, Bool.false_eq_true, Nat.one_ne_zero, Nat.zero_ne_one, Nat.not_lt_zero, Nat.zero_lt_succ, ge_iff_le, gt_iff_lt, decide_eq_true_eq, Option.some.injEq, List.getElem?_cons_zero, List.getElem?_cons_succ, List.length_cons, List.length_nil, Int.natCast_zero, List.map_cons, List.map_nil, List.append_nil, List.nil_append, List.cons_append, vconv, Option.map_some, List.getD_cons_zero, List.getD_cons_succ, List.not_mem_nil, false_implies, implies_true, Try.results3, gmul_rmul, decide_true]
theorem facts : joinedFacts Try.prog 3 Try.f3 Rows.galoisMulsSpec Rows.galoisMulsRow = true :=
  facts_of (by kernel_rfl) head.laidOut head.rowed (by kernel_rfl) (by kernel_rfl) (by kernel_rfl) head.stops (by kernel_rfl) head.knobs (by kernel_rfl) (by kernel_rfl) (by kernel_rfl) (by kernel_rfl)
    (by kernel_rfl) (by rw [head.plain]; rfl) (by kernel_rfl) head.heard head.mayEnter (by rw [head.lifts]; rfl) (by rw [head.make]; rfl) (by kernel_rfl) (by kernel_rfl) (by kernel_rfl) (by kernel_rfl)
set_option maxRecDepth 100000 in
theorem lifted (os : Os) (started : os.Started) (H : Type) (enc : TypeId × Value → H) :
    ReturnsInHanded {} Try.checked os 3 .any (Rows.galoisMulsSpec.pre6 enc Try.prog Try.f3 Rows.galoisMulsRow.domain false) (Rows.galoisMulsSpec.post enc Try.prog Try.f3 false true false false) := by
  refine returnsInHanded_of_change_sized (C := Try.checked) head.own started (by kernel_rfl) Try.func3
    (ChangeSpec.witness6 (enc := enc) (C := Try.checked) false ⟨#[], #[.int .u8 0, .int .u8 0], []⟩ 8 (by kernel_rfl) (by kernel_rfl) (by kernel_rfl) (by kernel_rfl)) ?_
  intro W base args ds gs before hval hW _ hsz _
  refine law_post (ks := [.u8, .u8]) (tb := 4) ⟨Try.underlying5, Try.underlying5, trivial⟩ (by kernel_rfl) Try.underlying4 rfl ?_ hval hW hsz walk
  intro ds h
  match ds, h with
  | [a, b], _ => exact ⟨rfl, rfl, rfl⟩
theorem over : Rows.galoisMulsRow.holds Try.pinned (OpenSpec.ofChange Rows.galoisMulsSpec) :=
  OpenClaim.holds_of_wide 3 Try.f3 rfl rfl rfl rfl rfl rfl rfl ⟨rfl, rfl, rfl, rfl, rfl⟩ rfl rfl rfl rfl rfl (by kernel_rfl) Try.func3 facts
    (of_decide_eq_true (by kernel_rfl)) (by unfold Func.isWrapper; first | (rw [if_pos (by decide +kernel)]; kernel_rfl) | (rw [if_neg (by decide +kernel)]; exact ⟨rfl, rfl⟩))
    (fun os started H enc _ => lifted os started H enc)
theorem proved : Rows.GaloisMulsSaid := over
end Go.Proofs.Ytbkoapkmfjpgdaa.galoisMuls
