/- Loops of few rounds, run out one by one; results that lie in blocks. -/
import Derived.Test.YtdghkibbiahbmaaVmQ
import Derived.Test.YtdghkibbiahbmaaVmP2
set_option linter.unusedVariables false
set_option linter.unusedSimpArgs false
set_option linter.unusedSectionVars false
namespace Go.Vm
section
variable {P : Program} {m n : Nat} {R : Exit → St → Prop} {k : List Fr} {s : St} {c : Code}
/-- At most so many rounds. -/
def unr (P : Program) (m n : Nat) (R : Exit → St → Prop) (c : Code) (k : List Fr) : Nat → St → Prop
  | 0, _ => False
  | K + 1, s => go P m n (seqQ (unr P m n R c k K) (kQ P m n R k)) c [] s
theorem unr_step (K : Nat) (h : (0 < K) = True) : unr P m n R c k K s = go P m n (seqQ (unr P m n R c k (K - 1)) (kQ P m n R k)) c [] s := by
  cases K with
  | zero => simp at h
  | succ K => rfl
theorem go_unroll (K : Nat) (h : unr P m n R c k K s) : go P m n R (.loop c) k s := by
  refine go_loop (fun j s => unr P m n R c k j s) ⟨K, s, Weak.refl _ _ _, h⟩ (fun j s hj _ => ?_)
  cases j with
  | zero => exact hj.elim
  | succ j =>
    refine vc_mono c _ _ s (fun e s' he => ?_) hj
    cases e
    case normal => exact ⟨j, s', Nat.lt_succ_self j, Weak.refl _ _ _, he⟩
    all_goals exact he
theorem vres_cell (P : Program) (s : St) (x t : Nat) (r : List ResultVar) (K : List V → Prop) : vresults P s (.cell x t :: r) K = vthen (vop P (.load t (.tmp x)) s.ev (getH s.H) s.H.length) (fun res => vresults P s r fun l => K (res.v :: l)) := rfl
attribute [go_sem] unr_step vres_cell vthen_some
end
end Go.Vm
