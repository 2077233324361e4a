/- A part of the proof: laws of a small machine of values, or what one function answers, proved against the model; no conditions beyond those in each theorem. -/
import Derived.ProofKit
set_option linter.unusedVariables false
set_option linter.unusedSimpArgs false
set_option linter.unusedSectionVars false
namespace Go.Vm
/-! What follows of a program's first word 'cut'. -/
theorem cut_strips : ∀ (l : List String), (l.all fun o => !("cut".toList == o.toList)) = true → ∀ r, stripLifts l ("cut".toList :: r) = ([], "cut".toList :: r)
  | [], _, r => rfl
  | o :: os, h, r => by
    rw [List.all_cons, Bool.and_eq_true] at h
    have h1 : ("cut".toList == o.toList) = false := by simpa using h.1
    rw [stripLifts, h1, if_neg (by simp)]
    exact cut_strips os h.2 r
theorem cut_lifts (r : List (List Char)) : stripLifts liftWords ("cut".toList :: r) = ([], "cut".toList :: r) := cut_strips _ (by decide +kernel) r
section
variable {P : Program} {r : List (List Char)}

theorem headLifts_of_cut (h : behindMainWord (wordsSigns P.initOrder.toList) = "cut".toList :: r) : P.headLifts = [] := by
  unfold Program.headLifts; rw [h, cut_lifts]; simp only [ite_self]
theorem make_of_cut (h : behindMainWord (wordsSigns P.initOrder.toList) = "cut".toList :: r) : P.make = some .cut := by
  unfold Program.make; rw [h]
  have e1 : ("cut".toList == "gc".toList) = false := by decide +kernel
  have e2 : ("cut".toList == "spec".toList) = false := by decide +kernel
  simp only [e1, e2, beq_self_eq_true, Bool.or_self, Bool.true_or, ↓reduceIte, Bool.false_eq_true]
theorem lifts_of_cut (h : behindMainWord (wordsSigns P.initOrder.toList) = "cut".toList :: r) : P.liftsFinal = false := by
  unfold Program.liftsFinal; rw [h, headLifts_of_cut h]
  have e1 : ("cut".toList == "carried".toList) = false := by decide +kernel
  simp only [List.head?_cons, Option.some_beq_some, e1, Bool.false_and, List.contains_nil, Bool.or_self]
theorem enter_of_cut (h : behindMainWord (wordsSigns P.initOrder.toList) = "cut".toList :: r) (h1 : P.laysLater = false) (h2 : P.bearsReflect = false) (h3 : P.doorFits [] = true) : P.mayEnter = true := by
  unfold Program.mayEnter; rw [h]
  simp only [cut_lifts, h1, h2, h3, List.head?_cons, beq_self_eq_true, Bool.not_false, Bool.or_true, Bool.and_self, Bool.and_true, List.contains_nil]
end
/-- THE CLOSED FACTS, part by part. -/
theorem facts_of {P : Program} {f : FuncId} {fn : Func} {s : ChangeSpec} {c : OpenClaim}
    (a1 : c.wf (OpenSpec.ofChange s) = true) (a2 : laidOutB P = true) (a3 : mapsRowed P = true) (a4 : fn.params.all (P.readableRec ·) = true) (a5 : namedTie P c.named s.vars = true)
    (a6 : (c.stops == []) = true) (a7 : (P.stops == []) = true) (a8 : (c.knobs == []) = true) (a9 : (P.stopKnobs == []) = true)
    (b1 : (c.inPlace == P.inPlace f) = true) (b2 : (c.unfollowed == P.unfollowed f) = true) (b3 : (c.recurses == P.recurses f) = true) (b4 : (c.named == P.varsNamed f) = true)
    (rest : ((c.maps == (fn.params.toList ++ s.plain.varTypes P).any (P.mapsRec ·)) && (c.ifaces == (fn.params.toList ++ s.plain.varTypes P).any (P.ifacesRec ·)) && (c.mapsOut == P.mapsAmong fn.resultTypes.toList) &&
      (c.loops == (fn.params.toList ++ s.plain.varTypes P).any (P.loopsFrom ·)) && (c.wideKeys == (fn.params.toList ++ s.plain.varTypes P ++ fn.resultTypes.toList).any (P.wideKeysFrom ·)) &&
      s.vars.all (P.varReadable ·) && fn.resultTypes.all (fun t => P.readableRec t && decide (t < P.types.size)) && (c.ifacesOut == fn.resultTypes.toList.any (P.ifacesRec ·)) && (c.loopsOut == fn.resultTypes.toList.any (P.loopsFrom ·))) = true)
    (d1 : (c.plainKeys == P.plainKeys) = true) (d2 : c.shortTexts.isNone = true) (d3 : P.stopsHeard = true) (d4 : P.mayEnter = true) (d5 : (c.lifted == P.liftsFinal) = true) (d6 : (P.make == some c.make) = true)
    (e1 : (c.kinds == (if c.domain.isEmpty then [] else fn.params.toList.map fun t => match P.underlying t with | some (.int k) => some k | _ => none)) = true) (e2 : (c.pinned == c.pinnedBy) = true)
    (e3 : (c.veiled == (fn.params.toList ++ s.plain.varTypes P ++ fn.resultTypes.toList).any (P.veiledRec ·)) = true) (e4 : c.veiledFits P fn.params.toList (fn.params.toList ++ s.plain.varTypes P ++ fn.resultTypes.toList) = true) :
    joinedFacts P f fn s c = true := by
  simp only [Bool.and_eq_true] at rest
  obtain ⟨⟨⟨⟨⟨⟨⟨⟨r1, r2⟩, r3⟩, r4⟩, r5⟩, r6⟩, r7⟩, r8⟩, r9⟩ := rest
  unfold joinedFacts
  simp only [a1, a2, a3, a4, a5, a6, a7, a8, a9, b1, b2, b3, b4, r1, r2, r3, r4, r5, r6, r7, r8, r9, d1, d2, d3, d4, d5, d6, e2, e3, e4, Bool.and_self, Bool.true_and, Bool.and_true]
  exact e1
end Go.Vm
