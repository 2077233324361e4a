/- A part of the proof: laws of a small machine of values, or what one function answers, proved against the model; no conditions beyond those in each theorem. -/
import Derived.Test.YtamiehjmabphmaaPtIToPuH
set_option linter.unusedVariables false
set_option linter.unusedSimpArgs false
set_option linter.unusedSectionVars false
section
namespace Go.Vm
open Go.Proofs
def memH (sg : List Nat) (H h' : List (Option Blk)) : List (Option Blk) :=
  setOlds H (oldsOf (sgOf (sgNew sg H.length h')) sg h') ++ newsOf (sgOf (sgNew sg H.length h')) sg h'
section
variable {sg : List Nat} {H h' : List (Option Blk)}
theorem memH_length : (memH sg H h').length = H.length + (h'.length - sg.length) := by
  unfold memH
  rw [List.length_append, length_setOlds, newsOf_eq, List.length_map, List.length_drop]
theorem memH_keep {b : Nat} (hb : b < H.length) (hn : b ∉ sg) : getH (memH sg H h') b = getH H b := by
  unfold memH
  rw [getH_app (by rw [length_setOlds]; exact hb), get_setOlds _ _ _ hb, lookOld_out hn]
theorem sgNew_lt {i nid : Nat} (hi : i < sg.length) : sgOf (sgNew sg nid h') i = sgOf sg i := sgOf_app_lt hi
theorem sgNew_ge {i nid : Nat} (h1 : sg.length ≤ i) (h2 : i < h'.length) : sgOf (sgNew sg nid h') i = nid + (i - sg.length) := sgOf_app_ge h1 (by omega)
theorem memH_at (hnd : sg.Nodup) (hsg : ∀ b ∈ sg, b < H.length) {i : Nat} (hi : i < h'.length) :
    getH (memH sg H h') (sgOf (sgNew sg H.length h') i) = renO (sgOf (sgNew sg H.length h')) (getH h' i) := by
  by_cases hl : i < sg.length
  · rw [sgNew_lt hl]
    have hm := sgOf_get hl
    have hb := hsg _ (List.mem_of_getElem? hm)
    unfold memH
    rw [getH_app (by rw [length_setOlds]; exact hb), get_setOlds _ _ _ hb, lookOld_in hnd hm hi]
    unfold getH
    rfl
  · rw [sgNew_ge (by omega) hi]
    unfold memH getH
    rw [List.getElem?_append_right (by rw [length_setOlds]; omega), length_setOlds, newsOf_eq, List.getElem?_map, List.getElem?_drop, show sg.length + (H.length + (i - sg.length) - H.length) = i by omega]
    cases h'[i]? <;> rfl
theorem olds_fst {σ : Nat → Nat} : ∀ {sg : List Nat} {h' : List (Option Blk)}, sg.length ≤ h'.length → (oldsOf σ sg h').map (·.1) = sg
  | [], _, _ => by unfold oldsOf; rfl
  | _ :: _, [], h => by simp at h
  | i :: sg, x :: h', h => by
    unfold oldsOf
    rw [List.map_cons, olds_fst (by simpa using h)]
end
section
variable {P : Program} {m n : Nat} {R : Exit → St → Prop} {k : List Fr} {s : St} {l : List Oper} {ops : Array Oper} {dst : Option Tmp}
variable {f : FuncId} {fs cs args args0 : List V} {v : V} {h h' : List (Option Blk)}
theorem goCall_op (sg : List Nat) (v' : V) (hs : Spec0 P f args0 h v h') (hc : callable P f = true) (ha : rens (sgOf sg) args0 = fs ++ args ++ cs) (hlen : sg.length = h.length) (hlow : lows h.length args0) (hnd : sg.Nodup)
    (hsg : ∀ b ∈ sg, b < s.H.length) (hall : allSome h) (hblk : blksOk (sgOf sg) h.length s h 0) (hro : allRw (h'.drop h.length)) (hle : h.length ≤ h'.length) (hv : v.ren (sgOf (sgNew sg s.H.length h')) = v')
    (hk : ∀ H', (∀ b, b < s.H.length → b ∉ sg → getH H' b = getH s.H b) → (∀ i, i < h'.length → getH H' (sgOf (sgNew sg s.H.length h') i) = renO (sgOf (sgNew sg s.H.length h')) (getH h' i)) → H'.length = s.H.length + (h'.length - sg.length) →
      goOps P m n R l ops k ⟨putS s.t dst v', H'⟩) : goCall P m n R (.fn f fs cs) args dst l ops k s :=
  goCall_mem sg hs hc ha hlen hlow hnd hsg hall hblk hro hle (by
    have := hk (memH sg s.H h') (fun b hb hn => memH_keep hb hn) (fun i hi => memH_at hnd hsg hi) memH_length
    rw [← hv] at this
    exact this)
theorem goCallD_op {tr : Tr} (sg : List Nat) (v' : V) (hs : Spec0 P f args0 h v h') (hc : callable P f = true) (ha : rens (sgOf sg) args0 = fs ++ args ++ cs) (hlen : sg.length = h.length) (hlow : lows h.length args0) (hnd : sg.Nodup)
    (hsg : ∀ b ∈ sg, b < s.H.length) (hall : allSome h) (hblk : blksOk (sgOf sg) h.length s h 0) (hro : allRw (h'.drop h.length)) (hle : h.length ≤ h'.length) (hv : v.ren (sgOf (sgNew sg s.H.length h')) = v')
    (hk : ∀ H', (∀ b, b < s.H.length → b ∉ sg → getH H' b = getH s.H b) → (∀ i, i < h'.length → getH H' (sgOf (sgNew sg s.H.length h') i) = renO (sgOf (sgNew sg s.H.length h')) (getH h' i)) → H'.length = s.H.length + (h'.length - sg.length) →
      goOpsD P m n R l (tr ++ [(sg, sg ++ List.range' s.H.length (h'.length - sg.length))]) ops k ⟨putS s.t dst v', H'⟩) : goCallD P m n R (.fn f fs cs) args dst l tr ops k s := by
  have hfo : (memRes sg s.H.length v h').old.map (·.1) = sg := olds_fst (by omega)
  have hfn : (memRes sg s.H.length v h').news.length = h'.length - sg.length := by
    show (newsOf _ sg h').length = _
    rw [newsOf_eq, List.length_map, List.length_drop]
  refine goCallD_mem sg hs hc ha hlen hlow hnd hsg hall hblk hro hle ⟨fun x hx => ?_, ?_⟩
  · have : x.1 ∈ (memRes sg s.H.length v h').old.map (·.1) := List.mem_map.2 ⟨x, hx, rfl⟩
    rw [hfo] at this
    exact hsg _ this
  · have := hk (memH sg s.H h') (fun b hb hn => memH_keep hb hn) (fun i hi => memH_at hnd hsg hi) memH_length
    rw [← hv] at this
    have hf : foot s (memRes sg s.H.length v h') = (sg, sg ++ List.range' s.H.length (h'.length - sg.length)) := by
      unfold foot
      rw [hfo, hfn]; rfl
    rw [hf]
    exact this
/-! ### The two tables in memory -/
structure BothM (h : List (Option Blk)) (pos : Nat → Nat) (many : Int) (A : List Nd) (ub sb : Nat) (L : List Pe) (H : List (Option Blk)) : Prop where
  T : TreeAt pos many A H
  R : (L = [] ∧ getH H ub = some ⟨false, [.nilSlice], none⟩) ∨ (L ≠ [] ∧ ub ≠ sb ∧ getH H ub = some ⟨false, [.slice sb 0 L.length 3], none⟩ ∧ getH H sb = some ⟨false, pesC L, none⟩)
  ul : ub < H.length
  sl : sb < H.length
  sep : ∀ j, j < A.length → pos j ≠ ub ∧ pos j ≠ sb
  arg : ∀ b, b < h.length → getH H b = getH h b
  lo : h.length ≤ ub ∧ h.length ≤ sb ∧ ∀ j, j < A.length → h.length ≤ pos j
variable {pos : Nat → Nat} {many many' : Int} {A A' : List Nd} {ub sb sb' : Nat} {L L' : List Pe} {H H' : List (Option Blk)}
theorem BothM.app (hB : BothM h pos many A ub sb L H) (X : List (Option Blk)) : BothM h pos many A ub sb L (H ++ X) := by
  have h1 := hB.ul
  have h2 := hB.sl
  have h3 := hB.lo
  refine ⟨hB.T.app X, ?_, by simp; omega, by simp; omega, hB.sep, fun b hb => by rw [getH_app (by omega)]; exact hB.arg b hb, hB.lo⟩
  rcases hB.R with ⟨e, g⟩ | ⟨e, hn, g1, g2⟩
  · exact .inl ⟨e, by rw [getH_app h1]; exact g⟩
  · exact .inr ⟨e, hn, by rw [getH_app h1]; exact g1, by rw [getH_app h2]; exact g2⟩
theorem BothM.tree (hB : BothM h pos many A ub sb L H) (hT : TreeAt (posN pos A.length H.length) many' A' H') (hk : ∀ b, b < H.length → (∀ j, j < A.length → pos j ≠ b) → getH H' b = getH H b) (hl : H.length ≤ H'.length) : BothM h (posN pos A.length H.length) many' A' ub sb L H' := by
  have h1 := hB.ul
  have h2 := hB.sl
  have h3 := hB.lo
  have hu : getH H' ub = getH H ub := hk ub h1 fun j hj => (hB.sep j hj).1
  have hs : getH H' sb = getH H sb := hk sb h2 fun j hj => (hB.sep j hj).2
  refine ⟨hT, ?_, by omega, by omega, fun j hj => ?_, fun b hb => ?_, h3.1, h3.2.1, fun j hj => ?_⟩
  · rw [hu, hs]; exact hB.R
  · unfold posN
    by_cases e : j < A.length
    · rw [if_pos e]; exact hB.sep j e
    · rw [if_neg e]; omega
  · rw [hk b (by omega) fun j hj e => ?_]
    · exact hB.arg b hb
    · have := h3.2.2 j hj; omega
  · unfold posN
    by_cases e : j < A.length
    · rw [if_pos e]; exact h3.2.2 j e
    · rw [if_neg e]; omega
theorem BothM.ref (hB : BothM h pos many A ub sb L H) (hk : ∀ b, b < H.length → b ≠ ub → b ≠ sb → getH H' b = getH H b) (hl : H.length ≤ H'.length)
    (hR : (L' = [] ∧ getH H' ub = some ⟨false, [.nilSlice], none⟩) ∨ (L' ≠ [] ∧ ub ≠ sb' ∧ getH H' ub = some ⟨false, [.slice sb' 0 L'.length 3], none⟩ ∧ getH H' sb' = some ⟨false, pesC L', none⟩))
    (hs : sb' = sb ∨ sb' = ub ∨ H.length ≤ sb') (hsl : sb' < H'.length) : BothM h pos many A ub sb' L' H' := by
  have h1 := hB.ul
  have h2 := hB.sl
  have h3 := hB.lo
  refine ⟨hB.T.keep fun j hj => hk _ (hB.T.lt hj) (hB.sep j hj).1 (hB.sep j hj).2, hR, by omega, hsl, fun j hj => ⟨(hB.sep j hj).1, ?_⟩, fun b hb => ?_, h3.1, by omega, h3.2.2⟩
  · have := hB.T.lt hj
    have := hB.sep j hj
    omega
  · rw [hk b (by omega) (by omega) (by omega)]; exact hB.arg b hb
theorem BothM.argLe (hB : BothM h pos many A ub sb L H) : h.length ≤ H.length := by
  have := hB.lo
  have := hB.ul
  omega
/-! ### Calls over the tree, in a drawn region -/
theorem goCallD_tree {tr : Tr} (v' : V) (hs : Spec0 P f args0 (treeB many A) v (treeB many' A')) (hc : callable P f = true) (ht : TreeAt pos many A s.H) (hcl : Closed A') (hle : A.length ≤ A'.length)
    (ha : rens (sgOf (sgT pos A.length)) args0 = fs ++ args ++ cs) (hlow : lows A.length args0) (hv : v.ren (sgOf (sgNew (sgT pos A.length) s.H.length (treeB many' A'))) = v')
    (hk : ∀ H', TreeAt (posN pos A.length s.H.length) many' A' H' → (∀ b, b < s.H.length → (∀ j, j < A.length → pos j ≠ b) → getH H' b = getH s.H b) → H'.length = s.H.length + (A'.length - A.length) →
      goOpsD P m n R l (tr ++ [(sgT pos A.length, sgT pos A.length ++ List.range' s.H.length (A'.length - A.length))]) ops k ⟨putS s.t dst v', H'⟩) : goCallD P m n R (.fn f fs cs) args dst l tr ops k s := by
  have hfo : (memRes (sgT pos A.length) s.H.length v (treeB many' A')).old.map (·.1) = sgT pos A.length := olds_fst (by rw [sgT_length, treeB_length]; exact hle)
  have hfn : (memRes (sgT pos A.length) s.H.length v (treeB many' A')).news.length = A'.length - A.length := by
    show (newsOf _ (sgT pos A.length) (treeB many' A')).length = _
    rw [newsOf_eq, List.length_map, List.length_drop, sgT_length, treeB_length]
  refine goCallD_mem (sgT pos A.length) hs hc ha (by rw [sgT_length, treeB_length]) (by rw [treeB_length]; exact hlow) ht.sgNodup ht.sgLt (treeB_allSome many A) (by rw [treeB_length]; exact ht.blks) (treeB_allRw _ _ _) (by rw [treeB_length, treeB_length]; exact hle) ⟨fun x hx => ?_, ?_⟩
  · have : x.1 ∈ (memRes (sgT pos A.length) s.H.length v (treeB many' A')).old.map (·.1) := List.mem_map.2 ⟨x, hx, rfl⟩
    rw [hfo] at this
    exact ht.sgLt _ this
  · have := hk _ (ht.call (many' := many') hcl hle) (fun _ hb hn => treeH_keep hb hn _) (treeH_length hle)
    rw [← hv] at this
    have hf : foot s (memRes (sgT pos A.length) s.H.length v (treeB many' A')) = (sgT pos A.length, sgT pos A.length ++ List.range' s.H.length (A'.length - A.length)) := by
      unfold foot
      rw [hfo, hfn]; rfl
    rw [hf]
    exact this
/-! ### Calls over the list -/
def refH (L : List Pe) : List (Option Blk) := if L = [] then [some ⟨false, [.nilSlice], none⟩] else [some ⟨false, [.slice 1 0 L.length 3], none⟩, some ⟨false, pesC L, none⟩]
def rbs (ub sb : Nat) (L : List Pe) : List Nat := if L = [] then [ub] else [ub, sb]
structure RefOut (L L' : List Pe) (h' : List (Option Blk)) : Prop where
  le : (refH L).length ≤ h'.length
  rw_ : allRw (h'.drop (refH L).length)
  R : (L' = [] ∧ getH h' 0 = some ⟨false, [.nilSlice], none⟩) ∨ (L' ≠ [] ∧ ∃ i, 0 < i ∧ i < h'.length ∧ getH h' 0 = some ⟨false, [.slice i 0 L'.length 3], none⟩ ∧ getH h' i = some ⟨false, pesC L', none⟩)
theorem rbs_mem {b : Nat} (h : b ∈ rbs ub sb L) : b = ub ∨ b = sb := by
  unfold rbs at h
  split at h <;> simp at h <;> omega
theorem rbs_length : (rbs ub sb L).length = (refH L).length := by unfold rbs refH; split <;> rfl
theorem rbs_zero : sgOf (rbs ub sb L) 0 = ub := by unfold rbs; split <;> rfl
theorem rbs_pos : 0 < (rbs ub sb L).length := by unfold rbs; split <;> simp
theorem BothM.rbsNodup (hB : BothM h pos many A ub sb L H) : (rbs ub sb L).Nodup := by
  unfold rbs
  rcases hB.R with ⟨e, _⟩ | ⟨e, hn, _⟩
  · rw [if_pos e]; simp
  · rw [if_neg e]; simp [hn]
theorem BothM.rbsLt (hB : BothM h pos many A ub sb L H) : ∀ b ∈ rbs ub sb L, b < H.length := fun b hb => by
  have := hB.ul
  have := hB.sl
  rcases rbs_mem hb with rfl | rfl <;> assumption
theorem refH_some (L : List Pe) : allSome (refH L) := by unfold refH; split <;> simp [allSome]
theorem BothM.rblks (hB : BothM h pos many A ub sb L s.H) : blksOk (sgOf (rbs ub sb L)) (refH L).length s (refH L) 0 := by
  refine blksOk_of fun b B e => ?_
  rw [Nat.zero_add]
  unfold refH rbs at *
  rcases hB.R with ⟨e0, g⟩ | ⟨e0, hn, g1, g2⟩
  · simp only [if_pos e0] at e ⊢
    match b with
    | 0 =>
      simp [getH] at e
      subst e
      exact ⟨g, trivial, trivial⟩
    | b + 1 => simp [getH] at e
  · simp only [if_neg e0] at e ⊢
    match b with
    | 0 =>
      simp [getH] at e
      subst e
      exact ⟨g1, by simp [lows, V.low], trivial⟩
    | 1 =>
      simp [getH] at e
      subst e
      exact ⟨by rw [pesC_rens]; exact g2, pesC_lows _ _⟩
    | b + 2 => simp [getH] at e
/-- What holds after a call over the list. -/
theorem BothM.after (hB : BothM h pos many A ub sb L H) (ho : RefOut L L' h') (h1 : ∀ b, b < H.length → b ∉ rbs ub sb L → getH H' b = getH H b)
    (h2 : ∀ i, i < h'.length → getH H' (sgOf (sgNew (rbs ub sb L) H.length h') i) = renO (sgOf (sgNew (rbs ub sb L) H.length h')) (getH h' i)) (h3 : H'.length = H.length + (h'.length - (rbs ub sb L).length)) :
    ∃ sb', BothM h pos many A ub sb' L' H' := by
  have hle := ho.le
  have hpos := rbs_pos (ub := ub) (sb := sb) (L := L)
  have hrl := rbs_length (ub := ub) (sb := sb) (L := L)
  have hk : ∀ b, b < H.length → b ≠ ub → b ≠ sb → getH H' b = getH H b := fun b hb e1 e2 => h1 b hb fun hm => by
    rcases rbs_mem hm with rfl | rfl
    · exact e1 rfl
    · exact e2 rfl
  have hz : sgOf (sgNew (rbs ub sb L) H.length h') 0 = ub := by rw [sgNew_lt hpos, rbs_zero]
  have hg0 := h2 0 (by omega)
  rw [hz] at hg0
  have hul := hB.ul
  have hsl := hB.sl
  rcases ho.R with ⟨e, g⟩ | ⟨e, i, hi, hil, g1, g2⟩
  · refine ⟨ub, hB.ref hk (by omega) (.inl ⟨e, ?_⟩) (.inr (.inl rfl)) (by omega)⟩
    rw [hg0, g]; rfl
  · have hgi := h2 i hil
    rw [g2] at hgi
    rw [g1] at hg0
    have hcase : (sgOf (sgNew (rbs ub sb L) H.length h') i = sb ∧ ub ≠ sb) ∨ (H.length ≤ sgOf (sgNew (rbs ub sb L) H.length h') i ∧ sgOf (sgNew (rbs ub sb L) H.length h') i < H'.length) := by
      by_cases hlt : i < (rbs ub sb L).length
      · left
        rw [sgNew_lt hlt]
        rcases hB.R with ⟨e0, _⟩ | ⟨e0, hn, _⟩
        · unfold rbs at hlt; rw [if_pos e0] at hlt; simp at hlt; omega
        · unfold rbs at hlt ⊢; rw [if_neg e0] at hlt ⊢
          have : i = 1 := by simp at hlt; omega
          subst this
          exact ⟨rfl, hn⟩
      · right
        rw [sgNew_ge (by omega) hil]
        omega
    refine ⟨sgOf (sgNew (rbs ub sb L) H.length h') i, hB.ref hk (by omega) (.inr ⟨e, ?_, ?_, ?_⟩) ?_ ?_⟩
    · rcases hcase with ⟨h, hn⟩ | ⟨h, _⟩
      · rw [h]; exact hn
      · omega
    · rw [hg0]; rfl
    · rw [hgi]
      show some (Blk.mk _ _ _) = _
      rw [pesC_rens]
    · rcases hcase with ⟨h, _⟩ | ⟨h, _⟩
      · exact .inl h
      · exact .inr (.inr h)
    · rcases hcase with ⟨h, _⟩ | ⟨_, h⟩
      · rw [h]; omega
      · exact h
theorem goCall_R (v' : V) (hs : Spec0 P f args0 (refH L) v h') (hB : BothM h pos many A ub sb L s.H) (ho : RefOut L L' h') (hc : callable P f = true) (ha : rens (sgOf (rbs ub sb L)) args0 = fs ++ args ++ cs) (hlow : lows (refH L).length args0)
    (hv : v.ren (sgOf (sgNew (rbs ub sb L) s.H.length h')) = v')
    (hk : ∀ H' sb', BothM h pos many A ub sb' L' H' → goOps P m n R l ops k ⟨putS s.t dst v', H'⟩) : goCall P m n R (.fn f fs cs) args dst l ops k s :=
  goCall_op (rbs ub sb L) v' hs hc ha rbs_length hlow hB.rbsNodup hB.rbsLt (refH_some L) hB.rblks ho.rw_ ho.le hv fun H' h1 h2 h3 => by
    obtain ⟨sb', hB'⟩ := hB.after ho h1 h2 h3
    exact hk H' sb' hB'
theorem goCallD_R {tr : Tr} (v' : V) (hs : Spec0 P f args0 (refH L) v h') (hB : BothM h pos many A ub sb L s.H) (ho : RefOut L L' h') (hc : callable P f = true) (ha : rens (sgOf (rbs ub sb L)) args0 = fs ++ args ++ cs) (hlow : lows (refH L).length args0)
    (hv : v.ren (sgOf (sgNew (rbs ub sb L) s.H.length h')) = v')
    (hk : ∀ H' sb', BothM h pos many A ub sb' L' H' → goOpsD P m n R l (tr ++ [(rbs ub sb L, rbs ub sb L ++ List.range' s.H.length (h'.length - (rbs ub sb L).length))]) ops k ⟨putS s.t dst v', H'⟩) : goCallD P m n R (.fn f fs cs) args dst l tr ops k s :=
  goCallD_op (rbs ub sb L) v' hs hc ha rbs_length hlow hB.rbsNodup hB.rbsLt (refH_some L) hB.rblks ho.rw_ ho.le hv fun H' h1 h2 h3 => by
    obtain ⟨sb', hB'⟩ := hB.after ho h1 h2 h3
    exact hk H' sb' hB'
end
end Go.Vm
end
section
-- NIDP
namespace Go.Vm
open Go.Proofs
set_option maxRecDepth 20000
set_option maxRecDepth 20000
variable {many : Int} {A : List Nd} {l r : Sh} {L : List Pe}
theorem PNew_spec : Spec0 Try.prog 10 [] [] (.ptr 0 0) (treeB 0 [leaf]) := by
  rw [show treeB 0 [leaf] = [some ⟨false, [.nilPtr, .nilPtr, .bool false, .i64 0, .i64 0], none⟩] from rfl]
  refine spec0_of_vc (by kernel_rfl) (fn := Try.f10) Try.func10 rfl (by show 0 ≤ 3; decide) (go_start ?_)
  simp -implicitDefEqProofs only [go_sem, ↓reduceIte, Nat.reduceEqDiff, Nat.reduceLT, Nat.reduceLeDiff, Nat.reduceAdd, Nat.reduceSub, Nat.reduceMul, Nat.reduceMod, Nat.reduceDiv, Int.reduceLE, Int.reduceLT, Int.reduceToNat, Int.reduceAdd, Int.reduceSub, Int.reduceMul, Int.reduceEq, Int.reduceNeg, BitVec.reduceOfInt, BitVec.reduceToNat, BitVec.reduceEq, BitVec.reduceNe, BitVec.reduceLT, reduceCtorEq, List.forall_mem_nil, Try.ntmps10, Try.results10]
  exact Fin.ren [0] (by simp) (by simp) (by rfl) (by decide) (by simp [-List.map_map, -List.map_set]) (by simp [-List.map_map, -List.map_set])
theorem refH_nil : refH [] = [some ⟨false, [.nilSlice], none⟩] := rfl
theorem refH_some' {L : List Pe} (h : L ≠ []) : refH L = [some ⟨false, [.slice 1 0 L.length 3], none⟩, some ⟨false, pesC L, none⟩] := if_neg h
theorem out_same (L : List Pe) : RefOut L L (refH L) := by
  refine ⟨Nat.le_refl _, by rw [List.drop_length]; trivial, ?_⟩
  by_cases h : L = []
  · subst h; exact .inl ⟨rfl, rfl⟩
  · rw [refH_some' h]; exact .inr ⟨h, 1, by omega, by simp, rfl, rfl⟩
theorem TInv.drop_law (h : TInv many A l r L) (p : Int) : ∃ (v : Int) (R : Int × List Nd) (h' : List (Option Blk)),
    Spec0 Try.prog 12 [.ptr 0 0, .i64 p] (treeB many A) (.i64 v) (treeB R.1 R.2) ∧ A.length ≤ R.2.length ∧ TInv R.1 R.2 l r (keepD p L) ∧
    Spec0 Try.prog 13 [.ptr 0 0, .i64 p] (refH L) (.i64 v) h' ∧ RefOut L (keepD p L) h' := by
  obtain ⟨hI, hv⟩ := h.drop p _ rfl
  have hD := Drop_spec p many A l r h.cl h.sh h.lt h.nd h.hgt _ rfl
  have hd2 : w64 (many - (dropAll p (many, A) (walkL (fun i => (A.getD i leaf).is) (.node 0 l r) 0 0)).1) = (L.length : Int) - (keepD p L).length := hv
  rw [hd2] at hD
  have hlen := (dropAll_same p (walkL (isA A) (.node 0 l r) 0 0) (many, A)).1.1
  by_cases h0 : L = []
  · subst h0
    exact ⟨0, _, _, hD, Nat.le_of_eq hlen.symm, hI, RDropN_spec p, out_same []⟩
  · rcases RDrop_spec L p h.le with ⟨e, hs⟩ | ⟨e, hs⟩
    · rw [← refH_some' h0] at hs
      refine ⟨_, _, [some ⟨false, [.nilSlice], none⟩, some ⟨false, pesC L, none⟩], hD, Nat.le_of_eq hlen.symm, hI, ?_, ?_⟩
      · rw [e]
        have : ((L.length : Int) - (([] : List Pe).length : Nat)) = (L.length : Int) := by simp
        rw [this]
        exact hs
      · rw [e]
        refine ⟨by rw [refH_some' h0]; simp, by rw [refH_some' h0]; trivial, .inl ⟨rfl, rfl⟩⟩
    · rw [← refH_some' h0] at hs
      exact ⟨_, _, _, hD, Nat.le_of_eq hlen.symm, hI, hs, ⟨by rw [refH_some' h0]; simp, by rw [refH_some' h0]; exact ⟨rfl, trivial⟩, .inr ⟨e, 2, by omega, by simp, rfl, rfl⟩⟩⟩
theorem TInv.set_law (h : TInv many A l r L) (a : BitVec 32) (n p : Int) : ∃ (v many' : Int) (A' : List Nd) (l' r' : Sh) (L' : List Pe) (h' : List (Option Blk)),
    Spec0 Try.prog 14 [.ptr 0 0, .agg [.u32 a, .i64 n], .i64 p] (treeB many A) (.i64 v) (treeB many' A') ∧ A.length ≤ A'.length ∧ TInv many' A' l' r' L' ∧
    Spec0 Try.prog 15 [.ptr 0 0, .agg [.u32 a, .i64 n], .i64 p] (refH L) (.i64 v) h' ∧ RefOut L L' h' := by
  by_cases hbad : n < 0 ∨ 32 < n ∨ p < 0 ∨ 8 ≤ p
  · refine ⟨1, many, A, l, r, L, refH L, Set_bad a n p many A h.cl hbad, Nat.le_refl _, h, ?_, out_same L⟩
    by_cases h0 : L = []
    · subst h0; exact RSetN_bad a n p hbad
    · rw [refH_some' h0]; exact RSetS_bad L a n p hbad
  obtain ⟨k, rfl⟩ : ∃ k : Nat, n = k := ⟨n.toNat, by omega⟩
  have hk : k ≤ 32 := by omega
  have hp0 : 0 ≤ p := by omega
  have hp8 : p < 8 := by omega
  by_cases hv : a <<< k = 0#32
  case neg =>
    refine ⟨5, many, A, l, r, L, refH L, Set_form a k p many A h.cl hk hp0 hp8 hv, Nat.le_refl _, h, ?_, out_same L⟩
    by_cases h0 : L = []
    · subst h0; exact RSetN_form a k p hk hp0 hp8 hv
    · rw [refH_some' h0]; exact RSetS_form L a k p hk hp0 hp8 hv
  generalize hat : (pathA a k).foldl atStep (A, 0) = BC
  obtain ⟨B, c⟩ := BC
  have hle : A.length ≤ B.length := by
    have := (atAll_closed (pathA a k) h.cl h.top).2.2
    rw [hat] at this; exact this
  obtain ⟨nd, l', r', hnd, hcase⟩ := h.set hk hv hat p
  have hm0 : 0 ≤ many := by rw [h.many]; omega
  have hm1 : many ≤ 64 := by rw [h.many]; have := h.le; omega
  have hS := Set_ok a k p many A B c nd h.cl hk hp0 hp8 hv hm0 hm1 hat hnd
  have hmany := h.many
  rcases hcase with ⟨his, i, hfi, hI⟩ | ⟨his, hfi, h64, hI⟩ | ⟨his, hfi, h64, hI⟩
  · rw [if_pos his, if_pos his, if_pos his] at hS
    have h0 : L ≠ [] := fun e => by subst e; simp at hfi
    refine ⟨0, _, _, l', r', _, [some ⟨false, [.slice 1 0 L.length 3], none⟩, some ⟨false, pesC (L.set i (a, k, p)), none⟩], hS, by rw [List.length_set]; exact hle, hI, ?_, ?_⟩
    case refine_1 =>
      rcases RSet_ok L a k p h.le hk hp0 hp8 hv with ⟨j, hj, hs⟩ | ⟨hj, _⟩ | ⟨hj, _⟩
      · rw [hfi] at hj
        cases hj
        rw [refH_some' h0]
        exact hs
      · rw [hfi] at hj; cases hj
      · rw [hfi] at hj; cases hj
    case refine_2 =>
      refine ⟨by rw [refH_some' h0]; simp, by rw [refH_some' h0]; trivial, .inr ⟨?_, 1, by omega, by simp, by rw [List.length_set]; rfl, rfl⟩⟩
      intro e
      have := congrArg List.length e
      rw [List.length_set] at this
      exact h0 (List.eq_nil_of_length_eq_zero this)
  · have hF : ¬ nd.is = true := by rw [his]; simp
    have hM : many = 64 := by omega
    rw [if_neg hF, if_neg hF, if_neg hF, if_pos hM, if_pos hM, if_pos hM] at hS
    have h0 : L ≠ [] := fun e => by subst e; simp at h64
    refine ⟨9, _, _, l', r', L, refH L, hS, hle, hI, ?_, out_same L⟩
    rcases RSet_ok L a k p h.le hk hp0 hp8 hv with ⟨j, hj, hs⟩ | ⟨hj, _, hs⟩ | ⟨hj, hne, _⟩
    · rw [hfi] at hj; cases hj
    · rw [refH_some' h0]; exact hs
    · exact absurd h64 hne
  · have hF : ¬ nd.is = true := by rw [his]; simp
    have hM : ¬ many = 64 := by omega
    rw [if_neg hF, if_neg hF, if_neg hF, if_neg hM, if_neg hM, if_neg hM] at hS
    by_cases h0 : L = []
    · subst h0
      exact ⟨0, _, _, l', r', _, _, hS, by rw [List.length_set]; exact hle, hI, RSetN_ok a k p hk hp0 hp8 hv, ⟨by rw [refH_nil]; simp, by rw [refH_nil]; exact ⟨rfl, trivial⟩, .inr ⟨by simp, 1, by omega, by simp, rfl, rfl⟩⟩⟩
    · refine ⟨0, _, _, l', r', _, [some ⟨false, [.slice 2 0 (L.length + 1) 3], none⟩, none, some ⟨false, pesC (L ++ [(a, k, p)]), none⟩], hS, by rw [List.length_set]; exact hle, hI, ?_, ?_⟩
      case refine_1 =>
        rcases RSet_ok L a k p h.le hk hp0 hp8 hv with ⟨j, hj, hs⟩ | ⟨hj, h6, _⟩ | ⟨hj, hne, hs⟩
        · rw [hfi] at hj; cases hj
        · exact absurd h6 h64
        · rw [refH_some' h0]; exact hs
      case refine_2 =>
        exact ⟨by rw [refH_some' h0]; simp, by rw [refH_some' h0]; exact ⟨rfl, trivial⟩, .inr ⟨by simp, 2, by omega, by simp, by rw [List.length_append]; rfl, rfl⟩⟩
theorem TInv.find_law (h : TInv many A l r L) (a : BitVec 32) : ∃ (v : Int) (b : Bool),
    Spec0 Try.prog 16 [.ptr 0 0, .u32 a] (treeB many A) (.tup [.i64 v, .bool b]) (treeB many A) ∧
    Spec0 Try.prog 17 [.ptr 0 0, .u32 a] (refH L) (.tup [.i64 v, .bool b]) (refH L) := by
  have hF := Find_spec a many A h.cl
  obtain ⟨h1, h2⟩ := h.find a _ rfl
  refine ⟨_, _, hF, ?_⟩
  by_cases h0 : L = []
  · subst h0
    rw [h1 (by simp)]
    exact RFindN_spec a
  · rw [refH_some' h0]
    refine RFind_key L a h.le h.bits _ (fun hno => by rw [h1 hno]) (fun e he hh hm => by rw [h2 e he hh hm])
theorem TInv.all_law (h : TInv many A l r L) : (L = [] ∧ Spec0 Try.prog 19 [.ptr 0 0] (treeB many A) .nilSlice (treeB many A)) ∨
    (L ≠ [] ∧ Spec0 Try.prog 19 [.ptr 0 0] (treeB many A) (.slice A.length 0 L.length 3) (treeB many A ++ [some ⟨false, pesC (sortP L), none⟩])) := by
  have hs := h.sort
  have hl := h.len
  rcases All_spec many A l r h.cl h.cnt h.sh h.lt h.nd h.hgt _ rfl with ⟨e, hS⟩ | ⟨e, hS⟩
  · left
    refine ⟨List.eq_nil_of_length_eq_zero ?_, hS⟩
    rw [← hl]
    show (walkL (fun i => (A.getD i leaf).is) (.node 0 l r) 0 0).length = 0
    rw [e]; rfl
  · right
    refine ⟨fun e0 => e ?_, ?_⟩
    · subst e0
      exact List.eq_nil_of_length_eq_zero hl
    · have h1 : (walkL (fun i => (A.getD i leaf).is) (.node 0 l r) 0 0).length = L.length := hl
      have h2 : (walkL (fun i => (A.getD i leaf).is) (.node 0 l r) 0 0).map (toPe A) = sortP L := hs
      rw [h1, h2] at hS
      exact hS
end Go.Vm
end
section
namespace Go.Vm
open Go.Proofs
mutual
theorem V.ren_congr {σ τ : Nat → Nat} {n : Nat} (h : ∀ b, b < n → σ b = τ b) : ∀ (v : V), v.low n → v.ren σ = v.ren τ
  | .junk, _ | .bool _, _ | .u8 _, _ | .u32 _, _ | .u64 _, _ | .i64 _, _ | .i32 _, _ | .str _, _ | .nilPtr, _ | .nilSlice, _ | .nilFn, _ | .aFn _ _, _ | .nilIface, _ => by unfold V.ren; rfl
  | .ptr b _, hb => by unfold V.low at hb; unfold V.ren; rw [h b hb]
  | .map b, hb => by unfold V.low at hb; unfold V.ren; rw [h b hb]
  | .slice b _ _ _, hb => by unfold V.low at hb; unfold V.ren; rw [h b hb]
  | .fn _ fs cs, hb => by unfold V.low at hb; unfold V.ren; rw [rens_congr h fs hb.1, rens_congr h cs hb.2]
  | .agg cs, hb => by unfold V.low at hb; unfold V.ren; rw [rens_congr h cs hb]
  | .tup cs, hb => by unfold V.low at hb; unfold V.ren; rw [rens_congr h cs hb]
  | .iface _ v, hb => by unfold V.low at hb; unfold V.ren; rw [V.ren_congr h v hb]
theorem rens_congr {σ τ : Nat → Nat} {n : Nat} (h : ∀ b, b < n → σ b = τ b) : ∀ (l : List V), lows n l → rens σ l = rens τ l
  | [], _ => by unfold rens; rfl
  | v :: l, hb => by unfold lows at hb; unfold rens; rw [V.ren_congr h v hb.1, rens_congr h l hb.2]
end
section
variable {P : Program} {m n : Nat} {R : Exit → St → Prop} {k : List Fr} {s : St} {l : List Oper} {ops : Array Oper} {dst : Option Tmp}
variable {f : FuncId} {fs cs args args0 : List V} {v : V} {h : List (Option Blk)}
theorem kept_of {sg : List Nat} {h' H' : List (Option Blk)} (hlen : sg.length = h.length) (hall : allSome h) (hblk : blksOk (sgOf sg) h.length s h 0) (hpre : ∀ i, i < h.length → getH h' i = getH h i) (hle : h.length ≤ h'.length)
    (h1 : ∀ b, b < s.H.length → b ∉ sg → getH H' b = getH s.H b) (h2 : ∀ i, i < h'.length → getH H' (sgOf (sgNew sg s.H.length h') i) = renO (sgOf (sgNew sg s.H.length h')) (getH h' i)) : ∀ b, b < s.H.length → getH H' b = getH s.H b := fun b hb => by
  by_cases hm : b ∈ sg
  · obtain ⟨i, hi, rfl⟩ := List.getElem_of_mem hm
    have hi' : i < h.length := by omega
    obtain ⟨B, hB⟩ := allSome_get hall i hi'
    have hg := blksOk_all hblk i B hB
    have h3 := h2 i (by omega)
    have e : sgOf sg i = sg[i] := by unfold sgOf; rw [List.getD_eq_getElem?_getD, List.getElem?_eq_getElem hi]; rfl
    rw [sgNew_lt hi, e, hpre i hi', hB] at h3
    rw [Nat.zero_add, e] at hg
    rw [h3, hg.1]
    unfold renO Blk.ren
    rw [Option.map_some, rens_congr (τ := sgOf sg) (n := h.length) (fun b hb => sgNew_lt (by omega)) B.cs hg.2]
  · exact h1 b hb hm
theorem goCall_keep (sg : List Nat) (v' : V) (hs : Spec0 P f args0 h v h) (hc : callable P f = true) (ha : rens (sgOf sg) args0 = fs ++ args ++ cs) (hlen : sg.length = h.length) (hlow : lows h.length args0) (hnd : sg.Nodup)
    (hsg : ∀ b ∈ sg, b < s.H.length) (hall : allSome h) (hblk : blksOk (sgOf sg) h.length s h 0) (hv : ∀ σ, v.ren σ = v')
    (hk : ∀ H', (∀ b, b < s.H.length → getH H' b = getH s.H b) → H'.length = s.H.length → goOps P m n R l ops k ⟨putS s.t dst v', H'⟩) : goCall P m n R (.fn f fs cs) args dst l ops k s :=
  goCall_op sg v' hs hc ha hlen hlow hnd hsg hall hblk (by rw [List.drop_length]; trivial) (Nat.le_refl _) (hv _) fun H' h1 h2 h3 =>
    hk H' (kept_of hlen hall hblk (fun _ _ => rfl) (Nat.le_refl _) h1 h2) (by omega)
theorem goCall_new {c : List V} {len esz : Nat} (sg : List Nat) (hs : Spec0 P f args0 h (.slice h.length 0 len esz) (h ++ [some ⟨false, c, none⟩])) (hc : callable P f = true) (ha : rens (sgOf sg) args0 = fs ++ args ++ cs) (hlen : sg.length = h.length) (hlow : lows h.length args0) (hnd : sg.Nodup)
    (hsg : ∀ b ∈ sg, b < s.H.length) (hall : allSome h) (hblk : blksOk (sgOf sg) h.length s h 0) (hp : ∀ σ, rens σ c = c)
    (hk : ∀ H', (∀ b, b < s.H.length → getH H' b = getH s.H b) → getH H' s.H.length = some ⟨false, c, none⟩ → H'.length = s.H.length + 1 → goOps P m n R l ops k ⟨putS s.t dst (.slice s.H.length 0 len esz), H'⟩) : goCall P m n R (.fn f fs cs) args dst l ops k s := by
  have hl : (h ++ [some (⟨false, c, none⟩ : Blk)]).length = h.length + 1 := by simp
  have hz : sgOf (sgNew sg s.H.length (h ++ [some ⟨false, c, none⟩])) h.length = s.H.length := by
    rw [sgNew_ge (by omega) (by omega)]; omega
  refine goCall_op sg _ hs hc ha hlen hlow hnd hsg hall hblk (by rw [List.drop_left]; exact ⟨rfl, trivial⟩) (by omega) rfl fun H' h1 h2 h3 => ?_
  have h4 := h2 h.length (by omega)
  rw [hz, getH_new] at h4
  have h5 := hk H' (kept_of hlen hall hblk (fun i hi => getH_app hi _) (by omega) h1 h2) (by
    rw [h4]
    show some (Blk.mk _ _ _) = _
    rw [hp]) (by omega)
  show goOps P m n R l ops k ⟨putS s.t dst (.slice (sgOf (sgNew sg s.H.length (h ++ [some ⟨false, c, none⟩])) h.length) 0 len esz), H'⟩
  rw [hz]
  exact h5
end
section
variable {h : List (Option Blk)} {pos : Nat → Nat} {many : Int} {A : List Nd} {ub sb : Nat} {L : List Pe} {H H' : List (Option Blk)}
theorem BothM.same (hB : BothM h pos many A ub sb L H) (hk : ∀ b, b < H.length → getH H' b = getH H b) (hl : H.length ≤ H'.length) : BothM h pos many A ub sb L H' := by
  have h1 := hB.ul
  have h2 := hB.sl
  have h3 := hB.lo
  refine ⟨hB.T.keep fun j hj => hk _ (hB.T.lt hj), ?_, by omega, by omega, hB.sep, fun b hb => by rw [hk b (by omega)]; exact hB.arg b hb, h3⟩
  rw [hk ub h1, hk sb h2]
  exact hB.R
theorem Fin.none (h : List (Option Blk)) {s : St} (hl : h.length ≤ s.H.length) (b : Bool) : Fin h.length (.bool b) (h.map fun _ => Option.none) (.bool b) s := by
  refine Fin.same (by simp) (by simpa using hl) trivial fun b B e => ?_
  have hlt := getH_lt e
  rw [List.length_map] at hlt
  unfold getH at e
  rw [List.getElem?_map, List.getElem?_eq_getElem hlt] at e
  simp at e
end
end Go.Vm
end
section
-- NIDP
namespace Go.Vm
open Go.Proofs
set_option maxRecDepth 20000
set_option maxRecDepth 20000
abbrev PsQ (h : List (Option Blk)) : Exit → St → Prop := retQ Try.prog Try.f4 (Fin h.length (.bool true) (h.map fun _ => none))
theorem sg0 {pos : Nat → Nat} {n : Nat} (h : 0 < n) (vs : List V) (hv : ∀ σ, rens σ vs = vs) : rens (sgOf (sgT pos n)) (.ptr 0 0 :: vs) = .ptr (pos 0) 0 :: vs := by
  unfold rens V.ren
  rw [sgT_get pos h, hv]
theorem rg0 {ub sb : Nat} {L : List Pe} (vs : List V) (hv : ∀ σ, rens σ vs = vs) : rens (sgOf (rbs ub sb L)) (.ptr 0 0 :: vs) = .ptr ub 0 :: vs := by
  unfold rens V.ren
  rw [rbs_zero, hv]
set_option maxHeartbeats 2000000 in
theorem ps_tail (h : List (Option Blk)) {pos : Nat → Nat} {many : Int} {A : List Nd} {l r : Sh} {ub sb : Nat} {L : List Pe} {H : List (Option Blk)} {t : List (Nat × V)} (hI : TInv many A l r L) (hB : BothM h pos many A ub sb L H)
    (h5 : lookS t 5 = .ptr (pos 0) 0) (h6 : lookS t 6 = .ptr ub 0) (r0 r1 r2 r4 r13 c : Code) (hc : Try.f4.body = some (.seq r0 (.seq r1 (.seq r2 (.seq r4 (.seq r13 c)))))) : vc Try.prog h.length 90 c (PsQ h) ⟨t, H⟩ := by
  simp only [Try.f4, Option.some.injEq, Code.seq.injEq] at hc
  obtain ⟨-, -, -, -, -, rfl⟩ := hc
  refine go_start ?_
  simp -implicitDefEqProofs only [go_sem, ↓reduceIte, Nat.reduceEqDiff, Nat.reduceLT, Nat.reduceLeDiff, Nat.reduceAdd, Nat.reduceSub, Nat.reduceMul, Nat.reduceMod, Nat.reduceDiv, Int.reduceLE, Int.reduceLT, Int.reduceToNat, Int.reduceAdd, Int.reduceSub, Int.reduceMul, Int.reduceEq, Int.reduceNeg, BitVec.reduceOfInt, BitVec.reduceToNat, BitVec.reduceEq, BitVec.reduceNe, BitVec.reduceLT, reduceCtorEq, List.forall_mem_nil, h5, h6]
  rcases hI.all_law with ⟨rfl, hS⟩ | ⟨hL, hS⟩
  · refine goCall_keep (sgT pos A.length) .nilSlice hS (by kernel_rfl) (sg0 hI.top [] (fun _ => rfl)) (by rw [sgT_length, treeB_length]) ⟨by show 0 < _; rw [treeB_length]; exact hI.top, trivial⟩ hB.T.sgNodup hB.T.sgLt (treeB_allSome _ _) (by rw [treeB_length]; exact hB.T.blks) (fun _ => rfl) fun H1 hk1 hl1 => ?_
    have hB1 := hB.same hk1 (Nat.le_of_eq hl1.symm)
    simp -implicitDefEqProofs only [go_sem, ↓reduceIte, Nat.reduceEqDiff, Nat.reduceLT, Nat.reduceLeDiff, Nat.reduceAdd, Nat.reduceSub, Nat.reduceMul, Nat.reduceMod, Nat.reduceDiv, Int.reduceLE, Int.reduceLT, Int.reduceToNat, Int.reduceAdd, Int.reduceSub, Int.reduceMul, Int.reduceEq, Int.reduceNeg, BitVec.reduceOfInt, BitVec.reduceToNat, BitVec.reduceEq, BitVec.reduceNe, BitVec.reduceLT, reduceCtorEq, List.forall_mem_nil, h5, h6]
    refine goCall_keep (h := refH []) (rbs ub sb []) .nilSlice RAllN_spec (by kernel_rfl) (rg0 [] (fun _ => rfl)) rbs_length ⟨Nat.one_pos, trivial⟩ hB1.rbsNodup hB1.rbsLt (refH_some _) hB1.rblks (fun _ => rfl) fun H2 hk2 hl2 => ?_
    have hB2 := hB1.same hk2 (Nat.le_of_eq hl2.symm)
    simp -implicitDefEqProofs only [go_sem, ↓reduceIte, Nat.reduceEqDiff, Nat.reduceLT, Nat.reduceLeDiff, Nat.reduceAdd, Nat.reduceSub, Nat.reduceMul, Nat.reduceMod, Nat.reduceDiv, Int.reduceLE, Int.reduceLT, Int.reduceToNat, Int.reduceAdd, Int.reduceSub, Int.reduceMul, Int.reduceEq, Int.reduceNeg, BitVec.reduceOfInt, BitVec.reduceToNat, BitVec.reduceEq, BitVec.reduceNe, BitVec.reduceLT, reduceCtorEq, List.forall_mem_nil, h5, h6]
    refine goCall_pure0 (EqPN_spec) ?_
    simp -implicitDefEqProofs only [go_sem, ↓reduceIte, Nat.reduceEqDiff, Nat.reduceLT, Nat.reduceLeDiff, Nat.reduceAdd, Nat.reduceSub, Nat.reduceMul, Nat.reduceMod, Nat.reduceDiv, Int.reduceLE, Int.reduceLT, Int.reduceToNat, Int.reduceAdd, Int.reduceSub, Int.reduceMul, Int.reduceEq, Int.reduceNeg, BitVec.reduceOfInt, BitVec.reduceToNat, BitVec.reduceEq, BitVec.reduceNe, BitVec.reduceLT, reduceCtorEq, List.forall_mem_nil, h5, h6]
    refine goCall_tree (.i64 1) (Set_bad 0#32 0 (-1) many A hI.cl (by omega)) (by kernel_rfl) hB2.T hI.cl (Nat.le_refl _) (sg0 hI.top _ (fun _ => rfl)) ⟨hI.top, ⟨trivial, trivial, trivial⟩, trivial, trivial⟩ rfl fun H3 hT3 hk3 hl3 => ?_
    have hB3 := hB2.tree hT3 hk3 (by rw [hl3]; exact Nat.le_add_right _ _)
    simp -implicitDefEqProofs only [go_sem, ↓reduceIte, Nat.reduceEqDiff, Nat.reduceLT, Nat.reduceLeDiff, Nat.reduceAdd, Nat.reduceSub, Nat.reduceMul, Nat.reduceMod, Nat.reduceDiv, Int.reduceLE, Int.reduceLT, Int.reduceToNat, Int.reduceAdd, Int.reduceSub, Int.reduceMul, Int.reduceEq, Int.reduceNeg, BitVec.reduceOfInt, BitVec.reduceToNat, BitVec.reduceEq, BitVec.reduceNe, BitVec.reduceLT, reduceCtorEq, List.forall_mem_nil]
    exact Fin.none h hB3.argLe true
  · refine goCall_new (sgT pos A.length) (h := treeB many A) (len := L.length) (esz := 3) (c := pesC (sortP L)) (by rw [treeB_length]; exact hS) (by kernel_rfl) (sg0 hI.top [] (fun _ => rfl)) (by rw [sgT_length, treeB_length]) ⟨by show 0 < _; rw [treeB_length]; exact hI.top, trivial⟩ hB.T.sgNodup hB.T.sgLt (treeB_allSome _ _) (by rw [treeB_length]; exact hB.T.blks) (fun σ => pesC_rens σ _) fun H1 hk1 hn1 hl1 => ?_
    have hB1 := hB.same hk1 (by rw [hl1]; exact Nat.le_add_right _ _)
    simp -implicitDefEqProofs only [go_sem, ↓reduceIte, Nat.reduceEqDiff, Nat.reduceLT, Nat.reduceLeDiff, Nat.reduceAdd, Nat.reduceSub, Nat.reduceMul, Nat.reduceMod, Nat.reduceDiv, Int.reduceLE, Int.reduceLT, Int.reduceToNat, Int.reduceAdd, Int.reduceSub, Int.reduceMul, Int.reduceEq, Int.reduceNeg, BitVec.reduceOfInt, BitVec.reduceToNat, BitVec.reduceEq, BitVec.reduceNe, BitVec.reduceLT, reduceCtorEq, List.forall_mem_nil, h5, h6]
    have hR := RAll_spec L hI.le hL
    rw [← refH_some' hL] at hR
    have h2 : (refH L).length = 2 := by rw [refH_some' hL]; rfl
    refine goCall_new (rbs ub sb L) (h := refH L) (len := L.length) (esz := 3) (c := pesC (sortP L)) (by rw [h2]; rw [refH_some' hL] at hR ⊢; exact hR) (by kernel_rfl) (rg0 [] (fun _ => rfl)) rbs_length ⟨by show 0 < _; rw [h2]; decide, trivial⟩ hB1.rbsNodup hB1.rbsLt (refH_some _) hB1.rblks (fun σ => pesC_rens σ _) fun H2 hk2 hn2 hl2 => ?_
    have hB2 := hB1.same hk2 (by rw [hl2]; exact Nat.le_add_right _ _)
    simp -implicitDefEqProofs only [go_sem, ↓reduceIte, Nat.reduceEqDiff, Nat.reduceLT, Nat.reduceLeDiff, Nat.reduceAdd, Nat.reduceSub, Nat.reduceMul, Nat.reduceMod, Nat.reduceDiv, Int.reduceLE, Int.reduceLT, Int.reduceToNat, Int.reduceAdd, Int.reduceSub, Int.reduceMul, Int.reduceEq, Int.reduceNeg, BitVec.reduceOfInt, BitVec.reduceToNat, BitVec.reduceEq, BitVec.reduceNe, BitVec.reduceLT, reduceCtorEq, List.forall_mem_nil, h5, h6]
    have hsl := sortP_length L
    have hE := EqP_spec (sortP L) (by rw [hsl]; exact hI.le)
    rw [hsl] at hE
    have hg1 : getH H2 H.length = some ⟨false, pesC (sortP L), none⟩ := (hk2 H.length (by rw [hl1]; exact Nat.lt_succ_self _)).trans hn1
    have hg2 : getH H2 H1.length = some ⟨false, pesC (sortP L), none⟩ := hn2
    have hlt1 := getH_lt hg1
    have hlt2 := getH_lt hg2
    have hne : H.length ≠ H1.length := by rw [hl1]; exact Nat.ne_of_lt (Nat.lt_succ_self _)
    refine goCall_keep [H.length, H1.length] (.bool true) hE (by kernel_rfl) (by simp [rens, V.ren, sgOf]) rfl (by simp [lows, V.low]) (by simp [hne]) (by simp [hlt1, hlt2]) (by simp [allSome]) (by simp [blksOk_some, sgOf, hg1, hg2, pesC_rens, pesC_lows, blksOk]) (fun _ => rfl) fun H3 hk3 hl3 => ?_
    have hB3 := hB2.same hk3 (Nat.le_of_eq hl3.symm)
    simp -implicitDefEqProofs only [go_sem, ↓reduceIte, Nat.reduceEqDiff, Nat.reduceLT, Nat.reduceLeDiff, Nat.reduceAdd, Nat.reduceSub, Nat.reduceMul, Nat.reduceMod, Nat.reduceDiv, Int.reduceLE, Int.reduceLT, Int.reduceToNat, Int.reduceAdd, Int.reduceSub, Int.reduceMul, Int.reduceEq, Int.reduceNeg, BitVec.reduceOfInt, BitVec.reduceToNat, BitVec.reduceEq, BitVec.reduceNe, BitVec.reduceLT, reduceCtorEq, List.forall_mem_nil, h5, h6]
    refine goCall_tree (.i64 1) (Set_bad 0#32 0 (-1) many A hI.cl (by omega)) (by kernel_rfl) hB3.T hI.cl (Nat.le_refl _) (sg0 hI.top _ (fun _ => rfl)) ⟨hI.top, ⟨trivial, trivial, trivial⟩, trivial, trivial⟩ rfl fun H4 hT4 hk4 hl4 => ?_
    have hB4 := hB3.tree hT4 hk4 (by rw [hl4]; exact Nat.le_add_right _ _)
    simp -implicitDefEqProofs only [go_sem, ↓reduceIte, Nat.reduceEqDiff, Nat.reduceLT, Nat.reduceLeDiff, Nat.reduceAdd, Nat.reduceSub, Nat.reduceMul, Nat.reduceMod, Nat.reduceDiv, Int.reduceLE, Int.reduceLT, Int.reduceToNat, Int.reduceAdd, Int.reduceSub, Int.reduceMul, Int.reduceEq, Int.reduceNeg, BitVec.reduceOfInt, BitVec.reduceToNat, BitVec.reduceEq, BitVec.reduceNe, BitVec.reduceLT, reduceCtorEq, List.forall_mem_nil]
    exact Fin.none h hB4.argLe true
end Go.Vm
end
