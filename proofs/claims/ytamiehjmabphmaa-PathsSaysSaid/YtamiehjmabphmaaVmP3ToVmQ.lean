/- A part of the proof: laws of a small machine of values, or what one function answers, proved against the model; no conditions beyond those in each theorem. -/
import Derived.Test.YtamiehjmabphmaaVmXToVmP2
set_option linter.unusedVariables false
set_option linter.unusedSimpArgs false
set_option linter.unusedSectionVars false
section
namespace Go.Vm
def Blk.ren (σ : Nat → Nat) (B : Blk) : Blk := ⟨B.ro, rens σ B.cs, B.mp⟩
def renO (σ : Nat → Nat) (x : Option Blk) : Option Blk := x.map (Blk.ren σ)
def oldsOf (σ : Nat → Nat) : List Nat → List (Option Blk) → List (Nat × Option Blk)
  | i :: sg, x :: h => (i, renO σ x) :: oldsOf σ sg h
  | _, _ => []
def newsOf (σ : Nat → Nat) : List Nat → List (Option Blk) → List (Option Blk)
  | [], h => h.map (renO σ)
  | _ :: sg, _ :: h => newsOf σ sg h
  | _ :: _, [] => []
theorem newsOf_eq (σ : Nat → Nat) : ∀ (sg : List Nat) (h : List (Option Blk)), newsOf σ sg h = (h.drop sg.length).map (renO σ)
  | [], h => rfl
  | _ :: sg, x :: h => by rw [newsOf, newsOf_eq σ sg h]; rfl
  | _ :: _, [] => rfl
theorem lookOld_out {σ : Nat → Nat} {b : Nat} {d : Option Blk} : ∀ {sg : List Nat} {h : List (Option Blk)}, b ∉ sg → lookOld (oldsOf σ sg h) b d = d
  | [], _, _ => by unfold oldsOf; rfl
  | _ :: _, [], _ => by unfold oldsOf; rfl
  | i :: sg, x :: h, hb => by
    unfold oldsOf lookOld
    rw [if_neg (fun e => hb (by simp [e]))]
    exact lookOld_out (fun h' => hb (List.mem_cons_of_mem _ h'))
theorem lookOld_in {σ : Nat → Nat} {d : Option Blk} : ∀ {sg : List Nat} {h : List (Option Blk)} {i b : Nat}, sg.Nodup → sg[i]? = some b → i < h.length → lookOld (oldsOf σ sg h) b d = renO σ (h[i]?).join
  | [], _, _, _, _, hi, _ => by simp at hi
  | _ :: _, [], _, _, _, _, hl => by simp at hl
  | j :: sg, x :: h, 0, b, hnd, hi, hl => by
    simp at hi
    subst hi
    unfold oldsOf lookOld
    rw [if_pos rfl]; simp
  | j :: sg, x :: h, i + 1, b, hnd, hi, hl => by
    have hi' : sg[i]? = some b := by simpa using hi
    have hne : b ≠ j := fun e => by
      subst e
      exact (List.nodup_cons.1 hnd).1 (List.mem_of_getElem? hi')
    unfold oldsOf lookOld
    rw [if_neg hne, lookOld_in (List.nodup_cons.1 hnd).2 hi' (by simpa using hl)]
    simp
section
variable {P : Program} {f : FuncId} {args : List V} {h h' : List (Option Blk)} {v : V} {sg : List Nat} {get0 : Nat → Option Blk} {nid : Nat}
theorem sgOf_get {b : Nat} (hb : b < sg.length) : sg[b]? = some (sgOf sg b) := by
  unfold sgOf
  rw [List.getD_eq_getElem?_getD, List.getElem?_eq_getElem hb]; rfl
theorem sgOf_app_lt {l : List Nat} {b : Nat} (hb : b < sg.length) : sgOf (sg ++ l) b = sgOf sg b := by
  unfold sgOf
  rw [List.getD_eq_getElem?_getD, List.getD_eq_getElem?_getD, List.getElem?_append_left hb]
theorem sgOf_app_ge {k b : Nat} (hb : sg.length ≤ b) (hk : b < sg.length + k) : sgOf (sg ++ List.range' nid k) b = nid + (b - sg.length) := by
  unfold sgOf
  rw [List.getD_eq_getElem?_getD, List.getElem?_append_right hb, List.getElem?_range' (by omega)]; simp
theorem getH_some {H : List (Option Blk)} {b : Nat} {B : Blk} (e : getH H b = some B) : H[b]? = some (some B) := by
  have hl := getH_lt e
  unfold getH at e
  rw [List.getElem?_eq_getElem hl] at e ⊢
  simp at e
  rw [e]
/-- The small memory's numbers and the new ones, as the caller has them. -/
def sgNew (sg : List Nat) (nid : Nat) (h' : List (Option Blk)) : List Nat := sg ++ List.range' nid (h'.length - sg.length)
theorem spec_of_spec0 (hs : Spec0 P f args h v h') (hlen : sg.length = h.length) (hlow : lows h.length args) (hnd : sg.Nodup) (hsg : ∀ b ∈ sg, b < nid)
    (hall : ∀ b, b < h.length → ∃ B, getH h b = some B)
    (hblk : ∀ b B, getH h b = some B → get0 (sgOf sg b) = some ⟨B.ro, rens (sgOf sg) B.cs, B.mp⟩ ∧ lows h.length B.cs)
    (hro : ∀ b B, getH h' b = some B → h.length ≤ b → B.ro = false) (hle : h.length ≤ h'.length) :
    Spec P f (rens (sgOf sg) args) get0 nid { v := v.ren (sgOf (sgNew sg nid h')), pre := True, fp := sg, old := oldsOf (sgOf (sgNew sg nid h')) sg h', news := newsOf (sgOf (sgNew sg nid h')) sg h' } := by
  intro ρ dom get w rargs hm hr hfp hdom
  have hnl : (newsOf (sgOf (sgNew sg nid h')) sg h').length = h'.length - h.length := by rw [newsOf_eq, List.length_map, List.length_drop, hlen]
  simp only [hnl] at hdom ⊢
  -- the caller's blocks
  have hgot : ∀ b B, getH h b = some B → get (sgOf sg b) = some ⟨B.ro, rens (sgOf sg) B.cs, B.mp⟩ := fun b B e => by
    rw [hfp _ (List.mem_of_getElem? (sgOf_get (by rw [hlen]; exact getH_lt e)))]
    exact (hblk b B e).1
  have hinj : ∀ b b', b < h.length → b' < h.length → b ≠ b' → sgOf sg b ≠ sgOf sg b' := fun b b' hb hb' hne e => by
    have e1 := sgOf_get (sg := sg) (b := b) (by omega)
    have e2 := sgOf_get (sg := sg) (b := b') (by omega)
    rw [e] at e1
    rw [List.getElem?_eq_getElem (by omega)] at e1 e2
    exact hne ((List.getElem_inj hnd).1 (by rw [Option.some.inj e1, Option.some.inj e2]))
  have hm0 : MemRel (fun b => ρ (sgOf sg b)) (· < h.length) (getH h) w := by
    refine ⟨fun b B e => getH_lt e, fun b B e => hm.lt _ _ (hgot b B e), fun b b' B B' e e' hr' hne => hm.inj _ _ _ _ (hgot b B e) (hgot b' B' e') hr' (hinj b b' (getH_lt e) (getH_lt e') hne), fun b B e i v hv => ?_, fun b B e hr' i hi => ?_, fun b B mm e hmp => hm.mapc _ _ mm (hgot b B e) hmp⟩
    · have h1 : (rens (sgOf sg) B.cs)[i]? = some (v.ren (sgOf sg)) := by rw [rens_eq, List.getElem?_map, hv]; rfl
      obtain ⟨r, g1, g2⟩ := hm.cell _ _ (hgot b B e) i _ h1
      exact ⟨r, g1, g2.unren (lows_get (hblk b B e).2 hv)⟩
    · exact hm.free _ _ (hgot b B e) hr' i (by show i < (rens (sgOf sg) B.cs).length; rw [rens_eq, List.length_map]; exact hi)
  refine (hs _ w rargs (hr.unren hlow) hm0).mono ?_
  rintro e w' ⟨r, ρ', rfl, k1, k2, k3, k4, k5⟩
  -- the new relation
  have hnew : ∀ b, nid ≤ b → b < nid + (h'.length - h.length) → ¬ dom b := hdom
  have hdsg : ∀ b, b < h.length → dom (sgOf sg b) := fun b hb => by
    obtain ⟨B, e⟩ := hall b hb
    exact hm.has _ _ (hgot b B e)
  have hsgn : ∀ b, b < h.length → sgOf sg b < nid := fun b hb => hsg _ (List.mem_of_getElem? (sgOf_get (by omega)))
  let ρ1 : Nat → Nat × Nat := fun b => if nid ≤ b ∧ b < nid + (h'.length - h.length) then ρ' (h.length + (b - nid)) else ρ b
  have hρ1 : ∀ b, b < h'.length → ρ1 (sgOf (sgNew sg nid h') b) = ρ' b := fun b hb => by
    by_cases hb2 : b < h.length
    · rw [sgNew, sgOf_app_lt (by omega)]
      show (if _ then _ else _) = _
      rw [if_neg (by have := hsgn b hb2; omega), k4 b hb2]
    · rw [sgNew, sgOf_app_ge (by omega) (by omega)]
      show (if _ then _ else _) = _
      rw [if_pos (by omega)]
      congr 1; omega
  have hd1 : ∀ b, b < h'.length → domWith dom nid (h'.length - h.length) (sgOf (sgNew sg nid h') b) := fun b hb => by
    by_cases hb2 : b < h.length
    · rw [sgNew, sgOf_app_lt (by omega)]; exact .inl (hdsg b hb2)
    · rw [sgNew, sgOf_app_ge (by omega) (by omega)]; exact .inr ⟨by omega, by omega⟩
  -- what lies where
  have cases1 : ∀ b B, upd get (oldsOf (sgOf (sgNew sg nid h')) sg h') nid (newsOf (sgOf (sgNew sg nid h')) sg h') b = some B →
      (∃ c C, getH h' c = some C ∧ B = C.ren (sgOf (sgNew sg nid h')) ∧ b = sgOf (sgNew sg nid h') c ∧ c < h'.length) ∨ (get b = some B ∧ b ∉ sg ∧ ¬ (nid ≤ b ∧ b < nid + (h'.length - h.length))) := fun b B e => by
    unfold upd at e
    rw [hnl] at e
    by_cases hb : nid ≤ b ∧ b < nid + (h'.length - h.length)
    · rw [if_pos hb, newsOf_eq, List.getElem?_map, List.getElem?_drop, hlen] at e
      left
      have hl : h.length + (b - nid) < h'.length := by omega
      rw [List.getElem?_eq_getElem hl] at e
      simp only [Option.map_some, Option.join_some] at e
      obtain ⟨C, e1, e2⟩ : ∃ C, h'[h.length + (b - nid)] = some C ∧ B = C.ren (sgOf (sgNew sg nid h')) := by
        unfold renO at e
        cases hx : h'[h.length + (b - nid)] with
        | none => rw [hx] at e; simp at e
        | some C => rw [hx] at e; simp at e; exact ⟨C, rfl, e.symm⟩
      refine ⟨h.length + (b - nid), C, ?_, e2, ?_, hl⟩
      · unfold getH; rw [List.getElem?_eq_getElem hl, e1]; rfl
      · rw [sgNew, sgOf_app_ge (by omega) (by omega)]; omega
    · rw [if_neg hb] at e
      by_cases hin : b ∈ sg
      · obtain ⟨i, hi, hib⟩ := List.mem_iff_getElem.1 hin
        left
        have hi' : sg[i]? = some b := by rw [List.getElem?_eq_getElem hi, hib]
        rw [lookOld_in hnd hi' (by omega)] at e
        have hsb : sgOf sg i = b := by have := sgOf_get (sg := sg) hi; rw [hi'] at this; exact (Option.some.inj this).symm
        obtain ⟨C, e1, e2⟩ : ∃ C, getH h' i = some C ∧ B = C.ren (sgOf (sgNew sg nid h')) := by
          unfold renO at e
          cases hx : (h'[i]?).join with
          | none => rw [hx] at e; simp at e
          | some C => rw [hx] at e; simp at e; exact ⟨C, hx, e.symm⟩
        exact ⟨i, C, e1, e2, by rw [sgNew, sgOf_app_lt hi, hsb], by omega⟩
      · rw [lookOld_out hin] at e
        exact .inr ⟨e, hin, hb⟩
  have away : ∀ b B, get b = some B → b ∉ sg → ∀ b0 B0, getH h b0 = some B0 → B0.ro = false → (ρ (sgOf sg b0)).1 ≠ (ρ b).1 := fun b B e hb b0 B0 e0 hr0 => by
    refine hm.inj _ _ _ _ (hgot b0 B0 e0) e hr0 (fun e1 => hb ?_)
    rw [← e1]; exact List.mem_of_getElem? (sgOf_get (by rw [hlen]; exact getH_lt e0))
  have still : ∀ b B, get b = some B → b ∉ sg → w'.heap[(ρ b).1]? = w.heap[(ρ b).1]? := fun b B e hb => k5.keep _ (hm.lt b B e) fun b0 B0 e0 hr0 => away b B e hb b0 B0 e0 hr0
  have hρout : ∀ b, ¬ (nid ≤ b ∧ b < nid + (h'.length - h.length)) → ρ1 b = ρ b := fun b hb => if_neg hb
  have hρdom : ∀ b, dom b → ρ1 b = ρ b := fun b hb => hρout b fun h => hnew b h.1 h.2 hb
  refine ⟨r, ρ1, rfl, hρdom, ?_, k1.doren hd1 hρ1, ?_⟩
  · refine ⟨fun b B e => ?_, fun b B e => ?_, fun b b' B B' e e' hr' hne => ?_, fun b B e i v hv => ?_, fun b B e hr' i hi => ?_, fun b B mm e hmp => ?_⟩
    · rcases cases1 b B e with ⟨c, C, e1, rfl, rfl, hc⟩ | ⟨e1, _, _⟩
      · exact hd1 c hc
      · exact .inl (hm.has _ _ e1)
    · rcases cases1 b B e with ⟨c, C, e1, rfl, rfl, hc⟩ | ⟨e1, _, hb⟩
      · rw [hρ1 c hc]; exact k2.lt _ _ e1
      · rw [hρout b hb]; exact Nat.lt_of_lt_of_le (hm.lt _ _ e1) k5.size
    · rcases cases1 b B e with ⟨c, C, e1, rfl, rfl, hc⟩ | ⟨e1, hb1, hb⟩ <;> rcases cases1 b' B' e' with ⟨c', C', e1', rfl, rfl, hc'⟩ | ⟨e1', hb1', hb'⟩
      · rw [hρ1 c hc, hρ1 c' hc']
        exact k2.inj _ _ _ _ e1 e1' hr' (fun e2 => hne (by rw [e2]))
      · rw [hρ1 c hc, hρout b' hb']
        rcases k5.own c C e1 hr' with ⟨b0, B0, e0, hr0, hx⟩ | hx
        · rw [← hx]; exact away b' B' e1' hb1' b0 B0 e0 hr0
        · have := hm.lt _ _ e1'; omega
      · rw [hρout b hb, hρ1 c' hc']
        by_cases hc2 : c' < h.length
        · rw [k4 c' hc2]
          obtain ⟨B0, e0⟩ := hall c' hc2
          refine hm.inj _ _ _ _ e1 (hgot c' B0 e0) hr' (fun e2 => hb1 ?_)
          rw [e2]; exact List.mem_of_getElem? (sgOf_get (by omega))
        · have hcro := hro c' C' e1' (by omega)
          rcases k5.own c' C' e1' hcro with ⟨b0, B0, e0, hr0, hx⟩ | hx
          · rw [← hx]; exact fun e2 => away b B e1 hb1 b0 B0 e0 hr0 e2.symm
          · have := hm.lt _ _ e1; omega
      · rw [hρout b hb, hρout b' hb']
        exact hm.inj _ _ _ _ e1 e1' hr' hne
    · rcases cases1 b B e with ⟨c, C, e1, rfl, rfl, hc⟩ | ⟨e1, hb1, hb⟩
      · rw [hρ1 c hc]
        have h2 : ∃ u, C.cs[i]? = some u ∧ v = u.ren (sgOf (sgNew sg nid h')) := by
          have hv' : (rens (sgOf (sgNew sg nid h')) C.cs)[i]? = some v := hv
          rw [rens_eq, List.getElem?_map] at hv'
          cases hu : C.cs[i]? with
          | none => rw [hu] at hv'; simp at hv'
          | some u => rw [hu] at hv'; simp at hv'; exact ⟨u, rfl, hv'.symm⟩
        obtain ⟨u, hu, rfl⟩ := h2
        obtain ⟨r, g1, g2⟩ := k2.cell _ _ e1 i u hu
        exact ⟨r, g1, g2.doren hd1 hρ1⟩
      · rw [hρout b hb]
        obtain ⟨r, g1, g2⟩ := hm.cell _ _ e1 i v hv
        refine ⟨r, ?_, g2.mono hρdom (fun b hb => .inl hb) k5.lasts⟩
        rw [World.cell?_of_block (w := w) (a := ⟨(ρ b).1, (ρ b).2 + i, none⟩) (still b B e1 hb1)]; exact g1
    · rcases cases1 b B e with ⟨c, C, e1, rfl, rfl, hc⟩ | ⟨e1, hb1, hb⟩
      · rw [hρ1 c hc]
        exact k2.free _ _ e1 hr' i (by have h3 : i < (rens (sgOf (sgNew sg nid h')) C.cs).length := hi; rw [rens_eq, List.length_map] at h3; exact h3)
      · rw [hρout b hb, World.frozen?_of_block (w := w) (a := ⟨(ρ b).1, (ρ b).2 + i, none⟩) (still b B e1 hb1)]
        exact hm.free _ _ e1 hr' i hi
    · rcases cases1 b B e with ⟨c, C, e1, rfl, rfl, hc⟩ | ⟨e1, hb1, hb⟩
      · rw [hρ1 c hc]
        exact k2.mapc _ _ mm e1 hmp
      · rw [hρout b hb, still b B e1 hb1]
        exact hm.mapc _ _ mm e1 hmp
  · refine ⟨k5.os, k5.output, k5.tape, k5.size, fun r hr hb => k5.keep r hr fun b B e hro' => ?_, k5.lasts, fun b B e hro' => ?_⟩
    · exact hb _ _ (hgot b B e) hro'
    · rcases cases1 b B e with ⟨c, C, e1, rfl, rfl, hc⟩ | ⟨e1, hb1, hb⟩
      · rw [hρ1 c hc]
        rcases k5.own c C e1 hro' with ⟨b0, B0, e0, hr0, hx⟩ | hx
        · exact .inl ⟨_, _, hgot b0 B0 e0, hr0, hx⟩
        · exact .inr hx
      · exact .inl ⟨b, B, e1, hro', by rw [hρout b hb]⟩
end
end Go.Vm
end
section
namespace Go.Vm
/-- What is still to be done. -/
inductive Fr where
  | code (c : Code)
  | blk (id : Nat)

section
variable (P : Program) (m n : Nat) (R : Exit → St → Prop)
def kQ : List Fr → Exit → St → Prop
  | [] => R
  | .code c :: k => seqQ (vc P m n c (kQ k)) (kQ k)
  | .blk id :: k => blockQ id (kQ k)
def go (c : Code) (k : List Fr) (s : St) : Prop := vc P m n c (kQ P m n R k) s
def gone (k : List Fr) (e : Exit) (s : St) : Prop := kQ P m n R k e s
def goOps (l : List Oper) (ops : Array Oper) (k : List Fr) (s : St) : Prop := vops P n ops l s (kQ P m n R k .normal)
def goOp (o : Op) (dst : Option Tmp) (l : List Oper) (ops : Array Oper) (k : List Fr) (s : St) : Prop := vexec P o s (hold fun res => vops P n ops l (s.after dst res) (kQ P m n R k .normal))
def goRes (r : Option Res) (dst : Option Tmp) (l : List Oper) (ops : Array Oper) (k : List Fr) (s : St) : Prop := vthen r (hold fun res => vops P n ops l (s.after dst res) (kQ P m n R k .normal))
def goCall (f : V) (args : List V) (dst : Option Tmp) (l : List Oper) (ops : Array Oper) (k : List Fr) (s : St) : Prop := vcall P f args s.H (hold fun res => vops P n ops l (s.after dst res) (kQ P m n R k .normal))
def goGuard (v : V) (want : Bool) (o : Op) (dst : Option Tmp) (l : List Oper) (ops : Array Oper) (k : List Fr) (s : St) : Prop :=
  vguard v want (vexec P o s (hold fun res => vops P n ops l (s.after dst res) (kQ P m n R k .normal))) (vops P n ops l (s.put dst (.tup [])) (kQ P m n R k .normal))
def goG (g : Option (Nat × Bool)) (o : Op) (dst : Option Tmp) (l : List Oper) (ops : Array Oper) (k : List Fr) (s : St) : Prop := match g with
  | none => goOp P m n R o dst l ops k s
  | some (j, want) => match guardSlot ops j with
    | some d => d < n ∧ goGuard P m n R (s.get d) want o dst l ops k s
    | none => False
abbrev Tr := List (List Nat × List Nat)
def goOpsD (l : List Oper) (tr : Tr) (ops : Array Oper) (k : List Fr) (s : St) : Prop := vdraw P n ops (kQ P m n R k .normal) l tr s
def kD (dst : Option Tmp) (l : List Oper) (tr : Tr) (ops : Array Oper) (k : List Fr) (s : St) : Res → Prop := hold fun res => (∀ x ∈ res.old, x.1 < s.H.length) ∧ vdraw P n ops (kQ P m n R k .normal) l (tr ++ [foot s res]) (s.after dst res)
def goOpD (o : Op) (dst : Option Tmp) (l : List Oper) (tr : Tr) (ops : Array Oper) (k : List Fr) (s : St) : Prop := vexec P o s (kD P m n R dst l tr ops k s)
def goResD (r : Option Res) (dst : Option Tmp) (l : List Oper) (tr : Tr) (ops : Array Oper) (k : List Fr) (s : St) : Prop := vthen r (kD P m n R dst l tr ops k s)
def goCallD (f : V) (args : List V) (dst : Option Tmp) (l : List Oper) (tr : Tr) (ops : Array Oper) (k : List Fr) (s : St) : Prop := vcall P f args s.H (kD P m n R dst l tr ops k s)
def goGuardD (v : V) (want : Bool) (o : Op) (dst : Option Tmp) (l : List Oper) (tr : Tr) (ops : Array Oper) (k : List Fr) (s : St) : Prop :=
  vguard v want (vexec P o s (kD P m n R dst l tr ops k s)) (vdraw P n ops (kQ P m n R k .normal) l (tr ++ [([], [])]) (s.put dst (.tup [])))
def goGD (g : Option (Nat × Bool)) (o : Op) (dst : Option Tmp) (l : List Oper) (tr : Tr) (ops : Array Oper) (k : List Fr) (s : St) : Prop := match g with
  | none => goOpD P m n R o dst l tr ops k s
  | some (j, want) => match guardSlot ops j with
    | some d => d < n ∧ goGuardD P m n R (s.get d) want o dst l tr ops k s
    | none => False
def goCond (v : V) (x y : Code) (k : List Fr) (s : St) : Prop := vcond v (go P m n R x k s) (go P m n R y k s)
end
section
variable {P : Program} {m n : Nat} {R : Exit → St → Prop} {k : List Fr} {s : St} {l : List Oper} {ops : Array Oper} {dst : Option Tmp}
theorem go_start {c : Code} (h : go P m n R c [] s) : vc P m n c R s := h
theorem go_skip : go P m n R .skip k s = gone P m n R k .normal s := rfl
theorem go_seq (x y : Code) : go P m n R (.seq x y) k s = go P m n R x (.code y :: k) s := rfl
theorem go_region (id : Nat) : go P m n R (.region id ops false) k s = goOps P m n R ops.toList ops k s := rfl
theorem go_cond (c : Operand) (x y : Code) : go P m n R (.cond c x y) k s = goCond P m n R (s.ev c) x y k s := rfl
theorem go_block (id : Nat) (c : Code) : go P m n R (.block id c) k s = go P m n R c (.blk id :: k) s := rfl
theorem go_exit (id : Nat) : go P m n R (.exit id) k s = gone P m n R k (.exit id) s := rfl
theorem go_ret : go P m n R .ret k s = gone P m n R k .ret s := rfl
theorem gone_nil (e : Exit) : gone P m n R [] e s = R e s := rfl
theorem gone_code_normal (c : Code) : gone P m n R (.code c :: k) .normal s = go P m n R c k s := rfl
theorem gone_code_exit (c : Code) (id : Nat) : gone P m n R (.code c :: k) (.exit id) s = gone P m n R k (.exit id) s := rfl
theorem gone_code_ret (c : Code) : gone P m n R (.code c :: k) .ret s = gone P m n R k .ret s := rfl
theorem gone_blk_normal (id : Nat) : gone P m n R (.blk id :: k) .normal s = gone P m n R k .normal s := rfl
theorem gone_blk_ret (id : Nat) : gone P m n R (.blk id :: k) .ret s = gone P m n R k .ret s := rfl
theorem gone_blk_exit (id i : Nat) : gone P m n R (.blk id :: k) (.exit i) s = if i = id then gone P m n R k .normal s else gone P m n R k (.exit i) s := rfl
theorem goOps_nil : goOps P m n R [] ops k s = gone P m n R k .normal s := rfl
theorem goOps_cons (o : Op) (t : TypeId) (pos : String) (after : Array Edge) (g : Option (Nat × Bool)) : goOps P m n R (⟨dst, o, t, pos, after, g⟩ :: l) ops k s = (dstOk n dst ∧ goG P m n R g o dst l ops k s) := by
  unfold goOps goG
  rw [vops]
  cases g <;> rfl
theorem goG_none (o : Op) : goG P m n R none o dst l ops k s = goOp P m n R o dst l ops k s := rfl
theorem goG_some (j : Nat) (want : Bool) (o : Op) (d : Nat) (h : guardSlot ops j = some d) : goG P m n R (some (j, want)) o dst l ops k s = (d < n ∧ goGuard P m n R (s.get d) want o dst l ops k s) := by
  unfold goG
  simp only [h]
theorem goGuard_bool (b want : Bool) (o : Op) : goGuard P m n R (.bool b) want o dst l ops k s = if b = want then goOp P m n R o dst l ops k s else goOps P m n R l ops k (s.put dst (.tup [])) := by
  unfold goGuard vguard
  simp only
  by_cases h : b = want
  · rw [if_pos h]; exact propext ⟨fun x => x.1 h, fun x => ⟨fun _ => x, fun y => absurd h y⟩⟩
  · rw [if_neg h]; exact propext ⟨fun x => x.2 h, fun x => ⟨fun y => absurd y h, fun _ => x⟩⟩
theorem goGuard_undef (want : Bool) (o : Op) : goGuard P m n R (.tup []) want o dst l ops k s = goOps P m n R l ops k (s.put dst (.tup [])) := rfl
theorem goCond_bool (b : Bool) (x y : Code) : goCond P m n R (.bool b) x y k s = if b = true then go P m n R x k s else go P m n R y k s := by
  unfold goCond vcond
  simp only
  cases b
  · exact propext ⟨fun x => x.2 rfl, fun x => ⟨fun y => absurd y (by simp), fun _ => x⟩⟩
  · exact propext ⟨fun x => x.1 rfl, fun x => ⟨fun _ => x, fun y => absurd y (by simp)⟩⟩
theorem goRes_some (r : Res) : goRes P m n R (some r) dst l ops k s = (r.pre ∧ goOps P m n R l ops k (s.after dst r)) := rfl
theorem goRes_none : goRes P m n R none dst l ops k s = False := rfl
-- each operation
theorem goOp_move (x : Operand) : goOp P m n R (.move x) dst l ops k s = goOps P m n R l ops k (s.put dst (s.ev x)) := by
  unfold goOp vexec vthen
  simp only [vop, true_and]
  show vops _ _ _ _ (s.after _ _) _ = _
  unfold goOps
  congr 1
  unfold St.after St.put setOlds
  simp
theorem goOp_assign (x : Operand) : goOp P m n R (.assign x) dst l ops k s = goOps P m n R l ops k (s.put dst (s.ev x)) := goOp_move x
theorem goOp_bin (op : BinOp) (t : TypeId) (x y : Operand) (u : TypeId) : goOp P m n R (.binOp op t x y u) dst l ops k s = goRes P m n R (vbin P op t (s.ev x) (s.ev y)) dst l ops k s := rfl
theorem goOp_un (op : UnOp) (t : TypeId) (x : Operand) : goOp P m n R (.unOp op t x) dst l ops k s = goRes P m n R (vun op (s.ev x)) dst l ops k s := rfl
theorem goOp_pick (c x y : Operand) : goOp P m n R (.pick c x y) dst l ops k s = goRes P m n R (vop P (.pick c x y) s.ev (getH s.H) s.H.length) dst l ops k s := rfl
theorem goOp_alloc (e : TypeId) : goOp P m n R (.alloc e) dst l ops k s = goRes P m n R (vop P (.alloc e) s.ev (getH s.H) s.H.length) dst l ops k s := rfl
theorem goOp_box (e : TypeId) (x : Operand) : goOp P m n R (.box e x) dst l ops k s = goRes P m n R (vop P (.box e x) s.ev (getH s.H) s.H.length) dst l ops k s := rfl
theorem goOp_build (t : TypeId) (p : Array (Nat × Operand)) : goOp P m n R (.build t p) dst l ops k s = goRes P m n R (vop P (.build t p) s.ev (getH s.H) s.H.length) dst l ops k s := rfl
theorem goOp_buildSlice (t : TypeId) (i : Nat) (p : Array (Nat × Operand)) : goOp P m n R (.buildSlice t i p) dst l ops k s = goRes P m n R (vop P (.buildSlice t i p) s.ev (getH s.H) s.H.length) dst l ops k s := rfl
theorem goOp_load (t : TypeId) (x : Operand) : goOp P m n R (.load t x) dst l ops k s = goRes P m n R (vop P (.load t x) s.ev (getH s.H) s.H.length) dst l ops k s := rfl
theorem goOp_store (t : TypeId) (x y : Operand) : goOp P m n R (.store t x y) dst l ops k s = goRes P m n R (vop P (.store t x y) s.ev (getH s.H) s.H.length) dst l ops k s := rfl
theorem goOp_nilCheck (x : Operand) : goOp P m n R (.nilCheck x) dst l ops k s = goRes P m n R (vop P (.nilCheck x) s.ev (getH s.H) s.H.length) dst l ops k s := rfl
theorem goOp_convert (a b : TypeId) (x : Operand) : goOp P m n R (.convert a b x) dst l ops k s = goRes P m n R (vconv P a b (s.ev x) (getH s.H) s.H.length) dst l ops k s := rfl
theorem goOp_s2a (t : TypeId) (x : Operand) : goOp P m n R (.sliceToArrayPointer t x) dst l ops k s = goRes P m n R (vop P (.sliceToArrayPointer t x) s.ev (getH s.H) s.H.length) dst l ops k s := rfl
theorem goOp_makeFunc (f : Fn) (a c : Array Operand) : goOp P m n R (.makeFunc f a c) dst l ops k s = goRes P m n R (vop P (.makeFunc f a c) s.ev (getH s.H) s.H.length) dst l ops k s := rfl
theorem goOp_makeSlice (t : TypeId) (x y : Operand) : goOp P m n R (.makeSlice t x y) dst l ops k s = goRes P m n R (vop P (.makeSlice t x y) s.ev (getH s.H) s.H.length) dst l ops k s := rfl
theorem goOp_slice (t : TypeId) (x : Operand) (a b c : Option Operand) : goOp P m n R (.slice t x a b c) dst l ops k s = goRes P m n R (vop P (.slice t x a b c) s.ev (getH s.H) s.H.length) dst l ops k s := rfl
theorem goOp_fieldAddr (t : TypeId) (x : Operand) (f : Nat) : goOp P m n R (.fieldAddr t x f) dst l ops k s = goRes P m n R (vop P (.fieldAddr t x f) s.ev (getH s.H) s.H.length) dst l ops k s := rfl
theorem goOp_indexAddr (t : TypeId) (x y : Operand) : goOp P m n R (.indexAddr t x y) dst l ops k s = goRes P m n R (vop P (.indexAddr t x y) s.ev (getH s.H) s.H.length) dst l ops k s := rfl
theorem goOp_index (t : TypeId) (x y : Operand) : goOp P m n R (.index t x y) dst l ops k s = goRes P m n R (vop P (.index t x y) s.ev (getH s.H) s.H.length) dst l ops k s := rfl
theorem goOp_extract (x : Operand) (i : Nat) : goOp P m n R (.extract x i) dst l ops k s = goRes P m n R (vop P (.extract x i) s.ev (getH s.H) s.H.length) dst l ops k s := rfl
theorem goOp_builtin (b : Builtin) (args : Array Operand) (ats : Array TypeId) : goOp P m n R (.call ⟨.builtin b, args, ats⟩) dst l ops k s = goRes P m n R (vbuiltin P b ats.toList (args.toList.map s.ev) (getH s.H) s.H.length) dst l ops k s := rfl
theorem goOp_call (f : Operand) (args : Array Operand) (ats : Array TypeId) : goOp P m n R (.call ⟨.value f, args, ats⟩) dst l ops k s = goCall P m n R (s.ev f) (args.toList.map s.ev) dst l ops k s := rfl
theorem goOp_makeIface (t : TypeId) (x : Operand) : goOp P m n R (.makeInterface t x) dst l ops k s = goRes P m n R (vop P (.makeInterface t x) s.ev (getH s.H) s.H.length) dst l ops k s := rfl
def goInvoke (P : Program) (m n : Nat) (R : Exit → St → Prop) (v : V) (name : String) (args : List V) (dst : Option Tmp) (l : List Oper) (ops : Array Oper) (k : List Fr) (s : St) : Prop := vinvoke P v name args s.H (hold fun res => vops P n ops l (s.after dst res) (kQ P m n R k .normal))
theorem goOp_invoke (x : Operand) (name : String) (args : Array Operand) (ats : Array TypeId) : goOp P m n R (.call ⟨.invoke x name, args, ats⟩) dst l ops k s = goInvoke P m n R (s.ev x) name (args.toList.map s.ev) dst l ops k s := rfl
theorem goInvoke_to {t : TypeId} {v : V} {name : String} {args : List V} {f : FuncId} (h : methOf P t name = some f) : goInvoke P m n R (.iface t v) name args dst l ops k s = goCall P m n R (.fn f [] []) (v :: args) dst l ops k s := by
  unfold goInvoke vinvoke
  simp only [h]
  rfl
theorem go_draw (id : Nat) : go P m n R (.region id ops true) k s = goOpsD P m n R ops.toList [] ops k s := rfl
theorem goOpsD_nil {tr : Tr} : goOpsD P m n R [] tr ops k s = (ordOk ops tr = true ∧ gone P m n R k .normal s) := rfl
theorem goOpsD_cons {tr : Tr} (o : Op) (t : TypeId) (pos : String) (after : Array Edge) (g : Option (Nat × Bool)) : goOpsD P m n R (⟨dst, o, t, pos, after, g⟩ :: l) tr ops k s = (dstOk n dst ∧ goGD P m n R g o dst l tr ops k s) := by
  unfold goOpsD goGD
  rw [vdraw]
  cases g <;> rfl
theorem goGD_none {tr : Tr} (o : Op) : goGD P m n R none o dst l tr ops k s = goOpD P m n R o dst l tr ops k s := rfl
theorem goGD_some {tr : Tr} (j : Nat) (want : Bool) (o : Op) (d : Nat) (h : guardSlot ops j = some d) : goGD P m n R (some (j, want)) o dst l tr ops k s = (d < n ∧ goGuardD P m n R (s.get d) want o dst l tr ops k s) := by
  unfold goGD
  simp only [h]
theorem goGuardD_bool {tr : Tr} (b want : Bool) (o : Op) : goGuardD P m n R (.bool b) want o dst l tr ops k s = if b = want then goOpD P m n R o dst l tr ops k s else goOpsD P m n R l (tr ++ [([], [])]) ops k (s.put dst (.tup [])) := by
  unfold goGuardD vguard
  simp only
  by_cases h : b = want
  · rw [if_pos h]; exact propext ⟨fun x => x.1 h, fun x => ⟨fun _ => x, fun y => absurd h y⟩⟩
  · rw [if_neg h]; exact propext ⟨fun x => x.2 h, fun x => ⟨fun y => absurd y h, fun _ => x⟩⟩
theorem goGuardD_undef {tr : Tr} (want : Bool) (o : Op) : goGuardD P m n R (.tup []) want o dst l tr ops k s = goOpsD P m n R l (tr ++ [([], [])]) ops k (s.put dst (.tup [])) := rfl
theorem goResD_some {tr : Tr} (r : Res) : goResD P m n R (some r) dst l tr ops k s = (r.pre ∧ (∀ x ∈ r.old, x.1 < s.H.length) ∧ goOpsD P m n R l (tr ++ [foot s r]) ops k (s.after dst r)) := rfl
theorem goResD_none {tr : Tr} : goResD P m n R none dst l tr ops k s = False := rfl
theorem goOpD_move {tr : Tr} (x : Operand) : goOpD P m n R (.move x) dst l tr ops k s = goOpsD P m n R l (tr ++ [([], [])]) ops k (s.put dst (s.ev x)) := by
  unfold goOpD vexec vthen
  simp only [vop, true_and]
  have h1 : foot s { v := s.ev x } = ([], []) := by unfold foot; simp
  have h2 : s.after dst { v := s.ev x } = s.put dst (s.ev x) := by unfold St.after St.put setOlds; simp
  show ((∀ y ∈ ([] : List (Nat × Option Blk)), y.1 < s.H.length) ∧ vdraw P n ops (kQ P m n R k .normal) l (tr ++ [foot s { v := s.ev x }]) (s.after dst { v := s.ev x })) = _
  rw [h1, h2]
  exact propext ⟨fun h => h.2, fun h => ⟨by simp, h⟩⟩
theorem goOpD_assign {tr : Tr} (x : Operand) : goOpD P m n R (.assign x) dst l tr ops k s = goOpsD P m n R l (tr ++ [([], [])]) ops k (s.put dst (s.ev x)) := goOpD_move x
theorem goOpD_bin {tr : Tr} (op : BinOp) (t : TypeId) (x y : Operand) (u : TypeId) : goOpD P m n R (.binOp op t x y u) dst l tr ops k s = goResD P m n R (vbin P op t (s.ev x) (s.ev y)) dst l tr ops k s := rfl
theorem goOpD_un {tr : Tr} (op : UnOp) (t : TypeId) (x : Operand) : goOpD P m n R (.unOp op t x) dst l tr ops k s = goResD P m n R (vun op (s.ev x)) dst l tr ops k s := rfl
theorem goOpD_pick {tr : Tr} (c x y : Operand) : goOpD P m n R (.pick c x y) dst l tr ops k s = goResD P m n R (vop P (.pick c x y) s.ev (getH s.H) s.H.length) dst l tr ops k s := rfl
theorem goOpD_alloc {tr : Tr} (e : TypeId) : goOpD P m n R (.alloc e) dst l tr ops k s = goResD P m n R (vop P (.alloc e) s.ev (getH s.H) s.H.length) dst l tr ops k s := rfl
theorem goOpD_box {tr : Tr} (e : TypeId) (x : Operand) : goOpD P m n R (.box e x) dst l tr ops k s = goResD P m n R (vop P (.box e x) s.ev (getH s.H) s.H.length) dst l tr ops k s := rfl
theorem goOpD_build {tr : Tr} (t : TypeId) (p : Array (Nat × Operand)) : goOpD P m n R (.build t p) dst l tr ops k s = goResD P m n R (vop P (.build t p) s.ev (getH s.H) s.H.length) dst l tr ops k s := rfl
theorem goOpD_buildSlice {tr : Tr} (t : TypeId) (i : Nat) (p : Array (Nat × Operand)) : goOpD P m n R (.buildSlice t i p) dst l tr ops k s = goResD P m n R (vop P (.buildSlice t i p) s.ev (getH s.H) s.H.length) dst l tr ops k s := rfl
theorem goOpD_load {tr : Tr} (t : TypeId) (x : Operand) : goOpD P m n R (.load t x) dst l tr ops k s = goResD P m n R (vop P (.load t x) s.ev (getH s.H) s.H.length) dst l tr ops k s := rfl
theorem goOpD_store {tr : Tr} (t : TypeId) (x y : Operand) : goOpD P m n R (.store t x y) dst l tr ops k s = goResD P m n R (vop P (.store t x y) s.ev (getH s.H) s.H.length) dst l tr ops k s := rfl
theorem goOpD_nilCheck {tr : Tr} (x : Operand) : goOpD P m n R (.nilCheck x) dst l tr ops k s = goResD P m n R (vop P (.nilCheck x) s.ev (getH s.H) s.H.length) dst l tr ops k s := rfl
theorem goOpD_convert {tr : Tr} (a b : TypeId) (x : Operand) : goOpD P m n R (.convert a b x) dst l tr ops k s = goResD P m n R (vconv P a b (s.ev x) (getH s.H) s.H.length) dst l tr ops k s := rfl
theorem goOpD_s2a {tr : Tr} (t : TypeId) (x : Operand) : goOpD P m n R (.sliceToArrayPointer t x) dst l tr ops k s = goResD P m n R (vop P (.sliceToArrayPointer t x) s.ev (getH s.H) s.H.length) dst l tr ops k s := rfl
theorem goOpD_makeFunc {tr : Tr} (f : Fn) (a c : Array Operand) : goOpD P m n R (.makeFunc f a c) dst l tr ops k s = goResD P m n R (vop P (.makeFunc f a c) s.ev (getH s.H) s.H.length) dst l tr ops k s := rfl
theorem goOpD_makeSlice {tr : Tr} (t : TypeId) (x y : Operand) : goOpD P m n R (.makeSlice t x y) dst l tr ops k s = goResD P m n R (vop P (.makeSlice t x y) s.ev (getH s.H) s.H.length) dst l tr ops k s := rfl
theorem goOpD_slice {tr : Tr} (t : TypeId) (x : Operand) (a b c : Option Operand) : goOpD P m n R (.slice t x a b c) dst l tr ops k s = goResD P m n R (vop P (.slice t x a b c) s.ev (getH s.H) s.H.length) dst l tr ops k s := rfl
theorem goOpD_fieldAddr {tr : Tr} (t : TypeId) (x : Operand) (f : Nat) : goOpD P m n R (.fieldAddr t x f) dst l tr ops k s = goResD P m n R (vop P (.fieldAddr t x f) s.ev (getH s.H) s.H.length) dst l tr ops k s := rfl
theorem goOpD_indexAddr {tr : Tr} (t : TypeId) (x y : Operand) : goOpD P m n R (.indexAddr t x y) dst l tr ops k s = goResD P m n R (vop P (.indexAddr t x y) s.ev (getH s.H) s.H.length) dst l tr ops k s := rfl
theorem goOpD_index {tr : Tr} (t : TypeId) (x y : Operand) : goOpD P m n R (.index t x y) dst l tr ops k s = goResD P m n R (vop P (.index t x y) s.ev (getH s.H) s.H.length) dst l tr ops k s := rfl
theorem goOpD_extract {tr : Tr} (x : Operand) (i : Nat) : goOpD P m n R (.extract x i) dst l tr ops k s = goResD P m n R (vop P (.extract x i) s.ev (getH s.H) s.H.length) dst l tr ops k s := rfl
theorem goOpD_builtin {tr : Tr} (b : Builtin) (args : Array Operand) (ats : Array TypeId) : goOpD P m n R (.call ⟨.builtin b, args, ats⟩) dst l tr ops k s = goResD P m n R (vbuiltin P b ats.toList (args.toList.map s.ev) (getH s.H) s.H.length) dst l tr ops k s := rfl
theorem goOpD_call {tr : Tr} (f : Operand) (args : Array Operand) (ats : Array TypeId) : goOpD P m n R (.call ⟨.value f, args, ats⟩) dst l tr ops k s = goCallD P m n R (s.ev f) (args.toList.map s.ev) dst l tr ops k s := rfl
theorem goOpD_makeIface {tr : Tr} (t : TypeId) (x : Operand) : goOpD P m n R (.makeInterface t x) dst l tr ops k s = goResD P m n R (vop P (.makeInterface t x) s.ev (getH s.H) s.H.length) dst l tr ops k s := rfl
def goInvokeD (P : Program) (m n : Nat) (R : Exit → St → Prop) (v : V) (name : String) (args : List V) (dst : Option Tmp) (l : List Oper) (tr : Tr) (ops : Array Oper) (k : List Fr) (s : St) : Prop := vinvoke P v name args s.H (kD P m n R dst l tr ops k s)
theorem goOpD_invoke {tr : Tr} (x : Operand) (name : String) (args : Array Operand) (ats : Array TypeId) : goOpD P m n R (.call ⟨.invoke x name, args, ats⟩) dst l tr ops k s = goInvokeD P m n R (s.ev x) name (args.toList.map s.ev) dst l tr ops k s := rfl
theorem goInvokeD_to {tr : Tr} {t : TypeId} {v : V} {name : String} {args : List V} {f : FuncId} (h : methOf P t name = some f) : goInvokeD P m n R (.iface t v) name args dst l tr ops k s = goCallD P m n R (.fn f [] []) (v :: args) dst l tr ops k s := by
  unfold goInvokeD vinvoke
  simp only [h]
  rfl
/-- A call of a pure function. -/
theorem goCall_pure {f : FuncId} {fs cs args : List V} {v : V} (h : PureFn P f (fs ++ args ++ cs) v) (hk : goOps P m n R l ops k (s.put dst v)) : goCall P m n R (.fn f fs cs) args dst l ops k s := by
  refine ⟨{ v := v }, .inl ⟨f, fs, cs, rfl, h.1, trivial, h.2 _ _⟩, ?_⟩
  show vops P n ops l (s.after dst _) _
  unfold goOps at hk
  have : s.after dst { v := v } = s.put dst v := by unfold St.after St.put setOlds; simp
  rw [this]
  exact hk
theorem goCall_pure0 {f : FuncId} {args : List V} {v : V} (h : PureFn P f args v) (hk : goOps P m n R l ops k (s.put dst v)) : goCall P m n R (.fn f [] []) args dst l ops k s := goCall_pure (by simpa using h) hk
theorem goCallD_pure {tr : Tr} {f : FuncId} {fs cs args : List V} {v : V} (h : PureFn P f (fs ++ args ++ cs) v) (hk : goOpsD P m n R l (tr ++ [([], [])]) ops k (s.put dst v)) : goCallD P m n R (.fn f fs cs) args dst l tr ops k s := by
  refine ⟨{ v := v }, .inl ⟨f, fs, cs, rfl, h.1, trivial, h.2 _ _⟩, ?_, ?_⟩
  · intro x hx; cases hx
  · have h1 : foot s { v := v } = ([], []) := by unfold foot; simp
    have h2 : s.after dst { v := v } = s.put dst v := by unfold St.after St.put setOlds; simp
    rw [h1, h2]; exact hk
theorem goCallD_pure0 {tr : Tr} {f : FuncId} {args : List V} {v : V} (h : PureFn P f args v) (hk : goOpsD P m n R l (tr ++ [([], [])]) ops k (s.put dst v)) : goCallD P m n R (.fn f [] []) args dst l tr ops k s := goCallD_pure (by simpa using h) hk
theorem goCall_nat {f : FuncId} {args : List V} {v : V} (h : NatFn P f args v) (hk : goOps P m n R l ops k (s.put dst v)) : goCall P m n R (.fn f [] []) args dst l ops k s := by
  refine ⟨{ v := v }, .inr ⟨f, [], [], rfl, rfl, rfl, by simpa using h⟩, ?_⟩
  show vops P n ops l (s.after dst _) _
  unfold goOps at hk
  have : s.after dst { v := v } = s.put dst v := by unfold St.after St.put setOlds; simp
  rw [this]
  exact hk
theorem goCallD_nat {tr : Tr} {f : FuncId} {args : List V} {v : V} (h : NatFn P f args v) (hk : goOpsD P m n R l (tr ++ [([], [])]) ops k (s.put dst v)) : goCallD P m n R (.fn f [] []) args dst l tr ops k s := by
  refine ⟨{ v := v }, .inr ⟨f, [], [], rfl, rfl, rfl, by simpa using h⟩, ?_, ?_⟩
  · intro x hx; cases hx
  · have h1 : foot s { v := v } = ([], []) := by unfold foot; simp
    have h2 : s.after dst { v := v } = s.put dst v := by unfold St.after St.put setOlds; simp
    rw [h1, h2]; exact hk
/-- A loop. -/
theorem go_loop {c : Code} (I : Nat → St → Prop) (h0 : ∃ j s0, Weak m n s s0 ∧ I j s0) (hr : ∀ j s, I j s → m ≤ s.H.length → go P m n (seqQ (again m n I j) (kQ P m n R k)) c [] s) : go P m n R (.loop c) k s := ⟨I, h0, hr⟩
theorem seqQ_normal (K : St → Prop) (Q : Exit → St → Prop) : seqQ K Q .normal s = K s := rfl
theorem seqQ_exit (K : St → Prop) (Q : Exit → St → Prop) (id : Nat) : seqQ K Q (.exit id) s = Q (.exit id) s := rfl
theorem seqQ_ret (K : St → Prop) (Q : Exit → St → Prop) : seqQ K Q .ret s = Q .ret s := rfl
theorem kQ_gone (e : Exit) : kQ P m n R k e s = gone P m n R k e s := rfl
theorem retQ_ret (fn : Func) (K : V → St → Prop) : retQ P fn K .ret s = vresults P s fn.results.toList fun l => K (vtuple l) s := rfl
theorem retQ_normal (fn : Func) (K : V → St → Prop) : retQ P fn K .normal s = vresults P s fn.results.toList fun l => K (vtuple l) s := rfl
end

theorem ofValue_u8 (n : Int) (h : (0 ≤ n ∧ n < 256) = True) : ofValue (.int .u8 n) = .u8 (BitVec.ofInt 8 n) := if_pos (by rw [h]; trivial)
theorem ofValue_u32 (n : Int) (h : (0 ≤ n ∧ n < 4294967296) = True) : ofValue (.int .u32 n) = .u32 (BitVec.ofInt 32 n) := if_pos (by rw [h]; trivial)
theorem ofValue_u64 (n : Int) (h : (0 ≤ n ∧ n < 18446744073709551616) = True) : ofValue (.int .u64 n) = .u64 (BitVec.ofInt 64 n) := if_pos (by rw [h]; trivial)
theorem ofValue_i64 (n : Int) : ofValue (.int .i64 n) = .i64 n := rfl
theorem ofValue_i32 (n : Int) : ofValue (.int .i32 n) = .i32 n := rfl
theorem ofValue_bool (b : Bool) : ofValue (.bool b) = .bool b := rfl
theorem ofValue_str (b : ByteArray) : ofValue (.string b) = .str (bytesOf b) := rfl
theorem ofValue_nilSlice : ofValue (.slice none 0 0) = .nilSlice := rfl
theorem ofValue_nilPtr : ofValue (.pointer none) = .nilPtr := rfl
theorem ofValue_nilFunc : ofValue .nilFunc = .nilFn := rfl
theorem dstOk_some (n d : Nat) : dstOk n (some d) = (d < n) := rfl
theorem dstOk_none (n : Nat) : dstOk n none = True := rfl
theorem ev_tmp (s : St) (t : Tmp) : s.ev (.tmp t) = lookS s.t t := rfl
theorem ev_const (s : St) (v : Value) : s.ev (.const v) = ofValue v := rfl
theorem ev_func (s : St) (f : FuncId) : s.ev (.func f) = .fn f [] [] := rfl
theorem look_cons (i : Nat) (v : V) (r : List (Nat × V)) (t : Nat) : lookS ((i, v) :: r) t = if i = t then v else lookS r t := rfl
theorem look_nil (t : Nat) : lookS [] t = .junk := rfl
theorem after_some (t : List (Nat × V)) (H : List (Option Blk)) (d : Nat) (res : Res) : St.after ⟨t, H⟩ (some d) res = ⟨(d, res.v) :: t, setOlds H res.old ++ res.news⟩ := rfl
theorem after_none (t : List (Nat × V)) (H : List (Option Blk)) (res : Res) : St.after ⟨t, H⟩ none res = ⟨t, setOlds H res.old ++ res.news⟩ := rfl
theorem put_some (t : List (Nat × V)) (H : List (Option Blk)) (d : Nat) (v : V) : St.put ⟨t, H⟩ (some d) v = ⟨(d, v) :: t, H⟩ := rfl
theorem put_none (t : List (Nat × V)) (H : List (Option Blk)) (v : V) : St.put ⟨t, H⟩ none v = ⟨t, H⟩ := rfl
theorem olds_nil (H : List (Option Blk)) : setOlds H [] = H := rfl
theorem get_mk (t : List (Nat × V)) (H : List (Option Blk)) (i : Nat) : St.get ⟨t, H⟩ i = lookS t i := rfl
theorem vtuple_one (v : V) : vtuple [v] = v := rfl
theorem vtuple_two (v w : V) (l : List V) : vtuple (v :: w :: l) = .tup (v :: w :: l) := rfl
theorem vres_nil (P : Program) (s : St) (K : List V → Prop) : vresults P s [] K = K [] := rfl
theorem vres_tmp (P : Program) (s : St) (t : Nat) (r : List ResultVar) (K : List V → Prop) : vresults P s (.tmp t :: r) K = vresults P s r fun l => K (s.get t :: l) := rfl
attribute [go_sem] go_skip go_seq go_region go_cond go_block go_exit go_ret gone_nil gone_code_normal gone_code_exit gone_code_ret gone_blk_normal gone_blk_ret gone_blk_exit goOps_nil goOps_cons goG_none goG_some goGuard_bool goGuard_undef goCond_bool goRes_some goRes_none
attribute [go_sem] goOp_move goOp_assign goOp_bin goOp_un goOp_pick goOp_alloc goOp_box goOp_build goOp_buildSlice goOp_load goOp_store goOp_nilCheck goOp_convert goOp_s2a goOp_makeFunc goOp_makeSlice goOp_slice goOp_fieldAddr goOp_indexAddr goOp_index goOp_extract goOp_builtin goOp_call goOp_makeIface goOp_invoke
attribute [go_sem] seqQ_normal seqQ_exit seqQ_ret kQ_gone retQ_ret retQ_normal ofValue_u8 ofValue_u32 ofValue_u64 ofValue_i64 ofValue_i32 ofValue_bool ofValue_str ofValue_nilSlice ofValue_nilPtr ofValue_nilFunc dstOk_some dstOk_none ev_tmp ev_const ev_func look_cons look_nil after_some after_none put_some put_none olds_nil get_mk vtuple_one vtuple_two vres_nil vres_tmp
attribute [go_sem] go_draw goOpsD_nil goOpsD_cons goGD_none goGD_some goGuardD_bool goGuardD_undef goResD_some goResD_none goOpD_move goOpD_assign goOpD_bin goOpD_un goOpD_pick goOpD_alloc goOpD_box goOpD_build goOpD_buildSlice goOpD_load goOpD_store goOpD_nilCheck goOpD_convert goOpD_s2a goOpD_makeFunc goOpD_makeSlice goOpD_slice goOpD_fieldAddr goOpD_indexAddr goOpD_index goOpD_extract goOpD_builtin goOpD_call goOpD_makeIface goOpD_invoke
attribute [go_sem] vop vbin vuns argsT vint vint64 vstr vcnt vshift vun vconvInt guardSlot
end Go.Vm
namespace Go.Vm
theorem again_mk {m n : Nat} {I : Nat → St → Prop} {k : Nat} {s' : St} (k' : Nat) (s'' : St) (hk : k' < k) (ht : ∀ p ∈ s''.t, p.2 = s'.get p.1) (hl : s''.H.length = s'.H.length) (hH : ∀ b B, getH s''.H b = some B → getH s'.H b = some B) (hi : I k' s'') : again m n I k s' :=
  ⟨k', s'', hk, Weak.drop ht hl hH, hi⟩
theorem start_mk {m n : Nat} {I : Nat → St → Prop} {s : St} (k : Nat) (s0 : St) (ht : ∀ p ∈ s0.t, p.2 = s.get p.1) (hl : s0.H.length = s.H.length) (hH : ∀ b B, getH s0.H b = some B → getH s.H b = some B) (hi : I k s0) : ∃ k s0, Weak m n s s0 ∧ I k s0 :=
  ⟨k, s0, Weak.drop ht hl hH, hi⟩
end Go.Vm
end
