/- A function that works on memory: what is known of it over a small memory holds in every larger one, under other numbers. -/
import Derived.Test.YtdghkibbiahbmaaVmP2
set_option linter.unusedVariables false
set_option linter.unusedSimpArgs false
set_option linter.unusedSectionVars false
namespace Go.Vm
def Blk.ren (σ : Nat → Nat) (B : Blk) : Blk := ⟨B.ro, rens σ B.cs⟩
def renO (σ : Nat → Nat) (x : Option Blk) : Option Blk := x.map (Blk.ren σ)
def oldsOf (σ : Nat → Nat) : List Nat → List (Option Blk) → List (Nat × Option Blk)
  | i :: sg, x :: h => (i, renO σ x) :: oldsOf σ sg h
  | _, _ => []
def newsOf (σ : Nat → Nat) : List Nat → List (Option Blk) → List (Option Blk)
  | [], h => h.map (renO σ)
  | _ :: sg, _ :: h => newsOf σ sg h
  | _ :: _, [] => []
theorem newsOf_eq (σ : Nat → Nat) : ∀ (sg : List Nat) (h : List (Option Blk)), newsOf σ sg h = (h.drop sg.length).map (renO σ)
  | [], h => rfl
  | _ :: sg, x :: h => by rw [newsOf, newsOf_eq σ sg h]; rfl
  | _ :: _, [] => rfl
theorem lookOld_out {σ : Nat → Nat} {b : Nat} {d : Option Blk} : ∀ {sg : List Nat} {h : List (Option Blk)}, b ∉ sg → lookOld (oldsOf σ sg h) b d = d
  | [], _, _ => by unfold oldsOf; rfl
  | _ :: _, [], _ => by unfold oldsOf; rfl
  | i :: sg, x :: h, hb => by
    unfold oldsOf lookOld
    rw [if_neg (fun e => hb (by simp [e]))]
    exact lookOld_out (fun h' => hb (List.mem_cons_of_mem _ h'))
theorem lookOld_in {σ : Nat → Nat} {d : Option Blk} : ∀ {sg : List Nat} {h : List (Option Blk)} {i b : Nat}, sg.Nodup → sg[i]? = some b → i < h.length → lookOld (oldsOf σ sg h) b d = renO σ (h[i]?).join
  | [], _, _, _, _, hi, _ => by simp at hi
  | _ :: _, [], _, _, _, _, hl => by simp at hl
  | j :: sg, x :: h, 0, b, hnd, hi, hl => by
    simp at hi
    subst hi
    unfold oldsOf lookOld
    rw [if_pos rfl]; simp
  | j :: sg, x :: h, i + 1, b, hnd, hi, hl => by
    have hi' : sg[i]? = some b := by simpa using hi
    have hne : b ≠ j := fun e => by
      subst e
      exact (List.nodup_cons.1 hnd).1 (List.mem_of_getElem? hi')
    unfold oldsOf lookOld
    rw [if_neg hne, lookOld_in (List.nodup_cons.1 hnd).2 hi' (by simpa using hl)]
    simp
section
variable {P : Program} {f : FuncId} {args : List V} {h h' : List (Option Blk)} {v : V} {sg : List Nat} {get0 : Nat → Option Blk} {nid : Nat}
theorem sgOf_get {b : Nat} (hb : b < sg.length) : sg[b]? = some (sgOf sg b) := by
  unfold sgOf
  rw [List.getD_eq_getElem?_getD, List.getElem?_eq_getElem hb]; rfl
theorem sgOf_app_lt {l : List Nat} {b : Nat} (hb : b < sg.length) : sgOf (sg ++ l) b = sgOf sg b := by
  unfold sgOf
  rw [List.getD_eq_getElem?_getD, List.getD_eq_getElem?_getD, List.getElem?_append_left hb]
theorem sgOf_app_ge {k b : Nat} (hb : sg.length ≤ b) (hk : b < sg.length + k) : sgOf (sg ++ List.range' nid k) b = nid + (b - sg.length) := by
  unfold sgOf
  rw [List.getD_eq_getElem?_getD, List.getElem?_append_right hb, List.getElem?_range' (by omega)]; simp
theorem getH_some {H : List (Option Blk)} {b : Nat} {B : Blk} (e : getH H b = some B) : H[b]? = some (some B) := by
  have hl := getH_lt e
  unfold getH at e
  rw [List.getElem?_eq_getElem hl] at e ⊢
  simp at e
  rw [e]
/-- The small memory's numbers and the new ones, as the caller has them. -/
def sgNew (sg : List Nat) (nid : Nat) (h' : List (Option Blk)) : List Nat := sg ++ List.range' nid (h'.length - sg.length)
theorem spec_of_spec0 (hs : Spec0 P f args h v h') (hlen : sg.length = h.length) (hlow : lows h.length args) (hnd : sg.Nodup) (hsg : ∀ b ∈ sg, b < nid)
    (hall : ∀ b, b < h.length → ∃ B, getH h b = some B)
    (hblk : ∀ b B, getH h b = some B → get0 (sgOf sg b) = some ⟨B.ro, rens (sgOf sg) B.cs⟩ ∧ lows h.length B.cs)
    (hro : ∀ b B, getH h' b = some B → h.length ≤ b → B.ro = false) (hle : h.length ≤ h'.length) :
    Spec P f (rens (sgOf sg) args) get0 nid { v := v.ren (sgOf (sgNew sg nid h')), pre := True, fp := sg, old := oldsOf (sgOf (sgNew sg nid h')) sg h', news := newsOf (sgOf (sgNew sg nid h')) sg h' } := by
  intro ρ dom get w rargs hm hr hfp hdom
  have hnl : (newsOf (sgOf (sgNew sg nid h')) sg h').length = h'.length - h.length := by rw [newsOf_eq, List.length_map, List.length_drop, hlen]
  simp only [hnl] at hdom ⊢
  -- the caller's blocks
  have hgot : ∀ b B, getH h b = some B → get (sgOf sg b) = some ⟨B.ro, rens (sgOf sg) B.cs⟩ := fun b B e => by
    rw [hfp _ (List.mem_of_getElem? (sgOf_get (by rw [hlen]; exact getH_lt e)))]
    exact (hblk b B e).1
  have hinj : ∀ b b', b < h.length → b' < h.length → b ≠ b' → sgOf sg b ≠ sgOf sg b' := fun b b' hb hb' hne e => by
    have e1 := sgOf_get (sg := sg) (b := b) (by omega)
    have e2 := sgOf_get (sg := sg) (b := b') (by omega)
    rw [e] at e1
    rw [List.getElem?_eq_getElem (by omega)] at e1 e2
    exact hne ((List.getElem_inj hnd).1 (by rw [Option.some.inj e1, Option.some.inj e2]))
  have hm0 : MemRel (fun b => ρ (sgOf sg b)) (· < h.length) (getH h) w := by
    refine ⟨fun b B e => getH_lt e, fun b B e => hm.lt _ _ (hgot b B e), fun b b' B B' e e' hr' hne => hm.inj _ _ _ _ (hgot b B e) (hgot b' B' e') hr' (hinj b b' (getH_lt e) (getH_lt e') hne), fun b B e i v hv => ?_, fun b B e hr' i hi => ?_⟩
    · have h1 : (rens (sgOf sg) B.cs)[i]? = some (v.ren (sgOf sg)) := by rw [rens_eq, List.getElem?_map, hv]; rfl
      obtain ⟨r, g1, g2⟩ := hm.cell _ _ (hgot b B e) i _ h1
      exact ⟨r, g1, g2.unren (lows_get (hblk b B e).2 hv)⟩
    · exact hm.free _ _ (hgot b B e) hr' i (by show i < (rens (sgOf sg) B.cs).length; rw [rens_eq, List.length_map]; exact hi)
  refine (hs _ w rargs (hr.unren hlow) hm0).mono ?_
  rintro e w' ⟨r, ρ', rfl, k1, k2, k3, k4, k5⟩
  -- the new relation
  have hnew : ∀ b, nid ≤ b → b < nid + (h'.length - h.length) → ¬ dom b := hdom
  have hdsg : ∀ b, b < h.length → dom (sgOf sg b) := fun b hb => by
    obtain ⟨B, e⟩ := hall b hb
    exact hm.has _ _ (hgot b B e)
  have hsgn : ∀ b, b < h.length → sgOf sg b < nid := fun b hb => hsg _ (List.mem_of_getElem? (sgOf_get (by omega)))
  let ρ1 : Nat → Nat × Nat := fun b => if nid ≤ b ∧ b < nid + (h'.length - h.length) then ρ' (h.length + (b - nid)) else ρ b
  have hρ1 : ∀ b, b < h'.length → ρ1 (sgOf (sgNew sg nid h') b) = ρ' b := fun b hb => by
    by_cases hb2 : b < h.length
    · rw [sgNew, sgOf_app_lt (by omega)]
      show (if _ then _ else _) = _
      rw [if_neg (by have := hsgn b hb2; omega), k4 b hb2]
    · rw [sgNew, sgOf_app_ge (by omega) (by omega)]
      show (if _ then _ else _) = _
      rw [if_pos (by omega)]
      congr 1; omega
  have hd1 : ∀ b, b < h'.length → domWith dom nid (h'.length - h.length) (sgOf (sgNew sg nid h') b) := fun b hb => by
    by_cases hb2 : b < h.length
    · rw [sgNew, sgOf_app_lt (by omega)]; exact .inl (hdsg b hb2)
    · rw [sgNew, sgOf_app_ge (by omega) (by omega)]; exact .inr ⟨by omega, by omega⟩
  -- what lies where
  have cases1 : ∀ b B, upd get (oldsOf (sgOf (sgNew sg nid h')) sg h') nid (newsOf (sgOf (sgNew sg nid h')) sg h') b = some B →
      (∃ c C, getH h' c = some C ∧ B = C.ren (sgOf (sgNew sg nid h')) ∧ b = sgOf (sgNew sg nid h') c ∧ c < h'.length) ∨ (get b = some B ∧ b ∉ sg ∧ ¬ (nid ≤ b ∧ b < nid + (h'.length - h.length))) := fun b B e => by
    unfold upd at e
    rw [hnl] at e
    by_cases hb : nid ≤ b ∧ b < nid + (h'.length - h.length)
    · rw [if_pos hb, newsOf_eq, List.getElem?_map, List.getElem?_drop, hlen] at e
      left
      have hl : h.length + (b - nid) < h'.length := by omega
      rw [List.getElem?_eq_getElem hl] at e
      simp only [Option.map_some, Option.join_some] at e
      obtain ⟨C, e1, e2⟩ : ∃ C, h'[h.length + (b - nid)] = some C ∧ B = C.ren (sgOf (sgNew sg nid h')) := by
        unfold renO at e
        cases hx : h'[h.length + (b - nid)] with
        | none => rw [hx] at e; simp at e
        | some C => rw [hx] at e; simp at e; exact ⟨C, rfl, e.symm⟩
      refine ⟨h.length + (b - nid), C, ?_, e2, ?_, hl⟩
      · unfold getH; rw [List.getElem?_eq_getElem hl, e1]; rfl
      · rw [sgNew, sgOf_app_ge (by omega) (by omega)]; omega
    · rw [if_neg hb] at e
      by_cases hin : b ∈ sg
      · obtain ⟨i, hi, hib⟩ := List.mem_iff_getElem.1 hin
        left
        have hi' : sg[i]? = some b := by rw [List.getElem?_eq_getElem hi, hib]
        rw [lookOld_in hnd hi' (by omega)] at e
        have hsb : sgOf sg i = b := by have := sgOf_get (sg := sg) hi; rw [hi'] at this; exact (Option.some.inj this).symm
        obtain ⟨C, e1, e2⟩ : ∃ C, getH h' i = some C ∧ B = C.ren (sgOf (sgNew sg nid h')) := by
          unfold renO at e
          cases hx : (h'[i]?).join with
          | none => rw [hx] at e; simp at e
          | some C => rw [hx] at e; simp at e; exact ⟨C, hx, e.symm⟩
        exact ⟨i, C, e1, e2, by rw [sgNew, sgOf_app_lt hi, hsb], by omega⟩
      · rw [lookOld_out hin] at e
        exact .inr ⟨e, hin, hb⟩
  have away : ∀ b B, get b = some B → b ∉ sg → ∀ b0 B0, getH h b0 = some B0 → B0.ro = false → (ρ (sgOf sg b0)).1 ≠ (ρ b).1 := fun b B e hb b0 B0 e0 hr0 => by
    refine hm.inj _ _ _ _ (hgot b0 B0 e0) e hr0 (fun e1 => hb ?_)
    rw [← e1]; exact List.mem_of_getElem? (sgOf_get (by rw [hlen]; exact getH_lt e0))
  have still : ∀ b B, get b = some B → b ∉ sg → w'.heap[(ρ b).1]? = w.heap[(ρ b).1]? := fun b B e hb => k5.keep _ (hm.lt b B e) fun b0 B0 e0 hr0 => away b B e hb b0 B0 e0 hr0
  have hρout : ∀ b, ¬ (nid ≤ b ∧ b < nid + (h'.length - h.length)) → ρ1 b = ρ b := fun b hb => if_neg hb
  have hρdom : ∀ b, dom b → ρ1 b = ρ b := fun b hb => hρout b fun h => hnew b h.1 h.2 hb
  refine ⟨r, ρ1, rfl, hρdom, ?_, k1.doren hd1 hρ1, ?_⟩
  · refine ⟨fun b B e => ?_, fun b B e => ?_, fun b b' B B' e e' hr' hne => ?_, fun b B e i v hv => ?_, fun b B e hr' i hi => ?_⟩
    · rcases cases1 b B e with ⟨c, C, e1, rfl, rfl, hc⟩ | ⟨e1, _, _⟩
      · exact hd1 c hc
      · exact .inl (hm.has _ _ e1)
    · rcases cases1 b B e with ⟨c, C, e1, rfl, rfl, hc⟩ | ⟨e1, _, hb⟩
      · rw [hρ1 c hc]; exact k2.lt _ _ e1
      · rw [hρout b hb]; exact Nat.lt_of_lt_of_le (hm.lt _ _ e1) k5.size
    · rcases cases1 b B e with ⟨c, C, e1, rfl, rfl, hc⟩ | ⟨e1, hb1, hb⟩ <;> rcases cases1 b' B' e' with ⟨c', C', e1', rfl, rfl, hc'⟩ | ⟨e1', hb1', hb'⟩
      · rw [hρ1 c hc, hρ1 c' hc']
        exact k2.inj _ _ _ _ e1 e1' hr' (fun e2 => hne (by rw [e2]))
      · rw [hρ1 c hc, hρout b' hb']
        rcases k5.own c C e1 hr' with ⟨b0, B0, e0, hr0, hx⟩ | hx
        · rw [← hx]; exact away b' B' e1' hb1' b0 B0 e0 hr0
        · have := hm.lt _ _ e1'; omega
      · rw [hρout b hb, hρ1 c' hc']
        by_cases hc2 : c' < h.length
        · rw [k4 c' hc2]
          obtain ⟨B0, e0⟩ := hall c' hc2
          refine hm.inj _ _ _ _ e1 (hgot c' B0 e0) hr' (fun e2 => hb1 ?_)
          rw [e2]; exact List.mem_of_getElem? (sgOf_get (by omega))
        · have hcro := hro c' C' e1' (by omega)
          rcases k5.own c' C' e1' hcro with ⟨b0, B0, e0, hr0, hx⟩ | hx
          · rw [← hx]; exact fun e2 => away b B e1 hb1 b0 B0 e0 hr0 e2.symm
          · have := hm.lt _ _ e1; omega
      · rw [hρout b hb, hρout b' hb']
        exact hm.inj _ _ _ _ e1 e1' hr' hne
    · rcases cases1 b B e with ⟨c, C, e1, rfl, rfl, hc⟩ | ⟨e1, hb1, hb⟩
      · rw [hρ1 c hc]
        have h2 : ∃ u, C.cs[i]? = some u ∧ v = u.ren (sgOf (sgNew sg nid h')) := by
          have hv' : (rens (sgOf (sgNew sg nid h')) C.cs)[i]? = some v := hv
          rw [rens_eq, List.getElem?_map] at hv'
          cases hu : C.cs[i]? with
          | none => rw [hu] at hv'; simp at hv'
          | some u => rw [hu] at hv'; simp at hv'; exact ⟨u, rfl, hv'.symm⟩
        obtain ⟨u, hu, rfl⟩ := h2
        obtain ⟨r, g1, g2⟩ := k2.cell _ _ e1 i u hu
        exact ⟨r, g1, g2.doren hd1 hρ1⟩
      · rw [hρout b hb]
        obtain ⟨r, g1, g2⟩ := hm.cell _ _ e1 i v hv
        refine ⟨r, ?_, g2.mono hρdom (fun b hb => .inl hb) k5.lasts⟩
        rw [World.cell?_of_block (w := w) (a := ⟨(ρ b).1, (ρ b).2 + i, none⟩) (still b B e1 hb1)]; exact g1
    · rcases cases1 b B e with ⟨c, C, e1, rfl, rfl, hc⟩ | ⟨e1, hb1, hb⟩
      · rw [hρ1 c hc]
        exact k2.free _ _ e1 hr' i (by have h3 : i < (rens (sgOf (sgNew sg nid h')) C.cs).length := hi; rw [rens_eq, List.length_map] at h3; exact h3)
      · rw [hρout b hb, World.frozen?_of_block (w := w) (a := ⟨(ρ b).1, (ρ b).2 + i, none⟩) (still b B e1 hb1)]
        exact hm.free _ _ e1 hr' i hi
  · refine ⟨k5.os, k5.output, k5.tape, k5.size, fun r hr hb => k5.keep r hr fun b B e hro' => ?_, k5.lasts, fun b B e hro' => ?_⟩
    · exact hb _ _ (hgot b B e) hro'
    · rcases cases1 b B e with ⟨c, C, e1, rfl, rfl, hc⟩ | ⟨e1, hb1, hb⟩
      · rw [hρ1 c hc]
        rcases k5.own c C e1 hro' with ⟨b0, B0, e0, hr0, hx⟩ | hx
        · exact .inl ⟨_, _, hgot b0 B0 e0, hr0, hx⟩
        · exact .inr hx
      · exact .inl ⟨b, B, e1, hro', by rw [hρout b hb]⟩
end
end Go.Vm
