/- A region that draws its order: 'draw_sound'. -/
import Derived.Test.YtdghkibbiahbmaaVmN
set_option linter.unusedVariables false
set_option linter.unusedSimpArgs false
set_option linter.unusedSectionVars false
namespace Go.Vm

/-- What one operation did in the text's order. -/
structure Ent where
  run : Bool
  res : Res
def GuardIs (ops : Array Oper) (n : Nat) (o : Oper) (s : St) (b : Bool) : Prop := match o.guard with
  | none => b = true
  | some (j, want) => ∃ d, guardSlot ops j = some d ∧ d < n ∧ ((∃ b', s.get d = .bool b' ∧ (b' == want) = b) ∨ (s.get d = .tup [] ∧ b = false))
def EntOk (P : Program) (n : Nat) (ops : Array Oper) (o : Oper) (s : St) (e : Ent) : Prop :=
  dstOk n o.dst ∧ GuardIs ops n o s e.run ∧ if e.run then OpExec P o s.ev (getH s.H) s.H.length e.res ∧ ∀ x ∈ e.res.old, x.1 < s.H.length else e.res = { v := .tup [] }
def Trace (P : Program) (n : Nat) (ops : Array Oper) : List Oper → St → List Ent → St → Prop
  | [], s, [], s' => s' = s
  | o :: l, s, e :: es, s' => EntOk P n ops o s e ∧ Trace P n ops l (s.after o.dst e.res) es s'
  | _, _, _, _ => False
def foot (s : St) (r : Res) : List Nat × List Nat := (r.fp, r.old.map (·.1) ++ List.range' s.H.length r.news.length)
def foots : List Oper → St → List Ent → List (List Nat × List Nat)
  | o :: l, s, e :: es => foot s e.res :: foots l (s.after o.dst e.res) es
  | _, _, _ => []
/-- The states that are passed through. -/
def stAt (s : St) : List Oper → List Ent → Nat → St
  | _, _, 0 => s
  | o :: l, e :: es, i + 1 => stAt (s.after o.dst e.res) l es i
  | _, _, _ => s

section
variable {P : Program} {n : Nat} {ops : Array Oper}

theorem trace_at : ∀ (l : List Oper) (s : St) (es : List Ent) (s' : St), Trace P n ops l s es s' → es.length = l.length ∧ stAt s l es l.length = s' ∧
    ∀ (i : Nat) o e, l[i]? = some o → es[i]? = some e → EntOk P n ops o (stAt s l es i) e ∧ stAt s l es (i + 1) = (stAt s l es i).after o.dst e.res ∧ (foots l s es)[i]? = some (foot (stAt s l es i) e.res)
  | [], s, [], s', h => ⟨rfl, h.symm, fun i o e ho => by simp at ho⟩
  | [], _, _ :: _, _, h => h.elim
  | _ :: _, _, [], _, h => h.elim
  | o :: l, s, e :: es, s', h => by
    obtain ⟨h1, h2⟩ := h
    obtain ⟨g1, g2, g3⟩ := trace_at l _ es s' h2
    refine ⟨by simp [g1], g2, fun i o' e' ho he => ?_⟩
    cases i with
    | zero =>
      simp at ho he; subst ho; subst he
      refine ⟨h1, ?_, rfl⟩
      cases l <;> cases es <;> rfl
    | succ i =>
      have := g3 i o' e' (by simpa using ho) (by simpa using he)
      simpa [stAt, foots] using this

/-- What an operation writes into a slot. -/
def wSlot (o : Oper) (e : Ent) (t : Nat) : Option V := if o.dst = some t then some e.res.v else none
/-- What it writes into a block. -/
def wBlk (s : St) (e : Ent) (b : Nat) : Option (Option Blk) :=
  if s.H.length ≤ b ∧ b < s.H.length + e.res.news.length then some (e.res.news[b - s.H.length]?).join
  else if b < s.H.length ∧ b ∈ e.res.old.map (·.1) then some (lookOld e.res.old b none) else none
def wsSlot : List Oper → List Ent → Nat → List (Option V)
  | o :: l, e :: es, t => wSlot o e t :: wsSlot l es t
  | _, _, _ => []
def wsBlk (s : St) : List Oper → List Ent → Nat → List (Option (Option Blk))
  | o :: l, e :: es, b => wBlk s e b :: wsBlk (s.after o.dst e.res) l es b
  | _, _, _ => []
theorem wsSlot_get : ∀ (l : List Oper) (es : List Ent) (t i : Nat) (o : Oper) (e : Ent), l[i]? = some o → es[i]? = some e → (wsSlot l es t)[i]? = some (wSlot o e t)
  | [], _, _, _, _, _, h, _ => by simp at h
  | _ :: _, [], _, _, _, _, _, h => by simp at h
  | o :: l, e :: es, t, 0, o', e', h, h' => by simp at h h'; subst h; subst h'; rfl
  | o :: l, e :: es, t, i + 1, o', e', h, h' => by simpa [wsSlot] using wsSlot_get l es t i o' e' (by simpa using h) (by simpa using h')
theorem wsBlk_get : ∀ (l : List Oper) (es : List Ent) (s : St) (b i : Nat) (o : Oper) (e : Ent), l[i]? = some o → es[i]? = some e → (wsBlk s l es b)[i]? = some (wBlk (stAt s l es i) e b)
  | [], _, _, _, _, _, _, h, _ => by simp at h
  | _ :: _, [], _, _, _, _, _, _, h => by simp at h
  | o :: l, e :: es, s, b, 0, o', e', h, h' => by simp at h h'; subst h; subst h'; rfl
  | o :: l, e :: es, s, b, i + 1, o', e', h, h' => by simpa [wsBlk, stAt] using wsBlk_get l es _ b i o' e' (by simpa using h) (by simpa using h')
theorem wsSlot_len : ∀ (l : List Oper) (es : List Ent) (t : Nat), es.length = l.length → (wsSlot l es t).length = l.length
  | [], [], _, _ => rfl
  | [], _ :: _, _, h => by simp at h
  | _ :: _, [], _, h => by simp at h
  | o :: l, e :: es, t, h => by simp [wsSlot, wsSlot_len l es t (by simpa using h)]
theorem wsBlk_len : ∀ (l : List Oper) (es : List Ent) (s : St) (t : Nat), es.length = l.length → (wsBlk s l es t).length = l.length
  | [], [], _, _, _ => rfl
  | [], _ :: _, _, _, h => by simp at h
  | _ :: _, [], _, _, h => by simp at h
  | o :: l, e :: es, s, t, h => by simp [wsBlk, wsBlk_len l es _ t (by simpa using h)]

theorem after_get (s : St) (o : Oper) (e : Ent) (t : Nat) : (s.after o.dst e.res).get t = (wSlot o e t).getD (s.get t) := by
  unfold wSlot St.get St.after putS
  cases o.dst with
  | none => simp
  | some d =>
    by_cases h : d = t
    · subst h; simp [lookS]
    · simp [lookS, h]
theorem lookOld_mem : ∀ (old : List (Nat × Option Blk)) (b : Nat) (d : Option Blk), lookOld old b d = if b ∈ old.map (·.1) then lookOld old b none else d
  | [], _, _ => rfl
  | (i, x) :: r, b, d => by
    by_cases h : b = i
    · subst h; simp [lookOld]
    · simp only [lookOld, if_neg h, List.map_cons, List.mem_cons, h, false_or]
      exact lookOld_mem r b d
theorem after_blk (s : St) (o : Oper) (e : Ent) (b : Nat) : getH (s.after o.dst e.res).H b = (wBlk s e b).getD (getH s.H b) := by
  have hl := length_setOlds s.H e.res.old
  unfold wBlk
  show getH (setOlds s.H e.res.old ++ e.res.news) b = _
  by_cases hb : b < s.H.length
  · rw [if_neg (by omega)]
    have : getH (setOlds s.H e.res.old ++ e.res.news) b = getH (setOlds s.H e.res.old) b := by
      unfold getH; rw [List.getElem?_append_left (by omega)]
    rw [this, get_setOlds s.H e.res.old b hb, lookOld_mem]
    by_cases hm : b ∈ e.res.old.map (·.1)
    · rw [if_pos hm, if_pos ⟨hb, hm⟩]; rfl
    · rw [if_neg hm, if_neg (fun h => hm h.2)]; rfl
  · have : getH (setOlds s.H e.res.old ++ e.res.news) b = (e.res.news[b - s.H.length]?).join := by
      unfold getH; rw [List.getElem?_append_right (by omega), hl]
    rw [this]
    by_cases h2 : b < s.H.length + e.res.news.length
    · rw [if_pos ⟨by omega, h2⟩]; rfl
    · rw [if_neg (by omega), if_neg (fun h => hb h.1), List.getElem?_eq_none (by omega)]
      show none = getH s.H b
      unfold getH; rw [List.getElem?_eq_none (by omega)]; rfl
/-- The state at i is what those ahead of i have written. -/
theorem st_pick {s0 s' : St} {l : List Oper} {es : List Ent} (h : Trace P n ops l s0 es s') : ∀ i, i ≤ l.length → (∀ t, (stAt s0 l es i).get t = pickW (fun j => decide (j < i)) (wsSlot l es t) 0 (s0.get t)) ∧
    (∀ b, getH (stAt s0 l es i).H b = pickW (fun j => decide (j < i)) (wsBlk s0 l es b) 0 (getH s0.H b)) := by
  obtain ⟨hl, _, hat⟩ := trace_at l s0 es s' h
  intro i
  induction i with
  | zero =>
    intro _
    have e0 : stAt s0 l es 0 = s0 := by cases l <;> cases es <;> rfl
    rw [e0]
    exact ⟨fun t => (pickW_none _ 0 _ fun j x _ => by simp).symm, fun b => (pickW_none _ 0 _ fun j x _ => by simp).symm⟩
  | succ i ih =>
    intro hi
    obtain ⟨ih1, ih2⟩ := ih (by omega)
    have ho : l[i]? = some (l[i]'(by omega)) := List.getElem?_eq_getElem _
    have he : es[i]? = some (es[i]'(by omega)) := List.getElem?_eq_getElem _
    obtain ⟨_, h2, _⟩ := hat i _ _ ho he
    rw [h2]
    have key : ∀ {α : Type} (ws : List (Option α)) (d : α) (o : Option α), ws[i]? = some o → o.getD (pickW (fun j => decide (j < i)) ws 0 d) = pickW (fun j => decide (j < i + 1)) ws 0 d := by
      intro α ws d o hw
      cases o with
      | none =>
        refine pickW_congr ws 0 d (fun j x hj => ?_)
        have : j ≠ i := fun e => by subst e; rw [hw] at hj; simp at hj
        simp only [Nat.zero_add]
        rw [Bool.eq_iff_iff]
        simp
        omega
      | some x =>
        refine (pickW_last ws 0 d i x hw (by simp) (fun j y hj _ => ?_)).symm
        simp
        omega
    exact ⟨fun t => by rw [after_get, ih1 t]; exact key _ _ _ (wsSlot_get l es t i _ _ ho he), fun b => by rw [after_blk, ih2 b]; exact key _ _ _ (wsBlk_get l es s0 b i _ _ ho he)⟩
end
end Go.Vm
