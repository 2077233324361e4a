/- States; a region's operations in the text's order; calls by what is known of the callee ('Spec'). -/
import Derived.Test.YtdghkibbiahbmaaVmL
set_option linter.unusedVariables false
set_option linter.unusedSimpArgs false
set_option linter.unusedSectionVars false
namespace Go.Vm

/-- A state: what is known of the slots (the latest first), and of memory. -/
structure St where
  t : List (Nat × V)
  H : List (Option Blk)

def lookS : List (Nat × V) → Nat → V
  | [], _ => .junk
  | (i, v) :: r, t => if i = t then v else lookS r t
def St.get (s : St) (t : Nat) : V := lookS s.t t
def getH (H : List (Option Blk)) (b : Nat) : Option Blk := (H[b]?).join
def St.ev (s : St) : Operand → V
  | .tmp t => s.get t
  | .const v => ofValue v
  | .func f => .fn f [] []
  | .global _ => .junk
def setOlds (H : List (Option Blk)) : List (Nat × Option Blk) → List (Option Blk)
  | [] => H
  | (i, x) :: r => (setOlds H r).set i x
def putS (t : List (Nat × V)) : Option Tmp → V → List (Nat × V)
  | some d, v => (d, v) :: t
  | none, _ => t
def St.after (s : St) (dst : Option Tmp) (res : Res) : St := ⟨putS s.t dst res.v, setOlds s.H res.old ++ res.news⟩
def St.put (s : St) (dst : Option Tmp) (v : V) : St := ⟨putS s.t dst v, s.H⟩
def dstOk (n : Nat) : Option Tmp → Prop
  | some d => d < n
  | none => True

/-- The machine's frame reads as T. -/
structure RelT (ρ : Nat → Nat × Nat) (dom : Nat → Prop) (w : World) (n : Nat) (T : Nat → V) (a : Act) : Prop where
  size : a.tmps.size = n
  defers : a.defers = []
  slot : ∀ t, VR ρ dom w (T t) (a.tmps.getD t undef)
/-- The machine's state reads as s. -/
structure RelSt (ρ : Nat → Nat × Nat) (n : Nat) (s : St) (a : Act) (w : World) : Prop where
  tmps : RelT ρ (· < s.H.length) w n s.get a
  mem : MemRel ρ (· < s.H.length) (getH s.H) w

section
variable {ρ ρ' : Nat → Nat × Nat} {dom dom' : Nat → Prop} {P : Program} {w w' : World} {n : Nat} {a : Act}

theorem RelT.mono {T : Nat → V} (h : RelT ρ dom w n T a) (hρ : ∀ b, dom b → ρ' b = ρ b) (hd : ∀ b, dom b → dom' b) (hl : Lasts w w') : RelT ρ' dom' w' n T a :=
  ⟨h.size, h.defers, fun t => (h.slot t).mono hρ hd hl⟩
theorem RelT.eval {s : St} (h : RelT ρ dom w n s.get a) (x : Operand) : VR ρ dom w (s.ev x) (a.eval x) := by
  cases x with
  | tmp t => exact h.slot t
  | const v => exact ofValue_sound v
  | global g => show VR ρ dom w .junk _; unfold VR; trivial
  | func f => show VR ρ dom w (.fn f [] []) _; unfold VR; exact ⟨#[], #[], rfl, VRs.nil, VRs.nil⟩
theorem put_tmps (a : Act) (d : Tmp) (r : Value) (t : Nat) (hd : d < a.tmps.size) : (a.put (some d) r).tmps.getD t undef = if d = t then r else a.tmps.getD t undef := by
  simp only [Act.put, Array.getD_eq_getD_getElem?, Array.getElem?_setIfInBounds]
  by_cases e : d = t
  · subst e; simp [hd]
  · simp [e]
theorem RelT.put {t : List (Nat × V)} {dst : Option Tmp} {v : V} {r : Value} (h : RelT ρ dom w n (lookS t) a) (hd : dstOk n dst) (hv : VR ρ dom w v r) : RelT ρ dom w n (lookS (putS t dst v)) (a.put dst r) := by
  cases dst with
  | none => exact h
  | some d =>
    refine ⟨by simpa [Act.put] using h.size, h.defers, fun t' => ?_⟩
    rw [put_tmps a d r t' (by rw [h.size]; exact hd)]
    show VR ρ dom w (if d = t' then v else lookS t t') _
    by_cases e : d = t'
    · rw [if_pos e, if_pos e]; exact hv
    · rw [if_neg e, if_neg e]; exact h.slot t'

theorem length_setOlds (H : List (Option Blk)) : ∀ old, (setOlds H old).length = H.length
  | [] => rfl
  | (i, x) :: r => by simp [setOlds, length_setOlds H r]
theorem get_setOlds (H : List (Option Blk)) : ∀ old (b : Nat), b < H.length → getH (setOlds H old) b = lookOld old b (getH H b)
  | [], _, _ => rfl
  | (i, x) :: r, b, hb => by
    have ih := get_setOlds H r b hb
    unfold getH at *
    simp only [setOlds, lookOld, List.getElem?_set]
    by_cases e : i = b
    · subst e
      rw [if_pos rfl, if_pos (by rw [length_setOlds]; exact hb), if_pos rfl]; rfl
    · rw [if_neg e, if_neg (fun x => e x.symm)]; exact ih
/-- What the list says after an operation, the machine's memory bears. -/
theorem get_after (s : St) (dst : Option Tmp) (res : Res) (b : Nat) (B : Blk) (h : getH (s.after dst res).H b = some B) : upd (getH s.H) res.old s.H.length res.news b = some B := by
  unfold upd
  show (if s.H.length ≤ b ∧ b < s.H.length + res.news.length then _ else _) = _
  have hl := length_setOlds s.H res.old
  simp only [St.after] at h
  by_cases hb : b < s.H.length
  · rw [if_neg (by omega), ← get_setOlds s.H res.old b hb]
    unfold getH at h ⊢
    rw [List.getElem?_append_left (by omega)] at h
    exact h
  · unfold getH at h
    rw [List.getElem?_append_right (by omega), hl] at h
    by_cases h2 : b < s.H.length + res.news.length
    · rw [if_pos ⟨by omega, h2⟩]; exact h
    · rw [List.getElem?_eq_none (by omega)] at h; cases h

/-- What is known of a function: called with these arguments it returns, and comes to res. -/
def Spec (P : Program) (f : FuncId) (args : List V) (get0 : Nat → Option Blk) (nid : Nat) (res : Res) : Prop :=
  ∀ (ρ : Nat → Nat × Nat) (dom : Nat → Prop) (get : Nat → Option Blk) (w : World) (rargs : Array Value), MemRel ρ dom get w → VRs ρ dom w args rargs.toList → (∀ b ∈ res.fp, get b = get0 b) → (∀ b, nid ≤ b → b < nid + res.news.length → ¬ dom b) →
    Calls P f rargs w fun e w' => ∃ r ρ', e = .returned r ∧ (∀ b, dom b → ρ' b = ρ b) ∧ MemRel ρ' (domWith dom nid res.news.length) (upd get res.old nid res.news) w' ∧ VR ρ' (domWith dom nid res.news.length) w' res.v r ∧ Frame ρ get w ρ' (upd get res.old nid res.news) w'
/-- Can it be called (a Go body, not a name that the machine keeps to itself)? -/
def callable (P : Program) (f : FuncId) : Bool := match P.funcs[f]? with
  | some fn => fn.name != "runtime.NumGoroutine" && fn.body.isSome
  | none => false
/-- A function without a body, for which the machine itself stands in: it answers at once, and nothing turns. -/
def NatFn (P : Program) (f : FuncId) (args : List V) (v : V) : Prop :=
  ∀ (ρ : Nat → Nat × Nat) (dom : Nat → Prop) (w : World) (rargs : Array Value), VRs ρ dom w args rargs.toList → ∃ r, (callFunc f rargs).run P w = .ok (.value r) w ∧ VR ρ dom w v r
/-- A call of a function value. -/
def VCall (P : Program) (fv : V) (args : List V) (get0 : Nat → Option Blk) (nid : Nat) (res : Res) : Prop :=
  (∃ f fs cs, fv = .fn f fs cs ∧ callable P f = true ∧ res.pre ∧ Spec P f (fs ++ args ++ cs) get0 nid res) ∨
  (∃ f fs cs, fv = .fn f fs cs ∧ res.old = [] ∧ res.news = [] ∧ NatFn P f (fs ++ args ++ cs) res.v)

/-- The rule of one operation: whatever the machine does, it comes to res. -/
def OpExec (P : Program) (o : Oper) (ev : Operand → V) (get0 : Nat → Option Blk) (nid : Nat) (res : Res) : Prop :=
  ∀ (ρ : Nat → Nat × Nat) (dom : Nat → Prop) (get : Nat → Option Blk) (w : World) (a : Act) (next : Act → World → Prop) (Q : Exit → Act → World → Prop),
    (∀ x ∈ o.op.operands.toList, VR ρ dom w (ev x) (a.eval x)) → MemRel ρ dom get w → (∀ b ∈ res.fp, get b = get0 b) → (∀ b, nid ≤ b → b < nid + res.news.length → ¬ dom b) →
    (∀ ρ' w' r, (∀ b, dom b → ρ' b = ρ b) → MemRel ρ' (domWith dom nid res.news.length) (upd get res.old nid res.news) w' → VR ρ' (domWith dom nid res.news.length) w' res.v r → Frame ρ get w ρ' (upd get res.old nid res.news) w' → next (a.put o.dst r) w') →
    o.wp P a w next Q

theorem OpExec.of_vop {o : Oper} {ev : Operand → V} {get0 : Nat → Option Blk} {nid : Nat} {res : Res} (h : vop P o.op ev get0 nid = some res) (hp : res.pre) : OpExec P o ev get0 nid res := by
  intro ρ dom get w a next Q hr hm hfp hd hn
  obtain ⟨ρ', w', r, h1, h2, h3, h4, h5⟩ := vop_sound h hp hr hm hfp hd
  unfold Oper.wp
  rcases h1 with h1 | ⟨h1, rfl⟩
  · rw [h1, Oper.upon_value]; exact hn ρ' w' r h2 h3 h4 h5
  · rw [h1, Oper.upon_skip]; exact hn ρ' w' undef h2 h3 h4 h5

theorem run_callFunc {f : FuncId} {args : Array Value} (h : callable P f = true) : (callFunc f args).run P w = .ok (.enter f args) w := by
  unfold callable at h
  unfold callFunc
  cases hf : P.funcs[f]? with
  | none => rw [hf] at h; cases h
  | some fn =>
    rw [hf] at h
    simp only [Bool.and_eq_true, bne_iff_ne] at h
    have h2 : fn.body ≠ none := fun e => by rw [e] at h; simp at h
    simp [hf, h.1, h2]

theorem OpExec.of_call {o : Oper} {c : Call} {fx : Operand} {ev : Operand → V} {get0 : Nat → Option Blk} {nid : Nat} {res : Res} (ho : o.op = .call c) (hc : c.callee = .value fx) (h : VCall P (ev fx) (c.args.toList.map ev) get0 nid res) : OpExec P o ev get0 nid res := by
  intro ρ dom get w a next Q hr hm hfp hd hn
  rcases h with ⟨f, fs, cs, hf, hcb, _, hs⟩ | ⟨f, fs, cs, hf, h0, h1, hs⟩
  rotate_left
  · rw [ho] at hr
    have hv := hr fx (by simp [Op.operands, Call.operands, hc])
    rw [hf] at hv
    unfold VR at hv
    obtain ⟨f', c', e, g1, g2⟩ := hv
    have hargs : VRs ρ dom w (c.args.toList.map ev) (c.args.toList.map a.eval) := list_reads fun y hy => hr y (by simp [Op.operands, Call.operands, hc]; exact .inr (by simpa using hy))
    obtain ⟨r, hn1, hn2⟩ := hs ρ dom w (f' ++ c.args.map a.eval ++ c') (by simpa using (g1.append hargs).append g2)
    have hrun : (execOp a.eval o).run P w = .ok (.value r) w := by
      unfold execOp
      rw [ho]
      simp only [resolve, hc, e, Deferred.ofValue, Sem.run_bind, Sem.run_pure, Result.andThen_ok, invoke, hn1]
    unfold Oper.wp
    rw [hrun, Oper.upon_value]
    have hsub : ∀ b, dom b → domWith dom nid res.news.length b := fun b hb => Or.inl hb
    refine hn ρ w r (fun _ _ => rfl) ?_ (hn2.mono (fun b _ => rfl) hsub (Lasts.refl _)) ?_
    · rw [h0, h1, upd_nil]; exact hm.monoDom fun b hb => Or.inl hb
    · rw [h0, h1, upd_nil]; exact Frame.refl ρ get w
  rw [ho] at hr
  have hv := hr fx (by simp [Op.operands, Call.operands, hc])
  rw [hf] at hv
  unfold VR at hv
  obtain ⟨f', c', e, g1, g2⟩ := hv
  have hargs : VRs ρ dom w (c.args.toList.map ev) (c.args.toList.map a.eval) := list_reads fun y hy => hr y (by simp [Op.operands, Call.operands, hc]; exact .inr (by simpa using hy))
  have hrun : (execOp a.eval o).run P w = .ok (.enter f (f' ++ c.args.map a.eval ++ c')) w := by
    unfold execOp
    rw [ho]
    simp only [resolve, hc, e, Deferred.ofValue, Sem.run_bind, Sem.run_pure, Result.andThen_ok, invoke, run_callFunc hcb]
  unfold Oper.wp
  rw [hrun, Oper.upon_enter]
  refine (hs ρ dom get w (f' ++ c.args.map a.eval ++ c') hm (by simpa using (g1.append hargs).append g2) hfp hd).mono fun e w' he => ?_
  obtain ⟨r, ρ', rfl, h2, h3, h4, h5⟩ := he
  exact hn ρ' w' r h2 h3 h4 h5

/-- What goes on behind an operation (the simplifier does not look into K). -/
def vthen (r : Option Res) (K : Res → Prop) : Prop := match r with
  | some res => res.pre ∧ K res
  | none => False
theorem vthen_some (r : Res) (K : Res → Prop) : vthen (some r) K = (r.pre ∧ K r) := rfl
theorem vthen_none (K : Res → Prop) : vthen none K = False := rfl
@[congr] theorem vthen_congr {r r' : Option Res} {K : Res → Prop} (h : r = r') : vthen r K = vthen r' K := by rw [h]
/-- A call: what is known of the callee is laid by hand. -/
def vcall (P : Program) (f : V) (args : List V) (H : List (Option Blk)) (K : Res → Prop) : Prop := ∃ res, VCall P f args (getH H) H.length res ∧ K res
@[congr] theorem vcall_congr {P : Program} {f f' : V} {args args' : List V} {H H' : List (Option Blk)} {K : Res → Prop} (h1 : f = f') (h2 : args = args') (h3 : H = H') : vcall P f args H K = vcall P f' args' H' K := by rw [h1, h2, h3]
/-- The rule of one operation, in the state s. -/
def vexec (P : Program) (o : Op) (s : St) (K : Res → Prop) : Prop := match o with
  | .call c => match c.callee with
    | .value f => vcall P (s.ev f) (c.args.toList.map s.ev) s.H K
    | .builtin b => vthen (vbuiltin P b c.argTypes.toList (c.args.toList.map s.ev) (getH s.H) s.H.length) K
    | .invoke _ _ => False
  | op => vthen (vop P op s.ev (getH s.H) s.H.length) K
@[congr] theorem vexec_congr {P : Program} {o : Op} {s s' : St} {K : Res → Prop} (h : s = s') : vexec P o s K = vexec P o s' K := by rw [h]
theorem vexec_sound {o : Oper} {s : St} {K : Res → Prop} (h : vexec P o.op s K) : ∃ res, OpExec P o s.ev (getH s.H) s.H.length res ∧ K res := by
  have fin : vthen (vop P o.op s.ev (getH s.H) s.H.length) K → ∃ res, OpExec P o s.ev (getH s.H) s.H.length res ∧ K res := fun h => by
    unfold vthen at h
    split at h
    · rename_i res hv; exact ⟨res, OpExec.of_vop hv h.1, h.2⟩
    · exact h.elim
  unfold vexec at h
  split at h
  · rename_i c hc
    split at h
    · rename_i f hf
      obtain ⟨res, h1, h2⟩ := h
      exact ⟨res, OpExec.of_call hc hf h1, h2⟩
    · rename_i b hb
      refine fin ?_
      rw [hc]
      simp only [vop, hb]
      exact h
    · exact h.elim
  · exact fin h

def guardSlot (ops : Array Oper) (j : Nat) : Option Tmp := (ops[j]?).bind (·.dst)
/-- Something that the simplifier does not look into. -/
def hold {α : Type} (x : α) : α := x
@[congr] theorem hold_congr {α : Type} (x : α) : hold x = hold x := rfl
/-- A guarded operation: does its guard want it? -/
def vguard (v : V) (want : Bool) (X Y : Prop) : Prop := match v with
  | .bool b => (b = want → X) ∧ (b ≠ want → Y)
  | .tup [] => Y
  | _ => False
/-- A region's operations, one behind the other. -/
def vops (P : Program) (n : Nat) (ops : Array Oper) : List Oper → St → (St → Prop) → Prop
  | [], s, K => K s
  | o :: rest, s, K => dstOk n o.dst ∧ match o.guard with
    | none => vexec P o.op s (hold fun res => vops P n ops rest (s.after o.dst res) K)
    | some (j, want) => match guardSlot ops j with
      | some d => d < n ∧ vguard (s.get d) want (vexec P o.op s (hold fun res => vops P n ops rest (s.after o.dst res) K)) (vops P n ops rest (s.put o.dst (.tup [])) K)
      | none => False
@[congr] theorem vops_congr {P : Program} {n : Nat} {ops : Array Oper} {l : List Oper} {s s' : St} {K : St → Prop} (h : s = s') : vops P n ops l s K = vops P n ops l s' K := by rw [h]

/-- What has become of it all, told of two states: nothing else has turned; the first m blocks lie where they lay. -/
def Step (m : Nat) (ρ : Nat → Nat × Nat) (s : St) (w : World) (ρ' : Nat → Nat × Nat) (s' : St) (w' : World) : Prop :=
  m ≤ s'.H.length ∧ (∀ b, b < m → ρ' b = ρ b) ∧ Frame ρ (getH s.H) w ρ' (getH s'.H) w'
theorem Step.refl {m : Nat} {s : St} (h : m ≤ s.H.length) : Step m ρ s w ρ s w := ⟨h, fun _ _ => rfl, Frame.refl _ _ _⟩
theorem Step.trans {m : Nat} {ρ'' : Nat → Nat × Nat} {s s' s'' : St} {w'' : World} (h : Step m ρ s w ρ' s' w') (k : Step m ρ' s' w' ρ'' s'' w'') : Step m ρ s w ρ'' s'' w'' :=
  ⟨k.1, fun b hb => (k.2.1 b hb).trans (h.2.1 b hb), h.2.2.trans k.2.2⟩

/-- The machine's rest of the way, told in the machine's words: from here on Q is met by what reads as a state that meets K. -/
def Lift (m n : Nat) (ρ : Nat → Nat × Nat) (s : St) (w : World) (K : St → Prop) (a' : Act) (w' : World) : Prop := ∃ s' ρ', K s' ∧ RelSt ρ' n s' a' w' ∧ Step m ρ s w ρ' s' w'

theorem wanted_some {ops : Array Oper} {o : Oper} {j d : Nat} {want b : Bool} (hg : o.guard = some (j, want)) (hs : guardSlot ops j = some d) (hd : d < a.tmps.size) (hv : a.tmps.getD d undef = .bool b) : Region.wanted o (yielded ops a.tmps) = (b == want) := by
  have hy : yielded ops a.tmps j = some b := by
    unfold yielded
    unfold guardSlot at hs
    rw [hs]
    have : a.tmps[d]? = some (.bool b) := by
      rw [Array.getD_eq_getD_getElem?] at hv
      cases hq : a.tmps[d]? with
      | none => simp at hq; omega
      | some x => rw [hq] at hv; simpa using hv
    simp [this]
  unfold Region.wanted
  rw [hg]
  simp only [hy]
  cases b <;> cases want <;> rfl

theorem wanted_undef {ops : Array Oper} {o : Oper} {j d : Nat} {want : Bool} (hg : o.guard = some (j, want)) (hs : guardSlot ops j = some d) (hv : a.tmps.getD d undef = .tuple #[]) : Region.wanted o (yielded ops a.tmps) = false := by
  have hy : yielded ops a.tmps j = none := by
    unfold yielded
    unfold guardSlot at hs
    rw [hs]
    rw [Array.getD_eq_getD_getElem?] at hv
    cases hq : a.tmps[d]? with
    | none => simp [hq]
    | some x =>
      rw [hq] at hv
      have : x = .tuple #[] := by simpa using hv
      subst this
      simp [hq]
  unfold Region.wanted
  rw [hg]
  simp only [hy]
  cases want <;> rfl
theorem undef_tup : VR ρ dom w (.tup []) undef := by unfold VR; exact ⟨#[], rfl, VRs.nil⟩
theorem after_rel {m : Nat} {s : St} {o : Oper} {res : Res} {r : Value} (h : RelSt ρ n s a w) (hm : m ≤ s.H.length) (hd : dstOk n o.dst) (hρ : ∀ b, b < s.H.length → ρ' b = ρ b)
    (h3 : MemRel ρ' (domWith (· < s.H.length) s.H.length res.news.length) (upd (getH s.H) res.old s.H.length res.news) w') (h4 : VR ρ' (domWith (· < s.H.length) s.H.length res.news.length) w' res.v r)
    (h5 : Frame ρ (getH s.H) w ρ' (upd (getH s.H) res.old s.H.length res.news) w') : RelSt ρ' n (s.after o.dst res) (a.put o.dst r) w' ∧ Step m ρ s w ρ' (s.after o.dst res) w' := by
  have hlen : (s.after o.dst res).H.length = s.H.length + res.news.length := by simp [St.after, length_setOlds]
  have hdm : ∀ b, domWith (· < s.H.length) s.H.length res.news.length b → b < (s.after o.dst res).H.length := fun b hb => by
    rw [hlen]
    rcases hb with hb | hb
    · have : b < s.H.length := hb; omega
    · exact hb.2
  have hg := get_after s o.dst res
  refine ⟨⟨?_, ?_⟩, ?_, ?_, ?_⟩
  · exact RelT.put (h.tmps.mono hρ (fun b hb => hdm b (.inl hb)) h5.lasts) hd (h4.mono (fun _ _ => rfl) hdm (Lasts.refl _))
  · exact (h3.less hg).monoDom hdm
  · rw [hlen]; omega
  · exact fun b hb => hρ b (by omega)
  · exact h5.less fun b B hB hro => ⟨b, B, hg b B hB, hro, rfl⟩

theorem vops_sound {m : Nat} {ops : Array Oper} {Q : Exit → Act → World → Prop} : ∀ (l : List Nat) (os : List Oper) (s : St) (K : St → Prop), l.map (ops[·]?) = os.map some → vops P n ops os s K → ∀ (ρ : Nat → Nat × Nat) (a : Act) (w : World), RelSt ρ n s a w → m ≤ s.H.length →
    (∀ a' w', Lift m n ρ s w K a' w' → Q .normal a' w') → wpOps P ops Q l a w
  | [], [], s, K, _, h, ρ, a, w, hr, hm, hq => hq a w ⟨s, ρ, h, hr, Step.refl hm⟩
  | [], _ :: _, _, _, hl, _, _, _, _, _, _, _ => by simp at hl
  | _ :: _, [], _, _, hl, _, _, _, _, _, _, _ => by simp at hl
  | i :: l, o :: os, s, K, hl, h, ρ, a, w, hr, hm, hq => by
    simp only [List.map_cons, List.cons.injEq] at hl
    obtain ⟨ho, hl⟩ := hl
    obtain ⟨hd, h⟩ := h
    have go : Region.wanted o (yielded ops a.tmps) = true → (vexec P o.op s fun res => vops P n ops os (s.after o.dst res) K) → wpOps P ops Q (i :: l) a w := fun hw hx => by
      obtain ⟨res, h1, h2⟩ := vexec_sound hx
      simp only [wpOps, ho, hw, if_true]
      refine .inl (h1 ρ (· < s.H.length) (getH s.H) w a _ Q (fun x _ => hr.tmps.eval x) hr.mem (fun _ _ => rfl) (fun b hb1 hb2 (hb3 : b < s.H.length) => by omega) ?_)
      intro ρ' w' r g1 g2 g3 g4
      obtain ⟨k1, k2⟩ := after_rel (m := m) hr hm hd g1 g2 g3 g4
      refine vops_sound l os _ K hl h2 ρ' _ w' k1 k2.1 fun a' w'' ⟨s', ρ'', q1, q2, q3⟩ => hq a' w'' ⟨s', ρ'', q1, q2, k2.trans q3⟩
    cases hg : o.guard with
    | none =>
      rw [hg] at h
      exact go (by unfold Region.wanted; rw [hg]) h
    | some g =>
      obtain ⟨j, want⟩ := g
      rw [hg] at h
      simp only at h
      split at h
      case h_2 => exact h.elim
      rename_i d hs
      obtain ⟨hdn, h⟩ := h
      unfold vguard at h
      split at h
      case h_3 => exact h.elim
      case h_2 =>
        rename_i hb
        have hv := hr.tmps.slot d
        rw [hb] at hv
        unfold VR at hv
        obtain ⟨a0, e0, l0⟩ := hv
        have ha0 : a0 = #[] := by unfold VRs at l0; exact Array.toList_eq_nil_iff.1 l0
        subst ha0
        have hw' := wanted_undef hg hs e0
        simp only [wpOps, ho, hw', Bool.false_eq_true, if_false]
        have k1 : RelSt ρ n (s.put o.dst (.tup [])) (a.put o.dst undef) w := ⟨RelT.put hr.tmps hd undef_tup, hr.mem⟩
        exact vops_sound l os _ K hl h ρ _ w k1 hm fun a' w'' ⟨s', ρ'', q1, q2, q3⟩ => hq a' w'' ⟨s', ρ'', q1, q2, q3⟩
      rename_i b hb
      obtain ⟨h1, h2⟩ := h
      have hv := hr.tmps.slot d
      rw [hb] at hv
      unfold VR at hv
      have hw := wanted_some hg hs (by rw [hr.tmps.size]; exact hdn) hv
      by_cases e : b = want
      · exact go (by rw [hw, e]; simp) (h1 e)
      · have hw' : Region.wanted o (yielded ops a.tmps) = false := by rw [hw]; simpa using e
        simp only [wpOps, ho, hw', Bool.false_eq_true, if_false]
        have k1 : RelSt ρ n (s.put o.dst (.tup [])) (a.put o.dst undef) w := ⟨RelT.put hr.tmps hd undef_tup, hr.mem⟩
        exact vops_sound l os _ K hl (h2 e) ρ _ w k1 hm fun a' w'' ⟨s', ρ'', q1, q2, q3⟩ => hq a' w'' ⟨s', ρ'', q1, q2, q3⟩

theorem region_sound {m id : Nat} {ops : Array Oper} {s : St} {K : St → Prop} {Q : Exit → Act → World → Prop} (h : vops P n ops ops.toList s K) (hr : RelSt ρ n s a w) (hm : m ≤ s.H.length) (hq : ∀ a' w', Lift m n ρ s w K a' w' → Q .normal a' w') : (Code.region id ops false).wp P Q a w :=
  wp_region (vops_sound (m := m) (List.range ops.size) ops.toList s K (by
    refine List.ext_getElem? fun i => ?_
    simp only [List.getElem?_map]
    by_cases hi : i < ops.size
    · simp [List.getElem?_range hi, hi]
    · rw [List.getElem?_eq_none (by simp; omega), List.getElem?_eq_none (by simp; omega)]; rfl) h ρ a w hr hm hq)
end
end Go.Vm
