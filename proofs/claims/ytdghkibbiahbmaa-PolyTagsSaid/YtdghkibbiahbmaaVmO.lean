/- Code: what must be shown of it ('vc'); functions: what is known of them ('Spec0', 'PureFn'). -/
import Derived.Test.YtdghkibbiahbmaaVmN3
set_option linter.unusedVariables false
set_option linter.unusedSimpArgs false
set_option linter.unusedSectionVars false
namespace Go.Vm
section
variable {ρ ρ' : Nat → Nat × Nat} {dom dom' : Nat → Prop} {P : Program} {w w' : World} {n : Nat} {a : Act}

/-- s' says no more than s. -/
def Weak (m n : Nat) (s s' : St) : Prop := ∀ (ρ : Nat → Nat × Nat) (a : Act) (w : World), RelSt ρ n s a w → m ≤ s.H.length → ∃ ρ', RelSt ρ' n s' a w ∧ Step m ρ s w ρ' s' w
theorem Weak.refl (m n : Nat) (s : St) : Weak m n s s := fun ρ _ _ h hm => ⟨ρ, h, Step.refl hm⟩
theorem Weak.trans {m n : Nat} {s s' s'' : St} (h : Weak m n s s') (k : Weak m n s' s'') : Weak m n s s'' := fun ρ a w hr hm => by
  obtain ⟨ρ1, h1, h2⟩ := h ρ a w hr hm
  obtain ⟨ρ2, h3, h4⟩ := k ρ1 a w h1 h2.1
  exact ⟨ρ2, h3, h2.trans h4⟩
/-- Slots are forgotten, blocks are forgotten, none is moved. -/
theorem Weak.drop {m n : Nat} {s s' : St} (ht : ∀ p ∈ s'.t, p.2 = s.get p.1) (hl : s'.H.length = s.H.length) (hH : ∀ b B, getH s'.H b = some B → getH s.H b = some B) : Weak m n s s' := fun ρ a w hr hm => by
  refine ⟨ρ, ⟨⟨hr.tmps.size, hr.tmps.defers, fun t => ?_⟩, (hr.mem.less hH).monoDom (fun b hb => by rw [hl]; exact hb)⟩, by rw [hl]; exact hm, fun _ _ => rfl, ?_⟩
  · have : ∀ (l : List (Nat × V)), (∀ p ∈ l, p.2 = s.get p.1) → VR ρ (· < s.H.length) w (lookS l t) (a.tmps.getD t undef) := by
      intro l
      induction l with
      | nil => intro _; show VR _ _ _ .junk _; unfold VR; trivial
      | cons p l ih =>
        intro h
        simp only [lookS]
        split
        · rename_i e
          rw [h p (by simp), e]
          exact hr.tmps.slot t
        · exact ih fun q hq => h q (by simp [hq])
    rw [hl]
    exact this s'.t ht
  · exact (Frame.refl ρ (getH s.H) w).less fun b B hB hro => ⟨b, B, hH b B hB, hro, rfl⟩

def seqQ (K : St → Prop) (Q : Exit → St → Prop) : Exit → St → Prop
  | .normal, s => K s
  | e, s => Q e s
def blockQ (id : Nat) (Q : Exit → St → Prop) : Exit → St → Prop
  | .exit i, s => if i = id then Q .normal s else Q (.exit i) s
  | e, s => Q e s
def okExit : Exit → Prop
  | .panic _ | .outgrown | .goto _ => False
  | _ => True

theorem wp_loop_ix {c : Code} {a : Act} {w : World} {Q : Exit → Act → World → Prop} (R : Nat → Act → World → Prop) {k0 : Nat} (h0 : R k0 a w)
    (round : ∀ k a w, R k a w → c.wp P (Exit.then (fun a' w' => ∃ k', k' < k ∧ R k' a' w') Q) a w) : (Code.loop c).wp P Q a w := by
  intro b k cs
  have key : ∀ n a w, R n a w → ∃ e a' w', Q e a' w' ∧ Arrives P (lone (b.at a (.code c :: .inLoop c :: k)) cs w) b k cs e a' w' := by
    intro n
    induction n using Nat.strongRecOn with
    | _ n ih =>
      intro a w hI
      obtain ⟨e, a₁, w₁, hq, harr⟩ := round n a w hI b (.inLoop c :: k) cs
      cases e with
      | normal =>
        obtain ⟨k', hlt, hI₁⟩ := hq
        obtain ⟨e₂, a₂, w₂, hq₂, harr₂⟩ := ih k' hlt a₁ w₁ hI₁
        exact ⟨e₂, a₂, w₂, hq₂, .of_steps (Steps.trans harr (.one step_inLoop)) harr₂⟩
      | exit id => exact ⟨_, a₁, w₁, hq, .pass (x := .inLoop c) rfl (fun _ _ => .inl (by simp)) harr⟩
      | goto l => exact ⟨_, a₁, w₁, hq, .pass (x := .inLoop c) rfl (fun _ _ => .inl (by simp)) harr⟩
      | ret => exact ⟨_, a₁, w₁, hq, .pass (x := .inLoop c) rfl (fun _ _ => .inl (by simp)) harr⟩
      | panic ch => exact ⟨_, a₁, w₁, hq, .pass (x := .inLoop c) rfl (fun _ _ => .inl (by simp)) harr⟩
      | outgrown => exact ⟨_, a₁, w₁, hq, .pass (x := .inLoop c) rfl (fun _ _ => .inl (by simp)) harr⟩
  obtain ⟨e, a', w', hq, harr⟩ := key _ a w h0
  exact ⟨e, a', w', hq, .of_steps (.one step_loop) harr⟩

/-- A round's end: something smaller, told again. -/
def again (m n : Nat) (I : Nat → St → Prop) (k : Nat) (s' : St) : Prop := ∃ k' s'', k' < k ∧ Weak m n s' s'' ∧ I k' s''
/-- A loop: a relation I that each round keeps, and a number that goes down. -/
def vloop (m n : Nat) (body : (Exit → St → Prop) → St → Prop) (Q : Exit → St → Prop) (s : St) : Prop :=
  ∃ I : Nat → St → Prop, (∃ k s0, Weak m n s s0 ∧ I k s0) ∧ ∀ k s, I k s → m ≤ s.H.length → body (seqQ (again m n I k) Q) s
@[congr] theorem vloop_congr {m n : Nat} {body : (Exit → St → Prop) → St → Prop} {Q : Exit → St → Prop} {s s' : St} (h : s = s') : vloop m n body Q s = vloop m n body Q s' := by rw [h]
@[congr] theorem seqQ_congr {K : St → Prop} {Q : Exit → St → Prop} {e : Exit} {s s' : St} (h : s = s') : seqQ K Q e s = seqQ K Q e s' := by rw [h]
@[congr] theorem blockQ_congr {id : Nat} {Q : Exit → St → Prop} {e : Exit} {s s' : St} (h : s = s') : blockQ id Q e s = blockQ id Q e s' := by rw [h]
/-- A test. -/
def vcond (v : V) (X Y : Prop) : Prop := match v with
  | .bool b => (b = true → X) ∧ (b = false → Y)
  | _ => False
/-- What must be shown of a piece of code, begun in s, so that it ends as Q says. -/
def vc (P : Program) (m n : Nat) : Code → (Exit → St → Prop) → St → Prop
  | .skip, Q, s => Q .normal s
  | .label _, Q, s => Q .normal s
  | .region id ops draw, Q, s => match draw with
    | true => vdraw P n ops (Q .normal) ops.toList [] s
    | false => vops P n ops ops.toList s (Q .normal)
  | .seq x y, Q, s => vc P m n x (seqQ (vc P m n y Q) Q) s
  | .cond c x y, Q, s => vcond (s.ev c) (vc P m n x Q s) (vc P m n y Q s)
  | .block id c, Q, s => vc P m n c (blockQ id Q) s
  | .loop c, Q, s => vloop m n (vc P m n c) Q s
  | .exit id, Q, s => Q (.exit id) s
  | .ret, Q, s => Q .ret s
  | .scope _, _, _ => False
  | .goto _, _, _ => False
  | .rangeFunc _ _ _ _, _, _ => False
  | .refuse _, _, _ => False

@[congr] theorem vc_congr {P : Program} {m n : Nat} {c : Code} {Q : Exit → St → Prop} {s s' : St} (h : s = s') : vc P m n c Q s = vc P m n c Q s' := by rw [h]

/-- The machine's words for 'ends as Q says'. -/
def LiftE (m n : Nat) (ρ : Nat → Nat × Nat) (s : St) (w : World) (Q : Exit → St → Prop) (e : Exit) (a' : Act) (w' : World) : Prop := ∃ s' ρ', Q e s' ∧ RelSt ρ' n s' a' w' ∧ Step m ρ s w ρ' s' w'

theorem vc_sound (hmix : P.follows .mixedOrders = true) {m : Nat} : ∀ (c : Code) (Q : Exit → St → Prop) (s : St), vc P m n c Q s → ∀ (ρ : Nat → Nat × Nat) (a : Act) (w : World), RelSt ρ n s a w → m ≤ s.H.length → c.wp P (LiftE m n ρ s w Q) a w
  | .skip, Q, s, h, ρ, a, w, hr, hm => wp_skip ⟨s, ρ, h, hr, Step.refl hm⟩
  | .label _, Q, s, h, ρ, a, w, hr, hm => wp_label ⟨s, ρ, h, hr, Step.refl hm⟩
  | .region id ops true, Q, s, h, ρ, a, w, hr, hm => vdraw_sound (id := id) hmix h ρ a w _ hr hm fun _ _ ⟨s', ρ', q1, q2, q3⟩ => ⟨s', ρ', q1, q2, q3⟩
  | .region id ops false, Q, s, h, ρ, a, w, hr, hm => region_sound h hr hm fun _ _ ⟨s', ρ', q1, q2, q3⟩ => ⟨s', ρ', q1, q2, q3⟩
  | .seq x y, Q, s, h, ρ, a, w, hr, hm => by
    refine wp_seq (wp_mono (vc_sound hmix x _ s h ρ a w hr hm) ?_)
    rintro e a' w' ⟨s', ρ', q1, q2, q3⟩
    cases e
    case normal => exact wp_mono (vc_sound hmix y Q s' q1 ρ' a' w' q2 q3.1) fun e a'' w'' ⟨s'', ρ'', r1, r2, r3⟩ => ⟨s'', ρ'', r1, r2, q3.trans r3⟩
    all_goals exact ⟨s', ρ', q1, q2, q3⟩
  | .cond c x y, Q, s, h, ρ, a, w, hr, hm => by
    simp only [vc, vcond] at h
    split at h
    case h_2 => exact h.elim
    rename_i b hb
    have hv := hr.tmps.eval c
    rw [hb] at hv
    unfold VR at hv
    exact wp_cond_split hv (fun ht => vc_sound hmix x Q s (h.1 ht) ρ a w hr hm) (fun hf => vc_sound hmix y Q s (h.2 hf) ρ a w hr hm)
  | .block id c, Q, s, h, ρ, a, w, hr, hm => by
    refine wp_block (wp_mono (vc_sound hmix c _ s h ρ a w hr hm) ?_)
    rintro e a' w' ⟨s', ρ', q1, q2, q3⟩
    cases e
    case exit i =>
      simp only [blockQ] at q1
      simp only [Exit.inBlock]
      split at q1
      · rename_i e; rw [if_pos e]; exact ⟨s', ρ', q1, q2, q3⟩
      · rename_i e; rw [if_neg e]; exact ⟨s', ρ', q1, q2, q3⟩
    all_goals exact ⟨s', ρ', q1, q2, q3⟩
  | .loop c, Q, s, h, ρ, a, w, hr, hm => by
    obtain ⟨I, ⟨k0, s0, hw0, hi0⟩, round⟩ := h
    obtain ⟨ρ0, hr0, hs0⟩ := hw0 ρ a w hr hm
    refine wp_loop_ix (fun k a1 w1 => ∃ s1 ρ1, I k s1 ∧ RelSt ρ1 n s1 a1 w1 ∧ Step m ρ s w ρ1 s1 w1) (k0 := k0) ⟨s0, ρ0, hi0, hr0, hs0⟩ ?_
    rintro k a1 w1 ⟨s1, ρ1, hi, hr1, hs1⟩
    refine wp_mono (vc_sound hmix c _ s1 (round k s1 hi hs1.1) ρ1 a1 w1 hr1 hs1.1) ?_
    rintro e a2 w2 ⟨s2, ρ2, q1, q2, q3⟩
    cases e
    case normal =>
      obtain ⟨k', s3, hk, hw, hi'⟩ := q1
      obtain ⟨ρ3, hr3, hs3⟩ := hw ρ2 a2 w2 q2 q3.1
      exact ⟨k', hk, s3, ρ3, hi', hr3, (hs1.trans q3).trans hs3⟩
    all_goals exact ⟨s2, ρ2, q1, q2, hs1.trans q3⟩
  | .exit id, Q, s, h, ρ, a, w, hr, hm => wp_exit ⟨s, ρ, h, hr, Step.refl hm⟩
  | .ret, Q, s, h, ρ, a, w, hr, hm => wp_ret ⟨s, ρ, h, hr, Step.refl hm⟩
  | .scope _, _, _, h, _, _, _, _, _ => h.elim
  | .goto _, _, _, h, _, _, _, _, _ => h.elim
  | .rangeFunc _ _ _ _, _, _, h, _, _, _, _, _ => h.elim
  | .refuse _, _, _, h, _, _, _, _, _ => h.elim
theorem vthen_mono {r : Option Res} {K K' : Res → Prop} (h : ∀ r, K r → K' r) (hv : vthen r K) : vthen r K' := by
  unfold vthen at *
  split at hv
  · exact ⟨hv.1, h _ hv.2⟩
  · exact hv
theorem vexec_mono {o : Op} {s : St} {K K' : Res → Prop} (h : ∀ r, K r → K' r) (hv : vexec P o s K) : vexec P o s K' := by
  unfold vexec at *
  split at hv
  · split at hv
    · obtain ⟨res, h1, h2⟩ := hv; exact ⟨res, h1, h _ h2⟩
    · exact vthen_mono h hv
    · exact hv
  · exact vthen_mono h hv
theorem vops_mono {ops : Array Oper} : ∀ (l : List Oper) (s : St) (K K' : St → Prop), (∀ s, K s → K' s) → vops P n ops l s K → vops P n ops l s K'
  | [], s, K, K', h, hv => h s hv
  | o :: l, s, K, K', h, hv => by
    refine ⟨hv.1, ?_⟩
    have h2 := hv.2
    split at h2
    · exact vexec_mono (fun r hr => vops_mono l _ K K' h hr) h2
    · split at h2
      · refine ⟨h2.1, ?_⟩
        have h3 := h2.2
        unfold vguard at h3 ⊢
        split at h3
        · exact ⟨fun e => vexec_mono (fun r hr => vops_mono l _ K K' h hr) (h3.1 e), fun e => vops_mono l _ K K' h (h3.2 e)⟩
        · exact vops_mono l _ K K' h h3
        · exact h3
      · exact h2
theorem vdraw_mono {ops : Array Oper} : ∀ (l : List Oper) (tr : List (List Nat × List Nat)) (s : St) (K K' : St → Prop), (∀ s, K s → K' s) → vdraw P n ops K l tr s → vdraw P n ops K' l tr s
  | [], tr, s, K, K', h, hv => ⟨hv.1, h s hv.2⟩
  | o :: l, tr, s, K, K', h, hv => by
    refine ⟨hv.1, ?_⟩
    have h2 := hv.2
    split at h2
    · exact vexec_mono (fun r hr => ⟨hr.1, vdraw_mono l _ _ K K' h hr.2⟩) h2
    · split at h2
      · refine ⟨h2.1, ?_⟩
        have h3 := h2.2
        unfold vguard at h3 ⊢
        split at h3
        · exact ⟨fun e => vexec_mono (fun r hr => ⟨hr.1, vdraw_mono l _ _ K K' h hr.2⟩) (h3.1 e), fun e => vdraw_mono l _ _ K K' h (h3.2 e)⟩
        · exact vdraw_mono l _ _ K K' h h3
        · exact h3
      · exact h2
theorem vc_mono {m : Nat} : ∀ (c : Code) (Q Q' : Exit → St → Prop) (s : St), (∀ e s, Q e s → Q' e s) → vc P m n c Q s → vc P m n c Q' s
  | .skip, Q, Q', s, h, hv => h _ _ hv
  | .label _, Q, Q', s, h, hv => h _ _ hv
  | .region id ops true, Q, Q', s, h, hv => vdraw_mono _ _ _ _ _ (fun s hs => h _ _ hs) hv
  | .region id ops false, Q, Q', s, h, hv => vops_mono _ _ _ _ (fun s hs => h _ _ hs) hv
  | .seq x y, Q, Q', s, h, hv => vc_mono x _ _ s (fun e s he => by
      cases e
      case normal => exact vc_mono y Q Q' s h he
      all_goals exact h _ _ he) hv
  | .cond c x y, Q, Q', s, h, hv => by
    simp only [vc, vcond] at hv ⊢
    split at hv
    · exact ⟨fun hb => vc_mono x Q Q' s h (hv.1 hb), fun hb => vc_mono y Q Q' s h (hv.2 hb)⟩
    · exact hv
  | .block id c, Q, Q', s, h, hv => vc_mono c _ _ s (fun e s he => by
      cases e
      case exit i =>
        simp only [blockQ] at he ⊢
        split at he
        · rename_i e; rw [if_pos e]; exact h _ _ he
        · rename_i e; rw [if_neg e]; exact h _ _ he
      all_goals exact h _ _ he) hv
  | .loop c, Q, Q', s, h, hv => by
    obtain ⟨I, h0, hr⟩ := hv
    refine ⟨I, h0, fun k s hi hm => vc_mono c _ _ s (fun e s he => ?_) (hr k s hi hm)⟩
    cases e
    case normal => exact he
    all_goals exact h _ _ he
  | .exit id, Q, Q', s, h, hv => h _ _ hv
  | .ret, Q, Q', s, h, hv => h _ _ hv
  | .scope _, _, _, _, _, hv => hv
  | .goto _, _, _, _, _, hv => hv
  | .rangeFunc _ _ _ _, _, _, _, _, hv => hv
  | .refuse _, _, _, _, _, hv => hv
end
end Go.Vm
