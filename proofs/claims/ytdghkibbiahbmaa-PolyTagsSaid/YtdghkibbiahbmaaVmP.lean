/- Functions: what is known of them, from what was shown of their code. -/
import Derived.Test.YtdghkibbiahbmaaVmO
set_option linter.unusedVariables false
set_option linter.unusedSimpArgs false
set_option linter.unusedSectionVars false
namespace Go.Vm

mutual
/-- It leads to blocks below n alone. -/
def V.low (n : Nat) : V → Prop
  | .ptr b _ => b < n
  | .slice b _ _ _ => b < n
  | .fn _ fs cs => lows n fs ∧ lows n cs
  | .agg cs => lows n cs
  | .tup cs => lows n cs
  | .iface _ v => v.low n
  | _ => True
def lows (n : Nat) : List V → Prop
  | [] => True
  | v :: l => v.low n ∧ lows n l
end
mutual
/-- Its blocks under other numbers. -/
def V.ren (σ : Nat → Nat) : V → V
  | .ptr b o => .ptr (σ b) o
  | .slice b o len esz => .slice (σ b) o len esz
  | .fn f fs cs => .fn f (rens σ fs) (rens σ cs)
  | .agg cs => .agg (rens σ cs)
  | .tup cs => .tup (rens σ cs)
  | .iface t v => .iface t (v.ren σ)
  | v => v
def rens (σ : Nat → Nat) : List V → List V
  | [] => []
  | v :: l => v.ren σ :: rens σ l
end
theorem rens_eq (σ : Nat → Nat) : ∀ l, rens σ l = l.map (V.ren σ)
  | [] => rfl
  | v :: l => by unfold rens; rw [rens_eq σ l]; rfl

section
variable {ρ ρ' : Nat → Nat × Nat} {dom dom' : Nat → Prop} {P : Program} {w w' : World} {n : Nat} {a : Act}
mutual
theorem VR.unren {σ : Nat → Nat} : ∀ {v : V} {r : Value}, VR ρ dom w (v.ren σ) r → v.low n → VR (fun b => ρ (σ b)) (· < n) w v r
  | .junk, _, _, _ => by unfold VR; trivial
  | .bool _, _, h, _ => by unfold V.ren at h; unfold VR at *; exact h
  | .u8 _, _, h, _ => by unfold V.ren at h; unfold VR at *; exact h
  | .u32 _, _, h, _ => by unfold V.ren at h; unfold VR at *; exact h
  | .u64 _, _, h, _ => by unfold V.ren at h; unfold VR at *; exact h
  | .i64 _, _, h, _ => by unfold V.ren at h; unfold VR at *; exact h
  | .i32 _, _, h, _ => by unfold V.ren at h; unfold VR at *; exact h
  | .str _, _, h, _ => by unfold V.ren at h; unfold VR at *; exact h
  | .ptr b _, _, h, hb => by unfold V.ren at h; unfold V.low at hb; unfold VR at *; exact ⟨hb, h.2⟩
  | .nilPtr, _, h, _ => by unfold V.ren at h; unfold VR at *; exact h
  | .slice b _ _ _, _, h, hb => by unfold V.ren at h; unfold V.low at hb; unfold VR at *; exact ⟨hb, h.2⟩
  | .nilSlice, _, h, _ => by unfold V.ren at h; unfold VR at *; exact h
  | .fn _ fs cs, _, h, hb => by
    unfold V.ren at h; unfold V.low at hb; unfold VR at *
    obtain ⟨f', c', h1, h2, h3⟩ := h
    exact ⟨f', c', h1, VRs.unren h2 hb.1, VRs.unren h3 hb.2⟩
  | .nilFn, _, h, _ => by unfold V.ren at h; unfold VR at *; exact h
  | .agg cs, _, h, hb => by
    unfold V.ren at h; unfold V.low at hb; unfold VR at *
    obtain ⟨r', h1, h2⟩ := h
    exact ⟨r', h1, VRs.unren h2 hb⟩
  | .tup cs, _, h, hb => by
    unfold V.ren at h; unfold V.low at hb; unfold VR at *
    obtain ⟨r', h1, h2⟩ := h
    exact ⟨r', h1, VRs.unren h2 hb⟩
  | .iface _ v, _, h, hb => by
    unfold V.ren at h; unfold V.low at hb; unfold VR at *
    obtain ⟨r', h1, h2⟩ := h
    exact ⟨r', h1, VR.unren h2 hb⟩
  | .nilIface, _, h, _ => by unfold V.ren at h; unfold VR at *; exact h
theorem VRs.unren {σ : Nat → Nat} : ∀ {vs : List V} {rs : List Value}, VRs ρ dom w (rens σ vs) rs → lows n vs → VRs (fun b => ρ (σ b)) (· < n) w vs rs
  | [], _, h, _ => by unfold rens at h; unfold VRs at *; exact h
  | v :: vs, _, h, hb => by
    unfold rens at h; unfold lows at hb; unfold VRs at *
    obtain ⟨r, rs, h1, h2, h3⟩ := h
    exact ⟨r, rs, h1, VR.unren h2 hb.1, VRs.unren h3 hb.2⟩
end
mutual
theorem VR.doren {σ : Nat → Nat} (hσ : ∀ b, dom b → dom' (σ b)) (hρ : ∀ b, dom b → ρ' (σ b) = ρ b) : ∀ {v : V} {r : Value}, VR ρ dom w v r → VR ρ' dom' w (v.ren σ) r
  | .junk, _, _ => by unfold V.ren VR; trivial
  | .bool _, _, h => by unfold V.ren; unfold VR at *; exact h
  | .u8 _, _, h => by unfold V.ren; unfold VR at *; exact h
  | .u32 _, _, h => by unfold V.ren; unfold VR at *; exact h
  | .u64 _, _, h => by unfold V.ren; unfold VR at *; exact h
  | .i64 _, _, h => by unfold V.ren; unfold VR at *; exact h
  | .i32 _, _, h => by unfold V.ren; unfold VR at *; exact h
  | .str _, _, h => by unfold V.ren; unfold VR at *; exact h
  | .ptr b _, _, h => by unfold V.ren; unfold VR at *; exact ⟨hσ b h.1, by rw [hρ b h.1]; exact h.2⟩
  | .nilPtr, _, h => by unfold V.ren; unfold VR at *; exact h
  | .slice b _ _ _, _, h => by unfold V.ren; unfold VR at *; exact ⟨hσ b h.1, by rw [hρ b h.1]; exact h.2⟩
  | .nilSlice, _, h => by unfold V.ren; unfold VR at *; exact h
  | .fn _ fs cs, _, h => by
    unfold V.ren; unfold VR at *
    obtain ⟨f', c', h1, h2, h3⟩ := h
    exact ⟨f', c', h1, VRs.doren hσ hρ h2, VRs.doren hσ hρ h3⟩
  | .nilFn, _, h => by unfold V.ren; unfold VR at *; exact h
  | .agg cs, _, h => by
    unfold V.ren; unfold VR at *
    obtain ⟨r', h1, h2⟩ := h
    exact ⟨r', h1, VRs.doren hσ hρ h2⟩
  | .tup cs, _, h => by
    unfold V.ren; unfold VR at *
    obtain ⟨r', h1, h2⟩ := h
    exact ⟨r', h1, VRs.doren hσ hρ h2⟩
  | .iface _ v, _, h => by
    unfold V.ren; unfold VR at *
    obtain ⟨r', h1, h2⟩ := h
    exact ⟨r', h1, VR.doren hσ hρ h2⟩
  | .nilIface, _, h => by unfold V.ren; unfold VR at *; exact h
theorem VRs.doren {σ : Nat → Nat} (hσ : ∀ b, dom b → dom' (σ b)) (hρ : ∀ b, dom b → ρ' (σ b) = ρ b) : ∀ {vs : List V} {rs : List Value}, VRs ρ dom w vs rs → VRs ρ' dom' w (rens σ vs) rs
  | [], _, h => by unfold rens; unfold VRs at *; exact h
  | v :: vs, _, h => by
    unfold rens; unfold VRs at *
    obtain ⟨r, rs, h1, h2, h3⟩ := h
    exact ⟨r, rs, h1, VR.doren hσ hρ h2, VRs.doren hσ hρ h3⟩
end
mutual
theorem V.ren_id : ∀ (v : V), v.ren id = v
  | .junk | .bool _ | .u8 _ | .u32 _ | .u64 _ | .i64 _ | .i32 _ | .str _ | .nilPtr | .nilSlice | .nilFn | .nilIface => by unfold V.ren; rfl
  | .ptr b _ => by unfold V.ren; rfl
  | .slice b _ _ _ => by unfold V.ren; rfl
  | .fn _ fs cs => by unfold V.ren; rw [rens_id fs, rens_id cs]
  | .agg cs => by unfold V.ren; rw [rens_id cs]
  | .tup cs => by unfold V.ren; rw [rens_id cs]
  | .iface _ v => by unfold V.ren; rw [V.ren_id v]
theorem rens_id : ∀ (l : List V), rens id l = l
  | [] => rfl
  | v :: l => by unfold rens; rw [V.ren_id v, rens_id l]
end
/-- Blocks below n are all that is spoken of. -/
theorem VR.restrict {v : V} {r : Value} (h : VR ρ dom w v r) (hb : v.low n) : VR ρ (· < n) w v r := by
  have h' : VR ρ dom w (v.ren id) r := by rw [V.ren_id]; exact h
  exact VR.unren h' hb
theorem VRs.restrict {v : List V} {r : List Value} (h : VRs ρ dom w v r) (hb : lows n v) : VRs ρ (· < n) w v r := by
  have h' : VRs ρ dom w (rens id v) r := by rw [rens_id]; exact h
  exact VRs.unren h' hb

/-! ### Results -/
def vresults (P : Program) (s : St) : List ResultVar → (List V → Prop) → Prop
  | [], K => K []
  | .tmp t :: r, K => vresults P s r fun l => K (s.get t :: l)
  | .cell x t :: r, K => vthen (vop P (.load t (.tmp x)) s.ev (getH s.H) s.H.length) (hold fun res => vresults P s r fun l => K (res.v :: l))
def vtuple : List V → V
  | [v] => v
  | l => .tup l
def retQ (P : Program) (fn : Func) (R : V → St → Prop) : Exit → St → Prop
  | .normal, s => vresults P s fn.results.toList fun l => R (vtuple l) s
  | .ret, s => vresults P s fn.results.toList fun l => R (vtuple l) s
  | _, _ => False

def resSem (tmps : Array Value) : ResultVar → Sem Value
  | .tmp t => pure (tmps.getD t undef)
  | .cell x t => do loadVar t (← asAddr (tmps.getD x undef))
theorem results_eq (fn : Func) (tmps : Array Value) : results fn tmps = (do
    let vs ← fn.results.mapM (resSem tmps)
    pure (if h : vs.size = 1 then vs[0] else .tuple vs)) := by
  unfold results
  congr 1
theorem results_list {s : St} (hr : RelSt ρ n s a w) : ∀ (rs : List ResultVar) (K : List V → Prop), vresults P s rs K → ∃ l vs, K l ∧ VRs ρ (· < s.H.length) w l vs ∧
    (rs.mapM (resSem a.tmps)).run P w = .ok vs w
  | [], K, h => ⟨[], [], h, VRs.nil, by simp⟩
  | .tmp t :: rs, K, h => by
    obtain ⟨l, vs, h1, h2, h3⟩ := results_list hr rs _ h
    exact ⟨_, _, h1, VRs.cons (hr.tmps.slot t) h2, by simp only [List.mapM_cons, resSem, Sem.run_bind, Sem.run_pure, Result.andThen_ok, h3]⟩
  | .cell x t :: rs, K, h => by
    unfold vresults vthen at h
    split at h
    case h_2 => exact h.elim
    rename_i res hres
    obtain ⟨hp, h⟩ := h
    obtain ⟨l, vs, h1, h2, h3⟩ := results_list hr rs _ h
    have hx := hr.tmps.slot x
    simp only [vop] at hres
    split at hres
    case h_2 => cases hres
    rename_i b p hb
    have hb' : s.get x = .ptr b p := hb
    rw [hb'] at hx
    have key : ∃ r, (Instr.loadAt t (a.tmps.getD x undef)).run P w = .ok r w ∧ VR ρ (· < s.H.length) w res.v r := by
      split at hres
      · rename_i B k hB ht hs
        injection hres with hres; subst hres
        have := load_sound hr.mem hx hB ht hs
        simp only [if_true] at this
        exact this hp
      · rename_i B k hB ht hs
        injection hres with hres; subst hres
        have := load_sound hr.mem hx hB ht hs
        simp only [Bool.false_eq_true, if_false] at this
        exact this hp
      · cases hres
    obtain ⟨r, g1, g2⟩ := key
    unfold VR at hx
    obtain ⟨_, e⟩ := hx
    rw [e] at g1
    simp only [Instr.loadAt, Instr.sureAddr, Sem.run_bind, Sem.run_pure, Result.andThen_ok] at g1
    have e2 : (asAddr (a.tmps.getD x undef)).run P w = .ok ⟨(ρ b).1, (ρ b).2 + p, none⟩ w := by rw [e]; rfl
    exact ⟨_, _, h1, VRs.cons g2 h2, by simp only [List.mapM_cons, resSem, e2, Sem.run_bind, Sem.run_pure, Result.andThen_ok, g1, h3]⟩

theorem results_sound {s : St} {fn : Func} {R : V → St → Prop} (hr : RelSt ρ n s a w) (h : vresults P s fn.results.toList fun l => R (vtuple l) s) : ∃ v r, R v s ∧ VR ρ (· < s.H.length) w v r ∧ (results fn a.tmps).run P w = .ok r w := by
  obtain ⟨l, vs, h1, h2, h3⟩ := results_list (P := P) hr _ _ h
  have h4 : (results fn a.tmps).run P w = .ok (if h : vs.toArray.size = 1 then vs.toArray[0] else .tuple vs.toArray) w := by
    rw [results_eq, Array.mapM_eq_mapM_toList]
    simp only [Sem.run_bind, Sem.run_map, Sem.run_pure]
    rw [h3]
    rfl
  match l, vs, h1, h2, h4 with
  | [], vs, h1, h2, h4 =>
    have := h2.length
    obtain rfl : vs = [] := List.length_eq_zero_iff.1 (by simpa using this)
    exact ⟨_, _, h1, by show VR _ _ _ (.tup []) _; unfold VR; exact ⟨_, rfl, VRs.nil⟩, h4⟩
  | [v], vs, h1, h2, h4 =>
    unfold VRs at h2
    obtain ⟨r, rs, rfl, g1, g2⟩ := h2
    unfold VRs at g2
    subst g2
    exact ⟨_, _, h1, g1, h4⟩
  | v :: v' :: l, vs, h1, h2, h4 =>
    have hl := h2.length
    rw [dif_neg (by simp at hl ⊢; omega)] at h4
    exact ⟨_, _, h1, by show VR _ _ _ (.tup _) _; unfold VR; exact ⟨_, rfl, h2⟩, h4⟩

/-! ### Functions -/
def argsT : List V → Nat → List (Nat × V)
  | [], _ => []
  | v :: l, i => (i, v) :: argsT l (i + 1)
theorem look_args : ∀ (l : List V) (i t : Nat), lookS (argsT l i) t = if i ≤ t ∧ t < i + l.length then l.getD (t - i) .junk else .junk
  | [], i, t => by simp [argsT, lookS]
  | v :: l, i, t => by
    simp only [argsT, lookS, look_args l (i + 1) t, List.length_cons]
    by_cases e : i = t
    · subst e; simp
    · rw [if_neg e]
      by_cases h : i + 1 ≤ t ∧ t < i + 1 + l.length
      · rw [if_pos h, if_pos (by omega), show t - i = (t - (i + 1)) + 1 by omega]; simp
      · rw [if_neg h, if_neg (by omega)]

/-- What is known of a function over a small memory h: the value v, the memory h'. -/
def Spec0 (P : Program) (f : FuncId) (args : List V) (h : List (Option Blk)) (v : V) (h' : List (Option Blk)) : Prop :=
  ∀ (ρ : Nat → Nat × Nat) (w : World) (rargs : Array Value), VRs ρ (· < h.length) w args rargs.toList → MemRel ρ (· < h.length) (getH h) w →
    Calls P f rargs w fun e w' => ∃ r ρ', e = .returned r ∧ VR ρ' (· < h'.length) w' v r ∧ MemRel ρ' (· < h'.length) (getH h') w' ∧ h.length ≤ h'.length ∧ (∀ b, b < h.length → ρ' b = ρ b) ∧ Frame ρ (getH h) w ρ' (getH h') w'
/-- The end of a function: the value v in the state s says at least v' in the memory h'. -/
def Fin (m : Nat) (v' : V) (h' : List (Option Blk)) (v : V) (s : St) : Prop := m ≤ h'.length ∧
  ∀ (ρ : Nat → Nat × Nat) (w : World) (r : Value), VR ρ (· < s.H.length) w v r → MemRel ρ (· < s.H.length) (getH s.H) w → m ≤ s.H.length → ∃ ρ', VR ρ' (· < h'.length) w v' r ∧ MemRel ρ' (· < h'.length) (getH h') w ∧ (∀ b, b < m → ρ' b = ρ b) ∧
    (∀ b B, getH h' b = some B → B.ro = false → ∃ b0 B0, getH s.H b0 = some B0 ∧ B0.ro = false ∧ (ρ b0).1 = (ρ' b).1)
theorem Fin.pure {v : V} {s : St} (hv : v.low 0) : Fin 0 v [] v s := ⟨Nat.le_refl _, fun ρ w r h1 h2 _ => ⟨ρ, h1.restrict hv, ⟨fun b B h => by simp [getH] at h, fun b B h => by simp [getH] at h, fun b b' B B' h => by simp [getH] at h, fun b B h => by simp [getH] at h, fun b B h => by simp [getH] at h⟩, fun _ h => by omega, fun b B h => by simp [getH] at h⟩⟩
/-- The same numbers; what is behind is dropped. -/
theorem Fin.same {m : Nat} {v : V} {s : St} {h' : List (Option Blk)} (hm : m ≤ h'.length) (hl : h'.length ≤ s.H.length) (hv : v.low h'.length) (hH : ∀ b B, getH h' b = some B → getH s.H b = some B ∧ lows h'.length B.cs) : Fin m v h' v s :=
  ⟨hm, fun ρ w r h1 h2 _ => ⟨ρ, h1.restrict hv, ⟨fun b B h => by
      unfold getH at h
      exact Nat.lt_of_not_le (fun hb => by rw [List.getElem?_eq_none hb] at h; simp at h),
    fun b B h => h2.lt b B (hH b B h).1, fun b b' B B' h h' hr hne => h2.inj b b' B B' (hH b B h).1 (hH b' B' h').1 hr hne,
    fun b B h i v hv => by
      obtain ⟨r, g1, g2⟩ := h2.cell b B (hH b B h).1 i v hv
      have hb := (hH b B h).2
      refine ⟨r, g1, g2.restrict ?_⟩
      have : ∀ (l : List V) (i : Nat), lows h'.length l → l[i]? = some v → v.low h'.length := by
        intro l
        induction l with
        | nil => intro i _ h; simp at h
        | cons x l ih =>
          intro i hb h
          unfold lows at hb
          cases i with
          | zero => simp at h; subst h; exact hb.1
          | succ i => exact ih i hb.2 (by simpa using h)
      exact this B.cs i hb hv,
    fun b B h hr i hi => h2.free b B (hH b B h).1 hr i hi⟩, fun _ _ => rfl, fun b B h hr => ⟨b, B, (hH b B h).1, hr, rfl⟩⟩⟩

theorem spec0_of_vc (hmix : P.follows .mixedOrders = true) {f : FuncId} {fn : Func} {c : Code} {args : List V} {h h' : List (Option Blk)} {v : V} (hf : P.funcs[f]? = some fn) (hb : fn.body = some c) (hn : args.length ≤ fn.ntmps)
    (hv : vc P h.length fn.ntmps c (retQ P fn (Fin h.length v h')) ⟨argsT args 0, h⟩) : Spec0 P f args h v h' := by
  intro ρ w rargs ha hm
  have hal := ha.length
  refine calls_of_wp hf hb (wp_mono (vc_sound hmix c _ _ hv ρ _ w ⟨⟨?_, rfl, fun t => ?_⟩, hm⟩ (Nat.le_refl _)) ?_)
  · have : rargs.size = args.length := by simpa using hal
    simp; omega
  · show VR _ _ _ (lookS (argsT args 0) t) _
    rw [look_args]
    split
    · rename_i ht
      obtain ⟨r, g1, g2⟩ := ha.get (i := t) (v := args.getD t .junk) (by rw [List.getD_eq_getElem?_getD, List.getElem?_eq_getElem (by omega)]; rfl)
      have hlt : t < rargs.size := by simpa using (List.getElem?_eq_some_iff.1 g1).1
      simp only [Nat.sub_zero]
      have : (rargs ++ Array.replicate (fn.ntmps - rargs.size) undef).getD t undef = r := by
        rw [Array.getD_eq_getD_getElem?, Array.getElem?_append_left hlt]
        have : rargs[t]? = some r := by rw [← g1]; simp
        rw [this]; rfl
      rw [this]; exact g2
    · unfold VR; trivial
  · rintro e a' w' ⟨s', ρ', q1, q2, q3⟩
    have fin : (vresults P s' fn.results.toList fun l => Fin h.length v h' (vtuple l) s') → ∃ r, (results fn a'.tmps).run P w' = .ok r w' ∧ (∃ r' ρ', Ending.returned r = .returned r' ∧ VR ρ' (· < h'.length) w' v r' ∧ MemRel ρ' (· < h'.length) (getH h') w' ∧ h.length ≤ h'.length ∧ (∀ b, b < h.length → ρ' b = ρ b) ∧ Frame ρ (getH h) w ρ' (getH h') w') := fun q => by
      obtain ⟨v1, r, g1, g2, g3⟩ := results_sound q2 q
      obtain ⟨ρ2, k1, k2, k3, k4⟩ := g1.2 ρ' w' r g2 q2.mem q3.1
      exact ⟨r, g3, r, ρ2, rfl, k1, k2, g1.1, fun b hb => (k3 b hb).trans (q3.2.1 b hb), q3.2.2.less k4⟩
    cases e
    case normal => exact ⟨q2.tmps.defers, fin q1⟩
    case ret => exact ⟨q2.tmps.defers, fin q1⟩
    all_goals exact q1.elim

/-- A function of plain values: whatever memory holds. -/
def PureFn (P : Program) (f : FuncId) (args : List V) (v : V) : Prop := callable P f = true ∧ ∀ get0 nid, Spec P f args get0 nid { v := v }
theorem pure_of_spec0 {f : FuncId} {args : List V} {v : V} (hc : callable P f = true) (ha : lows 0 args) (h : Spec0 P f args [] v []) : PureFn P f args v := ⟨hc, fun get0 nid ρ dom get w rargs hm hr _ _ => by
  have he : MemRel ρ (· < ([] : List (Option Blk)).length) (getH []) w := ⟨fun b B h => by simp [getH] at h, fun b B h => by simp [getH] at h, fun b b' B B' h => by simp [getH] at h, fun b B h => by simp [getH] at h, fun b B h => by simp [getH] at h⟩
  refine (h ρ w rargs (hr.restrict ha) he).mono ?_
  rintro e w' ⟨r, ρ', rfl, h1, _, _, _, h5⟩
  have hk : ∀ r, r < w.heap.size → w'.heap[r]? = w.heap[r]? := fun r hr => h5.keep r hr (fun b B h => by simp [getH] at h)
  have hcell : ∀ b o, b < w.heap.size → w'.cell? ⟨b, o, none⟩ = w.cell? ⟨b, o, none⟩ := fun b o hb => World.cell?_of_block (hk b hb)
  have hfroz : ∀ b o, b < w.heap.size → w'.frozen? ⟨b, o, none⟩ = w.frozen? ⟨b, o, none⟩ := fun b o hb => World.frozen?_of_block (hk b hb)
  refine ⟨r, ρ, rfl, fun _ _ => rfl, ?_, ?_, ?_⟩
  · rw [upd_nil]
    exact ⟨fun b B hB => .inl (hm.has b B hB), fun b B hB => Nat.lt_of_lt_of_le (hm.lt b B hB) h5.size, hm.inj, fun b B hB i v hv => by
      obtain ⟨r, g1, g2⟩ := hm.cell b B hB i v hv
      exact ⟨r, by rw [hcell _ _ (hm.lt b B hB)]; exact g1, g2.mono (fun _ _ => rfl) (fun _ h => .inl h) h5.lasts⟩,
      fun b B hB hr i hi => by rw [hfroz _ _ (hm.lt b B hB)]; exact hm.free b B hB hr i hi⟩
  · exact h1.mono (fun b (hb : b < 0) => by omega) (fun b (hb : b < 0) => by omega) (Lasts.refl _)
  · rw [upd_nil]
    exact ⟨h5.os, h5.output, h5.tape, h5.size, fun r hr _ => hk r hr, h5.lasts, fun b B hB hr => .inl ⟨b, B, hB, hr, rfl⟩⟩⟩
/-- A pure function out of its code. -/
theorem pure_of_vc (hmix : P.follows .mixedOrders = true) {f : FuncId} {fn : Func} {c : Code} {args : List V} {v : V} (hc : callable P f = true) (hf : P.funcs[f]? = some fn) (hb : fn.body = some c) (hn : args.length ≤ fn.ntmps) (ha : lows 0 args) (hvb : v.low 0)
    (hv : vc P 0 fn.ntmps c (retQ P fn fun v' _ => v' = v) ⟨argsT args 0, []⟩) : PureFn P f args v := by
  refine pure_of_spec0 hc ha (spec0_of_vc hmix hf hb hn ?_)
  refine vc_mono c _ _ _ (fun e s h => ?_) hv
  have hmono : ∀ (rs : List ResultVar) (K K' : List V → Prop), (∀ l, K l → K' l) → vresults P s rs K → vresults P s rs K' := by
    intro rs
    induction rs with
    | nil => intro K K' h h1; exact h _ h1
    | cons x rs ih =>
      intro K K' h h1
      cases x with
      | tmp t => exact ih _ _ (fun l hl => h _ hl) h1
      | cell x t =>
        exact vthen_mono (fun r hr => ih _ _ (fun l hl => h _ hl) hr) h1
  cases e
  case normal => exact hmono _ _ _ (fun l (hl : vtuple l = v) => hl ▸ Fin.pure (hl ▸ hvb)) h
  case ret => exact hmono _ _ _ (fun l (hl : vtuple l = v) => hl ▸ Fin.pure (hl ▸ hvb)) h
  all_goals exact h
end
end Go.Vm
