/- 'vop_sound': every operation that 'vop' knows is run by the machine just so. 'OpExec': the same, told of the operation's rule. -/
import Derived.Test.YtdghkibbiahbmaaVmJ
set_option linter.unusedVariables false
set_option linter.unusedSimpArgs false
set_option linter.unusedSectionVars false
namespace Go.Vm
section
variable {ρ : Nat → Nat × Nat} {dom : Nat → Prop} {P : Program} {w : World} {get get0 : Nat → Option Blk} {nid : Nat}

theorem vsrc_local {y : V} {n : Nat} {ys : List V} {q : Prop} {g : List Nat} (h : vsrc get0 y = some (n, ys, q, g)) (hg : ∀ b ∈ g, get b = get0 b) : vsrc get y = some (n, ys, q, g) := by
  unfold vsrc at *
  split at h
  · exact h
  · exact h
  · split at h
    case h_2 => cases h
    rename_i B hB
    have h' := h
    injection h' with h'
    simp only [Prod.mk.injEq] at h'
    obtain ⟨_, _, _, rfl⟩ := h'
    rw [hg _ (by simp), hB]
    exact h
  · cases h

/-- What the operands read as. -/
def Reads (ρ : Nat → Nat × Nat) (dom : Nat → Prop) (w : World) (a : Act) (ev : Operand → V) (o : Op) : Prop := ∀ x ∈ o.operands.toList, VR ρ dom w (ev x) (a.eval x)

theorem opt_reads {a : Act} {ev : Operand → V} {x : Option Operand} (h : ∀ y ∈ x.toArray.toList, VR ρ dom w (ev y) (a.eval y)) : OVR ρ dom w (x.map ev) (x.map a.eval) := by
  cases x with
  | none => exact .inl ⟨rfl, rfl⟩
  | some y => exact .inr ⟨_, _, rfl, rfl, h y (by simp)⟩
theorem list_reads {a : Act} {ev : Operand → V} : ∀ {l : List Operand}, (∀ y ∈ l, VR ρ dom w (ev y) (a.eval y)) → VRs ρ dom w (l.map ev) (l.map a.eval)
  | [], _ => VRs.nil
  | x :: l, h => VRs.cons (h x (by simp)) (list_reads fun y hy => h y (by simp [hy]))

theorem RunsTo.val {s : Sem Value} {res : Res} (hm : MemRel ρ dom get w) (h : ∃ r, s.run P w = .ok r w ∧ VR ρ dom w res.v r) (ho : res.old = []) (hn : res.news = []) : RunsTo P (do pure (.value (← s)) : Sem Next) w ρ dom get nid res := by
  obtain ⟨r, h1, h2⟩ := h
  exact RunsTo.same hm (by rw [Sem.run_bind, h1]; rfl) h2 ho hn
theorem RunsTo.weaken {res res' : Res} {s : Sem Next} (h : RunsTo P s w ρ dom get nid res) (e1 : res.v = res'.v) (e2 : res.old = res'.old) (e3 : res.news = res'.news) : RunsTo P s w ρ dom get nid res' := by
  obtain ⟨ρ', w', r, g1, g2, g3, g4, g5⟩ := h
  exact ⟨ρ', w', r, g1, g2, by rw [← e2, ← e3]; exact g3, by rw [← e1, ← e3]; exact g4, by rw [← e2, ← e3]; exact g5⟩

theorem vbin_pure {op : BinOp} {t : TypeId} {x y : V} {res : Res} (h : vbin P op t x y = some res) : res.old = [] ∧ res.news = [] := by
  have hu : ∀ {n : Nat} (mk : BitVec n → V) (op : BinOp) (x y : BitVec n) (res : Res), vuns mk op x y = some res → res.old = [] ∧ res.news = [] := fun mk op x y res h => by
    cases op <;> simp only [vuns, Option.some.injEq, reduceCtorEq] at h <;> subst h <;> exact ⟨rfl, rfl⟩
  have hi : ∀ (op : BinOp) (x y : Int) (res : Res), vint64 op x y = some res → res.old = [] ∧ res.news = [] := fun op x y res h => by
    cases op <;> simp only [vint64, vint, Option.some.injEq, reduceCtorEq] at h <;> subst h <;> exact ⟨rfl, rfl⟩
  have hst : ∀ (op : BinOp) (x y : List Byte) (res : Res), vstr op x y = some res → res.old = [] ∧ res.news = [] := fun op x y res h => by
    cases op <;> simp only [vstr, Option.some.injEq, reduceCtorEq] at h <;> subst h <;> exact ⟨rfl, rfl⟩
  have hsh : ∀ (op : BinOp) (x : V) (n : Nat) (p : Prop) (res : Res), vshift op x n p = some res → res.old = [] ∧ res.news = [] := fun op x n p res h => by
    cases op <;> cases x <;> simp only [vshift, Option.some.injEq, reduceCtorEq] at h <;> subst h <;> exact ⟨rfl, rfl⟩
  unfold vbin at h
  repeat' split at h
  all_goals first
    | (exact hu _ _ _ _ _ h)
    | (exact hi _ _ _ _ h)
    | (exact hst _ _ _ _ h)
    | (exact hsh _ _ _ _ _ h)
    | (cases h; done)
    | (simp only [Option.some.injEq, reduceCtorEq] at h; subst h; exact ⟨rfl, rfl⟩)

theorem len_sound {t ty : TypeId} {x : V} {rx : Value} {res : Res} (h : vbuiltin P .len [t] [x] get0 nid = some res) (hx : VR ρ dom w x rx) :
    (∃ r, (Builtin.len_ #[t] ty #[rx]).run P w = .ok r w ∧ VR ρ dom w res.v r) ∧ res.old = [] ∧ res.news = [] := by
  simp only [vbuiltin] at h
  split at h <;> simp only [Option.some.injEq, reduceCtorEq] at h <;> subst h <;> rename_i hu
  · unfold VR at hx
    obtain ⟨b, rfl, rfl⟩ := hx
    exact ⟨⟨_, by simp [Builtin.len_, run_underlying hu]; rfl, by unfold VR; rw [bytesOf_length]; rfl⟩, rfl, rfl⟩
  · exact ⟨⟨_, by simp [Builtin.len_, run_underlying hu]; rfl, by unfold VR; rfl⟩, rfl, rfl⟩
  · unfold VR at hx
    obtain ⟨_, a, c, rfl, _⟩ := hx
    exact ⟨⟨_, by simp [Builtin.len_, run_underlying hu]; rfl, by unfold VR; rfl⟩, rfl, rfl⟩
  · unfold VR at hx
    subst hx
    exact ⟨⟨_, by simp [Builtin.len_, run_underlying hu]; rfl, by unfold VR; rfl⟩, rfl, rfl⟩

theorem arr1 {l : Array Operand} {ev : Operand → V} {x : V} (h : l.toList.map ev = [x]) : ∃ o, l = #[o] ∧ x = ev o := by
  obtain ⟨l⟩ := l
  match l, h with
  | [o], h => simp at h; exact ⟨o, rfl, h.symm⟩
theorem arr2 {l : Array Operand} {ev : Operand → V} {x y : V} (h : l.toList.map ev = [x, y]) : ∃ o p, l = #[o, p] ∧ x = ev o ∧ y = ev p := by
  obtain ⟨l⟩ := l
  match l, h with
  | [o, p], h => simp at h; exact ⟨o, p, rfl, h.1.symm, h.2.symm⟩

theorem ats1 {l : Array TypeId} {t : TypeId} (h : l.toList = [t]) : l = #[t] := by
  obtain ⟨l⟩ := l; simp at h; rw [h]
theorem ats2 {l : Array TypeId} {t u : TypeId} (h : l.toList = [t, u]) : l = #[t, u] := by
  obtain ⟨l⟩ := l; simp at h; rw [h]

theorem append_none {t tx ty e : TypeId} {x y : V} {rx ry : Value} {n sz : Nat} {xs ys : List V} {p q : Prop} {f g fp : List Nat} (ht : P.underlying t = some (.slice e)) (hs : szOf P e = some sz)
    (hxs : isStr x = false) (hey : eszOk sz y = true) (hk : srcT P tx y = true) (hsx : vsrc get x = some (n, xs, p, f)) (hsy : vsrc get y = some (0, ys, q, g)) (hq : q)
    (hx : VR ρ dom w x rx) (hy : VR ρ dom w y ry) (hm : MemRel ρ dom get w) : RunsTo P (do pure (.value (← Builtin.append_ #[t, tx] ty #[rx, ry])) : Sem Next) w ρ dom get nid { v := x, pre := q, fp := fp } := by
  have hkk := srcT_kind hk
  have hinf : ∃ i, P.info? e = some i ∧ i.size = sz := by
    unfold szOf at hs
    cases hi : P.info? e with
    | none => rw [hi] at hs; cases hs
    | some i => rw [hi] at hs; injection hs with hs; exact ⟨i, rfl, hs⟩
  obtain ⟨i, hi, hsz⟩ := hinf
  have hys : ys = [] := by
    unfold vsrc at hsy
    split at hsy
    · injection hsy with hsy; simp only [Prod.mk.injEq] at hsy; exact hsy.2.1.symm
    · injection hsy with hsy; simp only [Prod.mk.injEq] at hsy
      obtain ⟨h1, h2, _⟩ := hsy
      rw [← h2, List.length_eq_zero_iff.1 h1]; rfl
    · split at hsy
      · injection hsy with hsy; simp only [Prod.mk.injEq] at hsy
        obtain ⟨h1, h2, _⟩ := hsy
        rw [← h2, h1]; simp
      · cases hsy
    · cases hsy
  subst hys
  obtain ⟨news, hsrc, hnews⟩ := src_sound hsy hq hm hy hey hkk (fun u hu => by cases hu)
  have hn0 : news = [] := by have := hnews.length; exact List.length_eq_zero_iff.1 (by simpa using this)
  subst hn0
  rw [← hsz] at hsrc
  have hsh : ∃ a c, rx = .slice a n c ∧ n ≤ c := by
    unfold vsrc at hsx
    split at hsx
    · injection hsx with hsx; simp only [Prod.mk.injEq] at hsx
      obtain ⟨rfl, _⟩ := hsx
      unfold VR at hx; exact ⟨_, _, hx, Nat.le_refl _⟩
    · simp [isStr] at hxs
    · split at hsx
      case h_2 => cases hsx
      injection hsx with hsx; simp only [Prod.mk.injEq] at hsx
      obtain ⟨rfl, _⟩ := hsx
      unfold VR at hx
      obtain ⟨_, a, c, h1, h2, _⟩ := hx
      exact ⟨_, _, h1, h2⟩
    · cases hsx
  obtain ⟨a, c, rfl, hle⟩ := hsh
  exact RunsTo.same hm (by rw [Sem.run_bind, run_append_nothing w t tx ty e i ht hi a n c hle ry hsrc]; rfl) hx rfl rfl

theorem builtin_sound {b : Builtin} {ats : Array TypeId} {args : Array Operand} {ty : TypeId} {consts : Array Bool} {a : Act} {ev : Operand → V} {res : Res} (h : vbuiltin P b ats.toList (args.toList.map ev) get0 nid = some res) (hp : res.pre)
    (hr : ∀ x ∈ args.toList, VR ρ dom w (ev x) (a.eval x)) (hm : MemRel ρ dom get w) (hfp : ∀ b ∈ res.fp, get b = get0 b) (hd : ∀ b, nid ≤ b → b < nid + res.news.length → ¬ dom b) :
    RunsTo P (builtin b ats ty consts (args.map a.eval)) w ρ dom get nid res := by
  have h0 := h
  have em1 : ∀ o, (#[o] : Array Operand).map a.eval = #[a.eval o] := fun o => by simp
  have em2 : ∀ o p, (#[o, p] : Array Operand).map a.eval = #[a.eval o, a.eval p] := fun o p => by simp
  unfold vbuiltin at h
  split at h
  · rename_i t x ht hx
    obtain ⟨o, rfl, rfl⟩ := arr1 hx
    rw [hx, ht] at h0
    rw [ats1 ht, em1]
    obtain ⟨g1, g2, g3⟩ := len_sound (ty := ty) h0 (hr o (by simp))
    exact RunsTo.val hm g1 g2 g3
  · rename_i x y hx
    obtain ⟨o, p, rfl, e1, e2⟩ := arr2 hx
    injection h with h; subst h
    have v1 := hr o (by simp)
    have v2 := hr p (by simp)
    rw [← e1] at v1; rw [← e2] at v2
    unfold VR at v1 v2
    refine RunsTo.val hm ⟨.int .i64 (if y < x then y else x), ?_, by unfold VR; rfl⟩ rfl rfl
    simp [Builtin.min_, Builtin.min2, v1, v2]
  · rename_i x y hx
    obtain ⟨o, p, rfl, e1, e2⟩ := arr2 hx
    injection h with h; subst h
    have v1 := hr o (by simp)
    have v2 := hr p (by simp)
    rw [← e1] at v1; rw [← e2] at v2
    unfold VR at v1 v2
    refine RunsTo.val hm ⟨.int .i64 (if y > x then y else x), ?_, by unfold VR; rfl⟩ rfl rfl
    simp [Builtin.max_, Builtin.max2, v1, v2]
  · rename_i t tx x y ht hx
    obtain ⟨o, p, rfl, rfl, rfl⟩ := arr2 hx
    rw [ats2 ht, em2]
    split at h
    case h_2 => cases h
    rename_i e n xs pp f m ys q g he hsx hsy
    split at h
    case h_2 => cases h
    rename_i sz by_ z hs hb hz
    split at h
    case isFalse => cases h
    rename_i hc
    obtain ⟨c1, c2, c3, c4, c5, c6⟩ := hc
    injection h with h; subst h
    have hfpe : (vappend n m sz by_ (ev o) xs ys pp q f g get0 nid).fp = f ++ g := by unfold vappend; split <;> rfl
    rw [hfpe] at hfp
    have hsx' := vsrc_local hsx fun b hb => hfp b (by simp [hb])
    have hsy' := vsrc_local hsy fun b hb => hfp b (by simp [hb])
    by_cases hm0 : m = 0
    · subst hm0
      have hv0 : vappend n 0 sz by_ (ev o) xs ys pp q f g get0 nid = { v := ev o, pre := q, fp := f ++ g } := by unfold vappend; rw [if_pos rfl]
      rw [hv0] at hp ⊢
      exact append_none (ty := ty) (sliceT_some he) hs c3 c5 c6 hsx' hsy' hp (hr o (by simp)) (hr p (by simp)) hm
    · have hpre : (vappend n m sz by_ (ev o) xs ys pp q f g get nid).pre := by
        unfold vappend at hp ⊢
        rw [if_neg hm0] at hp ⊢
        obtain ⟨a1, a2, a3, a4, a5, a6, a7⟩ := hp
        exact ⟨a1, a2, a3, a4, a5, a6, fun b hb => by rw [hfp b (by simp [hb])]; exact a7 b hb⟩
      have hnw : (vappend n m sz by_ (ev o) xs ys pp q f g get0 nid).news.length = 1 := by unfold vappend; rw [if_neg hm0]; rfl
      refine (append_sound (ty := ty) (nid := nid) (sliceT_some he) hs hb hz c1 c2 c3 c4 c5 c6 hsx' hsy' hpre (hr o (by simp)) (hr p (by simp)) hm (hd nid (Nat.le_refl _) (by omega))).weaken ?_ ?_ ?_ <;> (unfold vappend; rw [if_neg hm0, if_neg hm0])
  · rename_i t tx x y ht hx
    obtain ⟨o, p, rfl, e1, rfl⟩ := arr2 hx
    rw [ats2 ht, em2]
    split at h
    case h_2 => cases h
    rename_i e b p' len esz m ys q g he hsy
    split at h
    case h_2 => cases h
    rename_i sz cs hs hb
    split at h
    case isFalse => cases h
    rename_i hc
    obtain ⟨rfl, rfl, c3⟩ := hc
    injection h with h; subst h
    obtain ⟨a1, a2, a3, a4⟩ := hp
    have hb' : get b = some ⟨false, cs⟩ := by rw [hfp b (by simp)]; exact hb
    have hsy' := vsrc_local hsy fun b hb => hfp b (by simp [hb])
    have v1 := hr o (by simp)
    rw [← e1] at v1
    exact (copy_sound (ty := ty) (nid := nid) (sliceT_some he) hs hb' c3 hsy' a1 a2 a3 a4 v1 (hr p (by simp)) hm).weaken rfl rfl rfl
  · cases h
end
end Go.Vm
