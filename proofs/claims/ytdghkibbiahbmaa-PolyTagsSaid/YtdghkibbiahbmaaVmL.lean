/- 'vop_sound': every operation that 'vop' knows is run by the machine just so. 'OpExec': the same, told of the operation's rule. -/
import Derived.Test.YtdghkibbiahbmaaVmK
set_option linter.unusedVariables false
set_option linter.unusedSimpArgs false
set_option linter.unusedSectionVars false
namespace Go.Vm
section
variable {ρ : Nat → Nat × Nat} {dom : Nat → Prop} {P : Program} {w : World} {get get0 : Nat → Option Blk} {nid : Nat}

theorem parts_reads {a : Act} {ev : Operand → V} {parts : Array (Nat × Operand)} (h : ∀ x ∈ parts.toList.map (·.2), VR ρ dom w (ev x) (a.eval x)) :
    (parts.map fun (i, x) => (i, a.eval x)).size = (parts.toList.map fun x => (x.1, ev x.2)).length ∧
    ∀ (i : Nat) x y, (parts.toList.map fun x => (x.1, ev x.2))[i]? = some x → (parts.map fun (i, x) => (i, a.eval x)).toList[i]? = some y → x.1 = y.1 ∧ VR ρ dom w x.2 y.2 := by
  refine ⟨by simp, fun i x y hx hy => ?_⟩
  simp only [Array.toList_map, List.getElem?_map] at hx hy
  cases hp : parts.toList[i]? with
  | none => rw [hp] at hx; cases hx
  | some p =>
    rw [hp] at hx hy
    simp only [Option.map_some, Option.some.injEq] at hx hy
    subst hx; subst hy
    exact ⟨rfl, h p.2 (List.mem_map.2 ⟨p, List.mem_of_getElem? hp, rfl⟩)⟩

theorem vop_sound {o : Oper} {a : Act} {ev : Operand → V} {res : Res} (h : vop P o.op ev get0 nid = some res) (hp : res.pre) (hr : Reads ρ dom w a ev o.op) (hm : MemRel ρ dom get w)
    (hfp : ∀ b ∈ res.fp, get b = get0 b) (hd : ∀ b, nid ≤ b → b < nid + res.news.length → ¬ dom b) : RunsTo P (execOp a.eval o) w ρ dom get nid res := by
  obtain ⟨dst, op, type, pos, after, guard⟩ := o
  simp only at h hr
  unfold Reads at hr
  unfold execOp
  cases op <;> simp only [vop, reduceCtorEq] at h <;> simp only [Op.operands] at hr <;> simp only
  case move x =>
    injection h with h; subst h
    exact RunsTo.same hm rfl (hr x (by simp)) rfl rfl
  case assign x =>
    injection h with h; subst h
    exact RunsTo.same hm rfl (hr x (by simp)) rfl rfl
  case pick c x y =>
    split at h
    case h_2 => cases h
    rename_i b hb
    injection h with h; subst h
    have v1 := hr c (by simp)
    rw [hb] at v1
    unfold VR at v1
    refine RunsTo.same (r := if b then a.eval x else a.eval y) hm (by simp [v1, asBool]) ?_ rfl rfl
    cases b
    · exact hr y (by simp)
    · exact hr x (by simp)
  case alloc e =>
    split at h
    case h_2 => cases h
    rename_i z hz
    injection h with h; subst h
    exact (alloc_sound hz hm (hd nid (Nat.le_refl _) (by simp))).weaken rfl rfl rfl
  case box e x =>
    have v1 := hr x (by simp)
    have fin : ev x ≠ .junk → (∀ l, ev x ≠ .tup l) → res = { v := .ptr nid 0, news := [some ⟨false, (ev x).cells⟩] } → RunsTo P (do pure (.value (← Instr.box e (a.eval x))) : Sem Next) w ρ dom get nid res := by
      intro h1 h2 h3
      subst h3
      exact box_sound v1 h1 h2 hm (hd nid (Nat.le_refl _) (by simp))
    split at h
    · cases h
    · cases h
    · rename_i hj1 hj2
      injection h with h
      exact fin (fun e => hj1 e) (fun l e => hj2 l e) h.symm
  case build t parts =>
    obtain ⟨p1, p2⟩ := parts_reads (ρ := ρ) (dom := dom) (w := w) (a := a) (ev := ev) (parts := parts) (by simpa using hr)
    split at h
    · rename_i z pl hb
      simp only [Option.map_eq_some_iff] at h
      obtain ⟨cs, hf, rfl⟩ := h
      exact RunsTo.val hm (buildT_sound hb p1 p2 hf) rfl rfl
    · rename_i z s hb
      simp only [Option.map_eq_some_iff] at h
      obtain ⟨cs, hf, rfl⟩ := h
      exact RunsTo.val hm (buildT_sound hb p1 p2 hf) rfl rfl
    · cases h
  case buildSlice t len parts =>
    obtain ⟨p1, p2⟩ := parts_reads (ρ := ρ) (dom := dom) (w := w) (a := a) (ev := ev) (parts := parts) (by simpa using hr)
    split at h
    case h_2 => cases h
    rename_i e he
    split at h
    case h_2 => cases h
    rename_i s z hs hz
    split at h
    case isFalse => cases h
    rename_i hc
    simp only [Option.map_eq_some_iff] at h
    obtain ⟨cs, hf, rfl⟩ := h
    exact buildSlice_sound (sliceT_some he) hs hz hc.1 hc.2.1 hc.2.2 p1 p2 hf hm (hd nid (Nat.le_refl _) (by simp))
  case load t x =>
    have v1 := hr x (by simp)
    split at h
    case h_2 => cases h
    rename_i b p hb
    rw [hb] at v1
    split at h
    · rename_i B s hB ht hs
      injection h with h; subst h
      have := load_sound hm v1 (by rw [hfp b (by simp)]; exact hB) ht hs
      simp only [if_true] at this
      exact RunsTo.val hm (this hp) rfl rfl
    · rename_i B s hB ht hs
      injection h with h; subst h
      have := load_sound hm v1 (by rw [hfp b (by simp)]; exact hB) ht hs
      simp only [Bool.false_eq_true, if_false] at this
      exact RunsTo.val hm (this hp) rfl rfl
    · cases h
  case store t x y =>
    have v1 := hr x (by simp)
    have v2 := hr y (by simp)
    split at h
    case h_2 => cases h
    rename_i b p hb
    rw [hb] at v1
    split at h
    case h_2 => cases h
    rename_i cs s hB hs
    split at h
    case isFalse => cases h
    rename_i hc
    injection h with h; subst h
    subst hc
    exact (store_sound (o := ⟨dst, .store t x y, type, pos, after, guard⟩) (nid := nid) hm v1 v2 (by rw [hfp b (by simp)]; exact hB) hs hp.1 hp.2).weaken rfl rfl rfl
  case nilCheck x =>
    have v1 := hr x (by simp)
    split at h
    · rename_i b p hb
      injection h with h; subst h
      rw [hb] at v1
      have v2 := v1
      unfold VR at v2
      obtain ⟨_, e⟩ := v2
      exact RunsTo.same hm (by rw [e]; rfl) v1 rfl rfl
    · rename_i f x1 x2 hb
      injection h with h; subst h
      rw [hb] at v1
      have v2 := v1
      unfold VR at v2
      obtain ⟨f', c', e, _⟩ := v2
      exact RunsTo.same hm (by rw [e]; rfl) v1 rfl rfl
    · rename_i t v hb
      injection h with h; subst h
      rw [hb] at v1
      have v2 := v1
      unfold VR at v2
      obtain ⟨f', e, _⟩ := v2
      exact RunsTo.same hm (by rw [e]; rfl) v1 rfl rfl
    · cases h
  case binOp op t x y ty =>
    obtain ⟨h1, h2⟩ := vbin_pure h
    exact RunsTo.val hm (bin_sound h hp (hr x (by simp)) (hr y (by simp))) h1 h2
  case unOp op t x =>
    have hpure : res.old = [] ∧ res.news = [] := by
      unfold vun at h
      split at h <;> simp only [Option.some.injEq, reduceCtorEq] at h <;> subst h <;> exact ⟨rfl, rfl⟩
    exact RunsTo.val hm (un_sound h (hr x (by simp))) hpure.1 hpure.2
  case convert s d x =>
    have v1 := hr x (by simp)
    unfold vconv at h
    split at h
    · rename_i k1 k2 x' hu1 hu2
      simp only [Option.map_eq_some_iff] at h
      obtain ⟨v, hv, rfl⟩ := h
      obtain ⟨kk, n, e, hv2⟩ := convInt_sound hv v1
      refine RunsTo.val hm ⟨_, ?_, hv2⟩ rfl rfl
      rw [e]
      simp [convert, run_underlying hu1, run_underlying hu2, Conv.intToInt]
    · rename_i b hu1 hu2 hb
      injection h with h; subst h
      rw [hb] at v1
      have v2 := v1
      unfold VR at v2
      obtain ⟨b', e, _⟩ := v2
      refine RunsTo.val hm ⟨_, ?_, v1⟩ rfl rfl
      rw [e]
      simp [convert, run_underlying hu1, run_underlying hu2]
    · rename_i e b hu1 hu2 hb
      split at h
      case h_2 => cases h
      rename_i he
      injection h with h; subst h
      rw [hb] at v1
      exact (strBytes_sound hu1 hu2 he v1 hm (hd nid (Nat.le_refl _) (by simp))).weaken rfl rfl rfl
    · rename_i e hu1 hu2 hb
      split at h
      case h_2 => cases h
      rename_i he
      injection h with h; subst h
      rw [hb] at v1
      unfold VR at v1
      refine RunsTo.val hm ⟨.string .empty, ?_, by unfold VR; exact ⟨_, rfl, rfl⟩⟩ rfl rfl
      rw [v1]
      simp [convert, run_underlying hu1, run_underlying hu2, run_underlying he, Conv.bytesToString]
    · rename_i e b p len hu1 hu2 hb
      split at h
      case h_2 => cases h
      rename_i B he hB
      injection h with h; subst h
      rw [hb] at v1
      exact RunsTo.val hm (bytesStr_sound hu1 he hu2 hm (by rw [hfp b (by simp)]; exact hB) hp.1 hp.2 v1) rfl rfl
    · cases h
  case sliceToArrayPointer t x =>
    have v1 := hr x (by simp)
    split at h
    case h_2 => cases h
    rename_i n _ b p len _ ht hx
    injection h with h; subst h
    rw [hx] at v1
    unfold VR at v1
    obtain ⟨hdb, ad, cap, e, hlc, ha⟩ := v1
    obtain ⟨hp1, hp2⟩ := hp
    obtain ⟨rfl, _⟩ := ha (by omega)
    refine RunsTo.val hm ⟨_, ?_, by unfold VR; exact ⟨hdb, rfl⟩⟩ rfl rfl
    rw [e]
    have hnl : ¬ (len < n) := by omega
    simp [Instr.arrayAt, run_underlying (arrT_some ht), hnl]
  case makeFunc fn first caps =>
    split at h
    case h_2 => cases h
    rename_i f
    injection h with h; subst h
    refine RunsTo.val hm ⟨_, rfl, ?_⟩ rfl rfl
    unfold VR
    exact ⟨_, _, rfl, by simpa using list_reads fun y hy => hr y (by simp; exact .inl (by simpa using hy)), by simpa using list_reads fun y hy => hr y (by simp; exact .inr (by simpa using hy))⟩
  case makeSlice t l c =>
    have v1 := hr l (by simp)
    have v2 := hr c (by simp)
    split at h
    case h_2 => cases h
    rename_i e n m he hn hm'
    split at h
    case h_2 => cases h
    rename_i s by_ z hs hb hz
    split at h
    case isFalse => cases h
    rename_i hc
    injection h with h; subst h
    obtain ⟨rfl, p2, p3, p4⟩ := hp
    rw [hn] at v1; rw [hm'] at v2
    unfold VR at v1 v2
    rw [v1, v2]
    exact (makeSlice_sound (sliceT_some he) hs hb hz hc.1 hc.2 p2 p3 p4 hm (hd nid (Nat.le_refl _) (by simp))).weaken rfl rfl rfl
  case slice t x lo hi mx =>
    cases mx with
    | some _ => simp at h
    | none =>
      simp only [Option.isSome_none, Bool.false_eq_true, if_false] at h
      have v1 := hr x (by simp)
      have o1 := opt_reads (x := lo) fun y hy => hr y (by simp at hy ⊢; simp [hy])
      have o2 := opt_reads (x := hi) fun y hy => hr y (by simp at hy ⊢; simp [hy])
      simp only [Option.map_none]
      split at h
      · rename_i s hu hx
        split at h
        case h_2 => cases h
        rename_i l hh hl hhh
        injection h with h; subst h
        rw [hx] at v1
        exact RunsTo.val hm (slice_str_sound hu v1 hl hhh hp.1 hp.2.1 hp.2.2 o1 o2) rfl rfl
      · rename_i e b p len esz hu hx
        split at h
        case h_2 => cases h
        rename_i l hh hl hhh
        split at h
        case h_2 => cases h
        rename_i s hs
        split at h
        case isFalse => cases h
        rename_i he
        subst he
        injection h with h; subst h
        rw [hx] at v1
        exact RunsTo.val hm (slice_slice_sound hu hs v1 hl hhh hp.1 hp.2.1 hp.2.2 o1 o2) rfl rfl
      · rename_i e hu hx
        split at h
        case h_2 => cases h
        rename_i l hh s hl hhh hs
        injection h with h; subst h
        obtain ⟨rfl, rfl⟩ := hp
        rw [hx] at v1
        have v2 := v1
        unfold VR at v2
        have hb := bounds_sound (P := P) (isS := true) (cap := 0) hl hhh (Int.le_refl _) (Int.le_refl _) (Int.le_refl _) (Nat.le_refl _) o1 o2
        refine RunsTo.val hm ⟨_, ?_, v1⟩ rfl rfl
        rw [v2]
        simp [Instr.sliceAt, run_underlying hu, Instr.slice, hb, sizeOf_run hs]
      · rename_i n e b p hu hx
        split at h
        case h_2 => cases h
        rename_i l hh s cs hl hhh hs hB
        injection h with h; subst h
        rw [hx] at v1
        exact RunsTo.val hm (slice_arr_sound hu hs hm (by rw [hfp b (by simp)]; exact hB) v1 hl hhh hp.1 hp.2.1 hp.2.2.1 hp.2.2.2 o1 o2) rfl rfl
      · cases h
  case fieldAddr s x f =>
    have v1 := hr x (by simp)
    split at h
    case h_2 => cases h
    rename_i off ft b p hfl hx
    split at h
    case h_2 => cases h
    rename_i n hn
    split at h
    case isTrue => cases h
    rename_i hn0
    injection h with h; subst h
    rw [hx] at v1
    unfold VR at v1
    obtain ⟨hdb, e⟩ := v1
    unfold fldOf at hfl
    split at hfl
    case h_2 => cases hfl
    rename_i fs hu
    split at hfl
    case h_2 => cases hfl
    rename_i fld hfld
    injection hfl with hfl
    simp only [Prod.mk.injEq] at hfl
    obtain ⟨rfl, rfl⟩ := hfl
    refine RunsTo.val hm ⟨.pointer (some ⟨(ρ b).1, (ρ b).2 + (p + fld.offset), none⟩), ?_, by unfold VR; exact ⟨hdb, rfl⟩⟩ rfl rfl
    rw [e]
    simp [Instr.fieldAt, run_underlying hu, hfld, Instr.sureAddr, fieldPlace, sizeOf_run hn, hn0, addr_add, Nat.add_assoc]
  case indexAddr t x i =>
    have v1 := hr x (by simp)
    have v2 := hr i (by simp)
    split at h
    · rename_i n e b p ii hu hx hi
      split at h
      case h_2 => cases h
      rename_i s hs
      injection h with h; subst h
      rw [hx] at v1
      exact RunsTo.val hm (index_arr_sound hu hs v1 hi v2 hp.1 hp.2) rfl rfl
    · rename_i e b p len esz ii hu hx hi
      split at h
      case h_2 => cases h
      rename_i s hs
      split at h
      case isFalse => cases h
      rename_i he
      subst he
      injection h with h; subst h
      rw [hx] at v1
      exact RunsTo.val hm (index_slice_sound hu hs v1 hi v2 hp.1 hp.2) rfl rfl
    · cases h
  case index t x i =>
    have v1 := hr x (by simp)
    have v2 := hr i (by simp)
    split at h
    · rename_i n e cs ii hu hx hi
      rw [hx] at v1
      split at h
      · rename_i s ht hs
        injection h with h; subst h
        have := index_agg_sound hu ht hs v1 hi v2 hp.1 hp.2.1
        simp only [Bool.false_eq_true, if_false] at this
        exact RunsTo.val hm (this hp.2.2) rfl rfl
      · rename_i s ht hs
        injection h with h; subst h
        have := index_agg_sound hu ht hs v1 hi v2 hp.1 hp.2
        simp only [if_true] at this
        exact RunsTo.val hm this rfl rfl
      · cases h
    · rename_i s ii hu hx hi
      injection h with h; subst h
      rw [hx] at v1
      exact RunsTo.val hm (index_str_sound hu v1 hi v2 hp.1 hp.2) rfl rfl
    · cases h
  case extract t i =>
    have v1 := hr t (by simp)
    split at h
    case h_2 => cases h
    rename_i vs hx
    split at h
    case h_2 => cases h
    rename_i v hv
    injection h with h; subst h
    rw [hx] at v1
    unfold VR at v1
    obtain ⟨rs, e, hrs⟩ := v1
    obtain ⟨r, g1, g2⟩ := hrs.get hv
    refine RunsTo.val hm ⟨r, ?_, g2⟩ rfl rfl
    rw [e]
    have : rs[i]? = some r := by rw [← g1]; simp
    simp [Instr.extract, this]
  case call c =>
    obtain ⟨callee, args, argTypes⟩ := c
    cases callee with
    | builtin b =>
      exact builtin_sound (ty := type) (a := a) h hp (fun y hy => hr y (by simp [Call.operands]; simpa using hy)) hm hfp hd
    | value f => simp at h
    | invoke r m => simp at h
  all_goals cases h
end
end Go.Vm
