/- A region that draws its order: 'draw_sound'. -/
import Derived.Test.YtdghkibbiahbmaaVmN2
set_option linter.unusedVariables false
set_option linter.unusedSimpArgs false
set_option linter.unusedSectionVars false
namespace Go.Vm
/-- A region that draws its order, whatever the order. -/
def DrawOk (P : Program) (m n : Nat) (id : Nat) (ops : Array Oper) (s : St) (K : St → Prop) : Prop :=
  ∀ (ρ : Nat → Nat × Nat) (a : Act) (w : World) (Q : Exit → Act → World → Prop), RelSt ρ n s a w → m ≤ s.H.length → (∀ a' w', Lift m n ρ s w K a' w' → Q .normal a' w') → (Code.region id ops true).wp P Q a w

section
variable {P : Program} {n : Nat} {ops : Array Oper}

theorem meets_iff {a b : List Nat} : meets a b = true ↔ ∃ x, x ∈ a ∧ x ∈ b := by
  unfold meets
  simp [List.any_eq_true]
theorem ordOk_spec {tr : List (List Nat × List Nat)} (h : ordOk ops tr = true) {j : Nat} {oj : Oper} {fj : List Nat × List Nat} (ho : ops.toList[j]? = some oj) (hf : tr[j]? = some fj) :
    (∀ e ∈ oj.after.toList, Region.binds .any e = true → e.on < j) ∧
    ∀ (i : Nat) oi fi, ops.toList[i]? = some oi → tr[i]? = some fi → i < j → ((befs ops.toList []).getD j 0).testBit i = true ∨ apartE ops oi oj fi fj = true := by
  unfold ordOk at h
  have hz : ∀ (i : Nat) o f, ops.toList[i]? = some o → tr[i]? = some f → ((o, f), i) ∈ (ops.toList.zip tr).zipIdx := fun i o f h1 h2 => by
    rw [List.mem_zipIdx_iff_getElem?]
    rw [List.getElem?_zip_eq_some]
    exact ⟨h1, h2⟩
  simp only [List.all_eq_true] at h
  have h1 := h _ (hz j oj fj ho hf)
  simp only [Bool.and_eq_true, List.all_eq_true] at h1
  refine ⟨fun e he hb => ?_, fun i oi fi hi hfi hlt => ?_⟩
  · have := h1.1 e he
    simpa [hb] using this
  · have := h1.2 _ (hz i oi fi hi hfi)
    simp only [Bool.or_eq_true, Bool.not_eq_true', decide_eq_false_iff_not] at this
    rcases this with (h2 | h2) | h2
    · exact absurd hlt h2
    · exact .inl h2
    · exact .inr h2
theorem apartE_spec {o o' : Oper} {e e' : List Nat × List Nat} (h : apartE ops o o' e e' = true) : (∀ d, o.dst = some d → d ∉ slotsOf ops o') ∧ (∀ d, o'.dst = some d → d ∉ slotsOf ops o) ∧ (∀ b, b ∈ e.2 → b ∉ e'.1 ∧ b ∉ e'.2) ∧ (∀ b, b ∈ e'.2 → b ∉ e.1 ∧ b ∉ e.2) := by
  unfold apartE at h
  simp only [Bool.and_eq_true, Bool.not_eq_true'] at h
  obtain ⟨⟨⟨h1, h2⟩, h3⟩, h4⟩ := h
  have nm : ∀ {a b : List Nat}, meets a b = false → ∀ x, x ∈ a → x ∉ b := fun hm x hx hy => by
    have := meets_iff.2 ⟨x, hx, hy⟩
    rw [hm] at this; cases this
  refine ⟨fun d hd => nm h1 d (by simp [hd]), fun d hd => nm h2 d (by simp [hd]), fun b hb => ?_, fun b hb => ?_⟩
  · have := nm h3 b hb; simp at this; exact this
  · have := nm h4 b hb; simp at this; exact this

theorem wSlot_some {o : Oper} {e : Ent} {t : Nat} {x : V} (h : wSlot o e t = some x) : o.dst = some t ∧ x = e.res.v := by
  unfold wSlot at h
  split at h
  · rename_i hd; injection h with h; exact ⟨hd, h.symm⟩
  · cases h
theorem wBlk_foot {s : St} {e : Ent} {b : Nat} {x : Option Blk} (h : wBlk s e b = some x) : b ∈ (foot s e.res).2 := by
  unfold wBlk at h
  unfold foot
  simp only [List.mem_append, List.mem_range'_1]
  split at h
  · rename_i hc; exact .inr ⟨hc.1, hc.2⟩
  · split at h
    · rename_i hc; exact .inl hc.2
    · cases h

theorem filter_lt {q p : Nat → Bool} : ∀ (l : List Nat), (∀ x ∈ l, q x = true → p x = true) → (∃ x ∈ l, p x = true ∧ q x = false) → (l.filter q).length < (l.filter p).length
  | [], _, h => by obtain ⟨x, hx, _⟩ := h; cases hx
  | y :: l, hs, h => by
    have hle : ∀ (l : List Nat), (∀ x ∈ l, q x = true → p x = true) → (l.filter q).length ≤ (l.filter p).length := by
      intro l
      induction l with
      | nil => intro _; exact Nat.le_refl _
      | cons z l ih =>
        intro h
        have := ih fun x hx => h x (by simp [hx])
        simp only [List.filter_cons]
        by_cases hq : q z = true
        · have hp := h z (by simp) hq
          simp only [hq, hp, if_true, List.length_cons]; omega
        · by_cases hp : p z = true <;> simp only [hq, hp, if_true, if_false, List.length_cons] <;> (try simp) <;> omega
    obtain ⟨x, hx, hp, hq⟩ := h
    simp only [List.filter_cons]
    rcases List.mem_cons.1 hx with rfl | hx
    · simp only [hp, hq, if_true, Bool.false_eq_true, if_false, List.length_cons]
      have := hle l fun x hx => hs x (by simp [hx])
      omega
    · have ih := filter_lt l (fun x hx => hs x (by simp [hx])) ⟨x, hx, hp, hq⟩
      by_cases hqy : q y = true
      · have hpy := hs y (by simp) hqy
        simp only [hqy, hpy, if_true, List.length_cons]; omega
      · by_cases hpy : p y = true <;> simp only [hqy, hpy, if_true, if_false, List.length_cons] <;> (try simp) <;> omega

/-- What is true once the operations of L are done. -/
structure DInv (P : Program) (n : Nat) (ops : Array Oper) (s0 : St) (es : List Ent) (ρ0 : Nat → Nat × Nat) (w0 : World) (L : Nat → Bool) (ρ : Nat → Nat × Nat) (a : Act) (w : World) : Prop where
  closed : ClosedL ops.toList L
  tmps : RelT ρ (fun b => b < s0.H.length ∨ ∃ i e, L i = true ∧ es[i]? = some e ∧ (stAt s0 ops.toList es i).H.length ≤ b ∧ b < (stAt s0 ops.toList es i).H.length + e.res.news.length) w n (fun t => pickW L (wsSlot ops.toList es t) 0 (s0.get t)) a
  mem : MemRel ρ (fun b => b < s0.H.length ∨ ∃ i e, L i = true ∧ es[i]? = some e ∧ (stAt s0 ops.toList es i).H.length ≤ b ∧ b < (stAt s0 ops.toList es i).H.length + e.res.news.length) (fun b => pickW L (wsBlk s0 ops.toList es b) 0 (getH s0.H b)) w
  agree : ∀ b, b < s0.H.length → ρ b = ρ0 b
  frame : Frame ρ0 (getH s0.H) w0 ρ (fun b => pickW L (wsBlk s0 ops.toList es b) 0 (getH s0.H b)) w

theorem len_step {s0 s' : St} {es : List Ent} (ht : Trace P n ops ops.toList s0 es s') : ∀ (i : Nat) o e, ops.toList[i]? = some o → es[i]? = some e → (stAt s0 ops.toList es (i + 1)).H.length = (stAt s0 ops.toList es i).H.length + e.res.news.length := fun i o e ho he => by
  obtain ⟨_, _, hat⟩ := trace_at _ _ _ _ ht
  rw [(hat i o e ho he).2.1]
  simp [St.after, length_setOlds]
theorem len_mono {s0 s' : St} {es : List Ent} (ht : Trace P n ops ops.toList s0 es s') : ∀ (j i : Nat), i ≤ j → j ≤ ops.size → (stAt s0 ops.toList es i).H.length ≤ (stAt s0 ops.toList es j).H.length := by
  obtain ⟨hl, _, _⟩ := trace_at _ _ _ _ ht
  intro j
  induction j with
  | zero => intro i hi _; rw [Nat.le_zero.1 hi]; exact Nat.le_refl _
  | succ j ih =>
    intro i hi hj
    have hj' : j < ops.toList.length := by simp; omega
    have := len_step ht j _ _ (List.getElem?_eq_getElem hj') (List.getElem?_eq_getElem (by omega : j < es.length))
    by_cases e : i = j + 1
    · subst e; exact Nat.le_refl _
    · have := ih i (by omega) (by omega); omega
theorem st_zero (s0 : St) (l : List Oper) (es : List Ent) : stAt s0 l es 0 = s0 := by cases l <;> cases es <;> rfl

set_option maxHeartbeats 1000000 in
theorem draw_main {s0 s' : St} {es : List Ent} (ht : Trace P n ops ops.toList s0 es s') (hok : ordOk ops (foots ops.toList s0 es) = true) {ρ0 : Nat → Nat × Nat} {w0 : World} {Q : Exit → Act → World → Prop} {m : Nat} (hm : m ≤ s0.H.length)
    (hq : ∀ ρ a w, RelSt ρ n s' a w → Step m ρ0 s0 w0 ρ s' w → Q .normal a w) :
    ∀ (fuel : Nat) (listed : Array Bool) (ρ : Nat → Nat × Nat) (a : Act) (w : World), listed.size = ops.size → ((List.range ops.size).filter fun i => !(listed.getD i false)).length ≤ fuel →
      DInv P n ops s0 es ρ0 w0 (fun i => listed.getD i false) ρ a w → wpAny P .any ops Q fuel listed a w := by
  obtain ⟨hl, hfin, hat⟩ := trace_at _ _ _ _ ht
  have hsp := st_pick ht
  have hN : ops.toList.length = ops.size := by simp
  -- nothing is ready: all are done
  have alldone : ∀ (listed : Array Bool), listed.size = ops.size → Region.ready .any ops listed = [] → ∀ i, i < ops.size → listed.getD i false = true := by
    intro listed hls hr i
    induction i using Nat.strongRecOn with
    | _ i ih =>
      intro hi
      cases hc : listed.getD i false with
      | true => rfl
      | false =>
        exfalso
        have hio : ops.toList[i]? = some ops[i] := by simp [hi]
        have hfi := (hat i _ _ hio (List.getElem?_eq_getElem (by omega : i < es.length))).2.2
        have hedge := (ordOk_spec hok hio hfi).1
        have : i ∈ Region.ready .any ops listed := by
          unfold Region.ready
          rw [List.mem_filter]
          refine ⟨by simp [hi], ?_⟩
          have hg : listed.getD i true = false := by
            rw [Array.getD_eq_getD_getElem?] at hc ⊢
            rw [Array.getElem?_eq_getElem (by omega)] at hc ⊢
            simpa using hc
          rw [hg]
          simp only [Bool.not_false, Bool.true_and, Array.getElem?_eq_getElem hi, Option.map_some, Option.getD_some]
          rw [Array.all_eq_true_iff_forall_mem]
          intro e he
          by_cases hb : Region.binds .any e = true
          · have hlt := hedge e (by simpa using he) hb
            rw [ih e.on hlt (by omega)]; simp
          · simp [hb]
        rw [hr] at this
        cases this
  -- then the state is the last one
  have fin : ∀ (listed : Array Bool) ρ a w, listed.size = ops.size → (∀ i, i < ops.size → listed.getD i false = true) → DInv P n ops s0 es ρ0 w0 (fun i => listed.getD i false) ρ a w → Q .normal a w := by
    intro listed ρ a w hls hall hinv
    have hT : ∀ t, pickW (fun i => listed.getD i false) (wsSlot ops.toList es t) 0 (s0.get t) = s'.get t := fun t => by
      rw [← hfin, (hsp _ (Nat.le_refl _)).1 t]
      refine pickW_congr _ 0 _ (fun j x hj => ?_)
      have hlt := (List.getElem?_eq_some_iff.1 hj).1
      rw [wsSlot_len _ _ _ hl] at hlt
      simp only [Nat.zero_add]
      rw [hall j (by omega)]
      simp; omega
    have hG : ∀ b, pickW (fun i => listed.getD i false) (wsBlk s0 ops.toList es b) 0 (getH s0.H b) = getH s'.H b := fun b => by
      rw [← hfin, (hsp _ (Nat.le_refl _)).2 b]
      refine pickW_congr _ 0 _ (fun j x hj => ?_)
      have hlt := (List.getElem?_eq_some_iff.1 hj).1
      rw [wsBlk_len _ _ _ _ hl] at hlt
      simp only [Nat.zero_add]
      rw [hall j (by omega)]
      simp; omega
    have hlen : s0.H.length ≤ s'.H.length := by
      have := len_mono ht ops.size 0 (by omega) (Nat.le_refl _)
      rw [st_zero] at this
      rw [← hfin, hN]; exact this
    have hdom : ∀ b, (b < s0.H.length ∨ ∃ i e, listed.getD i false = true ∧ es[i]? = some e ∧ (stAt s0 ops.toList es i).H.length ≤ b ∧ b < (stAt s0 ops.toList es i).H.length + e.res.news.length) → b < s'.H.length := by
      rintro b (hb | ⟨i, e, _, he, h1, h2⟩)
      · omega
      · have hi : i < es.length := (List.getElem?_eq_some_iff.1 he).1
        have hio : ops.toList[i]? = some (ops.toList[i]'(by omega)) := List.getElem?_eq_getElem _
        have h3 := len_step ht i _ e hio he
        have h4 := len_mono ht ops.size (i + 1) (by omega) (Nat.le_refl _)
        rw [← hfin, hN]; omega
    have hGf : (fun b => pickW (fun i => listed.getD i false) (wsBlk s0 ops.toList es b) 0 (getH s0.H b)) = getH s'.H := funext hG
    refine hq ρ a w ⟨⟨hinv.tmps.size, hinv.tmps.defers, fun t => ?_⟩, ?_⟩ ⟨by omega, fun b hb => hinv.agree b (by omega), ?_⟩
    · have := (hinv.tmps.slot t).mono (fun _ _ => rfl) hdom (Lasts.refl w)
      rw [hT t] at this; exact this
    · have := hinv.mem.monoDom hdom
      rw [hGf] at this; exact this
    · have := hinv.frame
      rw [hGf] at this; exact this
  intro fuel
  induction fuel with
  | zero =>
    intro listed ρ a w hls hf hinv
    have hall : ∀ i, i < ops.size → listed.getD i false = true := fun i hi => by
      have h0 := List.length_eq_zero_iff.1 (Nat.le_zero.1 hf)
      have : i ∉ (List.range ops.size).filter fun i => !(listed.getD i false) := by rw [h0]; simp
      simp only [List.mem_filter, List.mem_range, Bool.not_eq_true', not_and, Bool.not_eq_false] at this
      exact this hi
    refine ⟨?_, fin listed ρ a w hls hall hinv⟩
    refine List.eq_nil_iff_forall_not_mem.2 fun i hi => ?_
    unfold Region.ready at hi
    rw [List.mem_filter] at hi
    obtain ⟨h1, h2⟩ := hi
    have hlt : i < ops.size := by simpa using h1
    have := hall i hlt
    rw [Array.getD_eq_getD_getElem?, Array.getElem?_eq_getElem (by omega)] at this
    simp only [Bool.and_eq_true, Bool.not_eq_true'] at h2
    have h3 := h2.1
    rw [Array.getD_eq_getD_getElem?, Array.getElem?_eq_getElem (by omega)] at h3
    simp at this h3
    rw [this] at h3; cases h3
  | succ fuel ih =>
    intro listed ρ a w hls hf hinv
    refine ⟨fun hr => fin listed ρ a w hls (alldone listed hls hr) hinv, fun i hi => ?_⟩
    unfold Region.ready at hi
    rw [List.mem_filter] at hi
    obtain ⟨h1, h2⟩ := hi
    have hlt : i < ops.size := by simpa using h1
    have hio : ops.toList[i]? = some ops[i] := by simp [hlt]
    have hie : es[i]? = some (es[i]'(by omega)) := List.getElem?_eq_getElem _
    generalize hoi : ops[i] = o at *
    generalize hei : es[i]'(by omega) = e at *
    simp only [Bool.and_eq_true, Bool.not_eq_true'] at h2
    have hnl : listed.getD i false = false := by
      have h3 := h2.1
      rw [Array.getD_eq_getD_getElem?, Array.getElem?_eq_getElem (by omega)] at h3 ⊢
      simpa using h3
    have hpre : ∀ e' ∈ o.after.toList, Region.binds .any e' = true → listed.getD e'.on false = true := fun e' he' hb => by
      have h3 := h2.2
      rw [Array.getElem?_eq_getElem hlt, hoi] at h3
      simp only [Option.map_some, Option.getD_some] at h3
      rw [Array.all_eq_true_iff_forall_mem] at h3
      have := h3 e' (by simpa using he')
      simpa [hb] using this
    obtain ⟨hent, hnext, hfi⟩ := hat i o e hio hie
    obtain ⟨hd, hg, hrun⟩ := hent
    have hordi := (ordOk_spec hok hio hfi).2
    -- whoever meets i: those ahead are done, those behind are not
    have hahead : ∀ j oj ej, j < i → ops.toList[j]? = some oj → es[j]? = some ej → apartE ops oj o (foot (stAt s0 ops.toList es j) ej.res) (foot (stAt s0 ops.toList es i) e.res) = false → listed.getD j false = true := fun j oj ej hj ho he hap => by
      rcases hordi j oj _ ho (hat j oj ej ho he).2.2 hj with hb | hb
      · exact mask_listed hinv.closed i o hio hpre j hb
      · rw [hap] at hb; cases hb
    have hbehind : ∀ j oj ej, i < j → ops.toList[j]? = some oj → es[j]? = some ej → apartE ops o oj (foot (stAt s0 ops.toList es i) e.res) (foot (stAt s0 ops.toList es j) ej.res) = false → listed.getD j false = false := fun j oj ej hj ho he hap => by
      cases hc : listed.getD j false with
      | false => rfl
      | true =>
        exfalso
        rcases (ordOk_spec hok ho (hat j oj ej ho he).2.2).2 i o _ hio hfi hj with hb | hb
        · have := mask_listed hinv.closed j oj ho (fun e' h4 h5 => hinv.closed j oj ho hc e' h4 h5) i hb
          rw [hnl] at this; cases this
        · rw [hap] at hb; cases hb
    have hjget : ∀ j, j < ops.size → ∃ oj ej, ops.toList[j]? = some oj ∧ es[j]? = some ej := fun j hj => ⟨_, _, List.getElem?_eq_getElem (by omega : j < ops.toList.length), List.getElem?_eq_getElem (by omega : j < es.length)⟩
    -- a slot that i names is as it was in the text's order
    have hslot : ∀ t, t ∈ slotsOf ops o → pickW (fun i => listed.getD i false) (wsSlot ops.toList es t) 0 (s0.get t) = (stAt s0 ops.toList es i).get t := fun t hts => by
      rw [(hsp i (by omega)).1 t]
      refine pickW_congr _ 0 _ (fun j x hj => ?_)
      have hjl := (List.getElem?_eq_some_iff.1 hj).1
      rw [wsSlot_len _ _ _ hl] at hjl
      obtain ⟨oj, ej, hoj, hej⟩ := hjget j (by omega)
      rw [wsSlot_get _ _ _ _ _ _ hoj hej] at hj
      injection hj with hj
      have hdst := (wSlot_some hj).1
      simp only [Nat.zero_add]
      rcases Nat.lt_trichotomy j i with hlt' | rfl | hgt
      · rw [hahead j oj ej hlt' hoj hej (by
          cases hap : apartE ops oj o (foot (stAt s0 ops.toList es j) ej.res) (foot (stAt s0 ops.toList es i) e.res) with
          | false => rfl
          | true => exact absurd hts ((apartE_spec hap).1 t hdst))]
        simp [hlt']
      · rw [hnl]; simp
      · rw [hbehind j oj ej hgt hoj hej (by
          cases hap : apartE ops o oj (foot (stAt s0 ops.toList es i) e.res) (foot (stAt s0 ops.toList es j) ej.res) with
          | false => rfl
          | true => exact absurd hts ((apartE_spec hap).2.1 t hdst))]
        simp; omega
    have hfp : ∀ b, b ∈ e.res.fp → pickW (fun i => listed.getD i false) (wsBlk s0 ops.toList es b) 0 (getH s0.H b) = getH (stAt s0 ops.toList es i).H b := fun b hbf => by
      rw [(hsp i (by omega)).2 b]
      refine pickW_congr _ 0 _ (fun j x hj => ?_)
      have hjl := (List.getElem?_eq_some_iff.1 hj).1
      rw [wsBlk_len _ _ _ _ hl] at hjl
      obtain ⟨oj, ej, hoj, hej⟩ := hjget j (by omega)
      rw [wsBlk_get _ _ _ _ _ _ _ hoj hej] at hj
      injection hj with hj
      have hft := wBlk_foot hj
      simp only [Nat.zero_add]
      rcases Nat.lt_trichotomy j i with hlt' | rfl | hgt
      · rw [hahead j oj ej hlt' hoj hej (by
          cases hap : apartE ops oj o (foot (stAt s0 ops.toList es j) ej.res) (foot (stAt s0 ops.toList es i) e.res) with
          | false => rfl
          | true => exact absurd hbf ((apartE_spec hap).2.2.1 b hft).1)]
        simp [hlt']
      · rw [hnl]; simp
      · rw [hbehind j oj ej hgt hoj hej (by
          cases hap : apartE ops o oj (foot (stAt s0 ops.toList es i) e.res) (foot (stAt s0 ops.toList es j) ej.res) with
          | false => rfl
          | true => exact absurd hbf ((apartE_spec hap).2.2.2 b hft).1)]
        simp; omega
    -- what is so behind i
    have hset : ∀ j, (listed.setIfInBounds i true).getD j false = if j = i then true else listed.getD j false := fun j => by
      rw [Array.getD_eq_getD_getElem?, Array.getD_eq_getD_getElem?, Array.getElem?_setIfInBounds]
      by_cases hji : i = j
      · subst hji; simp [hls, hlt]
      · rw [if_neg hji, if_neg (fun x => hji x.symm)]
    have hTnew : ∀ t, pickW (fun i' => (listed.setIfInBounds i true).getD i' false) (wsSlot ops.toList es t) 0 (s0.get t) = if o.dst = some t then e.res.v else pickW (fun i => listed.getD i false) (wsSlot ops.toList es t) 0 (s0.get t) := fun t => by
      by_cases hdt : o.dst = some t
      · rw [if_pos hdt]
        refine pickW_last _ 0 _ i e.res.v (by rw [wsSlot_get _ _ _ _ _ _ hio hie]; unfold wSlot; rw [if_pos hdt]) (by simp only [Nat.zero_add]; rw [hset, if_pos rfl]) (fun j y hj hy => ?_)
        have hjl := (List.getElem?_eq_some_iff.1 hy).1
        rw [wsSlot_len _ _ _ hl] at hjl
        obtain ⟨oj, ej, hoj, hej⟩ := hjget j (by omega)
        rw [wsSlot_get _ _ _ _ _ _ hoj hej] at hy
        injection hy with hy
        have hdst := (wSlot_some hy).1
        simp only [Nat.zero_add]
        rw [hset, if_neg (by omega)]
        refine hbehind j oj ej hj hoj hej ?_
        cases hap : apartE ops o oj (foot (stAt s0 ops.toList es i) e.res) (foot (stAt s0 ops.toList es j) ej.res) with
        | false => rfl
        | true => exact absurd (by unfold slotsOf; simp [hdt] : t ∈ slotsOf ops o) ((apartE_spec hap).2.1 t hdst)
      · rw [if_neg hdt]
        refine pickW_congr _ 0 _ (fun j x hj => ?_)
        simp only [Nat.zero_add]
        rw [hset]
        by_cases hji : j = i
        · subst hji
          rw [wsSlot_get _ _ _ _ _ _ hio hie] at hj
          injection hj with hj
          exact absurd (wSlot_some hj).1 hdt
        · rw [if_neg hji]
    have hGnew : ∀ b, pickW (fun i' => (listed.setIfInBounds i true).getD i' false) (wsBlk s0 ops.toList es b) 0 (getH s0.H b) = (wBlk (stAt s0 ops.toList es i) e b).getD (pickW (fun i => listed.getD i false) (wsBlk s0 ops.toList es b) 0 (getH s0.H b)) := fun b => by
      cases hwb : wBlk (stAt s0 ops.toList es i) e b with
      | some x =>
        refine pickW_last _ 0 _ i x (by rw [wsBlk_get _ _ _ _ _ _ _ hio hie, hwb]) (by simp only [Nat.zero_add]; rw [hset, if_pos rfl]) (fun j y hj hy => ?_)
        have hjl := (List.getElem?_eq_some_iff.1 hy).1
        rw [wsBlk_len _ _ _ _ hl] at hjl
        obtain ⟨oj, ej, hoj, hej⟩ := hjget j (by omega)
        rw [wsBlk_get _ _ _ _ _ _ _ hoj hej] at hy
        injection hy with hy
        have hft := wBlk_foot hy
        have hft0 := wBlk_foot hwb
        simp only [Nat.zero_add]
        rw [hset, if_neg (by omega)]
        refine hbehind j oj ej hj hoj hej ?_
        cases hap : apartE ops o oj (foot (stAt s0 ops.toList es i) e.res) (foot (stAt s0 ops.toList es j) ej.res) with
        | false => rfl
        | true => exact absurd hft0 ((apartE_spec hap).2.2.2 b hft).2
      | none =>
        refine pickW_congr _ 0 _ (fun j x hj => ?_)
        simp only [Nat.zero_add]
        rw [hset]
        by_cases hji : j = i
        · subst hji
          rw [wsBlk_get _ _ _ _ _ _ _ hio hie, hwb] at hj
          cases hj
        · rw [if_neg hji]
    have hclosed : ClosedL ops.toList fun i' => (listed.setIfInBounds i true).getD i' false := fun j oj hj hlj e' he' hb => by
      simp only [hset] at hlj ⊢
      by_cases hji : j = i
      · subst hji
        rw [hio] at hj; injection hj with hj; subst hj
        by_cases hei' : e'.on = j
        · rw [if_pos hei']
        · rw [if_neg hei']; exact hpre e' he' hb
      · rw [if_neg hji] at hlj
        by_cases hei' : e'.on = i
        · rw [if_pos hei']
        · rw [if_neg hei']; exact hinv.closed j oj hj hlj e' he' hb
    have hfuel : ((List.range ops.size).filter fun i' => !((listed.setIfInBounds i true).getD i' false)).length ≤ fuel := by
      have : ((List.range ops.size).filter fun i' => !((listed.setIfInBounds i true).getD i' false)).length < ((List.range ops.size).filter fun i => !(listed.getD i false)).length := by
        refine filter_lt _ (fun x hx hq => ?_) ⟨i, by simp [hlt], by simp only [hnl]; rfl, by simp only [hset]; rfl⟩
        simp only [hset] at hq
        by_cases hxi : x = i
        · rw [if_pos hxi] at hq; simp at hq
        · rw [if_neg hxi] at hq; exact hq
      omega
    -- the new numbers are new
    have hfresh : ∀ b, (stAt s0 ops.toList es i).H.length ≤ b → b < (stAt s0 ops.toList es i).H.length + e.res.news.length → ¬ (b < s0.H.length ∨ ∃ i e, listed.getD i false = true ∧ es[i]? = some e ∧ (stAt s0 ops.toList es i).H.length ≤ b ∧ b < (stAt s0 ops.toList es i).H.length + e.res.news.length) := by
      rintro b hb1 hb2 (hb | ⟨j, ej, hlj, hej, h3, h4⟩)
      · have := len_mono ht i 0 (by omega) (by omega)
        rw [st_zero] at this; omega
      · have hjl : j < es.length := (List.getElem?_eq_some_iff.1 hej).1
        have hoj : ops.toList[j]? = some (ops.toList[j]'(by omega)) := List.getElem?_eq_getElem _
        have h5 := len_step ht j _ ej hoj hej
        have h6 := len_step ht i o e hio hie
        rcases Nat.lt_trichotomy j i with hlt' | rfl | hgt
        · have := len_mono ht i (j + 1) (by omega) (by omega); omega
        · rw [hnl] at hlj; cases hlj
        · have := len_mono ht j (i + 1) (by omega) (by omega); omega
    have hdomsub : ∀ b, (b < s0.H.length ∨ ∃ i e, listed.getD i false = true ∧ es[i]? = some e ∧ (stAt s0 ops.toList es i).H.length ≤ b ∧ b < (stAt s0 ops.toList es i).H.length + e.res.news.length) →
        (b < s0.H.length ∨ ∃ i' e, (listed.setIfInBounds i true).getD i' false = true ∧ es[i']? = some e ∧ (stAt s0 ops.toList es i').H.length ≤ b ∧ b < (stAt s0 ops.toList es i').H.length + e.res.news.length) := by
      rintro b (hb | ⟨j, ej, hlj, hej, h3⟩)
      · exact .inl hb
      · exact .inr ⟨j, ej, by rw [hset]; split; rfl; exact hlj, hej, h3⟩
    have hdomnew : ∀ b, domWith (fun b => b < s0.H.length ∨ ∃ i e, listed.getD i false = true ∧ es[i]? = some e ∧ (stAt s0 ops.toList es i).H.length ≤ b ∧ b < (stAt s0 ops.toList es i).H.length + e.res.news.length) (stAt s0 ops.toList es i).H.length e.res.news.length b →
        (b < s0.H.length ∨ ∃ i' e, (listed.setIfInBounds i true).getD i' false = true ∧ es[i']? = some e ∧ (stAt s0 ops.toList es i').H.length ≤ b ∧ b < (stAt s0 ops.toList es i').H.length + e.res.news.length) := by
      rintro b (hb | hb)
      · exact hdomsub b hb
      · exact .inr ⟨i, e, by rw [hset, if_pos rfl], hie, hb.1, hb.2⟩
    have hopsi : ops[i]? = some o := by rw [Array.getElem?_eq_getElem hlt, hoi]
    have hwant : Region.wanted o (yielded ops a.tmps) = e.run := by
      unfold GuardIs at hg
      cases hgd : o.guard with
      | none => rw [hgd] at hg; simp only at hg; unfold Region.wanted; rw [hgd, hg]
      | some jw =>
        obtain ⟨jj, want⟩ := jw
        rw [hgd] at hg
        simp only at hg
        obtain ⟨d, g1, g2, g5⟩ := hg
        have hv := hinv.tmps.slot d
        rcases g5 with ⟨b', g3, g4⟩ | ⟨g3, g4⟩
        · rw [hslot d (by unfold slotsOf; rw [hgd]; simp [g1]), g3] at hv
          unfold VR at hv
          rw [wanted_some hgd g1 (by rw [hinv.tmps.size]; exact g2) hv, g4]
        · rw [hslot d (by unfold slotsOf; rw [hgd]; simp [g1]), g3] at hv
          unfold VR at hv
          obtain ⟨a0, e0, l0⟩ := hv
          have ha0 : a0 = #[] := by unfold VRs at l0; exact Array.toList_eq_nil_iff.1 l0
          subst ha0
          rw [wanted_undef hgd g1 e0, g4]
    unfold wpOp
    rw [hopsi]
    simp only [hwant]
    cases hr : e.run with
    | false =>
      rw [hr] at hrun
      simp only [Bool.false_eq_true, if_false] at hrun ⊢
      have hwn : ∀ b, wBlk (stAt s0 ops.toList es i) e b = none := fun b => by
        unfold wBlk; rw [hrun]; simp
      refine ih _ ρ _ w (by simpa using hls) hfuel ⟨hclosed, ⟨by simpa [Act.put] using (show (a.put o.dst undef).tmps.size = n by cases o.dst <;> simp [Act.put, hinv.tmps.size]), by cases o.dst <;> exact hinv.tmps.defers, fun t => ?_⟩, ?_, hinv.agree, ?_⟩
      · rw [hTnew]
        cases hdd : o.dst with
        | none => simp only [reduceCtorEq, if_false, Act.put]; exact (hinv.tmps.slot t).mono (fun _ _ => rfl) hdomsub (Lasts.refl w)
        | some d =>
          have hdn : d < a.tmps.size := by rw [hinv.tmps.size]; rw [hdd] at hd; exact hd
          rw [put_tmps a d undef t hdn]
          by_cases hdt : d = t
          · subst hdt; rw [if_pos rfl, if_pos rfl, hrun]; exact undef_tup
          · rw [if_neg hdt, if_neg (by simpa using hdt)]; exact (hinv.tmps.slot t).mono (fun _ _ => rfl) hdomsub (Lasts.refl w)
      · have := hinv.mem.monoDom hdomsub
        refine this.less fun b B hB => ?_
        rw [hGnew, hwn] at hB; exact hB
      · refine hinv.frame.less fun b B hB hro => ⟨b, B, ?_, hro, rfl⟩
        rw [hGnew, hwn] at hB; exact hB
    | true =>
      rw [hr] at hrun
      simp only [if_true] at hrun ⊢
      obtain ⟨hx, hold⟩ := hrun
      have hevs : ∀ x ∈ o.op.operands.toList, VR ρ (fun b => b < s0.H.length ∨ ∃ i e, listed.getD i false = true ∧ es[i]? = some e ∧ (stAt s0 ops.toList es i).H.length ≤ b ∧ b < (stAt s0 ops.toList es i).H.length + e.res.news.length) w ((stAt s0 ops.toList es i).ev x) (a.eval x) := fun x hxm => by
        cases x with
        | tmp t =>
          have hv := hinv.tmps.slot t
          rw [hslot t (by unfold slotsOf; simp only [List.mem_append, List.mem_filterMap]; exact .inl (.inr ⟨_, hxm, rfl⟩))] at hv
          exact hv
        | const v => exact ofValue_sound v
        | global g => show VR _ _ _ .junk _; unfold VR; trivial
        | func f => show VR _ _ _ (.fn f [] []) _; unfold VR; exact ⟨#[], #[], rfl, VRs.nil, VRs.nil⟩
      refine .inl (hx ρ _ _ w a _ Q hevs hinv.mem hfp hfresh ?_)
      intro ρ' w' r k1 k2 k3 k4
      have hle : ∀ b B, pickW (fun i' => (listed.setIfInBounds i true).getD i' false) (wsBlk s0 ops.toList es b) 0 (getH s0.H b) = some B → upd (fun b => pickW (fun i => listed.getD i false) (wsBlk s0 ops.toList es b) 0 (getH s0.H b)) e.res.old (stAt s0 ops.toList es i).H.length e.res.news b = some B := fun b B hB => by
        rw [hGnew] at hB
        unfold wBlk at hB
        unfold upd
        by_cases hc : (stAt s0 ops.toList es i).H.length ≤ b ∧ b < (stAt s0 ops.toList es i).H.length + e.res.news.length
        · rw [if_pos hc] at hB ⊢; exact hB
        · rw [if_neg hc] at hB ⊢
          rw [lookOld_mem]
          by_cases hmem : b ∈ e.res.old.map (·.1)
          · have hbl : b < (stAt s0 ops.toList es i).H.length := by
              obtain ⟨x, hx1, hx2⟩ := List.mem_map.1 hmem
              rw [← hx2]; exact hold x hx1
            rw [if_pos ⟨hbl, hmem⟩] at hB
            rw [if_pos hmem]; exact hB
          · rw [if_neg (fun h => hmem h.2)] at hB
            rw [if_neg hmem]; exact hB
      refine ih _ ρ' _ w' (by simpa using hls) hfuel ⟨hclosed, ⟨by cases o.dst <;> simp [Act.put, hinv.tmps.size], by cases o.dst <;> exact hinv.tmps.defers, fun t => ?_⟩, (k2.less hle).monoDom hdomnew, fun b hb => (k1 b (.inl hb)).trans (hinv.agree b hb), ?_⟩
      · rw [hTnew]
        cases hdd : o.dst with
        | none => simp only [reduceCtorEq, if_false, Act.put]; exact (hinv.tmps.slot t).mono k1 hdomsub k4.lasts
        | some d =>
          have hdn : d < a.tmps.size := by rw [hinv.tmps.size]; rw [hdd] at hd; exact hd
          rw [put_tmps a d r t hdn]
          by_cases hdt : d = t
          · subst hdt; rw [if_pos rfl, if_pos rfl]; exact k3.mono (fun _ _ => rfl) hdomnew (Lasts.refl w')
          · rw [if_neg hdt, if_neg (by simpa using hdt)]; exact (hinv.tmps.slot t).mono k1 hdomsub k4.lasts
      · exact (hinv.frame.trans k4).less fun b B hB hro => ⟨b, B, hle b B hB, hro, rfl⟩

/-- A region that draws its order comes to what it comes to in the text's order. -/
theorem draw_sound {m id : Nat} {s s' : St} {es : List Ent} {K : St → Prop} (hmix : P.follows .mixedOrders = true) (ht : Trace P n ops ops.toList s es s') (hok : ordOk ops (foots ops.toList s es) = true) (hk : K s') : DrawOk P m n id ops s K := by
  intro ρ a w Q hr hm hq
  refine wp_region_any hmix ?_
  obtain ⟨hl, _, _⟩ := trace_at _ _ _ _ ht
  have hal : Alike w { w with drawn := w.drawn + 1 } := Alike.drew w
  have hf0 : ∀ i, (Array.replicate ops.size false).getD i false = false := fun i => by
    rw [Array.getD_eq_getD_getElem?, Array.getElem?_replicate]; split <;> rfl
  have hT : ∀ t, pickW (fun i => (Array.replicate ops.size false).getD i false) (wsSlot ops.toList es t) 0 (s.get t) = s.get t := fun t => pickW_none _ 0 _ fun j x _ => hf0 _
  have hG : (fun b => pickW (fun i => (Array.replicate ops.size false).getD i false) (wsBlk s ops.toList es b) 0 (getH s.H b)) = getH s.H := funext fun b => pickW_none _ 0 _ fun j x _ => hf0 _
  refine draw_main ht hok (ρ0 := ρ) (w0 := w) hm (fun ρ' a' w' h1 h2 => hq a' w' ⟨s', ρ', hk, h1, h2⟩) _ _ ρ a _ (by simp) (Nat.le_trans (List.length_filter_le _ _) (by simp)) ⟨(fun j o _ hj => by rw [hf0] at hj; cases hj), ⟨hr.tmps.size, hr.tmps.defers, fun t => ?_⟩, ?_, fun _ _ => rfl, ?_⟩
  · rw [hT]
    exact (hr.tmps.slot t).mono (fun _ _ => rfl) (fun b hb => .inl hb) hal.lasts
  · rw [hG]
    exact (hr.mem.alike hal).monoDom fun b hb => .inl hb
  · rw [hG]
    exact Frame.alike hal

/-- Its operations in the text's order; at the end a look at who must come ahead of whom. -/
def vdraw (P : Program) (n : Nat) (ops : Array Oper) (K : St → Prop) : List Oper → List (List Nat × List Nat) → St → Prop
  | [], tr, s => ordOk ops tr = true ∧ K s
  | o :: l, tr, s => dstOk n o.dst ∧ match o.guard with
    | none => vexec P o.op s (hold fun res => (∀ x ∈ res.old, x.1 < s.H.length) ∧ vdraw P n ops K l (tr ++ [foot s res]) (s.after o.dst res))
    | some (j, want) => match guardSlot ops j with
      | some d => d < n ∧ vguard (s.get d) want (vexec P o.op s (hold fun res => (∀ x ∈ res.old, x.1 < s.H.length) ∧ vdraw P n ops K l (tr ++ [foot s res]) (s.after o.dst res))) (vdraw P n ops K l (tr ++ [([], [])]) (s.put o.dst (.tup [])))
      | none => False
theorem vdraw_trace {K : St → Prop} : ∀ (l : List Oper) (tr : List (List Nat × List Nat)) (s : St), vdraw P n ops K l tr s → ∃ es s', Trace P n ops l s es s' ∧ ordOk ops (tr ++ foots l s es) = true ∧ K s'
  | [], tr, s, h => ⟨[], s, rfl, by simpa [foots] using h.1, h.2⟩
  | o :: l, tr, s, h => by
    obtain ⟨hd, h⟩ := h
    have go : GuardIs ops n o s true → (vexec P o.op s fun res => (∀ x ∈ res.old, x.1 < s.H.length) ∧ vdraw P n ops K l (tr ++ [foot s res]) (s.after o.dst res)) → ∃ es s', Trace P n ops (o :: l) s es s' ∧ ordOk ops (tr ++ foots (o :: l) s es) = true ∧ K s' := fun hg hx => by
      obtain ⟨res, h1, h2, h3⟩ := vexec_sound hx
      obtain ⟨es, s', g1, g2, g3⟩ := vdraw_trace l _ _ h3
      refine ⟨⟨true, res⟩ :: es, s', ⟨⟨hd, hg, by simp only [if_true]; exact ⟨h1, h2⟩⟩, g1⟩, ?_, g3⟩
      simpa [foots] using g2
    cases hg : o.guard with
    | none => rw [hg] at h; exact go (by unfold GuardIs; rw [hg]) h
    | some g =>
      obtain ⟨j, want⟩ := g
      rw [hg] at h
      simp only at h
      split at h
      case h_2 => exact h.elim
      rename_i d hs
      obtain ⟨hdn, h⟩ := h
      unfold vguard at h
      have hput : s.after o.dst { v := .tup [] } = s.put o.dst (.tup []) := by unfold St.after St.put setOlds; simp
      split at h
      case h_3 => exact h.elim
      case h_2 =>
        rename_i hb
        obtain ⟨es, s', g1, g2, g3⟩ := vdraw_trace l _ _ h
        refine ⟨⟨false, { v := .tup [] }⟩ :: es, s', ⟨⟨hd, by unfold GuardIs; rw [hg]; exact ⟨d, hs, hdn, .inr ⟨hb, rfl⟩⟩, rfl⟩, by rw [hput]; exact g1⟩, ?_, g3⟩
        simp only [foots, hput]
        simpa [foot] using g2
      rename_i b hb
      obtain ⟨h1, h2⟩ := h
      by_cases e : b = want
      · exact go (by unfold GuardIs; rw [hg]; exact ⟨d, hs, hdn, .inl ⟨b, hb, by rw [e]; simp⟩⟩) (h1 e)
      · obtain ⟨es, s', g1, g2, g3⟩ := vdraw_trace l _ _ (h2 e)
        refine ⟨⟨false, { v := .tup [] }⟩ :: es, s', ⟨⟨hd, by unfold GuardIs; rw [hg]; exact ⟨d, hs, hdn, .inl ⟨b, hb, by simpa using e⟩⟩, rfl⟩, by rw [hput]; exact g1⟩, ?_, g3⟩
        simp only [foots, hput]
        simpa [foot] using g2
theorem vdraw_sound {m id : Nat} {s : St} {K : St → Prop} (hmix : P.follows .mixedOrders = true) (h : vdraw P n ops K ops.toList [] s) : DrawOk P m n id ops s K := by
  obtain ⟨es, s', h1, h2, h3⟩ := vdraw_trace _ _ _ h
  exact draw_sound hmix h1 (by simpa using h2) h3
end
end Go.Vm
