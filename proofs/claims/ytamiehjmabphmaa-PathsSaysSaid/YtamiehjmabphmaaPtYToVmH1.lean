/- A part of the proof: laws of a small machine of values, or what one function answers, proved against the model; no conditions beyond those in each theorem. -/
import Derived.OrdersIn
import Derived.CallsIn
import Derived.ControlIn
import Derived.Test.YtamiehjmabphmaaVmYToPtA
import Derived.Test.YtamiehjmabphmaaPtWToPtX
import Derived.ProofKit
set_option linter.unusedVariables false
set_option linter.unusedSimpArgs false
set_option linter.unusedSectionVars false
section
namespace Go.Vm
open Go Go.RowKit
section
variable {P : Program} {n : Nat} {ops : Array Oper}
/-- The wide fence, in a round's frame (r: which loop's), or not. -/
def FW (r : Option Nat) : Fence := { Fence.wide with round := r }
def wd (ds : List Deferred) (a : Act) : Act := { a with defers := ds }
theorem wd_put (ds : List Deferred) (a : Act) (d : Option Tmp) (v : Value) : (wd ds a).put d v = wd ds (a.put d v) := by cases d <;> rfl
theorem wd_eval (ds : List Deferred) (a : Act) : (wd ds a).eval = a.eval := by funext x; cases x <;> rfl
theorem put_defers (a : Act) (d : Option Tmp) (v : Value) : (a.put d v).defers = a.defers := by cases d <;> rfl
theorem callsFW (r : Option Nat) {m : Nat} {f : FuncId} {args : Array Value} {w : World} {R : Ending → World → Prop} (h : Calls P f args w R) : CallsIn (FW r) m P f args w R := by
  have h1 : CallsIn Fence.wide m P f args w R := callsIn_wide.2 h
  exact h1
theorem rowsFW (r : Option Nat) {m : Nat} {row : String} {args : Array Value} {w : World} {R : Value → World → Prop} (h : Rows P row args w R) : RowsIn (FW r) m P row args w R := by
  intro c cs _
  obtain ⟨v, w', h1, h2⟩ := h c cs
  exact ⟨v, w', h1, stepsIn_wide.2 h2⟩
theorem op_defers {o : Oper} {K : Act → World → Prop} {Q : Exit → Act → World → Prop} {a : Act} {w : World} (h : o.wp P a w K Q) (hK : ∀ a w, K a w → a.defers = []) (hQ : ∀ e a w, Q e a w → a.defers = []) (hlo : ¬ LetsOut Q) : a.defers = [] := by
  unfold Oper.wp at h
  generalize (execOp a.eval o).run P w = r at h
  have hcalls : ∀ {f : FuncId} {args : Array Value} {w' : World}, Calls P f args w' (fun
      | .returned v, w'' => K (a.put o.dst v) w''
      | .panicked chain, w'' => Q (.panic chain) a w''
      | .outgrown, _ => LetsOut Q) → a.defers = [] := fun hc => by
    obtain ⟨e, w'', fr, hR, _⟩ := hc []
    cases e with
    | returned v => have := hK _ _ hR; rwa [put_defers] at this
    | panicked ch => exact hQ _ _ _ hR
    | outgrown => exact absurd hR hlo
  cases r with
  | ok x w' =>
    cases x with
    | value v => have := hK _ _ h; rwa [put_defers] at this
    | skip => have := hK _ _ h; rwa [put_defers] at this
    | defer d =>
      have := hK _ _ h
      rw [put_defers] at this
      cases this
    | enter f args => exact hcalls h
    | row row args =>
      obtain ⟨v, w'', h1, _⟩ := h default []
      have := hK _ _ h1
      rwa [put_defers] at this
    | _ => exact False.elim h
  | halt x w' =>
    cases x with
    | panic v => exact hQ _ _ _ h
    | _ => exact False.elim h
theorem op_in {o : Oper} {K K' : Act → World → Prop} {Q Q' : Exit → Act → World → Prop} {a : Act} {w : World} {ds : List Deferred} {r : Option Nat} {m : Nat} (h : o.wp P a w K Q) (hK : ∀ a w, K a w → a.defers = []) (hlo : ¬ LetsOut Q)
    (hnd : ∀ c, o.op ≠ .defer c) (hK' : ∀ a w, K a w → K' (wd ds a) w) (hQ' : ∀ e a w, Q e a w → Q' e (wd ds a) w) : o.wpIn (FW r) m P (wd ds a) w K' Q' := by
  refine ⟨fun _ _ => trivial, ?_⟩
  rw [Oper.semAt_eq _ _ _ hnd, wd_eval]
  unfold Oper.wp at h
  generalize (execOp a.eval o).run P w = res at h
  cases res with
  | ok x w' =>
    cases x with
    | value v => show K' ((wd ds a).put o.dst v) w'; rw [wd_put]; exact hK' _ _ h
    | skip => show K' ((wd ds a).put o.dst undef) w'; rw [wd_put]; exact hK' _ _ h
    | defer d =>
      have := hK _ _ h
      rw [put_defers] at this
      cases this
    | enter f args =>
      refine ⟨fun hc => (by cases hc), callsFW r (Calls.mono h ?_)⟩
      intro e w'' hR
      cases e with
      | returned v => show K' ((wd ds a).put o.dst v) w''; rw [wd_put]; exact hK' _ _ hR
      | panicked ch => exact hQ' _ _ _ hR
      | outgrown => exact absurd hR hlo
    | row row args =>
      refine ⟨fun hc => (by cases hc), rowsFW r (Rows.mono h ?_)⟩
      intro v w'' hR
      show K' ((wd ds a).put o.dst v) w''
      rw [wd_put]; exact hK' _ _ hR
    | _ => exact False.elim h
  | halt x w' =>
    cases x with
    | panic v => exact hQ' _ _ _ h
    | _ => exact False.elim h
/-- No operation of it is a defer statement. -/
def noDefer (ops : Array Oper) : Bool := ops.toList.all fun o => match o.op with | .defer _ => false | _ => true
theorem noDefer_get (h : noDefer ops = true) {i : Nat} {o : Oper} (ho : ops[i]? = some o) : ∀ c, o.op ≠ .defer c := by
  unfold noDefer at h
  rw [List.all_eq_true] at h
  have := h o (by rw [← Array.getElem?_toList] at ho; exact List.mem_of_getElem? ho)
  intro c e
  rw [e] at this
  cases this
theorem ops_defers {Q : Exit → Act → World → Prop} (hQ : ∀ e a w, Q e a w → a.defers = []) (hlo : ¬ LetsOut Q) : ∀ (l : List Nat) (a : Act) (w : World), wpOps P ops Q l a w → a.defers = []
  | [], a, w, h => hQ _ _ _ h
  | i :: rest, a, w, h => by
    unfold wpOps at h
    split at h
    · exact ops_defers hQ hlo rest a w h
    · split at h
      · rcases h with h | h
        · exact op_defers h (ops_defers hQ hlo rest) hQ hlo
        · exact absurd h.2 hlo
      · have := ops_defers hQ hlo rest _ _ h
        rwa [put_defers] at this
theorem ops_in {Q Q' : Exit → Act → World → Prop} {ds : List Deferred} {r : Option Nat} {m : Nat} (hd : noDefer ops = true) (hQ : ∀ e a w, Q e a w → a.defers = []) (hlo : ¬ LetsOut Q) (hQ' : ∀ e a w, Q e a w → Q' e (wd ds a) w) :
    ∀ (l : List Nat) (a : Act) (w : World), wpOps P ops Q l a w → wpOpsIn (FW r) m P ops Q' l (wd ds a) w
  | [], a, w, h => hQ' _ _ _ h
  | i :: rest, a, w, h => by
    unfold wpOps at h
    unfold wpOpsIn
    cases ho : ops[i]? with
    | none =>
      rw [ho] at h
      exact ops_in hd hQ hlo hQ' rest a w h
    | some o =>
      rw [ho] at h
      simp only at h ⊢
      have ht : yielded ops (wd ds a).tmps = yielded ops a.tmps := rfl
      rw [ht]
      split
      · rename_i hw
        rw [if_pos hw] at h
        rcases h with h | h
        · exact op_in h (ops_defers hQ hlo rest) hlo (noDefer_get hd ho) (ops_in hd hQ hlo hQ' rest) hQ'
        · exact absurd h.2 hlo
      · rename_i hw
        rw [if_neg hw] at h
        refine ⟨fun _ _ => trivial, ?_⟩
        rw [wd_put]
        exact ops_in hd hQ hlo hQ' rest _ w h
theorem any_defers {Q : Exit → Act → World → Prop} {md : Region.Mode} (hQ : ∀ e a w, Q e a w → a.defers = []) (hlo : ¬ LetsOut Q) : ∀ (k : Nat) (listed : Array Bool) (a : Act) (w : World), wpAny P md ops Q k listed a w → a.defers = []
  | 0, listed, a, w, h => hQ _ _ _ h.2
  | k + 1, listed, a, w, h => by
    obtain ⟨h0, h1⟩ := h
    cases hr : Region.ready md ops listed with
    | nil => exact hQ _ _ _ (h0 hr)
    | cons i l =>
      have h2 := h1 i (by rw [hr]; simp)
      unfold wpOp at h2
      split at h2
      · exact any_defers hQ hlo k _ a w h2
      · split at h2
        · rcases h2 with h2 | h2
          · exact op_defers h2 (any_defers hQ hlo k _) hQ hlo
          · exact absurd h2.2 hlo
        · have := any_defers hQ hlo k _ _ _ h2
          rwa [put_defers] at this
theorem any_in {Q Q' : Exit → Act → World → Prop} {ds : List Deferred} {r : Option Nat} {m : Nat} {md : Region.Mode} (hd : noDefer ops = true) (hQ : ∀ e a w, Q e a w → a.defers = []) (hlo : ¬ LetsOut Q) (hQ' : ∀ e a w, Q e a w → Q' e (wd ds a) w) :
    ∀ (k : Nat) (listed : Array Bool) (a : Act) (w : World), wpAny P md ops Q k listed a w → wpAnyIn (FW r) m P md ops Q' k listed (wd ds a) w
  | 0, listed, a, w, h => ⟨h.1, hQ' _ _ _ h.2⟩
  | k + 1, listed, a, w, h => by
    obtain ⟨h0, h1⟩ := h
    refine ⟨fun hr => hQ' _ _ _ (h0 hr), fun i hi => ?_⟩
    have h2 := h1 i hi
    unfold wpOp at h2
    unfold wpOpIn
    cases ho : ops[i]? with
    | none =>
      rw [ho] at h2
      exact any_in hd hQ hlo hQ' k _ a w h2
    | some o =>
      rw [ho] at h2
      simp only at h2 ⊢
      have ht : yielded ops (wd ds a).tmps = yielded ops a.tmps := rfl
      rw [ht]
      split
      · rename_i hw
        rw [if_pos hw] at h2
        rcases h2 with h2 | h2
        · exact op_in h2 (any_defers hQ hlo k _) hlo (noDefer_get hd ho) (any_in hd hQ hlo hQ' k _) hQ'
        · exact absurd h2.2 hlo
      · rename_i hw
        rw [if_neg hw] at h2
        refine ⟨fun _ _ => trivial, ?_⟩
        rw [wd_put]
        exact any_in hd hQ hlo hQ' k _ _ w h2
theorem draw_any {m : Nat} {s s' : St} {es : List Ent} {K : St → Prop} (ht : Trace P n ops ops.toList s es s') (hok : ordOk ops (foots ops.toList s es) = true) (hk : K s') : ∀ (ρ : Nat → Nat × Nat) (a : Act) (w : World) (Q : Exit → Act → World → Prop), RelSt ρ n s a w → m ≤ s.H.length → (∀ a' w', Lift m n ρ s w K a' w' → Q .normal a' w') → wpAny P .any ops Q ops.size (Array.replicate ops.size false) a { w with drawn := w.drawn + 1 } := by
  intro ρ a w Q hr hm hq
  obtain ⟨hl, _, _⟩ := trace_at _ _ _ _ ht
  have hal : Alike w { w with drawn := w.drawn + 1 } := Alike.drew w
  have hf0 : ∀ i, (Array.replicate ops.size false).getD i false = false := fun i => by
    rw [Array.getD_eq_getD_getElem?, Array.getElem?_replicate]; split <;> rfl
  have hT : ∀ t, pickW (fun i => (Array.replicate ops.size false).getD i false) (wsSlot ops.toList es t) 0 (s.get t) = s.get t := fun t => pickW_none _ 0 _ fun j x _ => hf0 _
  have hG : (fun b => pickW (fun i => (Array.replicate ops.size false).getD i false) (wsBlk s ops.toList es b) 0 (getH s.H b)) = getH s.H := funext fun b => pickW_none _ 0 _ fun j x _ => hf0 _
  refine draw_main ht hok (ρ0 := ρ) (w0 := w) hm (fun ρ' a' w' h1 h2 => hq a' w' ⟨s', ρ', hk, h1, h2⟩) _ _ ρ a _ (by simp) (Nat.le_trans (List.length_filter_le _ _) (by simp)) ⟨(fun j o _ hj => by rw [hf0] at hj; cases hj), ⟨hr.tmps.size, hr.tmps.defers, fun t => ?_⟩, ?_, fun _ _ => rfl, ?_⟩
  · rw [hT]
    exact (hr.tmps.slot t).mono (fun _ _ => rfl) (fun b hb => .inl hb) hal.lasts
  · rw [hG]
    exact (hr.mem.alike hal).monoDom fun b hb => .inl hb
  · rw [hG]
    exact Frame.alike hal


def plainC : Code → Bool
  | .skip => true
  | .region _ ops _ => noDefer ops
  | .seq x y => plainC x && plainC y
  | .cond _ x y => plainC x && plainC y
  | .block _ c => plainC c
  | .exit _ => true
  | .ret => true
  | _ => false
/-- What is shown of plain code holds in a round's frame, and over deferred marks. -/
theorem vc_in (hmix : P.follows .mixedOrders = true) {m k : Nat} {ds : List Deferred} {r : Option Nat} : ∀ (c : Code) (Q : Exit → St → Prop) (s : St), plainC c = true → vc P m n c Q s → (∀ s, ¬ Q .outgrown s) → ∀ (ρ : Nat → Nat × Nat) (a : Act) (w : World), RelSt ρ n s a w → m ≤ s.H.length →
    c.wpIn (FW r) k P (fun e a' w' => ∃ a0, a' = wd ds a0 ∧ LiftE m n ρ s w Q e a0 w') (wd ds a) w
  | .skip, Q, s, _, h, _, ρ, a, w, hr, hm => wpIn_skip ⟨a, rfl, s, ρ, h, hr, Step.refl hm⟩
  | .region id ops true, Q, s, hp, h, _, ρ, a, w, hr, hm => by
    obtain ⟨es, s', h1, h2, h3⟩ := vdraw_trace _ _ _ h
    refine wpIn_region_any hmix (any_in (Q := fun e a' w' => e = .normal ∧ Lift m n ρ s w (Q .normal) a' w') hp ?_ ?_ ?_ _ _ a _ (draw_any (m := m) h1 (by simpa using h2) h3 ρ a w _ hr hm fun a' w' hl => ⟨rfl, hl⟩))
    · rintro e a' w' ⟨_, s', ρ', _, q2, _⟩; exact q2.tmps.defers
    · rintro ⟨a', w', hc, _⟩; cases hc
    · rintro e a' w' ⟨rfl, s', ρ', q1, q2, q3⟩; exact ⟨a', rfl, s', ρ', q1, q2, q3⟩
  | .region id ops false, Q, s, hp, h, _, ρ, a, w, hr, hm => by
    refine wpIn_region (ops_in (Q := fun e a' w' => e = .normal ∧ Lift m n ρ s w (Q .normal) a' w') hp ?_ ?_ ?_ _ a w (vops_sound (m := m) (List.range ops.size) ops.toList s (Q .normal) ?_ h ρ a w hr hm fun a' w' hl => ⟨rfl, hl⟩))
    · rintro e a' w' ⟨_, s', ρ', _, q2, _⟩; exact q2.tmps.defers
    · rintro ⟨a', w', hc, _⟩; cases hc
    · rintro e a' w' ⟨rfl, s', ρ', q1, q2, q3⟩; exact ⟨a', rfl, s', ρ', q1, q2, q3⟩
    · refine List.ext_getElem? fun i => ?_
      simp only [List.getElem?_map]
      by_cases hi : i < ops.size
      · simp [List.getElem?_range hi, hi]
      · rw [List.getElem?_eq_none (by simp; omega), List.getElem?_eq_none (by simp; omega)]; rfl
  | .seq x y, Q, s, hp, h, hq, ρ, a, w, hr, hm => by
    simp only [plainC, Bool.and_eq_true] at hp
    refine wpIn_seq (wpIn_mono (vc_in hmix x _ s hp.1 h (fun s hs => hq s hs) ρ a w hr hm) ?_)
    rintro e a' w' ⟨a0, rfl, s', ρ', q1, q2, q3⟩
    cases e
    case normal => exact wpIn_mono (vc_in hmix y Q s' hp.2 q1 hq ρ' a0 w' q2 q3.1) fun e a'' w'' ⟨a1, h1, s'', ρ'', r1, r2, r3⟩ => ⟨a1, h1, s'', ρ'', r1, r2, q3.trans r3⟩
    all_goals exact ⟨a0, rfl, s', ρ', q1, q2, q3⟩
  | .cond c x y, Q, s, hp, h, hq, ρ, a, w, hr, hm => by
    simp only [plainC, Bool.and_eq_true] at hp
    simp only [vc, vcond] at h
    split at h
    case h_2 => exact h.elim
    rename_i b hb
    have hv := hr.tmps.eval c
    rw [hb] at hv
    unfold VR at hv
    exact wpIn_cond_split (by rw [wd_eval]; exact hv) (fun ht => vc_in hmix x Q s hp.1 (h.1 ht) hq ρ a w hr hm) (fun hf => vc_in hmix y Q s hp.2 (h.2 hf) hq ρ a w hr hm)
  | .block id c, Q, s, hp, h, hq, ρ, a, w, hr, hm => by
    refine wpIn_block (wpIn_mono (vc_in hmix c _ s hp h (fun s hs => hq s hs) ρ a w hr hm) ?_)
    rintro e a' w' ⟨a0, rfl, s', ρ', q1, q2, q3⟩
    cases e
    case exit i =>
      simp only [blockQ] at q1
      simp only [Exit.inBlock]
      split at q1
      · rename_i e; rw [if_pos e]; exact ⟨a0, rfl, s', ρ', q1, q2, q3⟩
      · rename_i e; rw [if_neg e]; exact ⟨a0, rfl, s', ρ', q1, q2, q3⟩
    all_goals exact ⟨a0, rfl, s', ρ', q1, q2, q3⟩
  | .exit id, Q, s, _, h, _, ρ, a, w, hr, hm => wpIn_exit ⟨a, rfl, s, ρ, h, hr, Step.refl hm⟩
  | .ret, Q, s, _, h, _, ρ, a, w, hr, hm => wpIn_ret ⟨a, rfl, s, ρ, h, hr, Step.refl hm⟩
  | .label _, _, _, hp, _, _, _, _, _, _, _ => by cases hp
  | .loop _, _, _, hp, _, _, _, _, _, _, _ => by cases hp
  | .scope _, _, _, hp, _, _, _, _, _, _, _ => by cases hp
  | .goto _, _, _, hp, _, _, _, _, _, _, _ => by cases hp
  | .rangeFunc _ _ _ _, _, _, hp, _, _, _, _, _, _, _ => by cases hp
  | .refuse _, _, _, hp, _, _, _, _, _, _, _ => by cases hp
end
end Go.Vm
end
section
namespace Go.Vm
open Go Go.RowKit Go.Proofs
section
variable {P : Program} {m n : Nat}
/-- The world turns, but not what these blocks say. -/
structure Still (A : Nat → Prop) (W W' : World) : Prop where
  os : W'.os = W.os
  output : W'.output = W.output
  tape : W'.tape = W.tape
  size : W.heap.size ≤ W'.heap.size
  same : ∀ r, A r → W'.heap[r]? = W.heap[r]?
  lasts : Lasts W W'
theorem MemRel.still {ρ : Nat → Nat × Nat} {dom : Nat → Prop} {get : Nat → Option Blk} {W W' : World} {A : Nat → Prop} (h : MemRel ρ dom get W) (hs : Still A W W') (ha : ∀ b B, get b = some B → A (ρ b).1) : MemRel ρ dom get W' := by
  refine ⟨h.has, fun b B hB => Nat.lt_of_lt_of_le (h.lt b B hB) hs.size, h.inj, fun b B hB i v hv => ?_, fun b B hB hro i hi => ?_, fun b B mm hB hmp => by rw [hs.same _ (ha b B hB)]; exact h.mapc b B mm hB hmp⟩
  · obtain ⟨r, g1, g2⟩ := h.cell b B hB i v hv
    exact ⟨r, by rw [World.cell?_of_block (w := W) (hs.same _ (ha b B hB))]; exact g1, g2.mono (fun _ _ => rfl) (fun _ h => h) hs.lasts⟩
  · rw [World.frozen?_of_block (w := W) (hs.same _ (ha b B hB))]
    exact h.free b B hB hro i hi
theorem Frame.still {ρ ρ' : Nat → Nat × Nat} {get get' : Nat → Option Blk} {w W W' : World} {A : Nat → Prop} (h : Frame ρ get w ρ' get' W) (hs : Still A W W') (ha : ∀ r, r < w.heap.size → A r) : Frame ρ get w ρ' get' W' :=
  ⟨hs.os.trans h.os, hs.output.trans h.output, hs.tape.trans h.tape, Nat.le_trans h.size hs.size, fun r hr hb => (hs.same r (ha r hr)).trans (h.keep r hr hb), h.lasts.trans hs.lasts, h.own⟩
theorem still_alloc (W : World) (o : Obj) : Still (fun r => r < W.heap.size) W (W.alloc o) :=
  ⟨rfl, rfl, rfl, by rw [show (W.alloc o).heap.size = W.heap.size + 1 from Array.size_push ..]; omega, fun r hr => Below.heap_alloc W o r hr, lasts_alloc W o⟩
theorem still_drew (W : World) : Still (fun _ => True) W W.drew := ⟨rfl, rfl, rfl, Nat.le_refl _, fun _ _ => rfl, (Alike.drew W).lasts⟩
theorem still_setCell (W : World) (b k : Nat) (v : Value) : Still (fun r => r ≠ b) W (W.setCell ⟨b, k, none⟩ v) := by
  refine ⟨rfl, rfl, rfl, by show W.heap.size ≤ (W.heap.modify _ _).size; rw [Array.size_modify]; exact Nat.le_refl _, fun r hr => Below.heap_setCell W _ v r hr, fun p o hc => ⟨?_, fun hf => by rw [World.frozen?_setCell]; exact hf⟩⟩
  by_cases e : (⟨b, k, none⟩ : Addr) = ⟨p, o, none⟩
  · obtain ⟨u, hu⟩ := Option.isSome_iff_exists.1 hc
    rw [← e] at hu ⊢
    rw [World.cell?_setCell_same _ _ _ hu]; rfl
  · rw [World.cell?_setCell_other _ _ _ _ e]; exact hc
theorem still_putObj {W : World} {k : Nat} {o : Obj} (h : W.heap[k]? = some o) (hc : Obj.bare o = true) (o' : Obj) : Still (fun r => r ≠ k) W (W.putObj k o') := by
  refine ⟨rfl, rfl, rfl, by rw [World.putObj_size]; exact Nat.le_refl _, fun r hr => World.putObj_heap_other hr, fun p i hp => ?_⟩
  have hne : p ≠ k := fun e => by rw [e, bare_cell h hc] at hp; cases hp
  have hb : (W.putObj k o').heap[(⟨p, i, none⟩ : Addr).block]? = W.heap[(⟨p, i, none⟩ : Addr).block]? := World.putObj_heap_other hne
  exact ⟨by rw [World.cell?_of_block hb]; exact hp, fun hf => by rw [World.frozen?_of_block hb]; exact hf⟩
theorem RelSt.still {ρ : Nat → Nat × Nat} {s : St} {a : Act} {W W' : World} {A : Nat → Prop} (h : RelSt ρ n s a W) (hs : Still A W W') (ha : ∀ b B, getH s.H b = some B → A (ρ b).1) : RelSt ρ n s a W' :=
  ⟨h.tmps.mono (fun _ _ => rfl) (fun _ h => h) hs.lasts, h.mem.still hs ha⟩
/-- Between two rounds: memory H, as JP says; the loop's record; the block of deferred calls; X: blocks that are the iterator's own. -/
def JW (ρ : Nat → Nat × Nat) (G : Nat → Option Blk) (w : World) (m : Nat) (JP : List (Int × Int × Nat) → List (Option Blk) → Prop) (Lr D : Nat) (rec : Obj) (X : List Nat) (pre : List (Int × Int × Nat)) (W : World) : Prop :=
  ∃ (H : List (Option Blk)) (ρ' : Nat → Nat × Nat), JP pre H ∧ m ≤ H.length ∧ MemRel ρ' (· < H.length) (getH H) W ∧ (∀ b, b < m → ρ' b = ρ b) ∧ Frame ρ G w ρ' (getH H) W ∧ W.heap[Lr]? = some rec ∧ W.heap[D]? = some (.deferred (some [])) ∧
    (∀ b B, getH H b = some B → (ρ' b).1 ≠ Lr ∧ (ρ' b).1 ≠ D) ∧ ∀ x ∈ X, x < W.heap.size ∧ w.heap.size ≤ x ∧ x ≠ Lr ∧ x ≠ D ∧ ∀ b B, getH H b = some B → (ρ' b).1 ≠ x
section
variable {ρ : Nat → Nat × Nat} {G : Nat → Option Blk} {w : World} {JP : List (Int × Int × Nat) → List (Option Blk) → Prop} {Lr D : Nat} {rec : Obj} {X : List Nat} {pre : List (Int × Int × Nat)} {W W' : World}
theorem JW.still {A : Nat → Prop} (h : JW ρ G w m JP Lr D rec X pre W) (hs : Still A W W') (ha : ∀ r, r < w.heap.size → A r) (hL : A Lr) (hD : A D)
    (hm : ∀ r, r < W.heap.size → r ∉ X → A r) : JW ρ G w m JP Lr D rec X pre W' := by
  obtain ⟨H, ρ', h1, h2, h3, h4, h5, h6, h7, h8, h9⟩ := h
  refine ⟨H, ρ', h1, h2, h3.still hs fun b B hB => hm _ (h3.lt b B hB) fun hx => (h9 _ hx).2.2.2.2 b B hB rfl, h4, h5.still hs ha, (hs.same _ hL).trans h6, (hs.same _ hD).trans h7, h8, fun x hx => ?_⟩
  obtain ⟨g1, g2⟩ := h9 x hx
  exact ⟨Nat.lt_of_lt_of_le g1 hs.size, g2⟩
theorem JW.al (h : JW ρ G w m JP Lr D rec X pre W) (c : Array Value) (t : TypeId) : JW ρ G w m JP Lr D rec (W.heap.size :: X) pre (W.alloc (.cells c t)) := by
  obtain ⟨H, ρ', h1, h2, h3, h4, h5, h6, h7, h8, h9⟩ := h
  have hL : Lr < W.heap.size := (Array.getElem?_eq_some_iff.1 h6).1
  have hD : D < W.heap.size := (Array.getElem?_eq_some_iff.1 h7).1
  have hs := still_alloc W (.cells c t)
  have hsz : (W.alloc (.cells c t)).heap.size = W.heap.size + 1 := Array.size_push ..
  have h5s := h5.size
  refine ⟨H, ρ', h1, h2, h3.still hs fun b B hB => h3.lt b B hB, h4, h5.still hs (fun r hr => by omega), (hs.same _ hL).trans h6, (hs.same _ hD).trans h7, h8, fun x hx => ?_⟩
  rcases List.mem_cons.1 hx with rfl | hx
  · exact ⟨by omega, by omega, by omega, by omega, fun b B hB => by have := h3.lt b B hB; omega⟩
  · obtain ⟨g1, g2⟩ := h9 x hx
    exact ⟨by omega, g2⟩
theorem JW.set (h : JW ρ G w m JP Lr D rec X pre W) (b k : Nat) (v : Value) (hb : b ∈ X) : JW ρ G w m JP Lr D rec X pre (W.setCell ⟨b, k, none⟩ v) := by
  have hx : w.heap.size ≤ b ∧ b ≠ Lr ∧ b ≠ D := by obtain ⟨H, ρ', _, _, _, _, _, _, _, _, h9⟩ := h; exact ⟨(h9 b hb).2.1, (h9 b hb).2.2.1, (h9 b hb).2.2.2.1⟩
  exact h.still (still_setCell W b k v) (fun r hr e => by omega) hx.2.1.symm hx.2.2.symm (fun r _ hr e => hr (e ▸ hb))
theorem JW.drw (h : JW ρ G w m JP Lr D rec X pre W) : JW ρ G w m JP Lr D rec X pre W.drew := h.still (still_drew W) (fun _ _ => trivial) trivial trivial fun _ _ _ => trivial
theorem JW.wk {x : Nat} (h : JW ρ G w m JP Lr D rec (x :: X) pre W) : JW ρ G w m JP Lr D rec X pre W := by
  obtain ⟨H, ρ', h1, h2, h3, h4, h5, h6, h7, h8, h9⟩ := h
  exact ⟨H, ρ', h1, h2, h3, h4, h5, h6, h7, h8, fun x hx => h9 x (by simp [hx])⟩
theorem JW.lt (h : JW ρ G w m JP Lr D rec X pre W) : ∀ x ∈ X, x < W.heap.size := fun x hx => by
  obtain ⟨H, ρ', h1, h2, h3, h4, h5, h6, h7, h8, h9⟩ := h
  exact (h9 x hx).1
end
/-- The loop's record. -/
def recO (fn : FuncId) (tmps : Array Value) (ps : Array Tmp) (assign body : Code) (D : Nat) (st : LoopState) : Obj := .loop { state := st, pending := none, fn, tmps, params := ps, assign, body, defers := D }
/-- The nodes of a shape lie in the arena. -/
def shTop : Sh → Nat
  | .nil => 0
  | .node i _ _ => i
def ShIn (A : List Nd) : Sh → Prop
  | .nil => True
  | .node i l r => (∃ nd, A[i]? = some nd ∧ nd.k0 = shTop l ∧ nd.k1 = shTop r) ∧ (∀ j ∈ l.ids, j ≠ 0) ∧ (∀ j ∈ r.ids, j ≠ 0) ∧ ShIn A l ∧ ShIn A r
/-- The same kids. -/
def SameK (A B : List Nd) : Prop := B.length = A.length ∧ ∀ (i : Nat) nd, A[i]? = some nd → ∃ nd', B[i]? = some nd' ∧ nd'.k0 = nd.k0 ∧ nd'.k1 = nd.k1
theorem kid_ptr {ρ' : Nat → Nat × Nat} {dom : Nat → Prop} {W : World} {pos : Nat → Nat} {pb po : Nat → Nat} {T : Sh} {r : Value} (h0 : ∀ j ∈ T.ids, j ≠ 0) (hp : ∀ j ∈ T.ids, ρ' (pos j) = (pb j, po j)) (h : VR ρ' dom W (kidV pos (shTop T)) r) : r = .pointer (T.ptr pb po) := by
  cases T with
  | nil =>
    have hk : kidV pos (shTop .nil) = .nilPtr := if_pos rfl
    rw [hk] at h
    unfold VR at h
    exact h
  | node i l r' =>
    have hi0 := h0 i (by simp [Sh.ids])
    have hk : kidV pos (shTop (.node i l r')) = .ptr (pos i) 0 := if_neg hi0
    rw [hk] at h
    unfold VR at h
    rw [h.2, hp i (by simp [Sh.ids])]
    rfl
theorem kids_of {ρ' : Nat → Nat × Nat} {dom : Nat → Prop} {W : World} {H : List (Option Blk)} {pos : Nat → Nat} {many : Int} {A B : List Nd} {pb po : Nat → Nat} (hm : MemRel ρ' dom (getH H) W) (hT : TreeAt pos many B H) (hs : SameK A B) (hp : ∀ j, j < A.length → ρ' (pos j) = (pb j, po j)) :
    ∀ (T : Sh), ShIn A T → (∀ j ∈ T.ids, j < A.length) → Go.Proofs.Kids pb po W T
  | .nil, _, _ => trivial
  | .node i l r, h, hN => by
    obtain ⟨⟨nd, h1, h2, h3⟩, h4, h5, h6, h7⟩ := h
    obtain ⟨nd', g1, g2, g3⟩ := hs.2 i nd h1
    have hi : i < A.length := hN i (by simp [Sh.ids])
    have hl : ∀ j ∈ l.ids, j < A.length := fun j hj => hN j (by simp [Sh.ids, hj])
    have hr : ∀ j ∈ r.ids, j < A.length := fun j hj => hN j (by simp [Sh.ids, hj])
    have hb := hT.here i nd' g1
    obtain ⟨r0, a1, a2⟩ := hm.cell _ _ hb 0 _ rfl
    obtain ⟨r1, b1, b2⟩ := hm.cell _ _ hb 1 _ rfl
    rw [hp i hi] at a1 b1
    rw [g2, h2] at a2
    rw [g3, h3] at b2
    refine ⟨?_, ?_, kids_of hm hT hs hp l h6 hl, kids_of hm hT hs hp r h7 hr⟩
    · rw [kid_ptr h4 (fun j hj => hp j (hl j hj)) a2] at a1; exact a1
    · rw [kid_ptr h5 (fun j hj => hp j (hr j hj)) b2] at b1; exact b1
theorem ofInt32_toNat {a : Int} (h0 : 0 ≤ a) (h1 : a < 4294967296) : ((BitVec.ofInt 32 a).toNat : Int) = a := by
  rw [BitVec.toNat_ofInt]
  have : (2 : Nat) ^ 32 = 4294967296 := by decide
  omega
theorem relT_t0 {ρ ρ' : Nat → Nat × Nat} {s : St} {a : Act} {w W : World} {H : List (Option Blk)} {t0 : List (Nat × V)} (hr : RelT ρ (· < s.H.length) w n s.get a) (ht0 : ∀ p ∈ t0, p.2 = s.get p.1 ∧ p.2.low m) (hρ : ∀ b, b < m → ρ' b = ρ b) (hm : m ≤ H.length) (hl : Lasts w W) :
    RelT ρ' (· < H.length) W n (lookS t0) a := by
  refine ⟨hr.size, hr.defers, fun t => ?_⟩
  have : ∀ (l : List (Nat × V)), (∀ p ∈ l, p.2 = s.get p.1 ∧ p.2.low m) → VR ρ' (· < H.length) W (lookS l t) (a.tmps.getD t undef) := by
    intro l
    induction l with
    | nil => intro _; show VR _ _ _ .junk _; unfold VR; trivial
    | cons p l ih =>
      intro h
      simp only [lookS]
      split
      · rename_i e
        obtain ⟨h1, h2⟩ := h p (by simp)
        have h3 := hr.slot p.1
        rw [← h1, e] at h3
        exact (h3.restrict h2).mono (fun b hb => hρ b hb) (fun b (hb : b < m) => Nat.lt_of_lt_of_le hb hm) hl
      · exact ih fun q hq => h q (by simp [hq])
  exact this t0 ht0
set_option maxHeartbeats 2000000 in
theorem range_each (hmix : Try.prog.follows .mixedOrders = true) {m n k : Nat} {g : Operand} {p0 p1 : Tmp} {assign body : Code} {t0 : List (Nat × V)} {s : St} (A : List Nd) (tl tr : Sh) (isv : Nat → Bool) (JP : List (Int × Int × Nat) → List (Option Blk) → Prop) (pos : Nat → Nat)
    (hp0 : p0 < n) (hp1 : p1 < n) (hpa : plainC assign = true) (hpb : plainC body = true)
    (hRW : ∀ pre H, JP pre H → ∀ b B, getH H b = some B → B.ro = false)
    (hpos : ∀ j, j < A.length → pos j < m)
    (hTree : ∀ pre H, JP pre H → ∃ many B, TreeAt pos many B H ∧ SameK A B ∧ ∀ (i : Nat) nd, B[i]? = some nd → i ∉ pre.map (·.2.2) → nd.is = isv i)
    (hbody : ∀ pre (a n' : Int) (i : Nat) H, JP pre H → m ≤ H.length → i < A.length → 0 ≤ a → a < 4294967296 → 0 ≤ n' → n' ≤ 32 → isv i = true → i ∉ pre.map (·.2.2) →
      vc Try.prog m n assign (fun e s' => e = .normal ∧ (∀ b B, getH s'.H b = some B → B.ro = false) ∧ vc Try.prog m n body (fun e s2 => e = .normal ∧ JP (pre ++ [(a, n', i)]) s2.H) s') ⟨(p1, .ptr (pos i) 0) :: (p0, .agg [.u32 (BitVec.ofInt 32 a), .i64 n']) :: t0, H⟩)
    (hg : s.ev g = .fn 24 [.ptr (pos 0) 0] []) (ht0 : ∀ p ∈ t0, p.2 = s.get p.1 ∧ p.2.low m)
    (hsh : ShIn A (.node 0 tl tr)) (hids : ∀ i ∈ (Sh.node 0 tl tr).ids, i < A.length) (hnd : (Sh.node 0 tl tr).ids.Nodup) (hh : (Sh.node 0 tl tr).hgt ≤ 33)
    (hJ0 : JP [] s.H) (hms : m ≤ s.H.length) (ρ : Nat → Nat × Nat) (a : Act) (w : World) (hr : RelSt ρ n s a w) :
    (Code.rangeFunc g #[p0, p1] assign body).wpIn (FW none) k Try.prog (fun e a' w' => e = .normal ∧ ∃ D H ρ', a' = wd [{ target := .collected D, args := #[] }] a ∧ JP (walkL isv (.node 0 tl tr) 0 0) H ∧ m ≤ H.length ∧ RelSt ρ' n ⟨t0, H⟩ a w' ∧ Step m ρ s w ρ' ⟨t0, H⟩ w' ∧
      w'.heap[D]? = some (.deferred (some [])) ∧ (∀ b B, getH H b = some B → (ρ' b).1 ≠ D) ∧ w.heap.size ≤ D) a w := by
  refine wpIn_rangeFunc ?_
  intro fn _
  have hgv := hr.tmps.eval g
  rw [hg] at hgv
  unfold VR at hgv
  obtain ⟨f', c', hge, hf', hc'⟩ := hgv
  unfold VRs at hf' hc'
  obtain ⟨q, qs, hq, hq2, hq3⟩ := hf'
  unfold VRs at hq3
  unfold VR at hq2
  subst hq3
  obtain ⟨_, rfl⟩ := hq2
  have hf2 : f' = #[.pointer (some ⟨(ρ (pos 0)).1, (ρ (pos 0)).2 + 0, none⟩)] := by apply Array.ext'; exact hq
  have hc2 : c' = #[] := by apply Array.ext'; exact hc'
  subst hf2 hc2
  obtain ⟨D, hD⟩ : ∃ D, D = w.heap.size := ⟨_, rfl⟩
  obtain ⟨Lr, hLr⟩ : ∃ Lr, Lr = w.heap.size + 1 := ⟨_, rfl⟩
  obtain ⟨rec, hrec⟩ : ∃ rec : LoopState → Loop, rec = fun st => { state := st, pending := none, fn, tmps := a.tmps, params := #[p0, p1], assign, body, defers := w.heap.size } := ⟨_, rfl⟩
  obtain ⟨W1, hW1⟩ : ∃ W1, (w.alloc (.deferred (some []))).alloc (.loop (rec .ready)) = W1 := ⟨_, rfl⟩
  have hsz1 : (w.alloc (.deferred (some []))).heap.size = w.heap.size + 1 := Array.size_push ..
  have hL1 : W1.heap[Lr]? = some (.loop (rec .ready)) := by
    rw [← hW1, hLr]; have := World.alloc_heap_new (w.alloc (.deferred (some []))) (.loop (rec .ready)); rwa [hsz1] at this
  have hD1 : W1.heap[D]? = some (.deferred (some [])) := by
    rw [← hW1, hD]; exact (Below.heap_alloc _ _ _ (by rw [hsz1]; omega)).trans (World.alloc_heap_new w _)
  have hs1 := still_alloc w (.deferred (some []))
  have hs2 := still_alloc (w.alloc (.deferred (some []))) (.loop (rec .ready))
  have hJ1 : JW ρ (getH s.H) w m JP Lr D (.loop (rec .ready)) [] [] W1 := by
    rw [← hW1]
    refine ⟨s.H, ρ, hJ0, hms, (hr.mem.still hs1 fun b B hB => hr.mem.lt b B hB).still hs2 fun b B hB => by have := hr.mem.lt b B hB; omega, fun _ _ => rfl, ((Frame.refl ρ (getH s.H) w).still hs1 fun r hr => hr).still hs2 (fun r hr => by omega), hW1 ▸ hL1, hW1 ▸ hD1, fun b B hB => ?_, fun x hx => by cases hx⟩
    have := hr.mem.lt b B hB
    exact ⟨by omega, by omega⟩
  let J : List Nat → List (Int × Int × Nat) → World → Prop := fun X pre W => JW ρ (getH s.H) w m JP Lr D (.loop (rec .ready)) X pre W
  have hρpos : ∀ {ρ' : Nat → Nat × Nat}, (∀ b, b < m → ρ' b = ρ b) → ∀ j, j < A.length → ρ' (pos j) = ((ρ (pos j)).1, (ρ (pos j)).2) := fun h j hj => h _ (hpos j hj)
  have hK : ∀ X pre W, J X pre W → Go.Proofs.Kids (fun j => (ρ (pos j)).1) (fun j => (ρ (pos j)).2) W (.node 0 tl tr) := by
    rintro X pre W ⟨H, ρ', h1, h2, h3, h4, h5, h6, h7, h8, h9⟩
    obtain ⟨many, B, hT, hS, _⟩ := hTree pre H h1
    exact kids_of h3 hT hS (hρpos h4) _ hsh hids
  have hIs : ∀ X pre W i, i < A.length → J X pre W → i ∉ pre.map (·.2.2) → W.cell? ⟨(ρ (pos i)).1, (ρ (pos i)).2 + 2, none⟩ = some (.bool (isv i)) := by
    rintro X pre W i hi ⟨H, ρ', h1, h2, h3, h4, h5, h6, h7, h8, h9⟩ hn
    obtain ⟨many, B, hT, hS, hI⟩ := hTree pre H h1
    obtain ⟨nd, g1, _, _⟩ := hS.2 i A[i] (List.getElem?_eq_getElem hi)
    obtain ⟨r, a1, a2⟩ := h3.cell _ _ (hT.here i nd g1) 2 _ rfl
    rw [hρpos h4 i hi] at a1
    unfold VR at a2
    rw [a1, a2, hI i nd g1 hn]
  have hY : ∀ k' X pre W (x n' : Int) i, i < A.length → J X pre W → 0 ≤ x → x < 4294967296 → 0 ≤ n' → n' ≤ 32 → isv i = true → i ∉ pre.map (·.2.2) →
      YieldAt (FW none) k' Try.prog Lr #[.agg #[.int .u32 x, .int .i64 n'], .pointer (some ⟨(ρ (pos i)).1, (ρ (pos i)).2, none⟩)] W fun e W' => e = .returned (.bool true) ∧ J X (pre ++ [(x, n', i)]) W' ∧ KeepX X W W' := by
    rintro k' X pre W x n' i hi ⟨H, ρ', h1, h2, h3, h4, h5, h6, h7, h8, h9⟩ hx0 hx1 hn0 hn1 his hni
    have hy := run_yield (P := Try.prog) (args := #[.agg #[.int .u32 x, .int .i64 n'], .pointer (some ⟨(ρ (pos i)).1, (ρ (pos i)).2, none⟩)]) h6 (by rw [hrec]; rfl)
    rw [hrec] at hy
    refine ⟨fn, _, assign, body, hy, roundIn_of_wpIn trivial ?_⟩
    have hRT := relT_t0 (W := W) hr.tmps ht0 h4 h2 h5.lasts
    have hpi := hpos i hi
    have hv0 : VR ρ' (· < H.length) W (.agg [.u32 (BitVec.ofInt 32 x), .i64 n']) (.agg #[.int .u32 x, .int .i64 n']) := by
      unfold VR
      refine ⟨_, rfl, VRs.cons ?_ (VRs.cons (by unfold VR; rfl) VRs.nil)⟩
      unfold VR
      rw [ofInt32_toNat hx0 hx1]
    have hv1 : VR ρ' (· < H.length) W (.ptr (pos i) 0) (.pointer (some ⟨(ρ (pos i)).1, (ρ (pos i)).2, none⟩)) := by
      unfold VR
      refine ⟨by omega, ?_⟩
      rw [h4 _ hpi]; rfl
    have hRel : RelSt ρ' n ⟨(p1, .ptr (pos i) 0) :: (p0, .agg [.u32 (BitVec.ofInt 32 x), .i64 n']) :: t0, H⟩ ((a.put (some p0) (.agg #[.int .u32 x, .int .i64 n'])).put (some p1) (.pointer (some ⟨(ρ (pos i)).1, (ρ (pos i)).2, none⟩))) W :=
      ⟨RelT.put (dst := some p1) (RelT.put (dst := some p0) hRT hp0 hv0) hp1 hv1, h3⟩
    have hLW : Lr < W.heap.size := (Array.getElem?_eq_some_iff.1 h6).1
    have hDW : D < W.heap.size := (Array.getElem?_eq_some_iff.1 h7).1
    have hact : ({ tmps := ((#[p0, p1]).zip #[Value.agg #[.int .u32 x, .int .i64 n'], .pointer (some ⟨(ρ (pos i)).1, (ρ (pos i)).2, none⟩)]).foldl (fun tmps (t, a) => tmps.setIfInBounds t a) a.tmps, defers := [] } : Act) = wd [] ((a.put (some p0) (.agg #[.int .u32 x, .int .i64 n'])).put (some p1) (.pointer (some ⟨(ρ (pos i)).1, (ρ (pos i)).2, none⟩))) := by simp [wd, Act.put, hr.tmps.defers]
    rw [hact]
    refine wpIn_mono (vc_in (r := some Lr) (ds := []) hmix assign _ _ hpa (hbody pre x n' i H h1 h2 hi hx0 hx1 hn0 hn1 his hni) (fun s hs => by cases hs.1) ρ' _ W hRel h2) ?_
    rintro e a1 w1 ⟨a0, rfl, s', ρ1, ⟨rfl, hrw, hq⟩, q2, q3⟩
    have own1 : ∀ b B, getH s'.H b = some B → B.ro = false → (ρ1 b).1 ≠ Lr ∧ (ρ1 b).1 ≠ D ∧ ∀ x ∈ X, (ρ1 b).1 ≠ x := fun b B hB hro => by
      rcases q3.2.2.own b B hB hro with ⟨b0, B0, g1, g2, g3⟩ | g
      · rw [← g3]
        exact ⟨(h8 b0 B0 g1).1, (h8 b0 B0 g1).2, fun x hx => (h9 x hx).2.2.2.2 b0 B0 g1⟩
      · exact ⟨by omega, by omega, fun x hx => by have := (h9 x hx).1; omega⟩
    have keep1 : ∀ r, r < W.heap.size → (∀ b B, getH H b = some B → (ρ' b).1 ≠ r) → w1.heap[r]? = W.heap[r]? := fun r hr hb => q3.2.2.keep r hr fun b B hB _ => hb b B hB
    have hLr1 := (keep1 Lr hLW fun b B hB => (h8 b B hB).1).trans h6
    have hD1' := (keep1 D hDW fun b B hB => (h8 b B hB).2).trans h7
    have hbr := run_beginRound (P := Try.prog) hLr1 (by rw [hrec])
    obtain ⟨bz, hbz⟩ : ∃ bz, ({ rec .ready with state := .busy } : Loop) = bz := ⟨_, rfl⟩
    rw [hbz] at hbr
    have hstB := still_putObj hLr1 rfl (.loop bz)
    obtain ⟨w2, hw2⟩ : ∃ w2, w1.putObj Lr (.loop bz) = w2 := ⟨_, rfl⟩
    rw [hw2] at hbr hstB
    have hLw1 : Lr < w1.heap.size := (Array.getElem?_eq_some_iff.1 hLr1).1
    have hLr2 : w2.heap[Lr]? = some (.loop bz) := by rw [← hw2]; exact World.putObj_heap_same hLw1
    have hLD : D ≠ Lr := by omega
    have hD2 : w2.heap[D]? = some (.deferred (some [])) := (hstB.same D hLD).trans hD1'
    have hsz12 : w2.heap.size = w1.heap.size := by rw [← hw2, World.putObj_size]
    have hRW1 : ∀ b B, getH s'.H b = some B → (ρ1 b).1 ≠ Lr := fun b B hB => (own1 b B hB (hrw b B hB)).1
    have q2' : RelSt ρ1 n s' a0 w2 := q2.still hstB fun b B hB => hRW1 b B hB
    refine ⟨w2, hbr, wpIn_mono (vc_in (r := some Lr) (ds := []) hmix body _ s' hpb hq (fun s hs => by cases hs.1) ρ1 a0 w2 q2' q3.1) ?_⟩
    rintro e a2 w3 ⟨a3, rfl, s2, ρ2, ⟨rfl, hJ2⟩, r2, r3⟩
    have hsW := q3.2.2.size
    have own2 : ∀ b B, getH s2.H b = some B → (ρ2 b).1 ≠ Lr ∧ (ρ2 b).1 ≠ D ∧ ∀ x ∈ X, (ρ2 b).1 ≠ x := fun b B hB => by
      rcases r3.2.2.own b B hB (hRW _ _ hJ2 b B hB) with ⟨b0, B0, g1, g2, g3⟩ | g
      · rw [← g3]; exact own1 b0 B0 g1 g2
      · exact ⟨by omega, by omega, fun x hx => by have := (h9 x hx).1; omega⟩
    have keep2 : ∀ r, r < w1.heap.size → (∀ b B, getH s'.H b = some B → B.ro = false → (ρ1 b).1 ≠ r) → w3.heap[r]? = w2.heap[r]? := fun r hr hb => r3.2.2.keep r (by omega) hb
    have hLr3 := (keep2 Lr hLw1 fun b B hB hro => (own1 b B hB hro).1).trans hLr2
    have hD3 := (keep2 D (by omega) fun b B hB hro => (own1 b B hB hro).2.1).trans hD2
    have hend := run_endRound (P := Try.prog) none hLr3
    have hrz : ({ bz with state := if (none : Option Code).isNone then .ready else .done, pending := none } : Loop) = rec .ready := by rw [← hbz, hrec]; rfl
    rw [hrz] at hend
    have hst3 := still_putObj hLr3 rfl (.loop (rec .ready))
    have hLw3 : Lr < w3.heap.size := (Array.getElem?_eq_some_iff.1 hLr3).1
    have hF1 := (h5.trans q3.2.2).still hstB fun r hr e => by omega
    have hF2 := (hF1.trans r3.2.2).still hst3 fun r hr e => by omega
    have hsz2 := r3.2.2.size
    refine ⟨_, _, hend, rfl, ⟨s2.H, ρ2, hJ2, r3.1, r2.mem.still hst3 fun b B hB => (own2 b B hB).1, fun b hb => (r3.2.1 b hb).trans ((q3.2.1 b hb).trans (h4 b hb)), hF2, World.putObj_heap_same hLw3, (hst3.same D hLD).trans hD3, fun b B hB => ⟨(own2 b B hB).1, (own2 b B hB).2.1⟩, fun x hx => ?_⟩, fun x hx => ?_⟩
    · obtain ⟨g1, g2, g3, g4, g5⟩ := h9 x hx
      exact ⟨by rw [World.putObj_size]; omega, g2, g3, g4, fun b B hB => (own2 b B hB).2.2 x hx⟩
    · obtain ⟨g1, g2, g3, g4, g5⟩ := h9 x hx
      rw [World.putObj_heap_other g3, keep2 x (by omega) (fun b B hB hro => (own1 b B hB hro).2.2 x hx), hstB.same x g3]
      exact keep1 x g1 fun b B hB => g5 b B hB
  refine ⟨Lr, [{ target := .collected D, args := #[] }], W1, { target := .fn (.func 24) #[], args := #[.pointer (some ⟨(ρ (pos 0)).1, (ρ (pos 0)).2 + 0, none⟩), .func (.yield Lr) #[] #[]] }, W1, 24, #[.pointer (some ⟨(ρ (pos 0)).1, (ρ (pos 0)).2 + 0, none⟩), .func (.yield Lr) #[] #[]], W1, ?_, ?_, fun _ _ => trivial, ?_, fun hc => (by cases hc), ?_⟩
  · rw [← hW1, hLr, hD, hrec]; exact run_enterLoop_outer _ _ _ _ _
  · simp only [resolve, hge]
    simp [go_sem]
  · simp [invoke, go_sem, run_callFunc (P := Try.prog) (f := 24) (by kernel_rfl)]
  · refine (each_in (FW none) rfl trivial trivial rfl Lr (fun j => (ρ (pos j)).1) (fun j => (ρ (pos j)).2) isv J (fun X pre W c h => JW.al h c 32) (fun X pre W b k v h hb => JW.set h b k v hb) (fun X pre W h => JW.drw h) (fun x X pre W h => JW.wk h) (fun X pre W h => JW.lt h) A.length hIs hY tl tr hK (k - 1) W1 hJ1 hh hnd hids).mono ?_
    rintro e W2 ⟨⟨v, rfl⟩, H, ρ', h1, h2, h3, h4, h5, h6, h7, h8, _⟩
    have hst := still_putObj h6 rfl (.loop { state := .exhausted, pending := none, fn := (rec .ready).fn, tmps := (rec .ready).tmps, params := (rec .ready).params, assign := (rec .ready).assign, body := (rec .ready).body, defers := (rec .ready).defers })
    have hLD : D ≠ Lr := by omega
    have hel := run_endLoop (P := Try.prog) h6 (by rw [hrec]; simp)
    have hpn : (rec .ready).pending = none := by rw [hrec]
    rw [hpn] at hel
    refine ⟨none, _, hel, rfl, D, H, ρ', ?_, h1, h2, ⟨(relT_t0 hr.tmps ht0 h4 h2 h5.lasts).mono (fun _ _ => rfl) (fun _ h => h) hst.lasts, h3.still hst fun b B hB => (h8 b B hB).1⟩, ⟨h2, h4, h5.still hst fun r hr e => by omega⟩, (World.putObj_heap_other hLD).trans h7, fun b B hB => (h8 b B hB).2, by omega⟩
    show ({ tmps := a.tmps, defers := _ } : Act) = _
    rw [hr.tmps.defers]
    rfl
end
end Go.Vm
end
section
namespace Go.Vm
open Go Go.RowKit Go.Proofs
theorem Step.lower {m m' : Nat} {ρ ρ' : Nat → Nat × Nat} {s s' : St} {w w' : World} (h : Step m' ρ s w ρ' s' w') (hm : m ≤ m') : Step m ρ s w ρ' s' w' := ⟨Nat.le_trans hm h.1, fun b hb => h.2.1 b (by omega), h.2.2⟩
set_option maxHeartbeats 2000000 in
theorem spec0_range (hmix : Try.prog.follows .mixedOrders = true) {f : FuncId} {fn : Func} {r0 r1 r2 assign body tail : Code} {bid : Nat} {g : Operand} {p0 p1 : Tmp} {args : List V} {h h' : List (Option Blk)} {v : V} {m : Nat} {t0 : List (Nat × V)} {S3 : St}
    (hf : Try.prog.funcs[f]? = some fn) (hb : fn.body = some (.seq r0 (.seq r1 (.seq (.seq r2 (.block bid (.rangeFunc g #[p0, p1] assign body))) tail)))) (hn : args.length ≤ fn.ntmps)
    (hpt : plainC tail = true) (hp0 : p0 < fn.ntmps) (hp1 : p1 < fn.ntmps) (hpa : plainC assign = true) (hpb : plainC body = true)
    (hpre : vc Try.prog h.length fn.ntmps r0 (fun e s1 => e = .normal ∧ vc Try.prog h.length fn.ntmps r1 (fun e s2 => e = .normal ∧ vc Try.prog h.length fn.ntmps r2 (fun e s3 => e = .normal ∧ Weak h.length fn.ntmps s3 S3) s2) s1) ⟨argsT args 0, h⟩)
    (hm : h.length ≤ m) (hms : m ≤ S3.H.length)
    (A : List Nd) (tl tr : Sh) (isv : Nat → Bool) (JP : List (Int × Int × Nat) → List (Option Blk) → Prop) (pos : Nat → Nat)
    (hRW : ∀ pre H, JP pre H → ∀ b B, getH H b = some B → B.ro = false)
    (hpos : ∀ j, j < A.length → pos j < m)
    (hTree : ∀ pre H, JP pre H → ∃ many B, TreeAt pos many B H ∧ SameK A B ∧ ∀ (i : Nat) nd, B[i]? = some nd → i ∉ pre.map (·.2.2) → nd.is = isv i)
    (hbody : ∀ pre (a n' : Int) (i : Nat) H, JP pre H → m ≤ H.length → i < A.length → 0 ≤ a → a < 4294967296 → 0 ≤ n' → n' ≤ 32 → isv i = true → i ∉ pre.map (·.2.2) →
      vc Try.prog m fn.ntmps assign (fun e s' => e = .normal ∧ (∀ b B, getH s'.H b = some B → B.ro = false) ∧ vc Try.prog m fn.ntmps body (fun e s2 => e = .normal ∧ JP (pre ++ [(a, n', i)]) s2.H) s') ⟨(p1, .ptr (pos i) 0) :: (p0, .agg [.u32 (BitVec.ofInt 32 a), .i64 n']) :: t0, H⟩)
    (hg : S3.ev g = .fn 24 [.ptr (pos 0) 0] []) (ht0 : ∀ p ∈ t0, p.2 = S3.get p.1 ∧ p.2.low m)
    (hsh : ShIn A (.node 0 tl tr)) (hids : ∀ i ∈ (Sh.node 0 tl tr).ids, i < A.length) (hnd : (Sh.node 0 tl tr).ids.Nodup) (hh : (Sh.node 0 tl tr).hgt ≤ 33)
    (hJ0 : JP [] S3.H)
    (htail : ∀ H, JP (walkL isv (.node 0 tl tr) 0 0) H → m ≤ H.length → vc Try.prog m fn.ntmps tail (retQ Try.prog fn fun v' s' => (∀ b B, getH s'.H b = some B → B.ro = false) ∧ Fin h.length v h' v' s') ⟨t0, H⟩) : Spec0 Try.prog f args h v h' := by
  intro ρ w rargs ha hm0
  have hal := ha.length
  refine (callsIn_wide (n := 0)).1 (callsIn_of_wp_marks (F := FW none) hf hb trivial ?_ rfl)
  have hr0 : RelSt ρ fn.ntmps ⟨argsT args 0, h⟩ { tmps := rargs ++ Array.replicate (fn.ntmps - rargs.size) undef, defers := [] } w := by
    refine ⟨⟨?_, rfl, fun t => ?_⟩, hm0⟩
    · have : rargs.size = args.length := by simpa using hal
      simp; omega
    · show VR _ _ _ (lookS (argsT args 0) t) _
      rw [look_args]
      split
      · rename_i ht
        obtain ⟨r, g1, g2⟩ := ha.get (i := t) (v := args.getD t .junk) (by rw [List.getD_eq_getElem?_getD, List.getElem?_eq_getElem (by omega)]; rfl)
        have hlt : t < rargs.size := by simpa using (List.getElem?_eq_some_iff.1 g1).1
        simp only [Nat.sub_zero]
        have : (rargs ++ Array.replicate (fn.ntmps - rargs.size) undef).getD t undef = r := by
          rw [Array.getD_eq_getD_getElem?, Array.getElem?_append_left hlt]
          have : rargs[t]? = some r := by rw [← g1]; simp
          rw [this]; rfl
        rw [this]; exact g2
      · unfold VR; trivial
  refine wpIn_seq (wpIn_mono (wpIn_wide.2 (vc_sound hmix r0 _ _ hpre ρ _ w hr0 (Nat.le_refl _))) ?_)
  rintro e a1 w1 ⟨s1, ρ1, ⟨rfl, hpre1⟩, q1, st1⟩
  refine wpIn_seq (wpIn_mono (wpIn_wide.2 (vc_sound hmix r1 _ _ hpre1 ρ1 _ w1 q1 st1.1)) ?_)
  rintro e a2 w2 ⟨s2, ρ2, ⟨rfl, hpre2⟩, q2, st2⟩
  refine wpIn_seq (wpIn_seq (wpIn_mono (wpIn_wide.2 (vc_sound hmix r2 _ _ hpre2 ρ2 _ w2 q2 st2.1)) ?_))
  rintro e a3 w3 ⟨s3, ρ3', ⟨rfl, hwk⟩, q3', st3'⟩
  obtain ⟨ρ3, q3, stw⟩ := hwk ρ3' a3 w3 q3' st3'.1
  have st3 := st3'.trans stw
  refine wpIn_block (wpIn_mono (range_each hmix A tl tr isv JP pos hp0 hp1 hpa hpb hRW hpos hTree hbody hg ht0 hsh hids hnd hh hJ0 hms ρ3 a3 w3 q3) ?_)
  rintro e a4 w4 ⟨rfl, D, H, ρ4, rfl, hJ4, hm4, q4, st4, hD4, hDn, hDs⟩
  have hst4 : Step h.length ρ ⟨argsT args 0, h⟩ w ρ4 ⟨t0, H⟩ w4 := ((st1.trans st2).trans st3).trans (st4.lower hm)
  show Code.wpIn _ _ _ _ _ _ _
  refine wpIn_mono (vc_in (r := none) (ds := [{ target := .collected D, args := #[] }]) hmix tail _ _ hpt (htail H hJ4 hm4) (fun s hs => hs.elim) ρ4 a3 w4 q4 hm4) ?_
  rintro e a5 w5 ⟨a6, rfl, s6, ρ6, hQ, q6, st6⟩
  have hDlt : D < w4.heap.size := (Array.getElem?_eq_some_iff.1 hD4).1
  have hD6 : w5.heap[D]? = some (.deferred (some [])) := (st6.2.2.keep D hDlt fun b B hB _ => hDn b B hB).trans hD4
  have hsz : w.heap.size ≤ D := by
    have h1 := st1.2.2.size
    have h2 := st2.2.2.size
    have h3 := st3.2.2.size
    omega
  have fin : (vresults Try.prog s6 fn.results.toList fun l => (∀ b B, getH s6.H b = some B → B.ro = false) ∧ Fin h.length v h' (vtuple l) s6) → LeavesInM (FW none) 0 Try.prog fn a6.tmps (fun e w' => ∃ r ρ', e = .returned r ∧ VR ρ' (· < h'.length) w' v r ∧ MemRel ρ' (· < h'.length) (getH h') w' ∧ h.length ≤ h'.length ∧ (∀ b, b < h.length → ρ' b = ρ b) ∧ Frame ρ (getH h) w ρ' (getH h') w') [{ target := .collected D, args := #[] }] .returning w5 := fun hv => by
    refine ⟨by simp, .inl ⟨D, _, rfl, run_takeDeferred hD6, ?_⟩⟩
    have hst := still_putObj hD6 rfl (.deferred none)
    have hown : (∀ b B, getH s6.H b = some B → B.ro = false) → ∀ b B, getH s6.H b = some B → (ρ6 b).1 ≠ D := fun hrw b B hB => by
      rcases st6.2.2.own b B hB (hrw b B hB) with ⟨b0, B0, g1, g2, g3⟩ | g
      · rw [← g3]; exact hDn b0 B0 g1
      · omega
    obtain ⟨v1, r1', g1, g2, g3⟩ := results_sound (R := fun v' s' => (∀ b B, getH s'.H b = some B → B.ro = false) ∧ Fin h.length v h' v' s') q6 hv
    have q7 : RelSt ρ6 fn.ntmps s6 a6 (w5.putObj D (.deferred none)) := q6.still hst fun b B hB => hown g1.1 b B hB
    obtain ⟨v2, r2', k1, k2, k3⟩ := results_sound (R := fun v' s' => (∀ b B, getH s'.H b = some B → B.ro = false) ∧ Fin h.length v h' v' s') q7 hv
    have hst7 := hst4.trans (st6.lower hm)
    obtain ⟨ρ8, j1, j2, j3, j4⟩ := k1.2.2 ρ6 _ r2' k2 q7.mem hst7.1
    refine ⟨r2', k3, r2', ρ8, rfl, j1, j2, k1.2.1, fun b hb => (j3 b hb).trans (hst7.2.1 b hb), (hst7.2.2.still hst fun r hr e => by omega).less j4⟩
  cases e
  case normal => exact fin hQ
  case ret => exact fin hQ
  all_goals exact hQ.elim
end Go.Vm
end
section
namespace Go.Vm
/-! What follows of a program's first word 'cut'. -/
theorem cut_strips : ∀ (l : List String), (l.all fun o => !("cut".toList == o.toList)) = true → ∀ r, stripLifts l ("cut".toList :: r) = ([], "cut".toList :: r)
  | [], _, r => rfl
  | o :: os, h, r => by
    rw [List.all_cons, Bool.and_eq_true] at h
    have h1 : ("cut".toList == o.toList) = false := by simpa using h.1
    rw [stripLifts, h1, if_neg (by simp)]
    exact cut_strips os h.2 r
theorem cut_lifts (r : List (List Char)) : stripLifts liftWords ("cut".toList :: r) = ([], "cut".toList :: r) := cut_strips _ (by decide +kernel) r
section
variable {P : Program} {r : List (List Char)}

theorem headLifts_of_cut (h : behindMainWord (wordsSigns P.initOrder.toList) = "cut".toList :: r) : P.headLifts = [] := by
  unfold Program.headLifts; rw [h, cut_lifts]; simp only [ite_self]
theorem make_of_cut (h : behindMainWord (wordsSigns P.initOrder.toList) = "cut".toList :: r) : P.make = some .cut := by
  unfold Program.make; rw [h]
  have e1 : ("cut".toList == "gc".toList) = false := by decide +kernel
  have e2 : ("cut".toList == "spec".toList) = false := by decide +kernel
  simp only [e1, e2, beq_self_eq_true, Bool.or_self, Bool.true_or, ↓reduceIte, Bool.false_eq_true]
theorem lifts_of_cut (h : behindMainWord (wordsSigns P.initOrder.toList) = "cut".toList :: r) : P.liftsFinal = false := by
  unfold Program.liftsFinal; rw [h, headLifts_of_cut h]
  have e1 : ("cut".toList == "carried".toList) = false := by decide +kernel
  simp only [List.head?_cons, Option.some_beq_some, e1, Bool.false_and, List.contains_nil, Bool.or_self]
theorem enter_of_cut (h : behindMainWord (wordsSigns P.initOrder.toList) = "cut".toList :: r) (h1 : P.laysLater = false) (h2 : P.bearsReflect = false) (h3 : P.doorFits [] = true) : P.mayEnter = true := by
  unfold Program.mayEnter; rw [h]
  simp only [cut_lifts, h1, h2, h3, List.head?_cons, beq_self_eq_true, Bool.not_false, Bool.or_true, Bool.and_self, Bool.and_true, List.contains_nil]
end
/-- THE CLOSED FACTS, part by part. -/
theorem facts_of {P : Program} {f : FuncId} {fn : Func} {s : ChangeSpec} {c : OpenClaim}
    (a1 : c.wf (OpenSpec.ofChange s) = true) (a2 : laidOutB P = true) (a3 : mapsRowed P = true) (a4 : fn.params.all (P.readableRec ·) = true) (a5 : namedTie P c.named s.vars = true)
    (a6 : (c.stops == []) = true) (a7 : (P.stops == []) = true) (a8 : (c.knobs == []) = true) (a9 : (P.stopKnobs == []) = true)
    (b1 : (c.inPlace == P.inPlace f) = true) (b2 : (c.unfollowed == P.unfollowed f) = true) (b3 : (c.recurses == P.recurses f) = true) (b4 : (c.named == P.varsNamed f) = true)
    (rest : ((c.maps == (fn.params.toList ++ s.plain.varTypes P).any (P.mapsRec ·)) && (c.ifaces == (fn.params.toList ++ s.plain.varTypes P).any (P.ifacesRec ·)) && (c.mapsOut == P.mapsAmong fn.resultTypes.toList) &&
      (c.loops == (fn.params.toList ++ s.plain.varTypes P).any (P.loopsFrom ·)) && (c.wideKeys == (fn.params.toList ++ s.plain.varTypes P ++ fn.resultTypes.toList).any (P.wideKeysFrom ·)) &&
      s.vars.all (P.varReadable ·) && fn.resultTypes.all (fun t => P.readableRec t && decide (t < P.types.size)) && (c.ifacesOut == fn.resultTypes.toList.any (P.ifacesRec ·)) && (c.loopsOut == fn.resultTypes.toList.any (P.loopsFrom ·))) = true)
    (d1 : (c.plainKeys == P.plainKeys) = true) (d2 : c.shortTexts.isNone = true) (d3 : P.stopsHeard = true) (d4 : P.mayEnter = true) (d5 : (c.lifted == P.liftsFinal) = true) (d6 : (P.make == some c.make) = true)
    (e1 : (c.kinds == (if c.domain.isEmpty then [] else fn.params.toList.map fun t => match P.underlying t with | some (.int k) => some k | _ => none)) = true) (e2 : (c.pinned == c.pinnedBy) = true)
    (e3 : (c.veiled == (fn.params.toList ++ s.plain.varTypes P ++ fn.resultTypes.toList).any (P.veiledRec ·)) = true) (e4 : c.veiledFits P fn.params.toList (fn.params.toList ++ s.plain.varTypes P ++ fn.resultTypes.toList) = true) :
    joinedFacts P f fn s c = true := by
  simp only [Bool.and_eq_true] at rest
  obtain ⟨⟨⟨⟨⟨⟨⟨⟨r1, r2⟩, r3⟩, r4⟩, r5⟩, r6⟩, r7⟩, r8⟩, r9⟩ := rest
  unfold joinedFacts
  simp only [a1, a2, a3, a4, a5, a6, a7, a8, a9, b1, b2, b3, b4, r1, r2, r3, r4, r5, r6, r7, r8, r9, d1, d2, d3, d4, d5, d6, e2, e3, e4, Bool.and_self, Bool.true_and, Bool.and_true]
  exact e1
end Go.Vm
end
