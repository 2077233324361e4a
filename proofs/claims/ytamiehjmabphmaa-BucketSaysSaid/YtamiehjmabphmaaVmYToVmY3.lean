/- A part of the proof: laws of a small machine of values, or what one function answers, proved against the model; no conditions beyond those in each theorem. -/
import Derived.Maps.RangeRun
import Derived.Test.YtamiehjmabphmaaVmTToVmU
set_option linter.unusedVariables false
set_option linter.unusedSimpArgs false
set_option linter.unusedSectionVars false
section
namespace Go.Vm
open Go Go.RowKit
open Go.ChangeMaps (setBlock)
section
variable {P : Program} {m n : Nat}
/-- What is to be shown of a piece of code, told in the machine's words. -/
def GS (P : Program) (m n : Nat) (c : Code) (Q : Exit → St → Prop) (s : St) : Prop :=
  ∀ (ρ : Nat → Nat × Nat) (a : Act) (w : World), RelSt ρ n s a w → m ≤ s.H.length → c.wp P (LiftE m n ρ s w Q) a w
theorem gs_of_vc (hmix : P.follows .mixedOrders = true) {c : Code} {Q : Exit → St → Prop} {s : St} (h : vc P m n c Q s) : GS P m n c Q s := fun ρ a w hr hm => vc_sound hmix c Q s h ρ a w hr hm
theorem gs_seq {x y : Code} {K : St → Prop} {Q : Exit → St → Prop} {s : St} (hx : GS P m n x (seqQ K Q) s) (hy : ∀ s', K s' → GS P m n y Q s') : GS P m n (.seq x y) Q s := fun ρ a w hr hm => by
  refine wp_seq (wp_mono (hx ρ a w hr hm) ?_)
  rintro e a' w' ⟨s', ρ', q1, q2, q3⟩
  cases e
  case normal => exact wp_mono (hy s' q1 ρ' a' w' q2 q3.1) fun e a'' w'' ⟨s'', ρ'', r1, r2, r3⟩ => ⟨s'', ρ'', r1, r2, q3.trans r3⟩
  all_goals exact ⟨s', ρ', q1, q2, q3⟩
theorem gs_block {id : Nat} {c : Code} {Q : Exit → St → Prop} {s : St} (h : GS P m n c (blockQ id Q) s) : GS P m n (.block id c) Q s := fun ρ a w hr hm => by
  refine wp_block (wp_mono (h ρ a w hr hm) ?_)
  rintro e a' w' ⟨s', ρ', q1, q2, q3⟩
  cases e
  case exit i =>
    simp only [blockQ] at q1
    simp only [Exit.inBlock]
    split at q1
    · rename_i e; rw [if_pos e]; exact ⟨s', ρ', q1, q2, q3⟩
    · rename_i e; rw [if_neg e]; exact ⟨s', ρ', q1, q2, q3⟩
  all_goals exact ⟨s', ρ', q1, q2, q3⟩
theorem gs_loop {c : Code} {Q : Exit → St → Prop} {s : St} (I : Nat → St → Prop) {k0 : Nat} (h0 : I k0 s) (hr : ∀ k s, I k s → GS P m n c (seqQ (again m n I k) Q) s) : GS P m n (.loop c) Q s := fun ρ a w hr0 hm => by
  refine wp_loop_ix (fun k a1 w1 => ∃ s1 ρ1, I k s1 ∧ RelSt ρ1 n s1 a1 w1 ∧ Step m ρ s w ρ1 s1 w1) (k0 := k0) ⟨s, ρ, h0, hr0, Step.refl hm⟩ ?_
  rintro k a1 w1 ⟨s1, ρ1, i1, i2, i3⟩
  refine wp_mono (hr k s1 i1 ρ1 a1 w1 i2 i3.1) ?_
  rintro z a' w' ⟨s', ρ', q1, q2, q3⟩
  cases z
  case normal =>
    obtain ⟨k', s'', hk, hw, hi⟩ := q1
    obtain ⟨ρ'', t1, t2⟩ := hw ρ' a' w' q2 q3.1
    exact ⟨k', hk, s'', ρ'', hi, t1, (i3.trans q3).trans t2⟩
  all_goals exact ⟨s', ρ', q1, q2, i3.trans q3⟩
/-- The first operations of a region, none of them guarded. -/
theorem vops_pre {m : Nat} {ops : Array Oper} {Q : Exit → Act → World → Prop} {l2 : List Nat} {ρ : Nat → Nat × Nat} {a : Act} {w : World} : ∀ (l : List Nat) (os : List Oper) (s : St) (K : St → Prop), l.map (ops[·]?) = os.map some → (∀ o ∈ os, o.guard = none) → vops P n ops os s K → ∀ (ρ : Nat → Nat × Nat) (a : Act) (w : World), RelSt ρ n s a w → m ≤ s.H.length →
    (∀ a' w', Lift m n ρ s w K a' w' → wpOps P ops Q l2 a' w') → wpOps P ops Q (l ++ l2) a w
  | [], [], s, K, _, _, h, ρ, a, w, hr, hm, hq => hq a w ⟨s, ρ, h, hr, Step.refl hm⟩
  | [], _ :: _, _, _, hl, _, _, _, _, _, _, _, _ => by simp at hl
  | _ :: _, [], _, _, hl, _, _, _, _, _, _, _, _ => by simp at hl
  | i :: l, o :: os, s, K, hl, hg0, h, ρ, a, w, hr, hm, hq => by
    simp only [List.map_cons, List.cons.injEq] at hl
    obtain ⟨ho, hl⟩ := hl
    obtain ⟨hd, h⟩ := h
    have hg := hg0 o (by simp)
    rw [hg] at h
    have hw : Region.wanted o (yielded ops a.tmps) = true := by unfold Region.wanted; rw [hg]
    obtain ⟨res, h1, h2⟩ := vexec_sound h
    simp only [List.cons_append, wpOps, ho, hw, if_true]
    refine .inl (h1 ρ (· < s.H.length) (getH s.H) w a _ Q (fun x _ => hr.tmps.eval x) hr.mem (fun _ _ => rfl) (fun b hb1 hb2 (hb3 : b < s.H.length) => by omega) ?_)
    intro ρ' w' r g1 g2 g3 g4
    obtain ⟨k1, k2⟩ := after_rel (m := m) hr hm hd g1 g2 g3 g4
    refine vops_pre (a := a) (w := w) (ρ := ρ) l os _ K hl (fun o ho => hg0 o (by simp [ho])) h2 ρ' _ w' k1 k2.1 fun a' w'' ⟨s', ρ'', q1, q2, q3⟩ => hq a' w'' ⟨s', ρ'', q1, q2, k2.trans q3⟩
theorem alloc_start {m0 : Nat} {ρ : Nat → Nat × Nat} {s : St} {a : Act} {w : World} {tit : Tmp} (hr : RelSt ρ n s a w) (hm : m0 ≤ s.H.length) (ht : tit < n) (o : Obj) :
    let ρ1 := fun k => if k = s.H.length then (w.heap.size, 0) else ρ k
    let s1 : St := ⟨putS s.t (some tit) (.ptr s.H.length 0), s.H ++ [none]⟩
    RelSt ρ1 n s1 (a.put (some tit) (.pointer (some ⟨w.heap.size, 0, none⟩))) (w.alloc o) ∧ Step m0 ρ s w ρ1 s1 (w.alloc o) := by
  intro ρ1 s1
  have hlen : s1.H.length = s.H.length + 1 := by simp [s1]
  have hget : ∀ b B, getH s1.H b = some B → getH s.H b = some B ∧ b < s.H.length := fun b B hB => by
    have hB : ((s.H ++ [none])[b]?).join = some B := hB
    by_cases hb : b < s.H.length
    · rw [List.getElem?_append_left hb] at hB; exact ⟨hB, hb⟩
    · rw [List.getElem?_append_right (by omega)] at hB
      by_cases hb2 : b - s.H.length = 0
      · rw [hb2] at hB; simp at hB
      · rw [List.getElem?_eq_none (by simp; omega)] at hB; simp at hB
  have hρ : ∀ b, b < s.H.length → ρ1 b = ρ b := fun b hb => if_neg (by omega)
  have hlast : Lasts w (w.alloc o) := lasts_alloc w _
  have hold : ∀ r, r < w.heap.size → (w.alloc o).heap[r]? = w.heap[r]? := fun r h => Below.heap_alloc w _ r h
  have hsize : (w.alloc o).heap.size = w.heap.size + 1 := Array.size_push ..
  have hcell : ∀ b B, getH s.H b = some B → ∀ i, (w.alloc o).cell? ⟨(ρ b).1, i, none⟩ = w.cell? ⟨(ρ b).1, i, none⟩ := fun b B hB i => World.cell?_of_block (hold _ (hr.mem.lt b B hB))
  have hfroz : ∀ b B, getH s.H b = some B → ∀ i, (w.alloc o).frozen? ⟨(ρ b).1, i, none⟩ = w.frozen? ⟨(ρ b).1, i, none⟩ := fun b B hB i => World.frozen?_of_block (hold _ (hr.mem.lt b B hB))
  have hdom : ∀ b, b < s.H.length → b < s1.H.length := fun b hb => by omega
  refine ⟨⟨?_, ?_⟩, ⟨by omega, fun b hb => hρ b (by omega), ?_⟩⟩
  · refine RelT.put (hr.tmps.mono hρ hdom hlast) (show dstOk n (some tit) from ht) ?_
    unfold VR
    refine ⟨by omega, ?_⟩
    show _ = Value.pointer (some ⟨(ρ1 s.H.length).1, (ρ1 s.H.length).2 + 0, none⟩)
    have e : ρ1 s.H.length = (w.heap.size, 0) := if_pos rfl
    rw [e]
  · refine ⟨fun b B hB => hdom b (hget b B hB).2, fun b B hB => ?_, fun b b' B B' hB hB' hro hne => ?_, fun b B hB i v hv => ?_, fun b B hB ho i hi => ?_, fun b B mm hB hmp => ?_⟩
    · obtain ⟨h1, h2⟩ := hget b B hB
      rw [hρ b h2, hsize]
      have := hr.mem.lt b B h1
      omega
    · obtain ⟨h1, h2⟩ := hget b B hB
      obtain ⟨h3, h4⟩ := hget b' B' hB'
      rw [hρ b h2, hρ b' h4]
      exact hr.mem.inj b b' B B' h1 h3 hro hne
    · obtain ⟨h1, h2⟩ := hget b B hB
      obtain ⟨r, g1, g2⟩ := hr.mem.cell b B h1 i v hv
      exact ⟨r, by rw [hρ b h2, hcell b B h1]; exact g1, g2.mono hρ hdom hlast⟩
    · obtain ⟨h1, h2⟩ := hget b B hB
      rw [hρ b h2, hfroz b B h1]
      exact hr.mem.free b B h1 ho i hi
    · obtain ⟨h1, h2⟩ := hget b B hB
      rw [hρ b h2, hold _ (hr.mem.lt b B h1)]
      exact hr.mem.mapc b B mm h1 hmp
  · refine ⟨rfl, rfl, rfl, by omega, fun r hr2 _ => hold r hr2, hlast, fun b B hB ho => ?_⟩
    obtain ⟨h1, h2⟩ := hget b B hB
    exact .inl ⟨b, B, h1, ho, by rw [hρ b h2]⟩
/-- Beside the state: the object o lies in the machine's block of b; no block that is written lies there; it is younger than w0. -/
structure Beside (o : Obj) (b : Nat) (w0 : World) (ρ : Nat → Nat × Nat) (s : St) (w : World) : Prop where
  lt : b < s.H.length
  zero : (ρ b).2 = 0
  young : w0.heap.size ≤ (ρ b).1
  here : w.heap[(ρ b).1]? = some o
  own : ∀ b' B, getH s.H b' = some B → B.ro = false → (ρ b').1 ≠ (ρ b).1
theorem Beside.step {o : Obj} {b : Nat} {w0 w w' : World} {ρ ρ' : Nat → Nat × Nat} {s s' : St} (h : Beside o b w0 ρ s w) (k : Step m ρ s w ρ' s' w') (hb : b < m) : Beside o b w0 ρ' s' w' := by
  obtain ⟨k1, k2, k3⟩ := k
  have e := k2 b hb
  have hlt : (ρ b).1 < w.heap.size := (Array.getElem?_eq_some_iff.1 h.here).1
  refine ⟨by omega, by rw [e]; exact h.zero, by rw [e]; exact h.young, ?_, ?_⟩
  · rw [e, k3.keep _ hlt (fun b' B h1 h2 => h.own b' B h1 h2)]; exact h.here
  · intro b' B hB hro
    rw [e]
    rcases k3.own b' B hB hro with ⟨b0, B0, g1, g2, g3⟩ | g
    · rw [← g3]; exact h.own b0 B0 g1 g2
    · omega
/-- The iterator of a map. -/
def itObj (bm since : Nat) (seen : List Nat) (c0 : Nat) : Obj := .mapIter (some bm) since seen.toArray c0
section
variable {a : Act} {w w0 : World} {ρ : Nat → Nat × Nat} {s : St} {k bm since c0 bm' since' c0' : Nat} {seen seen' : List Nat}
theorem RelSt.turnIt (hr : RelSt ρ n s a w) (h : w.heap[k]? = some (itObj bm since seen c0)) (o : Obj) : RelSt ρ n s a (setBlock w k o) := by
  have hl : Lasts w (setBlock w k o) := lasts_setBlock h rfl
  have hne : ∀ b B (i : Nat) v, getH s.H b = some B → B.cs[i]? = some v → (ρ b).1 ≠ k := fun b B i v hB hv e => by
    obtain ⟨r, g1, _⟩ := hr.mem.cell b B hB i v hv
    rw [e, bare_cell h rfl] at g1
    cases g1
  refine ⟨hr.tmps.mono (fun _ _ => rfl) (fun _ h => h) hl, hr.mem.has, fun b B hB => by rw [setBlock_size]; exact hr.mem.lt b B hB, hr.mem.inj,
    fun b B hB i v hv => ?_, fun b B hB ho i hi => ?_, fun b B mm hB hmp => ?_⟩
  · obtain ⟨r, g1, g2⟩ := hr.mem.cell b B hB i v hv
    exact ⟨r, by rw [World.cell?_of_block (w := w) (setBlock_other w o (hne b B i v hB hv))]; exact g1, g2.mono (fun _ _ => rfl) (fun _ h => h) hl⟩
  · rw [World.frozen?_of_block (w := w) (setBlock_other w o (hne b B i _ hB (List.getElem?_eq_getElem hi)))]
    exact hr.mem.free b B hB ho i hi
  · have g := hr.mem.mapc b B mm hB hmp
    have hne : (ρ b).1 ≠ k := fun e => by rw [e, h] at g; cases g
    rw [setBlock_other w o hne]; exact g
theorem Step.turnIt {m0 : Nat} {ρ0 : Nat → Nat × Nat} {s0 : St} (h : Step m0 ρ0 s0 w0 ρ s w) (hk : w.heap[k]? = some (itObj bm since seen c0)) (hy : w0.heap.size ≤ k) (o : Obj) : Step m0 ρ0 s0 w0 ρ s (setBlock w k o) :=
  ⟨h.1, h.2.1, h.2.2.os, h.2.2.output, h.2.2.tape, by rw [setBlock_size]; exact h.2.2.size,
    fun r hr hb => by rw [setBlock_other w o (by omega)]; exact h.2.2.keep r hr hb,
    h.2.2.lasts.trans (lasts_setBlock hk rfl), h.2.2.own⟩
theorem RelSt.drew (hr : RelSt ρ n s a w) : RelSt ρ n s a w.drew :=
  ⟨hr.tmps.mono (fun _ _ => rfl) (fun _ h => h) (Alike.drew w).lasts, hr.mem.alike (Alike.drew w)⟩
theorem Step.drew {m0 : Nat} {ρ0 : Nat → Nat × Nat} {s0 : St} (h : Step m0 ρ0 s0 w0 ρ s w) : Step m0 ρ0 s0 w0 ρ s w.drew :=
  ⟨h.1, h.2.1, h.2.2.os, h.2.2.output, h.2.2.tape, h.2.2.size, h.2.2.keep, h.2.2.lasts, h.2.2.own⟩
end
end
theorem gs_weak {P : Program} {m n : Nat} {c : Code} {Q : Exit → St → Prop} {s s1 : St} (h : GS P m n c Q s1) (hw : Weak m n s s1) : GS P m n c Q s := fun ρ a w hr hm => by
  obtain ⟨ρ1, h1, h2⟩ := hw ρ a w hr hm
  refine wp_mono (h ρ1 a w h1 h2.1) ?_
  rintro e a' w' ⟨s', ρ', q1, q2, q3⟩
  exact ⟨s', ρ', q1, q2, h2.trans q3⟩
theorem vops_go {P : Program} {n : Nat} {ops : Array Oper} {l : List Oper} {s : St} {K : St → Prop} (h : goOps P 0 n (fun _ s => K s) l ops [] s) : vops P n ops l s K := h
/-- A pure function out of its code, told in the machine's words. -/
theorem spec0_of_gs {P : Program} {f : FuncId} {fn : Func} {c : Code} {args : List V} {h h' : List (Option Blk)} {v : V} (hf : P.funcs[f]? = some fn) (hb : fn.body = some c) (hn : args.length ≤ fn.ntmps)
    (hv : GS P h.length fn.ntmps c (retQ P fn (Fin h.length v h')) ⟨argsT args 0, h⟩) : Spec0 P f args h v h' := by
  intro ρ w rargs ha hm
  have hal := ha.length
  refine calls_of_wp hf hb (wp_mono (hv ρ _ w ⟨⟨?_, rfl, fun t => ?_⟩, hm⟩ (Nat.le_refl _)) ?_)
  · have : rargs.size = args.length := by simpa using hal
    simp; omega
  · show VR _ _ _ (lookS (argsT args 0) t) _
    rw [look_args]
    split
    · rename_i ht
      obtain ⟨r, g1, g2⟩ := ha.get (i := t) (v := args.getD t .junk) (by rw [List.getD_eq_getElem?_getD, List.getElem?_eq_getElem (by omega)]; rfl)
      have hlt : t < rargs.size := by simpa using (List.getElem?_eq_some_iff.1 g1).1
      simp only [Nat.sub_zero]
      have : (rargs ++ Array.replicate (fn.ntmps - rargs.size) undef).getD t undef = r := by
        rw [Array.getD_eq_getD_getElem?, Array.getElem?_append_left hlt]
        have : rargs[t]? = some r := by rw [← g1]; simp
        rw [this]; rfl
      rw [this]; exact g2
    · unfold VR; trivial
  · rintro e a' w' ⟨s', ρ', q1, q2, q3⟩
    have fin : (vresults P s' fn.results.toList fun l => Fin h.length v h' (vtuple l) s') → ∃ r, (results fn a'.tmps).run P w' = .ok r w' ∧ (∃ r' ρ', Ending.returned r = .returned r' ∧ VR ρ' (· < h'.length) w' v r' ∧ MemRel ρ' (· < h'.length) (getH h') w' ∧ h.length ≤ h'.length ∧ (∀ b, b < h.length → ρ' b = ρ b) ∧ Frame ρ (getH h) w ρ' (getH h') w') := fun q => by
      obtain ⟨v1, r, g1, g2, g3⟩ := results_sound q2 q
      obtain ⟨ρ2, k1, k2, k3, k4⟩ := g1.2 ρ' w' r g2 q2.mem q3.1
      exact ⟨r, g3, r, ρ2, rfl, k1, k2, g1.1, fun b hb => (k3 b hb).trans (q3.2.1 b hb), q3.2.2.less k4⟩
    cases e
    case normal => exact ⟨q2.tmps.defers, fin q1⟩
    case ret => exact ⟨q2.tmps.defers, fin q1⟩
    all_goals exact q1.elim
theorem pure_of_gs {P : Program} {f : FuncId} {fn : Func} {c : Code} {args : List V} {v : V} (hc : callable P f = true) (hf : P.funcs[f]? = some fn) (hb : fn.body = some c) (hn : args.length ≤ fn.ntmps) (ha : lows 0 args)
    (hv : GS P 0 fn.ntmps c (retQ P fn (Fin 0 v [])) ⟨argsT args 0, []⟩) : PureFn P f args v := pure_of_spec0 hc ha (spec0_of_gs hf hb hn hv)
end Go.Vm
end
section
namespace Go.Vm
open Go Go.RowKit
open Go.ChangeMaps (setBlock)
section
variable {P : Program} {m n : Nat}
theorem run_range_map2 {w : World} {t k e : TypeId} {r : Nat} {c : MapC} (ht : P.underlying t = some (.map k e)) (hb : w.heap[r]? = some c.obj) :
    (Instr.range t (.map (some r))).run P w = .ok (.pointer (some ⟨w.heap.size, 0, none⟩)) (w.alloc (itObj r c.clock [] c.clock)) := by
  unfold MapC.obj at hb
  exact run_range_map w t k e r _ c.clock ht hb
theorem run_next_map2 {w : World} {ty : TypeId} {r b since c0 : Nat} {seen : List Nat} {c : MapC} (hr : w.heap[r]? = some (itObj b since seen c0)) (hb : w.heap[b]? = some c.obj) (hold : ∀ e ∈ c.es, e.1 < since) (hsc : since ≤ c0) :
    ((∀ e ∈ c.es, e.1 ∈ seen) ∧ (Instr.next (.pointer (some ⟨r, 0, none⟩)) false ty).run P w = .ok (.tuple #[.bool false]) w) ∨
    ∃ e ∈ c.es, e.1 ∉ seen ∧ ∃ w1 : World, (w1 = w ∨ w1 = w.drew) ∧ (Instr.next (.pointer (some ⟨r, 0, none⟩)) false ty).run P w = .ok (.tuple #[.bool true, (entOf e).key, (entOf e).val]) (setBlock w1 r (itObj b since (seen ++ [e.1]) c.clock)) := by
  unfold MapC.obj at hb
  rcases run_next_at w ty r b since c0 seen.toArray _ c.clock hr hb (by
    intro x hx
    have hx : x ∈ c.es.map entOf := hx
    obtain ⟨e, he, rfl⟩ := List.mem_map.1 hx
    exact hold e he) hsc with ⟨h1, h2⟩ | ⟨e', he, w1, h1, h2⟩
  · refine .inl ⟨fun e he => ?_, h2⟩
    have := all_seen _ _ h1 (entOf e) (show entOf e ∈ c.es.map entOf from List.mem_map.2 ⟨e, he, rfl⟩)
    simpa [entOf] using this
  · obtain ⟨h3, h4⟩ := mem_left he
    have h3 : e' ∈ c.es.map entOf := h3
    obtain ⟨e, he2, rfl⟩ := List.mem_map.1 h3
    refine .inr ⟨e, he2, by simpa [entOf] using h4, w1, h1, ?_⟩
    rw [h2]
    unfold itObj
    simp [entOf]
theorem run_entry_map2 {w : World} {r b since : Nat} {seen : List Nat} {c : MapC} {e : Nat × BitVec 32 × Int} (hr : w.heap[r]? = some (itObj b since (seen ++ [e.1]) c.clock)) (hb : w.heap[b]? = some c.obj) (he : e ∈ c.es) (hn : (c.es.map (·.1)).Nodup) :
    (Instr.entry (.pointer (some ⟨r, 0, none⟩))).run P w = .ok (.tuple #[(entOf e).key, (entOf e).val]) w := by
  unfold MapC.obj at hb
  refine run_entry_at w r b since seen.toArray _ c.clock (entOf e) ?_ hb (show entOf e ∈ c.es.map entOf from List.mem_map.2 ⟨e, he, rfl⟩) ?_
  · rw [hr]
    unfold itObj
    simp [entOf]
  · have : (c.es.map entOf).toArray.toList.map (·.born) = c.es.map (·.1) := by
      simp only [List.map_map]
      exact List.map_congr_left fun _ _ => rfl
    rw [this]; exact hn
/-- A region of which the first operation's run is known. -/
theorem first_sound {m1 id : Nat} {o : Oper} {os : List Oper} {ops : Array Oper} {tn : Tmp} {v : V} {r : Value} {s : St} {a : Act} {w w' : World} {ρ : Nat → Nat × Nat} {K : St → Prop} {Q : Exit → Act → World → Prop}
    (hops : ops.toList = o :: os) (hg : o.guard = none) (hd : o.dst = some tn) (hrun : (execOp a.eval o).run P w = .ok (.value r) w')
    (hr : RelSt ρ n (s.put (some tn) v) (a.put (some tn) r) w') (hm : m1 ≤ s.H.length) (hk : vops P n ops os (s.put (some tn) v) K)
    (hq : ∀ a' w'' s' ρ', K s' → RelSt ρ' n s' a' w'' → Step m1 ρ (s.put (some tn) v) w' ρ' s' w'' → Q .normal a' w'') : (Code.region id ops false).wp P Q a w := by
  refine wp_region ?_
  have hsz : ops.size = os.length + 1 := by rw [← Array.length_toList, hops]; rfl
  rw [hsz, List.range_succ_eq_map]
  have h0 : ops[0]? = some o := by rw [← Array.getElem?_toList, hops]; rfl
  have hwant : Region.wanted o (yielded ops a.tmps) = true := by unfold Region.wanted; rw [hg]
  simp only [wpOps, h0, hwant, if_true]
  refine .inl ?_
  unfold Oper.wp
  rw [hrun, Oper.upon_value, hd]
  refine vops_sound (m := m1) (List.map Nat.succ (List.range os.length)) os _ K ?_ hk ρ _ w' hr hm ?_
  · refine List.ext_getElem? fun i => ?_
    simp only [List.getElem?_map]
    by_cases hi2 : i < os.length
    · have : ops[i + 1]? = os[i]? := by rw [← Array.getElem?_toList, hops]; rfl
      simp [List.getElem?_range hi2, hi2, this]
    · rw [List.getElem?_eq_none (by simp; omega), List.getElem?_eq_none (by omega)]; rfl
  · rintro a' w'' ⟨s', ρ', q1, q2, q3⟩
    exact hq a' w'' s' ρ' q1 q2 q3
/-- A loop over a map: J tells of the state, M of the map, when the entries with the stamps 'seen' have been handed out. -/
theorem gs_rangemap (hmix : P.follows .mixedOrders = true) {rid r3 r7 bid b1 : Nat} {ops ops7 : Array Oper} {pre os7 : List Oper} {o2 o3 o4 o5 : Oper} {tz tit tn tok te : Tmp} {ty k e : TypeId} {body2 : Code} {s S1 : St} {bm : Nat} {K : St → Prop} {Q : Exit → St → Prop}
    (I : List Nat → Prop) (J : List Nat → St) (M : List Nat → MapC) (μ : List Nat → Nat)
    (hops : ops = (pre ++ [o2]).toArray) (hgp : ∀ o ∈ pre, o.guard = none) (hp : vops P n ops pre s (fun s1 => s1 = S1)) (ht : S1.get tz = .map bm) (hM0 : getH S1.H bm = some ⟨false, [], some (M [])⟩)
    (h2 : o2.op = .range ty (.tmp tz)) (g2 : o2.guard = none) (d2 : o2.dst = some tit) (z2 : tit < n) (hty : P.underlying ty = some (.map k e))
    (h3 : o3.op = .next (.tmp tit) false) (g3 : o3.guard = none) (d3 : o3.dst = some tn) (z3 : tn < n)
    (hops7 : ops7.toList = o5 :: os7) (h5 : o5.op = .entry (.tmp tit)) (g5 : o5.guard = none) (d5 : o5.dst = some te) (z5 : te < n)
    (hI0 : I []) (hI : ∀ seen, I seen → (∀ e ∈ (M seen).es, e.1 < (M []).clock) ∧ ((M seen).es.map (·.1)).Nodup ∧ (M []).clock ≤ (M seen).clock)
    (hJm : ∀ seen, I seen → getH (J seen).H bm = some ⟨false, [], some (M seen)⟩)
    (hJ0 : Weak (max m (S1.H.length + 1)) n ⟨putS S1.t (some tit) (.ptr S1.H.length 0), S1.H ++ [none]⟩ (J []))
    (hJt : ∀ seen, (J seen).get tit = .ptr S1.H.length 0)
    (hend : ∀ seen, I seen → (∀ e ∈ (M seen).es, e.1 ∈ seen) → vops P n #[o3, o4] [o4] ((J seen).put (some tn) (.tup [.bool false])) fun s' => s'.get tok = .bool false ∧ K s')
    (hgo : ∀ seen e, I seen → e ∈ (M seen).es → e.1 ∉ seen → I (seen ++ [e.1]) ∧ μ (seen ++ [e.1]) < μ seen ∧
      vops P n #[o3, o4] [o4] ((J seen).put (some tn) (.tup [.bool true, .u32 e.2.1, .i64 e.2.2])) fun s' => s'.get tok = .bool true ∧ s'.get tit = .ptr S1.H.length 0 ∧ getH s'.H bm = some ⟨false, [], some (M seen)⟩ ∧
        vops P n ops7 os7 (s'.put (some te) (.tup [.u32 e.2.1, .i64 e.2.2])) fun s2 => vc P (max m (S1.H.length + 1)) n body2 (blockQ b1 (fun x s'' => x = .normal ∧ Weak (max m (S1.H.length + 1)) n s'' (J (seen ++ [e.1])))) s2) :
    GS P m n (.seq (.region rid ops false) (.block bid (.loop (.seq (.region r3 #[o3, o4] false) (.seq (.cond (.tmp tok) .skip (.exit bid)) (.block b1 (.seq (.region r7 ops7 false) body2))))))) (seqQ K Q) s := by
  intro ρ a w hr hm
  refine wp_seq (wp_region ?_)
  have hsz : ops.size = pre.length + 1 := by rw [hops]; simp
  rw [hsz, List.range_succ]
  refine vops_pre (m := m) (a := a) (w := w) (ρ := ρ) (List.range pre.length) pre s (fun s1 => s1 = S1) ?_ hgp hp ρ a w hr hm ?_
  · refine List.ext_getElem? fun i => ?_
    simp only [List.getElem?_map]
    by_cases hi : i < pre.length
    · have : ops[i]? = pre[i]? := by rw [hops]; simp [List.getElem?_append_left hi]
      simp [List.getElem?_range hi, hi, this]
    · rw [List.getElem?_eq_none (by simp; omega), List.getElem?_eq_none (by omega)]; rfl
  rintro a1 w1 ⟨s1, ρ1, rfl, hr1, hst0⟩
  have hxv := hr1.tmps.slot tz
  rw [ht] at hxv
  unfold VR at hxv
  obtain ⟨hbl, hz⟩ := hxv
  have hmp := hr1.mem.mapc bm _ _ hM0 rfl
  have ho2 : ops[pre.length]? = some o2 := by rw [hops]; simp
  have w2 : Region.wanted o2 (yielded ops a1.tmps) = true := by unfold Region.wanted; rw [g2]
  have k2 : (execOp a1.eval o2).run P w1 = .ok (.value (.pointer (some ⟨w1.heap.size, 0, none⟩))) (w1.alloc (itObj (ρ1 bm).1 (M []).clock [] (M []).clock)) := by
    unfold execOp
    rw [h2]
    simp only [Act.eval, hz, Sem.run_bind, run_range_map2 hty hmp, Result.andThen_ok, Sem.run_pure]
  simp only [wpOps, ho2, w2, if_true]
  refine .inl ?_
  unfold Oper.wp
  rw [k2, Oper.upon_value, d2]
  obtain ⟨i1, i2⟩ := alloc_start (m0 := m) (tit := tit) hr1 hst0.1 z2 (itObj (ρ1 bm).1 (M []).clock [] (M []).clock)
  have i3 : Beside (itObj (ρ1 bm).1 (M []).clock [] (M []).clock) s1.H.length w (fun k => if k = s1.H.length then (w1.heap.size, 0) else ρ1 k) ⟨putS s1.t (some tit) (.ptr s1.H.length 0), s1.H ++ [none]⟩ (w1.alloc (itObj (ρ1 bm).1 (M []).clock [] (M []).clock)) := by
    refine ⟨by simp, by rw [if_pos rfl], by rw [if_pos rfl]; exact hst0.2.2.size, by rw [if_pos rfl]; exact heap_alloc_new w1 _, fun b B hB ho => ?_⟩
    rw [if_pos rfl]
    have hB : ((s1.H ++ [none])[b]?).join = some B := hB
    by_cases hb : b < s1.H.length
    · rw [List.getElem?_append_left hb] at hB
      have := hr1.mem.lt b B hB
      rw [if_neg (by omega)]
      omega
    · rw [List.getElem?_append_right (by omega)] at hB
      by_cases hb2 : b - s1.H.length = 0
      · rw [hb2] at hB; simp at hB
      · rw [List.getElem?_eq_none (by simp; omega)] at hB; simp at hB
  have ebm : (fun k => if k = s1.H.length then (w1.heap.size, 0) else ρ1 k) bm = ρ1 bm := if_neg (by omega)
  have i2 := hst0.trans i2
  have hm1 := hst0.1
  obtain ⟨ρ2, j1, j2⟩ := hJ0 _ _ _ i1 (by simp; omega)
  have i4 := i3.step j2 (by omega)
  have eb2 : ρ2 bm = ρ1 bm := (j2.2.1 bm (by omega)).trans ebm
  have i4 : Beside (itObj (ρ2 bm).1 (M []).clock [] (M []).clock) s1.H.length w ρ2 (J []) (w1.alloc (itObj (ρ1 bm).1 (M []).clock [] (M []).clock)) := by rw [eb2]; exact i4
  have j3 : Step m ρ s w ρ2 (J []) (w1.alloc (itObj (ρ1 bm).1 (M []).clock [] (M []).clock)) := i2.trans ⟨by have := j2.1; omega, fun x hx => j2.2.1 x (by omega), j2.2.2⟩
  have j4 : max m (s1.H.length + 1) ≤ (J []).H.length := j2.1
  -- the loop
  refine wp_block ?_
  refine wp_loop_ix (fun k a5 w5 => ∃ seen ρ5 c0, μ seen = k ∧ I seen ∧ (M []).clock ≤ c0 ∧ RelSt ρ5 n (J seen) a5 w5 ∧ Step m ρ s w ρ5 (J seen) w5 ∧ Beside (itObj (ρ5 bm).1 (M []).clock seen c0) s1.H.length w ρ5 (J seen) w5 ∧ max m (s1.H.length + 1) ≤ (J seen).H.length) (k0 := μ []) ⟨[], ρ2, (M []).clock, rfl, hI0, Nat.le_refl _, j1, j3, i4, j4⟩ ?_
  rintro k a5 w5 ⟨seen, ρ5, c0, rfl, hIs, hc0, r1, r2, r3', r4⟩
  obtain ⟨hold, hnd, hcl⟩ := hI seen hIs
  have hmap := r1.mem.mapc bm _ _ (hJm seen hIs) rfl
  have htv := r1.tmps.slot tit
  rw [hJt seen] at htv
  unfold VR at htv
  obtain ⟨_, htv⟩ := htv
  rw [r3'.zero, Nat.zero_add] at htv
  rcases run_next_map2 (P := P) (ty := o3.type) r3'.here hmap hold hc0 with ⟨hall, hrun⟩ | ⟨e, he, hns, w6, hw6, hrun⟩
  · -- nothing is left
    have hex : (execOp a5.eval o3).run P w5 = .ok (.value (.tuple #[.bool false])) w5 := by
      unfold execOp
      rw [h3]
      simp only [Act.eval, htv, Sem.run_bind, hrun, Result.andThen_ok, Sem.run_pure]
    refine wp_seq (first_sound (m1 := max m (s1.H.length + 1)) (v := .tup [.bool false]) rfl g3 d3 hex ⟨RelT.put r1.tmps (show dstOk n (some tn) from z3) (by unfold VR; exact ⟨_, rfl, VRs.cons (by unfold VR; rfl) VRs.nil⟩), r1.mem⟩ r4 (hend seen hIs hall) ?_)
    rintro a2 w2' s2 ρ3 ⟨q0, q1⟩ q2 q3
    have hev := q2.tmps.slot tok
    rw [q0] at hev
    unfold VR at hev
    show Code.wp P _ _ a2 w2'
    refine wp_seq (wp_cond_split hev (fun hT => by cases hT) fun _ => ?_)
    refine wp_exit ?_
    show Exit.inBlock bid (LiftE m n ρ s w (seqQ K Q)) (.exit bid) a2 w2'
    simp only [Exit.inBlock, if_true]
    have q4 : Step m ρ5 (J seen) w5 ρ3 s2 w2' := ⟨by have := q3.1; omega, fun x hx => q3.2.1 x (by omega), q3.2.2⟩
    exact ⟨s2, ρ3, q1, q2, r2.trans q4⟩
  · -- one entry comes out
    obtain ⟨hI2, hμ, hvo⟩ := hgo seen e hIs he hns
    have hex : (execOp a5.eval o3).run P w5 = .ok (.value (.tuple #[.bool true, (entOf e).key, (entOf e).val])) (setBlock w6 (ρ5 s1.H.length).1 (itObj (ρ5 bm).1 (M []).clock (seen ++ [e.1]) (M seen).clock)) := by
      unfold execOp
      rw [h3]
      simp only [Act.eval, htv, Sem.run_bind, hrun, Result.andThen_ok, Sem.run_pure]
    have r1' : RelSt ρ5 n (J seen) a5 w6 := by rcases hw6 with rfl | rfl; exact r1; exact r1.drew
    have r2' : Step m ρ s w ρ5 (J seen) w6 := by rcases hw6 with rfl | rfl; exact r2; exact r2.drew
    have hit : w6.heap[(ρ5 s1.H.length).1]? = some (itObj (ρ5 bm).1 (M []).clock seen c0) := by rcases hw6 with rfl | rfl <;> exact r3'.here
    have t1 := r1'.turnIt hit (itObj (ρ5 bm).1 (M []).clock (seen ++ [e.1]) (M seen).clock)
    have t2 := r2'.turnIt hit r3'.young (itObj (ρ5 bm).1 (M []).clock (seen ++ [e.1]) (M seen).clock)
    have hlt6 := (Array.getElem?_eq_some_iff.1 hit).1
    have t3 : Beside (itObj (ρ5 bm).1 (M []).clock (seen ++ [e.1]) (M seen).clock) s1.H.length w ρ5 ((J seen).put (some tn) (.tup [.bool true, .u32 e.2.1, .i64 e.2.2])) (setBlock w6 (ρ5 s1.H.length).1 (itObj (ρ5 bm).1 (M []).clock (seen ++ [e.1]) (M seen).clock)) :=
      ⟨r3'.lt, r3'.zero, r3'.young, by rw [setBlock_heap, if_pos rfl, if_pos hlt6], r3'.own⟩
    generalize hw7 : setBlock w6 (ρ5 s1.H.length).1 (itObj (ρ5 bm).1 (M []).clock (seen ++ [e.1]) (M seen).clock) = w7 at t1 t2 t3 hex
    refine wp_seq (first_sound (m1 := max m (s1.H.length + 1)) (v := .tup [.bool true, .u32 e.2.1, .i64 e.2.2]) rfl g3 d3 hex ⟨RelT.put t1.tmps (show dstOk n (some tn) from z3) (by unfold VR; exact ⟨_, rfl, VRs.cons (by unfold VR; rfl) (VRs.cons (by unfold VR; rfl) (VRs.cons (by unfold VR; rfl) VRs.nil))⟩), t1.mem⟩ r4 hvo ?_)
    rintro a2 w2' s2 ρ3 ⟨q0, q1, q5, q6⟩ q2 q3
    have hev := q2.tmps.slot tok
    rw [q0] at hev
    unfold VR at hev
    have t4 := t3.step q3 (by omega)
    have eb3 : ρ3 bm = ρ5 bm := q3.2.1 bm (by omega)
    show Code.wp P _ _ a2 w2'
    refine wp_seq (wp_cond_split hev (fun _ => ?_) (fun hF => by cases hF))
    refine wp_skip ?_
    show Code.wp P _ _ a2 w2'
    refine wp_block ?_
    have hmap2 := q2.mem.mapc bm _ _ q5 rfl
    have htv2 := q2.tmps.slot tit
    rw [q1] at htv2
    unfold VR at htv2
    obtain ⟨_, htv2⟩ := htv2
    rw [t4.zero, Nat.zero_add] at htv2
    have hen : (execOp a2.eval o5).run P w2' = .ok (.value (.tuple #[(entOf e).key, (entOf e).val])) w2' := by
      unfold execOp
      rw [h5]
      have hh := t4.here
      rw [← eb3] at hh
      simp only [Act.eval, htv2, Sem.run_bind, run_entry_map2 hh hmap2 he hnd, Result.andThen_ok, Sem.run_pure]
    refine wp_seq (first_sound (m1 := max m (s1.H.length + 1)) (v := .tup [.u32 e.2.1, .i64 e.2.2]) hops7 g5 d5 hen ⟨RelT.put q2.tmps (show dstOk n (some te) from z5) (by unfold VR; exact ⟨_, rfl, VRs.cons (by unfold VR; rfl) (VRs.cons (by unfold VR; rfl) VRs.nil)⟩), q2.mem⟩ q3.1 q6 ?_)
    intro a3 w3 s3 ρ4 u1 u2 u3
    have t5 : Step (max m (s1.H.length + 1)) ρ5 (J seen) w7 ρ4 s3 w3 := q3.trans u3
    have t6 : Beside (itObj (ρ5 bm).1 (M []).clock (seen ++ [e.1]) (M seen).clock) s1.H.length w ρ4 s3 w3 := t4.step u3 (by omega)
    refine wp_mono (vc_sound hmix body2 _ s3 u1 ρ4 a3 w3 u2 u3.1) ?_
    rintro z a4 w4 ⟨s4, ρ6, v1, v2, v3⟩
    have fin : (Weak (max m (s1.H.length + 1)) n s4 (J (seen ++ [e.1]))) → ∃ k', k' < μ seen ∧ ∃ seen ρ5 c0, μ seen = k' ∧ I seen ∧ (M []).clock ≤ c0 ∧ RelSt ρ5 n (J seen) a4 w4 ∧ Step m ρ s w ρ5 (J seen) w4 ∧ Beside (itObj (ρ5 bm).1 (M []).clock seen c0) s1.H.length w ρ5 (J seen) w4 ∧ max m (s1.H.length + 1) ≤ (J seen).H.length := fun hw => by
      obtain ⟨ρ7, x1, x2⟩ := hw ρ6 a4 w4 v2 v3.1
      have x3 := t5.trans (v3.trans x2)
      have x4 := t6.step (v3.trans x2) (by omega)
      have x5 : ρ7 bm = ρ5 bm := x3.2.1 bm (by omega)
      rw [← x5] at x4
      refine ⟨_, hμ, _, ρ7, (M seen).clock, rfl, hI2, hcl, x1, t2.trans ⟨by have := x3.1; omega, fun x hx => x3.2.1 x (by omega), x3.2.2⟩, x4, x3.1⟩
    cases z
    case normal => exact fin v1.2
    case exit i =>
      simp only [blockQ] at v1
      simp only [Exit.inBlock]
      split at v1
      · rename_i h; rw [if_pos h]; exact fin v1.2
      · exact absurd v1.1 (by simp)
    all_goals exact absurd v1.1 (by simp)
end
end Go.Vm
end
section
namespace Go.Vm
theorem vtuple_zero : vtuple [] = .tup [] := rfl
attribute [go_sem] and_true true_and and_self Nat.succ_ne_self decide_true decide_false Bool.false_eq_true Nat.one_ne_zero Nat.zero_ne_one Nat.not_lt_zero Nat.zero_lt_succ ge_iff_le gt_iff_lt decide_eq_true_eq Option.some.injEq List.getElem?_cons_zero List.getElem?_cons_succ List.length_cons List.length_nil Int.natCast_zero List.map_cons List.map_nil List.append_nil List.nil_append List.cons_append vconv Option.map_some Option.map_none List.getD_cons_zero List.getD_cons_succ List.not_mem_nil false_implies implies_true List.getElem?_toArray Option.bind_some List.set_cons_zero List.set_cons_succ List.take_succ_cons List.take_zero List.drop_succ_cons List.drop_zero List.drop_nil List.take_nil List.forall_mem_cons V.u8.injEq exists_eq' Nat.zero_mul Nat.one_mul Nat.zero_add Nat.mul_one Nat.add_zero Int.toNat_natCast Int.cast_ofNat_Int ne_eq not_true_eq_false not_false_eq_true List.length_set List.length_append List.length_take List.length_drop List.length_replicate Option.isSome_none Option.isSome_some w64_of Bool.not_true Bool.not_false Bool.true_and Bool.false_and Bool.and_true Bool.and_false Bool.true_or Bool.false_or Bool.or_true Bool.or_false Bool.not_eq_true' decide_eq_false_iff_not beq_self_eq_true List.take_length Nat.le_refl Int.le_refl Blk.mk.injEq
attribute [simp] vtuple_zero rens_append lows_append sgOf_zero sgOf_succ rens V.ren lows V.low rens_u8 rens_u32 rens_u64 rens_i64 rens_str lows_u8 lows_u32 lows_u64 lows_i64 lows_str allSome allRw blksOk_nil blksOk_none blksOk_some getH_zero getH_succ getH_nil
end Go.Vm
end
section
namespace Go.Vm
section
variable {P : Program} {m n : Nat} {R : Exit → St → Prop} {k : List Fr} {s : St} {l : List Oper} {ops : Array Oper} {dst : Option Tmp}
theorem goOp_makeMap (t : TypeId) (r : Option Operand) : goOp P m n R (.makeMap t r) dst l ops k s = goRes P m n R (vop P (.makeMap t r) s.ev (getH s.H) s.H.length) dst l ops k s := rfl
theorem goOp_lookup (t : TypeId) (x y : Operand) (b : Bool) : goOp P m n R (.lookup t x y b) dst l ops k s = goRes P m n R (vop P (.lookup t x y b) s.ev (getH s.H) s.H.length) dst l ops k s := rfl
theorem goOp_mapUpdate (t : TypeId) (x y z : Operand) : goOp P m n R (.mapUpdate t x y z) dst l ops k s = goRes P m n R (vop P (.mapUpdate t x y z) s.ev (getH s.H) s.H.length) dst l ops k s := rfl
end
theorem vone_map (b : Nat) : V.one (.map b) = true := rfl
attribute [go_sem] goOp_makeMap goOp_lookup goOp_mapUpdate vone_map
theorem gs_mono {P : Program} {m n : Nat} {c : Code} {Q Q' : Exit → St → Prop} {s : St} (h : GS P m n c Q s) (hq : ∀ e s', Q e s' → Q' e s') : GS P m n c Q' s := fun ρ a w hr hm => by
  refine wp_mono (h ρ a w hr hm) ?_
  rintro e a' w' ⟨s', ρ', q1, q2, q3⟩
  exact ⟨s', ρ', hq e s' q1, q2, q3⟩
theorem nodup_inj {α β : Type} {f : α → β} : ∀ {l : List α}, (l.map f).Nodup → ∀ {x y : α}, x ∈ l → y ∈ l → f x = f y → x = y
  | [], _, x, _, hx, _, _ => by cases hx
  | a :: l, h, x, y, hx, hy, e => by
    have h' : f a ∉ l.map f ∧ (l.map f).Nodup := List.nodup_cons.1 h
    rcases List.mem_cons.1 hx with h1 | h1 <;> rcases List.mem_cons.1 hy with h2 | h2
    · rw [h1, h2]
    · exact absurd (List.mem_map.2 ⟨y, h2, by rw [← e, h1]⟩) h'.1
    · exact absurd (List.mem_map.2 ⟨x, h1, by rw [e, h2]⟩) h'.1
    · exact nodup_inj h'.2 h1 h2 e
/-- A map whose stamps and keys are all apart, the stamps below the clock. -/
structure MapC.ok (m : MapC) : Prop where
  stamps : (m.es.map (·.1)).Nodup
  below : ∀ e ∈ m.es, e.1 < m.clock
  keys : (m.es.map (·.2.1)).Nodup
theorem entDel_filter (k : BitVec 32) : ∀ (l : List (Nat × BitVec 32 × Int)), (l.map (·.2.1)).Nodup → entDel k l = l.filter fun e => !decide (e.2.1 = k)
  | [], _ => rfl
  | e :: l, h => by
    have h' : e.2.1 ∉ l.map (·.2.1) ∧ (l.map (·.2.1)).Nodup := List.nodup_cons.1 h
    unfold entDel
    rw [List.filter_cons]
    by_cases hk : e.2.1 = k
    · rw [if_pos hk, decide_eq_true hk]
      simp only [Bool.not_true, Bool.false_eq_true, if_false]
      refine (List.filter_eq_self.2 fun x hx => ?_).symm
      have : x.2.1 ≠ k := fun e2 => h'.1 (List.mem_map.2 ⟨x, hx, e2.trans hk.symm⟩)
      simp [this]
    · rw [if_neg hk, decide_eq_false hk]
      simp only [Bool.not_false, if_true]
      rw [entDel_filter k l h'.2]
theorem entPut_map (k : BitVec 32) (n : Int) : ∀ (l : List (Nat × BitVec 32 × Int)), (l.map (·.2.1)).Nodup → entPut k n l = l.map fun e => if e.2.1 = k then (e.1, k, n) else e
  | [], _ => rfl
  | e :: l, h => by
    have h' : e.2.1 ∉ l.map (·.2.1) ∧ (l.map (·.2.1)).Nodup := List.nodup_cons.1 h
    unfold entPut
    rw [List.map_cons]
    by_cases hk : e.2.1 = k
    · rw [if_pos hk, if_pos hk]
      congr 1
      conv => lhs; rw [← List.map_id l]
      refine List.map_congr_left fun x hx => ?_
      have : x.2.1 ≠ k := fun e2 => h'.1 (List.mem_map.2 ⟨x, hx, e2.trans hk.symm⟩)
      rw [if_neg this]; rfl
    · rw [if_neg hk, if_neg hk, entPut_map k n l h'.2]
theorem entAt_mem {k : BitVec 32} {n : Int} {s : Nat} : ∀ {l : List (Nat × BitVec 32 × Int)}, (l.map (·.2.1)).Nodup → (s, k, n) ∈ l → entAt k l = some n
  | [], _, h => by cases h
  | e :: l, h, hm => by
    have h' : e.2.1 ∉ l.map (·.2.1) ∧ (l.map (·.2.1)).Nodup := List.nodup_cons.1 h
    unfold entAt
    rcases List.mem_cons.1 hm with rfl | hm
    · rw [if_pos rfl]
    · rw [if_neg (fun e2 => h'.1 (List.mem_map.2 ⟨_, hm, e2.symm⟩)), entAt_mem h'.2 hm]
/-- The entries that 'drop' says are gone, as far as they have been seen. -/
def dropSeen (drop : Int → Bool) (l : List (Nat × BitVec 32 × Int)) (seen : List Nat) : List (Nat × BitVec 32 × Int) := l.filter fun e => !(seen.contains e.1 && drop e.2.2)
theorem dropSeen_nil (drop : Int → Bool) (l : List (Nat × BitVec 32 × Int)) : dropSeen drop l [] = l := by
  unfold dropSeen; simp
theorem dropSeen_step {drop : Int → Bool} {m : MapC} (hm : m.ok) {seen : List Nat} {e : Nat × BitVec 32 × Int} (he : e ∈ m.es) (hs : e.1 ∉ seen) :
    dropSeen drop m.es (seen ++ [e.1]) = if drop e.2.2 = true then entDel e.2.1 (dropSeen drop m.es seen) else dropSeen drop m.es seen := by
  have hk : ((dropSeen drop m.es seen).map (·.2.1)).Nodup := List.Nodup.sublist (List.Sublist.map _ List.filter_sublist) hm.keys
  rw [entDel_filter _ _ hk]
  unfold dropSeen
  by_cases hd : drop e.2.2 = true
  · rw [if_pos hd, List.filter_filter]
    refine List.filter_congr fun x hx => ?_
    by_cases hxe : x = e
    · subst hxe; simp [hd]
    · have h1 : x.1 ≠ e.1 := fun h => hxe (nodup_inj hm.stamps hx he h)
      have h2 : x.2.1 ≠ e.2.1 := fun h => hxe (nodup_inj hm.keys hx he h)
      simp [h1, h2]
  · rw [if_neg hd]
    refine List.filter_congr fun x hx => ?_
    by_cases hxe : x = e
    · subst hxe; simp [hd, hs]
    · have h1 : x.1 ≠ e.1 := fun h => hxe (nodup_inj hm.stamps hx he h)
      simp [h1]
theorem dropSeen_end {drop : Int → Bool} {l : List (Nat × BitVec 32 × Int)} {seen : List Nat} (h : ∀ e ∈ dropSeen drop l seen, e.1 ∈ seen) : dropSeen drop l seen = l.filter fun e => !drop e.2.2 := by
  unfold dropSeen at *
  refine List.filter_congr fun x hx => ?_
  by_cases hs : x.1 ∈ seen
  · simp [hs]
  · have : x ∈ l.filter fun e => !(seen.contains e.1 && drop e.2.2) := List.mem_filter.2 ⟨hx, by simp [hs]⟩
    exact absurd (h x this) hs
/-- How many have not been seen. -/
def unseen (l : List (Nat × BitVec 32 × Int)) (seen : List Nat) : Nat := (l.filter fun e => !seen.contains e.1).length
theorem unseen_lt {l : List (Nat × BitVec 32 × Int)} {seen : List Nat} {e : Nat × BitVec 32 × Int} (he : e ∈ l) (hs : e.1 ∉ seen) : unseen l (seen ++ [e.1]) < unseen l seen := by
  have key : ∀ (l : List (Nat × BitVec 32 × Int)), unseen l (seen ++ [e.1]) ≤ unseen l seen := fun l => by
    induction l with
    | nil => exact Nat.le_refl _
    | cons x l ih =>
      unfold unseen at *
      simp only [List.filter_cons]
      by_cases h1 : x.1 ∈ seen <;> by_cases h2 : x.1 = e.1 <;> simp [h1, h2] at ih ⊢ <;> first | omega | (rw [h2] at h1; simp [h1]; omega) | skip
      all_goals simp_all
      all_goals omega
  induction l with
  | nil => cases he
  | cons x l ih =>
    have hl := key l
    rcases List.mem_cons.1 he with rfl | he
    · unfold unseen at *
      simp only [List.filter_cons]
      simp [hs] at hl ⊢
      omega
    · have := ih he
      unfold unseen at *
      simp only [List.filter_cons]
      by_cases h1 : x.1 ∈ seen <;> by_cases h2 : x.1 = e.1
      · simp [h1]; simpa using this
      · simp [h1]; simpa using this
      · simp [h2, hs]; simp at this; omega
      · simp [h1, h2]; simpa using this
end Go.Vm
end
