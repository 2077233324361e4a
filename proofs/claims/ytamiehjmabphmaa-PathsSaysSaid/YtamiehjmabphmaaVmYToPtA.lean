/- A part of the proof: laws of a small machine of values, or what one function answers, proved against the model; no conditions beyond those in each theorem. -/
import Derived.Maps.RangeRun
import Derived.Test.YtamiehjmabphmaaVmTToVmU
set_option linter.unusedVariables false
set_option linter.unusedSimpArgs false
set_option linter.unusedSectionVars false
section
namespace Go.Vm
open Go Go.RowKit
open Go.ChangeMaps (setBlock)
section
variable {P : Program} {m n : Nat}
/-- What is to be shown of a piece of code, told in the machine's words. -/
def GS (P : Program) (m n : Nat) (c : Code) (Q : Exit → St → Prop) (s : St) : Prop :=
  ∀ (ρ : Nat → Nat × Nat) (a : Act) (w : World), RelSt ρ n s a w → m ≤ s.H.length → c.wp P (LiftE m n ρ s w Q) a w
theorem gs_of_vc (hmix : P.follows .mixedOrders = true) {c : Code} {Q : Exit → St → Prop} {s : St} (h : vc P m n c Q s) : GS P m n c Q s := fun ρ a w hr hm => vc_sound hmix c Q s h ρ a w hr hm
theorem gs_seq {x y : Code} {K : St → Prop} {Q : Exit → St → Prop} {s : St} (hx : GS P m n x (seqQ K Q) s) (hy : ∀ s', K s' → GS P m n y Q s') : GS P m n (.seq x y) Q s := fun ρ a w hr hm => by
  refine wp_seq (wp_mono (hx ρ a w hr hm) ?_)
  rintro e a' w' ⟨s', ρ', q1, q2, q3⟩
  cases e
  case normal => exact wp_mono (hy s' q1 ρ' a' w' q2 q3.1) fun e a'' w'' ⟨s'', ρ'', r1, r2, r3⟩ => ⟨s'', ρ'', r1, r2, q3.trans r3⟩
  all_goals exact ⟨s', ρ', q1, q2, q3⟩
theorem gs_block {id : Nat} {c : Code} {Q : Exit → St → Prop} {s : St} (h : GS P m n c (blockQ id Q) s) : GS P m n (.block id c) Q s := fun ρ a w hr hm => by
  refine wp_block (wp_mono (h ρ a w hr hm) ?_)
  rintro e a' w' ⟨s', ρ', q1, q2, q3⟩
  cases e
  case exit i =>
    simp only [blockQ] at q1
    simp only [Exit.inBlock]
    split at q1
    · rename_i e; rw [if_pos e]; exact ⟨s', ρ', q1, q2, q3⟩
    · rename_i e; rw [if_neg e]; exact ⟨s', ρ', q1, q2, q3⟩
  all_goals exact ⟨s', ρ', q1, q2, q3⟩
theorem gs_loop {c : Code} {Q : Exit → St → Prop} {s : St} (I : Nat → St → Prop) {k0 : Nat} (h0 : I k0 s) (hr : ∀ k s, I k s → GS P m n c (seqQ (again m n I k) Q) s) : GS P m n (.loop c) Q s := fun ρ a w hr0 hm => by
  refine wp_loop_ix (fun k a1 w1 => ∃ s1 ρ1, I k s1 ∧ RelSt ρ1 n s1 a1 w1 ∧ Step m ρ s w ρ1 s1 w1) (k0 := k0) ⟨s, ρ, h0, hr0, Step.refl hm⟩ ?_
  rintro k a1 w1 ⟨s1, ρ1, i1, i2, i3⟩
  refine wp_mono (hr k s1 i1 ρ1 a1 w1 i2 i3.1) ?_
  rintro z a' w' ⟨s', ρ', q1, q2, q3⟩
  cases z
  case normal =>
    obtain ⟨k', s'', hk, hw, hi⟩ := q1
    obtain ⟨ρ'', t1, t2⟩ := hw ρ' a' w' q2 q3.1
    exact ⟨k', hk, s'', ρ'', hi, t1, (i3.trans q3).trans t2⟩
  all_goals exact ⟨s', ρ', q1, q2, i3.trans q3⟩
/-- The first operations of a region, none of them guarded. -/
theorem vops_pre {m : Nat} {ops : Array Oper} {Q : Exit → Act → World → Prop} {l2 : List Nat} {ρ : Nat → Nat × Nat} {a : Act} {w : World} : ∀ (l : List Nat) (os : List Oper) (s : St) (K : St → Prop), l.map (ops[·]?) = os.map some → (∀ o ∈ os, o.guard = none) → vops P n ops os s K → ∀ (ρ : Nat → Nat × Nat) (a : Act) (w : World), RelSt ρ n s a w → m ≤ s.H.length →
    (∀ a' w', Lift m n ρ s w K a' w' → wpOps P ops Q l2 a' w') → wpOps P ops Q (l ++ l2) a w
  | [], [], s, K, _, _, h, ρ, a, w, hr, hm, hq => hq a w ⟨s, ρ, h, hr, Step.refl hm⟩
  | [], _ :: _, _, _, hl, _, _, _, _, _, _, _, _ => by simp at hl
  | _ :: _, [], _, _, hl, _, _, _, _, _, _, _, _ => by simp at hl
  | i :: l, o :: os, s, K, hl, hg0, h, ρ, a, w, hr, hm, hq => by
    simp only [List.map_cons, List.cons.injEq] at hl
    obtain ⟨ho, hl⟩ := hl
    obtain ⟨hd, h⟩ := h
    have hg := hg0 o (by simp)
    rw [hg] at h
    have hw : Region.wanted o (yielded ops a.tmps) = true := by unfold Region.wanted; rw [hg]
    obtain ⟨res, h1, h2⟩ := vexec_sound h
    simp only [List.cons_append, wpOps, ho, hw, if_true]
    refine .inl (h1 ρ (· < s.H.length) (getH s.H) w a _ Q (fun x _ => hr.tmps.eval x) hr.mem (fun _ _ => rfl) (fun b hb1 hb2 (hb3 : b < s.H.length) => by omega) ?_)
    intro ρ' w' r g1 g2 g3 g4
    obtain ⟨k1, k2⟩ := after_rel (m := m) hr hm hd g1 g2 g3 g4
    refine vops_pre (a := a) (w := w) (ρ := ρ) l os _ K hl (fun o ho => hg0 o (by simp [ho])) h2 ρ' _ w' k1 k2.1 fun a' w'' ⟨s', ρ'', q1, q2, q3⟩ => hq a' w'' ⟨s', ρ'', q1, q2, k2.trans q3⟩
theorem alloc_start {m0 : Nat} {ρ : Nat → Nat × Nat} {s : St} {a : Act} {w : World} {tit : Tmp} (hr : RelSt ρ n s a w) (hm : m0 ≤ s.H.length) (ht : tit < n) (o : Obj) :
    let ρ1 := fun k => if k = s.H.length then (w.heap.size, 0) else ρ k
    let s1 : St := ⟨putS s.t (some tit) (.ptr s.H.length 0), s.H ++ [none]⟩
    RelSt ρ1 n s1 (a.put (some tit) (.pointer (some ⟨w.heap.size, 0, none⟩))) (w.alloc o) ∧ Step m0 ρ s w ρ1 s1 (w.alloc o) := by
  intro ρ1 s1
  have hlen : s1.H.length = s.H.length + 1 := by simp [s1]
  have hget : ∀ b B, getH s1.H b = some B → getH s.H b = some B ∧ b < s.H.length := fun b B hB => by
    have hB : ((s.H ++ [none])[b]?).join = some B := hB
    by_cases hb : b < s.H.length
    · rw [List.getElem?_append_left hb] at hB; exact ⟨hB, hb⟩
    · rw [List.getElem?_append_right (by omega)] at hB
      by_cases hb2 : b - s.H.length = 0
      · rw [hb2] at hB; simp at hB
      · rw [List.getElem?_eq_none (by simp; omega)] at hB; simp at hB
  have hρ : ∀ b, b < s.H.length → ρ1 b = ρ b := fun b hb => if_neg (by omega)
  have hlast : Lasts w (w.alloc o) := lasts_alloc w _
  have hold : ∀ r, r < w.heap.size → (w.alloc o).heap[r]? = w.heap[r]? := fun r h => Below.heap_alloc w _ r h
  have hsize : (w.alloc o).heap.size = w.heap.size + 1 := Array.size_push ..
  have hcell : ∀ b B, getH s.H b = some B → ∀ i, (w.alloc o).cell? ⟨(ρ b).1, i, none⟩ = w.cell? ⟨(ρ b).1, i, none⟩ := fun b B hB i => World.cell?_of_block (hold _ (hr.mem.lt b B hB))
  have hfroz : ∀ b B, getH s.H b = some B → ∀ i, (w.alloc o).frozen? ⟨(ρ b).1, i, none⟩ = w.frozen? ⟨(ρ b).1, i, none⟩ := fun b B hB i => World.frozen?_of_block (hold _ (hr.mem.lt b B hB))
  have hdom : ∀ b, b < s.H.length → b < s1.H.length := fun b hb => by omega
  refine ⟨⟨?_, ?_⟩, ⟨by omega, fun b hb => hρ b (by omega), ?_⟩⟩
  · refine RelT.put (hr.tmps.mono hρ hdom hlast) (show dstOk n (some tit) from ht) ?_
    unfold VR
    refine ⟨by omega, ?_⟩
    show _ = Value.pointer (some ⟨(ρ1 s.H.length).1, (ρ1 s.H.length).2 + 0, none⟩)
    have e : ρ1 s.H.length = (w.heap.size, 0) := if_pos rfl
    rw [e]
  · refine ⟨fun b B hB => hdom b (hget b B hB).2, fun b B hB => ?_, fun b b' B B' hB hB' hro hne => ?_, fun b B hB i v hv => ?_, fun b B hB ho i hi => ?_, fun b B mm hB hmp => ?_⟩
    · obtain ⟨h1, h2⟩ := hget b B hB
      rw [hρ b h2, hsize]
      have := hr.mem.lt b B h1
      omega
    · obtain ⟨h1, h2⟩ := hget b B hB
      obtain ⟨h3, h4⟩ := hget b' B' hB'
      rw [hρ b h2, hρ b' h4]
      exact hr.mem.inj b b' B B' h1 h3 hro hne
    · obtain ⟨h1, h2⟩ := hget b B hB
      obtain ⟨r, g1, g2⟩ := hr.mem.cell b B h1 i v hv
      exact ⟨r, by rw [hρ b h2, hcell b B h1]; exact g1, g2.mono hρ hdom hlast⟩
    · obtain ⟨h1, h2⟩ := hget b B hB
      rw [hρ b h2, hfroz b B h1]
      exact hr.mem.free b B h1 ho i hi
    · obtain ⟨h1, h2⟩ := hget b B hB
      rw [hρ b h2, hold _ (hr.mem.lt b B h1)]
      exact hr.mem.mapc b B mm h1 hmp
  · refine ⟨rfl, rfl, rfl, by omega, fun r hr2 _ => hold r hr2, hlast, fun b B hB ho => ?_⟩
    obtain ⟨h1, h2⟩ := hget b B hB
    exact .inl ⟨b, B, h1, ho, by rw [hρ b h2]⟩
/-- Beside the state: the object o lies in the machine's block of b; no block that is written lies there; it is younger than w0. -/
structure Beside (o : Obj) (b : Nat) (w0 : World) (ρ : Nat → Nat × Nat) (s : St) (w : World) : Prop where
  lt : b < s.H.length
  zero : (ρ b).2 = 0
  young : w0.heap.size ≤ (ρ b).1
  here : w.heap[(ρ b).1]? = some o
  own : ∀ b' B, getH s.H b' = some B → B.ro = false → (ρ b').1 ≠ (ρ b).1
theorem Beside.step {o : Obj} {b : Nat} {w0 w w' : World} {ρ ρ' : Nat → Nat × Nat} {s s' : St} (h : Beside o b w0 ρ s w) (k : Step m ρ s w ρ' s' w') (hb : b < m) : Beside o b w0 ρ' s' w' := by
  obtain ⟨k1, k2, k3⟩ := k
  have e := k2 b hb
  have hlt : (ρ b).1 < w.heap.size := (Array.getElem?_eq_some_iff.1 h.here).1
  refine ⟨by omega, by rw [e]; exact h.zero, by rw [e]; exact h.young, ?_, ?_⟩
  · rw [e, k3.keep _ hlt (fun b' B h1 h2 => h.own b' B h1 h2)]; exact h.here
  · intro b' B hB hro
    rw [e]
    rcases k3.own b' B hB hro with ⟨b0, B0, g1, g2, g3⟩ | g
    · rw [← g3]; exact h.own b0 B0 g1 g2
    · omega
/-- The iterator of a map. -/
def itObj (bm since : Nat) (seen : List Nat) (c0 : Nat) : Obj := .mapIter (some bm) since seen.toArray c0
section
variable {a : Act} {w w0 : World} {ρ : Nat → Nat × Nat} {s : St} {k bm since c0 bm' since' c0' : Nat} {seen seen' : List Nat}
theorem RelSt.turnIt (hr : RelSt ρ n s a w) (h : w.heap[k]? = some (itObj bm since seen c0)) (o : Obj) : RelSt ρ n s a (setBlock w k o) := by
  have hl : Lasts w (setBlock w k o) := lasts_setBlock h rfl
  have hne : ∀ b B (i : Nat) v, getH s.H b = some B → B.cs[i]? = some v → (ρ b).1 ≠ k := fun b B i v hB hv e => by
    obtain ⟨r, g1, _⟩ := hr.mem.cell b B hB i v hv
    rw [e, bare_cell h rfl] at g1
    cases g1
  refine ⟨hr.tmps.mono (fun _ _ => rfl) (fun _ h => h) hl, hr.mem.has, fun b B hB => by rw [setBlock_size]; exact hr.mem.lt b B hB, hr.mem.inj,
    fun b B hB i v hv => ?_, fun b B hB ho i hi => ?_, fun b B mm hB hmp => ?_⟩
  · obtain ⟨r, g1, g2⟩ := hr.mem.cell b B hB i v hv
    exact ⟨r, by rw [World.cell?_of_block (w := w) (setBlock_other w o (hne b B i v hB hv))]; exact g1, g2.mono (fun _ _ => rfl) (fun _ h => h) hl⟩
  · rw [World.frozen?_of_block (w := w) (setBlock_other w o (hne b B i _ hB (List.getElem?_eq_getElem hi)))]
    exact hr.mem.free b B hB ho i hi
  · have g := hr.mem.mapc b B mm hB hmp
    have hne : (ρ b).1 ≠ k := fun e => by rw [e, h] at g; cases g
    rw [setBlock_other w o hne]; exact g
theorem Step.turnIt {m0 : Nat} {ρ0 : Nat → Nat × Nat} {s0 : St} (h : Step m0 ρ0 s0 w0 ρ s w) (hk : w.heap[k]? = some (itObj bm since seen c0)) (hy : w0.heap.size ≤ k) (o : Obj) : Step m0 ρ0 s0 w0 ρ s (setBlock w k o) :=
  ⟨h.1, h.2.1, h.2.2.os, h.2.2.output, h.2.2.tape, by rw [setBlock_size]; exact h.2.2.size,
    fun r hr hb => by rw [setBlock_other w o (by omega)]; exact h.2.2.keep r hr hb,
    h.2.2.lasts.trans (lasts_setBlock hk rfl), h.2.2.own⟩
theorem RelSt.drew (hr : RelSt ρ n s a w) : RelSt ρ n s a w.drew :=
  ⟨hr.tmps.mono (fun _ _ => rfl) (fun _ h => h) (Alike.drew w).lasts, hr.mem.alike (Alike.drew w)⟩
theorem Step.drew {m0 : Nat} {ρ0 : Nat → Nat × Nat} {s0 : St} (h : Step m0 ρ0 s0 w0 ρ s w) : Step m0 ρ0 s0 w0 ρ s w.drew :=
  ⟨h.1, h.2.1, h.2.2.os, h.2.2.output, h.2.2.tape, h.2.2.size, h.2.2.keep, h.2.2.lasts, h.2.2.own⟩
end
end
theorem gs_weak {P : Program} {m n : Nat} {c : Code} {Q : Exit → St → Prop} {s s1 : St} (h : GS P m n c Q s1) (hw : Weak m n s s1) : GS P m n c Q s := fun ρ a w hr hm => by
  obtain ⟨ρ1, h1, h2⟩ := hw ρ a w hr hm
  refine wp_mono (h ρ1 a w h1 h2.1) ?_
  rintro e a' w' ⟨s', ρ', q1, q2, q3⟩
  exact ⟨s', ρ', q1, q2, h2.trans q3⟩
theorem vops_go {P : Program} {n : Nat} {ops : Array Oper} {l : List Oper} {s : St} {K : St → Prop} (h : goOps P 0 n (fun _ s => K s) l ops [] s) : vops P n ops l s K := h
/-- A pure function out of its code, told in the machine's words. -/
theorem spec0_of_gs {P : Program} {f : FuncId} {fn : Func} {c : Code} {args : List V} {h h' : List (Option Blk)} {v : V} (hf : P.funcs[f]? = some fn) (hb : fn.body = some c) (hn : args.length ≤ fn.ntmps)
    (hv : GS P h.length fn.ntmps c (retQ P fn (Fin h.length v h')) ⟨argsT args 0, h⟩) : Spec0 P f args h v h' := by
  intro ρ w rargs ha hm
  have hal := ha.length
  refine calls_of_wp hf hb (wp_mono (hv ρ _ w ⟨⟨?_, rfl, fun t => ?_⟩, hm⟩ (Nat.le_refl _)) ?_)
  · have : rargs.size = args.length := by simpa using hal
    simp; omega
  · show VR _ _ _ (lookS (argsT args 0) t) _
    rw [look_args]
    split
    · rename_i ht
      obtain ⟨r, g1, g2⟩ := ha.get (i := t) (v := args.getD t .junk) (by rw [List.getD_eq_getElem?_getD, List.getElem?_eq_getElem (by omega)]; rfl)
      have hlt : t < rargs.size := by simpa using (List.getElem?_eq_some_iff.1 g1).1
      simp only [Nat.sub_zero]
      have : (rargs ++ Array.replicate (fn.ntmps - rargs.size) undef).getD t undef = r := by
        rw [Array.getD_eq_getD_getElem?, Array.getElem?_append_left hlt]
        have : rargs[t]? = some r := by rw [← g1]; simp
        rw [this]; rfl
      rw [this]; exact g2
    · unfold VR; trivial
  · rintro e a' w' ⟨s', ρ', q1, q2, q3⟩
    have fin : (vresults P s' fn.results.toList fun l => Fin h.length v h' (vtuple l) s') → ∃ r, (results fn a'.tmps).run P w' = .ok r w' ∧ (∃ r' ρ', Ending.returned r = .returned r' ∧ VR ρ' (· < h'.length) w' v r' ∧ MemRel ρ' (· < h'.length) (getH h') w' ∧ h.length ≤ h'.length ∧ (∀ b, b < h.length → ρ' b = ρ b) ∧ Frame ρ (getH h) w ρ' (getH h') w') := fun q => by
      obtain ⟨v1, r, g1, g2, g3⟩ := results_sound q2 q
      obtain ⟨ρ2, k1, k2, k3, k4⟩ := g1.2 ρ' w' r g2 q2.mem q3.1
      exact ⟨r, g3, r, ρ2, rfl, k1, k2, g1.1, fun b hb => (k3 b hb).trans (q3.2.1 b hb), q3.2.2.less k4⟩
    cases e
    case normal => exact ⟨q2.tmps.defers, fin q1⟩
    case ret => exact ⟨q2.tmps.defers, fin q1⟩
    all_goals exact q1.elim
theorem pure_of_gs {P : Program} {f : FuncId} {fn : Func} {c : Code} {args : List V} {v : V} (hc : callable P f = true) (hf : P.funcs[f]? = some fn) (hb : fn.body = some c) (hn : args.length ≤ fn.ntmps) (ha : lows 0 args)
    (hv : GS P 0 fn.ntmps c (retQ P fn (Fin 0 v [])) ⟨argsT args 0, []⟩) : PureFn P f args v := pure_of_spec0 hc ha (spec0_of_gs hf hb hn hv)
end Go.Vm
end
section
namespace Go.Vm
/-- A node: its kids (0: none), whether it is there, whose it is. -/
structure Nd where
  k0 : Nat
  k1 : Nat
  is : Bool
  owner : Int
  deriving Inhabited
def leaf : Nd := ⟨0, 0, false, 0⟩
def kidV (pos : Nat → Nat) (j : Nat) : V := if j = 0 then .nilPtr else .ptr (pos j) 0
def tlC (many : Int) (j : Nat) : List V := if j = 0 then [.i64 many] else []
def ndB (pos : Nat → Nat) (many : Int) (j : Nat) (nd : Nd) : Blk := ⟨false, kidV pos nd.k0 :: kidV pos nd.k1 :: .bool nd.is :: .i64 nd.owner :: tlC many j, none⟩
def treeB (many : Int) (A : List Nd) : List (Option Blk) := A.zipIdx.map fun p => some (ndB id many p.2 p.1)
/-- The kids are nodes of the arena. -/
def Closed (A : List Nd) : Prop := 0 < A.length ∧ ∀ (j : Nat) nd, A[j]? = some nd → nd.k0 < A.length ∧ nd.k1 < A.length
structure TreeAt (pos : Nat → Nat) (many : Int) (A : List Nd) (H : List (Option Blk)) : Prop where
  here : ∀ (j : Nat) nd, A[j]? = some nd → getH H (pos j) = some (ndB pos many j nd)
  inj : ∀ i j, i < A.length → j < A.length → pos i = pos j → i = j
  closed : Closed A
theorem treeB_length (many : Int) (A : List Nd) : (treeB many A).length = A.length := by unfold treeB; simp
theorem treeB_get (many : Int) (A : List Nd) (j : Nat) : getH (treeB many A) j = (A[j]?).map (ndB id many j) := by
  unfold getH treeB
  rw [List.getElem?_map, List.getElem?_zipIdx]
  cases A[j]? with
  | none => rfl
  | some nd => simp
theorem TreeAt.init {many : Int} {A : List Nd} (h : Closed A) : TreeAt id many A (treeB many A) :=
  ⟨fun j nd e => by rw [show id j = j from rfl, treeB_get, e]; rfl, fun _ _ _ _ e => e, h⟩
theorem getH_app {H : List (Option Blk)} {b : Nat} (h : b < H.length) (X : List (Option Blk)) : getH (H ++ X) b = getH H b := by
  unfold getH; rw [List.getElem?_append_left h]
theorem getH_new (H : List (Option Blk)) (x : Option Blk) (X : List (Option Blk)) : getH (H ++ x :: X) H.length = x := by
  unfold getH; rw [List.getElem?_append_right (Nat.le_refl _)]; simp
theorem getH_set_same {H : List (Option Blk)} {b : Nat} (h : b < H.length) (x : Option Blk) : getH (H.set b x) b = x := by
  unfold getH; rw [List.getElem?_set_self h]; simp
theorem getH_set_ne {H : List (Option Blk)} {b c : Nat} (h : c ≠ b) (x : Option Blk) : getH (H.set c x) b = getH H b := by
  unfold getH; rw [List.getElem?_set_ne h]
theorem TreeAt.lt {pos : Nat → Nat} {many : Int} {A : List Nd} {H : List (Option Blk)} (h : TreeAt pos many A H) {j : Nat} (hj : j < A.length) : pos j < H.length :=
  getH_lt (h.here j A[j] (List.getElem?_eq_getElem hj))
/-- What else is said of memory may turn. -/
theorem TreeAt.keep {pos : Nat → Nat} {many : Int} {A : List Nd} {H H' : List (Option Blk)} (h : TreeAt pos many A H) (hk : ∀ j, j < A.length → getH H' (pos j) = getH H (pos j)) : TreeAt pos many A H' :=
  ⟨fun j nd e => by rw [hk j (List.getElem?_eq_some_iff.1 e).1]; exact h.here j nd e, h.inj, h.closed⟩
theorem TreeAt.app {pos : Nat → Nat} {many : Int} {A : List Nd} {H : List (Option Blk)} (h : TreeAt pos many A H) (X : List (Option Blk)) : TreeAt pos many A (H ++ X) :=
  h.keep fun _ hj => getH_app (h.lt hj) X
theorem TreeAt.other {pos : Nat → Nat} {many : Int} {A : List Nd} {H : List (Option Blk)} (h : TreeAt pos many A H) {b : Nat} (hb : ∀ j, j < A.length → pos j ≠ b) (x : Option Blk) : TreeAt pos many A (H.set b x) :=
  h.keep fun j hj => getH_set_ne (fun e => hb j hj e.symm) x
/-- A node turned. -/
theorem TreeAt.put {pos : Nat → Nat} {many many' : Int} {A : List Nd} {H : List (Option Blk)} (h : TreeAt pos many A H) {j : Nat} (hj : j < A.length) (nd' : Nd) (hk : nd'.k0 < A.length ∧ nd'.k1 < A.length) (hm : j = 0 ∨ many' = many) :
    TreeAt pos many' (A.set j nd') (H.set (pos j) (some (ndB pos many' j nd'))) := by
  refine ⟨fun i nd e => ?_, fun a b ha hb e => h.inj a b (by simpa using ha) (by simpa using hb) e, by simpa using h.closed.1, fun i nd e => ?_⟩
  · rw [List.getElem?_set] at e
    by_cases hij : j = i
    · subst hij
      rw [if_pos rfl, if_pos hj] at e
      cases e
      exact getH_set_same (h.lt hj) _
    · rw [if_neg hij] at e
      have hi : i < A.length := (List.getElem?_eq_some_iff.1 e).1
      rw [getH_set_ne (fun e2 => hij (h.inj _ _ hj hi e2)), h.here i nd e]
      unfold ndB tlC
      by_cases hi0 : i = 0
      · rcases hm with hm | hm
        · exact absurd (hm.trans hi0.symm) hij
        · rw [hm]
      · rw [if_neg hi0, if_neg hi0]
  · rw [List.length_set]
    rw [List.getElem?_set] at e
    by_cases hij : j = i
    · subst hij
      rw [if_pos rfl, if_pos hj] at e
      cases e
      exact hk
    · rw [if_neg hij] at e
      exact h.closed.2 i nd e
/-- A new node, behind all. -/
theorem TreeAt.grow {pos : Nat → Nat} {many : Int} {A : List Nd} {H : List (Option Blk)} (h : TreeAt pos many A H) (hf : A.length ≠ 0 := by omega) :
    TreeAt (fun j => if j = A.length then H.length else pos j) many (A ++ [leaf]) (H ++ [some ⟨false, [.nilPtr, .nilPtr, .bool false, .i64 0], none⟩]) := by
  have hne : ∀ j, j < A.length → (if j = A.length then H.length else pos j) = pos j := fun j hj => if_neg (by omega)
  have hkid : ∀ j, j < A.length → kidV (fun j => if j = A.length then H.length else pos j) j = kidV pos j := fun j hj => by unfold kidV; simp only [hne j hj]
  refine ⟨fun j nd e => ?_, fun a b ha hb e => ?_, by simp, fun j nd e => ?_⟩
  · by_cases hj : j < A.length
    · rw [List.getElem?_append_left hj] at e
      obtain ⟨c0, c1⟩ := h.closed.2 j nd e
      show getH _ (if j = A.length then H.length else pos j) = _
      rw [hne j hj, getH_app (h.lt hj), h.here j nd e]
      unfold ndB
      rw [hkid _ c0, hkid _ c1]
    · rw [List.getElem?_append_right (by omega)] at e
      have hjl : j = A.length := by
        have := (List.getElem?_eq_some_iff.1 e).1
        simp at this; omega
      subst hjl
      simp at e
      subst e
      show getH _ (if A.length = A.length then H.length else pos A.length) = _
      rw [if_pos rfl, getH_new]
      unfold ndB tlC
      rw [if_neg hf]
      rfl
  · have e : (if a = A.length then H.length else pos a) = (if b = A.length then H.length else pos b) := e
    have hla : ∀ x, x < (A ++ [leaf]).length → x ≠ A.length → x < A.length := fun x hx h2 => by simp at hx; omega
    by_cases h1 : a = A.length <;> by_cases h2 : b = A.length
    · omega
    · rw [if_pos h1, if_neg h2] at e
      have := h.lt (hla b hb h2); omega
    · rw [if_neg h1, if_pos h2] at e
      have := h.lt (hla a ha h1); omega
    · rw [if_neg h1, if_neg h2] at e
      exact h.inj a b (hla a ha h1) (hla b hb h2) e
  · rw [List.length_append]
    by_cases hj : j < A.length
    · rw [List.getElem?_append_left hj] at e
      have := h.closed.2 j nd e
      simp; omega
    · rw [List.getElem?_append_right (by omega)] at e
      have : nd = leaf := by
        cases hx : j - A.length with
        | zero => rw [hx] at e; simp at e; exact e.symm
        | succ k => rw [hx] at e; simp at e
      subst this
      simp [leaf]
/-! ### The arena's blocks under the caller's numbers -/
def sgT (pos : Nat → Nat) (n : Nat) : List Nat := (List.range n).map pos
theorem sgT_length (pos : Nat → Nat) (n : Nat) : (sgT pos n).length = n := by unfold sgT; simp
theorem sgT_get (pos : Nat → Nat) {n j : Nat} (h : j < n) : sgOf (sgT pos n) j = pos j := by
  unfold sgOf sgT
  rw [List.getD_eq_getElem?_getD, List.getElem?_map, List.getElem?_range h]; rfl
theorem TreeAt.sgNodup {pos : Nat → Nat} {many : Int} {A : List Nd} {H : List (Option Blk)} (h : TreeAt pos many A H) : (sgT pos A.length).Nodup := by
  unfold sgT
  refine List.pairwise_iff_getElem.2 fun i j hi hj hij e => ?_
  simp only [List.length_map, List.length_range] at hi hj
  simp only [List.getElem_map, List.getElem_range] at e
  have := h.inj i j hi hj e
  omega
theorem TreeAt.sgLt {pos : Nat → Nat} {many : Int} {A : List Nd} {H : List (Option Blk)} (h : TreeAt pos many A H) : ∀ b ∈ sgT pos A.length, b < H.length := fun b hb => by
  unfold sgT at hb
  obtain ⟨j, hj, rfl⟩ := List.mem_map.1 hb
  exact h.lt (by simpa using hj)
theorem ndB_ren {σ pos : Nat → Nat} {many : Int} {j : Nat} {nd : Nd} (h0 : nd.k0 ≠ 0 → σ nd.k0 = pos nd.k0) (h1 : nd.k1 ≠ 0 → σ nd.k1 = pos nd.k1) : rens σ (ndB id many j nd).cs = (ndB pos many j nd).cs := by
  have hk : ∀ k, (k ≠ 0 → σ k = pos k) → (kidV id k).ren σ = kidV pos k := fun k h => by
    unfold kidV
    by_cases e : k = 0
    · rw [if_pos e, if_pos e]; rfl
    · rw [if_neg e, if_neg e]; show V.ptr (σ k) 0 = _; rw [h e]
  have ht : rens σ (tlC many j) = tlC many j := by
    unfold tlC
    split <;> rfl
  unfold ndB
  simp only [rens, hk _ h0, hk _ h1, ht]
  rfl
theorem ndB_lows {many : Int} {j n : Nat} {nd : Nd} (h0 : nd.k0 < n) (h1 : nd.k1 < n) : lows n (ndB id many j nd).cs := by
  have hk : ∀ k, k < n → (kidV id k).low n := fun k h => by
    unfold kidV
    split
    · trivial
    · exact h
  have ht : lows n (tlC many j) := by
    unfold tlC
    split
    · exact ⟨trivial, trivial⟩
    · trivial
  exact ⟨hk _ h0, hk _ h1, trivial, trivial, ht⟩
theorem blksOk_of {σ : Nat → Nat} {N : Nat} {s : St} : ∀ {l : List (Option Blk)} {i : Nat}, (∀ b B, getH l b = some B → getH s.H (σ (i + b)) = some ⟨B.ro, rens σ B.cs, B.mp⟩ ∧ lows N B.cs) → blksOk σ N s l i
  | [], _, _ => trivial
  | none :: l, i, h => blksOk_of (l := l) (i := i + 1) fun b B e => by
      have := h (b + 1) B (by simpa [getH] using e)
      rwa [show i + (b + 1) = i + 1 + b by omega] at this
  | some C :: l, i, h => ⟨h 0 C rfl, blksOk_of (l := l) (i := i + 1) fun b B e => by
      have := h (b + 1) B (by simpa [getH] using e)
      rwa [show i + (b + 1) = i + 1 + b by omega] at this⟩
theorem TreeAt.blks {pos : Nat → Nat} {many : Int} {A : List Nd} {s : St} (h : TreeAt pos many A s.H) : blksOk (sgOf (sgT pos A.length)) A.length s (treeB many A) 0 := by
  refine blksOk_of fun b B e => ?_
  rw [treeB_get] at e
  cases ha : A[b]? with
  | none => rw [ha] at e; cases e
  | some nd =>
    rw [ha] at e
    cases e
    have hb := (List.getElem?_eq_some_iff.1 ha).1
    obtain ⟨c0, c1⟩ := h.closed.2 b nd ha
    rw [Nat.zero_add, sgT_get pos hb, h.here b nd ha]
    refine ⟨?_, ndB_lows c0 c1⟩
    rw [ndB_ren (pos := pos) (fun _ => sgT_get pos c0) (fun _ => sgT_get pos c1)]
    rfl
theorem treeB_allSome (many : Int) (A : List Nd) : allSome (treeB many A) := by
  have : ∀ (l : List (Nd × Nat)), allSome (l.map fun p => some (ndB id many p.2 p.1)) := by
    intro l
    induction l with
    | nil => trivial
    | cons x l ih => exact ih
  exact this _
theorem treeB_allRw (many : Int) (A : List Nd) (k : Nat) : allRw ((treeB many A).drop k) := by
  have : ∀ (l : List (Nd × Nat)), allRw (l.map fun p => some (ndB id many p.2 p.1)) := by
    intro l
    induction l with
    | nil => trivial
    | cons x l ih => exact ⟨rfl, ih⟩
  unfold treeB
  rw [← List.map_drop]
  exact this _
/-- A function's end: the arena, its blocks wherever they lie; the first m of them where they lay. -/
theorem Fin.tree {m : Nat} {v' v : V} {pos : Nat → Nat} {many : Int} {A : List Nd} {s : St} (h : TreeAt pos many A s.H) (hm : m ≤ A.length) (hp : ∀ j, j < m → pos j = j) (hv : v'.ren (sgOf (sgT pos A.length)) = v ∧ v'.low A.length) : Fin m v' (treeB many A) v s := by
  refine Fin.ren (sgT pos A.length) (by rw [sgT_length, treeB_length]) (by rw [sgT_length]; exact hm) ?_ h.sgNodup (by rw [treeB_length]; exact hv) (by rw [treeB_length]; exact h.blks)
  unfold sgT
  refine List.ext_getElem? fun i => ?_
  rw [List.getElem?_take]
  by_cases hi : i < m
  · rw [if_pos hi, List.getElem?_map, List.getElem?_range (by omega), List.getElem?_range hi]
    simp [hp i hi]
  · rw [if_neg hi, List.getElem?_eq_none (by simp; omega)]
/-! ### A call over the arena -/
def posN (pos : Nat → Nat) (n L : Nat) (j : Nat) : Nat := if j < n then pos j else L + (j - n)
section
variable {pos : Nat → Nat} {many many' : Int} {A A' : List Nd} {H : List (Option Blk)}
def treeH (pos : Nat → Nat) (n : Nat) (H : List (Option Blk)) (h' : List (Option Blk)) : List (Option Blk) :=
  setOlds H (oldsOf (sgOf (sgNew (sgT pos n) H.length h')) (sgT pos n) h') ++ newsOf (sgOf (sgNew (sgT pos n) H.length h')) (sgT pos n) h'
theorem sgNew_get (hle : A.length ≤ A'.length) {j : Nat} (hj : j < A'.length) : sgOf (sgNew (sgT pos A.length) H.length (treeB many' A')) j = posN pos A.length H.length j := by
  unfold posN sgNew
  by_cases h : j < A.length
  · rw [if_pos h, sgOf_app_lt (by rw [sgT_length]; exact h), sgT_get pos h]
  · rw [if_neg h, sgOf_app_ge (by rw [sgT_length]; omega) (by rw [sgT_length, treeB_length]; omega), sgT_length]
theorem treeH_length (hle : A.length ≤ A'.length) : (treeH pos A.length H (treeB many' A')).length = H.length + (A'.length - A.length) := by
  unfold treeH
  rw [List.length_append, length_setOlds, newsOf_eq, List.length_map, List.length_drop, sgT_length, treeB_length]
theorem treeH_keep {b : Nat} (hb : b < H.length) (hn : ∀ j, j < A.length → pos j ≠ b) (h' : List (Option Blk)) : getH (treeH pos A.length H h') b = getH H b := by
  unfold treeH
  rw [getH_app (by rw [length_setOlds]; exact hb), get_setOlds _ _ _ hb, lookOld_out]
  intro hm
  unfold sgT at hm
  obtain ⟨j, hj, e⟩ := List.mem_map.1 hm
  exact hn j (by simpa using hj) e
theorem TreeAt.call (h : TreeAt pos many A H) (hc : Closed A') (hle : A.length ≤ A'.length) : TreeAt (posN pos A.length H.length) many' A' (treeH pos A.length H (treeB many' A')) := by
  have hcell : ∀ (j : Nat) nd, A'[j]? = some nd → renO (sgOf (sgNew (sgT pos A.length) H.length (treeB many' A'))) (some (ndB id many' j nd)) = some (ndB (posN pos A.length H.length) many' j nd) := fun j nd e => by
    obtain ⟨c0, c1⟩ := hc.2 j nd e
    unfold renO Blk.ren
    rw [Option.map_some, ndB_ren (pos := posN pos A.length H.length) (fun _ => sgNew_get hle c0) (fun _ => sgNew_get hle c1)]
    rfl
  refine ⟨fun j nd e => ?_, fun a b ha hb e => ?_, hc⟩
  · have hj := (List.getElem?_eq_some_iff.1 e).1
    have hg : (treeB many' A')[j]? = some (some (ndB id many' j nd)) := by
      unfold treeB
      rw [List.getElem?_map, List.getElem?_zipIdx, e]; simp
    unfold posN
    by_cases hjn : j < A.length
    · rw [if_pos hjn]
      have hl := h.lt hjn
      unfold treeH
      rw [getH_app (by rw [length_setOlds]; exact hl), get_setOlds _ _ _ hl, lookOld_in h.sgNodup (i := j) (by unfold sgT; rw [List.getElem?_map, List.getElem?_range hjn]; rfl) (by rw [treeB_length]; exact hj), hg]
      exact hcell j nd e
    · rw [if_neg hjn]
      unfold treeH getH
      rw [List.getElem?_append_right (by rw [length_setOlds]; omega), length_setOlds, newsOf_eq, List.getElem?_map, List.getElem?_drop, sgT_length, show A.length + (H.length + (j - A.length) - H.length) = j by omega, hg]
      exact hcell j nd e
  · unfold posN at e
    by_cases h1 : a < A.length <;> by_cases h2 : b < A.length
    · rw [if_pos h1, if_pos h2] at e; exact h.inj a b h1 h2 e
    · rw [if_pos h1, if_neg h2] at e; have := h.lt h1; omega
    · rw [if_neg h1, if_pos h2] at e; have := h.lt h2; omega
    · rw [if_neg h1, if_neg h2] at e; omega
end
section
variable {P : Program} {m n : Nat} {R : Exit → St → Prop} {k : List Fr} {s : St} {l : List Oper} {ops : Array Oper} {dst : Option Tmp}
variable {f : FuncId} {fs cs args args0 : List V} {v : V} {pos : Nat → Nat} {many many' : Int} {A A' : List Nd}
theorem call_tree (hs : Spec0 P f args0 (treeB many A) v (treeB many' A')) (hc : callable P f = true) (ht : TreeAt pos many A s.H) (hcl : Closed A') (hle : A.length ≤ A'.length)
    (ha : rens (sgOf (sgT pos A.length)) args0 = fs ++ args ++ cs) (hlow : lows A.length args0) : VCall P (.fn f fs cs) args (getH s.H) s.H.length (memRes (sgT pos A.length) s.H.length v (treeB many' A')) :=
  call_mem (sgT pos A.length) hs hc ha (by rw [sgT_length, treeB_length]) (by rw [treeB_length]; exact hlow) ht.sgNodup ht.sgLt (treeB_allSome many A) (by rw [treeB_length]; exact ht.blks) (treeB_allRw _ _ _) (by rw [treeB_length, treeB_length]; exact hle)
/-- A call over the arena: memory comes out as some H', of which the arena and all else are known. -/
theorem goCall_tree (v' : V) (hs : Spec0 P f args0 (treeB many A) v (treeB many' A')) (hc : callable P f = true) (ht : TreeAt pos many A s.H) (hcl : Closed A') (hle : A.length ≤ A'.length)
    (ha : rens (sgOf (sgT pos A.length)) args0 = fs ++ args ++ cs) (hlow : lows A.length args0) (hv : v.ren (sgOf (sgNew (sgT pos A.length) s.H.length (treeB many' A'))) = v')
    (hk : ∀ H', TreeAt (posN pos A.length s.H.length) many' A' H' → (∀ b, b < s.H.length → (∀ j, j < A.length → pos j ≠ b) → getH H' b = getH s.H b) → H'.length = s.H.length + (A'.length - A.length) →
      goOps P m n R l ops k ⟨putS s.t dst v', H'⟩) : goCall P m n R (.fn f fs cs) args dst l ops k s :=
  ⟨_, call_tree hs hc ht hcl hle ha hlow, by
    have := hk _ (ht.call (many' := many') hcl hle) (fun _ hb hn => treeH_keep hb hn _) (treeH_length hle)
    rw [← hv] at this
    exact this⟩
end
theorem putS_some (t : List (Nat × V)) (d : Nat) (v : V) : putS t (some d) v = (d, v) :: t := rfl
theorem putS_none (t : List (Nat × V)) (v : V) : putS t none v = t := rfl
attribute [go_sem] putS_some putS_none
end Go.Vm
end
