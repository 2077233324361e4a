/- A part of the proof: laws of a small machine of values, or what one function answers, proved against the model; no conditions beyond those in each theorem. -/
import Derived.Lib.OthersKept
import Derived.Test.YtdpeejgmfioglaaDoorVmTToVmW
import Derived.Test.YtdpeejgmfioglaaDoorTypesToTrA
set_option linter.unusedVariables false
set_option linter.unusedSimpArgs false
set_option linter.unusedSectionVars false
section
namespace Go.Vm
open Go Go.RowKit
/-- The iterator of the string S stands in the machine's block of b, at pos; no block that is written lies there; it is younger than w0. -/
structure Iter (S : ByteArray) (b : Nat) (w0 : World) (ρ : Nat → Nat × Nat) (s : St) (w : World) (pos : Nat) : Prop where
  lt : b < s.H.length
  zero : (ρ b).2 = 0
  young : w0.heap.size ≤ (ρ b).1
  here : w.heap[(ρ b).1]? = some (.stringIter S pos)
  own : ∀ b' B, getH s.H b' = some B → B.ro = false → (ρ b').1 ≠ (ρ b).1
theorem Iter.step {S : ByteArray} {b m : Nat} {w0 w w' : World} {ρ ρ' : Nat → Nat × Nat} {s s' : St} {pos : Nat} (h : Iter S b w0 ρ s w pos) (k : Step m ρ s w ρ' s' w') (hb : b < m) : Iter S b w0 ρ' s' w' pos := by
  obtain ⟨k1, k2, k3⟩ := k
  have e := k2 b hb
  have hlt : (ρ b).1 < w.heap.size := (Array.getElem?_eq_some_iff.1 h.here).1
  refine ⟨by omega, by rw [e]; exact h.zero, by rw [e]; exact h.young, ?_, ?_⟩
  · rw [e, k3.keep _ hlt (fun b' B h1 h2 => h.own b' B h1 h2)]; exact h.here
  · intro b' B hB hro
    rw [e]
    rcases k3.own b' B hB hro with ⟨b0, B0, g1, g2, g3⟩ | g
    · rw [← g3]; exact h.own b0 B0 g1 g2
    · omega
theorem iterAt_cell (w : World) (k : Nat) (S : ByteArray) (pos pos' : Nat) (h : w.heap[k]? = some (.stringIter S pos)) (a : Addr) : (w.iterAt k S pos').cell? a = w.cell? a := by
  unfold World.cell?
  by_cases e : a.block = k
  · rw [e, h, Lib.iterAt_heap w k S pos pos' h]
  · rw [Lib.iterAt_other w k _ S pos' e]
theorem iterAt_frozen (w : World) (k : Nat) (S : ByteArray) (pos pos' : Nat) (h : w.heap[k]? = some (.stringIter S pos)) (a : Addr) : (w.iterAt k S pos').frozen? a = w.frozen? a := by
  unfold World.frozen?
  by_cases e : a.block = k
  · rw [e, h, Lib.iterAt_heap w k S pos pos' h]
  · rw [Lib.iterAt_other w k _ S pos' e]
section
variable {P : Program} {n : Nat} {S : ByteArray} {b : Nat} {w0 w : World} {ρ : Nat → Nat × Nat} {s : St} {a : Act} {pos : Nat}
theorem lasts_iterAt (h : w.heap[b]? = some (.stringIter S pos)) (pos' : Nat) : Lasts w (w.iterAt b S pos') := fun p o hp => by
  rw [iterAt_cell w b S pos pos' h, iterAt_frozen w b S pos pos' h]; exact ⟨hp, id⟩
/-- The iterator has gone on: all that the state says holds still. -/
theorem RelSt.iterAt (hr : RelSt ρ n s a w) {k : Nat} (h : w.heap[k]? = some (.stringIter S pos)) (pos' : Nat) : RelSt ρ n s a (w.iterAt k S pos') :=
  ⟨hr.tmps.mono (fun _ _ => rfl) (fun _ h => h) (lasts_iterAt h pos'), hr.mem.has, fun b B hB => by rw [Lib.iterAt_size]; exact hr.mem.lt b B hB, hr.mem.inj,
    fun b B hB i v hv => by
      obtain ⟨r, g1, g2⟩ := hr.mem.cell b B hB i v hv
      exact ⟨r, by rw [iterAt_cell w k S pos pos' h]; exact g1, g2.mono (fun _ _ => rfl) (fun _ h => h) (lasts_iterAt h pos')⟩,
    fun b B hB ho i hi => by rw [iterAt_frozen w k S pos pos' h]; exact hr.mem.free b B hB ho i hi⟩
theorem Step.iterAt {m : Nat} {ρ0 : Nat → Nat × Nat} {s0 : St} (h : Step m ρ0 s0 w0 ρ s w) {k : Nat} (hk : w.heap[k]? = some (.stringIter S pos)) (hy : w0.heap.size ≤ k) (pos' : Nat) : Step m ρ0 s0 w0 ρ s (w.iterAt k S pos') :=
  ⟨h.1, h.2.1, h.2.2.os, h.2.2.output, h.2.2.tape, by rw [Lib.iterAt_size]; exact h.2.2.size,
    fun r hr hb => by rw [Lib.iterAt_other w k r S pos' (by omega)]; exact h.2.2.keep r hr hb,
    h.2.2.lasts.trans (lasts_iterAt hk pos'), h.2.2.own⟩
/-- What one 'next' answers. -/
def nextV (S : ByteArray) (pos : Nat) : V := if pos < S.size then .tup [.bool true, .i64 pos, .i32 ((bytesOf S).getD pos 0).toNat] else .tup [.bool false]
theorem bytesOf_getD (S : ByteArray) (pos : Nat) (h : pos < S.size) : ((bytesOf S).getD pos 0).toNat = (S[pos]'h).toNat := by
  have hl : pos < S.data.toList.length := by rw [Array.length_toList]; exact h
  unfold bytesOf
  rw [List.getD_eq_getElem?_getD, List.getElem?_map, List.getElem?_eq_getElem hl]
  rfl
theorem next_run (hi : Iter S b w0 ρ s w pos) (ha : ∀ p, (h : p < S.size) → (S[p]'h).toNat < 128) (ty : TypeId) :
    ∃ r w', (Instr.next (.pointer (some ⟨(ρ b).1, 0, none⟩)) true ty).run P w = .ok r w' ∧ VR ρ (· < s.H.length) w' (nextV S pos) r ∧ (w' = w.iterAt (ρ b).1 S (if pos < S.size then pos + 1 else pos) ∨ (w' = w ∧ ¬ pos < S.size)) := by
  unfold nextV
  by_cases hp : pos < S.size
  · refine ⟨_, _, Lib.run_next_ascii_at w _ S pos ty hi.here hp (ha pos hp), ?_, .inl (by rw [if_pos hp])⟩
    rw [if_pos hp, bytesOf_getD S pos hp]
    unfold VR
    refine ⟨_, rfl, ?_⟩
    unfold VRs
    refine ⟨_, _, rfl, by unfold VR; rfl, ?_⟩
    unfold VRs
    refine ⟨_, _, rfl, by unfold VR; rfl, ?_⟩
    unfold VRs
    refine ⟨_, _, rfl, by unfold VR; rfl, ?_⟩
    unfold VRs; rfl
  · refine ⟨_, _, Lib.run_next_end_at w _ S pos ty hi.here hp, ?_, .inr ⟨rfl, hp⟩⟩
    rw [if_neg hp]
    unfold VR
    refine ⟨_, rfl, ?_⟩
    unfold VRs
    refine ⟨_, _, rfl, by unfold VR; rfl, ?_⟩
    unfold VRs; rfl
/-- A region that begins with 'next'. -/
theorem next_sound {m0 : Nat} {ρ0 : Nat → Nat × Nat} {s0 : St} {id : Nat} {o : Oper} {os : List Oper} {ops : Array Oper} {tit tn : Tmp} {K : St → Prop} {Q : Exit → Act → World → Prop}
    (hops : ops.toList = o :: os) (ho : o.op = .next (.tmp tit) true) (hg : o.guard = none) (hd : o.dst = some tn) (htn : tn < n) (ht : s.get tit = .ptr b 0)
    (hr : RelSt ρ n s a w) (hi : Iter S b w0 ρ s w pos) (ha : ∀ p, (h : p < S.size) → (S[p]'h).toNat < 128) (hs : Step m0 ρ0 s0 w0 ρ s w) (hm : b < m0 ∨ b + 1 ≤ s.H.length)
    (hk : vops P n ops os (s.put (some tn) (nextV S pos)) K)
    (hq : ∀ a' w' s' ρ', K s' → RelSt ρ' n s' a' w' → Step m0 ρ0 s0 w0 ρ' s' w' → Iter S b w0 ρ' s' w' (if pos < S.size then pos + 1 else pos) → Q .normal a' w') : (Code.region id ops false).wp P Q a w := by
  refine wp_region ?_
  have hsz : ops.size = os.length + 1 := by rw [← Array.length_toList, hops]; rfl
  rw [hsz, List.range_succ_eq_map]
  have h0 : ops[0]? = some o := by rw [← Array.getElem?_toList, hops]; rfl
  have hv := hr.tmps.slot tit
  rw [show s.get tit = .ptr b 0 from ht] at hv
  unfold VR at hv
  obtain ⟨hb, hv⟩ := hv
  rw [hi.zero, Nat.zero_add] at hv
  have hwant : Region.wanted o (yielded ops a.tmps) = true := by unfold Region.wanted; rw [hg]
  obtain ⟨r, w', hrun, hvr, hw⟩ := next_run (P := P) hi ha o.type
  simp only [wpOps, h0, hwant, if_true]
  refine .inl ?_
  have hex : (execOp a.eval o).run P w = .ok (.value r) w' := by
    unfold execOp
    rw [ho]
    simp only [Act.eval, hv, Sem.run_bind, hrun, Result.andThen_ok, Sem.run_pure]
  unfold Oper.wp
  rw [hex, Oper.upon_value, hd]
  have hfin : RelSt ρ n (s.put (some tn) (nextV S pos)) (a.put (some tn) r) w' ∧ Step m0 ρ0 s0 w0 ρ (s.put (some tn) (nextV S pos)) w' ∧ Iter S b w0 ρ (s.put (some tn) (nextV S pos)) w' (if pos < S.size then pos + 1 else pos) := by
    rcases hw with rfl | ⟨rfl, hp⟩
    · have h1 := hr.iterAt hi.here (if pos < S.size then pos + 1 else pos)
      exact ⟨⟨RelT.put h1.tmps (show dstOk n (some tn) from htn) hvr, h1.mem⟩, hs.iterAt hi.here hi.young _, hi.lt, hi.zero, hi.young, Lib.iterAt_heap w _ S pos _ hi.here, hi.own⟩
    · rw [if_neg hp]
      exact ⟨⟨RelT.put hr.tmps (show dstOk n (some tn) from htn) hvr, hr.mem⟩, hs, hi.lt, hi.zero, hi.young, hi.here, hi.own⟩
  obtain ⟨f1, f2, f3⟩ := hfin
  have hlen : b + 1 ≤ (s.put (some tn) (nextV S pos)).H.length := hi.lt
  refine vops_sound (m := max m0 (b + 1)) (List.map Nat.succ (List.range os.length)) os _ K ?_ hk ρ _ w' f1 (by have := f2.1; omega) ?_
  · refine List.ext_getElem? fun i => ?_
    simp only [List.getElem?_map]
    by_cases hi2 : i < os.length
    · have : ops[i + 1]? = os[i]? := by rw [← Array.getElem?_toList, hops]; rfl
      simp [List.getElem?_range hi2, hi2, this]
    · rw [List.getElem?_eq_none (by simp; omega), List.getElem?_eq_none (by omega)]; rfl
  · rintro a' w'' ⟨s', ρ', q1, q2, q3⟩
    have q4 : Step m0 ρ (s.put (some tn) (nextV S pos)) w' ρ' s' w'' := ⟨by have := q3.1; omega, fun x hx => q3.2.1 x (by omega), q3.2.2⟩
    exact hq a' w'' s' ρ' q1 q2 (f2.trans q4) (f3.step q3 (by omega))
end
end Go.Vm
end
section
namespace Go.Vm
open Go Go.RowKit
section
variable {P : Program} {m n : Nat}
/-- What is to be shown of a piece of code, told in the machine's words. -/
def GS (P : Program) (m n : Nat) (c : Code) (Q : Exit → St → Prop) (s : St) : Prop :=
  ∀ (ρ : Nat → Nat × Nat) (a : Act) (w : World), RelSt ρ n s a w → m ≤ s.H.length → c.wp P (LiftE m n ρ s w Q) a w
theorem gs_of_vc (hmix : P.follows .mixedOrders = true) {c : Code} {Q : Exit → St → Prop} {s : St} (h : vc P m n c Q s) : GS P m n c Q s := fun ρ a w hr hm => vc_sound hmix c Q s h ρ a w hr hm
theorem gs_seq {x y : Code} {K : St → Prop} {Q : Exit → St → Prop} {s : St} (hx : GS P m n x (seqQ K Q) s) (hy : ∀ s', K s' → GS P m n y Q s') : GS P m n (.seq x y) Q s := fun ρ a w hr hm => by
  refine wp_seq (wp_mono (hx ρ a w hr hm) ?_)
  rintro e a' w' ⟨s', ρ', q1, q2, q3⟩
  cases e
  case normal => exact wp_mono (hy s' q1 ρ' a' w' q2 q3.1) fun e a'' w'' ⟨s'', ρ'', r1, r2, r3⟩ => ⟨s'', ρ'', r1, r2, q3.trans r3⟩
  all_goals exact ⟨s', ρ', q1, q2, q3⟩
theorem iter_start {ρ : Nat → Nat × Nat} {s : St} {a : Act} {w : World} {tit : Tmp} (hr : RelSt ρ n s a w) (hm : m ≤ s.H.length) (ht : tit < n) (S : ByteArray) :
    let ρ1 := fun k => if k = s.H.length then (w.heap.size, 0) else ρ k
    let s1 : St := ⟨putS s.t (some tit) (.ptr s.H.length 0), s.H ++ [none]⟩
    RelSt ρ1 n s1 (a.put (some tit) (.pointer (some ⟨w.heap.size, 0, none⟩))) (w.iter S 0) ∧ Step m ρ s w ρ1 s1 (w.iter S 0) ∧ Iter S s.H.length w ρ1 s1 (w.iter S 0) 0 := by
  intro ρ1 s1
  have hlen : s1.H.length = s.H.length + 1 := by simp [s1]
  have hget : ∀ b B, getH s1.H b = some B → getH s.H b = some B ∧ b < s.H.length := fun b B hB => by
    have hB : ((s.H ++ [none])[b]?).join = some B := hB
    by_cases hb : b < s.H.length
    · rw [List.getElem?_append_left hb] at hB; exact ⟨hB, hb⟩
    · rw [List.getElem?_append_right (by omega)] at hB
      by_cases hb2 : b - s.H.length = 0
      · rw [hb2] at hB; simp at hB
      · rw [List.getElem?_eq_none (by simp; omega)] at hB; simp at hB
  have hρ : ∀ b, b < s.H.length → ρ1 b = ρ b := fun b hb => if_neg (by omega)
  have hlast : Lasts w (w.iter S 0) := lasts_alloc w _
  have hold : ∀ r, r < w.heap.size → (w.iter S 0).heap[r]? = w.heap[r]? := fun r h => Lib.alloc_old w _ r h
  have hsize : (w.iter S 0).heap.size = w.heap.size + 1 := Array.size_push ..
  have hcell : ∀ b B, getH s.H b = some B → ∀ i, (w.iter S 0).cell? ⟨(ρ b).1, i, none⟩ = w.cell? ⟨(ρ b).1, i, none⟩ := fun b B hB i => World.cell?_of_block (hold _ (hr.mem.lt b B hB))
  have hfroz : ∀ b B, getH s.H b = some B → ∀ i, (w.iter S 0).frozen? ⟨(ρ b).1, i, none⟩ = w.frozen? ⟨(ρ b).1, i, none⟩ := fun b B hB i => World.frozen?_of_block (hold _ (hr.mem.lt b B hB))
  have hdom : ∀ b, b < s.H.length → b < s1.H.length := fun b hb => by omega
  refine ⟨⟨?_, ?_⟩, ⟨by omega, fun b hb => hρ b (by omega), ?_⟩, ?_⟩
  · refine RelT.put (hr.tmps.mono hρ hdom hlast) (show dstOk n (some tit) from ht) ?_
    unfold VR
    refine ⟨by omega, ?_⟩
    show _ = Value.pointer (some ⟨(ρ1 s.H.length).1, (ρ1 s.H.length).2 + 0, none⟩)
    have e : ρ1 s.H.length = (w.heap.size, 0) := if_pos rfl
    rw [e]
  · refine ⟨fun b B hB => hdom b (hget b B hB).2, fun b B hB => ?_, fun b b' B B' hB hB' hro hne => ?_, fun b B hB i v hv => ?_, fun b B hB ho i hi => ?_⟩
    · obtain ⟨h1, h2⟩ := hget b B hB
      rw [hρ b h2, hsize]
      have := hr.mem.lt b B h1
      omega
    · obtain ⟨h1, h2⟩ := hget b B hB
      obtain ⟨h3, h4⟩ := hget b' B' hB'
      rw [hρ b h2, hρ b' h4]
      exact hr.mem.inj b b' B B' h1 h3 hro hne
    · obtain ⟨h1, h2⟩ := hget b B hB
      obtain ⟨r, g1, g2⟩ := hr.mem.cell b B h1 i v hv
      exact ⟨r, by rw [hρ b h2, hcell b B h1]; exact g1, g2.mono hρ hdom hlast⟩
    · obtain ⟨h1, h2⟩ := hget b B hB
      rw [hρ b h2, hfroz b B h1]
      exact hr.mem.free b B h1 ho i hi
  · refine ⟨rfl, rfl, rfl, by omega, fun r hr2 _ => hold r hr2, hlast, fun b B hB ho => ?_⟩
    obtain ⟨h1, h2⟩ := hget b B hB
    exact .inl ⟨b, B, h1, ho, by rw [hρ b h2]⟩
  · have e : ρ1 s.H.length = (w.heap.size, 0) := if_pos rfl
    refine ⟨by omega, by rw [e], by rw [e]; exact Nat.le_refl _, by rw [e]; exact World.iter_heap w S 0, fun b B hB ho => ?_⟩
    obtain ⟨h1, h2⟩ := hget b B hB
    rw [e, hρ b h2]
    have := hr.mem.lt b B h1
    show (ρ b).1 ≠ w.heap.size
    omega
/-- A loop over a string: J tells of the state ahead of each round; no byte is 128 or above; each round ends as usual. -/
theorem gs_range (hmix : P.follows .mixedOrders = true) {rid r3 bid : Nat} {o1 o2 o3 o4 : Oper} {tz tit tn tok : Tmp} {x : Operand} {ty : TypeId} {body : Code} {s : St} {bs : List (BitVec 8)} {K : St → Prop} {Q : Exit → St → Prop} (J : Nat → St)
    (h1 : o1.op = .move x) (g1 : o1.guard = none) (d1 : o1.dst = some tz) (z1 : tz < n)
    (h2 : o2.op = .range ty (.tmp tz)) (g2 : o2.guard = none) (d2 : o2.dst = some tit) (z2 : tit < n) (hty : P.underlying ty = some .string)
    (h3 : o3.op = .next (.tmp tit) true) (g3 : o3.guard = none) (d3 : o3.dst = some tn) (z3 : tn < n)
    (hx : s.ev x = .str bs) (hb : ∀ c ∈ bs, c.toNat < 128)
    (hJ0 : Weak (max m (s.H.length + 1)) n ⟨putS (putS s.t (some tz) (.str bs)) (some tit) (.ptr s.H.length 0), s.H ++ [none]⟩ (J 0))
    (hJt : ∀ i, (J i).get tit = .ptr s.H.length 0)
    (hreg : ∀ i, i ≤ bs.length → vops P n #[o3, o4] [o4] ((J i).put (some tn) (if i < bs.length then .tup [.bool true, .i64 i, .i32 ((bs.getD i 0).toNat : Nat)] else .tup [.bool false])) fun s' => s'.get tok = .bool (decide (i < bs.length)) ∧
      (if i < bs.length then vc P (max m (s.H.length + 1)) n body (fun e s'' => e = .normal ∧ Weak (max m (s.H.length + 1)) n s'' (J (i + 1))) s' else K s')) :
    GS P m n (.seq (.region rid #[o1, o2] false) (.block bid (.loop (.seq (.region r3 #[o3, o4] false) (.seq (.cond (.tmp tok) .skip (.exit bid)) body))))) (seqQ K Q) s := by
  intro ρ a w hr hm
  have hxv := hr.tmps.eval x
  rw [hx] at hxv
  unfold VR at hxv
  obtain ⟨S, hS, hbs⟩ := hxv
  have hsz : S.size = bs.length := by rw [← hbs, bytesOf_length]
  have ha : ∀ p, (h : p < S.size) → (S[p]'h).toNat < 128 := fun p h => by
    rw [← bytesOf_getD S p h, hbs]
    refine hb _ ?_
    rw [List.getD_eq_getElem?_getD, List.getElem?_eq_getElem (by omega : p < bs.length)]
    exact List.getElem_mem _
  have hnv : ∀ i, nextV S i = (if i < bs.length then .tup [.bool true, .i64 i, .i32 ((bs.getD i 0).toNat : Nat)] else .tup [.bool false]) := fun i => by
    unfold nextV; rw [hsz, hbs]
  -- the two operations ahead
  refine wp_seq (wp_region ?_)
  have k1 : (execOp a.eval o1).run P w = .ok (.value (.string S)) w := by
    unfold execOp
    rw [h1]
    simp only [hS, Sem.run_bind, Result.andThen_ok, Sem.run_pure]
  have w1 : Region.wanted o1 (yielded #[o1, o2] a.tmps) = true := by unfold Region.wanted; rw [g1]
  show wpOps P #[o1, o2] _ [0, 1] a w
  simp only [wpOps, List.getElem?_toArray, List.getElem?_cons_zero, w1, if_true]
  refine .inl ?_
  unfold Oper.wp
  rw [k1, Oper.upon_value, d1]
  have hr1 : RelSt ρ n (s.put (some tz) (.str bs)) (a.put (some tz) (.string S)) w := ⟨RelT.put hr.tmps (show dstOk n (some tz) from z1) (by unfold VR; exact ⟨S, rfl, hbs⟩), hr.mem⟩
  have hzv := hr1.tmps.slot tz
  have w2 : Region.wanted o2 (yielded #[o1, o2] (a.put (some tz) (.string S)).tmps) = true := by unfold Region.wanted; rw [g2]
  have hz : (a.put (some tz) (.string S)).tmps.getD tz undef = .string S := by
    rw [put_tmps a tz _ tz (by rw [hr.tmps.size]; exact z1), if_pos rfl]
  have k2 : (execOp (a.put (some tz) (.string S)).eval o2).run P w = .ok (.value (.pointer (some ⟨w.heap.size, 0, none⟩))) (w.iter S 0) := by
    unfold execOp
    rw [h2]
    simp only [Act.eval, hz, Sem.run_bind, run_range_string w ty S hty, Result.andThen_ok, Sem.run_pure]
  simp only [List.getElem?_cons_succ, List.getElem?_cons_zero, w2, if_true]
  refine .inl ?_
  rw [k2, Oper.upon_value, d2]
  obtain ⟨i1, i2, i3⟩ := iter_start (m := m) (tit := tit) hr1 hm z2 S
  have hst0 : Step m ρ s w ρ (s.put (some tz) (.str bs)) w := ⟨hm, fun _ _ => rfl, Frame.refl _ _ _⟩
  have i2 := hst0.trans i2
  have hlen : (s.put (some tz) (.str bs)).H.length = s.H.length := rfl
  simp only [hlen] at i1 i2 i3
  obtain ⟨ρ2, j1, j2⟩ := hJ0 _ _ _ i1 (by simp; omega)
  have i4 := i3.step j2 (by omega)
  have j3 : Step m ρ s w ρ2 (J 0) (w.iter S 0) := i2.trans ⟨by have := j2.1; omega, fun x hx => j2.2.1 x (by omega), j2.2.2⟩
  have j4 : max m (s.H.length + 1) ≤ (J 0).H.length := j2.1
  -- the loop
  refine wp_block ?_
  refine wp_loop_ix (fun k a1 w1 => ∃ i ρ1, i + k = bs.length ∧ RelSt ρ1 n (J i) a1 w1 ∧ Step m ρ s w ρ1 (J i) w1 ∧ Iter S s.H.length w ρ1 (J i) w1 i ∧ max m (s.H.length + 1) ≤ (J i).H.length) (k0 := bs.length) ⟨0, ρ2, by omega, j1, j3, i4, j4⟩ ?_
  rintro k a1 w1 ⟨i, ρ1, hik, r1, r2, r3, r4⟩
  have hvo := hreg i (by omega)
  rw [← hnv i] at hvo
  refine wp_seq (next_sound (m0 := m) (ρ0 := ρ) (s0 := s) (K := fun s' => s'.get tok = .bool (decide (i < bs.length)) ∧
      (if i < bs.length then vc P (max m (s.H.length + 1)) n body (fun e s'' => e = .normal ∧ Weak (max m (s.H.length + 1)) n s'' (J (i + 1))) s' else K s')) rfl h3 g3 d3 z3 (hJt i) r1 r3 ha r2 (.inr (by omega)) hvo ?_)
  rintro a2 w2' s2 ρ3 ⟨q0, q1⟩ q2 q3 q4
  have hev := q2.tmps.slot tok
  rw [show s2.get tok = .bool (decide (i < bs.length)) from q0] at hev
  unfold VR at hev
  show Code.wp P _ _ a2 w2'
  refine wp_seq (wp_cond_split hev ?_ ?_)
  · intro hT
    have hi : i < bs.length := of_decide_eq_true hT
    rw [if_pos hi] at q1
    rw [if_pos (by omega : i < S.size)] at q4
    refine wp_skip ?_
    show Code.wp P _ _ a2 w2'
    have hml : max m (s.H.length + 1) ≤ s2.H.length := by
      have h1 := q3.1
      have h2 := q4.lt
      omega
    refine wp_mono (vc_sound hmix body _ s2 q1 ρ3 a2 w2' q2 hml) ?_
    rintro e a3 w3 ⟨s3, ρ4, ⟨rfl, t1⟩, t2, t3⟩
    obtain ⟨ρ5, u1, u2⟩ := t1 ρ4 a3 w3 t2 t3.1
    have t4 := t3.trans u2
    refine ⟨k - 1, by omega, i + 1, ρ5, by omega, u1, q3.trans ⟨by have := t4.1; omega, fun x hx => t4.2.1 x (by omega), t4.2.2⟩, q4.step t4 (by omega), t4.1⟩
  · intro hF
    have hi : ¬ i < bs.length := of_decide_eq_false hF
    rw [if_neg hi] at q1
    refine wp_exit ?_
    show Exit.inBlock bid (LiftE m n ρ s w (seqQ K Q)) (.exit bid) a2 w2'
    simp only [Exit.inBlock, if_true]
    exact ⟨s2, ρ3, q1, q2, q3⟩
theorem gs_block {id : Nat} {c : Code} {Q : Exit → St → Prop} {s : St} (h : GS P m n c (blockQ id Q) s) : GS P m n (.block id c) Q s := fun ρ a w hr hm => by
  refine wp_block (wp_mono (h ρ a w hr hm) ?_)
  rintro e a' w' ⟨s', ρ', q1, q2, q3⟩
  cases e
  case exit i =>
    simp only [blockQ] at q1
    simp only [Exit.inBlock]
    split at q1
    · rename_i e; rw [if_pos e]; exact ⟨s', ρ', q1, q2, q3⟩
    · rename_i e; rw [if_neg e]; exact ⟨s', ρ', q1, q2, q3⟩
  all_goals exact ⟨s', ρ', q1, q2, q3⟩
end
theorem gs_weak {P : Program} {m n : Nat} {c : Code} {Q : Exit → St → Prop} {s s1 : St} (h : GS P m n c Q s1) (hw : Weak m n s s1) : GS P m n c Q s := fun ρ a w hr hm => by
  obtain ⟨ρ1, h1, h2⟩ := hw ρ a w hr hm
  refine wp_mono (h ρ1 a w h1 h2.1) ?_
  rintro e a' w' ⟨s', ρ', q1, q2, q3⟩
  exact ⟨s', ρ', q1, q2, h2.trans q3⟩
theorem vops_go {P : Program} {n : Nat} {ops : Array Oper} {l : List Oper} {s : St} {K : St → Prop} (h : goOps P 0 n (fun _ s => K s) l ops [] s) : vops P n ops l s K := h
/-- A pure function out of its code, told in the machine's words. -/
theorem spec0_of_gs {P : Program} {f : FuncId} {fn : Func} {c : Code} {args : List V} {h h' : List (Option Blk)} {v : V} (hf : P.funcs[f]? = some fn) (hb : fn.body = some c) (hn : args.length ≤ fn.ntmps)
    (hv : GS P h.length fn.ntmps c (retQ P fn (Fin h.length v h')) ⟨argsT args 0, h⟩) : Spec0 P f args h v h' := by
  intro ρ w rargs ha hm
  have hal := ha.length
  refine calls_of_wp hf hb (wp_mono (hv ρ _ w ⟨⟨?_, rfl, fun t => ?_⟩, hm⟩ (Nat.le_refl _)) ?_)
  · have : rargs.size = args.length := by simpa using hal
    simp; omega
  · show VR _ _ _ (lookS (argsT args 0) t) _
    rw [look_args]
    split
    · rename_i ht
      obtain ⟨r, g1, g2⟩ := ha.get (i := t) (v := args.getD t .junk) (by rw [List.getD_eq_getElem?_getD, List.getElem?_eq_getElem (by omega)]; rfl)
      have hlt : t < rargs.size := by simpa using (List.getElem?_eq_some_iff.1 g1).1
      simp only [Nat.sub_zero]
      have : (rargs ++ Array.replicate (fn.ntmps - rargs.size) undef).getD t undef = r := by
        rw [Array.getD_eq_getD_getElem?, Array.getElem?_append_left hlt]
        have : rargs[t]? = some r := by rw [← g1]; simp
        rw [this]; rfl
      rw [this]; exact g2
    · unfold VR; trivial
  · rintro e a' w' ⟨s', ρ', q1, q2, q3⟩
    have fin : (vresults P s' fn.results.toList fun l => Fin h.length v h' (vtuple l) s') → ∃ r, (results fn a'.tmps).run P w' = .ok r w' ∧ (∃ r' ρ', Ending.returned r = .returned r' ∧ VR ρ' (· < h'.length) w' v r' ∧ MemRel ρ' (· < h'.length) (getH h') w' ∧ h.length ≤ h'.length ∧ (∀ b, b < h.length → ρ' b = ρ b) ∧ Frame ρ (getH h) w ρ' (getH h') w') := fun q => by
      obtain ⟨v1, r, g1, g2, g3⟩ := results_sound q2 q
      obtain ⟨ρ2, k1, k2, k3, k4⟩ := g1.2 ρ' w' r g2 q2.mem q3.1
      exact ⟨r, g3, r, ρ2, rfl, k1, k2, g1.1, fun b hb => (k3 b hb).trans (q3.2.1 b hb), q3.2.2.less k4⟩
    cases e
    case normal => exact ⟨q2.tmps.defers, fin q1⟩
    case ret => exact ⟨q2.tmps.defers, fin q1⟩
    all_goals exact q1.elim
theorem pure_of_gs {P : Program} {f : FuncId} {fn : Func} {c : Code} {args : List V} {v : V} (hc : callable P f = true) (hf : P.funcs[f]? = some fn) (hb : fn.body = some c) (hn : args.length ≤ fn.ntmps) (ha : lows 0 args)
    (hv : GS P 0 fn.ntmps c (retQ P fn (Fin 0 v [])) ⟨argsT args 0, []⟩) : PureFn P f args v := pure_of_spec0 hc ha (spec0_of_gs hf hb hn hv)
end Go.Vm
end
section
namespace Go.Vm
open Go Go.RowKit
section
variable {P : Program} {m n : Nat}
theorem gs_loop {c : Code} {Q : Exit → St → Prop} {s : St} (I : Nat → St → Prop) {k0 : Nat} (h0 : I k0 s) (hr : ∀ k s, I k s → GS P m n c (seqQ (again m n I k) Q) s) : GS P m n (.loop c) Q s := fun ρ a w hr0 hm => by
  refine wp_loop_ix (fun k a1 w1 => ∃ s1 ρ1, I k s1 ∧ RelSt ρ1 n s1 a1 w1 ∧ Step m ρ s w ρ1 s1 w1) (k0 := k0) ⟨s, ρ, h0, hr0, Step.refl hm⟩ ?_
  rintro k a1 w1 ⟨s1, ρ1, i1, i2, i3⟩
  refine wp_mono (hr k s1 i1 ρ1 a1 w1 i2 i3.1) ?_
  rintro z a' w' ⟨s', ρ', q1, q2, q3⟩
  cases z
  case normal =>
    obtain ⟨k', s'', hk, hw, hi⟩ := q1
    obtain ⟨ρ'', t1, t2⟩ := hw ρ' a' w' q2 q3.1
    exact ⟨k', hk, s'', ρ'', hi, t1, (i3.trans q3).trans t2⟩
  all_goals exact ⟨s', ρ', q1, q2, i3.trans q3⟩
/-- The first operations of a region, none of them guarded. -/
theorem vops_pre {m : Nat} {ops : Array Oper} {Q : Exit → Act → World → Prop} {l2 : List Nat} {ρ : Nat → Nat × Nat} {a : Act} {w : World} : ∀ (l : List Nat) (os : List Oper) (s : St) (K : St → Prop), l.map (ops[·]?) = os.map some → (∀ o ∈ os, o.guard = none) → vops P n ops os s K → ∀ (ρ : Nat → Nat × Nat) (a : Act) (w : World), RelSt ρ n s a w → m ≤ s.H.length →
    (∀ a' w', Lift m n ρ s w K a' w' → wpOps P ops Q l2 a' w') → wpOps P ops Q (l ++ l2) a w
  | [], [], s, K, _, _, h, ρ, a, w, hr, hm, hq => hq a w ⟨s, ρ, h, hr, Step.refl hm⟩
  | [], _ :: _, _, _, hl, _, _, _, _, _, _, _, _ => by simp at hl
  | _ :: _, [], _, _, hl, _, _, _, _, _, _, _, _ => by simp at hl
  | i :: l, o :: os, s, K, hl, hg0, h, ρ, a, w, hr, hm, hq => by
    simp only [List.map_cons, List.cons.injEq] at hl
    obtain ⟨ho, hl⟩ := hl
    obtain ⟨hd, h⟩ := h
    have hg := hg0 o (by simp)
    rw [hg] at h
    have hw : Region.wanted o (yielded ops a.tmps) = true := by unfold Region.wanted; rw [hg]
    obtain ⟨res, h1, h2⟩ := vexec_sound h
    simp only [List.cons_append, wpOps, ho, hw, if_true]
    refine .inl (h1 ρ (· < s.H.length) (getH s.H) w a _ Q (fun x _ => hr.tmps.eval x) hr.mem (fun _ _ => rfl) (fun b hb1 hb2 (hb3 : b < s.H.length) => by omega) ?_)
    intro ρ' w' r g1 g2 g3 g4
    obtain ⟨k1, k2⟩ := after_rel (m := m) hr hm hd g1 g2 g3 g4
    refine vops_pre (a := a) (w := w) (ρ := ρ) l os _ K hl (fun o ho => hg0 o (by simp [ho])) h2 ρ' _ w' k1 k2.1 fun a' w'' ⟨s', ρ'', q1, q2, q3⟩ => hq a' w'' ⟨s', ρ'', q1, q2, k2.trans q3⟩
/-- A loop over a string that the region's first operations make: J tells of the state ahead of each round; no byte is 128 or above; each round ends as usual. -/
theorem gs_range2 (hmix : P.follows .mixedOrders = true) {rid r3 bid : Nat} {ops : Array Oper} {pre : List Oper} {o2 o3 o4 : Oper} {tz tit tn tok : Tmp} {ty : TypeId} {body : Code} {s S1 : St} {bs : List (BitVec 8)} {K : St → Prop} {Q : Exit → St → Prop} (J : Nat → St)
    (hops : ops = (pre ++ [o2]).toArray) (hgp : ∀ o ∈ pre, o.guard = none) (hp : vops P n ops pre s (fun s1 => s1 = S1)) (ht : S1.get tz = .str bs)
    (h2 : o2.op = .range ty (.tmp tz)) (g2 : o2.guard = none) (d2 : o2.dst = some tit) (z2 : tit < n) (hty : P.underlying ty = some .string)
    (h3 : o3.op = .next (.tmp tit) true) (g3 : o3.guard = none) (d3 : o3.dst = some tn) (z3 : tn < n)
    (hb : ∀ c ∈ bs, c.toNat < 128)
    (hJ0 : Weak (max m (S1.H.length + 1)) n ⟨putS S1.t (some tit) (.ptr S1.H.length 0), S1.H ++ [none]⟩ (J 0))
    (hJt : ∀ i, (J i).get tit = .ptr S1.H.length 0)
    (hreg : ∀ i, i ≤ bs.length → vops P n #[o3, o4] [o4] ((J i).put (some tn) (if i < bs.length then .tup [.bool true, .i64 i, .i32 ((bs.getD i 0).toNat : Nat)] else .tup [.bool false])) fun s' => s'.get tok = .bool (decide (i < bs.length)) ∧
      (if i < bs.length then vc P (max m (S1.H.length + 1)) n body (fun e s'' => e = .normal ∧ Weak (max m (S1.H.length + 1)) n s'' (J (i + 1))) s' else K s')) :
    GS P m n (.seq (.region rid ops false) (.block bid (.loop (.seq (.region r3 #[o3, o4] false) (.seq (.cond (.tmp tok) .skip (.exit bid)) body))))) (seqQ K Q) s := by
  intro ρ a w hr hm
  refine wp_seq (wp_region ?_)
  have hsz : ops.size = pre.length + 1 := by rw [hops]; simp
  rw [hsz, List.range_succ]
  refine vops_pre (m := m) (a := a) (w := w) (ρ := ρ) (List.range pre.length) pre s (fun s1 => s1 = S1) ?_ hgp hp ρ a w hr hm ?_
  · refine List.ext_getElem? fun i => ?_
    simp only [List.getElem?_map]
    by_cases hi : i < pre.length
    · have : ops[i]? = pre[i]? := by rw [hops]; simp [List.getElem?_append_left hi]
      simp [List.getElem?_range hi, hi, this]
    · rw [List.getElem?_eq_none (by simp; omega), List.getElem?_eq_none (by omega)]; rfl
  rintro a1 w1 ⟨s1, ρ1, rfl, hr1, hst0⟩
  have hxv := hr1.tmps.slot tz
  rw [ht] at hxv
  unfold VR at hxv
  obtain ⟨S, hz, hbs⟩ := hxv
  have hsz2 : S.size = bs.length := by rw [← hbs, bytesOf_length]
  have ha : ∀ p, (h : p < S.size) → (S[p]'h).toNat < 128 := fun p h => by
    rw [← bytesOf_getD S p h, hbs]
    refine hb _ ?_
    rw [List.getD_eq_getElem?_getD, List.getElem?_eq_getElem (by omega : p < bs.length)]
    exact List.getElem_mem _
  have hnv : ∀ i, nextV S i = (if i < bs.length then .tup [.bool true, .i64 i, .i32 ((bs.getD i 0).toNat : Nat)] else .tup [.bool false]) := fun i => by
    unfold nextV; rw [hsz2, hbs]
  have ho2 : ops[pre.length]? = some o2 := by rw [hops]; simp
  have w2 : Region.wanted o2 (yielded ops a1.tmps) = true := by unfold Region.wanted; rw [g2]
  have k2 : (execOp a1.eval o2).run P w1 = .ok (.value (.pointer (some ⟨w1.heap.size, 0, none⟩))) (w1.iter S 0) := by
    unfold execOp
    rw [h2]
    simp only [Act.eval, hz, Sem.run_bind, run_range_string w1 ty S hty, Result.andThen_ok, Sem.run_pure]
  simp only [wpOps, ho2, w2, if_true]
  refine .inl ?_
  unfold Oper.wp
  rw [k2, Oper.upon_value, d2]
  obtain ⟨i1, i2, i3⟩ := iter_start (m := m) (tit := tit) hr1 hst0.1 z2 S
  have i2 := hst0.trans i2
  have hm1 := hst0.1
  have i3 : Iter S s1.H.length w _ _ _ 0 := ⟨i3.lt, i3.zero, Nat.le_trans hst0.2.2.size i3.young, i3.here, i3.own⟩
  obtain ⟨ρ2, j1, j2⟩ := hJ0 _ _ _ i1 (by simp; omega)
  have i4 := i3.step j2 (by omega)
  have j3 : Step m ρ s w ρ2 (J 0) (w1.iter S 0) := i2.trans ⟨by have := j2.1; omega, fun x hx => j2.2.1 x (by omega), j2.2.2⟩
  have j4 : max m (s1.H.length + 1) ≤ (J 0).H.length := j2.1
  -- the loop
  refine wp_block ?_
  refine wp_loop_ix (fun k a5 w5 => ∃ i ρ5, i + k = bs.length ∧ RelSt ρ5 n (J i) a5 w5 ∧ Step m ρ s w ρ5 (J i) w5 ∧ Iter S s1.H.length w ρ5 (J i) w5 i ∧ max m (s1.H.length + 1) ≤ (J i).H.length) (k0 := bs.length) ⟨0, ρ2, by omega, j1, j3, i4, j4⟩ ?_
  rintro k a5 w5 ⟨i, ρ5, hik, r1, r2, r3, r4⟩
  have hvo := hreg i (by omega)
  rw [← hnv i] at hvo
  refine wp_seq (next_sound (m0 := m) (ρ0 := ρ) (s0 := s) (K := fun s' => s'.get tok = .bool (decide (i < bs.length)) ∧
      (if i < bs.length then vc P (max m (s1.H.length + 1)) n body (fun e s'' => e = .normal ∧ Weak (max m (s1.H.length + 1)) n s'' (J (i + 1))) s' else K s')) rfl h3 g3 d3 z3 (hJt i) r1 r3 ha r2 (.inr (by omega)) hvo ?_)
  rintro a2 w2' s2 ρ3 ⟨q0, q1⟩ q2 q3 q4
  have hev := q2.tmps.slot tok
  rw [show s2.get tok = .bool (decide (i < bs.length)) from q0] at hev
  unfold VR at hev
  show Code.wp P _ _ a2 w2'
  refine wp_seq (wp_cond_split hev ?_ ?_)
  · intro hT
    have hi : i < bs.length := of_decide_eq_true hT
    rw [if_pos hi] at q1
    rw [if_pos (by omega : i < S.size)] at q4
    refine wp_skip ?_
    show Code.wp P _ _ a2 w2'
    have hml : max m (s1.H.length + 1) ≤ s2.H.length := by
      have h1 := q3.1
      have h2 := q4.lt
      omega
    refine wp_mono (vc_sound hmix body _ s2 q1 ρ3 a2 w2' q2 hml) ?_
    rintro e a3 w3 ⟨s3, ρ4, ⟨rfl, t1⟩, t2, t3⟩
    obtain ⟨ρ5, u1, u2⟩ := t1 ρ4 a3 w3 t2 t3.1
    have t4 := t3.trans u2
    refine ⟨k - 1, by omega, i + 1, ρ5, by omega, u1, q3.trans ⟨by have := t4.1; omega, fun x hx => t4.2.1 x (by omega), t4.2.2⟩, q4.step t4 (by omega), t4.1⟩
  · intro hF
    have hi : ¬ i < bs.length := of_decide_eq_false hF
    rw [if_neg hi] at q1
    refine wp_exit ?_
    show Exit.inBlock bid (LiftE m n ρ s w (seqQ K Q)) (.exit bid) a2 w2'
    simp only [Exit.inBlock, if_true]
    exact ⟨s2, ρ3, q1, q2, q3⟩
end
end Go.Vm
end
section
namespace Go.Vm
open Go.Proofs
set_option maxRecDepth 20000
/-- A byte's bit as a sign; a byte's bits, the highest first; a text's. -/
def bitC (b : BitVec 8) (k : Nat) : BitVec 8 := if b.getLsbD k then 49#8 else 48#8
def bits8 (b : BitVec 8) : List (BitVec 8) := [bitC b 7, bitC b 6, bitC b 5, bitC b 4, bitC b 3, bitC b 2, bitC b 1, bitC b 0]
def bitsS : List (BitVec 8) → List (BitVec 8)
  | [] => []
  | b :: s => bits8 b ++ bitsS s
theorem bitsS_append (s t : List (BitVec 8)) : bitsS (s ++ t) = bitsS s ++ bitsS t := by
  induction s with
  | nil => rfl
  | cons b s ih => rw [List.cons_append, bitsS, bitsS, ih, List.append_assoc]
theorem bitsS_length (s : List (BitVec 8)) : (bitsS s).length = 8 * s.length := by
  induction s with
  | nil => rfl
  | cons b s ih => rw [bitsS, List.length_append, ih, List.length_cons]; show 8 + _ = _; omega
theorem bitC_two (b : BitVec 8) (k : Nat) : bitC b k = 48#8 ∨ bitC b k = 49#8 := by unfold bitC; split <;> simp
theorem bitsS_two (s : List (BitVec 8)) : ∀ c ∈ bitsS s, c = 48#8 ∨ c = 49#8 := by
  induction s with
  | nil => intro c h; cases h
  | cons b s ih =>
    intro c h
    rw [bitsS] at h
    rcases List.mem_append.1 h with h | h
    · simp only [bits8, List.mem_cons, List.not_mem_nil, or_false] at h
      rcases h with rfl | rfl | rfl | rfl | rfl | rfl | rfl | rfl <;> exact bitC_two _ _
    · exact ih c h
theorem bit_raw (b : BitVec 8) (k : Nat) : BitVec.ofInt 8 (w64 (48 + (((b >>> k) % 2#8).toNat : Int))) = bitC b k := by
  have h : ((b >>> k) % 2#8).toNat = if b.getLsbD k then 1 else 0 := by
    rw [BitVec.toNat_umod, BitVec.toNat_ushiftRight]
    show (b.toNat >>> k) % 2 = _
    rw [← BitVec.testBit_toNat]
    have : (b.toNat >>> k) % 2 = if b.toNat.testBit k then 1 else 0 := by
      rw [Nat.testBit_eq_decide_div_mod_eq, Nat.shiftRight_eq_div_pow]
      by_cases h : b.toNat / 2 ^ k % 2 = 1 <;> simp [h]
      omega
    exact this
  rw [h]
  unfold bitC
  split <;> decide
def signC : List (BitVec 8) := [65#8, 66#8, 67#8, 68#8, 69#8, 70#8, 71#8, 72#8, 73#8, 74#8, 75#8, 76#8, 77#8, 78#8, 79#8, 80#8, 81#8, 82#8, 83#8, 84#8, 85#8, 86#8, 87#8, 88#8, 89#8, 90#8, 97#8, 98#8, 99#8, 100#8, 101#8, 102#8, 103#8, 104#8, 105#8, 106#8, 107#8, 108#8, 109#8, 110#8, 111#8, 112#8, 113#8, 114#8, 115#8, 116#8, 117#8, 118#8, 119#8, 120#8, 121#8, 122#8, 48#8, 49#8, 50#8, 51#8, 52#8, 53#8, 54#8, 55#8, 56#8, 57#8, 43#8, 47#8]
/-- The number of i bits of a text. -/
def valC (l : List (BitVec 8)) : Nat → Nat
  | 0 => 0
  | i + 1 => 2 * valC l i + ((l.getD i 0).toNat - 48)
def pad6 (b : List (BitVec 8)) : List (BitVec 8) := b ++ List.replicate (6 - b.length) 48#8
/-- Sign by sign: six bits each. -/
def grp : Nat → List (BitVec 8) → List (BitVec 8)
  | 0, _ => []
  | f + 1, b => if b = [] then [] else signC.getD (valC ((pad6 b).take 6) 6) 0 :: grp f ((pad6 b).drop 6)
theorem valC_lt (l : List (BitVec 8)) (h : ∀ c ∈ l, c = 48#8 ∨ c = 49#8) (i : Nat) (hi : i ≤ l.length) : valC l i < 2 ^ i := by
  induction i with
  | zero => simp [valC]
  | succ i ih =>
    have h1 := ih (by omega)
    have h2 : (l.getD i 0).toNat - 48 ≤ 1 := by
      rw [List.getD_eq_getElem?_getD, List.getElem?_eq_getElem (by omega : i < l.length)]
      rcases h _ (List.getElem_mem (by omega : i < l.length)) with e | e <;> (show (l[i]).toNat - 48 ≤ 1; rw [e]; decide)
    rw [valC, Nat.pow_succ]; omega
/-- Filled up to four signs. -/
def pad4 (o : List (BitVec 8)) : List (BitVec 8) := o ++ List.replicate ((4 - o.length % 4) % 4) 61#8
def rbase (s : List (BitVec 8)) : List (BitVec 8) := pad4 (grp (8 * s.length) (bitsS s))
set_option maxHeartbeats 2000000 in
theorem rbits_spec (s : List (BitVec 8)) (hs : s.length ≤ 140737488355328) : GS Tryd.prog 0 65 (match Tryd.f8.body with
  | some (.seq _ (.seq _ (.seq x _))) => x
  | _ => .skip) (seqQ (fun st => Weak 0 65 st ⟨[(3, .str (bitsS s))], []⟩) (fun _ _ => False)) ⟨[(0, .str s), (3, .str [])], []⟩ := by
  refine gs_of_vc (by kernel_rfl) (go_start ?_)
  simp only [Tryd.f8]
  simp only [go_sem, ↓reduceIte, Nat.reduceEqDiff, Nat.reduceLT, Nat.reduceLeDiff, Nat.reduceAdd, Nat.reduceSub, Nat.reduceMul, Nat.reduceMod, Nat.reduceDiv, Int.reduceLE, Int.reduceLT, Int.reduceToNat, Int.reduceAdd, Int.reduceSub, Int.reduceMul, Int.reduceEq, Int.reduceNeg, BitVec.reduceOfInt, BitVec.reduceToNat, BitVec.reduceEq, BitVec.reduceNe, BitVec.reduceLT, reduceCtorEq, List.forall_mem_nil]
  refine go_loop (fun ji st => ∃ i : Nat, i + ji = s.length ∧ st = ⟨[(0, .str s), (3, .str (bitsS (s.take i))), (11, .i64 s.length), (12, .i64 i)], []⟩) ?_ ?_
  · exact start_mk (s.length) ⟨[(0, .str s), (3, .str (bitsS (s.take (0 : Nat)))), (11, .i64 s.length), (12, .i64 (0 : Nat))], []⟩ (by simp [St.get, lookS, -List.map_set, -List.map_map, bitsS]) rfl (fun _ _ h => h) ⟨0, by omega, rfl⟩
  rintro ji st ⟨i, hi, rfl⟩ _
  simp only [go_sem, ↓reduceIte, Nat.reduceEqDiff, Nat.reduceLT, Nat.reduceLeDiff, Nat.reduceAdd, Nat.reduceSub, Nat.reduceMul, Nat.reduceMod, Nat.reduceDiv, Int.reduceLE, Int.reduceLT, Int.reduceToNat, Int.reduceAdd, Int.reduceSub, Int.reduceMul, Int.reduceEq, Int.reduceNeg, BitVec.reduceOfInt, BitVec.reduceToNat, BitVec.reduceEq, BitVec.reduceNe, BitVec.reduceLT, reduceCtorEq, List.forall_mem_nil]
  by_cases h0 : i < s.length
  · have h0' : (i : Int) < (s.length : Int) := by omega
    have h1' : (0 : Int) ≤ (i : Int) := by omega
    have hst : bitsS (s.take (i + 1)) = bitsS (s.take i) ++ bits8 (s.getD i 0) := by
      rw [take_snoc h0, bitsS_append]; simp [bitsS]
    have hgl : (bitsS (s.take i)).length = 8 * i := by rw [bitsS_length, List.length_take]; omega
    generalize bitsS (s.take i) = g at hst hgl ⊢
    unfold bits8 at hst
    generalize hbb : s.getD i 0 = b at hst ⊢
    simp only [go_sem, ↓reduceIte, Nat.reduceEqDiff, Nat.reduceLT, Nat.reduceLeDiff, Nat.reduceAdd, Nat.reduceSub, Nat.reduceMul, Nat.reduceMod, Nat.reduceDiv, Int.reduceLE, Int.reduceLT, Int.reduceToNat, Int.reduceAdd, Int.reduceSub, Int.reduceMul, Int.reduceEq, Int.reduceNeg, BitVec.reduceOfInt, BitVec.reduceToNat, BitVec.reduceEq, BitVec.reduceNe, BitVec.reduceLT, reduceCtorEq, List.forall_mem_nil, h0']
    refine go_unroll 9 ?_
    simp only [go_sem, ↓reduceIte, Nat.reduceEqDiff, Nat.reduceLT, Nat.reduceLeDiff, Nat.reduceAdd, Nat.reduceSub, Nat.reduceMul, Nat.reduceMod, Nat.reduceDiv, Int.reduceLE, Int.reduceLT, Int.reduceToNat, Int.reduceAdd, Int.reduceSub, Int.reduceMul, Int.reduceEq, Int.reduceNeg, BitVec.reduceOfInt, BitVec.reduceToNat, BitVec.reduceEq, BitVec.reduceNe, BitVec.reduceLT, reduceCtorEq, List.forall_mem_nil, h0', h1', hbb]
    refine goCall_pure0 (chr_spec _) ?_
    simp only [go_sem, ↓reduceIte, Nat.reduceEqDiff, Nat.reduceLT, Nat.reduceLeDiff, Nat.reduceAdd, Nat.reduceSub, Nat.reduceMul, Nat.reduceMod, Nat.reduceDiv, Int.reduceLE, Int.reduceLT, Int.reduceToNat, Int.reduceAdd, Int.reduceSub, Int.reduceMul, Int.reduceEq, Int.reduceNeg, BitVec.reduceOfInt, BitVec.reduceToNat, BitVec.reduceEq, BitVec.reduceNe, BitVec.reduceLT, reduceCtorEq, List.forall_mem_nil, bit_raw, h0', h1', hbb, List.append_assoc]
    refine ⟨by omega, ?_⟩
    refine goCall_pure0 (chr_spec _) ?_
    simp only [go_sem, ↓reduceIte, Nat.reduceEqDiff, Nat.reduceLT, Nat.reduceLeDiff, Nat.reduceAdd, Nat.reduceSub, Nat.reduceMul, Nat.reduceMod, Nat.reduceDiv, Int.reduceLE, Int.reduceLT, Int.reduceToNat, Int.reduceAdd, Int.reduceSub, Int.reduceMul, Int.reduceEq, Int.reduceNeg, BitVec.reduceOfInt, BitVec.reduceToNat, BitVec.reduceEq, BitVec.reduceNe, BitVec.reduceLT, reduceCtorEq, List.forall_mem_nil, bit_raw, h0', h1', hbb, List.append_assoc]
    refine ⟨by omega, ?_⟩
    refine goCall_pure0 (chr_spec _) ?_
    simp only [go_sem, ↓reduceIte, Nat.reduceEqDiff, Nat.reduceLT, Nat.reduceLeDiff, Nat.reduceAdd, Nat.reduceSub, Nat.reduceMul, Nat.reduceMod, Nat.reduceDiv, Int.reduceLE, Int.reduceLT, Int.reduceToNat, Int.reduceAdd, Int.reduceSub, Int.reduceMul, Int.reduceEq, Int.reduceNeg, BitVec.reduceOfInt, BitVec.reduceToNat, BitVec.reduceEq, BitVec.reduceNe, BitVec.reduceLT, reduceCtorEq, List.forall_mem_nil, bit_raw, h0', h1', hbb, List.append_assoc]
    refine ⟨by omega, ?_⟩
    refine goCall_pure0 (chr_spec _) ?_
    simp only [go_sem, ↓reduceIte, Nat.reduceEqDiff, Nat.reduceLT, Nat.reduceLeDiff, Nat.reduceAdd, Nat.reduceSub, Nat.reduceMul, Nat.reduceMod, Nat.reduceDiv, Int.reduceLE, Int.reduceLT, Int.reduceToNat, Int.reduceAdd, Int.reduceSub, Int.reduceMul, Int.reduceEq, Int.reduceNeg, BitVec.reduceOfInt, BitVec.reduceToNat, BitVec.reduceEq, BitVec.reduceNe, BitVec.reduceLT, reduceCtorEq, List.forall_mem_nil, bit_raw, h0', h1', hbb, List.append_assoc]
    refine ⟨by omega, ?_⟩
    refine goCall_pure0 (chr_spec _) ?_
    simp only [go_sem, ↓reduceIte, Nat.reduceEqDiff, Nat.reduceLT, Nat.reduceLeDiff, Nat.reduceAdd, Nat.reduceSub, Nat.reduceMul, Nat.reduceMod, Nat.reduceDiv, Int.reduceLE, Int.reduceLT, Int.reduceToNat, Int.reduceAdd, Int.reduceSub, Int.reduceMul, Int.reduceEq, Int.reduceNeg, BitVec.reduceOfInt, BitVec.reduceToNat, BitVec.reduceEq, BitVec.reduceNe, BitVec.reduceLT, reduceCtorEq, List.forall_mem_nil, bit_raw, h0', h1', hbb, List.append_assoc]
    refine ⟨by omega, ?_⟩
    refine goCall_pure0 (chr_spec _) ?_
    simp only [go_sem, ↓reduceIte, Nat.reduceEqDiff, Nat.reduceLT, Nat.reduceLeDiff, Nat.reduceAdd, Nat.reduceSub, Nat.reduceMul, Nat.reduceMod, Nat.reduceDiv, Int.reduceLE, Int.reduceLT, Int.reduceToNat, Int.reduceAdd, Int.reduceSub, Int.reduceMul, Int.reduceEq, Int.reduceNeg, BitVec.reduceOfInt, BitVec.reduceToNat, BitVec.reduceEq, BitVec.reduceNe, BitVec.reduceLT, reduceCtorEq, List.forall_mem_nil, bit_raw, h0', h1', hbb, List.append_assoc]
    refine ⟨by omega, ?_⟩
    refine goCall_pure0 (chr_spec _) ?_
    simp only [go_sem, ↓reduceIte, Nat.reduceEqDiff, Nat.reduceLT, Nat.reduceLeDiff, Nat.reduceAdd, Nat.reduceSub, Nat.reduceMul, Nat.reduceMod, Nat.reduceDiv, Int.reduceLE, Int.reduceLT, Int.reduceToNat, Int.reduceAdd, Int.reduceSub, Int.reduceMul, Int.reduceEq, Int.reduceNeg, BitVec.reduceOfInt, BitVec.reduceToNat, BitVec.reduceEq, BitVec.reduceNe, BitVec.reduceLT, reduceCtorEq, List.forall_mem_nil, bit_raw, h0', h1', hbb, List.append_assoc]
    refine ⟨by omega, ?_⟩
    refine goCall_pure0 (chr_spec _) ?_
    simp only [go_sem, ↓reduceIte, Nat.reduceEqDiff, Nat.reduceLT, Nat.reduceLeDiff, Nat.reduceAdd, Nat.reduceSub, Nat.reduceMul, Nat.reduceMod, Nat.reduceDiv, Int.reduceLE, Int.reduceLT, Int.reduceToNat, Int.reduceAdd, Int.reduceSub, Int.reduceMul, Int.reduceEq, Int.reduceNeg, BitVec.reduceOfInt, BitVec.reduceToNat, BitVec.reduceEq, BitVec.reduceNe, BitVec.reduceLT, reduceCtorEq, List.forall_mem_nil, bit_raw, h0', h1', hbb, List.append_assoc]
    refine ⟨by omega, ?_⟩
    have hw1 : w64 ((i : Int) + 1) = ((i + 1 : Nat) : Int) := by rw [w64_of (by omega) (by omega)]; omega
    refine again_mk (ji - 1) ⟨[(0, .str s), (3, .str (bitsS (s.take (i + 1)))), (11, .i64 s.length), (12, .i64 (i + 1 : Nat))], []⟩ (by omega) ?_ rfl (fun _ _ h => h) ⟨i + 1, by omega, rfl⟩
    rw [hst]
    simp [St.get, lookS, hw1]
  · have hie : i = s.length := by omega
    have h0' : ¬ (i : Int) < (s.length : Int) := by omega
    simp only [go_sem, ↓reduceIte, Nat.reduceEqDiff, Nat.reduceLT, Nat.reduceLeDiff, Nat.reduceAdd, Nat.reduceSub, Nat.reduceMul, Nat.reduceMod, Nat.reduceDiv, Int.reduceLE, Int.reduceLT, Int.reduceToNat, Int.reduceAdd, Int.reduceSub, Int.reduceMul, Int.reduceEq, Int.reduceNeg, BitVec.reduceOfInt, BitVec.reduceToNat, BitVec.reduceEq, BitVec.reduceNe, BitVec.reduceLT, reduceCtorEq, List.forall_mem_nil, h0']
    rw [List.take_of_length_le (by omega)]
    refine Weak.drop ?_ rfl (fun _ _ h => h)
    simp [St.get, lookS]
/-- The group's number, as the loop reckons it. -/
theorem val_step (c : BitVec 8) (h : c = 48#8 ∨ c = 49#8) (n : Nat) (hn : n < 64) : w64 (w64 (2 * (n : Int)) + w64 (IntKind.i32.wrap ((c.toNat : Int) - 48))) = ((2 * n + (c.toNat - 48) : Nat) : Int) := by
  rcases h with rfl | rfl
  · rw [show IntKind.i32.wrap (((48#8 : BitVec 8).toNat : Int) - 48) = 0 from rfl, w64_of (n := 2 * (n : Int)) (by omega) (by omega), show w64 0 = 0 from rfl, w64_of (by omega) (by omega)]
    show _ = ((2 * n + (48 - 48) : Nat) : Int)
    omega
  · rw [show IntKind.i32.wrap (((49#8 : BitVec 8).toNat : Int) - 48) = 1 from rfl, w64_of (n := 2 * (n : Int)) (by omega) (by omega), show w64 1 = 1 from rfl, w64_of (by omega) (by omega)]
    show _ = ((2 * n + (49 - 48) : Nat) : Int)
    omega
/-- One round of the second loop: filled up, six bits told, the sign set behind. -/
theorem rgroup_spec (b out : List (BitVec 8)) (h2 : ∀ c ∈ b, c = 48#8 ∨ c = 49#8) (hb : b.length ≤ 1125899906842624) (ho : out.length ≤ 1125899906842624) :
    GS Tryd.prog 0 65 (match Tryd.f8.body with
  | some (.seq _ (.seq _ (.seq _ (.seq _ (.seq (.block _ (.loop (.seq _ x))) _))))) => x
  | _ => .skip) (seqQ (fun st => Weak 0 65 st ⟨[(3, .str ((pad6 b).drop 6)), (6, .str (out ++ [signC.getD (valC ((pad6 b).take 6) 6) 0]))], []⟩) (fun _ _ => False)) ⟨[(3, .str b), (6, .str out)], []⟩ := by
  simp only [Tryd.f8]
  refine gs_block ?_
  refine gs_seq (K := fun st => Weak 0 65 st ⟨[(3, .str (pad6 b)), (6, .str out)], []⟩) (gs_of_vc (by kernel_rfl) (go_start ?_)) (fun st hst => gs_weak ?_ hst)
  · simp only [go_sem, ↓reduceIte, Nat.reduceEqDiff, Nat.reduceLT, Nat.reduceLeDiff, Nat.reduceAdd, Nat.reduceSub, Nat.reduceMul, Nat.reduceMod, Nat.reduceDiv, Int.reduceLE, Int.reduceLT, Int.reduceToNat, Int.reduceAdd, Int.reduceSub, Int.reduceMul, Int.reduceEq, Int.reduceNeg, BitVec.reduceOfInt, BitVec.reduceToNat, BitVec.reduceEq, BitVec.reduceNe, BitVec.reduceLT, reduceCtorEq, List.forall_mem_nil]
    refine go_loop (fun j st => ∃ x : List (BitVec 8), pad6 x = pad6 b ∧ 6 - x.length = j ∧ x.length ≤ 1125899906842630 ∧ st = ⟨[(3, .str x), (6, .str out)], []⟩) ?_ ?_
    · exact start_mk (6 - b.length) ⟨[(3, .str b), (6, .str out)], []⟩ (by simp [St.get, lookS]) rfl (fun _ _ h => h) ⟨b, rfl, rfl, by omega, rfl⟩
    rintro j st ⟨x, hx1, hx2, hx3, rfl⟩ _
    by_cases h0 : x.length < 6
    · have h0' : (x.length : Int) < 6 := by omega
      have hp : pad6 (x ++ [48#8]) = pad6 b := by
        rw [← hx1]
        unfold pad6
        rw [List.length_append, List.append_assoc]
        congr 1
        rw [show 6 - x.length = (6 - (x.length + [48#8].length)) + 1 by show _ = 6 - (x.length + 1) + 1; omega, List.replicate_succ]; rfl
      have hz : bytesOf (⟨#[48]⟩ : ByteArray) = [48#8] := rfl
      simp only [go_sem, ↓reduceIte, Nat.reduceEqDiff, Nat.reduceLT, Nat.reduceLeDiff, Nat.reduceAdd, Nat.reduceSub, Nat.reduceMul, Nat.reduceMod, Nat.reduceDiv, Int.reduceLE, Int.reduceLT, Int.reduceToNat, Int.reduceAdd, Int.reduceSub, Int.reduceMul, Int.reduceEq, Int.reduceNeg, BitVec.reduceOfInt, BitVec.reduceToNat, BitVec.reduceEq, BitVec.reduceNe, BitVec.reduceLT, reduceCtorEq, List.forall_mem_nil, h0', hz]
      refine ⟨by omega, ?_⟩
      exact again_mk (j - 1) ⟨[(3, .str (x ++ [48#8])), (6, .str out)], []⟩ (by omega) (by simp [St.get, lookS]) rfl (fun _ _ h => h) ⟨x ++ [48#8], hp, by simp; omega, by simp; omega, rfl⟩
    · have h0' : ¬ (x.length : Int) < 6 := by omega
      have hp : x = pad6 b := by
        rw [← hx1]; unfold pad6
        rw [show 6 - x.length = 0 by omega]; simp
      simp only [go_sem, ↓reduceIte, Nat.reduceEqDiff, Nat.reduceLT, Nat.reduceLeDiff, Nat.reduceAdd, Nat.reduceSub, Nat.reduceMul, Nat.reduceMod, Nat.reduceDiv, Int.reduceLE, Int.reduceLT, Int.reduceToNat, Int.reduceAdd, Int.reduceSub, Int.reduceMul, Int.reduceEq, Int.reduceNeg, BitVec.reduceOfInt, BitVec.reduceToNat, BitVec.reduceEq, BitVec.reduceNe, BitVec.reduceLT, reduceCtorEq, List.forall_mem_nil, h0', ← hp]
      refine Weak.drop ?_ rfl (fun _ _ h => h)
      simp [St.get, lookS]
  have hpl : 6 ≤ (pad6 b).length := by unfold pad6; rw [List.length_append, List.length_replicate]; omega
  have hpl2 : (pad6 b).length ≤ 1125899906842630 := by unfold pad6; rw [List.length_append, List.length_replicate]; omega
  have hp2 : ∀ c ∈ pad6 b, c = 48#8 ∨ c = 49#8 := by
    intro c h
    unfold pad6 at h
    rcases List.mem_append.1 h with h | h
    · exact h2 c h
    · exact .inl (List.eq_of_mem_replicate h)
  generalize pad6 b = p at *
  have hgl : (p.take 6).length = 6 := by rw [List.length_take]; omega
  have hg2 : ∀ c ∈ p.take 6, c = 48#8 ∨ c = 49#8 := fun c h => hp2 c (List.mem_of_mem_take h)
  refine gs_seq (K := fun st => Weak 0 65 st ⟨[(3, .str p), (6, .str out), (7, .i64 (0 : Nat))], []⟩) (gs_of_vc (by kernel_rfl) (go_start ?_)) (fun st hst => gs_weak ?_ hst)
  · simp only [go_sem, ↓reduceIte, Nat.reduceEqDiff, Nat.reduceLT, Nat.reduceLeDiff, Nat.reduceAdd, Nat.reduceSub, Nat.reduceMul, Nat.reduceMod, Nat.reduceDiv, Int.reduceLE, Int.reduceLT, Int.reduceToNat, Int.reduceAdd, Int.reduceSub, Int.reduceMul, Int.reduceEq, Int.reduceNeg, BitVec.reduceOfInt, BitVec.reduceToNat, BitVec.reduceEq, BitVec.reduceNe, BitVec.reduceLT, reduceCtorEq, List.forall_mem_nil]
    refine Weak.drop ?_ rfl (fun _ _ h => h)
    simp [St.get, lookS]
  have hcode : ∀ c ∈ p.take 6, c.toNat < 128 := fun c h => by rcases hg2 c h with rfl | rfl <;> decide
  refine gs_seq (K := fun st => Weak 0 65 st ⟨[(3, .str p), (6, .str out), (7, .i64 (valC (p.take 6) 6 : Nat))], []⟩)
    (gs_range2 (pre := [_, _]) (by kernel_rfl) (S1 := ⟨[(39, .str (p.take 6)), (38, .str p), (3, .str p), (6, .str out), (7, .i64 (0 : Nat))], []⟩) (bs := p.take 6) (fun i => ⟨[(3, .str p), (6, .str out), (7, .i64 (valC (p.take 6) i : Nat)), (40, .ptr 0 0)], [none]⟩) rfl ?_ ?_ rfl rfl rfl rfl (by decide) Tryd.underlying9 rfl rfl rfl (by decide) hcode ?_ (fun i => rfl) ?_) (fun st hst => gs_weak (gs_of_vc (by kernel_rfl) (go_start ?_)) hst)
  · intro o ho
    simp only [List.mem_cons, List.not_mem_nil, or_false] at ho
    rcases ho with rfl | rfl <;> rfl
  · refine vops_go ?_
    have h6 : (0 : Int) ≤ 6 := by omega
    have h6' : (6 : Int) ≤ (p.length : Int) := by omega
    simp only [go_sem, ↓reduceIte, Nat.reduceEqDiff, Nat.reduceLT, Nat.reduceLeDiff, Nat.reduceAdd, Nat.reduceSub, Nat.reduceMul, Nat.reduceMod, Nat.reduceDiv, Int.reduceLE, Int.reduceLT, Int.reduceToNat, Int.reduceAdd, Int.reduceSub, Int.reduceMul, Int.reduceEq, Int.reduceNeg, BitVec.reduceOfInt, BitVec.reduceToNat, BitVec.reduceEq, BitVec.reduceNe, BitVec.reduceLT, reduceCtorEq, List.forall_mem_nil, h6']
  · refine Weak.drop ?_ rfl (fun _ _ h => h)
    simp [St.get, lookS, putS, valC]
  · intro i hil
    rw [hgl] at hil
    refine vops_go ?_
    have hv := valC_lt (p.take 6) hg2 i (by omega)
    have hv2 : valC (p.take 6) i < 64 := Nat.lt_of_lt_of_le hv (by
      have : 2 ^ i ≤ 2 ^ 6 := Nat.pow_le_pow_right (by decide) hil
      simpa using this)
    by_cases h0 : i < 6
    · have hT : decide (i < (p.take 6).length) = true := decide_eq_true (by omega)
      have h0'' : i < (p.take 6).length := by omega
      have hci := hg2 ((p.take 6).getD i 0) (by rw [List.getD_eq_getElem?_getD, List.getElem?_eq_getElem h0'']; exact List.getElem_mem h0'')
      have hstep := val_step ((p.take 6).getD i 0) hci (valC (p.take 6) i) hv2
      rw [show 2 * valC (p.take 6) i + (((p.take 6).getD i 0).toNat - 48) = valC (p.take 6) (i + 1) from rfl] at hstep
      generalize p.take 6 = q at *
      simp only [go_sem, ↓reduceIte, Nat.reduceEqDiff, Nat.reduceLT, Nat.reduceLeDiff, Nat.reduceAdd, Nat.reduceSub, Nat.reduceMul, Nat.reduceMod, Nat.reduceDiv, Int.reduceLE, Int.reduceLT, Int.reduceToNat, Int.reduceAdd, Int.reduceSub, Int.reduceMul, Int.reduceEq, Int.reduceNeg, BitVec.reduceOfInt, BitVec.reduceToNat, BitVec.reduceEq, BitVec.reduceNe, BitVec.reduceLT, reduceCtorEq, List.forall_mem_nil, h0'']
      refine go_start ?_
      simp only [go_sem, ↓reduceIte, Nat.reduceEqDiff, Nat.reduceLT, Nat.reduceLeDiff, Nat.reduceAdd, Nat.reduceSub, Nat.reduceMul, Nat.reduceMod, Nat.reduceDiv, Int.reduceLE, Int.reduceLT, Int.reduceToNat, Int.reduceAdd, Int.reduceSub, Int.reduceMul, Int.reduceEq, Int.reduceNeg, BitVec.reduceOfInt, BitVec.reduceToNat, BitVec.reduceEq, BitVec.reduceNe, BitVec.reduceLT, reduceCtorEq, List.forall_mem_nil, hstep]
      exact Weak.drop (by simp [St.get, lookS]) rfl (fun _ _ h => h)
    · have hie : i = 6 := by omega
      subst hie
      have h0'' : ¬ 6 < (p.take 6).length := by omega
      generalize p.take 6 = q at *
      simp only [go_sem, ↓reduceIte, Nat.reduceEqDiff, Nat.reduceLT, Nat.reduceLeDiff, Nat.reduceAdd, Nat.reduceSub, Nat.reduceMul, Nat.reduceMod, Nat.reduceDiv, Int.reduceLE, Int.reduceLT, Int.reduceToNat, Int.reduceAdd, Int.reduceSub, Int.reduceMul, Int.reduceEq, Int.reduceNeg, BitVec.reduceOfInt, BitVec.reduceToNat, BitVec.reduceEq, BitVec.reduceNe, BitVec.reduceLT, reduceCtorEq, List.forall_mem_nil, h0'']
      exact Weak.ren [] rfl (by decide) rfl (by decide) (by simp [slotsOk, St.get, lookS]) (by simp)
  · have hv := valC_lt (p.take 6) hg2 6 (by omega)
    generalize valC (p.take 6) 6 = v at *
    have hv' : v < 64 := hv
    have hsg : bytesOf (⟨#[65,66,67,68,69,70,71,72,73,74,75,76,77,78,79,80,81,82,83,84,85,86,87,88,89,90,97,98,99,100,101,102,103,104,105,106,107,108,109,110,111,112,113,114,115,116,117,118,119,120,121,122,48,49,50,51,52,53,54,55,56,57,43,47]⟩ : ByteArray) = signC := by kernel_rfl
    have hsl : signC.length = 64 := rfl
    have hw : w64 ((v : Int) + 1) = ((v + 1 : Nat) : Int) := by rw [w64_of (by omega) (by omega)]; omega
    have hb1 : (0 : Int) ≤ (v : Int) := by omega
    have hb2 : (v : Int) ≤ ((v + 1 : Nat) : Int) := by omega
    have hb3 : ((v + 1 : Nat) : Int) ≤ (64 : Int) := by omega
    have h6' : (6 : Int) ≤ (p.length : Int) := by omega
    have hone : (signC.take (v + 1)).drop v = [signC.getD v 0] := by
      rw [take_snoc (by omega), List.drop_append_of_le_length (by rw [List.length_take]; omega), List.drop_of_length_le (by rw [List.length_take]; omega), List.nil_append]
    have htk : p.take p.length = p := List.take_length
    simp only [go_sem, ↓reduceIte, Nat.reduceEqDiff, Nat.reduceLT, Nat.reduceLeDiff, Nat.reduceAdd, Nat.reduceSub, Nat.reduceMul, Nat.reduceMod, Nat.reduceDiv, Int.reduceLE, Int.reduceLT, Int.reduceToNat, Int.reduceAdd, Int.reduceSub, Int.reduceMul, Int.reduceEq, Int.reduceNeg, BitVec.reduceOfInt, BitVec.reduceToNat, BitVec.reduceEq, BitVec.reduceNe, BitVec.reduceLT, reduceCtorEq, List.forall_mem_nil, hsg, hsl, hw, hb1, hb2, hb3, hone, h6', htk]
    refine ⟨by omega, ?_⟩
    simp only [blockQ, seqQ]
    exact Weak.drop (by simp [St.get, lookS]) rfl (fun _ _ h => h)
theorem pad6_two (b : List (BitVec 8)) (h2 : ∀ c ∈ b, c = 48#8 ∨ c = 49#8) : ∀ c ∈ (pad6 b).drop 6, c = 48#8 ∨ c = 49#8 := by
  intro c h
  have h := List.mem_of_mem_drop h
  unfold pad6 at h
  rcases List.mem_append.1 h with h | h
  · exact h2 c h
  · exact .inl (List.eq_of_mem_replicate h)
theorem pad6_left (b : List (BitVec 8)) : ((pad6 b).drop 6).length = b.length - 6 := by
  unfold pad6; rw [List.length_drop, List.length_append, List.length_replicate]; omega
theorem grp_length (f : Nat) : ∀ b : List (BitVec 8), (grp f b).length ≤ f := by
  induction f with
  | zero => intro b; exact Nat.le_refl _
  | succ f ih =>
    intro b
    rw [grp]
    split
    · exact Nat.zero_le _
    · rw [List.length_cons]; have := ih ((pad6 b).drop 6); omega
theorem gs_mono {P : Program} {m n : Nat} {c : Code} {Q Q' : Exit → St → Prop} {s : St} (h : GS P m n c Q s) (hq : ∀ e s, Q e s → Q' e s) : GS P m n c Q' s := fun ρ a w hr hm =>
  wp_mono (h ρ a w hr hm) fun e a' w' ⟨s', ρ', q1, q2, q3⟩ => ⟨s', ρ', hq e s' q1, q2, q3⟩
theorem RBase_spec (s : List (BitVec 8)) (hs : s.length ≤ 140737488351232) : PureFn Tryd.prog 8 [.str s] (.str (rbase s)) := by
  refine pure_of_gs (by kernel_rfl) (fn := Tryd.f8) Tryd.func8 rfl (by show 1 ≤ 65; decide) (by simp [lows, V.low]) ?_
  refine gs_seq (K := fun st => Weak 0 65 st ⟨[(0, .str s)], []⟩) (gs_of_vc (by kernel_rfl) (go_start ?_)) (fun st hst => gs_weak ?_ hst)
  · simp only [go_sem, ↓reduceIte, Nat.reduceEqDiff, Nat.reduceLT, Nat.reduceLeDiff, Nat.reduceAdd, Nat.reduceSub, Nat.reduceMul, Nat.reduceMod, Nat.reduceDiv, Int.reduceLE, Int.reduceLT, Int.reduceToNat, Int.reduceAdd, Int.reduceSub, Int.reduceMul, Int.reduceEq, Int.reduceNeg, BitVec.reduceOfInt, BitVec.reduceToNat, BitVec.reduceEq, BitVec.reduceNe, BitVec.reduceLT, reduceCtorEq, List.forall_mem_nil]
    refine Weak.drop ?_ rfl (fun _ _ h => h)
    simp [St.get, lookS]
  refine gs_seq (K := fun st => Weak 0 65 st ⟨[(0, .str s), (3, .str [])], []⟩) (gs_of_vc (by kernel_rfl) (go_start ?_)) (fun st hst => gs_weak ?_ hst)
  · simp only [go_sem, ↓reduceIte, Nat.reduceEqDiff, Nat.reduceLT, Nat.reduceLeDiff, Nat.reduceAdd, Nat.reduceSub, Nat.reduceMul, Nat.reduceMod, Nat.reduceDiv, Int.reduceLE, Int.reduceLT, Int.reduceToNat, Int.reduceAdd, Int.reduceSub, Int.reduceMul, Int.reduceEq, Int.reduceNeg, BitVec.reduceOfInt, BitVec.reduceToNat, BitVec.reduceEq, BitVec.reduceNe, BitVec.reduceLT, reduceCtorEq, List.forall_mem_nil]
    refine Weak.drop ?_ rfl (fun _ _ h => h)
    simp [St.get, lookS]
  refine gs_seq (K := fun st => Weak 0 65 st ⟨[(3, .str (bitsS s))], []⟩) ?_ (fun st hst => gs_weak ?_ hst)
  · exact gs_mono (rbits_spec s (by omega)) (fun e st h => by cases e <;> first | exact h | exact h.elim)
  refine gs_seq (K := fun st => Weak 0 65 st ⟨[(3, .str (bitsS s)), (6, .str [])], []⟩) (gs_of_vc (by kernel_rfl) (go_start ?_)) (fun st hst => gs_weak ?_ hst)
  · simp only [go_sem, ↓reduceIte, Nat.reduceEqDiff, Nat.reduceLT, Nat.reduceLeDiff, Nat.reduceAdd, Nat.reduceSub, Nat.reduceMul, Nat.reduceMod, Nat.reduceDiv, Int.reduceLE, Int.reduceLT, Int.reduceToNat, Int.reduceAdd, Int.reduceSub, Int.reduceMul, Int.reduceEq, Int.reduceNeg, BitVec.reduceOfInt, BitVec.reduceToNat, BitVec.reduceEq, BitVec.reduceNe, BitVec.reduceLT, reduceCtorEq, List.forall_mem_nil]
    refine Weak.drop ?_ rfl (fun _ _ h => h)
    simp [St.get, lookS]
  have hbl := bitsS_length s
  have hgr := grp_length (8 * s.length) (bitsS s)
  refine gs_seq (K := fun st => Weak 0 65 st ⟨[(6, .str (grp (8 * s.length) (bitsS s)))], []⟩) (gs_block (gs_loop (fun k st => ∃ b out : List (BitVec 8), b.length ≤ 6 * k ∧ b.length ≤ 8 * s.length ∧ (∀ c ∈ b, c = 48#8 ∨ c = 49#8) ∧ out.length + k ≤ 8 * s.length ∧ out ++ grp k b = grp (8 * s.length) (bitsS s) ∧ st = ⟨[(3, .str b), (6, .str out)], []⟩) (k0 := 8 * s.length) ⟨bitsS s, [], by omega, by omega, bitsS_two s, by simp, rfl, rfl⟩ ?_)) (fun st hst => gs_weak ?_ hst)
  · rintro k st ⟨b, out, hk, hk2, h2, ho, hg, rfl⟩
    refine gs_seq (K := fun st => b ≠ [] ∧ Weak 0 65 st ⟨[(3, .str b), (6, .str out)], []⟩) (gs_of_vc (by kernel_rfl) (go_start ?_)) (fun st hst => gs_weak ?_ hst.2)
    · by_cases hb : b = []
      · have hb' := eq_true hb
        have hg2 : out = grp (8 * s.length) (bitsS s) := by
          rw [← hg, hb]
          cases k <;> simp [grp]
        simp only [go_sem, ↓reduceIte, Nat.reduceEqDiff, Nat.reduceLT, Nat.reduceLeDiff, Nat.reduceAdd, Nat.reduceSub, Nat.reduceMul, Nat.reduceMod, Nat.reduceDiv, Int.reduceLE, Int.reduceLT, Int.reduceToNat, Int.reduceAdd, Int.reduceSub, Int.reduceMul, Int.reduceEq, Int.reduceNeg, BitVec.reduceOfInt, BitVec.reduceToNat, BitVec.reduceEq, BitVec.reduceNe, BitVec.reduceLT, reduceCtorEq, List.forall_mem_nil, hb']
        simp only [seqQ, blockQ, if_true]
        rw [← hg2]
        refine Weak.drop ?_ rfl (fun _ _ h => h)
        simp [St.get, lookS]
      · have hb' := eq_false hb
        simp only [go_sem, ↓reduceIte, Nat.reduceEqDiff, Nat.reduceLT, Nat.reduceLeDiff, Nat.reduceAdd, Nat.reduceSub, Nat.reduceMul, Nat.reduceMod, Nat.reduceDiv, Int.reduceLE, Int.reduceLT, Int.reduceToNat, Int.reduceAdd, Int.reduceSub, Int.reduceMul, Int.reduceEq, Int.reduceNeg, BitVec.reduceOfInt, BitVec.reduceToNat, BitVec.reduceEq, BitVec.reduceNe, BitVec.reduceLT, reduceCtorEq, List.forall_mem_nil, hb']
        refine Weak.drop ?_ rfl (fun _ _ h => h)
        simp [St.get, lookS]
    · have hb := hst.1
      have hb1 : 0 < b.length := List.length_pos_iff.2 hb
      obtain ⟨k', rfl⟩ : ∃ k', k = k' + 1 := ⟨k - 1, by omega⟩
      refine gs_mono (rgroup_spec b out h2 (by omega) (by omega)) (fun e st h => ?_)
      cases e
      case normal =>
        refine ⟨k', ⟨[(3, .str ((pad6 b).drop 6)), (6, .str (out ++ [signC.getD (valC ((pad6 b).take 6) 6) 0]))], []⟩, by omega, h, _, _, ?_, ?_, pad6_two b h2, ?_, ?_, rfl⟩
        · rw [pad6_left]; omega
        · rw [pad6_left]; omega
        · rw [List.length_append]; show out.length + 1 + k' ≤ _; omega
        · rw [← hg, grp, if_neg hb, List.append_assoc]; rfl
      all_goals exact h.elim
  refine gs_of_vc (by kernel_rfl) (go_start ?_)
  unfold rbase
  generalize grp (8 * s.length) (bitsS s) = o at *
  simp only [go_sem, ↓reduceIte, Nat.reduceEqDiff, Nat.reduceLT, Nat.reduceLeDiff, Nat.reduceAdd, Nat.reduceSub, Nat.reduceMul, Nat.reduceMod, Nat.reduceDiv, Int.reduceLE, Int.reduceLT, Int.reduceToNat, Int.reduceAdd, Int.reduceSub, Int.reduceMul, Int.reduceEq, Int.reduceNeg, BitVec.reduceOfInt, BitVec.reduceToNat, BitVec.reduceEq, BitVec.reduceNe, BitVec.reduceLT, reduceCtorEq, List.forall_mem_nil]
  refine go_loop (fun j st => ∃ x : List (BitVec 8), pad4 x = pad4 o ∧ (4 - x.length % 4) % 4 = j ∧ x.length ≤ 8 * s.length + 4 ∧ st = ⟨[(6, .str x)], []⟩) ?_ ?_
  · exact start_mk _ ⟨[(6, .str o)], []⟩ (by simp [St.get, lookS]) rfl (fun _ _ h => h) ⟨o, rfl, rfl, by omega, rfl⟩
  rintro j st ⟨x, hx1, hx2, hx3, rfl⟩ _
  have htm : ((x.length : Int).tmod 4) = ((x.length % 4 : Nat) : Int) := rfl
  by_cases h0 : 0 < x.length % 4
  · have h0' : ((0 : Int) < ((x.length % 4 : Nat) : Int)) = True := eq_true (by omega)
    have hp : pad4 (x ++ [61#8]) = pad4 o := by
      rw [← hx1]
      unfold pad4
      rw [List.length_append, List.append_assoc]
      congr 1
      rw [show (4 - x.length % 4) % 4 = (4 - (x.length + [61#8].length) % 4) % 4 + 1 by show _ = (4 - (x.length + 1) % 4) % 4 + 1; omega, List.replicate_succ]; rfl
    have hz : bytesOf (⟨#[61]⟩ : ByteArray) = [61#8] := rfl
    simp only [go_sem, ↓reduceIte, Nat.reduceEqDiff, Nat.reduceLT, Nat.reduceLeDiff, Nat.reduceAdd, Nat.reduceSub, Nat.reduceMul, Nat.reduceMod, Nat.reduceDiv, Int.reduceLE, Int.reduceLT, Int.reduceToNat, Int.reduceAdd, Int.reduceSub, Int.reduceMul, Int.reduceEq, Int.reduceNeg, BitVec.reduceOfInt, BitVec.reduceToNat, BitVec.reduceEq, BitVec.reduceNe, BitVec.reduceLT, reduceCtorEq, List.forall_mem_nil, htm, h0', hz]
    refine ⟨by omega, ?_⟩
    exact again_mk (j - 1) ⟨[(6, .str (x ++ [61#8]))], []⟩ (by omega) (by simp [St.get, lookS]) rfl (fun _ _ h => h) ⟨x ++ [61#8], hp, by simp; omega, by simp; omega, rfl⟩
  · have h0' : ((0 : Int) < ((x.length % 4 : Nat) : Int)) = False := eq_false (by omega)
    have hp : x = pad4 o := by
      rw [← hx1]; unfold pad4
      rw [show (4 - x.length % 4) % 4 = 0 by omega]; simp
    simp only [go_sem, ↓reduceIte, Nat.reduceEqDiff, Nat.reduceLT, Nat.reduceLeDiff, Nat.reduceAdd, Nat.reduceSub, Nat.reduceMul, Nat.reduceMod, Nat.reduceDiv, Int.reduceLE, Int.reduceLT, Int.reduceToNat, Int.reduceAdd, Int.reduceSub, Int.reduceMul, Int.reduceEq, Int.reduceNeg, BitVec.reduceOfInt, BitVec.reduceToNat, BitVec.reduceEq, BitVec.reduceNe, BitVec.reduceLT, reduceCtorEq, List.forall_mem_nil, htm, h0', ← hp]
    exact Fin.ren [] (by simp) (by simp) (by rfl) (by decide) (by simp [-List.map_map, -List.map_set]) (by simp [-List.map_map, -List.map_set])
end Go.Vm
end
section
namespace Go.Vm
open Go.Proofs
set_option maxRecDepth 20000
def n1 (a : BitVec 8) : BitVec 32 := 0#32 ||| a.setWidth 32 <<< 16
def n2 (a b : BitVec 8) : BitVec 32 := n1 a ||| b.setWidth 32 <<< 8
def n3 (a b c : BitVec 8) : BitVec 32 := n2 a b ||| c.setWidth 32 <<< 0
def sgn (n : BitVec 32) (k : Nat) : BitVec 8 := signC.getD (n >>> k &&& 63#32).toNat 0
def q1 (a : BitVec 8) : List (BitVec 8) := [sgn (n1 a) 18, sgn (n1 a) 12, 61#8, 61#8]
def q2 (a b : BitVec 8) : List (BitVec 8) := [sgn (n2 a b) 18, sgn (n2 a b) 12, sgn (n2 a b) 6, 61#8]
def q3 (a b c : BitVec 8) : List (BitVec 8) := [sgn (n3 a b c) 18, sgn (n3 a b c) 12, sgn (n3 a b c) 6, sgn (n3 a b c) 0]
def cbase : List (BitVec 8) → List (BitVec 8)
  | a :: b :: c :: r => q3 a b c ++ cbase r
  | [a, b] => q2 a b
  | [a] => q1 a
  | [] => []
theorem cbase_length : ∀ s : List (BitVec 8), (cbase s).length = 4 * ((s.length + 2) / 3)
  | a :: b :: c :: r => by
    rw [cbase, List.length_append, cbase_length r]
    show 4 + _ = 4 * ((r.length + 1 + 1 + 1 + 2) / 3)
    omega
  | [a, b] => by simp [cbase, q2]
  | [a] => by simp [cbase, q1]
  | [] => by simp [cbase]
theorem sg_lt (n : BitVec 32) (k : Nat) : (n >>> k &&& 63#32).toNat < 64 := by
  rw [BitVec.toNat_and, show (63#32).toNat = 2 ^ 6 - 1 from rfl, Nat.and_two_pow_sub_one_eq_mod]
  omega
theorem sign_str : bytesOf (⟨#[65,66,67,68,69,70,71,72,73,74,75,76,77,78,79,80,81,82,83,84,85,86,87,88,89,90,97,98,99,100,101,102,103,104,105,106,107,108,109,110,111,112,113,114,115,116,117,118,119,120,121,122,48,49,50,51,52,53,54,55,56,57,43,47]⟩ : ByteArray) = signC := by kernel_rfl
theorem signC_length : signC.length = 64 := rfl
set_option maxHeartbeats 4000000 in
theorem CBase_spec (s : List (BitVec 8)) (hs : s.length ≤ 140737488351232) : PureFn Tryd.prog 7 [.str s] (.str (cbase s)) := by
  have hcl := cbase_length s
  refine pure_of_vc (by kernel_rfl) (fn := Tryd.f7) (by kernel_rfl) Tryd.func7 rfl (by show 1 ≤ 55; decide) (by simp [lows, V.low]) (by simp [lows, V.low, lows_ite, low_ite]) (go_start ?_)
  simp only [go_sem, ↓reduceIte, Nat.reduceEqDiff, Nat.reduceLT, Nat.reduceLeDiff, Nat.reduceAdd, Nat.reduceSub, Nat.reduceMul, Nat.reduceMod, Nat.reduceDiv, Int.reduceLE, Int.reduceLT, Int.reduceToNat, Int.reduceAdd, Int.reduceSub, Int.reduceMul, Int.reduceEq, Int.reduceNeg, BitVec.reduceOfInt, BitVec.reduceToNat, BitVec.reduceEq, BitVec.reduceNe, BitVec.reduceLT, reduceCtorEq, List.forall_mem_nil, Tryd.ntmps7, Tryd.results7]
  refine go_loop (fun j st => ∃ r out : List (BitVec 8), out ++ cbase r = cbase s ∧ r.length = j ∧
    ((out = [] ∧ st = ⟨[(0, .str r), (3, .nilSlice)], []⟩) ∨ (out ≠ [] ∧ st = ⟨[(0, .str r), (3, .slice 0 0 out.length 1)], [some ⟨false, out.map .u8⟩]⟩))) ?_ ?_
  · exact start_mk _ ⟨[(0, .str s), (3, .nilSlice)], []⟩ (by simp [St.get, lookS]) rfl (fun _ _ h => h) ⟨s, [], rfl, rfl, .inl ⟨rfl, rfl⟩⟩
  rintro j st ⟨r, out, hout, hj, hcase⟩ _
  have hlen := congrArg List.length hout
  rw [List.length_append] at hlen
  rcases hcase with ⟨rfl, rfl⟩ | ⟨hne, rfl⟩
  · match r, hj, hout, hlen with
    | [], hj, hout, hlen =>
      rw [← hout]
      simp only [go_sem, ↓reduceIte, Nat.reduceEqDiff, Nat.reduceLT, Nat.reduceLeDiff, Nat.reduceAdd, Nat.reduceSub, Nat.reduceMul, Nat.reduceMod, Nat.reduceDiv, Int.reduceLE, Int.reduceLT, Int.reduceToNat, Int.reduceAdd, Int.reduceSub, Int.reduceMul, Int.reduceEq, Int.reduceNeg, BitVec.reduceOfInt, BitVec.reduceToNat, BitVec.reduceEq, BitVec.reduceNe, BitVec.reduceLT, reduceCtorEq, List.forall_mem_nil, cbase]
    | [a], hj, hout, hlen =>
      have hq : cbase ([a]) = q1 a := by simp [cbase]
      have hql : (q1 a).length = 4 := rfl
      rw [hq] at hout hlen
      have l18 := sg_lt (n1 a) 18
      have l12 := sg_lt (n1 a) 12
      unfold n1 at l18 l12
      simp only [go_sem, ↓reduceIte, Nat.reduceEqDiff, Nat.reduceLT, Nat.reduceLeDiff, Nat.reduceAdd, Nat.reduceSub, Nat.reduceMul, Nat.reduceMod, Nat.reduceDiv, Int.reduceLE, Int.reduceLT, Int.reduceToNat, Int.reduceAdd, Int.reduceSub, Int.reduceMul, Int.reduceEq, Int.reduceNeg, BitVec.reduceOfInt, BitVec.reduceToNat, BitVec.reduceEq, BitVec.reduceNe, BitVec.reduceLT, reduceCtorEq, List.forall_mem_nil, List.take_of_length_le]
      refine go_unroll 4 ?_
      simp only [go_sem, ↓reduceIte, Nat.reduceEqDiff, Nat.reduceLT, Nat.reduceLeDiff, Nat.reduceAdd, Nat.reduceSub, Nat.reduceMul, Nat.reduceMod, Nat.reduceDiv, Int.reduceLE, Int.reduceLT, Int.reduceToNat, Int.reduceAdd, Int.reduceSub, Int.reduceMul, Int.reduceEq, Int.reduceNeg, BitVec.reduceOfInt, BitVec.reduceToNat, BitVec.reduceEq, BitVec.reduceNe, BitVec.reduceLT, reduceCtorEq, List.forall_mem_nil, List.take_of_length_le]
      refine go_unroll 5 ?_
      simp only [go_sem, ↓reduceIte, Nat.reduceEqDiff, Nat.reduceLT, Nat.reduceLeDiff, Nat.reduceAdd, Nat.reduceSub, Nat.reduceMul, Nat.reduceMod, Nat.reduceDiv, Int.reduceLE, Int.reduceLT, Int.reduceToNat, Int.reduceAdd, Int.reduceSub, Int.reduceMul, Int.reduceEq, Int.reduceNeg, BitVec.reduceOfInt, BitVec.reduceToNat, BitVec.reduceEq, BitVec.reduceNe, BitVec.reduceLT, reduceCtorEq, List.forall_mem_nil, List.take_of_length_le, sign_str, signC_length]
      refine ⟨(by first | omega | exact ⟨by omega, by omega⟩ | exact ⟨by omega, by omega, by omega⟩), ?_⟩
      refine ⟨(by first | omega | exact ⟨by omega, by omega⟩ | exact ⟨by omega, by omega, by omega⟩), ?_⟩
      refine again_ren (0) ⟨[(0, .str []), (3, .slice 0 0 4 1)], [some ⟨false, (q1 a).map .u8⟩]⟩ [7] (by rw [← hj]; simp <;> omega) rfl (by simp) rfl (by decide) (by simp [slotsOk, St.get, lookS, -List.map_map, -List.map_set]) (by simp [q1, sgn, n1, n2, n3, -List.map_map, -List.map_set])
        ⟨[], q1 a, by rw [List.nil_append] at hout; simpa [cbase] using hout, rfl, .inr ⟨by simp [q1], rfl⟩⟩
    | [a, b], hj, hout, hlen =>
      have hq : cbase ([a, b]) = q2 a b := by simp [cbase]
      have hql : (q2 a b).length = 4 := rfl
      rw [hq] at hout hlen
      have l18 := sg_lt (n2 a b) 18
      have l12 := sg_lt (n2 a b) 12
      have l6 := sg_lt (n2 a b) 6
      unfold n2 n1 at l18 l12 l6
      simp only [go_sem, ↓reduceIte, Nat.reduceEqDiff, Nat.reduceLT, Nat.reduceLeDiff, Nat.reduceAdd, Nat.reduceSub, Nat.reduceMul, Nat.reduceMod, Nat.reduceDiv, Int.reduceLE, Int.reduceLT, Int.reduceToNat, Int.reduceAdd, Int.reduceSub, Int.reduceMul, Int.reduceEq, Int.reduceNeg, BitVec.reduceOfInt, BitVec.reduceToNat, BitVec.reduceEq, BitVec.reduceNe, BitVec.reduceLT, reduceCtorEq, List.forall_mem_nil, List.take_of_length_le]
      refine go_unroll 4 ?_
      simp only [go_sem, ↓reduceIte, Nat.reduceEqDiff, Nat.reduceLT, Nat.reduceLeDiff, Nat.reduceAdd, Nat.reduceSub, Nat.reduceMul, Nat.reduceMod, Nat.reduceDiv, Int.reduceLE, Int.reduceLT, Int.reduceToNat, Int.reduceAdd, Int.reduceSub, Int.reduceMul, Int.reduceEq, Int.reduceNeg, BitVec.reduceOfInt, BitVec.reduceToNat, BitVec.reduceEq, BitVec.reduceNe, BitVec.reduceLT, reduceCtorEq, List.forall_mem_nil, List.take_of_length_le]
      refine go_unroll 5 ?_
      simp only [go_sem, ↓reduceIte, Nat.reduceEqDiff, Nat.reduceLT, Nat.reduceLeDiff, Nat.reduceAdd, Nat.reduceSub, Nat.reduceMul, Nat.reduceMod, Nat.reduceDiv, Int.reduceLE, Int.reduceLT, Int.reduceToNat, Int.reduceAdd, Int.reduceSub, Int.reduceMul, Int.reduceEq, Int.reduceNeg, BitVec.reduceOfInt, BitVec.reduceToNat, BitVec.reduceEq, BitVec.reduceNe, BitVec.reduceLT, reduceCtorEq, List.forall_mem_nil, List.take_of_length_le, sign_str, signC_length]
      refine ⟨(by first | omega | exact ⟨by omega, by omega⟩ | exact ⟨by omega, by omega, by omega⟩), ?_⟩
      refine ⟨(by first | omega | exact ⟨by omega, by omega⟩ | exact ⟨by omega, by omega, by omega⟩), ?_⟩
      refine ⟨(by first | omega | exact ⟨by omega, by omega⟩ | exact ⟨by omega, by omega, by omega⟩), ?_⟩
      refine again_ren (0) ⟨[(0, .str []), (3, .slice 0 0 4 1)], [some ⟨false, (q2 a b).map .u8⟩]⟩ [7] (by rw [← hj]; simp <;> omega) rfl (by simp) rfl (by decide) (by simp [slotsOk, St.get, lookS, -List.map_map, -List.map_set]) (by simp [q2, sgn, n1, n2, n3, -List.map_map, -List.map_set])
        ⟨[], q2 a b, by rw [List.nil_append] at hout; simpa [cbase] using hout, rfl, .inr ⟨by simp [q2], rfl⟩⟩
    | a :: b :: c :: r, hj, hout, hlen =>
      have hq : cbase (a :: b :: c :: r) = q3 a b c ++ cbase r := by simp [cbase]
      have hql : (q3 a b c).length = 4 := rfl
      rw [hq] at hout hlen
      rw [List.length_append] at hlen
      have l18 := sg_lt (n3 a b c) 18
      have l12 := sg_lt (n3 a b c) 12
      have l6 := sg_lt (n3 a b c) 6
      have l0 := sg_lt (n3 a b c) 0
      unfold n3 n2 n1 at l18 l12 l6 l0
      have h3 : ¬ ((r.length + 1 + 1 + 1 : Nat) : Int) < 3 := by omega
      have h3' : (3 : Int) ≤ ((r.length + 1 + 1 + 1 : Nat) : Int) := by omega
      have hb0 : (0 : Int) < ((r.length + 1 + 1 + 1 : Nat) : Int) := by omega
      have hb1 : (1 : Int) < ((r.length + 1 + 1 + 1 : Nat) : Int) := by omega
      have hb2 : (2 : Int) < ((r.length + 1 + 1 + 1 : Nat) : Int) := by omega
      simp only [go_sem, ↓reduceIte, Nat.reduceEqDiff, Nat.reduceLT, Nat.reduceLeDiff, Nat.reduceAdd, Nat.reduceSub, Nat.reduceMul, Nat.reduceMod, Nat.reduceDiv, Int.reduceLE, Int.reduceLT, Int.reduceToNat, Int.reduceAdd, Int.reduceSub, Int.reduceMul, Int.reduceEq, Int.reduceNeg, BitVec.reduceOfInt, BitVec.reduceToNat, BitVec.reduceEq, BitVec.reduceNe, BitVec.reduceLT, reduceCtorEq, List.forall_mem_nil, h3, h3', hb0, hb1, hb2, List.take_of_length_le]
      refine go_unroll 4 ?_
      simp only [go_sem, ↓reduceIte, Nat.reduceEqDiff, Nat.reduceLT, Nat.reduceLeDiff, Nat.reduceAdd, Nat.reduceSub, Nat.reduceMul, Nat.reduceMod, Nat.reduceDiv, Int.reduceLE, Int.reduceLT, Int.reduceToNat, Int.reduceAdd, Int.reduceSub, Int.reduceMul, Int.reduceEq, Int.reduceNeg, BitVec.reduceOfInt, BitVec.reduceToNat, BitVec.reduceEq, BitVec.reduceNe, BitVec.reduceLT, reduceCtorEq, List.forall_mem_nil, h3, h3', hb0, hb1, hb2, List.take_of_length_le]
      refine go_unroll 5 ?_
      simp only [go_sem, ↓reduceIte, Nat.reduceEqDiff, Nat.reduceLT, Nat.reduceLeDiff, Nat.reduceAdd, Nat.reduceSub, Nat.reduceMul, Nat.reduceMod, Nat.reduceDiv, Int.reduceLE, Int.reduceLT, Int.reduceToNat, Int.reduceAdd, Int.reduceSub, Int.reduceMul, Int.reduceEq, Int.reduceNeg, BitVec.reduceOfInt, BitVec.reduceToNat, BitVec.reduceEq, BitVec.reduceNe, BitVec.reduceLT, reduceCtorEq, List.forall_mem_nil, h3, h3', hb0, hb1, hb2, List.take_of_length_le, sign_str, signC_length]
      refine ⟨(by first | omega | exact ⟨by omega, by omega⟩ | exact ⟨by omega, by omega, by omega⟩), ?_⟩
      refine ⟨(by first | omega | exact ⟨by omega, by omega⟩ | exact ⟨by omega, by omega, by omega⟩), ?_⟩
      refine ⟨(by first | omega | exact ⟨by omega, by omega⟩ | exact ⟨by omega, by omega, by omega⟩), ?_⟩
      refine ⟨(by first | omega | exact ⟨by omega, by omega⟩ | exact ⟨by omega, by omega, by omega⟩), ?_⟩
      refine again_ren (r.length) ⟨[(0, .str r), (3, .slice 0 0 4 1)], [some ⟨false, (q3 a b c).map .u8⟩]⟩ [7] (by rw [← hj]; simp <;> omega) rfl (by simp) rfl (by decide) (by simp [slotsOk, St.get, lookS, -List.map_map, -List.map_set]) (by simp [q3, sgn, n1, n2, n3, -List.map_map, -List.map_set])
        ⟨r, q3 a b c, by rw [List.nil_append] at hout; exact hout, rfl, .inr ⟨by simp [q3], rfl⟩⟩
  · match r, hj, hout, hlen with
    | [], hj, hout, hlen =>
      rw [show cbase [] = [] by simp [cbase], List.append_nil] at hout
      rw [← hout]
      simp only [go_sem, ↓reduceIte, Nat.reduceEqDiff, Nat.reduceLT, Nat.reduceLeDiff, Nat.reduceAdd, Nat.reduceSub, Nat.reduceMul, Nat.reduceMod, Nat.reduceDiv, Int.reduceLE, Int.reduceLT, Int.reduceToNat, Int.reduceAdd, Int.reduceSub, Int.reduceMul, Int.reduceEq, Int.reduceNeg, BitVec.reduceOfInt, BitVec.reduceToNat, BitVec.reduceEq, BitVec.reduceNe, BitVec.reduceLT, reduceCtorEq, List.forall_mem_nil, List.take_of_length_le]
    | [a], hj, hout, hlen =>
      have hq : cbase ([a]) = q1 a := by simp [cbase]
      have hql : (q1 a).length = 4 := rfl
      rw [hq] at hout hlen
      have l18 := sg_lt (n1 a) 18
      have l12 := sg_lt (n1 a) 12
      unfold n1 at l18 l12
      simp only [go_sem, ↓reduceIte, Nat.reduceEqDiff, Nat.reduceLT, Nat.reduceLeDiff, Nat.reduceAdd, Nat.reduceSub, Nat.reduceMul, Nat.reduceMod, Nat.reduceDiv, Int.reduceLE, Int.reduceLT, Int.reduceToNat, Int.reduceAdd, Int.reduceSub, Int.reduceMul, Int.reduceEq, Int.reduceNeg, BitVec.reduceOfInt, BitVec.reduceToNat, BitVec.reduceEq, BitVec.reduceNe, BitVec.reduceLT, reduceCtorEq, List.forall_mem_nil, List.take_of_length_le]
      refine go_unroll 4 ?_
      simp only [go_sem, ↓reduceIte, Nat.reduceEqDiff, Nat.reduceLT, Nat.reduceLeDiff, Nat.reduceAdd, Nat.reduceSub, Nat.reduceMul, Nat.reduceMod, Nat.reduceDiv, Int.reduceLE, Int.reduceLT, Int.reduceToNat, Int.reduceAdd, Int.reduceSub, Int.reduceMul, Int.reduceEq, Int.reduceNeg, BitVec.reduceOfInt, BitVec.reduceToNat, BitVec.reduceEq, BitVec.reduceNe, BitVec.reduceLT, reduceCtorEq, List.forall_mem_nil, List.take_of_length_le]
      refine go_unroll 5 ?_
      simp only [go_sem, ↓reduceIte, Nat.reduceEqDiff, Nat.reduceLT, Nat.reduceLeDiff, Nat.reduceAdd, Nat.reduceSub, Nat.reduceMul, Nat.reduceMod, Nat.reduceDiv, Int.reduceLE, Int.reduceLT, Int.reduceToNat, Int.reduceAdd, Int.reduceSub, Int.reduceMul, Int.reduceEq, Int.reduceNeg, BitVec.reduceOfInt, BitVec.reduceToNat, BitVec.reduceEq, BitVec.reduceNe, BitVec.reduceLT, reduceCtorEq, List.forall_mem_nil, List.take_of_length_le, sign_str, signC_length]
      refine ⟨(by first | omega | exact ⟨by omega, by omega⟩ | exact ⟨by omega, by omega, by omega⟩), ?_⟩
      refine ⟨(by first | omega | exact ⟨by omega, by omega⟩ | exact ⟨by omega, by omega, by omega⟩), ?_⟩
      refine ⟨(by first | omega | exact ⟨by omega, by omega⟩ | exact ⟨by omega, by omega, by omega⟩), ?_⟩
      refine ⟨(by first | omega | exact ⟨by omega, by omega⟩ | exact ⟨by omega, by omega, by omega⟩), ?_⟩
      refine ⟨(by first | omega | exact ⟨by omega, by omega⟩ | exact ⟨by omega, by omega, by omega⟩), ?_⟩
      refine ⟨(by first | omega | exact ⟨by omega, by omega⟩ | exact ⟨by omega, by omega, by omega⟩), ?_⟩
      refine again_ren (0) ⟨[(0, .str []), (3, .slice 0 0 (out ++ q1 a).length 1)], [some ⟨false, (out ++ q1 a).map .u8⟩]⟩ [8] (by rw [← hj]; simp <;> omega) rfl (by simp) rfl (by decide) (by simp [slotsOk, St.get, lookS, q1, -List.map_map, -List.map_set]) (by simp [q1, sgn, n1, n2, n3, -List.map_map, -List.map_set])
        ⟨[], out ++ q1 a, by simpa [cbase] using hout, rfl, .inr ⟨by simp [q1], rfl⟩⟩
    | [a, b], hj, hout, hlen =>
      have hq : cbase ([a, b]) = q2 a b := by simp [cbase]
      have hql : (q2 a b).length = 4 := rfl
      rw [hq] at hout hlen
      have l18 := sg_lt (n2 a b) 18
      have l12 := sg_lt (n2 a b) 12
      have l6 := sg_lt (n2 a b) 6
      unfold n2 n1 at l18 l12 l6
      simp only [go_sem, ↓reduceIte, Nat.reduceEqDiff, Nat.reduceLT, Nat.reduceLeDiff, Nat.reduceAdd, Nat.reduceSub, Nat.reduceMul, Nat.reduceMod, Nat.reduceDiv, Int.reduceLE, Int.reduceLT, Int.reduceToNat, Int.reduceAdd, Int.reduceSub, Int.reduceMul, Int.reduceEq, Int.reduceNeg, BitVec.reduceOfInt, BitVec.reduceToNat, BitVec.reduceEq, BitVec.reduceNe, BitVec.reduceLT, reduceCtorEq, List.forall_mem_nil, List.take_of_length_le]
      refine go_unroll 4 ?_
      simp only [go_sem, ↓reduceIte, Nat.reduceEqDiff, Nat.reduceLT, Nat.reduceLeDiff, Nat.reduceAdd, Nat.reduceSub, Nat.reduceMul, Nat.reduceMod, Nat.reduceDiv, Int.reduceLE, Int.reduceLT, Int.reduceToNat, Int.reduceAdd, Int.reduceSub, Int.reduceMul, Int.reduceEq, Int.reduceNeg, BitVec.reduceOfInt, BitVec.reduceToNat, BitVec.reduceEq, BitVec.reduceNe, BitVec.reduceLT, reduceCtorEq, List.forall_mem_nil, List.take_of_length_le]
      refine go_unroll 5 ?_
      simp only [go_sem, ↓reduceIte, Nat.reduceEqDiff, Nat.reduceLT, Nat.reduceLeDiff, Nat.reduceAdd, Nat.reduceSub, Nat.reduceMul, Nat.reduceMod, Nat.reduceDiv, Int.reduceLE, Int.reduceLT, Int.reduceToNat, Int.reduceAdd, Int.reduceSub, Int.reduceMul, Int.reduceEq, Int.reduceNeg, BitVec.reduceOfInt, BitVec.reduceToNat, BitVec.reduceEq, BitVec.reduceNe, BitVec.reduceLT, reduceCtorEq, List.forall_mem_nil, List.take_of_length_le, sign_str, signC_length]
      refine ⟨(by first | omega | exact ⟨by omega, by omega⟩ | exact ⟨by omega, by omega, by omega⟩), ?_⟩
      refine ⟨(by first | omega | exact ⟨by omega, by omega⟩ | exact ⟨by omega, by omega, by omega⟩), ?_⟩
      refine ⟨(by first | omega | exact ⟨by omega, by omega⟩ | exact ⟨by omega, by omega, by omega⟩), ?_⟩
      refine ⟨(by first | omega | exact ⟨by omega, by omega⟩ | exact ⟨by omega, by omega, by omega⟩), ?_⟩
      refine ⟨(by first | omega | exact ⟨by omega, by omega⟩ | exact ⟨by omega, by omega, by omega⟩), ?_⟩
      refine ⟨(by first | omega | exact ⟨by omega, by omega⟩ | exact ⟨by omega, by omega, by omega⟩), ?_⟩
      refine ⟨(by first | omega | exact ⟨by omega, by omega⟩ | exact ⟨by omega, by omega, by omega⟩), ?_⟩
      refine again_ren (0) ⟨[(0, .str []), (3, .slice 0 0 (out ++ q2 a b).length 1)], [some ⟨false, (out ++ q2 a b).map .u8⟩]⟩ [8] (by rw [← hj]; simp <;> omega) rfl (by simp) rfl (by decide) (by simp [slotsOk, St.get, lookS, q2, -List.map_map, -List.map_set]) (by simp [q2, sgn, n1, n2, n3, -List.map_map, -List.map_set])
        ⟨[], out ++ q2 a b, by simpa [cbase] using hout, rfl, .inr ⟨by simp [q2], rfl⟩⟩
    | a :: b :: c :: r, hj, hout, hlen =>
      have hq : cbase (a :: b :: c :: r) = q3 a b c ++ cbase r := by simp [cbase]
      have hql : (q3 a b c).length = 4 := rfl
      rw [hq] at hout hlen
      rw [List.length_append] at hlen
      have l18 := sg_lt (n3 a b c) 18
      have l12 := sg_lt (n3 a b c) 12
      have l6 := sg_lt (n3 a b c) 6
      have l0 := sg_lt (n3 a b c) 0
      unfold n3 n2 n1 at l18 l12 l6 l0
      have h3 : ¬ ((r.length + 1 + 1 + 1 : Nat) : Int) < 3 := by omega
      have h3' : (3 : Int) ≤ ((r.length + 1 + 1 + 1 : Nat) : Int) := by omega
      have hb0 : (0 : Int) < ((r.length + 1 + 1 + 1 : Nat) : Int) := by omega
      have hb1 : (1 : Int) < ((r.length + 1 + 1 + 1 : Nat) : Int) := by omega
      have hb2 : (2 : Int) < ((r.length + 1 + 1 + 1 : Nat) : Int) := by omega
      simp only [go_sem, ↓reduceIte, Nat.reduceEqDiff, Nat.reduceLT, Nat.reduceLeDiff, Nat.reduceAdd, Nat.reduceSub, Nat.reduceMul, Nat.reduceMod, Nat.reduceDiv, Int.reduceLE, Int.reduceLT, Int.reduceToNat, Int.reduceAdd, Int.reduceSub, Int.reduceMul, Int.reduceEq, Int.reduceNeg, BitVec.reduceOfInt, BitVec.reduceToNat, BitVec.reduceEq, BitVec.reduceNe, BitVec.reduceLT, reduceCtorEq, List.forall_mem_nil, h3, h3', hb0, hb1, hb2, List.take_of_length_le]
      refine go_unroll 4 ?_
      simp only [go_sem, ↓reduceIte, Nat.reduceEqDiff, Nat.reduceLT, Nat.reduceLeDiff, Nat.reduceAdd, Nat.reduceSub, Nat.reduceMul, Nat.reduceMod, Nat.reduceDiv, Int.reduceLE, Int.reduceLT, Int.reduceToNat, Int.reduceAdd, Int.reduceSub, Int.reduceMul, Int.reduceEq, Int.reduceNeg, BitVec.reduceOfInt, BitVec.reduceToNat, BitVec.reduceEq, BitVec.reduceNe, BitVec.reduceLT, reduceCtorEq, List.forall_mem_nil, h3, h3', hb0, hb1, hb2, List.take_of_length_le]
      refine go_unroll 5 ?_
      simp only [go_sem, ↓reduceIte, Nat.reduceEqDiff, Nat.reduceLT, Nat.reduceLeDiff, Nat.reduceAdd, Nat.reduceSub, Nat.reduceMul, Nat.reduceMod, Nat.reduceDiv, Int.reduceLE, Int.reduceLT, Int.reduceToNat, Int.reduceAdd, Int.reduceSub, Int.reduceMul, Int.reduceEq, Int.reduceNeg, BitVec.reduceOfInt, BitVec.reduceToNat, BitVec.reduceEq, BitVec.reduceNe, BitVec.reduceLT, reduceCtorEq, List.forall_mem_nil, h3, h3', hb0, hb1, hb2, List.take_of_length_le, sign_str, signC_length]
      refine ⟨(by first | omega | exact ⟨by omega, by omega⟩ | exact ⟨by omega, by omega, by omega⟩), ?_⟩
      refine ⟨(by first | omega | exact ⟨by omega, by omega⟩ | exact ⟨by omega, by omega, by omega⟩), ?_⟩
      refine ⟨(by first | omega | exact ⟨by omega, by omega⟩ | exact ⟨by omega, by omega, by omega⟩), ?_⟩
      refine ⟨(by first | omega | exact ⟨by omega, by omega⟩ | exact ⟨by omega, by omega, by omega⟩), ?_⟩
      refine ⟨(by first | omega | exact ⟨by omega, by omega⟩ | exact ⟨by omega, by omega, by omega⟩), ?_⟩
      refine ⟨(by first | omega | exact ⟨by omega, by omega⟩ | exact ⟨by omega, by omega, by omega⟩), ?_⟩
      refine ⟨(by first | omega | exact ⟨by omega, by omega⟩ | exact ⟨by omega, by omega, by omega⟩), ?_⟩
      refine ⟨(by first | omega | exact ⟨by omega, by omega⟩ | exact ⟨by omega, by omega, by omega⟩), ?_⟩
      refine again_ren (r.length) ⟨[(0, .str r), (3, .slice 0 0 (out ++ q3 a b c).length 1)], [some ⟨false, (out ++ q3 a b c).map .u8⟩]⟩ [8] (by rw [← hj]; simp <;> omega) rfl (by simp) rfl (by decide) (by simp [slotsOk, St.get, lookS, q3, -List.map_map, -List.map_set]) (by simp [q3, sgn, n1, n2, n3, -List.map_map, -List.map_set])
        ⟨r, out ++ q3 a b c, by rw [List.append_assoc]; exact hout, rfl, .inr ⟨by simp [q3], rfl⟩⟩
end Go.Vm
end
section
namespace Go.Vm
open Go.Proofs
set_option maxRecDepth 20000
theorem six (m : BitVec 32) : (m &&& 63#32).toNat = 32 * (m.getLsbD 5).toNat + 16 * (m.getLsbD 4).toNat + 8 * (m.getLsbD 3).toNat + 4 * (m.getLsbD 2).toNat + 2 * (m.getLsbD 1).toNat + (m.getLsbD 0).toNat := by
  rw [BitVec.toNat_and, show (63#32).toNat = 2 ^ 6 - 1 from rfl, Nat.and_two_pow_sub_one_eq_mod]
  simp only [← BitVec.testBit_toNat]
  generalize m.toNat = x
  have key : ∀ k, (x.testBit k).toNat = x / 2 ^ k % 2 := by
    intro k
    rw [Nat.testBit_eq_decide_div_mod_eq]
    by_cases h : x / 2 ^ k % 2 = 1
    · simp [h]
    · simp [h]; omega
  simp only [key]
  omega
theorem val6 (x5 x4 x3 x2 x1 x0 : Bool) : valC [if x5 then 49#8 else 48#8, if x4 then 49#8 else 48#8, if x3 then 49#8 else 48#8, if x2 then 49#8 else 48#8, if x1 then 49#8 else 48#8, if x0 then 49#8 else 48#8] 6 = 32 * x5.toNat + 16 * x4.toNat + 8 * x3.toNat + 4 * x2.toNat + 2 * x1.toNat + x0.toNat := by
  cases x5 <;> cases x4 <;> cases x3 <;> cases x2 <;> cases x1 <;> cases x0 <;> rfl
theorem hi (b : BitVec 8) (k : Nat) (h : 8 ≤ k) : b.getLsbD k = false := BitVec.getLsbD_of_ge b k h
theorem s3a (a b c : BitVec 8) : valC [bitC a 7, bitC a 6, bitC a 5, bitC a 4, bitC a 3, bitC a 2] 6 = (n3 a b c >>> 18 &&& 63#32).toNat := by
  rw [six]
  unfold bitC
  rw [val6]
  simp [n3, n2, n1, BitVec.getLsbD_or, BitVec.getLsbD_shiftLeft, BitVec.getLsbD_setWidth, BitVec.getLsbD_ushiftRight, hi]
theorem s3b (a b c : BitVec 8) : valC [bitC a 1, bitC a 0, bitC b 7, bitC b 6, bitC b 5, bitC b 4] 6 = (n3 a b c >>> 12 &&& 63#32).toNat := by
  rw [six]
  unfold bitC
  rw [val6]
  simp [n3, n2, n1, BitVec.getLsbD_or, BitVec.getLsbD_shiftLeft, BitVec.getLsbD_setWidth, BitVec.getLsbD_ushiftRight, hi]
theorem s3c (a b c : BitVec 8) : valC [bitC b 3, bitC b 2, bitC b 1, bitC b 0, bitC c 7, bitC c 6] 6 = (n3 a b c >>> 6 &&& 63#32).toNat := by
  rw [six]
  unfold bitC
  rw [val6]
  simp [n3, n2, n1, BitVec.getLsbD_or, BitVec.getLsbD_shiftLeft, BitVec.getLsbD_setWidth, BitVec.getLsbD_ushiftRight, hi]
theorem s3d (a b c : BitVec 8) : valC [bitC c 5, bitC c 4, bitC c 3, bitC c 2, bitC c 1, bitC c 0] 6 = (n3 a b c >>> 0 &&& 63#32).toNat := by
  rw [six]
  unfold bitC
  rw [val6]
  simp [n3, n2, n1, BitVec.getLsbD_or, BitVec.getLsbD_shiftLeft, BitVec.getLsbD_setWidth, BitVec.getLsbD_ushiftRight, hi]
theorem s2a (a b : BitVec 8) : valC [bitC a 7, bitC a 6, bitC a 5, bitC a 4, bitC a 3, bitC a 2] 6 = (n2 a b >>> 18 &&& 63#32).toNat := by
  rw [six]
  unfold bitC
  rw [val6]
  simp [n3, n2, n1, BitVec.getLsbD_or, BitVec.getLsbD_shiftLeft, BitVec.getLsbD_setWidth, BitVec.getLsbD_ushiftRight, hi]
theorem s2b (a b : BitVec 8) : valC [bitC a 1, bitC a 0, bitC b 7, bitC b 6, bitC b 5, bitC b 4] 6 = (n2 a b >>> 12 &&& 63#32).toNat := by
  rw [six]
  unfold bitC
  rw [val6]
  simp [n3, n2, n1, BitVec.getLsbD_or, BitVec.getLsbD_shiftLeft, BitVec.getLsbD_setWidth, BitVec.getLsbD_ushiftRight, hi]
theorem s2c (a b : BitVec 8) : valC [bitC b 3, bitC b 2, bitC b 1, bitC b 0, 48#8, 48#8] 6 = (n2 a b >>> 6 &&& 63#32).toNat := by
  rw [six]
  unfold bitC
  have h := val6 (b.getLsbD 3) (b.getLsbD 2) (b.getLsbD 1) (b.getLsbD 0) false false
  simp only [Bool.false_eq_true, if_false] at h
  rw [h]
  simp [n3, n2, n1, BitVec.getLsbD_or, BitVec.getLsbD_shiftLeft, BitVec.getLsbD_setWidth, BitVec.getLsbD_ushiftRight, hi]
theorem s1a (a : BitVec 8) : valC [bitC a 7, bitC a 6, bitC a 5, bitC a 4, bitC a 3, bitC a 2] 6 = (n1 a >>> 18 &&& 63#32).toNat := by
  rw [six]
  unfold bitC
  rw [val6]
  simp [n3, n2, n1, BitVec.getLsbD_or, BitVec.getLsbD_shiftLeft, BitVec.getLsbD_setWidth, BitVec.getLsbD_ushiftRight, hi]
theorem s1b (a : BitVec 8) : valC [bitC a 1, bitC a 0, 48#8, 48#8, 48#8, 48#8] 6 = (n1 a >>> 12 &&& 63#32).toNat := by
  rw [six]
  unfold bitC
  have h := val6 (a.getLsbD 1) (a.getLsbD 0) false false false false
  simp only [Bool.false_eq_true, if_false] at h
  rw [h]
  simp [n3, n2, n1, BitVec.getLsbD_or, BitVec.getLsbD_shiftLeft, BitVec.getLsbD_setWidth, BitVec.getLsbD_ushiftRight, hi]
theorem grp_six (f : Nat) (x0 x1 x2 x3 x4 x5 : BitVec 8) (r : List (BitVec 8)) : grp (f + 1) (x0 :: x1 :: x2 :: x3 :: x4 :: x5 :: r) = signC.getD (valC [x0, x1, x2, x3, x4, x5] 6) 0 :: grp f r := by
  have hp : pad6 (x0 :: x1 :: x2 :: x3 :: x4 :: x5 :: r) = x0 :: x1 :: x2 :: x3 :: x4 :: x5 :: r := by
    unfold pad6
    rw [show 6 - (x0 :: x1 :: x2 :: x3 :: x4 :: x5 :: r).length = 0 by simp <;> omega]; simp
  rw [grp, if_neg (by simp), hp]; rfl
theorem grp_nil (f : Nat) : grp f [] = [] := by cases f <;> simp [grp]
theorem pad4_app (q r : List (BitVec 8)) (h : q.length = 4) : pad4 (q ++ r) = q ++ pad4 r := by
  unfold pad4
  rw [List.length_append, h, List.append_assoc, show (4 + r.length) % 4 = r.length % 4 by omega]
theorem same_base : ∀ (s : List (BitVec 8)) (f : Nat), 8 * s.length ≤ f → pad4 (grp f (bitsS s)) = cbase s
  | a :: b :: c :: r, f, hf => by
    obtain ⟨g, rfl⟩ : ∃ g, f = g + 1 + 1 + 1 + 1 := ⟨f - 4, by simp at hf; omega⟩
    have hb : bitsS (a :: b :: c :: r) = bits8 a ++ (bits8 b ++ (bits8 c ++ bitsS r)) := rfl
    rw [hb]
    unfold bits8
    simp only [List.cons_append, List.nil_append]
    rw [grp_six, grp_six, grp_six, grp_six, s3a a b c, s3b a b c, s3c a b c, s3d a b c, cbase]
    have hq : ∀ z, (signC.getD (n3 a b c >>> 18 &&& 63#32).toNat 0 :: signC.getD (n3 a b c >>> 12 &&& 63#32).toNat 0 :: signC.getD (n3 a b c >>> 6 &&& 63#32).toNat 0 :: signC.getD (n3 a b c >>> 0 &&& 63#32).toNat 0 :: z) = q3 a b c ++ z := fun z => rfl
    rw [hq, pad4_app _ _ rfl, same_base r g (by simp at hf; omega)]
  | [a, b], f, hf => by
    obtain ⟨g, rfl⟩ : ∃ g, f = g + 1 + 1 + 1 := ⟨f - 3, by simp at hf; omega⟩
    have hb : bitsS [a, b] = bits8 a ++ (bits8 b ++ []) := rfl
    rw [hb]
    unfold bits8
    simp only [List.cons_append, List.nil_append]
    rw [grp_six, grp_six]
    have hl : grp (g + 1) [bitC b 3, bitC b 2, bitC b 1, bitC b 0] = [signC.getD (valC [bitC b 3, bitC b 2, bitC b 1, bitC b 0, 48#8, 48#8] 6) 0] := by
      rw [grp, if_neg (by simp)]
      show _ :: grp g [] = _
      rw [grp_nil]; rfl
    rw [hl, s2a a b, s2b a b, s2c a b]
    simp [cbase, q2, sgn, pad4]
  | [a], f, hf => by
    obtain ⟨g, rfl⟩ : ∃ g, f = g + 1 + 1 := ⟨f - 2, by simp at hf; omega⟩
    have hb : bitsS [a] = bits8 a ++ [] := rfl
    rw [hb]
    unfold bits8
    simp only [List.cons_append, List.nil_append]
    rw [grp_six]
    have hl : grp (g + 1) [bitC a 1, bitC a 0] = [signC.getD (valC [bitC a 1, bitC a 0, 48#8, 48#8, 48#8, 48#8] 6) 0] := by
      rw [grp, if_neg (by simp)]
      show _ :: grp g [] = _
      rw [grp_nil]; rfl
    rw [hl, s1a a, s1b a]
    simp [cbase, q1, sgn, pad4]
  | [], f, hf => by
    rw [show bitsS [] = [] from rfl, grp_nil]
    simp [cbase, pad4]
theorem rbase_same (s : List (BitVec 8)) : rbase s = cbase s := same_base s _ (Nat.le_refl _)
end Go.Vm
end
